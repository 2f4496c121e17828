/- The document's Put: a name, shares, what is not known. -/
import Derived.Test.YtliblhfabnjpkaaM12
namespace Go.Proofs.Ytliblhfabnjpkaa
open Go Go.RowKit
namespace HE
def join2 (a b : Option BS) : Option BS := match a, b with | some r, some _ => some r | _, _ => none
theorem nameO_eq (d : BS) : nameO d = join2 (rs (text 2 d)) (endO (someO (rs ((if rn ((some (rv (text 2 d))).bind (num 1)) = 0 then rs ((some (rv (text 2 d))).bind (num 1)) else none).bind (text 2))) (rv ((if rn ((some (rv (text 2 d))).bind (num 1)) = 0 then rs ((some (rv (text 2 d))).bind (num 1)) else none).bind (text 2))))) := rfl
theorem rn_some {o : Option BS} {n : Nat} (h : rn (o.bind (num n)) ≠ 0) : ∃ r, rs (o.bind (num n)) = some r := by
  cases hq : o.bind (num n) with
  | none => rw [hq] at h; exact absurd rfl h
  | some p => exact ⟨p.2, rfl⟩
end HE
theorem PtW.outG {W w w' : World} {cs : Array Value} {o : Option HE.BS} {ex : Nat → Prop} (h : PtW W w cs o) (ho : Out ex w w') (h1 : ¬ ex W.heap.size) (h2 : ¬ ex (W.heap.size + 1)) (h3 : ¬ ex (W.heap.size + 1 + 1)) (hb : ∀ k, ex k → W.heap.size ≤ k) : PtW W w' cs o :=
  ⟨ho.get h.hH h1, ho.get h.hR h2, h.hP.out ho h3, h.below.trans (ho.below hb h.below.size)⟩
attribute [local go_sem ↓] exl_Hello exs_Hello
                                                                                            attribute [local go_sem] ldr_Hello str_Hello
section
variable {w : World} {h : Hel} {vS vV vG vC vH vO : Value}
set_option maxRecDepth 100000 in
set_option maxHeartbeats 4000000 in
theorem rput_name (hr : HRd w h vS vV vG vC vH vO) (d : HE.BS) (hd : d.length ≤ 1000000) :
    Calls Try.prog 63 #[.agg (helCells h vS vV vG vC vH vO), .int .u16 0, .string ⟨d.toArray⟩] w (PutV w h vS vV vG vC vH vO (HE.put h 0 d)) := by
  have hpo := HE.put_opt (h := h) (k := 0) (d := d) (HE.name d) (fun l => { h with name := l }) rfl
  obtain ⟨hn1, hn2⟩ := HE.name_state d
  rw [← hn1] at hpo
  have hno := HE.nameO_eq d
  have HPO := hid hpo
  clear hpo hn1
  generalize HE.nameO d = oF at *
  obtain ⟨aS, cS, rfl⟩ := hr.s.sl
  obtain ⟨aV, cV, rfl⟩ := hr.v.sl
  obtain ⟨aG, cG, rfl⟩ := hr.g.sl
  obtain ⟨aC, cC, rfl⟩ := hr.c.sl
  obtain ⟨aH, cH, rfl⟩ := hr.sh.sl
  obtain ⟨aO, cO, rfl⟩ := hr.o.sl
  have HR := hid hr
  have hA := PtW.start w (helCells h (.slice aS h.suites.length cS) (.slice aV h.versions.length cV) (.slice aG h.groups.length cG) (.slice aC h.schemes.length cC) (.slice aH h.shares.length cH) (.slice aO h.others.length cO)) d hd
  unfold helCells zcells at hA
  unfold helCells
  have HA := hid hA
  clear hr hA
  go_enter Try.func63, Try.ntmps63
  go_upto_region 2 with (fail)
  generalize ((w.alloc (.cells #[.string ⟨h.random.toArray⟩, .string ⟨h.session.toArray⟩, .slice aS h.suites.length cS, .slice aV h.versions.length cV, .slice aG h.groups.length cG, .slice aC h.schemes.length cC, .slice aH h.shares.length cH, .bool h.shared, .string ⟨h.cookie.toArray⟩, .string ⟨h.name.toArray⟩, .bool h.early, .slice aO h.others.length cO] 38)).alloc (.cells #[.string ⟨#[]⟩, .string ⟨#[]⟩, .slice none 0 0, .slice none 0 0, .slice none 0 0, .slice none 0 0, .slice none 0 0, .bool false, .string ⟨#[]⟩, .string ⟨#[]⟩, .bool false, .slice none 0 0] 38)).alloc (.cells #[.string ⟨d.toArray⟩, .int .i64 0] 83) = wA at *
  have hsl := HE.text_le (n := 2) hd
  have hnm := rlist_t HA.out.hP 2 (by omega)
  unfold TGives at hnm
  rw [Option.bind_some] at hnm
  generalize HE.rv (HE.text 2 d) = s at *
  generalize HE.rs (HE.text 2 d) = o1 at *
  have HN := hid hnm
  clear hnm
  go_wp2_with fail
  refine HN.out.mono ?_
  rintro e w4 ⟨ho, rfl, hp4⟩
  have hA4 := HA.out.out ho hp4
  have hbq := below_new (w := w4) (.cells #[.string ⟨s.toArray⟩, .int .i64 0] 83)
  have hq : TS (w4.alloc (.cells #[.string ⟨s.toArray⟩, .int .i64 0] 83)) w4.heap.size (some s) := ⟨alloc_at _ _, hsl⟩
  have H4 := hid (hA4.new hbq)
  have hQ := hA4.lt
  have hnq := rnum_t hq 1 (by omega)
  unfold TGives at hnq
  obtain ⟨Q, hQe⟩ : ∃ Q, w4.heap.size = Q := ⟨_, rfl⟩
  rw [hQe] at hQ hnq
  have HQE := hid hQe
  have HNQ := hid hnq
  have HNO := hid hno
  have HNV := hid hn2
  clear hA4 hbq hq hnq HN HA ho hp4 hno hn2 hQe
  go_wp2_with fail
  rw [HQE.out]
  refine HNQ.out.mono ?_
  rintro e w5 ⟨ho5, rfl, hq5⟩
  by_cases hx : HE.rn ((some s).bind (HE.num 1)) = 0
  · rw [if_pos hx] at HNO HNV
    rw [hx]
    generalize HE.rs ((some s).bind (HE.num 1)) = o2 at *
    have hq5' := hq5
    cases o2 with
    | none =>
      obtain ⟨sQ, hgQ, -⟩ := hq5'
      have cQ5 : w5.cell? ⟨Q, 1, none⟩ = some (.int .i64 270) := cell_at hgQ 1
      clear hgQ hx HNQ
      go_wp2_with fail
      have H5 := hid (H4.out.outG ho5 (by omega) (by omega) (by omega) (fun k e => by omega))
      have hlq := rlist_t hq5 2 (by omega)
      unfold TGives at hlq
      have HLQ := hid hlq
      clear ho5 hq5 hlq
      go_wp2_with fail
      refine HLQ.out.mono ?_
      rintro e w6 ⟨ho6, rfl, hq6⟩
      have H6 := hid (H5.out.outG ho6 (by omega) (by omega) (by omega) (fun k e => by omega))
      generalize hK : HE.rv (none.bind (HE.text 2)) = K at *
      generalize HE.rs (none.bind (HE.text 2)) = o4 at *
      have hsq := rsome_t hq6 K
      unfold TGives at hsq
      have HSQ := hid hsq
      clear ho6 hq6 hsq HLQ
      go_wp2_with fail
      refine HSQ.out.mono ?_
      rintro e w7 ⟨ho7, rfl, hq7⟩
      have H7 := hid (H6.out.outG ho7 (by omega) (by omega) (by omega) (fun k e => by omega))
      have hH7 := H7.out.hH
      have cH7 : w7.cell? ⟨w.heap.size, 9, none⟩ = some _ := cell_at hH7 9
      have fH7 := free_at hH7
      obtain ⟨KB, hKB⟩ : ∃ KB, (⟨K.toArray⟩ : ByteArray) = KB := ⟨_, rfl⟩
      rw [hKB]
      have hset := H7.out.set 9 (.string KB)
      simp only [List.setIfInBounds_toArray, List.set_cons_zero, List.set_cons_succ] at hset
      have hqs := hq7.out (Out.setCell (p := ⟨w.heap.size, 9, none⟩) (Out.refl (· = w.heap.size) w7) (.inl rfl) (.string KB)) (show ¬ Q = w.heap.size by omega)
      have hnq := rends_t hqs
      have HNQ := hid hnq
      have HT := hid hset
      clear hset hnq hqs hH7 H7 H6 H5 H4 HSQ ho7 hq7
      generalize HE.someO o4 K = o5 at *
      go_wp2_with fail
      refine HNQ.out.mono ?_
      rintro e w8 ⟨ho8, rfl, hq8⟩
      have H8 := hid (HT.out.outG ho8 (by omega) (by omega) (by omega) (fun k e => by omega))
      have HQ8 := hid hq8
      clear HNQ HT ho8 hq8
      generalize HE.endO o5 = o6 at *
      have hP8 := H8.out.hP
      cases o1 with
      | none =>
        obtain ⟨sP, hgP, -⟩ := hP8
        have cP : w8.cell? ⟨w.heap.size + 1 + 1, 1, none⟩ = some (.int .i64 270) := cell_at hgP 1
        have hen := rends_t H8.out.hP
        rw [show HE.endO none = HE.endO oF by rw [HNO.out]; rfl] at hen
        have HT := hid H8.out
        have HEN := hid hen
        clear hen H8 hgP
        go_wp2_with fail
        refine HEN.out.mono ?_
        rintro e w7 ⟨ho, rfl, hp7⟩
        have HT7 := hid (HT.out.out ho hp7)
        have HO7 := hid ho
        clear HEN HT hp7 ho
        go_upto_region 29 with (fail)
        have jH : ∀ x : LaterO (w.heap.size + 1) w7, hget x.w' w.heap.size = some (.cells #[.string ⟨h.random.toArray⟩, .string ⟨h.session.toArray⟩, .slice aS h.suites.length cS, .slice aV h.versions.length cV, .slice aG h.groups.length cG, .slice aC h.schemes.length cC, .slice aH h.shares.length cH, .bool h.shared, .string ⟨h.cookie.toArray⟩, .string KB, .bool h.early, .slice aO h.others.length cO] 38 (0, 0)) := fun x => x.h.get HT7.out.hH (by simp)
        rcases HPO.out with ⟨hen, hpu⟩ | ⟨x, hx, hen, hpu⟩
        · have HPU := hid hpu
          clear hpu hKB hK
          obtain ⟨sP, hgP, -⟩ : TS w7 (w.heap.size + 1 + 1) none := by have := HT7.out.hP; rw [hen] at this; exact this
          have jE : ∀ x : LaterO (w.heap.size + 1) w7, x.w'.cell? ⟨w.heap.size + 1 + 1, 1, none⟩ = some (.int .i64 270) := fun x => cell_at (x.h.get hgP (by simp)) 1
          have hR7 := HT7.out.hR
          unfold zcells at hR7
          clear hgP hen
          refine wp_region_old (w.heap.size + 1) 5 (#[.string ⟨#[]⟩, .string ⟨#[]⟩, .slice none 0 0, .slice none 0 0, .slice none 0 0, .slice none 0 0, .slice none 0 0, .bool false, .string ⟨#[]⟩, .string ⟨#[]⟩, .bool false, .slice none 0 0]) (#[.string ⟨h.random.toArray⟩, .string ⟨h.session.toArray⟩, .slice aS h.suites.length cS, .slice aV h.versions.length cV, .slice aG h.groups.length cG, .slice aC h.schemes.length cC, .slice aH h.shares.length cH, .bool h.shared, .string ⟨h.cookie.toArray⟩, .string KB, .bool h.early, .slice aO h.others.length cO]) (38) (by kernel_rfl) (by kernel_rfl) (by first | assumption | go_simp) (by kernel_rfl) (by decide) (fun hsep => ?_)
          have HSEP := hid hsep
          clear hsep
          repeat (first | (refine wpO_plain HSEP.out (by kernel_rfl) (by rfl) (fun K hK => ?_); go_simp; refine hK _ ?_; clear hK K; try go_ints) | (refine wpO_store HSEP.out (by rfl) (by rfl) (by kernel_rfl) (fun K hK => ⟨fun x cs hcs hx => (by clear hK HSEP; rcases hcs with hcs | hcs <;> (rw [hcs] at hx; clear hcs; go_simp; done)), hK _ ?_⟩); clear hK K; try go_ints))
          refine wpGho_nil ?_
          intro wO oO gO
          clear HSEP
          go_wp2_with fail
          refine bodyPost_ret (v := .tuple #[.agg (#[.string ⟨h.random.toArray⟩, .string ⟨h.session.toArray⟩, .slice aS h.suites.length cS, .slice aV h.versions.length cV, .slice aG h.groups.length cG, .slice aC h.schemes.length cC, .slice aH h.shares.length cH, .bool h.shared, .string ⟨h.cookie.toArray⟩, .string KB, .bool h.early, .slice aO h.others.length cO]), .int .i64 270]) (results_cell_tmp Try.results63 _ _ (w.heap.size + 1) 38 (#[.string ⟨h.random.toArray⟩, .string ⟨h.session.toArray⟩, .slice aS h.suites.length cS, .slice aV h.versions.length cV, .slice aG h.groups.length cG, .slice aC h.schemes.length cC, .slice aH h.shares.length cH, .bool h.shared, .string ⟨h.cookie.toArray⟩, .string KB, .bool h.early, .slice aO h.others.length cO]) (0, 0) _ (.int .i64 270) (by rfl) (by rfl) (by rw [← hget_eq]; go_simp) Try.underlying38 rfl (by rw [info_Hello]; go_simp)) rfl ?_
          exact PutV.bad (HT7.out.below.trans (oO.below (fun e he => by rw [he]; omega) HT7.out.below.size)) HPU.out rfl rfl rfl (by decide)
        · obtain rfl : x = K := (HNV.out _ hx).symm
          have HPU := hid hpu
          have HKB := hid hKB
          clear hpu hx hKB hK
          obtain ⟨hgP, -⟩ : TS w7 (w.heap.size + 1 + 1) (some []) := by have := HT7.out.hP; rw [hen] at this; exact this
          have jE : ∀ x : LaterO (w.heap.size + 1) w7, x.w'.cell? ⟨w.heap.size + 1 + 1, 1, none⟩ = some (.int .i64 0) := fun x => cell_at (x.h.get hgP (by simp)) 1
          have hR7 := HT7.out.hR
          unfold zcells at hR7
          clear hgP hen
          refine wp_region_old (w.heap.size + 1) 5 (#[.string ⟨#[]⟩, .string ⟨#[]⟩, .slice none 0 0, .slice none 0 0, .slice none 0 0, .slice none 0 0, .slice none 0 0, .bool false, .string ⟨#[]⟩, .string ⟨#[]⟩, .bool false, .slice none 0 0]) (#[.string ⟨h.random.toArray⟩, .string ⟨h.session.toArray⟩, .slice aS h.suites.length cS, .slice aV h.versions.length cV, .slice aG h.groups.length cG, .slice aC h.schemes.length cC, .slice aH h.shares.length cH, .bool h.shared, .string ⟨h.cookie.toArray⟩, .string KB, .bool h.early, .slice aO h.others.length cO]) (38) (by kernel_rfl) (by kernel_rfl) (by first | assumption | go_simp) (by kernel_rfl) (by decide) (fun hsep => ?_)
          have HSEP := hid hsep
          clear hsep
          repeat (first | (refine wpO_plain HSEP.out (by kernel_rfl) (by rfl) (fun K hK => ?_); go_simp; refine hK _ ?_; clear hK K; try go_ints) | (refine wpO_store HSEP.out (by rfl) (by rfl) (by kernel_rfl) (fun K hK => ⟨fun x cs hcs hx => (by clear hK HSEP; rcases hcs with hcs | hcs <;> (rw [hcs] at hx; clear hcs; go_simp; done)), hK _ ?_⟩); clear hK K; try go_ints))
          refine wpGho_nil ?_
          intro wO oO gO
          clear HSEP
          go_wp2_with fail
          refine bodyPost_ret (v := .tuple #[.agg (#[.string ⟨h.random.toArray⟩, .string ⟨h.session.toArray⟩, .slice aS h.suites.length cS, .slice aV h.versions.length cV, .slice aG h.groups.length cG, .slice aC h.schemes.length cC, .slice aH h.shares.length cH, .bool h.shared, .string ⟨h.cookie.toArray⟩, .string KB, .bool h.early, .slice aO h.others.length cO]), .int .i64 0]) (results_cell_tmp Try.results63 _ _ (w.heap.size + 1) 38 (#[.string ⟨h.random.toArray⟩, .string ⟨h.session.toArray⟩, .slice aS h.suites.length cS, .slice aV h.versions.length cV, .slice aG h.groups.length cG, .slice aC h.schemes.length cC, .slice aH h.shares.length cH, .bool h.shared, .string ⟨h.cookie.toArray⟩, .string KB, .bool h.early, .slice aO h.others.length cO]) (0, 0) _ (.int .i64 0) (by rfl) (by rfl) (by rw [← hget_eq]; go_simp) Try.underlying38 rfl (by rw [info_Hello]; go_simp)) rfl ?_
          have hbO := HT7.out.below.trans (oO.below (fun e he => by rw [he]; omega) HT7.out.below.size)
          have hrO := HR.out.keep hbO
          refine PutV.good (g := { h with name := x }) hbO HPU.out ?_ ⟨hrO.s, hrO.v, hrO.g, hrO.c, hrO.sh, hrO.o, hrO.ls, hrO.lv, hrO.lg, hrO.lc, hrO.lh⟩ (fun _ _ hf => ⟨hf.s, hf.v, hf.g, hf.c, hf.sh, hf.o⟩)
          rw [← HKB.out]; rfl
      | some rP =>
        obtain ⟨hgP, hlP⟩ := hP8
        have cP : w8.cell? ⟨w.heap.size + 1 + 1, 1, none⟩ = some (.int .i64 0) := cell_at hgP 1
        have fP := free_at hgP
        have hQ8 := HQ8.out
        cases o6 with
        | none =>
          obtain ⟨sQ, hgQ, -⟩ := hQ8
          have cQ : w8.cell? ⟨Q, 1, none⟩ = some (.int .i64 270) := cell_at hgQ 1
          have hoe : Out (· = w.heap.size + 1 + 1) w8 (w8.setCell ⟨w.heap.size + 1 + 1, 1, none⟩ (.int .i64 270)) := Out.setCell (Out.refl (· = w.heap.size + 1 + 1) w8) (.inl rfl) _
          have hT := H8.out.out hoe (o' := none) ⟨rP, hget_setCell hgP 1 _, hlP⟩
          have hen := rends_t hT.hP
          rw [show HE.endO none = HE.endO oF by rw [HNO.out]; rfl] at hen
          have HT := hid hT
          have HEN := hid hen
          clear hen H8 hgP hgQ hoe hT
          go_wp2_with fail
          refine HEN.out.mono ?_
          rintro e w7 ⟨ho, rfl, hp7⟩
          have HT7 := hid (HT.out.out ho hp7)
          have HO7 := hid ho
          clear HEN HT hp7 ho
          go_upto_region 29 with (fail)
          have jH : ∀ x : LaterO (w.heap.size + 1) w7, hget x.w' w.heap.size = some (.cells #[.string ⟨h.random.toArray⟩, .string ⟨h.session.toArray⟩, .slice aS h.suites.length cS, .slice aV h.versions.length cV, .slice aG h.groups.length cG, .slice aC h.schemes.length cC, .slice aH h.shares.length cH, .bool h.shared, .string ⟨h.cookie.toArray⟩, .string KB, .bool h.early, .slice aO h.others.length cO] 38 (0, 0)) := fun x => x.h.get HT7.out.hH (by simp)
          rcases HPO.out with ⟨hen, hpu⟩ | ⟨x, hx, hen, hpu⟩
          · have HPU := hid hpu
            clear hpu hKB hK
            obtain ⟨sP, hgP, -⟩ : TS w7 (w.heap.size + 1 + 1) none := by have := HT7.out.hP; rw [hen] at this; exact this
            have jE : ∀ x : LaterO (w.heap.size + 1) w7, x.w'.cell? ⟨w.heap.size + 1 + 1, 1, none⟩ = some (.int .i64 270) := fun x => cell_at (x.h.get hgP (by simp)) 1
            have hR7 := HT7.out.hR
            unfold zcells at hR7
            clear hgP hen
            refine wp_region_old (w.heap.size + 1) 5 (#[.string ⟨#[]⟩, .string ⟨#[]⟩, .slice none 0 0, .slice none 0 0, .slice none 0 0, .slice none 0 0, .slice none 0 0, .bool false, .string ⟨#[]⟩, .string ⟨#[]⟩, .bool false, .slice none 0 0]) (#[.string ⟨h.random.toArray⟩, .string ⟨h.session.toArray⟩, .slice aS h.suites.length cS, .slice aV h.versions.length cV, .slice aG h.groups.length cG, .slice aC h.schemes.length cC, .slice aH h.shares.length cH, .bool h.shared, .string ⟨h.cookie.toArray⟩, .string KB, .bool h.early, .slice aO h.others.length cO]) (38) (by kernel_rfl) (by kernel_rfl) (by first | assumption | go_simp) (by kernel_rfl) (by decide) (fun hsep => ?_)
            have HSEP := hid hsep
            clear hsep
            repeat (first | (refine wpO_plain HSEP.out (by kernel_rfl) (by rfl) (fun K hK => ?_); go_simp; refine hK _ ?_; clear hK K; try go_ints) | (refine wpO_store HSEP.out (by rfl) (by rfl) (by kernel_rfl) (fun K hK => ⟨fun x cs hcs hx => (by clear hK HSEP; rcases hcs with hcs | hcs <;> (rw [hcs] at hx; clear hcs; go_simp; done)), hK _ ?_⟩); clear hK K; try go_ints))
            refine wpGho_nil ?_
            intro wO oO gO
            clear HSEP
            go_wp2_with fail
            refine bodyPost_ret (v := .tuple #[.agg (#[.string ⟨h.random.toArray⟩, .string ⟨h.session.toArray⟩, .slice aS h.suites.length cS, .slice aV h.versions.length cV, .slice aG h.groups.length cG, .slice aC h.schemes.length cC, .slice aH h.shares.length cH, .bool h.shared, .string ⟨h.cookie.toArray⟩, .string KB, .bool h.early, .slice aO h.others.length cO]), .int .i64 270]) (results_cell_tmp Try.results63 _ _ (w.heap.size + 1) 38 (#[.string ⟨h.random.toArray⟩, .string ⟨h.session.toArray⟩, .slice aS h.suites.length cS, .slice aV h.versions.length cV, .slice aG h.groups.length cG, .slice aC h.schemes.length cC, .slice aH h.shares.length cH, .bool h.shared, .string ⟨h.cookie.toArray⟩, .string KB, .bool h.early, .slice aO h.others.length cO]) (0, 0) _ (.int .i64 270) (by rfl) (by rfl) (by rw [← hget_eq]; go_simp) Try.underlying38 rfl (by rw [info_Hello]; go_simp)) rfl ?_
            exact PutV.bad (HT7.out.below.trans (oO.below (fun e he => by rw [he]; omega) HT7.out.below.size)) HPU.out rfl rfl rfl (by decide)
          · obtain rfl : x = K := (HNV.out _ hx).symm
            have HPU := hid hpu
            have HKB := hid hKB
            clear hpu hx hKB hK
            obtain ⟨hgP, -⟩ : TS w7 (w.heap.size + 1 + 1) (some []) := by have := HT7.out.hP; rw [hen] at this; exact this
            have jE : ∀ x : LaterO (w.heap.size + 1) w7, x.w'.cell? ⟨w.heap.size + 1 + 1, 1, none⟩ = some (.int .i64 0) := fun x => cell_at (x.h.get hgP (by simp)) 1
            have hR7 := HT7.out.hR
            unfold zcells at hR7
            clear hgP hen
            refine wp_region_old (w.heap.size + 1) 5 (#[.string ⟨#[]⟩, .string ⟨#[]⟩, .slice none 0 0, .slice none 0 0, .slice none 0 0, .slice none 0 0, .slice none 0 0, .bool false, .string ⟨#[]⟩, .string ⟨#[]⟩, .bool false, .slice none 0 0]) (#[.string ⟨h.random.toArray⟩, .string ⟨h.session.toArray⟩, .slice aS h.suites.length cS, .slice aV h.versions.length cV, .slice aG h.groups.length cG, .slice aC h.schemes.length cC, .slice aH h.shares.length cH, .bool h.shared, .string ⟨h.cookie.toArray⟩, .string KB, .bool h.early, .slice aO h.others.length cO]) (38) (by kernel_rfl) (by kernel_rfl) (by first | assumption | go_simp) (by kernel_rfl) (by decide) (fun hsep => ?_)
            have HSEP := hid hsep
            clear hsep
            repeat (first | (refine wpO_plain HSEP.out (by kernel_rfl) (by rfl) (fun K hK => ?_); go_simp; refine hK _ ?_; clear hK K; try go_ints) | (refine wpO_store HSEP.out (by rfl) (by rfl) (by kernel_rfl) (fun K hK => ⟨fun x cs hcs hx => (by clear hK HSEP; rcases hcs with hcs | hcs <;> (rw [hcs] at hx; clear hcs; go_simp; done)), hK _ ?_⟩); clear hK K; try go_ints))
            refine wpGho_nil ?_
            intro wO oO gO
            clear HSEP
            go_wp2_with fail
            refine bodyPost_ret (v := .tuple #[.agg (#[.string ⟨h.random.toArray⟩, .string ⟨h.session.toArray⟩, .slice aS h.suites.length cS, .slice aV h.versions.length cV, .slice aG h.groups.length cG, .slice aC h.schemes.length cC, .slice aH h.shares.length cH, .bool h.shared, .string ⟨h.cookie.toArray⟩, .string KB, .bool h.early, .slice aO h.others.length cO]), .int .i64 0]) (results_cell_tmp Try.results63 _ _ (w.heap.size + 1) 38 (#[.string ⟨h.random.toArray⟩, .string ⟨h.session.toArray⟩, .slice aS h.suites.length cS, .slice aV h.versions.length cV, .slice aG h.groups.length cG, .slice aC h.schemes.length cC, .slice aH h.shares.length cH, .bool h.shared, .string ⟨h.cookie.toArray⟩, .string KB, .bool h.early, .slice aO h.others.length cO]) (0, 0) _ (.int .i64 0) (by rfl) (by rfl) (by rw [← hget_eq]; go_simp) Try.underlying38 rfl (by rw [info_Hello]; go_simp)) rfl ?_
            have hbO := HT7.out.below.trans (oO.below (fun e he => by rw [he]; omega) HT7.out.below.size)
            have hrO := HR.out.keep hbO
            refine PutV.good (g := { h with name := x }) hbO HPU.out ?_ ⟨hrO.s, hrO.v, hrO.g, hrO.c, hrO.sh, hrO.o, hrO.ls, hrO.lv, hrO.lg, hrO.lc, hrO.lh⟩ (fun _ _ hf => ⟨hf.s, hf.v, hf.g, hf.c, hf.sh, hf.o⟩)
            rw [← HKB.out]; rfl
        | some yQ =>
          obtain ⟨hgQ, -⟩ := hQ8
          have cQ : w8.cell? ⟨Q, 1, none⟩ = some (.int .i64 0) := cell_at hgQ 1
          have hoe : Out (· = w.heap.size + 1 + 1) w8 (w8.setCell ⟨w.heap.size + 1 + 1, 1, none⟩ (.int .i64 0)) := Out.setCell (Out.refl (· = w.heap.size + 1 + 1) w8) (.inl rfl) _
          have hT := H8.out.out hoe (o' := some rP) ⟨hget_setCell hgP 1 _, hlP⟩
          have hen := rends_t hT.hP
          rw [show HE.endO (some rP) = HE.endO oF by rw [HNO.out]; rfl] at hen
          have HT := hid hT
          have HEN := hid hen
          clear hen H8 hgP hgQ hoe hT
          go_wp2_with fail
          refine HEN.out.mono ?_
          rintro e w7 ⟨ho, rfl, hp7⟩
          have HT7 := hid (HT.out.out ho hp7)
          have HO7 := hid ho
          clear HEN HT hp7 ho
          go_upto_region 29 with (fail)
          have jH : ∀ x : LaterO (w.heap.size + 1) w7, hget x.w' w.heap.size = some (.cells #[.string ⟨h.random.toArray⟩, .string ⟨h.session.toArray⟩, .slice aS h.suites.length cS, .slice aV h.versions.length cV, .slice aG h.groups.length cG, .slice aC h.schemes.length cC, .slice aH h.shares.length cH, .bool h.shared, .string ⟨h.cookie.toArray⟩, .string KB, .bool h.early, .slice aO h.others.length cO] 38 (0, 0)) := fun x => x.h.get HT7.out.hH (by simp)
          rcases HPO.out with ⟨hen, hpu⟩ | ⟨x, hx, hen, hpu⟩
          · have HPU := hid hpu
            clear hpu hKB hK
            obtain ⟨sP, hgP, -⟩ : TS w7 (w.heap.size + 1 + 1) none := by have := HT7.out.hP; rw [hen] at this; exact this
            have jE : ∀ x : LaterO (w.heap.size + 1) w7, x.w'.cell? ⟨w.heap.size + 1 + 1, 1, none⟩ = some (.int .i64 270) := fun x => cell_at (x.h.get hgP (by simp)) 1
            have hR7 := HT7.out.hR
            unfold zcells at hR7
            clear hgP hen
            refine wp_region_old (w.heap.size + 1) 5 (#[.string ⟨#[]⟩, .string ⟨#[]⟩, .slice none 0 0, .slice none 0 0, .slice none 0 0, .slice none 0 0, .slice none 0 0, .bool false, .string ⟨#[]⟩, .string ⟨#[]⟩, .bool false, .slice none 0 0]) (#[.string ⟨h.random.toArray⟩, .string ⟨h.session.toArray⟩, .slice aS h.suites.length cS, .slice aV h.versions.length cV, .slice aG h.groups.length cG, .slice aC h.schemes.length cC, .slice aH h.shares.length cH, .bool h.shared, .string ⟨h.cookie.toArray⟩, .string KB, .bool h.early, .slice aO h.others.length cO]) (38) (by kernel_rfl) (by kernel_rfl) (by first | assumption | go_simp) (by kernel_rfl) (by decide) (fun hsep => ?_)
            have HSEP := hid hsep
            clear hsep
            repeat (first | (refine wpO_plain HSEP.out (by kernel_rfl) (by rfl) (fun K hK => ?_); go_simp; refine hK _ ?_; clear hK K; try go_ints) | (refine wpO_store HSEP.out (by rfl) (by rfl) (by kernel_rfl) (fun K hK => ⟨fun x cs hcs hx => (by clear hK HSEP; rcases hcs with hcs | hcs <;> (rw [hcs] at hx; clear hcs; go_simp; done)), hK _ ?_⟩); clear hK K; try go_ints))
            refine wpGho_nil ?_
            intro wO oO gO
            clear HSEP
            go_wp2_with fail
            refine bodyPost_ret (v := .tuple #[.agg (#[.string ⟨h.random.toArray⟩, .string ⟨h.session.toArray⟩, .slice aS h.suites.length cS, .slice aV h.versions.length cV, .slice aG h.groups.length cG, .slice aC h.schemes.length cC, .slice aH h.shares.length cH, .bool h.shared, .string ⟨h.cookie.toArray⟩, .string KB, .bool h.early, .slice aO h.others.length cO]), .int .i64 270]) (results_cell_tmp Try.results63 _ _ (w.heap.size + 1) 38 (#[.string ⟨h.random.toArray⟩, .string ⟨h.session.toArray⟩, .slice aS h.suites.length cS, .slice aV h.versions.length cV, .slice aG h.groups.length cG, .slice aC h.schemes.length cC, .slice aH h.shares.length cH, .bool h.shared, .string ⟨h.cookie.toArray⟩, .string KB, .bool h.early, .slice aO h.others.length cO]) (0, 0) _ (.int .i64 270) (by rfl) (by rfl) (by rw [← hget_eq]; go_simp) Try.underlying38 rfl (by rw [info_Hello]; go_simp)) rfl ?_
            exact PutV.bad (HT7.out.below.trans (oO.below (fun e he => by rw [he]; omega) HT7.out.below.size)) HPU.out rfl rfl rfl (by decide)
          · obtain rfl : x = K := (HNV.out _ hx).symm
            have HPU := hid hpu
            have HKB := hid hKB
            clear hpu hx hKB hK
            obtain ⟨hgP, -⟩ : TS w7 (w.heap.size + 1 + 1) (some []) := by have := HT7.out.hP; rw [hen] at this; exact this
            have jE : ∀ x : LaterO (w.heap.size + 1) w7, x.w'.cell? ⟨w.heap.size + 1 + 1, 1, none⟩ = some (.int .i64 0) := fun x => cell_at (x.h.get hgP (by simp)) 1
            have hR7 := HT7.out.hR
            unfold zcells at hR7
            clear hgP hen
            refine wp_region_old (w.heap.size + 1) 5 (#[.string ⟨#[]⟩, .string ⟨#[]⟩, .slice none 0 0, .slice none 0 0, .slice none 0 0, .slice none 0 0, .slice none 0 0, .bool false, .string ⟨#[]⟩, .string ⟨#[]⟩, .bool false, .slice none 0 0]) (#[.string ⟨h.random.toArray⟩, .string ⟨h.session.toArray⟩, .slice aS h.suites.length cS, .slice aV h.versions.length cV, .slice aG h.groups.length cG, .slice aC h.schemes.length cC, .slice aH h.shares.length cH, .bool h.shared, .string ⟨h.cookie.toArray⟩, .string KB, .bool h.early, .slice aO h.others.length cO]) (38) (by kernel_rfl) (by kernel_rfl) (by first | assumption | go_simp) (by kernel_rfl) (by decide) (fun hsep => ?_)
            have HSEP := hid hsep
            clear hsep
            repeat (first | (refine wpO_plain HSEP.out (by kernel_rfl) (by rfl) (fun K hK => ?_); go_simp; refine hK _ ?_; clear hK K; try go_ints) | (refine wpO_store HSEP.out (by rfl) (by rfl) (by kernel_rfl) (fun K hK => ⟨fun x cs hcs hx => (by clear hK HSEP; rcases hcs with hcs | hcs <;> (rw [hcs] at hx; clear hcs; go_simp; done)), hK _ ?_⟩); clear hK K; try go_ints))
            refine wpGho_nil ?_
            intro wO oO gO
            clear HSEP
            go_wp2_with fail
            refine bodyPost_ret (v := .tuple #[.agg (#[.string ⟨h.random.toArray⟩, .string ⟨h.session.toArray⟩, .slice aS h.suites.length cS, .slice aV h.versions.length cV, .slice aG h.groups.length cG, .slice aC h.schemes.length cC, .slice aH h.shares.length cH, .bool h.shared, .string ⟨h.cookie.toArray⟩, .string KB, .bool h.early, .slice aO h.others.length cO]), .int .i64 0]) (results_cell_tmp Try.results63 _ _ (w.heap.size + 1) 38 (#[.string ⟨h.random.toArray⟩, .string ⟨h.session.toArray⟩, .slice aS h.suites.length cS, .slice aV h.versions.length cV, .slice aG h.groups.length cG, .slice aC h.schemes.length cC, .slice aH h.shares.length cH, .bool h.shared, .string ⟨h.cookie.toArray⟩, .string KB, .bool h.early, .slice aO h.others.length cO]) (0, 0) _ (.int .i64 0) (by rfl) (by rfl) (by rw [← hget_eq]; go_simp) Try.underlying38 rfl (by rw [info_Hello]; go_simp)) rfl ?_
            have hbO := HT7.out.below.trans (oO.below (fun e he => by rw [he]; omega) HT7.out.below.size)
            have hrO := HR.out.keep hbO
            refine PutV.good (g := { h with name := x }) hbO HPU.out ?_ ⟨hrO.s, hrO.v, hrO.g, hrO.c, hrO.sh, hrO.o, hrO.ls, hrO.lv, hrO.lg, hrO.lc, hrO.lh⟩ (fun _ _ hf => ⟨hf.s, hf.v, hf.g, hf.c, hf.sh, hf.o⟩)
            rw [← HKB.out]; rfl
    | some r2 =>
      obtain ⟨hgQ, -⟩ := hq5'
      have cQ5 : w5.cell? ⟨Q, 1, none⟩ = some (.int .i64 0) := cell_at hgQ 1
      clear hgQ hx HNQ
      go_wp2_with fail
      have H5 := hid (H4.out.outG ho5 (by omega) (by omega) (by omega) (fun k e => by omega))
      have hlq := rlist_t hq5 2 (by omega)
      unfold TGives at hlq
      have HLQ := hid hlq
      clear ho5 hq5 hlq
      go_wp2_with fail
      refine HLQ.out.mono ?_
      rintro e w6 ⟨ho6, rfl, hq6⟩
      have H6 := hid (H5.out.outG ho6 (by omega) (by omega) (by omega) (fun k e => by omega))
      generalize hK : HE.rv ((some r2).bind (HE.text 2)) = K at *
      generalize HE.rs ((some r2).bind (HE.text 2)) = o4 at *
      have hsq := rsome_t hq6 K
      unfold TGives at hsq
      have HSQ := hid hsq
      clear ho6 hq6 hsq HLQ
      go_wp2_with fail
      refine HSQ.out.mono ?_
      rintro e w7 ⟨ho7, rfl, hq7⟩
      have H7 := hid (H6.out.outG ho7 (by omega) (by omega) (by omega) (fun k e => by omega))
      have hH7 := H7.out.hH
      have cH7 : w7.cell? ⟨w.heap.size, 9, none⟩ = some _ := cell_at hH7 9
      have fH7 := free_at hH7
      obtain ⟨KB, hKB⟩ : ∃ KB, (⟨K.toArray⟩ : ByteArray) = KB := ⟨_, rfl⟩
      rw [hKB]
      have hset := H7.out.set 9 (.string KB)
      simp only [List.setIfInBounds_toArray, List.set_cons_zero, List.set_cons_succ] at hset
      have hqs := hq7.out (Out.setCell (p := ⟨w.heap.size, 9, none⟩) (Out.refl (· = w.heap.size) w7) (.inl rfl) (.string KB)) (show ¬ Q = w.heap.size by omega)
      have hnq := rends_t hqs
      have HNQ := hid hnq
      have HT := hid hset
      clear hset hnq hqs hH7 H7 H6 H5 H4 HSQ ho7 hq7
      generalize HE.someO o4 K = o5 at *
      go_wp2_with fail
      refine HNQ.out.mono ?_
      rintro e w8 ⟨ho8, rfl, hq8⟩
      have H8 := hid (HT.out.outG ho8 (by omega) (by omega) (by omega) (fun k e => by omega))
      have HQ8 := hid hq8
      clear HNQ HT ho8 hq8
      generalize HE.endO o5 = o6 at *
      have hP8 := H8.out.hP
      cases o1 with
      | none =>
        obtain ⟨sP, hgP, -⟩ := hP8
        have cP : w8.cell? ⟨w.heap.size + 1 + 1, 1, none⟩ = some (.int .i64 270) := cell_at hgP 1
        have hen := rends_t H8.out.hP
        rw [show HE.endO none = HE.endO oF by rw [HNO.out]; rfl] at hen
        have HT := hid H8.out
        have HEN := hid hen
        clear hen H8 hgP
        go_wp2_with fail
        refine HEN.out.mono ?_
        rintro e w7 ⟨ho, rfl, hp7⟩
        have HT7 := hid (HT.out.out ho hp7)
        have HO7 := hid ho
        clear HEN HT hp7 ho
        go_upto_region 29 with (fail)
        have jH : ∀ x : LaterO (w.heap.size + 1) w7, hget x.w' w.heap.size = some (.cells #[.string ⟨h.random.toArray⟩, .string ⟨h.session.toArray⟩, .slice aS h.suites.length cS, .slice aV h.versions.length cV, .slice aG h.groups.length cG, .slice aC h.schemes.length cC, .slice aH h.shares.length cH, .bool h.shared, .string ⟨h.cookie.toArray⟩, .string KB, .bool h.early, .slice aO h.others.length cO] 38 (0, 0)) := fun x => x.h.get HT7.out.hH (by simp)
        rcases HPO.out with ⟨hen, hpu⟩ | ⟨x, hx, hen, hpu⟩
        · have HPU := hid hpu
          clear hpu hKB hK
          obtain ⟨sP, hgP, -⟩ : TS w7 (w.heap.size + 1 + 1) none := by have := HT7.out.hP; rw [hen] at this; exact this
          have jE : ∀ x : LaterO (w.heap.size + 1) w7, x.w'.cell? ⟨w.heap.size + 1 + 1, 1, none⟩ = some (.int .i64 270) := fun x => cell_at (x.h.get hgP (by simp)) 1
          have hR7 := HT7.out.hR
          unfold zcells at hR7
          clear hgP hen
          refine wp_region_old (w.heap.size + 1) 5 (#[.string ⟨#[]⟩, .string ⟨#[]⟩, .slice none 0 0, .slice none 0 0, .slice none 0 0, .slice none 0 0, .slice none 0 0, .bool false, .string ⟨#[]⟩, .string ⟨#[]⟩, .bool false, .slice none 0 0]) (#[.string ⟨h.random.toArray⟩, .string ⟨h.session.toArray⟩, .slice aS h.suites.length cS, .slice aV h.versions.length cV, .slice aG h.groups.length cG, .slice aC h.schemes.length cC, .slice aH h.shares.length cH, .bool h.shared, .string ⟨h.cookie.toArray⟩, .string KB, .bool h.early, .slice aO h.others.length cO]) (38) (by kernel_rfl) (by kernel_rfl) (by first | assumption | go_simp) (by kernel_rfl) (by decide) (fun hsep => ?_)
          have HSEP := hid hsep
          clear hsep
          repeat (first | (refine wpO_plain HSEP.out (by kernel_rfl) (by rfl) (fun K hK => ?_); go_simp; refine hK _ ?_; clear hK K; try go_ints) | (refine wpO_store HSEP.out (by rfl) (by rfl) (by kernel_rfl) (fun K hK => ⟨fun x cs hcs hx => (by clear hK HSEP; rcases hcs with hcs | hcs <;> (rw [hcs] at hx; clear hcs; go_simp; done)), hK _ ?_⟩); clear hK K; try go_ints))
          refine wpGho_nil ?_
          intro wO oO gO
          clear HSEP
          go_wp2_with fail
          refine bodyPost_ret (v := .tuple #[.agg (#[.string ⟨h.random.toArray⟩, .string ⟨h.session.toArray⟩, .slice aS h.suites.length cS, .slice aV h.versions.length cV, .slice aG h.groups.length cG, .slice aC h.schemes.length cC, .slice aH h.shares.length cH, .bool h.shared, .string ⟨h.cookie.toArray⟩, .string KB, .bool h.early, .slice aO h.others.length cO]), .int .i64 270]) (results_cell_tmp Try.results63 _ _ (w.heap.size + 1) 38 (#[.string ⟨h.random.toArray⟩, .string ⟨h.session.toArray⟩, .slice aS h.suites.length cS, .slice aV h.versions.length cV, .slice aG h.groups.length cG, .slice aC h.schemes.length cC, .slice aH h.shares.length cH, .bool h.shared, .string ⟨h.cookie.toArray⟩, .string KB, .bool h.early, .slice aO h.others.length cO]) (0, 0) _ (.int .i64 270) (by rfl) (by rfl) (by rw [← hget_eq]; go_simp) Try.underlying38 rfl (by rw [info_Hello]; go_simp)) rfl ?_
          exact PutV.bad (HT7.out.below.trans (oO.below (fun e he => by rw [he]; omega) HT7.out.below.size)) HPU.out rfl rfl rfl (by decide)
        · obtain rfl : x = K := (HNV.out _ hx).symm
          have HPU := hid hpu
          have HKB := hid hKB
          clear hpu hx hKB hK
          obtain ⟨hgP, -⟩ : TS w7 (w.heap.size + 1 + 1) (some []) := by have := HT7.out.hP; rw [hen] at this; exact this
          have jE : ∀ x : LaterO (w.heap.size + 1) w7, x.w'.cell? ⟨w.heap.size + 1 + 1, 1, none⟩ = some (.int .i64 0) := fun x => cell_at (x.h.get hgP (by simp)) 1
          have hR7 := HT7.out.hR
          unfold zcells at hR7
          clear hgP hen
          refine wp_region_old (w.heap.size + 1) 5 (#[.string ⟨#[]⟩, .string ⟨#[]⟩, .slice none 0 0, .slice none 0 0, .slice none 0 0, .slice none 0 0, .slice none 0 0, .bool false, .string ⟨#[]⟩, .string ⟨#[]⟩, .bool false, .slice none 0 0]) (#[.string ⟨h.random.toArray⟩, .string ⟨h.session.toArray⟩, .slice aS h.suites.length cS, .slice aV h.versions.length cV, .slice aG h.groups.length cG, .slice aC h.schemes.length cC, .slice aH h.shares.length cH, .bool h.shared, .string ⟨h.cookie.toArray⟩, .string KB, .bool h.early, .slice aO h.others.length cO]) (38) (by kernel_rfl) (by kernel_rfl) (by first | assumption | go_simp) (by kernel_rfl) (by decide) (fun hsep => ?_)
          have HSEP := hid hsep
          clear hsep
          repeat (first | (refine wpO_plain HSEP.out (by kernel_rfl) (by rfl) (fun K hK => ?_); go_simp; refine hK _ ?_; clear hK K; try go_ints) | (refine wpO_store HSEP.out (by rfl) (by rfl) (by kernel_rfl) (fun K hK => ⟨fun x cs hcs hx => (by clear hK HSEP; rcases hcs with hcs | hcs <;> (rw [hcs] at hx; clear hcs; go_simp; done)), hK _ ?_⟩); clear hK K; try go_ints))
          refine wpGho_nil ?_
          intro wO oO gO
          clear HSEP
          go_wp2_with fail
          refine bodyPost_ret (v := .tuple #[.agg (#[.string ⟨h.random.toArray⟩, .string ⟨h.session.toArray⟩, .slice aS h.suites.length cS, .slice aV h.versions.length cV, .slice aG h.groups.length cG, .slice aC h.schemes.length cC, .slice aH h.shares.length cH, .bool h.shared, .string ⟨h.cookie.toArray⟩, .string KB, .bool h.early, .slice aO h.others.length cO]), .int .i64 0]) (results_cell_tmp Try.results63 _ _ (w.heap.size + 1) 38 (#[.string ⟨h.random.toArray⟩, .string ⟨h.session.toArray⟩, .slice aS h.suites.length cS, .slice aV h.versions.length cV, .slice aG h.groups.length cG, .slice aC h.schemes.length cC, .slice aH h.shares.length cH, .bool h.shared, .string ⟨h.cookie.toArray⟩, .string KB, .bool h.early, .slice aO h.others.length cO]) (0, 0) _ (.int .i64 0) (by rfl) (by rfl) (by rw [← hget_eq]; go_simp) Try.underlying38 rfl (by rw [info_Hello]; go_simp)) rfl ?_
          have hbO := HT7.out.below.trans (oO.below (fun e he => by rw [he]; omega) HT7.out.below.size)
          have hrO := HR.out.keep hbO
          refine PutV.good (g := { h with name := x }) hbO HPU.out ?_ ⟨hrO.s, hrO.v, hrO.g, hrO.c, hrO.sh, hrO.o, hrO.ls, hrO.lv, hrO.lg, hrO.lc, hrO.lh⟩ (fun _ _ hf => ⟨hf.s, hf.v, hf.g, hf.c, hf.sh, hf.o⟩)
          rw [← HKB.out]; rfl
      | some rP =>
        obtain ⟨hgP, hlP⟩ := hP8
        have cP : w8.cell? ⟨w.heap.size + 1 + 1, 1, none⟩ = some (.int .i64 0) := cell_at hgP 1
        have fP := free_at hgP
        have hQ8 := HQ8.out
        cases o6 with
        | none =>
          obtain ⟨sQ, hgQ, -⟩ := hQ8
          have cQ : w8.cell? ⟨Q, 1, none⟩ = some (.int .i64 270) := cell_at hgQ 1
          have hoe : Out (· = w.heap.size + 1 + 1) w8 (w8.setCell ⟨w.heap.size + 1 + 1, 1, none⟩ (.int .i64 270)) := Out.setCell (Out.refl (· = w.heap.size + 1 + 1) w8) (.inl rfl) _
          have hT := H8.out.out hoe (o' := none) ⟨rP, hget_setCell hgP 1 _, hlP⟩
          have hen := rends_t hT.hP
          rw [show HE.endO none = HE.endO oF by rw [HNO.out]; rfl] at hen
          have HT := hid hT
          have HEN := hid hen
          clear hen H8 hgP hgQ hoe hT
          go_wp2_with fail
          refine HEN.out.mono ?_
          rintro e w7 ⟨ho, rfl, hp7⟩
          have HT7 := hid (HT.out.out ho hp7)
          have HO7 := hid ho
          clear HEN HT hp7 ho
          go_upto_region 29 with (fail)
          have jH : ∀ x : LaterO (w.heap.size + 1) w7, hget x.w' w.heap.size = some (.cells #[.string ⟨h.random.toArray⟩, .string ⟨h.session.toArray⟩, .slice aS h.suites.length cS, .slice aV h.versions.length cV, .slice aG h.groups.length cG, .slice aC h.schemes.length cC, .slice aH h.shares.length cH, .bool h.shared, .string ⟨h.cookie.toArray⟩, .string KB, .bool h.early, .slice aO h.others.length cO] 38 (0, 0)) := fun x => x.h.get HT7.out.hH (by simp)
          rcases HPO.out with ⟨hen, hpu⟩ | ⟨x, hx, hen, hpu⟩
          · have HPU := hid hpu
            clear hpu hKB hK
            obtain ⟨sP, hgP, -⟩ : TS w7 (w.heap.size + 1 + 1) none := by have := HT7.out.hP; rw [hen] at this; exact this
            have jE : ∀ x : LaterO (w.heap.size + 1) w7, x.w'.cell? ⟨w.heap.size + 1 + 1, 1, none⟩ = some (.int .i64 270) := fun x => cell_at (x.h.get hgP (by simp)) 1
            have hR7 := HT7.out.hR
            unfold zcells at hR7
            clear hgP hen
            refine wp_region_old (w.heap.size + 1) 5 (#[.string ⟨#[]⟩, .string ⟨#[]⟩, .slice none 0 0, .slice none 0 0, .slice none 0 0, .slice none 0 0, .slice none 0 0, .bool false, .string ⟨#[]⟩, .string ⟨#[]⟩, .bool false, .slice none 0 0]) (#[.string ⟨h.random.toArray⟩, .string ⟨h.session.toArray⟩, .slice aS h.suites.length cS, .slice aV h.versions.length cV, .slice aG h.groups.length cG, .slice aC h.schemes.length cC, .slice aH h.shares.length cH, .bool h.shared, .string ⟨h.cookie.toArray⟩, .string KB, .bool h.early, .slice aO h.others.length cO]) (38) (by kernel_rfl) (by kernel_rfl) (by first | assumption | go_simp) (by kernel_rfl) (by decide) (fun hsep => ?_)
            have HSEP := hid hsep
            clear hsep
            repeat (first | (refine wpO_plain HSEP.out (by kernel_rfl) (by rfl) (fun K hK => ?_); go_simp; refine hK _ ?_; clear hK K; try go_ints) | (refine wpO_store HSEP.out (by rfl) (by rfl) (by kernel_rfl) (fun K hK => ⟨fun x cs hcs hx => (by clear hK HSEP; rcases hcs with hcs | hcs <;> (rw [hcs] at hx; clear hcs; go_simp; done)), hK _ ?_⟩); clear hK K; try go_ints))
            refine wpGho_nil ?_
            intro wO oO gO
            clear HSEP
            go_wp2_with fail
            refine bodyPost_ret (v := .tuple #[.agg (#[.string ⟨h.random.toArray⟩, .string ⟨h.session.toArray⟩, .slice aS h.suites.length cS, .slice aV h.versions.length cV, .slice aG h.groups.length cG, .slice aC h.schemes.length cC, .slice aH h.shares.length cH, .bool h.shared, .string ⟨h.cookie.toArray⟩, .string KB, .bool h.early, .slice aO h.others.length cO]), .int .i64 270]) (results_cell_tmp Try.results63 _ _ (w.heap.size + 1) 38 (#[.string ⟨h.random.toArray⟩, .string ⟨h.session.toArray⟩, .slice aS h.suites.length cS, .slice aV h.versions.length cV, .slice aG h.groups.length cG, .slice aC h.schemes.length cC, .slice aH h.shares.length cH, .bool h.shared, .string ⟨h.cookie.toArray⟩, .string KB, .bool h.early, .slice aO h.others.length cO]) (0, 0) _ (.int .i64 270) (by rfl) (by rfl) (by rw [← hget_eq]; go_simp) Try.underlying38 rfl (by rw [info_Hello]; go_simp)) rfl ?_
            exact PutV.bad (HT7.out.below.trans (oO.below (fun e he => by rw [he]; omega) HT7.out.below.size)) HPU.out rfl rfl rfl (by decide)
          · obtain rfl : x = K := (HNV.out _ hx).symm
            have HPU := hid hpu
            have HKB := hid hKB
            clear hpu hx hKB hK
            obtain ⟨hgP, -⟩ : TS w7 (w.heap.size + 1 + 1) (some []) := by have := HT7.out.hP; rw [hen] at this; exact this
            have jE : ∀ x : LaterO (w.heap.size + 1) w7, x.w'.cell? ⟨w.heap.size + 1 + 1, 1, none⟩ = some (.int .i64 0) := fun x => cell_at (x.h.get hgP (by simp)) 1
            have hR7 := HT7.out.hR
            unfold zcells at hR7
            clear hgP hen
            refine wp_region_old (w.heap.size + 1) 5 (#[.string ⟨#[]⟩, .string ⟨#[]⟩, .slice none 0 0, .slice none 0 0, .slice none 0 0, .slice none 0 0, .slice none 0 0, .bool false, .string ⟨#[]⟩, .string ⟨#[]⟩, .bool false, .slice none 0 0]) (#[.string ⟨h.random.toArray⟩, .string ⟨h.session.toArray⟩, .slice aS h.suites.length cS, .slice aV h.versions.length cV, .slice aG h.groups.length cG, .slice aC h.schemes.length cC, .slice aH h.shares.length cH, .bool h.shared, .string ⟨h.cookie.toArray⟩, .string KB, .bool h.early, .slice aO h.others.length cO]) (38) (by kernel_rfl) (by kernel_rfl) (by first | assumption | go_simp) (by kernel_rfl) (by decide) (fun hsep => ?_)
            have HSEP := hid hsep
            clear hsep
            repeat (first | (refine wpO_plain HSEP.out (by kernel_rfl) (by rfl) (fun K hK => ?_); go_simp; refine hK _ ?_; clear hK K; try go_ints) | (refine wpO_store HSEP.out (by rfl) (by rfl) (by kernel_rfl) (fun K hK => ⟨fun x cs hcs hx => (by clear hK HSEP; rcases hcs with hcs | hcs <;> (rw [hcs] at hx; clear hcs; go_simp; done)), hK _ ?_⟩); clear hK K; try go_ints))
            refine wpGho_nil ?_
            intro wO oO gO
            clear HSEP
            go_wp2_with fail
            refine bodyPost_ret (v := .tuple #[.agg (#[.string ⟨h.random.toArray⟩, .string ⟨h.session.toArray⟩, .slice aS h.suites.length cS, .slice aV h.versions.length cV, .slice aG h.groups.length cG, .slice aC h.schemes.length cC, .slice aH h.shares.length cH, .bool h.shared, .string ⟨h.cookie.toArray⟩, .string KB, .bool h.early, .slice aO h.others.length cO]), .int .i64 0]) (results_cell_tmp Try.results63 _ _ (w.heap.size + 1) 38 (#[.string ⟨h.random.toArray⟩, .string ⟨h.session.toArray⟩, .slice aS h.suites.length cS, .slice aV h.versions.length cV, .slice aG h.groups.length cG, .slice aC h.schemes.length cC, .slice aH h.shares.length cH, .bool h.shared, .string ⟨h.cookie.toArray⟩, .string KB, .bool h.early, .slice aO h.others.length cO]) (0, 0) _ (.int .i64 0) (by rfl) (by rfl) (by rw [← hget_eq]; go_simp) Try.underlying38 rfl (by rw [info_Hello]; go_simp)) rfl ?_
            have hbO := HT7.out.below.trans (oO.below (fun e he => by rw [he]; omega) HT7.out.below.size)
            have hrO := HR.out.keep hbO
            refine PutV.good (g := { h with name := x }) hbO HPU.out ?_ ⟨hrO.s, hrO.v, hrO.g, hrO.c, hrO.sh, hrO.o, hrO.ls, hrO.lv, hrO.lg, hrO.lc, hrO.lh⟩ (fun _ _ hf => ⟨hf.s, hf.v, hf.g, hf.c, hf.sh, hf.o⟩)
            rw [← HKB.out]; rfl
        | some yQ =>
          obtain ⟨hgQ, -⟩ := hQ8
          have cQ : w8.cell? ⟨Q, 1, none⟩ = some (.int .i64 0) := cell_at hgQ 1
          have hoe : Out (· = w.heap.size + 1 + 1) w8 (w8.setCell ⟨w.heap.size + 1 + 1, 1, none⟩ (.int .i64 0)) := Out.setCell (Out.refl (· = w.heap.size + 1 + 1) w8) (.inl rfl) _
          have hT := H8.out.out hoe (o' := some rP) ⟨hget_setCell hgP 1 _, hlP⟩
          have hen := rends_t hT.hP
          rw [show HE.endO (some rP) = HE.endO oF by rw [HNO.out]; rfl] at hen
          have HT := hid hT
          have HEN := hid hen
          clear hen H8 hgP hgQ hoe hT
          go_wp2_with fail
          refine HEN.out.mono ?_
          rintro e w7 ⟨ho, rfl, hp7⟩
          have HT7 := hid (HT.out.out ho hp7)
          have HO7 := hid ho
          clear HEN HT hp7 ho
          go_upto_region 29 with (fail)
          have jH : ∀ x : LaterO (w.heap.size + 1) w7, hget x.w' w.heap.size = some (.cells #[.string ⟨h.random.toArray⟩, .string ⟨h.session.toArray⟩, .slice aS h.suites.length cS, .slice aV h.versions.length cV, .slice aG h.groups.length cG, .slice aC h.schemes.length cC, .slice aH h.shares.length cH, .bool h.shared, .string ⟨h.cookie.toArray⟩, .string KB, .bool h.early, .slice aO h.others.length cO] 38 (0, 0)) := fun x => x.h.get HT7.out.hH (by simp)
          rcases HPO.out with ⟨hen, hpu⟩ | ⟨x, hx, hen, hpu⟩
          · have HPU := hid hpu
            clear hpu hKB hK
            obtain ⟨sP, hgP, -⟩ : TS w7 (w.heap.size + 1 + 1) none := by have := HT7.out.hP; rw [hen] at this; exact this
            have jE : ∀ x : LaterO (w.heap.size + 1) w7, x.w'.cell? ⟨w.heap.size + 1 + 1, 1, none⟩ = some (.int .i64 270) := fun x => cell_at (x.h.get hgP (by simp)) 1
            have hR7 := HT7.out.hR
            unfold zcells at hR7
            clear hgP hen
            refine wp_region_old (w.heap.size + 1) 5 (#[.string ⟨#[]⟩, .string ⟨#[]⟩, .slice none 0 0, .slice none 0 0, .slice none 0 0, .slice none 0 0, .slice none 0 0, .bool false, .string ⟨#[]⟩, .string ⟨#[]⟩, .bool false, .slice none 0 0]) (#[.string ⟨h.random.toArray⟩, .string ⟨h.session.toArray⟩, .slice aS h.suites.length cS, .slice aV h.versions.length cV, .slice aG h.groups.length cG, .slice aC h.schemes.length cC, .slice aH h.shares.length cH, .bool h.shared, .string ⟨h.cookie.toArray⟩, .string KB, .bool h.early, .slice aO h.others.length cO]) (38) (by kernel_rfl) (by kernel_rfl) (by first | assumption | go_simp) (by kernel_rfl) (by decide) (fun hsep => ?_)
            have HSEP := hid hsep
            clear hsep
            repeat (first | (refine wpO_plain HSEP.out (by kernel_rfl) (by rfl) (fun K hK => ?_); go_simp; refine hK _ ?_; clear hK K; try go_ints) | (refine wpO_store HSEP.out (by rfl) (by rfl) (by kernel_rfl) (fun K hK => ⟨fun x cs hcs hx => (by clear hK HSEP; rcases hcs with hcs | hcs <;> (rw [hcs] at hx; clear hcs; go_simp; done)), hK _ ?_⟩); clear hK K; try go_ints))
            refine wpGho_nil ?_
            intro wO oO gO
            clear HSEP
            go_wp2_with fail
            refine bodyPost_ret (v := .tuple #[.agg (#[.string ⟨h.random.toArray⟩, .string ⟨h.session.toArray⟩, .slice aS h.suites.length cS, .slice aV h.versions.length cV, .slice aG h.groups.length cG, .slice aC h.schemes.length cC, .slice aH h.shares.length cH, .bool h.shared, .string ⟨h.cookie.toArray⟩, .string KB, .bool h.early, .slice aO h.others.length cO]), .int .i64 270]) (results_cell_tmp Try.results63 _ _ (w.heap.size + 1) 38 (#[.string ⟨h.random.toArray⟩, .string ⟨h.session.toArray⟩, .slice aS h.suites.length cS, .slice aV h.versions.length cV, .slice aG h.groups.length cG, .slice aC h.schemes.length cC, .slice aH h.shares.length cH, .bool h.shared, .string ⟨h.cookie.toArray⟩, .string KB, .bool h.early, .slice aO h.others.length cO]) (0, 0) _ (.int .i64 270) (by rfl) (by rfl) (by rw [← hget_eq]; go_simp) Try.underlying38 rfl (by rw [info_Hello]; go_simp)) rfl ?_
            exact PutV.bad (HT7.out.below.trans (oO.below (fun e he => by rw [he]; omega) HT7.out.below.size)) HPU.out rfl rfl rfl (by decide)
          · obtain rfl : x = K := (HNV.out _ hx).symm
            have HPU := hid hpu
            have HKB := hid hKB
            clear hpu hx hKB hK
            obtain ⟨hgP, -⟩ : TS w7 (w.heap.size + 1 + 1) (some []) := by have := HT7.out.hP; rw [hen] at this; exact this
            have jE : ∀ x : LaterO (w.heap.size + 1) w7, x.w'.cell? ⟨w.heap.size + 1 + 1, 1, none⟩ = some (.int .i64 0) := fun x => cell_at (x.h.get hgP (by simp)) 1
            have hR7 := HT7.out.hR
            unfold zcells at hR7
            clear hgP hen
            refine wp_region_old (w.heap.size + 1) 5 (#[.string ⟨#[]⟩, .string ⟨#[]⟩, .slice none 0 0, .slice none 0 0, .slice none 0 0, .slice none 0 0, .slice none 0 0, .bool false, .string ⟨#[]⟩, .string ⟨#[]⟩, .bool false, .slice none 0 0]) (#[.string ⟨h.random.toArray⟩, .string ⟨h.session.toArray⟩, .slice aS h.suites.length cS, .slice aV h.versions.length cV, .slice aG h.groups.length cG, .slice aC h.schemes.length cC, .slice aH h.shares.length cH, .bool h.shared, .string ⟨h.cookie.toArray⟩, .string KB, .bool h.early, .slice aO h.others.length cO]) (38) (by kernel_rfl) (by kernel_rfl) (by first | assumption | go_simp) (by kernel_rfl) (by decide) (fun hsep => ?_)
            have HSEP := hid hsep
            clear hsep
            repeat (first | (refine wpO_plain HSEP.out (by kernel_rfl) (by rfl) (fun K hK => ?_); go_simp; refine hK _ ?_; clear hK K; try go_ints) | (refine wpO_store HSEP.out (by rfl) (by rfl) (by kernel_rfl) (fun K hK => ⟨fun x cs hcs hx => (by clear hK HSEP; rcases hcs with hcs | hcs <;> (rw [hcs] at hx; clear hcs; go_simp; done)), hK _ ?_⟩); clear hK K; try go_ints))
            refine wpGho_nil ?_
            intro wO oO gO
            clear HSEP
            go_wp2_with fail
            refine bodyPost_ret (v := .tuple #[.agg (#[.string ⟨h.random.toArray⟩, .string ⟨h.session.toArray⟩, .slice aS h.suites.length cS, .slice aV h.versions.length cV, .slice aG h.groups.length cG, .slice aC h.schemes.length cC, .slice aH h.shares.length cH, .bool h.shared, .string ⟨h.cookie.toArray⟩, .string KB, .bool h.early, .slice aO h.others.length cO]), .int .i64 0]) (results_cell_tmp Try.results63 _ _ (w.heap.size + 1) 38 (#[.string ⟨h.random.toArray⟩, .string ⟨h.session.toArray⟩, .slice aS h.suites.length cS, .slice aV h.versions.length cV, .slice aG h.groups.length cG, .slice aC h.schemes.length cC, .slice aH h.shares.length cH, .bool h.shared, .string ⟨h.cookie.toArray⟩, .string KB, .bool h.early, .slice aO h.others.length cO]) (0, 0) _ (.int .i64 0) (by rfl) (by rfl) (by rw [← hget_eq]; go_simp) Try.underlying38 rfl (by rw [info_Hello]; go_simp)) rfl ?_
            have hbO := HT7.out.below.trans (oO.below (fun e he => by rw [he]; omega) HT7.out.below.size)
            have hrO := HR.out.keep hbO
            refine PutV.good (g := { h with name := x }) hbO HPU.out ?_ ⟨hrO.s, hrO.v, hrO.g, hrO.c, hrO.sh, hrO.o, hrO.ls, hrO.lv, hrO.lg, hrO.lc, hrO.lh⟩ (fun _ _ hf => ⟨hf.s, hf.v, hf.g, hf.c, hf.sh, hf.o⟩)
            rw [← HKB.out]; rfl
  · obtain ⟨r2, hr2⟩ := HE.rn_some hx
    rw [if_neg hx] at HNO HNV
    generalize HE.rn ((some s).bind (HE.num 1)) = x0 at *
    have dx : ((x0 : Int) != 0) = true := by simp; omega
    have dy : (x0 == 0) = false := beq_eq_false_iff_ne.2 hx
    rw [hr2] at hq5
    obtain ⟨hgQ, hlQ⟩ := hq5
    have cQ5 : w5.cell? ⟨Q, 1, none⟩ = some (.int .i64 0) := cell_at hgQ 1
    have fQ5 := free_at hgQ
    have hoe : Out (· = Q) w5 (w5.setCell ⟨Q, 1, none⟩ (.int .i64 270)) := Out.setCell (Out.refl (· = Q) w5) (.inl rfl) _
    have ho5' := ho5.then hoe
    have hq5 : TS (w5.setCell ⟨Q, 1, none⟩ (.int .i64 270)) Q none := ⟨r2, hget_setCell hgQ 1 _, hlQ⟩
    clear ho5 hoe hgQ hr2 hx HNQ
    have ho5 := ho5'
    clear ho5'
    go_wp2_with fail
    have H5 := hid (H4.out.outG ho5 (by omega) (by omega) (by omega) (fun k e => by omega))
    have hlq := rlist_t hq5 2 (by omega)
    unfold TGives at hlq
    have HLQ := hid hlq
    clear ho5 hq5 hlq
    go_wp2_with fail
    refine HLQ.out.mono ?_
    rintro e w6 ⟨ho6, rfl, hq6⟩
    have H6 := hid (H5.out.outG ho6 (by omega) (by omega) (by omega) (fun k e => by omega))
    generalize hK : HE.rv (none.bind (HE.text 2)) = K at *
    generalize HE.rs (none.bind (HE.text 2)) = o4 at *
    have hsq := rsome_t hq6 K
    unfold TGives at hsq
    have HSQ := hid hsq
    clear ho6 hq6 hsq HLQ
    go_wp2_with fail
    refine HSQ.out.mono ?_
    rintro e w7 ⟨ho7, rfl, hq7⟩
    have H7 := hid (H6.out.outG ho7 (by omega) (by omega) (by omega) (fun k e => by omega))
    have hH7 := H7.out.hH
    have cH7 : w7.cell? ⟨w.heap.size, 9, none⟩ = some _ := cell_at hH7 9
    have fH7 := free_at hH7
    obtain ⟨KB, hKB⟩ : ∃ KB, (⟨K.toArray⟩ : ByteArray) = KB := ⟨_, rfl⟩
    rw [hKB]
    have hset := H7.out.set 9 (.string KB)
    simp only [List.setIfInBounds_toArray, List.set_cons_zero, List.set_cons_succ] at hset
    have hqs := hq7.out (Out.setCell (p := ⟨w.heap.size, 9, none⟩) (Out.refl (· = w.heap.size) w7) (.inl rfl) (.string KB)) (show ¬ Q = w.heap.size by omega)
    have hnq := rends_t hqs
    have HNQ := hid hnq
    have HT := hid hset
    clear hset hnq hqs hH7 H7 H6 H5 H4 HSQ ho7 hq7
    generalize HE.someO o4 K = o5 at *
    go_wp2_with fail
    refine HNQ.out.mono ?_
    rintro e w8 ⟨ho8, rfl, hq8⟩
    have H8 := hid (HT.out.outG ho8 (by omega) (by omega) (by omega) (fun k e => by omega))
    have HQ8 := hid hq8
    clear HNQ HT ho8 hq8
    generalize HE.endO o5 = o6 at *
    have hP8 := H8.out.hP
    cases o1 with
    | none =>
      obtain ⟨sP, hgP, -⟩ := hP8
      have cP : w8.cell? ⟨w.heap.size + 1 + 1, 1, none⟩ = some (.int .i64 270) := cell_at hgP 1
      have hen := rends_t H8.out.hP
      rw [show HE.endO none = HE.endO oF by rw [HNO.out]; rfl] at hen
      have HT := hid H8.out
      have HEN := hid hen
      clear hen H8 hgP
      go_wp2_with fail
      refine HEN.out.mono ?_
      rintro e w7 ⟨ho, rfl, hp7⟩
      have HT7 := hid (HT.out.out ho hp7)
      have HO7 := hid ho
      clear HEN HT hp7 ho
      go_upto_region 29 with (fail)
      have jH : ∀ x : LaterO (w.heap.size + 1) w7, hget x.w' w.heap.size = some (.cells #[.string ⟨h.random.toArray⟩, .string ⟨h.session.toArray⟩, .slice aS h.suites.length cS, .slice aV h.versions.length cV, .slice aG h.groups.length cG, .slice aC h.schemes.length cC, .slice aH h.shares.length cH, .bool h.shared, .string ⟨h.cookie.toArray⟩, .string KB, .bool h.early, .slice aO h.others.length cO] 38 (0, 0)) := fun x => x.h.get HT7.out.hH (by simp)
      rcases HPO.out with ⟨hen, hpu⟩ | ⟨x, hx, hen, hpu⟩
      · have HPU := hid hpu
        clear hpu hKB hK
        obtain ⟨sP, hgP, -⟩ : TS w7 (w.heap.size + 1 + 1) none := by have := HT7.out.hP; rw [hen] at this; exact this
        have jE : ∀ x : LaterO (w.heap.size + 1) w7, x.w'.cell? ⟨w.heap.size + 1 + 1, 1, none⟩ = some (.int .i64 270) := fun x => cell_at (x.h.get hgP (by simp)) 1
        have hR7 := HT7.out.hR
        unfold zcells at hR7
        clear hgP hen
        refine wp_region_old (w.heap.size + 1) 5 (#[.string ⟨#[]⟩, .string ⟨#[]⟩, .slice none 0 0, .slice none 0 0, .slice none 0 0, .slice none 0 0, .slice none 0 0, .bool false, .string ⟨#[]⟩, .string ⟨#[]⟩, .bool false, .slice none 0 0]) (#[.string ⟨h.random.toArray⟩, .string ⟨h.session.toArray⟩, .slice aS h.suites.length cS, .slice aV h.versions.length cV, .slice aG h.groups.length cG, .slice aC h.schemes.length cC, .slice aH h.shares.length cH, .bool h.shared, .string ⟨h.cookie.toArray⟩, .string KB, .bool h.early, .slice aO h.others.length cO]) (38) (by kernel_rfl) (by kernel_rfl) (by first | assumption | go_simp) (by kernel_rfl) (by decide) (fun hsep => ?_)
        have HSEP := hid hsep
        clear hsep
        repeat (first | (refine wpO_plain HSEP.out (by kernel_rfl) (by rfl) (fun K hK => ?_); go_simp; refine hK _ ?_; clear hK K; try go_ints) | (refine wpO_store HSEP.out (by rfl) (by rfl) (by kernel_rfl) (fun K hK => ⟨fun x cs hcs hx => (by clear hK HSEP; rcases hcs with hcs | hcs <;> (rw [hcs] at hx; clear hcs; go_simp; done)), hK _ ?_⟩); clear hK K; try go_ints))
        refine wpGho_nil ?_
        intro wO oO gO
        clear HSEP
        go_wp2_with fail
        refine bodyPost_ret (v := .tuple #[.agg (#[.string ⟨h.random.toArray⟩, .string ⟨h.session.toArray⟩, .slice aS h.suites.length cS, .slice aV h.versions.length cV, .slice aG h.groups.length cG, .slice aC h.schemes.length cC, .slice aH h.shares.length cH, .bool h.shared, .string ⟨h.cookie.toArray⟩, .string KB, .bool h.early, .slice aO h.others.length cO]), .int .i64 270]) (results_cell_tmp Try.results63 _ _ (w.heap.size + 1) 38 (#[.string ⟨h.random.toArray⟩, .string ⟨h.session.toArray⟩, .slice aS h.suites.length cS, .slice aV h.versions.length cV, .slice aG h.groups.length cG, .slice aC h.schemes.length cC, .slice aH h.shares.length cH, .bool h.shared, .string ⟨h.cookie.toArray⟩, .string KB, .bool h.early, .slice aO h.others.length cO]) (0, 0) _ (.int .i64 270) (by rfl) (by rfl) (by rw [← hget_eq]; go_simp) Try.underlying38 rfl (by rw [info_Hello]; go_simp)) rfl ?_
        exact PutV.bad (HT7.out.below.trans (oO.below (fun e he => by rw [he]; omega) HT7.out.below.size)) HPU.out rfl rfl rfl (by decide)
      · obtain rfl : x = K := (HNV.out _ hx).symm
        have HPU := hid hpu
        have HKB := hid hKB
        clear hpu hx hKB hK
        obtain ⟨hgP, -⟩ : TS w7 (w.heap.size + 1 + 1) (some []) := by have := HT7.out.hP; rw [hen] at this; exact this
        have jE : ∀ x : LaterO (w.heap.size + 1) w7, x.w'.cell? ⟨w.heap.size + 1 + 1, 1, none⟩ = some (.int .i64 0) := fun x => cell_at (x.h.get hgP (by simp)) 1
        have hR7 := HT7.out.hR
        unfold zcells at hR7
        clear hgP hen
        refine wp_region_old (w.heap.size + 1) 5 (#[.string ⟨#[]⟩, .string ⟨#[]⟩, .slice none 0 0, .slice none 0 0, .slice none 0 0, .slice none 0 0, .slice none 0 0, .bool false, .string ⟨#[]⟩, .string ⟨#[]⟩, .bool false, .slice none 0 0]) (#[.string ⟨h.random.toArray⟩, .string ⟨h.session.toArray⟩, .slice aS h.suites.length cS, .slice aV h.versions.length cV, .slice aG h.groups.length cG, .slice aC h.schemes.length cC, .slice aH h.shares.length cH, .bool h.shared, .string ⟨h.cookie.toArray⟩, .string KB, .bool h.early, .slice aO h.others.length cO]) (38) (by kernel_rfl) (by kernel_rfl) (by first | assumption | go_simp) (by kernel_rfl) (by decide) (fun hsep => ?_)
        have HSEP := hid hsep
        clear hsep
        repeat (first | (refine wpO_plain HSEP.out (by kernel_rfl) (by rfl) (fun K hK => ?_); go_simp; refine hK _ ?_; clear hK K; try go_ints) | (refine wpO_store HSEP.out (by rfl) (by rfl) (by kernel_rfl) (fun K hK => ⟨fun x cs hcs hx => (by clear hK HSEP; rcases hcs with hcs | hcs <;> (rw [hcs] at hx; clear hcs; go_simp; done)), hK _ ?_⟩); clear hK K; try go_ints))
        refine wpGho_nil ?_
        intro wO oO gO
        clear HSEP
        go_wp2_with fail
        refine bodyPost_ret (v := .tuple #[.agg (#[.string ⟨h.random.toArray⟩, .string ⟨h.session.toArray⟩, .slice aS h.suites.length cS, .slice aV h.versions.length cV, .slice aG h.groups.length cG, .slice aC h.schemes.length cC, .slice aH h.shares.length cH, .bool h.shared, .string ⟨h.cookie.toArray⟩, .string KB, .bool h.early, .slice aO h.others.length cO]), .int .i64 0]) (results_cell_tmp Try.results63 _ _ (w.heap.size + 1) 38 (#[.string ⟨h.random.toArray⟩, .string ⟨h.session.toArray⟩, .slice aS h.suites.length cS, .slice aV h.versions.length cV, .slice aG h.groups.length cG, .slice aC h.schemes.length cC, .slice aH h.shares.length cH, .bool h.shared, .string ⟨h.cookie.toArray⟩, .string KB, .bool h.early, .slice aO h.others.length cO]) (0, 0) _ (.int .i64 0) (by rfl) (by rfl) (by rw [← hget_eq]; go_simp) Try.underlying38 rfl (by rw [info_Hello]; go_simp)) rfl ?_
        have hbO := HT7.out.below.trans (oO.below (fun e he => by rw [he]; omega) HT7.out.below.size)
        have hrO := HR.out.keep hbO
        refine PutV.good (g := { h with name := x }) hbO HPU.out ?_ ⟨hrO.s, hrO.v, hrO.g, hrO.c, hrO.sh, hrO.o, hrO.ls, hrO.lv, hrO.lg, hrO.lc, hrO.lh⟩ (fun _ _ hf => ⟨hf.s, hf.v, hf.g, hf.c, hf.sh, hf.o⟩)
        rw [← HKB.out]; rfl
    | some rP =>
      obtain ⟨hgP, hlP⟩ := hP8
      have cP : w8.cell? ⟨w.heap.size + 1 + 1, 1, none⟩ = some (.int .i64 0) := cell_at hgP 1
      have fP := free_at hgP
      have hQ8 := HQ8.out
      cases o6 with
      | none =>
        obtain ⟨sQ, hgQ, -⟩ := hQ8
        have cQ : w8.cell? ⟨Q, 1, none⟩ = some (.int .i64 270) := cell_at hgQ 1
        have hoe : Out (· = w.heap.size + 1 + 1) w8 (w8.setCell ⟨w.heap.size + 1 + 1, 1, none⟩ (.int .i64 270)) := Out.setCell (Out.refl (· = w.heap.size + 1 + 1) w8) (.inl rfl) _
        have hT := H8.out.out hoe (o' := none) ⟨rP, hget_setCell hgP 1 _, hlP⟩
        have hen := rends_t hT.hP
        rw [show HE.endO none = HE.endO oF by rw [HNO.out]; rfl] at hen
        have HT := hid hT
        have HEN := hid hen
        clear hen H8 hgP hgQ hoe hT
        go_wp2_with fail
        refine HEN.out.mono ?_
        rintro e w7 ⟨ho, rfl, hp7⟩
        have HT7 := hid (HT.out.out ho hp7)
        have HO7 := hid ho
        clear HEN HT hp7 ho
        go_upto_region 29 with (fail)
        have jH : ∀ x : LaterO (w.heap.size + 1) w7, hget x.w' w.heap.size = some (.cells #[.string ⟨h.random.toArray⟩, .string ⟨h.session.toArray⟩, .slice aS h.suites.length cS, .slice aV h.versions.length cV, .slice aG h.groups.length cG, .slice aC h.schemes.length cC, .slice aH h.shares.length cH, .bool h.shared, .string ⟨h.cookie.toArray⟩, .string KB, .bool h.early, .slice aO h.others.length cO] 38 (0, 0)) := fun x => x.h.get HT7.out.hH (by simp)
        rcases HPO.out with ⟨hen, hpu⟩ | ⟨x, hx, hen, hpu⟩
        · have HPU := hid hpu
          clear hpu hKB hK
          obtain ⟨sP, hgP, -⟩ : TS w7 (w.heap.size + 1 + 1) none := by have := HT7.out.hP; rw [hen] at this; exact this
          have jE : ∀ x : LaterO (w.heap.size + 1) w7, x.w'.cell? ⟨w.heap.size + 1 + 1, 1, none⟩ = some (.int .i64 270) := fun x => cell_at (x.h.get hgP (by simp)) 1
          have hR7 := HT7.out.hR
          unfold zcells at hR7
          clear hgP hen
          refine wp_region_old (w.heap.size + 1) 5 (#[.string ⟨#[]⟩, .string ⟨#[]⟩, .slice none 0 0, .slice none 0 0, .slice none 0 0, .slice none 0 0, .slice none 0 0, .bool false, .string ⟨#[]⟩, .string ⟨#[]⟩, .bool false, .slice none 0 0]) (#[.string ⟨h.random.toArray⟩, .string ⟨h.session.toArray⟩, .slice aS h.suites.length cS, .slice aV h.versions.length cV, .slice aG h.groups.length cG, .slice aC h.schemes.length cC, .slice aH h.shares.length cH, .bool h.shared, .string ⟨h.cookie.toArray⟩, .string KB, .bool h.early, .slice aO h.others.length cO]) (38) (by kernel_rfl) (by kernel_rfl) (by first | assumption | go_simp) (by kernel_rfl) (by decide) (fun hsep => ?_)
          have HSEP := hid hsep
          clear hsep
          repeat (first | (refine wpO_plain HSEP.out (by kernel_rfl) (by rfl) (fun K hK => ?_); go_simp; refine hK _ ?_; clear hK K; try go_ints) | (refine wpO_store HSEP.out (by rfl) (by rfl) (by kernel_rfl) (fun K hK => ⟨fun x cs hcs hx => (by clear hK HSEP; rcases hcs with hcs | hcs <;> (rw [hcs] at hx; clear hcs; go_simp; done)), hK _ ?_⟩); clear hK K; try go_ints))
          refine wpGho_nil ?_
          intro wO oO gO
          clear HSEP
          go_wp2_with fail
          refine bodyPost_ret (v := .tuple #[.agg (#[.string ⟨h.random.toArray⟩, .string ⟨h.session.toArray⟩, .slice aS h.suites.length cS, .slice aV h.versions.length cV, .slice aG h.groups.length cG, .slice aC h.schemes.length cC, .slice aH h.shares.length cH, .bool h.shared, .string ⟨h.cookie.toArray⟩, .string KB, .bool h.early, .slice aO h.others.length cO]), .int .i64 270]) (results_cell_tmp Try.results63 _ _ (w.heap.size + 1) 38 (#[.string ⟨h.random.toArray⟩, .string ⟨h.session.toArray⟩, .slice aS h.suites.length cS, .slice aV h.versions.length cV, .slice aG h.groups.length cG, .slice aC h.schemes.length cC, .slice aH h.shares.length cH, .bool h.shared, .string ⟨h.cookie.toArray⟩, .string KB, .bool h.early, .slice aO h.others.length cO]) (0, 0) _ (.int .i64 270) (by rfl) (by rfl) (by rw [← hget_eq]; go_simp) Try.underlying38 rfl (by rw [info_Hello]; go_simp)) rfl ?_
          exact PutV.bad (HT7.out.below.trans (oO.below (fun e he => by rw [he]; omega) HT7.out.below.size)) HPU.out rfl rfl rfl (by decide)
        · obtain rfl : x = K := (HNV.out _ hx).symm
          have HPU := hid hpu
          have HKB := hid hKB
          clear hpu hx hKB hK
          obtain ⟨hgP, -⟩ : TS w7 (w.heap.size + 1 + 1) (some []) := by have := HT7.out.hP; rw [hen] at this; exact this
          have jE : ∀ x : LaterO (w.heap.size + 1) w7, x.w'.cell? ⟨w.heap.size + 1 + 1, 1, none⟩ = some (.int .i64 0) := fun x => cell_at (x.h.get hgP (by simp)) 1
          have hR7 := HT7.out.hR
          unfold zcells at hR7
          clear hgP hen
          refine wp_region_old (w.heap.size + 1) 5 (#[.string ⟨#[]⟩, .string ⟨#[]⟩, .slice none 0 0, .slice none 0 0, .slice none 0 0, .slice none 0 0, .slice none 0 0, .bool false, .string ⟨#[]⟩, .string ⟨#[]⟩, .bool false, .slice none 0 0]) (#[.string ⟨h.random.toArray⟩, .string ⟨h.session.toArray⟩, .slice aS h.suites.length cS, .slice aV h.versions.length cV, .slice aG h.groups.length cG, .slice aC h.schemes.length cC, .slice aH h.shares.length cH, .bool h.shared, .string ⟨h.cookie.toArray⟩, .string KB, .bool h.early, .slice aO h.others.length cO]) (38) (by kernel_rfl) (by kernel_rfl) (by first | assumption | go_simp) (by kernel_rfl) (by decide) (fun hsep => ?_)
          have HSEP := hid hsep
          clear hsep
          repeat (first | (refine wpO_plain HSEP.out (by kernel_rfl) (by rfl) (fun K hK => ?_); go_simp; refine hK _ ?_; clear hK K; try go_ints) | (refine wpO_store HSEP.out (by rfl) (by rfl) (by kernel_rfl) (fun K hK => ⟨fun x cs hcs hx => (by clear hK HSEP; rcases hcs with hcs | hcs <;> (rw [hcs] at hx; clear hcs; go_simp; done)), hK _ ?_⟩); clear hK K; try go_ints))
          refine wpGho_nil ?_
          intro wO oO gO
          clear HSEP
          go_wp2_with fail
          refine bodyPost_ret (v := .tuple #[.agg (#[.string ⟨h.random.toArray⟩, .string ⟨h.session.toArray⟩, .slice aS h.suites.length cS, .slice aV h.versions.length cV, .slice aG h.groups.length cG, .slice aC h.schemes.length cC, .slice aH h.shares.length cH, .bool h.shared, .string ⟨h.cookie.toArray⟩, .string KB, .bool h.early, .slice aO h.others.length cO]), .int .i64 0]) (results_cell_tmp Try.results63 _ _ (w.heap.size + 1) 38 (#[.string ⟨h.random.toArray⟩, .string ⟨h.session.toArray⟩, .slice aS h.suites.length cS, .slice aV h.versions.length cV, .slice aG h.groups.length cG, .slice aC h.schemes.length cC, .slice aH h.shares.length cH, .bool h.shared, .string ⟨h.cookie.toArray⟩, .string KB, .bool h.early, .slice aO h.others.length cO]) (0, 0) _ (.int .i64 0) (by rfl) (by rfl) (by rw [← hget_eq]; go_simp) Try.underlying38 rfl (by rw [info_Hello]; go_simp)) rfl ?_
          have hbO := HT7.out.below.trans (oO.below (fun e he => by rw [he]; omega) HT7.out.below.size)
          have hrO := HR.out.keep hbO
          refine PutV.good (g := { h with name := x }) hbO HPU.out ?_ ⟨hrO.s, hrO.v, hrO.g, hrO.c, hrO.sh, hrO.o, hrO.ls, hrO.lv, hrO.lg, hrO.lc, hrO.lh⟩ (fun _ _ hf => ⟨hf.s, hf.v, hf.g, hf.c, hf.sh, hf.o⟩)
          rw [← HKB.out]; rfl
      | some yQ =>
        obtain ⟨hgQ, -⟩ := hQ8
        have cQ : w8.cell? ⟨Q, 1, none⟩ = some (.int .i64 0) := cell_at hgQ 1
        have hoe : Out (· = w.heap.size + 1 + 1) w8 (w8.setCell ⟨w.heap.size + 1 + 1, 1, none⟩ (.int .i64 0)) := Out.setCell (Out.refl (· = w.heap.size + 1 + 1) w8) (.inl rfl) _
        have hT := H8.out.out hoe (o' := some rP) ⟨hget_setCell hgP 1 _, hlP⟩
        have hen := rends_t hT.hP
        rw [show HE.endO (some rP) = HE.endO oF by rw [HNO.out]; rfl] at hen
        have HT := hid hT
        have HEN := hid hen
        clear hen H8 hgP hgQ hoe hT
        go_wp2_with fail
        refine HEN.out.mono ?_
        rintro e w7 ⟨ho, rfl, hp7⟩
        have HT7 := hid (HT.out.out ho hp7)
        have HO7 := hid ho
        clear HEN HT hp7 ho
        go_upto_region 29 with (fail)
        have jH : ∀ x : LaterO (w.heap.size + 1) w7, hget x.w' w.heap.size = some (.cells #[.string ⟨h.random.toArray⟩, .string ⟨h.session.toArray⟩, .slice aS h.suites.length cS, .slice aV h.versions.length cV, .slice aG h.groups.length cG, .slice aC h.schemes.length cC, .slice aH h.shares.length cH, .bool h.shared, .string ⟨h.cookie.toArray⟩, .string KB, .bool h.early, .slice aO h.others.length cO] 38 (0, 0)) := fun x => x.h.get HT7.out.hH (by simp)
        rcases HPO.out with ⟨hen, hpu⟩ | ⟨x, hx, hen, hpu⟩
        · have HPU := hid hpu
          clear hpu hKB hK
          obtain ⟨sP, hgP, -⟩ : TS w7 (w.heap.size + 1 + 1) none := by have := HT7.out.hP; rw [hen] at this; exact this
          have jE : ∀ x : LaterO (w.heap.size + 1) w7, x.w'.cell? ⟨w.heap.size + 1 + 1, 1, none⟩ = some (.int .i64 270) := fun x => cell_at (x.h.get hgP (by simp)) 1
          have hR7 := HT7.out.hR
          unfold zcells at hR7
          clear hgP hen
          refine wp_region_old (w.heap.size + 1) 5 (#[.string ⟨#[]⟩, .string ⟨#[]⟩, .slice none 0 0, .slice none 0 0, .slice none 0 0, .slice none 0 0, .slice none 0 0, .bool false, .string ⟨#[]⟩, .string ⟨#[]⟩, .bool false, .slice none 0 0]) (#[.string ⟨h.random.toArray⟩, .string ⟨h.session.toArray⟩, .slice aS h.suites.length cS, .slice aV h.versions.length cV, .slice aG h.groups.length cG, .slice aC h.schemes.length cC, .slice aH h.shares.length cH, .bool h.shared, .string ⟨h.cookie.toArray⟩, .string KB, .bool h.early, .slice aO h.others.length cO]) (38) (by kernel_rfl) (by kernel_rfl) (by first | assumption | go_simp) (by kernel_rfl) (by decide) (fun hsep => ?_)
          have HSEP := hid hsep
          clear hsep
          repeat (first | (refine wpO_plain HSEP.out (by kernel_rfl) (by rfl) (fun K hK => ?_); go_simp; refine hK _ ?_; clear hK K; try go_ints) | (refine wpO_store HSEP.out (by rfl) (by rfl) (by kernel_rfl) (fun K hK => ⟨fun x cs hcs hx => (by clear hK HSEP; rcases hcs with hcs | hcs <;> (rw [hcs] at hx; clear hcs; go_simp; done)), hK _ ?_⟩); clear hK K; try go_ints))
          refine wpGho_nil ?_
          intro wO oO gO
          clear HSEP
          go_wp2_with fail
          refine bodyPost_ret (v := .tuple #[.agg (#[.string ⟨h.random.toArray⟩, .string ⟨h.session.toArray⟩, .slice aS h.suites.length cS, .slice aV h.versions.length cV, .slice aG h.groups.length cG, .slice aC h.schemes.length cC, .slice aH h.shares.length cH, .bool h.shared, .string ⟨h.cookie.toArray⟩, .string KB, .bool h.early, .slice aO h.others.length cO]), .int .i64 270]) (results_cell_tmp Try.results63 _ _ (w.heap.size + 1) 38 (#[.string ⟨h.random.toArray⟩, .string ⟨h.session.toArray⟩, .slice aS h.suites.length cS, .slice aV h.versions.length cV, .slice aG h.groups.length cG, .slice aC h.schemes.length cC, .slice aH h.shares.length cH, .bool h.shared, .string ⟨h.cookie.toArray⟩, .string KB, .bool h.early, .slice aO h.others.length cO]) (0, 0) _ (.int .i64 270) (by rfl) (by rfl) (by rw [← hget_eq]; go_simp) Try.underlying38 rfl (by rw [info_Hello]; go_simp)) rfl ?_
          exact PutV.bad (HT7.out.below.trans (oO.below (fun e he => by rw [he]; omega) HT7.out.below.size)) HPU.out rfl rfl rfl (by decide)
        · obtain rfl : x = K := (HNV.out _ hx).symm
          have HPU := hid hpu
          have HKB := hid hKB
          clear hpu hx hKB hK
          obtain ⟨hgP, -⟩ : TS w7 (w.heap.size + 1 + 1) (some []) := by have := HT7.out.hP; rw [hen] at this; exact this
          have jE : ∀ x : LaterO (w.heap.size + 1) w7, x.w'.cell? ⟨w.heap.size + 1 + 1, 1, none⟩ = some (.int .i64 0) := fun x => cell_at (x.h.get hgP (by simp)) 1
          have hR7 := HT7.out.hR
          unfold zcells at hR7
          clear hgP hen
          refine wp_region_old (w.heap.size + 1) 5 (#[.string ⟨#[]⟩, .string ⟨#[]⟩, .slice none 0 0, .slice none 0 0, .slice none 0 0, .slice none 0 0, .slice none 0 0, .bool false, .string ⟨#[]⟩, .string ⟨#[]⟩, .bool false, .slice none 0 0]) (#[.string ⟨h.random.toArray⟩, .string ⟨h.session.toArray⟩, .slice aS h.suites.length cS, .slice aV h.versions.length cV, .slice aG h.groups.length cG, .slice aC h.schemes.length cC, .slice aH h.shares.length cH, .bool h.shared, .string ⟨h.cookie.toArray⟩, .string KB, .bool h.early, .slice aO h.others.length cO]) (38) (by kernel_rfl) (by kernel_rfl) (by first | assumption | go_simp) (by kernel_rfl) (by decide) (fun hsep => ?_)
          have HSEP := hid hsep
          clear hsep
          repeat (first | (refine wpO_plain HSEP.out (by kernel_rfl) (by rfl) (fun K hK => ?_); go_simp; refine hK _ ?_; clear hK K; try go_ints) | (refine wpO_store HSEP.out (by rfl) (by rfl) (by kernel_rfl) (fun K hK => ⟨fun x cs hcs hx => (by clear hK HSEP; rcases hcs with hcs | hcs <;> (rw [hcs] at hx; clear hcs; go_simp; done)), hK _ ?_⟩); clear hK K; try go_ints))
          refine wpGho_nil ?_
          intro wO oO gO
          clear HSEP
          go_wp2_with fail
          refine bodyPost_ret (v := .tuple #[.agg (#[.string ⟨h.random.toArray⟩, .string ⟨h.session.toArray⟩, .slice aS h.suites.length cS, .slice aV h.versions.length cV, .slice aG h.groups.length cG, .slice aC h.schemes.length cC, .slice aH h.shares.length cH, .bool h.shared, .string ⟨h.cookie.toArray⟩, .string KB, .bool h.early, .slice aO h.others.length cO]), .int .i64 0]) (results_cell_tmp Try.results63 _ _ (w.heap.size + 1) 38 (#[.string ⟨h.random.toArray⟩, .string ⟨h.session.toArray⟩, .slice aS h.suites.length cS, .slice aV h.versions.length cV, .slice aG h.groups.length cG, .slice aC h.schemes.length cC, .slice aH h.shares.length cH, .bool h.shared, .string ⟨h.cookie.toArray⟩, .string KB, .bool h.early, .slice aO h.others.length cO]) (0, 0) _ (.int .i64 0) (by rfl) (by rfl) (by rw [← hget_eq]; go_simp) Try.underlying38 rfl (by rw [info_Hello]; go_simp)) rfl ?_
          have hbO := HT7.out.below.trans (oO.below (fun e he => by rw [he]; omega) HT7.out.below.size)
          have hrO := HR.out.keep hbO
          refine PutV.good (g := { h with name := x }) hbO HPU.out ?_ ⟨hrO.s, hrO.v, hrO.g, hrO.c, hrO.sh, hrO.o, hrO.ls, hrO.lv, hrO.lg, hrO.lc, hrO.lh⟩ (fun _ _ hf => ⟨hf.s, hf.v, hf.g, hf.c, hf.sh, hf.o⟩)
          rw [← HKB.out]; rfl
end
end Go.Proofs.Ytliblhfabnjpkaa
