/- The document's Put: a cookie, early data, a name, shares, what is not known. -/
import Derived.Test.YtliblhfabnjpkaaM11
namespace Go.Proofs.Ytliblhfabnjpkaa
open Go Go.RowKit
namespace HE
theorem some_state (o : Option BS) : someO (rs (o.bind (text 2))) (rv (o.bind (text 2))) = rs (o.bind (some' 2)) ∧ ∀ p, o.bind (some' 2) = some p → rv (o.bind (text 2)) = p.1 := by
  cases o with
  | none => exact ⟨rfl, fun p h => by cases h⟩
  | some d =>
    simp only [Option.bind_some]
    unfold some'
    cases text 2 d with
    | none => exact ⟨rfl, fun p h => by cases h⟩
    | some q =>
      obtain ⟨a, r⟩ := q
      simp only [Option.bind_some]
      by_cases ha : a = []
      · subst ha; exact ⟨rfl, fun p h => by cases h⟩
      · rw [if_neg ha]
        refine ⟨if_neg ha, fun p h => ?_⟩
        injection h with h
        rw [← h]; rfl
/-- What is left of the text behind a name: the text behind the list, if the list was read to its end. -/
def nameO (d : BS) : Option BS :=
  let q := ((some (rv (text 2 d))).bind (num 1))
  let o3 := if rn q = 0 then rs q else none
  let o5 := endO (someO (rs (o3.bind (text 2))) (rv (o3.bind (text 2))))
  match rs (text 2 d), o5 with
  | some r, some _ => some r
  | _, _ => none
theorem name_state (d : BS) : nameO d = rs (name d) ∧ ∀ p, name d = some p → rv ((if rn ((some (rv (text 2 d))).bind (num 1)) = 0 then rs ((some (rv (text 2 d))).bind (num 1)) else none).bind (text 2)) = p.1 := by
  unfold nameO name
  simp only [Option.bind_some]
  cases text 2 d with
  | none => exact ⟨rfl, fun p h => by cases h⟩
  | some sr =>
    obtain ⟨s, r⟩ := sr
    rw [show rv (some (s, r)) = s from rfl, show rs (some (s, r)) = some r from rfl]
    simp only [Option.bind_some]
    cases num 1 s with
    | none => exact ⟨rfl, fun p h => by cases h⟩
    | some xr =>
      obtain ⟨x, s2⟩ := xr
      rw [show rn (some (x, s2)) = x from rfl, show rs (some (x, s2)) = some s2 from rfl]
      simp only [Option.bind_some]
      by_cases hx : x = 0
      · rw [if_pos hx, if_pos hx]
        obtain ⟨h1, h2⟩ := some_state (some s2)
        rw [h1]
        simp only [Option.bind_some] at h2 ⊢
        cases hs : some' 2 s2 with
        | none => exact ⟨rfl, fun p h => by cases h⟩
        | some y =>
          obtain ⟨a, b⟩ := y
          have h3 := h2 _ hs
          simp only [Option.bind_some]
          by_cases hb : b = []
          · subst hb
            refine ⟨rfl, fun p h => ?_⟩
            rw [if_pos rfl] at h
            injection h with h
            rw [← h]; exact h3
          · rw [if_neg hb]
            refine ⟨?_, fun p h => by cases h⟩
            rw [show endO (rs (some (a, b))) = none from if_neg hb]
            rfl
      · rw [if_neg hx, if_neg hx]
        exact ⟨rfl, fun p h => by cases h⟩
theorem text_le {n : Nat} {d : BS} {m : Nat} (h : d.length ≤ m) : (rv (text n d)).length ≤ m := by
  have := rv_text_len n (some d) m (fun t e => by injection e with e; rw [← e]; exact h)
  simpa using this
end HE
attribute [local go_sem ↓] exl_Hello exs_Hello
      attribute [local go_sem] ldr_Hello str_Hello
section
variable {w : World} {h : Hel} {vS vV vG vC vH vO : Value}
set_option maxRecDepth 100000 in
set_option maxHeartbeats 4000000 in
theorem rput_cookie (hr : HRd w h vS vV vG vC vH vO) (d : HE.BS) (hd : d.length ≤ 1000000) :
    Calls Try.prog 63 #[.agg (helCells h vS vV vG vC vH vO), .int .u16 44, .string ⟨d.toArray⟩] w (PutV w h vS vV vG vC vH vO (HE.put h 44 d)) := by
  have hpo := HE.put_opt (h := h) (k := 44) (d := d) (HE.some' 2 d) (fun l => { h with cookie := l }) rfl
  obtain ⟨hs1, hs2⟩ := HE.some_state (some d)
  rw [Option.bind_some, Option.bind_some] at hs1
  rw [Option.bind_some, Option.bind_some] at hs2
  have HPO := hid hpo
  clear hpo
  obtain ⟨aS, cS, rfl⟩ := hr.s.sl
  obtain ⟨aV, cV, rfl⟩ := hr.v.sl
  obtain ⟨aG, cG, rfl⟩ := hr.g.sl
  obtain ⟨aC, cC, rfl⟩ := hr.c.sl
  obtain ⟨aH, cH, rfl⟩ := hr.sh.sl
  obtain ⟨aO, cO, rfl⟩ := hr.o.sl
  have HR := hid hr
  have hA := PtW.start w (helCells h (.slice aS h.suites.length cS) (.slice aV h.versions.length cV) (.slice aG h.groups.length cG) (.slice aC h.schemes.length cC) (.slice aH h.shares.length cH) (.slice aO h.others.length cO)) d hd
  unfold helCells zcells at hA
  unfold helCells
  have HA := hid hA
  clear hr hA
  go_enter Try.func63, Try.ntmps63
  go_upto_region 2 with (fail)
  generalize ((w.alloc (.cells #[.string ⟨h.random.toArray⟩, .string ⟨h.session.toArray⟩, .slice aS h.suites.length cS, .slice aV h.versions.length cV, .slice aG h.groups.length cG, .slice aC h.schemes.length cC, .slice aH h.shares.length cH, .bool h.shared, .string ⟨h.cookie.toArray⟩, .string ⟨h.name.toArray⟩, .bool h.early, .slice aO h.others.length cO] 38)).alloc (.cells #[.string ⟨#[]⟩, .string ⟨#[]⟩, .slice none 0 0, .slice none 0 0, .slice none 0 0, .slice none 0 0, .slice none 0 0, .bool false, .string ⟨#[]⟩, .string ⟨#[]⟩, .bool false, .slice none 0 0] 38)).alloc (.cells #[.string ⟨d.toArray⟩, .int .i64 0] 83) = wA at *
  have hnm := rlist_t HA.out.hP 2 (by omega)
  unfold TGives at hnm
  rw [Option.bind_some] at hnm
  generalize hK : HE.rv (HE.text 2 d) = K at *
  generalize HE.rs (HE.text 2 d) = o1 at *
  have HN := hid hnm
  have HS1 := hid hs1
  have HS2 := hid hs2
  clear hnm hK hs1 hs2
  go_wp2_with fail
  refine HN.out.mono ?_
  rintro e w4 ⟨ho, rfl, hp4⟩
  have H4 := hid (HA.out.out ho hp4)
  have hsm := rsome_t hp4 K
  unfold TGives at hsm
  have HSM := hid hsm
  clear HN HA ho hp4 hsm
  go_wp2_with fail
  refine HSM.out.mono ?_
  rintro e w5 ⟨ho, rfl, hp5⟩
  rw [HS1.out] at hp5
  have H5 := hid (H4.out.out ho hp5)
  have hH5 := H5.out.hH
  have cH5 : w5.cell? ⟨w.heap.size, 8, none⟩ = some _ := cell_at hH5 8
  have fH5 := free_at hH5
  obtain ⟨KB, hKB⟩ : ∃ KB, (⟨K.toArray⟩ : ByteArray) = KB := ⟨_, rfl⟩
  rw [hKB]
  have hset := H5.out.set 8 (.string KB)
  have hen := rends_t hset.hP
  simp only [List.setIfInBounds_toArray, List.set_cons_zero, List.set_cons_succ] at hset
  have HT := hid hset
  have HEN := hid hen
  clear hset hen hH5 H5 HSM H4 ho hp5
  go_wp2_with fail
  refine HEN.out.mono ?_
  rintro e w7 ⟨ho, rfl, hp7⟩
  have HT7 := hid (HT.out.out ho hp7)
  have HO7 := hid ho
  clear HEN HT hp7 ho
  go_upto_region 29 with (fail)
  have jH : ∀ x : LaterO (w.heap.size + 1) w7, hget x.w' w.heap.size = some (.cells #[.string ⟨h.random.toArray⟩, .string ⟨h.session.toArray⟩, .slice aS h.suites.length cS, .slice aV h.versions.length cV, .slice aG h.groups.length cG, .slice aC h.schemes.length cC, .slice aH h.shares.length cH, .bool h.shared, .string KB, .string ⟨h.name.toArray⟩, .bool h.early, .slice aO h.others.length cO] 38 (0, 0)) := fun x => x.h.get HT7.out.hH (by simp)
  rcases HPO.out with ⟨hen, hpu⟩ | ⟨x, hx, hen, hpu⟩
  · have HPU := hid hpu
    clear hpu hKB
    obtain ⟨sP, hgP, -⟩ : TS w7 (w.heap.size + 1 + 1) none := by have := HT7.out.hP; rw [hen] at this; exact this
    have jE : ∀ x : LaterO (w.heap.size + 1) w7, x.w'.cell? ⟨w.heap.size + 1 + 1, 1, none⟩ = some (.int .i64 270) := fun x => cell_at (x.h.get hgP (by simp)) 1
    have hR7 := HT7.out.hR
    unfold zcells at hR7
    clear hgP hen
    refine wp_region_old (w.heap.size + 1) 5 (#[.string ⟨#[]⟩, .string ⟨#[]⟩, .slice none 0 0, .slice none 0 0, .slice none 0 0, .slice none 0 0, .slice none 0 0, .bool false, .string ⟨#[]⟩, .string ⟨#[]⟩, .bool false, .slice none 0 0]) (#[.string ⟨h.random.toArray⟩, .string ⟨h.session.toArray⟩, .slice aS h.suites.length cS, .slice aV h.versions.length cV, .slice aG h.groups.length cG, .slice aC h.schemes.length cC, .slice aH h.shares.length cH, .bool h.shared, .string KB, .string ⟨h.name.toArray⟩, .bool h.early, .slice aO h.others.length cO]) (38) (by kernel_rfl) (by kernel_rfl) (by first | assumption | go_simp) (by kernel_rfl) (by decide) (fun hsep => ?_)
    have HSEP := hid hsep
    clear hsep
    repeat (first | (refine wpO_plain HSEP.out (by kernel_rfl) (by rfl) (fun K hK => ?_); go_simp; refine hK _ ?_; clear hK K; try go_ints) | (refine wpO_store HSEP.out (by rfl) (by rfl) (by kernel_rfl) (fun K hK => ⟨fun x cs hcs hx => (by clear hK HSEP; rcases hcs with hcs | hcs <;> (rw [hcs] at hx; clear hcs; go_simp; done)), hK _ ?_⟩); clear hK K; try go_ints))
    refine wpGho_nil ?_
    intro wO oO gO
    clear HSEP
    go_wp2_with fail
    refine bodyPost_ret (v := .tuple #[.agg (#[.string ⟨h.random.toArray⟩, .string ⟨h.session.toArray⟩, .slice aS h.suites.length cS, .slice aV h.versions.length cV, .slice aG h.groups.length cG, .slice aC h.schemes.length cC, .slice aH h.shares.length cH, .bool h.shared, .string KB, .string ⟨h.name.toArray⟩, .bool h.early, .slice aO h.others.length cO]), .int .i64 270]) (results_cell_tmp Try.results63 _ _ (w.heap.size + 1) 38 (#[.string ⟨h.random.toArray⟩, .string ⟨h.session.toArray⟩, .slice aS h.suites.length cS, .slice aV h.versions.length cV, .slice aG h.groups.length cG, .slice aC h.schemes.length cC, .slice aH h.shares.length cH, .bool h.shared, .string KB, .string ⟨h.name.toArray⟩, .bool h.early, .slice aO h.others.length cO]) (0, 0) _ (.int .i64 270) (by rfl) (by rfl) (by rw [← hget_eq]; go_simp) Try.underlying38 rfl (by rw [info_Hello]; go_simp)) rfl ?_
    exact PutV.bad (HT7.out.below.trans (oO.below (fun e he => by rw [he]; omega) HT7.out.below.size)) HPU.out rfl rfl rfl (by decide)
  · obtain rfl : x = K := (HS2.out _ hx).symm
    have HPU := hid hpu
    have HKB := hid hKB
    clear hpu hx hKB
    obtain ⟨hgP, -⟩ : TS w7 (w.heap.size + 1 + 1) (some []) := by have := HT7.out.hP; rw [hen] at this; exact this
    have jE : ∀ x : LaterO (w.heap.size + 1) w7, x.w'.cell? ⟨w.heap.size + 1 + 1, 1, none⟩ = some (.int .i64 0) := fun x => cell_at (x.h.get hgP (by simp)) 1
    have hR7 := HT7.out.hR
    unfold zcells at hR7
    clear hgP hen
    refine wp_region_old (w.heap.size + 1) 5 (#[.string ⟨#[]⟩, .string ⟨#[]⟩, .slice none 0 0, .slice none 0 0, .slice none 0 0, .slice none 0 0, .slice none 0 0, .bool false, .string ⟨#[]⟩, .string ⟨#[]⟩, .bool false, .slice none 0 0]) (#[.string ⟨h.random.toArray⟩, .string ⟨h.session.toArray⟩, .slice aS h.suites.length cS, .slice aV h.versions.length cV, .slice aG h.groups.length cG, .slice aC h.schemes.length cC, .slice aH h.shares.length cH, .bool h.shared, .string KB, .string ⟨h.name.toArray⟩, .bool h.early, .slice aO h.others.length cO]) (38) (by kernel_rfl) (by kernel_rfl) (by first | assumption | go_simp) (by kernel_rfl) (by decide) (fun hsep => ?_)
    have HSEP := hid hsep
    clear hsep
    repeat (first | (refine wpO_plain HSEP.out (by kernel_rfl) (by rfl) (fun K hK => ?_); go_simp; refine hK _ ?_; clear hK K; try go_ints) | (refine wpO_store HSEP.out (by rfl) (by rfl) (by kernel_rfl) (fun K hK => ⟨fun x cs hcs hx => (by clear hK HSEP; rcases hcs with hcs | hcs <;> (rw [hcs] at hx; clear hcs; go_simp; done)), hK _ ?_⟩); clear hK K; try go_ints))
    refine wpGho_nil ?_
    intro wO oO gO
    clear HSEP
    go_wp2_with fail
    refine bodyPost_ret (v := .tuple #[.agg (#[.string ⟨h.random.toArray⟩, .string ⟨h.session.toArray⟩, .slice aS h.suites.length cS, .slice aV h.versions.length cV, .slice aG h.groups.length cG, .slice aC h.schemes.length cC, .slice aH h.shares.length cH, .bool h.shared, .string KB, .string ⟨h.name.toArray⟩, .bool h.early, .slice aO h.others.length cO]), .int .i64 0]) (results_cell_tmp Try.results63 _ _ (w.heap.size + 1) 38 (#[.string ⟨h.random.toArray⟩, .string ⟨h.session.toArray⟩, .slice aS h.suites.length cS, .slice aV h.versions.length cV, .slice aG h.groups.length cG, .slice aC h.schemes.length cC, .slice aH h.shares.length cH, .bool h.shared, .string KB, .string ⟨h.name.toArray⟩, .bool h.early, .slice aO h.others.length cO]) (0, 0) _ (.int .i64 0) (by rfl) (by rfl) (by rw [← hget_eq]; go_simp) Try.underlying38 rfl (by rw [info_Hello]; go_simp)) rfl ?_
    have hbO := HT7.out.below.trans (oO.below (fun e he => by rw [he]; omega) HT7.out.below.size)
    have hrO := HR.out.keep hbO
    refine PutV.good (g := { h with cookie := x }) hbO HPU.out ?_ ⟨hrO.s, hrO.v, hrO.g, hrO.c, hrO.sh, hrO.o, hrO.ls, hrO.lv, hrO.lg, hrO.lc, hrO.lh⟩ (fun _ _ hf => ⟨hf.s, hf.v, hf.g, hf.c, hf.sh, hf.o⟩)
    rw [← HKB.out]; rfl
set_option maxRecDepth 100000 in
set_option maxHeartbeats 4000000 in
theorem rput_early (hr : HRd w h vS vV vG vC vH vO) (d : HE.BS) (hd : d.length ≤ 1000000) :
    Calls Try.prog 63 #[.agg (helCells h vS vV vG vC vH vO), .int .u16 42, .string ⟨d.toArray⟩] w (PutV w h vS vV vG vC vH vO (HE.put h 42 d)) := by
  have hpo := HE.put_opt (h := h) (k := 42) (d := d) (some ((), d)) (fun _ => { h with early := true }) rfl
  have HPO := hid hpo
  clear hpo
  obtain ⟨aS, cS, rfl⟩ := hr.s.sl
  obtain ⟨aV, cV, rfl⟩ := hr.v.sl
  obtain ⟨aG, cG, rfl⟩ := hr.g.sl
  obtain ⟨aC, cC, rfl⟩ := hr.c.sl
  obtain ⟨aH, cH, rfl⟩ := hr.sh.sl
  obtain ⟨aO, cO, rfl⟩ := hr.o.sl
  have HR := hid hr
  have hA := PtW.start w (helCells h (.slice aS h.suites.length cS) (.slice aV h.versions.length cV) (.slice aG h.groups.length cG) (.slice aC h.schemes.length cC) (.slice aH h.shares.length cH) (.slice aO h.others.length cO)) d hd
  unfold helCells zcells at hA
  unfold helCells
  have HA := hid hA
  clear hr hA
  go_enter Try.func63, Try.ntmps63
  go_upto_region 2 with (fail)
  generalize ((w.alloc (.cells #[.string ⟨h.random.toArray⟩, .string ⟨h.session.toArray⟩, .slice aS h.suites.length cS, .slice aV h.versions.length cV, .slice aG h.groups.length cG, .slice aC h.schemes.length cC, .slice aH h.shares.length cH, .bool h.shared, .string ⟨h.cookie.toArray⟩, .string ⟨h.name.toArray⟩, .bool h.early, .slice aO h.others.length cO] 38)).alloc (.cells #[.string ⟨#[]⟩, .string ⟨#[]⟩, .slice none 0 0, .slice none 0 0, .slice none 0 0, .slice none 0 0, .slice none 0 0, .bool false, .string ⟨#[]⟩, .string ⟨#[]⟩, .bool false, .slice none 0 0] 38)).alloc (.cells #[.string ⟨d.toArray⟩, .int .i64 0] 83) = wA at *
  have hH5 := HA.out.hH
  have cH5 : wA.cell? ⟨w.heap.size, 10, none⟩ = some _ := cell_at hH5 10
  have fH5 := free_at hH5
  have hset := HA.out.set 10 (.bool true)
  have hen := rends_t hset.hP
  simp only [List.setIfInBounds_toArray, List.set_cons_zero, List.set_cons_succ] at hset
  have HT := hid hset
  have HEN := hid hen
  clear hset hen hH5 HA
  go_wp2_with fail
  refine HEN.out.mono ?_
  rintro e w7 ⟨ho, rfl, hp7⟩
  have HT7 := hid (HT.out.out ho hp7)
  have HO7 := hid ho
  clear HEN HT hp7 ho
  go_upto_region 29 with (fail)
  have jH : ∀ x : LaterO (w.heap.size + 1) w7, hget x.w' w.heap.size = some (.cells #[.string ⟨h.random.toArray⟩, .string ⟨h.session.toArray⟩, .slice aS h.suites.length cS, .slice aV h.versions.length cV, .slice aG h.groups.length cG, .slice aC h.schemes.length cC, .slice aH h.shares.length cH, .bool h.shared, .string ⟨h.cookie.toArray⟩, .string ⟨h.name.toArray⟩, .bool true, .slice aO h.others.length cO] 38 (0, 0)) := fun x => x.h.get HT7.out.hH (by simp)
  rcases HPO.out with ⟨hen, hpu⟩ | ⟨x, hx, hen, hpu⟩
  · change HE.endO (some d) = none at hen
    have HPU := hid hpu
    clear hpu
    obtain ⟨sP, hgP, -⟩ : TS w7 (w.heap.size + 1 + 1) none := by have := HT7.out.hP; rw [hen] at this; exact this
    have jE : ∀ x : LaterO (w.heap.size + 1) w7, x.w'.cell? ⟨w.heap.size + 1 + 1, 1, none⟩ = some (.int .i64 270) := fun x => cell_at (x.h.get hgP (by simp)) 1
    have hR7 := HT7.out.hR
    unfold zcells at hR7
    clear hgP hen
    refine wp_region_old (w.heap.size + 1) 5 (#[.string ⟨#[]⟩, .string ⟨#[]⟩, .slice none 0 0, .slice none 0 0, .slice none 0 0, .slice none 0 0, .slice none 0 0, .bool false, .string ⟨#[]⟩, .string ⟨#[]⟩, .bool false, .slice none 0 0]) (#[.string ⟨h.random.toArray⟩, .string ⟨h.session.toArray⟩, .slice aS h.suites.length cS, .slice aV h.versions.length cV, .slice aG h.groups.length cG, .slice aC h.schemes.length cC, .slice aH h.shares.length cH, .bool h.shared, .string ⟨h.cookie.toArray⟩, .string ⟨h.name.toArray⟩, .bool true, .slice aO h.others.length cO]) (38) (by kernel_rfl) (by kernel_rfl) (by first | assumption | go_simp) (by kernel_rfl) (by decide) (fun hsep => ?_)
    have HSEP := hid hsep
    clear hsep
    repeat (first | (refine wpO_plain HSEP.out (by kernel_rfl) (by rfl) (fun K hK => ?_); go_simp; refine hK _ ?_; clear hK K; try go_ints) | (refine wpO_store HSEP.out (by rfl) (by rfl) (by kernel_rfl) (fun K hK => ⟨fun x cs hcs hx => (by clear hK HSEP; rcases hcs with hcs | hcs <;> (rw [hcs] at hx; clear hcs; go_simp; done)), hK _ ?_⟩); clear hK K; try go_ints))
    refine wpGho_nil ?_
    intro wO oO gO
    clear HSEP
    go_wp2_with fail
    refine bodyPost_ret (v := .tuple #[.agg (#[.string ⟨h.random.toArray⟩, .string ⟨h.session.toArray⟩, .slice aS h.suites.length cS, .slice aV h.versions.length cV, .slice aG h.groups.length cG, .slice aC h.schemes.length cC, .slice aH h.shares.length cH, .bool h.shared, .string ⟨h.cookie.toArray⟩, .string ⟨h.name.toArray⟩, .bool true, .slice aO h.others.length cO]), .int .i64 270]) (results_cell_tmp Try.results63 _ _ (w.heap.size + 1) 38 (#[.string ⟨h.random.toArray⟩, .string ⟨h.session.toArray⟩, .slice aS h.suites.length cS, .slice aV h.versions.length cV, .slice aG h.groups.length cG, .slice aC h.schemes.length cC, .slice aH h.shares.length cH, .bool h.shared, .string ⟨h.cookie.toArray⟩, .string ⟨h.name.toArray⟩, .bool true, .slice aO h.others.length cO]) (0, 0) _ (.int .i64 270) (by rfl) (by rfl) (by rw [← hget_eq]; go_simp) Try.underlying38 rfl (by rw [info_Hello]; go_simp)) rfl ?_
    exact PutV.bad (HT7.out.below.trans (oO.below (fun e he => by rw [he]; omega) HT7.out.below.size)) HPU.out rfl rfl rfl (by decide)
  · change HE.endO (some d) = some [] at hen
    have HPU := hid hpu
    clear hpu hx
    obtain ⟨hgP, -⟩ : TS w7 (w.heap.size + 1 + 1) (some []) := by have := HT7.out.hP; rw [hen] at this; exact this
    have jE : ∀ x : LaterO (w.heap.size + 1) w7, x.w'.cell? ⟨w.heap.size + 1 + 1, 1, none⟩ = some (.int .i64 0) := fun x => cell_at (x.h.get hgP (by simp)) 1
    have hR7 := HT7.out.hR
    unfold zcells at hR7
    clear hgP hen
    refine wp_region_old (w.heap.size + 1) 5 (#[.string ⟨#[]⟩, .string ⟨#[]⟩, .slice none 0 0, .slice none 0 0, .slice none 0 0, .slice none 0 0, .slice none 0 0, .bool false, .string ⟨#[]⟩, .string ⟨#[]⟩, .bool false, .slice none 0 0]) (#[.string ⟨h.random.toArray⟩, .string ⟨h.session.toArray⟩, .slice aS h.suites.length cS, .slice aV h.versions.length cV, .slice aG h.groups.length cG, .slice aC h.schemes.length cC, .slice aH h.shares.length cH, .bool h.shared, .string ⟨h.cookie.toArray⟩, .string ⟨h.name.toArray⟩, .bool true, .slice aO h.others.length cO]) (38) (by kernel_rfl) (by kernel_rfl) (by first | assumption | go_simp) (by kernel_rfl) (by decide) (fun hsep => ?_)
    have HSEP := hid hsep
    clear hsep
    repeat (first | (refine wpO_plain HSEP.out (by kernel_rfl) (by rfl) (fun K hK => ?_); go_simp; refine hK _ ?_; clear hK K; try go_ints) | (refine wpO_store HSEP.out (by rfl) (by rfl) (by kernel_rfl) (fun K hK => ⟨fun x cs hcs hx => (by clear hK HSEP; rcases hcs with hcs | hcs <;> (rw [hcs] at hx; clear hcs; go_simp; done)), hK _ ?_⟩); clear hK K; try go_ints))
    refine wpGho_nil ?_
    intro wO oO gO
    clear HSEP
    go_wp2_with fail
    refine bodyPost_ret (v := .tuple #[.agg (#[.string ⟨h.random.toArray⟩, .string ⟨h.session.toArray⟩, .slice aS h.suites.length cS, .slice aV h.versions.length cV, .slice aG h.groups.length cG, .slice aC h.schemes.length cC, .slice aH h.shares.length cH, .bool h.shared, .string ⟨h.cookie.toArray⟩, .string ⟨h.name.toArray⟩, .bool true, .slice aO h.others.length cO]), .int .i64 0]) (results_cell_tmp Try.results63 _ _ (w.heap.size + 1) 38 (#[.string ⟨h.random.toArray⟩, .string ⟨h.session.toArray⟩, .slice aS h.suites.length cS, .slice aV h.versions.length cV, .slice aG h.groups.length cG, .slice aC h.schemes.length cC, .slice aH h.shares.length cH, .bool h.shared, .string ⟨h.cookie.toArray⟩, .string ⟨h.name.toArray⟩, .bool true, .slice aO h.others.length cO]) (0, 0) _ (.int .i64 0) (by rfl) (by rfl) (by rw [← hget_eq]; go_simp) Try.underlying38 rfl (by rw [info_Hello]; go_simp)) rfl ?_
    have hbO := HT7.out.below.trans (oO.below (fun e he => by rw [he]; omega) HT7.out.below.size)
    have hrO := HR.out.keep hbO
    exact PutV.good (g := { h with early := true }) hbO HPU.out rfl ⟨hrO.s, hrO.v, hrO.g, hrO.c, hrO.sh, hrO.o, hrO.ls, hrO.lv, hrO.lg, hrO.lc, hrO.lh⟩ (fun _ _ hf => ⟨hf.s, hf.v, hf.g, hf.c, hf.sh, hf.o⟩)
end
end Go.Proofs.Ytliblhfabnjpkaa
