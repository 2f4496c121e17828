/- The document's Parse. What the document chooses of a hello. -/
import Derived.Test.YtliblhfabnjpkaaM14
import Derived.Test.YtliblhfabnjpkaaM05
namespace Go.Proofs.Ytliblhfabnjpkaa
open Go Go.RowKit
/-- What the document's Parse hands back. -/
def RParseV (W : World) (r : Except Int Hel) (e : Ending) (w' : World) : Prop :=
  Below W.heap.size W w' ∧ ∃ h c vS vV vG vC vH vO, e = .returned (.tuple #[.agg (helCells h vS vV vG vC vH vO), .int .i64 c]) ∧ HRd w' h vS vV vG vC vH vO ∧
    match r with
    | .ok h' => h = h' ∧ c = 0
    | .error c' => h = helZ ∧ c = c'
theorem hrd_zero (w : World) : HRd w helZ (.slice none 0 0) (.slice none 0 0) (.slice none 0 0) (.slice none 0 0) (.slice none 0 0) (.slice none 0 0) := by
  have n : NumsAt w (.slice none 0 0) [] := ⟨none, 0, rfl, by simp, fun k x h => by cases h⟩
  exact ⟨n, n, n, n, ⟨none, 0, rfl, fun k x h => by cases h⟩, n, Nat.zero_le _, Nat.zero_le _, Nat.zero_le _, Nat.zero_le _, Nat.zero_le _⟩
theorem RParseV.bad {W w' : World} {r : Except Int Hel} {e : Ending} {c : Int} (hb : Below W.heap.size W w') (hr : r = .error c) (he : e = .returned (.tuple #[.agg zcells, .int .i64 c])) : RParseV W r e w' := by
  subst hr; exact ⟨hb, helZ, c, _, _, _, _, _, _, he, hrd_zero _, rfl, rfl⟩
theorem RParseV.good {W w' : World} {r : Except Int Hel} {e : Ending} {g : Hel} {vS vV vG vC vH vO : Value} (hb : Below W.heap.size W w') (hr : r = .ok g) (he : e = .returned (.tuple #[.agg (helCells g vS vV vG vC vH vO), .int .i64 0])) (h : HRd w' g vS vV vG vC vH vO) : RParseV W r e w' := by
  subst hr; exact ⟨hb, g, 0, _, _, _, _, _, _, he, h, rfl, rfl⟩
/-- How memory stands while it runs. -/
structure RtW (W w : World) (cs : Array Value) (o : Option HE.BS) : Prop where
  hR : hget w W.heap.size = some (.cells zcells 38 (0, 0))
  hP : TS w (W.heap.size + 1) o
  hH : hget w (W.heap.size + 1 + 1) = some (.cells cs 38 (0, 0))
  below : Below W.heap.size W w
theorem RtW.start (W : World) (b : HE.BS) (hb : b.length ≤ 1000000) : RtW W (((W.alloc (.cells zcells 38)).alloc (.cells #[.string ⟨b.toArray⟩, .int .i64 0] 83)).alloc (.cells zcells 38)) zcells (some b) := by
  have b1 := below_new (w := W) (.cells zcells 38)
  have b2 := below_new (w := W.alloc (.cells zcells 38)) (.cells #[.string ⟨b.toArray⟩, .int .i64 0] 83)
  have b3 := below_new (w := (W.alloc (.cells zcells 38)).alloc (.cells #[.string ⟨b.toArray⟩, .int .i64 0] 83)) (.cells zcells 38)
  have g1 : hget (W.alloc (.cells zcells 38)) W.heap.size = some (.cells zcells 38 (0, 0)) := alloc_at _ _
  have g2 : hget ((W.alloc (.cells zcells 38)).alloc (.cells #[.string ⟨b.toArray⟩, .int .i64 0] 83)) (W.alloc (.cells zcells 38)).heap.size = some (.cells #[.string ⟨b.toArray⟩, .int .i64 0] 83 (0, 0)) := alloc_at _ _
  have g3 : hget (((W.alloc (.cells zcells 38)).alloc (.cells #[.string ⟨b.toArray⟩, .int .i64 0] 83)).alloc (.cells zcells 38)) ((W.alloc (.cells zcells 38)).alloc (.cells #[.string ⟨b.toArray⟩, .int .i64 0] 83)).heap.size = some (.cells zcells 38 (0, 0)) := alloc_at _ _
  have z1 : (W.alloc (.cells zcells 38)).heap.size = W.heap.size + 1 := by simp
  have z2 : ((W.alloc (.cells zcells 38)).alloc (.cells #[.string ⟨b.toArray⟩, .int .i64 0] 83)).heap.size = W.heap.size + 1 + 1 := by simp
  rw [z1] at g2
  rw [z2] at g3
  exact ⟨keepB b3 (keepB b2 g1), ⟨keepB b3 g2, hb⟩, g3, below_to (below_to b1 b2) b3⟩
section
variable {W w w' : World} {cs : Array Value} {o o' : Option HE.BS}
theorem RtW.out (h : RtW W w cs o) (ho : Out (· = W.heap.size + 1) w w') (hp : TS w' (W.heap.size + 1) o') : RtW W w' cs o' :=
  ⟨ho.get h.hR (by omega), hp, ho.get h.hH (by omega), h.below.trans (ho.below (fun k e => by rw [e]; omega) h.below.size)⟩
theorem RtW.new (h : RtW W w cs o) (hb : Below w.heap.size w w') : RtW W w' cs o := ⟨keepB hb h.hR, h.hP.below hb, keepB hb h.hH, below_to h.below hb⟩
theorem RtW.set (h : RtW W w cs o) (j : Nat) (v : Value) : RtW W (w.setCell ⟨W.heap.size + 1 + 1, j, none⟩ v) (cs.setIfInBounds j v) o := by
  have ho : Out (· = W.heap.size + 1 + 1) w (w.setCell ⟨W.heap.size + 1 + 1, j, none⟩ v) := Out.setCell (Out.refl (· = W.heap.size + 1 + 1) w) (.inl rfl) v
  exact ⟨ho.get h.hR (by omega), h.hP.out ho (by omega), hget_setCell h.hH j v, h.below.trans (ho.below (fun k e => by rw [e]; omega) h.below.size)⟩
theorem RtW.lt (h : RtW W w cs o) : W.heap.size + 1 + 1 < w.heap.size := hget_lt h.hH
end
theorem hel_start {w : World} {B : Nat} {rnd ses : HE.BS} {su : List Nat} {v : Value} (h : w.ownsRow B 56 1 v su.length (u16s su)) (h1 : ∀ x ∈ su, x < 65536) (h2 : su.length ≤ 1000000) : HRd w { helZ with random := rnd, session := ses, suites := su } v (.slice none 0 0) (.slice none 0 0) (.slice none 0 0) (.slice none 0 0) (.slice none 0 0) := by
  have n : NumsAt w (.slice none 0 0) [] := ⟨none, 0, rfl, by simp, fun k x h => by cases h⟩
  exact ⟨NumsAt.of h h1, n, n, n, ⟨none, 0, rfl, fun k x h => by cases h⟩, n, Nat.le_trans h2 (by decide), Nat.zero_le _, Nat.zero_le _, Nat.zero_le _, Nat.zero_le _⟩
namespace HE
theorem rest_of (r5 : BS) (f : BS → Except Int Hel) : (match text 2 r5 with | none => Except.error 270 | some (x, r6) => if r6 = [] then f x else .error 270) = match endO (rs (text 2 r5)) with | none => .error 270 | some _ => f (rv (text 2 r5)) := by
  cases text 2 r5 with
  | none => rfl
  | some y =>
    obtain ⟨x, r6⟩ := y
    by_cases hr : r6 = []
    · subst hr; rfl
    · rw [show endO (rs (some (x, r6))) = none from if_neg hr]
      exact if_neg hr
theorem start_none {b : BS} (h : start b = none) : rs ((rs ((rs ((some b).bind (take 2))).bind (take 32))).bind (text 1)) = none := by
  unfold start at h
  rw [Option.bind_some]
  cases h1 : take 2 b with
  | none => rfl
  | some p =>
    rw [h1] at h
    simp only [Option.bind_some] at h
    show rs ((rs ((some p.2).bind (take 32))).bind (text 1)) = none
    rw [Option.bind_some]
    cases h2 : take 32 p.2 with
    | none => rfl
    | some q =>
      rw [h2] at h
      simp only [Option.bind_some, Option.map_eq_none_iff] at h
      show rs ((some q.2).bind (text 1)) = none
      rw [Option.bind_some, h]; rfl
theorem start_some {b rnd ses r : BS} (h : start b = some (rnd, ses, r)) : rv ((rs ((some b).bind (take 2))).bind (take 32)) = rnd ∧ rv ((rs ((rs ((some b).bind (take 2))).bind (take 32))).bind (text 1)) = ses ∧ rs ((rs ((rs ((some b).bind (take 2))).bind (take 32))).bind (text 1)) = some r ∧ ses.length ≤ b.length ∧ r.length ≤ b.length := by
  unfold start at h
  rw [Option.bind_some]
  cases h1 : take 2 b with
  | none => rw [h1] at h; cases h
  | some p =>
    rw [h1] at h
    simp only [Option.bind_some] at h
    rw [show rs (some p) = some p.2 from rfl, Option.bind_some]
    cases h2 : take 32 p.2 with
    | none => rw [h2] at h; cases h
    | some q =>
      rw [h2] at h
      simp only [Option.bind_some] at h
      rw [show rs (some q) = some q.2 from rfl, Option.bind_some]
      cases h3 : text 1 q.2 with
      | none => rw [h3] at h; cases h
      | some y =>
        rw [h3] at h
        injection h with h
        injection h with e1 h
        injection h with e2 e3
        subst e1 e2 e3
        obtain ⟨k1, k2, k3⟩ := take_some h1
        obtain ⟨k4, k5, k6⟩ := take_some h2
        obtain ⟨k7, k8⟩ := text_some h3
        have k9 : p.2.length ≤ b.length := by rw [k3, List.length_drop]; omega
        have k10 : q.2.length ≤ p.2.length := by rw [k6, List.length_drop]; omega
        exact ⟨rfl, rfl, rfl, by omega, by omega⟩
end HE
attribute [local go_sem ↓] exl_Hello exs_Hello
      attribute [local go_sem] ldr_Hello str_Hello
section
variable {w : World}
set_option maxRecDepth 100000 in
set_option maxHeartbeats 8000000 in
theorem rparse_any (b : HE.BS) (hb : b.length ≤ 1000000) : Calls Try.prog 12 #[.string ⟨b.toArray⟩] w (RParseV w (HE.parse b)) := by
  have hA := RtW.start w b hb
  obtain ⟨R0, hR0⟩ : ∃ R0, HE.parse b = R0 := ⟨_, rfl⟩
  have hP0 : R0 = match HE.start b with | none => .error 270 | some (rnd, ses, r) => if 32 < ses.length then .error 270 else HE.body2 rnd ses r := by rw [← hR0]; rfl
  rw [hR0]
  have HP0 := hid hP0
  unfold zcells at hA
  have HA := hid hA
  clear hA hP0 hR0
  go_enter Try.func12, Try.ntmps12
  go_upto_region 3 with (fail)
  generalize ((w.alloc (.cells #[.string ⟨#[]⟩, .string ⟨#[]⟩, .slice none 0 0, .slice none 0 0, .slice none 0 0, .slice none 0 0, .slice none 0 0, .bool false, .string ⟨#[]⟩, .string ⟨#[]⟩, .bool false, .slice none 0 0] 38)).alloc (.cells #[.string ⟨b.toArray⟩, .int .i64 0] 83)).alloc (.cells #[.string ⟨#[]⟩, .string ⟨#[]⟩, .slice none 0 0, .slice none 0 0, .slice none 0 0, .slice none 0 0, .slice none 0 0, .bool false, .string ⟨#[]⟩, .string ⟨#[]⟩, .bool false, .slice none 0 0] 38) = wA at *
  have ht1 := rtake_any HA.out.hP 2 (by omega)
  unfold TGives at ht1
  have hnn := HE.start_none (b := b)
  have hss := fun rnd ses r => HE.start_some (b := b) (rnd := rnd) (ses := ses) (r := r)
  generalize HE.rs ((some b).bind (HE.take 2)) = o1 at *
  have HT1 := hid ht1
  have HNN := hid hnn
  have HSS := hid hss
  clear ht1 hnn hss
  go_wp2_with fail
  refine HT1.out.mono ?_
  rintro e w1 ⟨ho, rfl, hp1⟩
  have H1 := hid (HA.out.out ho hp1)
  have ht2 := rtake_any hp1 32 (by omega)
  unfold TGives at ht2
  generalize HE.rv (o1.bind (HE.take 32)) = rnd at *
  generalize HE.rs (o1.bind (HE.take 32)) = o2 at *
  have HT2 := hid ht2
  clear ht2 ho hp1 HT1 HA
  go_wp2_with fail
  refine HT2.out.mono ?_
  rintro e w2 ⟨ho, rfl, hp2⟩
  have h2 := H1.out.out ho hp2
  have hH2 := h2.hH
  have cH2 : w2.cell? ⟨w.heap.size + 1 + 1, 0, none⟩ = some _ := cell_at hH2 0
  have fH2 := free_at hH2
  obtain ⟨RB, hRB⟩ : ∃ RB, (⟨rnd.toArray⟩ : ByteArray) = RB := ⟨_, rfl⟩
  rw [hRB]
  have hset := h2.set 0 (.string RB)
  simp only [List.setIfInBounds_toArray, List.set_cons_zero] at hset
  have hl3 := rlist_t hset.hP 1 (by omega)
  unfold TGives at hl3
  generalize HE.rv (o2.bind (HE.text 1)) = ses at *
  generalize HE.rs (o2.bind (HE.text 1)) = o3 at *
  have HRB := hid hRB
  have H2 := hid hset
  have HL3 := hid hl3
  clear h2 hH2 hset hl3 ho hp2 HT2 H1 hRB
  go_wp2_with fail
  refine HL3.out.mono ?_
  rintro e w3 ⟨ho, rfl, hp3⟩
  have h3 := H2.out.out ho hp3
  have hH3 := h3.hH
  have cH3 : w3.cell? ⟨w.heap.size + 1 + 1, 1, none⟩ = some _ := cell_at hH3 1
  have fH3 := free_at hH3
  have hsz := text_size ses
  obtain ⟨SB, hSB⟩ : ∃ SB, (⟨ses.toArray⟩ : ByteArray) = SB := ⟨_, rfl⟩
  rw [hSB] at hsz ⊢
  have hset := h3.set 1 (.string SB)
  simp only [List.setIfInBounds_toArray, List.set_cons_zero, List.set_cons_succ] at hset
  have HSB := hid hSB
  clear h3 hH3 ho hp3 HL3 H2 hSB cH2 fH2
  go_upto_region 6 with (fail)
  generalize w3.setCell ⟨w.heap.size + 1 + 1, 1, none⟩ (.string SB) = w4 at *
  have hH4 := hset.hH
  have c1 : w4.cell? ⟨w.heap.size + 1 + 1, 1, none⟩ = some (.string SB) := cell_at hH4 1
  have HQ := hid hset
  clear hset cH3 fH3 hH4
  cases hst : HE.start b with
  | none =>
    have h3n := HNN.out hst
    subst h3n
    have HX := hid (show R0 = .error 270 by rw [HP0.out, hst])
    have H4 := HQ
    obtain ⟨sP, hgP, -⟩ := HQ.out.hP
    have cP : w4.cell? ⟨w.heap.size + 1, 1, none⟩ = some (.int .i64 270) := cell_at hgP 1
    clear hgP hst HNN HSS HP0 HQ
    have hnm := rnumbers_t H4.out.hP 2 (by omega)
    rw [Option.bind_none] at hnm
    have HN := hid hnm
    clear hnm
    go_wp2_with fail
    refine HN.out.mono ?_
    rintro e w5 ⟨ho, hp5, v, rfl, hv⟩
    obtain ⟨av, cv, rfl⟩ := owns_sl hv
    have H5 := hid (H4.out.out ho hp5)
    have hH5 := H5.out.hH
    have cH5 : w5.cell? ⟨w.heap.size + 1 + 1, 2, none⟩ = some _ := cell_at hH5 2
    have fH5 := free_at hH5
    have hset := H5.out.set 2 (.slice av (HE.rl (none : Option (List Nat × HE.BS))).length cv)
    simp only [List.setIfInBounds_toArray, List.set_cons_zero, List.set_cons_succ] at hset
    have hls := rlist_t hset.hP 1 (by omega)
    unfold TGives at hls
    rw [show (HE.rs (none : Option (List Nat × HE.BS))).bind (HE.text 1) = none from rfl] at hls
    have H6 := hid hset
    have HLS := hid hls
    clear hset hls hH5 H5 HN hv ho hp5 H4
    go_wp2_with fail
    refine HLS.out.mono ?_
    rintro e w7 ⟨ho, rfl, hp7⟩
    have H7 := hid (H6.out.out ho (show TS w7 (w.heap.size + 1) none from hp7))
    have hz : (⟨(HE.rv (none : Option (HE.BS × HE.BS))).toArray⟩ : ByteArray) = ⟨#[]⟩ := rfl
    rw [hz]
    clear HLS H6 ho hp7 cH5 fH5 hz
    have hR7 := H7.out.hR
    obtain ⟨sP, hgP, -⟩ := H7.out.hP
    have cP7 : w7.cell? ⟨w.heap.size + 1, 1, none⟩ = some (.int .i64 270) := cell_at hgP 1
    have jE : ∀ x : LaterO w.heap.size w7, x.w'.cell? ⟨w.heap.size + 1, 1, none⟩ = some (.int .i64 270) := fun x => cell_at (x.h.get hgP (by simp)) 1
    clear hgP
    unfold zcells at hR7
    go_upto_region 13 with (fail)
    refine wp_region_old (w.heap.size) 5 (#[.string ⟨#[]⟩, .string ⟨#[]⟩, .slice none 0 0, .slice none 0 0, .slice none 0 0, .slice none 0 0, .slice none 0 0, .bool false, .string ⟨#[]⟩, .string ⟨#[]⟩, .bool false, .slice none 0 0]) (#[.string ⟨#[]⟩, .string ⟨#[]⟩, .slice none 0 0, .slice none 0 0, .slice none 0 0, .slice none 0 0, .slice none 0 0, .bool false, .string ⟨#[]⟩, .string ⟨#[]⟩, .bool false, .slice none 0 0]) (38) (by kernel_rfl) (by kernel_rfl) (by first | assumption | go_simp) (by kernel_rfl) (by decide) (fun hsep => ?_)
    have HSEP := hid hsep
    clear hsep
    repeat (first | (refine wpO_plain HSEP.out (by kernel_rfl) (by rfl) (fun K hK => ?_); go_simp; refine hK _ ?_; clear hK K; try go_ints) | (refine wpO_store HSEP.out (by rfl) (by rfl) (by kernel_rfl) (fun K hK => ⟨fun x cs hcs hx => (by clear hK HSEP; rcases hcs with hcs | hcs <;> (rw [hcs] at hx; clear hcs; go_simp; done)), hK _ ?_⟩); clear hK K; try go_ints))
    refine wpGho_nil ?_
    intro wO oO gO
    clear HSEP
    go_wp2_with fail
    refine bodyPost_ret (v := .tuple #[.agg (#[.string ⟨#[]⟩, .string ⟨#[]⟩, .slice none 0 0, .slice none 0 0, .slice none 0 0, .slice none 0 0, .slice none 0 0, .bool false, .string ⟨#[]⟩, .string ⟨#[]⟩, .bool false, .slice none 0 0]), .int .i64 270]) (results_cell_tmp Try.results12 _ _ (w.heap.size) 38 (#[.string ⟨#[]⟩, .string ⟨#[]⟩, .slice none 0 0, .slice none 0 0, .slice none 0 0, .slice none 0 0, .slice none 0 0, .bool false, .string ⟨#[]⟩, .string ⟨#[]⟩, .bool false, .slice none 0 0]) (0, 0) _ (.int .i64 270) (by rfl) (by rfl) (by rw [← hget_eq]; go_simp) Try.underlying38 rfl (by rw [info_Hello]; go_simp)) rfl ?_
    exact RParseV.bad ((H7.out.below).trans (oO.below (fun e he => by rw [he]; exact Nat.le_refl _) (H7.out.below).size)) HX.out rfl
  | some y =>
    obtain ⟨rnd', ses', r⟩ := y
    obtain ⟨e1, e2, e3, k1, k2⟩ := HSS.out _ _ _ hst
    subst e1 e2 e3
    have hP1 : R0 = if 32 < ses.length then .error 270 else HE.body2 rnd ses r := by rw [HP0.out, hst]
    obtain ⟨hgP, hlP⟩ := HQ.out.hP
    have cP : w4.cell? ⟨w.heap.size + 1, 1, none⟩ = some (.int .i64 0) := cell_at hgP 1
    have HP1 := hid hP1
    clear hst HNN HSS HP0 hP1
    by_cases h32 : 32 < ses.length
    · have d32 : decide ((32 : Int) < (ses.length : Int)) = true := decide_eq_true (by omega)
      have HX := hid (show R0 = .error 270 by rw [HP1.out, if_pos h32])
      have fP := free_at hgP
      have hoe : Out (· = w.heap.size + 1) w4 (w4.setCell ⟨w.heap.size + 1, 1, none⟩ (.int .i64 270)) := Out.setCell (Out.refl (· = w.heap.size + 1) w4) (.inl rfl) _
      have H4 := hid (HQ.out.out hoe (o' := none) ⟨r, hget_setCell hgP 1 _, hlP⟩)
      clear hoe hgP HQ HP1 h32
      have hnm := rnumbers_t H4.out.hP 2 (by omega)
      rw [Option.bind_none] at hnm
      have HN := hid hnm
      clear hnm
      go_wp2_with fail
      refine HN.out.mono ?_
      rintro e w5 ⟨ho, hp5, v, rfl, hv⟩
      obtain ⟨av, cv, rfl⟩ := owns_sl hv
      have H5 := hid (H4.out.out ho hp5)
      have hH5 := H5.out.hH
      have cH5 : w5.cell? ⟨w.heap.size + 1 + 1, 2, none⟩ = some _ := cell_at hH5 2
      have fH5 := free_at hH5
      have hset := H5.out.set 2 (.slice av (HE.rl (none : Option (List Nat × HE.BS))).length cv)
      simp only [List.setIfInBounds_toArray, List.set_cons_zero, List.set_cons_succ] at hset
      have hls := rlist_t hset.hP 1 (by omega)
      unfold TGives at hls
      rw [show (HE.rs (none : Option (List Nat × HE.BS))).bind (HE.text 1) = none from rfl] at hls
      have H6 := hid hset
      have HLS := hid hls
      clear hset hls hH5 H5 HN hv ho hp5 H4
      go_wp2_with fail
      refine HLS.out.mono ?_
      rintro e w7 ⟨ho, rfl, hp7⟩
      have H7 := hid (H6.out.out ho (show TS w7 (w.heap.size + 1) none from hp7))
      have hz : (⟨(HE.rv (none : Option (HE.BS × HE.BS))).toArray⟩ : ByteArray) = ⟨#[]⟩ := rfl
      rw [hz]
      clear HLS H6 ho hp7 cH5 fH5 hz
      have hR7 := H7.out.hR
      obtain ⟨sP, hgP, -⟩ := H7.out.hP
      have cP7 : w7.cell? ⟨w.heap.size + 1, 1, none⟩ = some (.int .i64 270) := cell_at hgP 1
      have jE : ∀ x : LaterO w.heap.size w7, x.w'.cell? ⟨w.heap.size + 1, 1, none⟩ = some (.int .i64 270) := fun x => cell_at (x.h.get hgP (by simp)) 1
      clear hgP
      unfold zcells at hR7
      go_upto_region 13 with (fail)
      refine wp_region_old (w.heap.size) 5 (#[.string ⟨#[]⟩, .string ⟨#[]⟩, .slice none 0 0, .slice none 0 0, .slice none 0 0, .slice none 0 0, .slice none 0 0, .bool false, .string ⟨#[]⟩, .string ⟨#[]⟩, .bool false, .slice none 0 0]) (#[.string ⟨#[]⟩, .string ⟨#[]⟩, .slice none 0 0, .slice none 0 0, .slice none 0 0, .slice none 0 0, .slice none 0 0, .bool false, .string ⟨#[]⟩, .string ⟨#[]⟩, .bool false, .slice none 0 0]) (38) (by kernel_rfl) (by kernel_rfl) (by first | assumption | go_simp) (by kernel_rfl) (by decide) (fun hsep => ?_)
      have HSEP := hid hsep
      clear hsep
      repeat (first | (refine wpO_plain HSEP.out (by kernel_rfl) (by rfl) (fun K hK => ?_); go_simp; refine hK _ ?_; clear hK K; try go_ints) | (refine wpO_store HSEP.out (by rfl) (by rfl) (by kernel_rfl) (fun K hK => ⟨fun x cs hcs hx => (by clear hK HSEP; rcases hcs with hcs | hcs <;> (rw [hcs] at hx; clear hcs; go_simp; done)), hK _ ?_⟩); clear hK K; try go_ints))
      refine wpGho_nil ?_
      intro wO oO gO
      clear HSEP
      go_wp2_with fail
      refine bodyPost_ret (v := .tuple #[.agg (#[.string ⟨#[]⟩, .string ⟨#[]⟩, .slice none 0 0, .slice none 0 0, .slice none 0 0, .slice none 0 0, .slice none 0 0, .bool false, .string ⟨#[]⟩, .string ⟨#[]⟩, .bool false, .slice none 0 0]), .int .i64 270]) (results_cell_tmp Try.results12 _ _ (w.heap.size) 38 (#[.string ⟨#[]⟩, .string ⟨#[]⟩, .slice none 0 0, .slice none 0 0, .slice none 0 0, .slice none 0 0, .slice none 0 0, .bool false, .string ⟨#[]⟩, .string ⟨#[]⟩, .bool false, .slice none 0 0]) (0, 0) _ (.int .i64 270) (by rfl) (by rfl) (by rw [← hget_eq]; go_simp) Try.underlying38 rfl (by rw [info_Hello]; go_simp)) rfl ?_
      exact RParseV.bad ((H7.out.below).trans (oO.below (fun e he => by rw [he]; exact Nat.le_refl _) (H7.out.below).size)) HX.out rfl
    · have d32 : decide ((32 : Int) < (ses.length : Int)) = false := decide_eq_false (by omega)
      have HP2 := hid (show R0 = HE.body2 rnd ses r by rw [HP1.out, if_neg h32])
      clear hgP HP1 h32
      cases hn : HE.numbers 2 r with
      | none =>
        have HX := hid (show R0 = .error 270 by rw [HP2.out]; unfold HE.body2; rw [hn])
        have H4 := HQ
        clear HP2 HQ
        have hnm := rnumbers_t H4.out.hP 2 (by omega)
        rw [Option.bind_some, hn] at hnm
        have HN := hid hnm
        clear hnm
        go_wp2_with fail
        refine HN.out.mono ?_
        rintro e w5 ⟨ho, hp5, v, rfl, hv⟩
        obtain ⟨av, cv, rfl⟩ := owns_sl hv
        have H5 := hid (H4.out.out ho hp5)
        have hH5 := H5.out.hH
        have cH5 : w5.cell? ⟨w.heap.size + 1 + 1, 2, none⟩ = some _ := cell_at hH5 2
        have fH5 := free_at hH5
        have hset := H5.out.set 2 (.slice av (HE.rl (none : Option (List Nat × HE.BS))).length cv)
        simp only [List.setIfInBounds_toArray, List.set_cons_zero, List.set_cons_succ] at hset
        have hls := rlist_t hset.hP 1 (by omega)
        unfold TGives at hls
        rw [show (HE.rs (none : Option (List Nat × HE.BS))).bind (HE.text 1) = none from rfl] at hls
        have H6 := hid hset
        have HLS := hid hls
        clear hset hls hH5 H5 HN hv ho hp5 H4
        go_wp2_with fail
        refine HLS.out.mono ?_
        rintro e w7 ⟨ho, rfl, hp7⟩
        have H7 := hid (H6.out.out ho (show TS w7 (w.heap.size + 1) none from hp7))
        have hz : (⟨(HE.rv (none : Option (HE.BS × HE.BS))).toArray⟩ : ByteArray) = ⟨#[]⟩ := rfl
        rw [hz]
        clear HLS H6 ho hp7 cH5 fH5 hz
        have hR7 := H7.out.hR
        obtain ⟨sP, hgP, -⟩ := H7.out.hP
        have cP7 : w7.cell? ⟨w.heap.size + 1, 1, none⟩ = some (.int .i64 270) := cell_at hgP 1
        have jE : ∀ x : LaterO w.heap.size w7, x.w'.cell? ⟨w.heap.size + 1, 1, none⟩ = some (.int .i64 270) := fun x => cell_at (x.h.get hgP (by simp)) 1
        clear hgP
        unfold zcells at hR7
        go_upto_region 13 with (fail)
        refine wp_region_old (w.heap.size) 5 (#[.string ⟨#[]⟩, .string ⟨#[]⟩, .slice none 0 0, .slice none 0 0, .slice none 0 0, .slice none 0 0, .slice none 0 0, .bool false, .string ⟨#[]⟩, .string ⟨#[]⟩, .bool false, .slice none 0 0]) (#[.string ⟨#[]⟩, .string ⟨#[]⟩, .slice none 0 0, .slice none 0 0, .slice none 0 0, .slice none 0 0, .slice none 0 0, .bool false, .string ⟨#[]⟩, .string ⟨#[]⟩, .bool false, .slice none 0 0]) (38) (by kernel_rfl) (by kernel_rfl) (by first | assumption | go_simp) (by kernel_rfl) (by decide) (fun hsep => ?_)
        have HSEP := hid hsep
        clear hsep
        repeat (first | (refine wpO_plain HSEP.out (by kernel_rfl) (by rfl) (fun K hK => ?_); go_simp; refine hK _ ?_; clear hK K; try go_ints) | (refine wpO_store HSEP.out (by rfl) (by rfl) (by kernel_rfl) (fun K hK => ⟨fun x cs hcs hx => (by clear hK HSEP; rcases hcs with hcs | hcs <;> (rw [hcs] at hx; clear hcs; go_simp; done)), hK _ ?_⟩); clear hK K; try go_ints))
        refine wpGho_nil ?_
        intro wO oO gO
        clear HSEP
        go_wp2_with fail
        refine bodyPost_ret (v := .tuple #[.agg (#[.string ⟨#[]⟩, .string ⟨#[]⟩, .slice none 0 0, .slice none 0 0, .slice none 0 0, .slice none 0 0, .slice none 0 0, .bool false, .string ⟨#[]⟩, .string ⟨#[]⟩, .bool false, .slice none 0 0]), .int .i64 270]) (results_cell_tmp Try.results12 _ _ (w.heap.size) 38 (#[.string ⟨#[]⟩, .string ⟨#[]⟩, .slice none 0 0, .slice none 0 0, .slice none 0 0, .slice none 0 0, .slice none 0 0, .bool false, .string ⟨#[]⟩, .string ⟨#[]⟩, .bool false, .slice none 0 0]) (0, 0) _ (.int .i64 270) (by rfl) (by rfl) (by rw [← hget_eq]; go_simp) Try.underlying38 rfl (by rw [info_Hello]; go_simp)) rfl ?_
        exact RParseV.bad ((H7.out.below).trans (oO.below (fun e he => by rw [he]; exact Nat.le_refl _) (H7.out.below).size)) HX.out rfl
      | some z =>
        obtain ⟨su, r4⟩ := z
        obtain ⟨n1, n2, n3⟩ := HE.numbers_good hn
        have hnm := rnumbers_t HQ.out.hP 2 (by omega)
        rw [Option.bind_some, hn] at hnm
        have HN := hid hnm
        have hlt4 := HQ.out.lt
        have hP3 : R0 = match HE.text 1 r4 with
          | none => .error 270
          | some (c, r5) => if c = [0] then (if r5 = [] then .ok { helZ with random := rnd, session := ses, suites := su } else match HE.text 2 r5 with | none => .error 270 | some (x, r6) => if r6 = [] then HE.extN 64 { helZ with random := rnd, session := ses, suites := su } [] x else .error 270) else .error 271 := by
          rw [HP2.out]; unfold HE.body2; rw [hn]; rfl
        have HP3 := hid hP3
        have HN1 := hid (And.intro n1 (Nat.le_trans n2 (Nat.le_trans k2 hb)))
        clear hnm hn n1 n2 HP2 hP3
        go_wp2_with fail
        refine HN.out.mono ?_
        rintro e w5 ⟨ho, hp5, v, rfl, hv⟩
        obtain ⟨av, cv, hvv⟩ := owns_sl hv
        subst hvv
        have hv' : w5.ownsRow w4.heap.size 56 1 (.slice av su.length cv) su.length (u16s su) := hv
        have h5 := HQ.out.out ho hp5
        have hH5 := h5.hH
        have cH5 : w5.cell? ⟨w.heap.size + 1 + 1, 2, none⟩ = some _ := cell_at hH5 2
        have fH5 := free_at hH5
        have hset := h5.set 2 (.slice av su.length cv)
        simp only [List.setIfInBounds_toArray, List.set_cons_zero, List.set_cons_succ] at hset
        have HV := hid (owns_base (owns_out hv' (Out.setCell (p := ⟨w.heap.size + 1 + 1, 2, none⟩) (Out.refl (· = w.heap.size + 1 + 1) w5) (.inl rfl) (.slice av su.length cv)) (fun k hk e => by omega)) (show w.heap.size + 1 + 1 + 1 ≤ _ by omega))
        have hls := rlist_t hset.hP 1 (by omega)
        unfold TGives at hls
        rw [show (HE.rs (some (su, r4))).bind (HE.text 1) = HE.text 1 r4 from rfl] at hls
        have H6 := hid hset
        have hrlv : HE.rl (some (su, r4)) = su := rfl
        rw [hrlv]
        cases ht : HE.text 1 r4 with
        | none =>
          have HX := hid (show R0 = .error 270 by rw [HP3.out, ht])
          rw [ht] at hls
          have HLS := hid hls
          clear hset hls hH5 h5 HN hv hv' ho hp5 HQ ht HP3 hrlv
          go_wp2_with fail
          refine HLS.out.mono ?_
          rintro e w7 ⟨ho, rfl, hp7⟩
          have H7 := hid (H6.out.out ho (show TS w7 (w.heap.size + 1) none from hp7))
          have hz : (⟨(HE.rv (none : Option (HE.BS × HE.BS))).toArray⟩ : ByteArray) = ⟨#[]⟩ := rfl
          rw [hz]
          clear HLS H6 ho hp7 cH5 fH5 hz
          have hR7 := H7.out.hR
          obtain ⟨sP, hgP, -⟩ := H7.out.hP
          have cP7 : w7.cell? ⟨w.heap.size + 1, 1, none⟩ = some (.int .i64 270) := cell_at hgP 1
          have jE : ∀ x : LaterO w.heap.size w7, x.w'.cell? ⟨w.heap.size + 1, 1, none⟩ = some (.int .i64 270) := fun x => cell_at (x.h.get hgP (by simp)) 1
          clear hgP
          unfold zcells at hR7
          go_upto_region 13 with (fail)
          refine wp_region_old (w.heap.size) 5 (#[.string ⟨#[]⟩, .string ⟨#[]⟩, .slice none 0 0, .slice none 0 0, .slice none 0 0, .slice none 0 0, .slice none 0 0, .bool false, .string ⟨#[]⟩, .string ⟨#[]⟩, .bool false, .slice none 0 0]) (#[.string ⟨#[]⟩, .string ⟨#[]⟩, .slice none 0 0, .slice none 0 0, .slice none 0 0, .slice none 0 0, .slice none 0 0, .bool false, .string ⟨#[]⟩, .string ⟨#[]⟩, .bool false, .slice none 0 0]) (38) (by kernel_rfl) (by kernel_rfl) (by first | assumption | go_simp) (by kernel_rfl) (by decide) (fun hsep => ?_)
          have HSEP := hid hsep
          clear hsep
          repeat (first | (refine wpO_plain HSEP.out (by kernel_rfl) (by rfl) (fun K hK => ?_); go_simp; refine hK _ ?_; clear hK K; try go_ints) | (refine wpO_store HSEP.out (by rfl) (by rfl) (by kernel_rfl) (fun K hK => ⟨fun x cs hcs hx => (by clear hK HSEP; rcases hcs with hcs | hcs <;> (rw [hcs] at hx; clear hcs; go_simp; done)), hK _ ?_⟩); clear hK K; try go_ints))
          refine wpGho_nil ?_
          intro wO oO gO
          clear HSEP
          go_wp2_with fail
          refine bodyPost_ret (v := .tuple #[.agg (#[.string ⟨#[]⟩, .string ⟨#[]⟩, .slice none 0 0, .slice none 0 0, .slice none 0 0, .slice none 0 0, .slice none 0 0, .bool false, .string ⟨#[]⟩, .string ⟨#[]⟩, .bool false, .slice none 0 0]), .int .i64 270]) (results_cell_tmp Try.results12 _ _ (w.heap.size) 38 (#[.string ⟨#[]⟩, .string ⟨#[]⟩, .slice none 0 0, .slice none 0 0, .slice none 0 0, .slice none 0 0, .slice none 0 0, .bool false, .string ⟨#[]⟩, .string ⟨#[]⟩, .bool false, .slice none 0 0]) (0, 0) _ (.int .i64 270) (by rfl) (by rfl) (by rw [← hget_eq]; go_simp) Try.underlying38 rfl (by rw [info_Hello]; go_simp)) rfl ?_
          exact RParseV.bad ((H7.out.below).trans (oO.below (fun e he => by rw [he]; exact Nat.le_refl _) (H7.out.below).size)) HX.out rfl
        | some y =>
          obtain ⟨c, r5⟩ := y
          rw [ht] at hls
          have HLS := hid hls
          have hr5 := (HE.text_some ht).1
          have HP4 := hid (show R0 = if c = [0] then (if r5 = [] then .ok { helZ with random := rnd, session := ses, suites := su } else match HE.text 2 r5 with | none => .error 270 | some (x, r6) => if r6 = [] then HE.extN 64 { helZ with random := rnd, session := ses, suites := su } [] x else .error 270) else .error 271 by rw [HP3.out, ht])
          clear hset hls hH5 h5 HN hv hv' ho hp5 HQ ht HP3 hrlv
          go_wp2_with fail
          refine HLS.out.mono ?_
          rintro e w7 ⟨ho, rfl, hp7⟩
          have h7 := H6.out.out ho (show TS w7 (w.heap.size + 1) (some r5) from hp7)
          have HV7 := hid (owns_out HV.out ho (fun k hk e => by omega))
          have hz : HE.rv (some (c, r5)) = c := rfl
          rw [hz]
          have heq : (⟨c.toArray⟩ : ByteArray).toList = c := ByteArray.toList_mk _
          obtain ⟨CB, hCB⟩ : ∃ CB, (⟨c.toArray⟩ : ByteArray) = CB := ⟨_, rfl⟩
          rw [hCB] at heq ⊢
          obtain ⟨hgP, hlP7⟩ := h7.hP
          have cP7 : w7.cell? ⟨w.heap.size + 1, 1, none⟩ = some (.int .i64 0) := cell_at hgP 1
          have cS7 : w7.cell? ⟨w.heap.size + 1, 0, none⟩ = some (.string ⟨r5.toArray⟩) := cell_at hgP 0
          have H7 := hid h7
          have HGP := hid hgP
          clear HLS H6 ho hp7 cH5 fH5 hz h7 hgP hCB HV
          by_cases hc : c = [0]
          · have dc : (c == [0]) = true := by rw [hc]; rfl
            have HP5 := hid (HP4.out.trans (if_pos hc))
            clear hc HP4
            have hemp := str_empty r5
            obtain ⟨T5, hT5⟩ : ∃ T, (⟨r5.toArray⟩ : ByteArray) = T := ⟨_, rfl⟩
            rw [hT5] at hemp cS7
            clear hT5
            have hH7 := H7.out.hH
            have hR7 := H7.out.hR
            have hlt7 : w.heap.size < w7.heap.size := by have := H7.out.lt; omega
            unfold zcells at hR7
            by_cases hr5e : r5 = []
            · rw [decide_eq_true hr5e] at hemp
              have HX := hid (HP5.out.trans (if_pos hr5e))
              clear hr5e HP5
              go_wp2_with fail
              refine bodyPost_ret (v := .tuple #[.agg (#[.string RB, .string SB, .slice av su.length cv, .slice none 0 0, .slice none 0 0, .slice none 0 0, .slice none 0 0, .bool false, .string ⟨#[]⟩, .string ⟨#[]⟩, .bool false, .slice none 0 0]), .int .i64 0]) (results_cell_tmp Try.results12 _ _ (w.heap.size) 38 (#[.string RB, .string SB, .slice av su.length cv, .slice none 0 0, .slice none 0 0, .slice none 0 0, .slice none 0 0, .bool false, .string ⟨#[]⟩, .string ⟨#[]⟩, .bool false, .slice none 0 0]) (0, 0) _ (.int .i64 0) (by rfl) (by rfl) (by rw [← hget_eq]; go_simp) Try.underlying38 rfl (by rw [info_Hello]; go_simp)) rfl ?_
              have hoR : Out (· = w.heap.size) w7 (blk w7 w.heap.size (.cells #[.string RB, .string SB, .slice av su.length cv, .slice none 0 0, .slice none 0 0, .slice none 0 0, .slice none 0 0, .bool false, .string ⟨#[]⟩, .string ⟨#[]⟩, .bool false, .slice none 0 0] 38 (0, 0))) := (Out.refl (· = w.heap.size) w7).blk (.inl rfl) _
              have hvR := owns_out HV7.out hoR (fun k hk e => by omega)
              refine RParseV.good (H7.out.below.trans (hoR.below (fun k e => by rw [e]; exact Nat.le_refl _) H7.out.below.size)) HX.out ?_ (hel_start hvR HN1.out.1 HN1.out.2)
              rw [← HRB.out, ← HSB.out]; rfl
            · rw [decide_eq_false hr5e] at hemp
              have HX := hid (show R0 = match HE.endO (HE.rs (HE.text 2 r5)) with | none => .error 270 | some _ => HE.extN 64 { helZ with random := rnd, session := ses, suites := su } [] (HE.rv (HE.text 2 r5)) from (HP5.out.trans (if_neg hr5e)).trans (HE.rest_of r5 (fun x => HE.extN 64 { helZ with random := rnd, session := ses, suites := su } [] x)))
              have hls := rlist_t H7.out.hP 2 (by omega)
              unfold TGives at hls
              rw [Option.bind_some] at hls
              have hxl := HE.text_le (n := 2) hlP7
              generalize HE.rv (HE.text 2 r5) = x at *
              generalize HE.rs (HE.text 2 r5) = o8 at *
              have HLS := hid hls
              clear hr5e HP5 hls hH7 hR7 hlt7 HGP
              go_wp2_with fail
              refine HLS.out.mono ?_
              rintro e w8 ⟨ho, rfl, hp8⟩
              have h8 := H7.out.out ho hp8
              have hV8 := owns_out HV7.out ho (fun k hk e => by omega)
              have hbq := below_new (w := w8) (.cells #[.string ⟨x.toArray⟩, .int .i64 0] 83)
              have hq : TS (w8.alloc (.cells #[.string ⟨x.toArray⟩, .int .i64 0] 83)) w8.heap.size (some x) := ⟨alloc_at _ _, hxl⟩
              have h9 := h8.new hbq
              have hV9 := owns_out hV8 (Out.of_below (ex := fun _ => False) hbq) (fun _ _ e => e)
              have hQ := h8.lt
              have hen := rends_t h9.hP
              obtain ⟨Q, hQe⟩ : ∃ Q, w8.heap.size = Q := ⟨_, rfl⟩
              rw [hQe] at hQ hq
              have HQE := hid hQe
              have HEN := hid hen
              have H9 := hid h9
              have HV9 := hid hV9
              have HQ9 := hid hq
              clear HLS ho hp8 h8 hV8 hbq hq h9 hV9 hen hQe H7 HV7 cP7 cS7 hemp
              go_wp2_with fail
              rw [HQE.out]
              refine HEN.out.mono ?_
              rintro e w10 ⟨ho, rfl, hp10⟩
              have H10 := hid (H9.out.out ho hp10)
              have HV10 := hid (owns_out HV9.out ho (fun k hk e => by omega))
              have HQ10 := hid (HQ9.out.out ho (by omega))
              clear HEN ho hp10 H9 HV9 HQ9
              generalize HE.endO o8 = o9 at *
              cases o9 with
              | none =>
                have HX2 := hid (show R0 = .error 270 from HX.out)
                clear HX
                have hR7 := H10.out.hR
                obtain ⟨sP, hgP, -⟩ := H10.out.hP
                have cP7 : w10.cell? ⟨w.heap.size + 1, 1, none⟩ = some (.int .i64 270) := cell_at hgP 1
                have jE : ∀ x : LaterO w.heap.size w10, x.w'.cell? ⟨w.heap.size + 1, 1, none⟩ = some (.int .i64 270) := fun x => cell_at (x.h.get hgP (by simp)) 1
                clear hgP
                unfold zcells at hR7
                go_upto_region 19 with (fail)
                refine wp_region_old (w.heap.size) 5 (#[.string ⟨#[]⟩, .string ⟨#[]⟩, .slice none 0 0, .slice none 0 0, .slice none 0 0, .slice none 0 0, .slice none 0 0, .bool false, .string ⟨#[]⟩, .string ⟨#[]⟩, .bool false, .slice none 0 0]) (#[.string ⟨#[]⟩, .string ⟨#[]⟩, .slice none 0 0, .slice none 0 0, .slice none 0 0, .slice none 0 0, .slice none 0 0, .bool false, .string ⟨#[]⟩, .string ⟨#[]⟩, .bool false, .slice none 0 0]) (38) (by kernel_rfl) (by kernel_rfl) (by first | assumption | go_simp) (by kernel_rfl) (by decide) (fun hsep => ?_)
                have HSEP := hid hsep
                clear hsep
                repeat (first | (refine wpO_plain HSEP.out (by kernel_rfl) (by rfl) (fun K hK => ?_); go_simp; refine hK _ ?_; clear hK K; try go_ints) | (refine wpO_store HSEP.out (by rfl) (by rfl) (by kernel_rfl) (fun K hK => ⟨fun x cs hcs hx => (by clear hK HSEP; rcases hcs with hcs | hcs <;> (rw [hcs] at hx; clear hcs; go_simp; done)), hK _ ?_⟩); clear hK K; try go_ints))
                refine wpGho_nil ?_
                intro wO oO gO
                clear HSEP
                go_wp2_with fail
                refine bodyPost_ret (v := .tuple #[.agg (#[.string ⟨#[]⟩, .string ⟨#[]⟩, .slice none 0 0, .slice none 0 0, .slice none 0 0, .slice none 0 0, .slice none 0 0, .bool false, .string ⟨#[]⟩, .string ⟨#[]⟩, .bool false, .slice none 0 0]), .int .i64 270]) (results_cell_tmp Try.results12 _ _ (w.heap.size) 38 (#[.string ⟨#[]⟩, .string ⟨#[]⟩, .slice none 0 0, .slice none 0 0, .slice none 0 0, .slice none 0 0, .slice none 0 0, .bool false, .string ⟨#[]⟩, .string ⟨#[]⟩, .bool false, .slice none 0 0]) (0, 0) _ (.int .i64 270) (by rfl) (by rfl) (by rw [← hget_eq]; go_simp) Try.underlying38 rfl (by rw [info_Hello]; go_simp)) rfl ?_
                exact RParseV.bad ((H10.out.below).trans (oO.below (fun e he => by rw [he]; exact Nat.le_refl _) (H10.out.below).size)) HX2.out rfl
              | some y9 =>
                have HX2 := hid (show R0 = HE.extN 64 { helZ with random := rnd, session := ses, suites := su } [] x from HX.out)
                obtain ⟨hgP, -⟩ := H10.out.hP
                have cP10 : w10.cell? ⟨w.heap.size + 1, 1, none⟩ = some (.int .i64 0) := cell_at hgP 1
                have hH10 := H10.out.hH
                have hxt : Calls Try.prog 43 #[.agg #[.string RB, .string SB, .slice av su.length cv, .slice none 0 0, .slice none 0 0, .slice none 0 0, .slice none 0 0, .bool false, .string ⟨#[]⟩, .string ⟨#[]⟩, .bool false, .slice none 0 0], .pointer (some ⟨Q, 0, none⟩)] w10 (ExtV w10 Q (HE.extN 64 { helZ with random := rnd, session := ses, suites := su } [] x)) := by
                  rw [← HRB.out, ← HSB.out]
                  exact rexts_any (hel_start HV10.out HN1.out.1 HN1.out.2) rfl Q x HQ10.out
                have HXT := hid hxt
                clear hxt hgP HX
                go_wp2_with fail
                refine HXT.out.mono ?_
                rintro e w11 ⟨ho, hx⟩
                have hb11 := H10.out.below.trans (ho.below (fun k e => by rw [e]; omega) H10.out.below.size)
                have hR11 := ho.get H10.out.hR (by omega)
                have hl11 : w.heap.size < w11.heap.size := hget_lt hR11
                unfold zcells at hR11
                cases hxn : HE.extN 64 { helZ with random := rnd, session := ses, suites := su } [] x with
                | error c' =>
                  rw [hxn] at hx
                  obtain rfl : e = .returned (.tuple #[.agg zcells, .int .i64 c']) := hx
                  have HX3 := hid (HX2.out.trans hxn)
                  have HB11 := hid hb11
                  unfold zcells
                  clear hxn HX2 ho HXT H10 hb11
                  go_wp2_with fail
                  refine bodyPost_ret (v := .tuple #[.agg (#[.string ⟨#[]⟩, .string ⟨#[]⟩, .slice none 0 0, .slice none 0 0, .slice none 0 0, .slice none 0 0, .slice none 0 0, .bool false, .string ⟨#[]⟩, .string ⟨#[]⟩, .bool false, .slice none 0 0]), .int .i64 c']) (results_cell_tmp Try.results12 _ _ (w.heap.size) 38 (#[.string ⟨#[]⟩, .string ⟨#[]⟩, .slice none 0 0, .slice none 0 0, .slice none 0 0, .slice none 0 0, .slice none 0 0, .bool false, .string ⟨#[]⟩, .string ⟨#[]⟩, .bool false, .slice none 0 0]) (0, 0) _ (.int .i64 c') (by rfl) (by rfl) (by rw [← hget_eq]; go_simp) Try.underlying38 rfl (by rw [info_Hello]; go_simp)) rfl ?_
                  exact RParseV.bad (HB11.out.trans (((Out.refl (· = w.heap.size) w11).blk (.inl rfl) (.cells #[.string ⟨#[]⟩, .string ⟨#[]⟩, .slice none 0 0, .slice none 0 0, .slice none 0 0, .slice none 0 0, .slice none 0 0, .bool false, .string ⟨#[]⟩, .string ⟨#[]⟩, .bool false, .slice none 0 0] 38 (0, 0))).below (fun k e => by rw [e]; exact Nat.le_refl _) HB11.out.size)) HX3.out rfl
                | ok g =>
                  rw [hxn] at hx
                  obtain ⟨vS, vV, vG, vC, vH, vO, rfl, hr11⟩ := hx
                  obtain ⟨eS, fS, rfl⟩ := hr11.s.sl
                  obtain ⟨eV, fV, rfl⟩ := hr11.v.sl
                  obtain ⟨eG, fG, rfl⟩ := hr11.g.sl
                  obtain ⟨eC, fC, rfl⟩ := hr11.c.sl
                  obtain ⟨eH, fH, rfl⟩ := hr11.sh.sl
                  obtain ⟨eO, fO, rfl⟩ := hr11.o.sl
                  have HX3 := hid (HX2.out.trans hxn)
                  have HB11 := hid hb11
                  have HR11 := hid hr11
                  have hno : NoU16 w11 (· = w.heap.size) := hel_no (h := helZ) hR11
                  have HNO := hid hno
                  unfold helCells
                  clear hxn HX2 ho HXT H10 hb11 hr11 hno
                  go_wp2_with fail
                  refine bodyPost_ret (v := .tuple #[.agg (#[.string ⟨g.random.toArray⟩, .string ⟨g.session.toArray⟩, .slice eS g.suites.length fS, .slice eV g.versions.length fV, .slice eG g.groups.length fG, .slice eC g.schemes.length fC, .slice eH g.shares.length fH, .bool g.shared, .string ⟨g.cookie.toArray⟩, .string ⟨g.name.toArray⟩, .bool g.early, .slice eO g.others.length fO]), .int .i64 0]) (results_cell_tmp Try.results12 _ _ (w.heap.size) 38 (#[.string ⟨g.random.toArray⟩, .string ⟨g.session.toArray⟩, .slice eS g.suites.length fS, .slice eV g.versions.length fV, .slice eG g.groups.length fG, .slice eC g.schemes.length fC, .slice eH g.shares.length fH, .bool g.shared, .string ⟨g.cookie.toArray⟩, .string ⟨g.name.toArray⟩, .bool g.early, .slice eO g.others.length fO]) (0, 0) _ (.int .i64 0) (by rfl) (by rfl) (by rw [← hget_eq]; go_simp) Try.underlying38 rfl (by rw [info_Hello]; go_simp)) rfl ?_
                  have hoR : Out (· = w.heap.size) w11 (blk w11 w.heap.size (.cells #[.string ⟨g.random.toArray⟩, .string ⟨g.session.toArray⟩, .slice eS g.suites.length fS, .slice eV g.versions.length fV, .slice eG g.groups.length fG, .slice eC g.schemes.length fC, .slice eH g.shares.length fH, .bool g.shared, .string ⟨g.cookie.toArray⟩, .string ⟨g.name.toArray⟩, .bool g.early, .slice eO g.others.length fO] 38 (0, 0))) := (Out.refl (· = w.heap.size) w11).blk (.inl rfl) _
                  exact RParseV.good (g := g) (HB11.out.trans (hoR.below (fun k e => by rw [e]; exact Nat.le_refl _) HB11.out.size)) HX3.out rfl (HR11.out.out hoR HNO.out)
          · have dc : (c == [0]) = false := beq_eq_false_iff_ne.2 hc
            have HX := hid (show R0 = .error 271 from HP4.out.trans (if_neg hc))
            have fP7 := free_at HGP.out
            have hoe : Out (· = w.heap.size + 1) w7 (w7.setCell ⟨w.heap.size + 1, 1, none⟩ (.int .i64 271)) := Out.setCell (Out.refl (· = w.heap.size + 1) w7) (.inl rfl) _
            have hgE := hget_setCell HGP.out 1 (.int .i64 271)
            have hbE := H7.out.below.trans (hoe.below (fun k e => by rw [e]; omega) H7.out.below.size)
            have hR7 := hoe.get H7.out.hR (by omega)
            clear hc HP4 HGP cS7 H7
            go_upto_region 12 with (fail)
            generalize w7.setCell ⟨w.heap.size + 1, 1, none⟩ (.int .i64 271) = w8 at *
            have cP8 : w8.cell? ⟨w.heap.size + 1, 1, none⟩ = some (.int .i64 271) := cell_at hgE 1
            have jE : ∀ x : LaterO w.heap.size w8, x.w'.cell? ⟨w.heap.size + 1, 1, none⟩ = some (.int .i64 271) := fun x => cell_at (x.h.get hgE (by simp)) 1
            have HBE := hid hbE
            clear hoe hgE cP7 fP7 hbE
            unfold zcells at hR7
            go_upto_region 13 with (fail)
            refine wp_region_old (w.heap.size) 5 (#[.string ⟨#[]⟩, .string ⟨#[]⟩, .slice none 0 0, .slice none 0 0, .slice none 0 0, .slice none 0 0, .slice none 0 0, .bool false, .string ⟨#[]⟩, .string ⟨#[]⟩, .bool false, .slice none 0 0]) (#[.string ⟨#[]⟩, .string ⟨#[]⟩, .slice none 0 0, .slice none 0 0, .slice none 0 0, .slice none 0 0, .slice none 0 0, .bool false, .string ⟨#[]⟩, .string ⟨#[]⟩, .bool false, .slice none 0 0]) (38) (by kernel_rfl) (by kernel_rfl) (by first | assumption | go_simp) (by kernel_rfl) (by decide) (fun hsep => ?_)
            have HSEP := hid hsep
            clear hsep
            repeat (first | (refine wpO_plain HSEP.out (by kernel_rfl) (by rfl) (fun K hK => ?_); go_simp; refine hK _ ?_; clear hK K; try go_ints) | (refine wpO_store HSEP.out (by rfl) (by rfl) (by kernel_rfl) (fun K hK => ⟨fun x cs hcs hx => (by clear hK HSEP; rcases hcs with hcs | hcs <;> (rw [hcs] at hx; clear hcs; go_simp; done)), hK _ ?_⟩); clear hK K; try go_ints))
            refine wpGho_nil ?_
            intro wO oO gO
            clear HSEP
            go_wp2_with fail
            refine bodyPost_ret (v := .tuple #[.agg (#[.string ⟨#[]⟩, .string ⟨#[]⟩, .slice none 0 0, .slice none 0 0, .slice none 0 0, .slice none 0 0, .slice none 0 0, .bool false, .string ⟨#[]⟩, .string ⟨#[]⟩, .bool false, .slice none 0 0]), .int .i64 271]) (results_cell_tmp Try.results12 _ _ (w.heap.size) 38 (#[.string ⟨#[]⟩, .string ⟨#[]⟩, .slice none 0 0, .slice none 0 0, .slice none 0 0, .slice none 0 0, .slice none 0 0, .bool false, .string ⟨#[]⟩, .string ⟨#[]⟩, .bool false, .slice none 0 0]) (0, 0) _ (.int .i64 271) (by rfl) (by rfl) (by rw [← hget_eq]; go_simp) Try.underlying38 rfl (by rw [info_Hello]; go_simp)) rfl ?_
            exact RParseV.bad ((HBE.out).trans (oO.below (fun e he => by rw [he]; exact Nat.le_refl _) (HBE.out).size)) HX.out rfl
end
end Go.Proofs.Ytliblhfabnjpkaa

namespace Go.Proofs.Ytliblhfabnjpkaa
open Go Go.RowKit
section
variable {w : World}
set_option maxHeartbeats 1000000 in
theorem rhas_any {v : Value} {l : List Nat} (h : NumsAt w v l) (x : Nat) (_hx : x < 65536) (hl : l.length ≤ 1000000000) : Calls Try.prog 48 #[v, .int .u16 (x : Int)] w fun e w' => w = w' ∧ e = .returned (.bool (decide (x ∈ l))) := by
  obtain ⟨a, c, rfl, hr, hc⟩ := h
  have HC := hid hc
  have HR := hid hr
  clear hc hr
  go_enter Try.func48, Try.ntmps48
  go_wp2_with fail
  go_loopw [5] (fun i wr => ∃ k : Nat, k ≤ l.length ∧ i = .int .i64 (k : Int) ∧ x ∉ l.take k ∧ wr = w) (fun i _ => (l.length - intOf i).toNat)
  case atStart => exact ⟨0, Nat.zero_le _, rfl, by simp, rfl⟩
  case round =>
    obtain ⟨k, hk, rfl, hn, rfl⟩ := hrel
    have HN := hid hn
    clear hn
    by_cases hkl : k < l.length
    · have dk : decide ((k : Int) < (l.length : Int)) = true := decide_eq_true (by omega)
      have hy := List.getElem?_eq_getElem hkl
      obtain ⟨g, rfl, hcell⟩ := HC.out k _ hy
      have hlt := HR.out _ (List.getElem_mem hkl)
      have htk := List.take_succ_eq_append_getElem hkl
      have hmem := List.getElem_mem hkl
      generalize l[k] = y at *
      have HT := hid htk
      have HM := hid hmem
      have hi0 : 0 ≤ (k : Int) := by omega
      have hi1 : (k : Int) < (l.length : Int) := by omega
      clear hy htk hmem
      by_cases hxy : y = x
      · have d1 : ((y : Int) == (x : Int)) = true := by rw [hxy]; exact beq_self_eq_true _
        have d2 : (y == x) = true := by rw [hxy]; exact beq_self_eq_true _
        have HXY := hid hxy
        clear hxy
        go_wp2_with fail
        go_ret
        exact ⟨rfl, by rw [decide_eq_true (show x ∈ l by rw [← HXY.out]; exact HM.out)]; rfl⟩
      · have d1 : ((y : Int) == (x : Int)) = false := beq_eq_false_iff_ne.2 (by omega)
        have d2 : (y == x) = false := beq_eq_false_iff_ne.2 hxy
        have HXY := hid hxy
        clear hxy
        go_wp2_with fail
        exact ⟨⟨k + 1, by omega, by go_num, by rw [HT.out, List.mem_append, List.mem_singleton]; exact fun e => e.elim HN.out (fun e => HXY.out e.symm), trivial⟩, by simp only [intOf]; omega⟩
    · have dk : decide ((k : Int) < (l.length : Int)) = false := decide_eq_false (by omega)
      obtain rfl : k = l.length := by omega
      go_wp2_with fail
      go_ret
      exact ⟨rfl, by have h := HN.out; rw [List.take_length] at h; rw [decide_eq_false h]; rfl⟩
set_option maxHeartbeats 8000000 in
theorem rchoose_any {h : Hel} {vS vV vG vC vH vO : Value} (hr : HRd w h vS vV vG vC vH vO) : Calls Try.prog 15 #[.agg (helCells h vS vV vG vC vH vO)] w fun e w' => Below w.heap.size w w' ∧ e = .returned (chV (HE.choose h)) := by
  obtain ⟨aS, cS, rfl⟩ := hr.s.sl
  obtain ⟨aV, cV, rfl⟩ := hr.v.sl
  obtain ⟨aG, cG, rfl⟩ := hr.g.sl
  obtain ⟨aC, cC, rfl⟩ := hr.c.sl
  obtain ⟨aH, cH, rfl⟩ := hr.sh.sl
  have hb := below_new (w := w) (.cells (helCells h (.slice aS h.suites.length cS) (.slice aV h.versions.length cV) (.slice aG h.groups.length cG) (.slice aC h.schemes.length cC) (.slice aH h.shares.length cH) vO) 38)
  have hg : hget (w.alloc (.cells (helCells h (.slice aS h.suites.length cS) (.slice aV h.versions.length cV) (.slice aG h.groups.length cG) (.slice aC h.schemes.length cC) (.slice aH h.shares.length cH) vO) 38)) w.heap.size = _ := alloc_at _ _
  have H := hid (hr.keep hb)
  have HB := hid hb
  have HG := hid hg
  clear hr hb hg
  unfold helCells at HG HB H ⊢
  go_enter Try.func15, Try.ntmps15
  go_upto_region 1 with (fail)
  generalize w.alloc (.cells #[.string ⟨h.random.toArray⟩, .string ⟨h.session.toArray⟩, .slice aS h.suites.length cS, .slice aV h.versions.length cV, .slice aG h.groups.length cG, .slice aC h.schemes.length cC, .slice aH h.shares.length cH, .bool h.shared, .string ⟨h.cookie.toArray⟩, .string ⟨h.name.toArray⟩, .bool h.early, vO] 38) = w1 at *
  obtain ⟨X, hX⟩ : ∃ X, w.heap.size = X := ⟨_, rfl⟩
  have HXX := hid hX
  have hg := HG.out
  rw [hX] at hg
  rw [hX]
  clear hX HG
  have c2 : w1.cell? ⟨X, 2, none⟩ = some (.slice aS h.suites.length cS) := cell_at hg 2
  have c3 : w1.cell? ⟨X, 3, none⟩ = some (.slice aV h.versions.length cV) := cell_at hg 3
  have c4 : w1.cell? ⟨X, 4, none⟩ = some (.slice aG h.groups.length cG) := cell_at hg 4
  have c5 : w1.cell? ⟨X, 5, none⟩ = some (.slice aC h.schemes.length cC) := cell_at hg 5
  have c6 : w1.cell? ⟨X, 6, none⟩ = some (.slice aH h.shares.length cH) := cell_at hg 6
  have c7 : w1.cell? ⟨X, 7, none⟩ = some (.bool h.shared) := cell_at hg 7
  have HG := hid hg
  clear hg
  have k3 : Calls Try.prog 48 #[.slice aV h.versions.length cV, .int .u16 772] w1 _ := rhas_any H.out.v 772 (by omega) H.out.lv
  have k2 : Calls Try.prog 48 #[.slice aS h.suites.length cS, .int .u16 4867] w1 _ := rhas_any H.out.s 4867 (by omega) H.out.ls
  have k5 : Calls Try.prog 48 #[.slice aC h.schemes.length cC, .int .u16 2055] w1 _ := rhas_any H.out.c 2055 (by omega) H.out.lc
  have k4 : Calls Try.prog 48 #[.slice aG h.groups.length cG, .int .u16 29] w1 _ := rhas_any H.out.g 29 (by omega) H.out.lg
  have K2 := hid k2
  have K3 := hid k3
  have K4 := hid k4
  have K5 := hid k5
  clear k2 k3 k4 k5
  go_wp2_with fail
  refine K3.out.mono ?_
  rintro e w' ⟨rfl, rfl⟩
  by_cases h3 : 772 ∈ h.versions
  case neg =>
    have hd : decide (772 ∈ h.versions) = false := decide_eq_false h3
    have HX := hid (show HE.choose h = ([], false, 273) by unfold HE.choose; rw [if_neg h3])
    rw [hd]
    clear h3 hd
    go_wp2_with fail
    refine bodyPost_ret (v := chV ([], false, 273)) (by simp [results, Try.results15, go_sem, chV]) rfl ⟨HB.out, by rw [HX.out]⟩
  have hd3 : decide (772 ∈ h.versions) = true := decide_eq_true h3
  have H3 := hid h3
  rw [hd3]
  clear h3 hd3
  go_wp2_with fail
  refine K2.out.mono ?_
  rintro e w' ⟨rfl, rfl⟩
  by_cases h2 : 4867 ∈ h.suites
  case neg =>
    have hd : decide (4867 ∈ h.suites) = false := decide_eq_false h2
    have HX := hid (show HE.choose h = ([], false, 274) by unfold HE.choose; rw [if_pos H3.out, if_neg h2])
    rw [hd]
    clear h2 hd
    go_wp2_with fail
    refine bodyPost_ret (v := chV ([], false, 274)) (by simp [results, Try.results15, go_sem, chV]) rfl ⟨HB.out, by rw [HX.out]⟩
  have hd2 : decide (4867 ∈ h.suites) = true := decide_eq_true h2
  have H2 := hid h2
  rw [hd2]
  clear h2 hd2
  have kg : ((h.groups.length : Int) == 0) = decide (h.groups = []) := by cases h.groups <;> rfl
  have kc : ((h.schemes.length : Int) == 0) = decide (h.schemes = []) := by cases h.schemes <;> rfl
  have kg2 : (h.groups.length == 0) = decide (h.groups = []) := by cases h.groups <;> rfl
  have kc2 : (h.schemes.length == 0) = decide (h.schemes = []) := by cases h.schemes <;> rfl
  by_cases hm : h.groups = [] ∨ h.schemes = [] ∨ h.shared = false
  case pos =>
    have HX := hid (show HE.choose h = ([], false, 272) by unfold HE.choose; rw [if_pos H3.out, if_pos H2.out, if_pos hm])
    by_cases hg : h.groups = []
    · rw [decide_eq_true hg] at kg kg2
      clear hm hg kc kc2
      go_wp2_with fail
      refine bodyPost_ret (v := chV ([], false, 272)) (by simp [results, Try.results15, go_sem, chV]) rfl ⟨HB.out, by rw [HX.out]⟩
    · rw [decide_eq_false hg] at kg kg2
      by_cases hc : h.schemes = []
      · rw [decide_eq_true hc] at kc kc2
        clear hm hg hc
        go_wp2_with fail
        refine bodyPost_ret (v := chV ([], false, 272)) (by simp [results, Try.results15, go_sem, chV]) rfl ⟨HB.out, by rw [HX.out]⟩
      · rw [decide_eq_false hc] at kc kc2
        have hs : h.shared = false := by rcases hm with hm | hm | hm <;> first | exact absurd hm hg | exact absurd hm hc | exact hm
        rw [hs] at c7
        clear hm hg hc hs
        go_wp2_with fail
        refine bodyPost_ret (v := chV ([], false, 272)) (by simp [results, Try.results15, go_sem, chV]) rfl ⟨HB.out, by rw [HX.out]⟩
  have HM := hid hm
  rw [decide_eq_false (fun e => hm (.inl e))] at kg kg2
  rw [decide_eq_false (fun e => hm (.inr (.inl e)))] at kc kc2
  have hs : h.shared = true := by
    cases hq : h.shared with
    | true => rfl
    | false => exact absurd (.inr (.inr hq)) hm
  rw [hs] at c7
  clear hm hs
  go_wp2_with fail
  clear kg kg2 kc kc2
  refine K5.out.mono ?_
  rintro e w' ⟨rfl, rfl⟩
  by_cases h5 : 2055 ∈ h.schemes
  case neg =>
    have hd : decide (2055 ∈ h.schemes) = false := decide_eq_false h5
    have HX := hid (show HE.choose h = ([], false, 274) by unfold HE.choose; rw [if_pos H3.out, if_pos H2.out, if_neg HM.out, if_neg (fun e => h5 e.1)])
    rw [hd]
    clear h5 hd
    go_wp2_with fail
    refine bodyPost_ret (v := chV ([], false, 274)) (by simp [results, Try.results15, go_sem, chV]) rfl ⟨HB.out, by rw [HX.out]⟩
  have hd5 : decide (2055 ∈ h.schemes) = true := decide_eq_true h5
  have H5 := hid h5
  rw [hd5]
  clear h5 hd5
  go_wp2_with fail
  refine K4.out.mono ?_
  rintro e w' ⟨rfl, rfl⟩
  by_cases h4 : 29 ∈ h.groups
  case neg =>
    have hd : decide (29 ∈ h.groups) = false := decide_eq_false h4
    have HX := hid (show HE.choose h = ([], false, 274) by unfold HE.choose; rw [if_pos H3.out, if_pos H2.out, if_neg HM.out, if_neg (fun e => h4 e.2)])
    rw [hd]
    clear h4 hd
    go_wp2_with fail
    refine bodyPost_ret (v := chV ([], false, 274)) (by simp [results, Try.results15, go_sem, chV]) rfl ⟨HB.out, by rw [HX.out]⟩
  have hd4 : decide (29 ∈ h.groups) = true := decide_eq_true h4
  have HX := hid (show HE.choose h = (match h.shares.find? HE.is29 with | none => ([], true, 0) | some x => if x.2.length = 32 then (x.2, false, 0) else ([], false, 271)) by unfold HE.choose; rw [if_pos H3.out, if_pos H2.out, if_neg HM.out, if_pos ⟨H5.out, h4⟩]; rfl)
  rw [hd4]
  clear h4 hd4
  have hlh := H.out.lh
  clear c2 c3 c4 c5 c7 K2 K3 K4 K5 H2 H3 H5 HM
  go_wp2_with fail
  go_loopw [5] (fun i wr => ∃ k : Nat, k ≤ h.shares.length ∧ i = .int .i64 (k : Int) ∧ (h.shares.take k).find? HE.is29 = none ∧ wr = w1) (fun i _ => (h.shares.length - intOf i).toNat)
  case atStart => exact ⟨0, Nat.zero_le _, rfl, rfl, rfl⟩
  case round =>
    obtain ⟨k, hk, rfl, hn, rfl⟩ := hrel
    have HN := hid hn
    clear hn
    by_cases hkl : k < h.shares.length
    · have dk : decide ((k : Int) < (h.shares.length : Int)) = true := decide_eq_true (by omega)
      have hy := List.getElem?_eq_getElem hkl
      obtain ⟨a', c', hsl, hcs⟩ := H.out.sh
      injection hsl with e1 e2 e3
      subst e1 e3
      obtain ⟨g, hg, hc1, hc2⟩ := hcs k _ hy
      subst hg
      have htk := List.take_succ_eq_append_getElem hkl
      generalize h.shares[k] = y at *
      obtain ⟨y1, y2⟩ := y
      simp only [] at hc1 hc2
      have HT := hid htk
      have hi0 : 0 ≤ (k : Int) := by omega
      have hi1 : (k : Int) < (h.shares.length : Int) := by omega
      have hs := text_size y2
      obtain ⟨S, hS⟩ : ∃ S, (⟨y2.toArray⟩ : ByteArray) = S := ⟨_, rfl⟩
      rw [hS] at hs hc2
      have HS := hid hS
      clear hy htk hcs hS e2
      by_cases hy : y1 = 29
      · have d1 : ((y1 : Int) == 29) = true := by rw [hy]; rfl
        have d2 : (y1 == 29) = true := by rw [hy]; rfl
        have HF := hid (show h.shares.find? HE.is29 = some (y1, y2) by
          have e : h.shares = h.shares.take (k + 1) ++ h.shares.drop (k + 1) := (List.take_append_drop _ _).symm
          rw [e, List.find?_append, HT.out, List.find?_append, HN.out]
          simp [HE.is29, d2])
        have HX2 := hid (show HE.choose h = if y2.length = 32 then (y2, false, 0) else ([], false, 271) by rw [HX.out, HF.out])
        clear hy
        by_cases h32 : y2.length = 32
        · have d3 : ((y2.length : Int) != 32) = false := by rw [h32]; rfl
          have d4 : (y2.length != 32) = false := by rw [h32]; rfl
          have HX3 := hid (HX2.out.trans (if_pos h32))
          clear h32
          go_wp2_with fail
          refine bodyPost_ret (v := chV (y2, false, 0)) (by simp [results, Try.results15, go_sem, chV, HS.out]) rfl ⟨HB.out, by rw [HX3.out]⟩
        · have d3 : ((y2.length : Int) != 32) = true := bne_iff_ne.2 (by omega)
          have d4 : (y2.length != 32) = true := bne_iff_ne.2 h32
          have HX3 := hid (HX2.out.trans (if_neg h32))
          clear h32
          go_wp2_with fail
          refine bodyPost_ret (v := chV ([], false, 271)) (by simp [results, Try.results15, go_sem, chV]) rfl ⟨HB.out, by rw [HX3.out]⟩
      · have d1 : ((y1 : Int) == 29) = false := beq_eq_false_iff_ne.2 (by omega)
        have d2 : (y1 == 29) = false := beq_eq_false_iff_ne.2 hy
        have HF := hid (show (h.shares.take (k + 1)).find? HE.is29 = none by
          rw [HT.out, List.find?_append, HN.out]
          simp [HE.is29, d2])
        clear hy
        go_wp2_with fail
        exact ⟨⟨k + 1, by omega, by go_num, HF.out, trivial⟩, by simp only [intOf]; omega⟩
    · have dk : decide ((k : Int) < (h.shares.length : Int)) = false := decide_eq_false (by omega)
      obtain rfl : k = h.shares.length := by omega
      have HX2 := hid (show HE.choose h = ([], true, 0) by have hn := HN.out; rw [List.take_length] at hn; rw [HX.out, hn])
      go_wp2_with fail
      refine bodyPost_ret (v := chV ([], true, 0)) (by simp [results, Try.results15, go_sem, chV]) rfl ⟨HB.out, by rw [HX2.out]⟩
end
end Go.Proofs.Ytliblhfabnjpkaa
