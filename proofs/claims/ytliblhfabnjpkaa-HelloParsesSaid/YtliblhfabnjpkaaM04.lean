/- The parser: name. The parser: the shares of a hello. What is chosen of a hello: searches. The parser: the kinds of extensions. Plain: the extensions of a hello. The parser: all extensions of a hello. The parser: extensions, one behind the other. -/
import Derived.Test.YtliblhfabnjpkaaM03
import Derived.Deep.Cut
import Derived.Maps.AppendAt
namespace Go.Proofs.Ytliblhfabnjpkaa
open Go Go.RowKit
section
variable {w : World} {F : Nat → Prop} {p q B : Nat} {t : HE.BS} {h : Hel}
set_option maxHeartbeats 4000000 in
theorem name_any (hp : PAt w p t (.pointer (some ⟨q, 0, none⟩))) (hh : HIn w F q B h) (_hF : ∀ k, F k → k < w.heap.size) (hFp : F p) (hpq : p ≠ q) (hqB : q < B) (_hB : B ≤ w.heap.size) (ht : t.length ≤ 1000000) :
    Calls Try.prog 66 #[.pointer (some ⟨p, 0, none⟩)] w fun e w' => Out (fun k => k = p ∨ k = q) w w' ∧ AfterH F p q B ((HE.name t).map fun x => ({ h with name := x.1 }, x.2)) e w' := by
  have htx := text_any hp 2 (by omega) (by omega)
  unfold Gives at htx
  obtain ⟨vS, vV, vG, vC, vH, vO, hq, hv, hnp⟩ := hh
  unfold HE.name
  cases hr : HE.text 2 t with
  | none =>
    rw [hr] at htx
    have HN := hid htx
    clear htx hr
    simp only [Option.bind_none, Option.map_none]
    go_enter Try.func66, Try.ntmps66
    go_wp2_with fail
    refine HN.out.mono ?_
    rintro e w' ⟨ho, rfl⟩
    exact ⟨rfl, ho.mono (fun k _ e => .inl e), rfl⟩
  | some ar =>
    obtain ⟨a, r⟩ := ar
    rw [hr] at htx
    have hal := (HE.text_some hr).2
    have HN := hid htx
    clear htx hr
    simp only [Option.bind_some]
    go_enter Try.func66, Try.ntmps66
    go_wp2_with fail
    refine HN.out.mono ?_
    rintro e w1 ⟨ho, v, rfl, hv1, hp1⟩
    obtain rfl : v = .string ⟨a.toArray⟩ := hv1
    have hq1 := ho.get hq (fun e => hpq e.symm)
    have hx : PAt (w1.alloc (.cells #[.string ⟨a.toArray⟩, .pointer none] 75)) w1.heap.size a (.pointer none) := alloc_at _ _
    have hbx := below_new (w := w1) (.cells #[.string ⟨a.toArray⟩, .pointer none] 75)
    have hsz := ho.size
    have HO := hid ((ho.mono (ex' := fun k => k = p ∨ k = q) (fun k _ e => .inl e)).then (Out.of_below hbx))
    have hpw : p < w.heap.size := hget_lt hp
    have hqw : q < w.heap.size := hget_lt hq
    have HP1 := hid (hp1.below hbx)
    have HQ1 := hid (keepB hbx hq1)
    have hnm := num_any hx 1 (by omega) (by omega)
    unfold Gives at hnm
    clear ho hp1 hq1 hbx HN
    go_wp2_with fail
    generalize w1.heap.size = x0 at *
    generalize w1.alloc (.cells #[.string ⟨a.toArray⟩, .pointer none] 75) = w2 at *
    cases hr2 : HE.num 1 a with
    | none =>
      rw [hr2] at hnm
      have HM := hid hnm
      clear hnm
      refine HM.out.mono ?_
      rintro e w' ⟨ho, rfl⟩
      refine ⟨rfl, HO.out.trans ho (fun j hj e => by omega), ?_⟩
      rw [hr2]
      rfl
    | some xr =>
      obtain ⟨x, a1⟩ := xr
      rw [hr2] at hnm
      have hal1 := (HE.num_some hr2).1
      have HM := hid hnm
      clear hnm
      refine HM.out.mono ?_
      rintro e w3 ⟨ho, v, rfl, hv1, hx1⟩
      obtain rfl : v = .int .i64 (x : Int) := hv1
      have HO3 := hid (HO.out.trans ho (fun j hj e => by omega))
      have HP3 := hid (ho.get HP1.out (by omega))
      have HQ3 := hid (ho.get HQ1.out (by omega))
      have HX3 := hid hx1
      clear ho hx1 HM HO HP1 HQ1
      by_cases hxz : x = 0
      · have dz : ((x : Int) != 0) = false := by rw [hxz]; rfl
        go_wp2_with fail
        have hsm := some_any (w := w3.drew) HX3.out 2 (by omega) (by omega)
        unfold Gives at hsm
        have c1 : w3.cell? ⟨p, 1, none⟩ = some (.pointer (some ⟨q, 0, none⟩)) := cell_at HP3.out 1
        have npx : p ≠ x0 := by omega
        have nqx : q ≠ x0 := by omega
        have HXW := hid (show w.heap.size ≤ x0 from hsz)
        cases hr3 : HE.some' 2 a1 with
        | none =>
          rw [hr3] at hsm
          have HS := hid hsm
          clear hsm
          go_region_dies
          all_goals
            refine HS.out.mono ?_
            rintro e w' ⟨ho, rfl⟩
            refine ⟨rfl, HO3.out.drew.trans ho (fun j hj e => by have := HXW.out; omega), ?_⟩
            rw [hr2]
            simp only [Option.bind_some]
            rw [if_pos hxz, hr3]
            rfl
        | some ma =>
          obtain ⟨m, a2⟩ := ma
          rw [hr3] at hsm
          have HS := hid hsm
          clear hsm
          go_region_with (go_at_call 59; refine HS.out.mono ?_; rintro e w' ⟨ho, v, rfl, hv1, hp1⟩; have hq1 := ho.get (show hget w3.drew q = _ from HQ3.out) nqx; have hp2 := ho.get (show hget w3.drew p = _ from HP3.out) npx; have cq : w'.cell? ⟨q, 9, none⟩ = some (.string ⟨h.name.toArray⟩) := cell_at hq1 9; have fq := free_at hq1; have c1' : w'.cell? ⟨p, 1, none⟩ = some (.pointer (some ⟨q, 0, none⟩)) := cell_at hp2 1; obtain rfl : v = .string ⟨m.toArray⟩ := hv1)
          all_goals
            have ho2 : Out (fun k => k = p ∨ k = q) w (w'.setCell ⟨q, 9, none⟩ (.string ⟨m.toArray⟩)) := Out.setCell (HO3.out.drew.trans ho (fun j hj e => by have := HXW.out; omega)) (.inl (.inr rfl)) _
            have b := hv.out2 ho2 hnp hFp hqB
            have hx4 := hget_setCell_ne hp1 (p := ⟨q, 9, none⟩) (Ne.symm nqx) (.string ⟨m.toArray⟩)
            have hp4 := hget_setCell_ne hp2 (p := ⟨q, 9, none⟩) hpq (.string ⟨m.toArray⟩)
            have hq4 := hget_setCell hq1 9 (.string ⟨m.toArray⟩)
            have HEN := hid (ends_any hx4)
            have H4 := hid (And.intro ho2 (And.intro b (And.intro hp4 hq4)))
            clear ho2 b hx4 hp4 hq4 hp1 hq1 hp2 cq fq c1 c1' ho
            go_wp2_with fail
            refine HEN.out.mono ?_
            rintro e w5 ⟨rfl, rfl⟩
            by_cases ha2 : a2 = []
            · rw [if_pos ha2]
              go_wp2_with fail
              go_end0
              refine ⟨H4.out.1, ?_⟩
              rw [hr2]
              simp only [Option.bind_some]
              rw [if_pos hxz, hr3]
              simp only [Option.bind_some]
              rw [if_pos ha2]
              exact ⟨rfl, H4.out.2.2.1, _, _, _, _, _, _, H4.out.2.2.2, ⟨H4.out.2.1.s, H4.out.2.1.v, H4.out.2.1.g, H4.out.2.1.c, H4.out.2.1.sh, H4.out.2.1.o, H4.out.2.1.apart⟩, hnp⟩
            · rw [if_neg ha2]
              refine ⟨rfl, H4.out.1, ?_⟩
              rw [hr2]
              simp only [Option.bind_some]
              rw [if_pos hxz, hr3]
              simp only [Option.bind_some]
              rw [if_neg ha2]
              rfl
      · have dz : ((x : Int) != 0) = true := bne_iff_ne.2 (by omega)
        have dz2 : (x != 0) = true := bne_iff_ne.2 hxz
        go_wp2_with fail
        refine ⟨rfl, HO3.out, ?_⟩
        rw [hr2]
        simp only [Option.bind_some]
        rw [if_neg hxz]
        rfl
end
end Go.Proofs.Ytliblhfabnjpkaa

namespace Go.Proofs.Ytliblhfabnjpkaa
open Go Go.RowKit
namespace HE
/-- The shares of an extension: or an error. -/
def sharesX (t : BS) : Except Int (List (Nat × BS)) :=
  match text 2 t with
  | none => .error 270
  | some (s, r) => if r = [] then (match shareL s with | none => .error 270 | some l => if (l.map Prod.fst).Nodup then .ok l else .error 271) else .error 270
theorem sharesN_lt : ∀ (n : Nat) (t : BS) (l : List (Nat × BS)), sharesN n t = some l → ∀ x ∈ l, x.1 < 65536
  | 0, t, l, h => by
    unfold sharesN at h
    split at h
    · injection h with h; subst h; intro x hx; cases hx
    · cases h
  | n + 1, t, l, h => by
    unfold sharesN at h
    split at h
    · injection h with h; subst h; intro x hx; cases hx
    · cases hs : share t with
      | none => rw [hs] at h; cases h
      | some p =>
        obtain ⟨x, r⟩ := p
        rw [hs] at h
        simp only [Option.bind_some] at h
        cases hr : sharesN n r with
        | none => rw [hr] at h; cases h
        | some m =>
          rw [hr] at h
          injection h with h
          subst h
          intro y hy
          rcases List.mem_cons.1 hy with rfl | hy
          · exact (share_len hs).2
          · exact sharesN_lt n r m hr y hy
theorem sharesN_len : ∀ (n : Nat) (t : BS) (l : List (Nat × BS)), sharesN n t = some l → l.length ≤ t.length
  | 0, t, l, h => by
    unfold sharesN at h
    split at h
    · injection h with h; subst h; simp
    · cases h
  | n + 1, t, l, h => by
    unfold sharesN at h
    split at h
    · injection h with h; subst h; simp
    · cases hs : share t with
      | none => rw [hs] at h; cases h
      | some p =>
        obtain ⟨x, r⟩ := p
        rw [hs] at h
        simp only [Option.bind_some] at h
        cases hr : sharesN n r with
        | none => rw [hr] at h; cases h
        | some m =>
          rw [hr] at h
          injection h with h
          subst h
          have h1 := sharesN_len n r m hr
          have h2 := (share_len hs).1
          simp only [List.length_cons]
          omega
end HE
theorem shareVs_length (l : List (Nat × HE.BS)) : (shareVs l).length = 2 * l.length := by
  induction l with
  | nil => rfl
  | cons x l ih => rw [show shareVs (x :: l) = [.int .u16 (x.1 : Int), .string ⟨x.2.toArray⟩] ++ shareVs l from rfl, List.length_append, ih]; simp; omega
theorem shareVs_at : ∀ (l : List (Nat × HE.BS)) (k : Nat) (x : Nat × HE.BS), l[k]? = some x → (shareVs l)[2 * k]? = some (.int .u16 (x.1 : Int)) ∧ (shareVs l)[2 * k + 1]? = some (.string ⟨x.2.toArray⟩)
  | [], k, x, h => by cases h
  | y :: l, 0, x, h => by injection h with h; subst h; exact ⟨rfl, rfl⟩
  | y :: l, k + 1, x, h => by
    obtain ⟨h1, h2⟩ := shareVs_at l k x h
    rw [show shareVs (y :: l) = .int .u16 (y.1 : Int) :: .string ⟨y.2.toArray⟩ :: shareVs l from rfl, show 2 * (k + 1) = 2 * k + 1 + 1 by omega]
    exact ⟨h1, h2⟩
/-- What a method that fills a hello gives: or a panic with an error. -/
abbrev AfterX (F : Nat → Prop) (p q B : Nat) (r : Except Int (Hel × HE.BS)) (e : Ending) (w' : World) : Prop :=
  match r with
  | .ok (h, t) => e = .returned (.tuple #[]) ∧ PAt w' p t (.pointer (some ⟨q, 0, none⟩)) ∧ HIn w' F q B h
  | .error c => e = pan c
section
variable {w : World} {F : Nat → Prop} {p q B : Nat} {t : HE.BS} {h : Hel}
set_option maxHeartbeats 4000000 in
theorem shares_any (hp : PAt w p t (.pointer (some ⟨q, 0, none⟩))) (hh : HIn w F q B h) (hF : ∀ k, F k → k < w.heap.size) (hFp : F p) (hpq : p ≠ q) (hqB : q < B) (hB : B ≤ w.heap.size) (ht : t.length ≤ 1000000) :
    Calls Try.prog 72 #[.pointer (some ⟨p, 0, none⟩)] w fun e w' => Out (fun k => k = p ∨ k = q) w w' ∧ AfterX F p q B ((HE.sharesX t).map fun l => ({ h with shared := true, shares := l }, [])) e w' := by
  have htx := text_any hp 2 (by omega) (by omega)
  unfold Gives at htx
  obtain ⟨vS, vV, vG, vC, vH, vO, hq, hv, hnp⟩ := hh
  cases hr : HE.text 2 t with
  | none =>
    rw [hr] at htx
    have HN := hid htx
    have HX := hid (show HE.sharesX t = .error 270 by unfold HE.sharesX; rw [hr])
    clear htx hr
    go_enter Try.func72, Try.ntmps72
    go_wp2_with fail
    refine HN.out.mono ?_
    rintro e w' ⟨ho, rfl⟩
    refine ⟨rfl, ho.mono (fun k _ e => .inl e), ?_⟩
    rw [HX.out]
    rfl
  | some ar =>
    obtain ⟨a, r⟩ := ar
    rw [hr] at htx
    have hal := (HE.text_some hr).2
    have HN := hid htx
    have HR := hid hr
    clear htx hr
    go_enter Try.func72, Try.ntmps72
    go_wp2_with fail
    refine HN.out.mono ?_
    rintro e w1 ⟨ho, v, rfl, hv1, hp1⟩
    obtain rfl : v = .string ⟨a.toArray⟩ := hv1
    have hq1 := ho.get hq (fun e => hpq e.symm)
    have HEN := hid (ends_any hp1)
    have hsz := ho.size
    have HO := hid (ho.mono (ex' := fun k => k = p ∨ k = q) (fun k _ e => .inl e))
    have HP1 := hid hp1
    have HQ1 := hid hq1
    clear ho hp1 hq1 HN
    go_wp2_with fail
    refine HEN.out.mono ?_
    rintro e w2 ⟨rfl, rfl⟩
    by_cases hr0 : r = []
    · rw [if_pos hr0]
      subst hr0
      have c1 : w1.cell? ⟨p, 1, none⟩ = some (.pointer (some ⟨q, 0, none⟩)) := cell_at HP1.out 1
      have cq : w1.cell? ⟨q, 7, none⟩ = some (.bool h.shared) := cell_at HQ1.out 7
      have fq := free_at HQ1.out
      go_wp2_with fail
      have HP2 := hid (hget_setCell_ne HP1.out (p := ⟨q, 7, none⟩) hpq (.bool true))
      have HQ2 := hid (hget_setCell HQ1.out 7 (.bool true))
      have HO2 := hid (Out.setCell (p := ⟨q, 7, none⟩) HO.out (.inl (.inr rfl)) (.bool true))
      have hsz2 : w.heap.size ≤ (w1.setCell ⟨q, 7, none⟩ (.bool true)).heap.size := HO2.out.size
      have hl := listS_any (w := (w1.setCell ⟨q, 7, none⟩ (.bool true)).drew) a (by omega)
      generalize w1.setCell ⟨q, 7, none⟩ (.bool true) = w2 at *
      clear c1 cq fq HEN HO HP1 HQ1
      have c1 : w2.cell? ⟨p, 1, none⟩ = some (.pointer (some ⟨q, 0, none⟩)) := cell_at HP2.out 1
      cases hs : HE.shareL a with
      | none =>
        rw [hs] at hl
        have HL := hid hl
        have HX := hid (show HE.sharesX t = .error 270 by unfold HE.sharesX; rw [HR.out]; simp [hs])
        clear hl hs
        go_region_dies
        all_goals
          refine HL.out.mono ?_
          rintro e w' ⟨hb, rfl⟩
          refine ⟨rfl, HO2.out.drew.then (Out.of_below hb), ?_⟩
          rw [HX.out]
          rfl
      | some l =>
        rw [hs] at hl
        have HL := hid hl
        have HX := hid (show HE.sharesX t = if (l.map Prod.fst).Nodup then .ok l else .error 271 by unfold HE.sharesX; rw [HR.out]; simp [hs])
        have hll := HE.sharesN_len _ _ _ hs
        have HLT := hid (HE.sharesN_lt _ _ _ hs)
        have hlm : l.length ≤ 1000000 := by omega
        clear hl hs hll
        go_region_with (go_at_call 75; refine HL.out.mono ?_; rintro e w' ⟨hb, v, rfl, hv1⟩; have hq1 := keepB hb (show hget w2.drew q = _ from HQ2.out); have hp1 := keepB hb (show hget w2.drew p = _ from HP2.out); have cq : w'.cell? ⟨q, 6, none⟩ = some vH := cell_at hq1 6; have fq := free_at hq1; have c1' : w'.cell? ⟨p, 1, none⟩ = some (.pointer (some ⟨q, 0, none⟩)) := cell_at hp1 1; obtain ⟨sa, sc, rfl⟩ := owns_sl hv1)
        all_goals
          obtain ⟨v, hvd⟩ : ∃ v, Value.slice sa l.length sc = v := ⟨_, rfl⟩
          have hvo := owns_out hv1 (Out.setCell (p := ⟨q, 6, none⟩) (Out.refl (fun k => k = q) w') (.inl rfl) v) (fun k hk e => by have : w2.drew.heap.size = w2.heap.size := rfl; omega)
          rw [hvd] at hvo
          have ho3 : Out (fun k => k = p ∨ k = q) w (w'.setCell ⟨q, 6, none⟩ v) := Out.setCell (HO2.out.drew.then (Out.of_below hb)) (.inl (.inr rfl)) _
          have hp3 := hget_setCell_ne hp1 (p := ⟨q, 6, none⟩) hpq v
          have hq3 := hget_setCell hq1 6 v
          change hget _ _ = some (.cells (helCells { h with shared := true, shares := l } vS vV vG vC v vO) _ _) at hq3
          have HV := hid hv
          have new : ∀ k, vO.ownBlock = some k → v.ownBlock ≠ some k := fun k hk e => by
            have h1 := (owns_lt hvo e).1
            have h2 := (owns_lt hv.o hk).2
            have h3 : w2.drew.heap.size = w2.heap.size := rfl
            omega
          have HNEW := hid new
          have HFN := hid (show ∀ k, v.ownBlock = some k → ¬ F k from fun k e hf => by
            have h1 := (owns_lt hvo e).1
            have h2 := hF k hf
            have h3 : w2.drew.heap.size = w2.heap.size := rfl
            omega)
          have HVO := hid (owns_base hvo (show B ≤ w2.drew.heap.size from Nat.le_trans hB hsz2))
          have hsz3 : w.heap.size ≤ (w'.setCell ⟨q, 6, none⟩ v).heap.size := ho3.size
          rw [hvd]
          generalize w'.setCell ⟨q, 6, none⟩ v = w3 at *
          have HO3 := hid ho3
          have HP3 := hid hp3
          have HQ3 := hid hq3
          clear hvo ho3 hp3 hq3 new hq1 hp1 cq fq c1 c1' hv1 hb HL HO2 HP2 HQ2 hv hq HR
          subst hvd
          have hm4 := SetAt.new w3
          have ho4 := HO3.out.then (Out.of_below (below_new (w := w3) (.map #[] 0)))
          have hp4 := keepB (below_new (w := w3) (.map #[] 0)) HP3.out
          have hq4 := keepB (below_new (w := w3) (.map #[] 0)) HQ3.out
          have hv4 := HVO.out.alloc (.map #[] 0)
          obtain ⟨ow, how⟩ : ∃ ow, w3.heap.size = ow := ⟨_, rfl⟩
          rw [how] at hm4 hsz3
          have HH := hid (And.intro hm4 (And.intro ho4 (And.intro hp4 (And.intro hq4 hv4))))
          have c1 : (w3.alloc (.map #[] 0)).cell? ⟨p, 1, none⟩ = some (.pointer (some ⟨q, 0, none⟩)) := cell_at hp4 1
          have cq : (w3.alloc (.map #[] 0)).cell? ⟨q, 6, none⟩ = some (.slice sa l.length sc) := cell_at hq4 6
          clear hm4 ho4 hp4 hq4 hv4
          have hmm := @run_makeMap Try.prog
          go_wp2_with fail
          clear hmm
          generalize w3.alloc (.map #[] 0) = w4 at *
          clear c1 cq
          have hs4 : ow < w4.heap.size := HH.out.1.lt
          have hpw : p < w.heap.size := hget_lt hp
          have hqw : q < w3.heap.size := hget_lt HQ3.out
          have HSA := hid (show ∀ j, (Value.slice sa l.length sc).ownBlock = some j → j < ow from fun j e => by have := (owns_lt HVO.out e).2; omega)
          have HW := hid (And.intro hpw (And.intro hqw (And.intro hsz3 how)))
          clear hp HP3 HQ3 HO3 HVO hsz3 hpw hqw how hsz hsz2
          go_loopw [33] (fun i wr => ∃ k : Nat, k ≤ l.length ∧ i = .int .i64 (k : Int) ∧ ((l.take k).map Prod.fst).Nodup ∧ SetAt wr ow ((l.take k).map Prod.fst) ∧ Out (fun k => k = p ∨ k = q) w wr ∧ hget wr p = _ ∧ hget wr q = _ ∧ wr.ownsRow B 86 2 (.slice sa l.length sc) l.length (shareVs l)) (fun i _ => (l.length - intOf i).toNat)
          case atStart => exact ⟨0, Nat.zero_le _, rfl, by simp, HH.out.1, HH.out.2.1, HH.out.2.2.1, HH.out.2.2.2.1, HH.out.2.2.2.2⟩
          case round =>
            obtain ⟨k, hk, rfl, hnd, hm, ho, hp, hq, hr⟩ := hrel
            by_cases hkl : k < l.length
            · have dk : decide ((k : Int) < (l.length : Int)) = true := decide_eq_true (by omega)
              obtain ⟨g, rfl⟩ : ∃ g, sa = some ⟨g, 0, none⟩ := by
                obtain ⟨_, ⟨e, e0⟩ | ⟨g, cap, cur, e, _⟩⟩ := hr
                · omega
                · injection e with e; exact ⟨g, e⟩
              obtain ⟨x, hx⟩ : ∃ x, l[k]? = some x := ⟨l[k], List.getElem?_eq_getElem hkl⟩
              obtain ⟨hx1, hx2⟩ := shareVs_at l k x hx
              have cx1 := hr.cellAt (k * 2) (by omega)
              have cx2 := hr.cellAt (k * 2 + 1) (by omega)
              rw [Nat.mul_comm] at hx1 hx2
              rw [hx1] at cx1
              rw [hx2] at cx2
              have HR := hid hr
              have HP := hid hp
              have HQ := hid hq
              have HO := hid ho
              have HN := hid hnd
              have HMM := hid hm
              have HXX := hid hx
              have hi0 : 0 ≤ (k : Int) := by omega
              have hi1 : (k : Int) < (l.length : Int) := by omega
              clear hx1 hx2 hr hp hq ho hnd hm hx HH
              go_upto_region 8 with (fail)
              have hb5 := below_new (w := wr) (.cells #[.int .u16 (x.1 : Int), .string ⟨x.2.toArray⟩] 86)
              have hx5 : hget (wr.alloc (.cells #[.int .u16 (x.1 : Int), .string ⟨x.2.toArray⟩] 86)) wr.heap.size = _ := alloc_at _ _
              have hm5 := HMM.out.out (Out.of_below (ex := fun _ => False) hb5) (by simp)
              have H5 := hid (And.intro (HO.out.then (Out.of_below hb5)) (And.intro (keepB hb5 HP.out) (And.intro (keepB hb5 HQ.out) (HR.out.alloc (.cells #[.int .u16 (x.1 : Int), .string ⟨x.2.toArray⟩] 86)))))
              have hxl : x.1 < 65536 := HLT.out x (List.mem_of_getElem? HXX.out)
              have htk : (l.take (k + 1)).map Prod.fst = (l.take k).map Prod.fst ++ [x.1] := by
                rw [List.take_add_one, HXX.out]; simp
              have cx := cell_at hx5 0
              have hlk := hm5.look hxl
              have HM5 := hid hm5
              have HTK := hid htk
              have HXL := hid hxl
              clear hb5 hx5 hm5 hxl HO HP HQ HR HMM htk cx1 cx2
              generalize wr.heap.size = x0 at *
              generalize wr.alloc (.cells #[.int .u16 (x.1 : Int), .string ⟨x.2.toArray⟩] 86) = w5 at *
              by_cases hin : x.1 ∈ (l.take k).map Prod.fst
              · rw [decide_eq_true hin] at hlk
                have hno : ¬ (l.map Prod.fst).Nodup := fun e => by
                  have h1 : ((l.take (k + 1)).map Prod.fst).Nodup := e.sublist ((List.take_sublist _ _).map _)
                  rw [HTK.out, List.nodup_append] at h1
                  exact h1.2.2 _ hin _ (List.mem_singleton_self _) rfl
                have HNO := hid hno
                clear hin hno
                go_wp2_with fail
                refine ⟨rfl, H5.out.1, ?_⟩
                rw [HX.out, if_neg HNO.out]
                rfl
              · rw [decide_eq_false hin] at hlk
                have HIN := hid hin
                have hkm : ((l.take k).map Prod.fst).length < maxLen := by rw [List.length_map, List.length_take]; unfold maxLen; omega
                clear hin
                go_wp2_with (at_mapUpdate; refine wpList_set_put rfl _ _ _ rfl ow _ rfl HM5.out hkm x.1 HXL.out HIN.out rfl rfl ?_)
                intro w6 hm6 hg6
                have H6 := hid (And.intro hm6 (And.intro (H5.out.1.trans (Out.of_grown (ex := fun j => j = ow) hg6 (fun j e => (Option.some.inj e).symm)) (fun j hj e => by have := HW.out.2.2.1; omega)) (And.intro (hget_grown H5.out.2.1 hg6 (fun e => by have e := Option.some.inj e; have h1 := HW.out.1; have h2 := HW.out.2.2.1; omega)) (And.intro (hget_grown H5.out.2.2.1 hg6 (fun e => by have e := Option.some.inj e; have h1 := HW.out.2.1; have h2 := HW.out.2.2.2; omega)) (H5.out.2.2.2.kept hg6 (.inr (fun e => by have e := Option.some.inj e; have h1 := HSA.out g rfl; simp only [] at e; omega)))))))
                clear hm6 hg6
                go_wp2_with fail
                refine ⟨⟨k + 1, by omega, by go_num, ?_, ?_, H6.out.2.1, H6.out.2.2.1, H6.out.2.2.2.1, H6.out.2.2.2.2⟩, by simp only [intOf]; omega⟩
                · rw [HTK.out, List.nodup_append]
                  refine ⟨HN.out, by simp, fun y hy z hz => ?_⟩
                  rw [List.mem_singleton] at hz
                  subst hz
                  exact fun e => HIN.out (e ▸ hy)
                · rw [HTK.out, List.map_take]
                  exact H6.out.1
            · have dk : decide ((k : Int) < (l.length : Int)) = false := decide_eq_false (by omega)
              obtain rfl : k = l.length := by omega
              rw [List.take_length] at hnd
              have HH2 := hid (And.intro hnd (And.intro ho (And.intro hp (And.intro hq hr))))
              clear hnd ho hp hq hr hm HH
              go_wp2_with fail
              go_end0
              refine ⟨HH2.out.2.1, ?_⟩
              rw [HX.out, if_pos HH2.out.1]
              have b := HV.out.out2 HH2.out.2.1 hnp hFp hqB
              exact ⟨rfl, HH2.out.2.2.1, _, _, _, _, _, _, HH2.out.2.2.2.1, ⟨b.s, b.v, b.g, b.c, HH2.out.2.2.2.2, b.o, fun j hj => ⟨(b.apart j hj).1, (b.apart j hj).2.1, (b.apart j hj).2.2.1, (b.apart j hj).2.2.2.1, HNEW.out j hj⟩⟩, ⟨hnp.s, hnp.v, hnp.g, hnp.c, HFN.out, hnp.o⟩⟩
    · rw [if_neg hr0]
      have HX := hid (show HE.sharesX t = .error 270 by unfold HE.sharesX; rw [HR.out]; simp [hr0])
      refine ⟨rfl, HO.out, ?_⟩
      rw [HX.out]
      rfl
end
end Go.Proofs.Ytliblhfabnjpkaa

namespace Go.Proofs.Ytliblhfabnjpkaa
open Go Go.RowKit
/-- A slice of numbers, to read. -/
def NumsAt (w : World) (v : Value) (l : List Nat) : Prop := ∃ a c, v = .slice a l.length c ∧ (∀ x ∈ l, x < 65536) ∧ ∀ (k : Nat) (x : Nat), l[k]? = some x → ∃ g, a = some ⟨g, 0, none⟩ ∧ w.cell? ⟨g, k, none⟩ = some (.int .u16 (x : Int))
def SharesAt (w : World) (v : Value) (l : List (Nat × HE.BS)) : Prop := ∃ a c, v = .slice a l.length c ∧ ∀ (k : Nat) (x : Nat × HE.BS), l[k]? = some x → ∃ g, a = some ⟨g, 0, none⟩ ∧ w.cell? ⟨g, k * 2, none⟩ = some (.int .u16 (x.1 : Int)) ∧ w.cell? ⟨g, k * 2 + 1, none⟩ = some (.string ⟨x.2.toArray⟩)
theorem NumsAt.of {w : World} {B : Nat} {v : Value} {l : List Nat} (h : w.ownsRow B 56 1 v l.length (u16s l)) (hl : ∀ x ∈ l, x < 65536) : NumsAt w v l := by
  have h0 := h
  obtain ⟨_, ⟨rfl, hn⟩ | ⟨g, cap, cur, rfl, h2, h3, h4⟩⟩ := h
  · exact ⟨none, 0, by rw [hn], hl, fun k x hx => by rw [List.length_eq_zero_iff.1 hn] at hx; cases hx⟩
  · refine ⟨some ⟨g, 0, none⟩, cap, rfl, hl, fun k x hx => ⟨g, rfl, ?_⟩⟩
    have hk : k < l.length := (List.getElem?_eq_some_iff.1 hx).1
    rw [h0.cellAt k (by omega)]
    unfold u16s
    rw [List.getElem?_map, hx]
    rfl
theorem SharesAt.of {w : World} {B : Nat} {v : Value} {l : List (Nat × HE.BS)} (h : w.ownsRow B 86 2 v l.length (shareVs l)) : SharesAt w v l := by
  have h0 := h
  obtain ⟨_, ⟨rfl, hn⟩ | ⟨g, cap, cur, rfl, h2, h3, h4⟩⟩ := h
  · exact ⟨none, 0, by rw [hn], fun k x hx => by rw [List.length_eq_zero_iff.1 hn] at hx; cases hx⟩
  · refine ⟨some ⟨g, 0, none⟩, cap, rfl, fun k x hx => ⟨g, rfl, ?_⟩⟩
    have hk : k < l.length := (List.getElem?_eq_some_iff.1 hx).1
    obtain ⟨e1, e2⟩ := shareVs_at l k x hx
    rw [Nat.mul_comm] at e1 e2
    exact ⟨(h0.cellAt (k * 2) (by omega)).trans e1, (h0.cellAt (k * 2 + 1) (by omega)).trans e2⟩
theorem NumsAt.keep {w w' : World} {v : Value} {l : List Nat} (h : NumsAt w v l) (hb : Below w.heap.size w w') : NumsAt w' v l := by
  obtain ⟨a, c, h1, h2, h3⟩ := h
  exact ⟨a, c, h1, h2, fun k x hx => by obtain ⟨g, e, hc⟩ := h3 k x hx; exact ⟨g, e, (hb.cell (p := ⟨g, k, none⟩) (World.block_lt_of_cell? _ _ hc)).trans hc⟩⟩
theorem SharesAt.keep {w w' : World} {v : Value} {l : List (Nat × HE.BS)} (h : SharesAt w v l) (hb : Below w.heap.size w w') : SharesAt w' v l := by
  obtain ⟨a, c, h1, h3⟩ := h
  exact ⟨a, c, h1, fun k x hx => by obtain ⟨g, e, hc, hd⟩ := h3 k x hx; exact ⟨g, e, (hb.cell (p := ⟨g, k * 2, none⟩) (World.block_lt_of_cell? _ _ hc)).trans hc, (hb.cell (p := ⟨g, k * 2 + 1, none⟩) (World.block_lt_of_cell? _ _ hd)).trans hd⟩⟩
section
variable {w : World}
set_option maxHeartbeats 1000000 in
theorem idx_any {v : Value} {l : List Nat} (h : NumsAt w v l) (x : Nat) (_hx : x < 65536) (hl : l.length ≤ 1000000000) : Calls Try.prog 64 #[v, .int .u16 (x : Int)] w fun e w' => w = w' ∧ ∃ i : Int, e = .returned (.int .i64 i) ∧ decide (0 ≤ i) = decide (x ∈ l) := by
  obtain ⟨a, c, rfl, hr, hc⟩ := h
  have HC := hid hc
  have HR := hid hr
  clear hc hr
  go_enter Try.func64, Try.ntmps64
  go_wp2_with fail
  go_loopw [8] (fun i wr => ∃ k : Nat, k ≤ l.length ∧ i = .int .i64 (k : Int) ∧ x ∉ l.take k ∧ wr = w) (fun i _ => (l.length - intOf i).toNat)
  case atStart => exact ⟨0, Nat.zero_le _, rfl, by simp, rfl⟩
  case round =>
    obtain ⟨k, hk, rfl, hn, rfl⟩ := hrel
    have HN := hid hn
    clear hn
    by_cases hkl : k < l.length
    · have dk : decide ((k : Int) < (l.length : Int)) = true := decide_eq_true (by omega)
      have hy := List.getElem?_eq_getElem hkl
      obtain ⟨g, rfl, hcell⟩ := HC.out k _ hy
      have hlt := HR.out _ (List.getElem_mem hkl)
      have htk := List.take_succ_eq_append_getElem hkl
      have hmem := List.getElem_mem hkl
      generalize l[k] = y at *
      have HT := hid htk
      have HM := hid hmem
      have hi0 : 0 ≤ (k : Int) := by omega
      have hi1 : (k : Int) < (l.length : Int) := by omega
      clear hy htk hmem
      by_cases hxy : x = y
      · have d1 : ((x : Int) == (y : Int)) = true := by rw [hxy]; exact beq_self_eq_true _
        have d2 : (x == y) = true := by rw [hxy]; exact beq_self_eq_true _
        have HXY := hid hxy
        clear hxy
        go_wp2_with fail
        go_ret
        exact ⟨rfl, (k : Int), rfl, by rw [decide_eq_true (show x ∈ l by rw [HXY.out]; exact HM.out), decide_eq_true (Int.natCast_nonneg k)]⟩
      · have d1 : ((x : Int) == (y : Int)) = false := beq_eq_false_iff_ne.2 (by omega)
        have d2 : (x == y) = false := beq_eq_false_iff_ne.2 hxy
        have HXY := hid hxy
        clear hxy
        go_wp2_with fail
        exact ⟨⟨k + 1, by omega, by go_num, by rw [HT.out, List.mem_append, List.mem_singleton]; exact fun e => e.elim HN.out HXY.out, trivial⟩, by simp only [intOf]; omega⟩
    · have dk : decide ((k : Int) < (l.length : Int)) = false := decide_eq_false (by omega)
      obtain rfl : k = l.length := by omega
      go_wp2_with fail
      go_ret
      exact ⟨rfl, -1, rfl, by have h := HN.out; rw [List.take_length] at h; rw [decide_eq_false h]; rfl⟩
theorem cont_any {v : Value} {l : List Nat} (h : NumsAt w v l) (x : Nat) (hx : x < 65536) (hl : l.length ≤ 1000000000) : Calls Try.prog 45 #[v, .int .u16 (x : Int)] w fun e w' => w = w' ∧ e = .returned (.bool (decide (x ∈ l))) := by
  have hi := hid (idx_any h x hx hl)
  go_enter Try.func45, Try.ntmps45
  go_wp2_with fail
  refine hi.out.mono ?_
  rintro e w' ⟨rfl, i, rfl, hd⟩
  go_wp2_with fail
  go_ret
  exact ⟨rfl, rfl⟩
end
end Go.Proofs.Ytliblhfabnjpkaa

namespace Go.Proofs.Ytliblhfabnjpkaa
open Go Go.RowKit

/-- How a function reads in a map. -/
def funElem : Value → Option (DataW Unit × List MemPlace)
  | .func (.func f) a b => if a.size = 0 ∧ b.size = 0 then some (.lit (.int .i64 ((f : Int) + 1)), []) else none
  | .nilFunc => some (.lit (.int .i64 0), [])
  | _ => none
def funOf (k : Nat) : Value := .func (.func k) #[] #[]
def funV : Option Nat → Value
  | some f => funOf f
  | none => .nilFunc
def funD : Option Nat → DataW Unit
  | some f => .lit (.int .i64 ((f : Int) + 1))
  | none => .lit (.int .i64 0)
theorem funElem_of (f : Nat) : funElem (funOf f) = some (funD (some f), []) := by simp [funElem, funOf, funD]
theorem funElem_inv {v : Value} {z : DataW Unit × List MemPlace} (h : funElem v = some z) (o : Option Nat) (hz : z.1 = funD o) : v = funV o := by
  unfold funElem at h
  split at h
  · rename_i f a b
    split at h
    · rename_i hab
      injection h with h
      subst h
      obtain rfl : a = #[] := Array.eq_empty_of_size_eq_zero hab.1
      obtain rfl : b = #[] := Array.eq_empty_of_size_eq_zero hab.2
      cases o with
      | none => unfold funD at hz; simp only [DataW.lit.injEq, Lit.int.injEq, true_and] at hz; omega
      | some g =>
        have h2 : (f : Int) + 1 = (g : Int) + 1 := by
          unfold funD at hz
          simpa only [DataW.lit.injEq, Lit.int.injEq, true_and] using hz
        have h3 : (f : Int) = (g : Int) := by omega
        obtain rfl : f = g := Int.ofNat_inj.1 h3
        rfl
    · cases h
  · injection h with h
    subst h
    cases o with
    | none => rfl
    | some g =>
      exfalso
      have h2 : (0 : Int) = (g : Int) + 1 := by
        unfold funD at hz
        simpa only [DataW.lit.injEq, Lit.int.injEq, true_and] using hz
      omega
  · cases h
/-- The map at block M holds functions by numbers. -/
def FunAt (w : World) (M : Nat) (l : List (Nat × Nat)) : Prop := ∃ D, w.ownsMap Try.prog 56 funElem M l.length D ∧ Maps.Tidy D ∧ ∀ k, k < 65536 → D.atKey (HE.key16 k) (funD none) = funD (l.lookup k)
theorem FunAt.new (w : World) : FunAt (w.alloc (.map #[] 0)) w.heap.size [] := ⟨_, World.ownsMap_made w _ _ _, Maps.tidy_empty, fun _k _ => rfl⟩
theorem zerof (w : World) : (zeroValue 107).run Try.prog w = .ok .nilFunc w := by kernel_rfl
theorem FunAt.look {w : World} {M : Nat} {l : List (Nat × Nat)} (h : FunAt w M l) {x : Nat} (hx : x < 65536) :
    (Instr.lookup 108 (.map (some M)) (.int .u16 (x : Int)) false).run Try.prog w = .ok (funV (l.lookup x)) w := by
  obtain ⟨D, hown, _, hD⟩ := h
  obtain ⟨es, clock, hb, F, _, rfl⟩ := hown
  have hk := Maps.keyOf_int_mk Try.underlying56 (WalkArith.wf_u16 (n := (x : Int)) ⟨by omega, by omega⟩)
  have h1 := hD x hx
  rcases Maps.fit_look false u16law Try.underlying108 (zerof _) hb F hk with ⟨hrun, _, hat⟩ | ⟨e0, y, _, _, hrun, hRv, hat, _⟩
  · have h2 : funD none = funD (l.lookup x) := (hat (funD none)).symm.trans h1
    cases hl : l.lookup x with
    | none => exact hrun
    | some f => rw [hl] at h2; unfold funD at h2; simp only [DataW.lit.injEq, Lit.int.injEq, true_and] at h2; omega
  · have h2 : y.1 = funD (l.lookup x) := (hat (funD none)).symm.trans h1
    rw [hrun, ← funElem_inv hRv _ h2]
    rfl
theorem wpList_fun_insert {ops : Array Oper} {rest : List Oper} {o : Oper} {a : Act} {w : World} {Q : Exit → Act → World → Prop}
    (hg : o.guard = none) (m x v : Operand) (hop : o.op = Op.insert 108 m x v) (M : Nat) (l : List (Nat × Nat)) (hm : a.eval m = .map (some M)) (h : FunAt w M l) (hl : l.length < 100) (k f : Nat) (hk : k < 65536)
    (hx : a.eval x = .int .u16 (k : Int)) (hv : a.eval v = funOf f)
    (hK : ∀ w', FunAt w' M ((k, f) :: l) → w.grownBy w' (some M) → wpList Try.prog ops Q rest (a.put o.dst undef) w') : wpList Try.prog ops Q (o :: rest) a w := by
  obtain ⟨D, hown, hT, hD⟩ := h
  have hkk := Maps.keyOf_int_mk Try.underlying56 (WalkArith.wf_u16 (n := (k : Int)) ⟨by omega, by omega⟩)
  refine wpList_plain hg fun K' hK' => ?_
  obtain ⟨w', hrun, r1, r2⟩ := hown.update (t := 108) u16law Try.underlying108 (by unfold maxLen; omega) hkk (funElem_of f)
  unfold Oper.wp
  simp [execOp, hop, hm, hx, hv, hrun, Result.andThen]
  refine hK' _ _ (hK w' ⟨_, r1, hT.put (HE.isKey16 k) _, fun y hy => ?_⟩ r2)
  change DataW.atKey (D.put (HE.key16 k) (funD (some f))) (HE.key16 y) (funD none) = _
  by_cases hyk : y = k
  · subst hyk
    rw [Maps.atKey_put_same hT.isMap (HE.isKey16 y), List.lookup_cons_self]
  · rw [Maps.atKey_put_other (HE.key16_ne hyk), hD y hy, List.lookup_cons]
    simp [beq_eq_false_iff_ne.2 hyk]
/-- The kinds that are known, and what reads them. -/
def kindL : List (Nat × Nat) := [(51, 72), (42, 71), (44, 70), (43, 69), (13, 68), (10, 67), (0, 66)]
section
variable {w : World}
set_option maxHeartbeats 2000000 in
theorem kinds_any : Calls Try.prog 61 #[] w fun e w' => Below w.heap.size w w' ∧ e = .returned (.map (some w.heap.size)) ∧ FunAt w' w.heap.size kindL := by
  have hmm := @run_makeMap Try.prog
  have h0 := hid (FunAt.new w)
  have hb := hid (below_new (w := w) (.map #[] 0))
  have hl : w.heap.size < (w.alloc (.map #[] 0)).heap.size := by simp
  go_enter Try.func61, Try.ntmps61
  go_upto_region 1 with (fail)
  go_wp2_with (refine wpList_fun_insert rfl _ _ _ rfl w.heap.size _ rfl h0.out (by decide) 0 66 (by decide) rfl rfl ?_)
  intro w1 hm1 hg1
  have m1 := hid hm1
  have b1 := hid (hb.out.grown hg1 (by omega) (fun g e => by have e := Option.some.inj e; omega))
  have hs1 := hg1.size
  clear hm1 hg1
  go_wp2_with (refine wpList_fun_insert rfl _ _ _ rfl w.heap.size _ rfl m1.out (by decide) 10 67 (by decide) rfl rfl ?_)
  intro w2 hm2 hg2
  have m2 := hid hm2
  have b2 := hid (b1.out.grown hg2 (by omega) (fun g e => by have e := Option.some.inj e; omega))
  have hs2 := hg2.size
  clear hm2 hg2
  go_wp2_with (refine wpList_fun_insert rfl _ _ _ rfl w.heap.size _ rfl m2.out (by decide) 13 68 (by decide) rfl rfl ?_)
  intro w3 hm3 hg3
  have m3 := hid hm3
  have b3 := hid (b2.out.grown hg3 (by omega) (fun g e => by have e := Option.some.inj e; omega))
  have hs3 := hg3.size
  clear hm3 hg3
  go_wp2_with (refine wpList_fun_insert rfl _ _ _ rfl w.heap.size _ rfl m3.out (by decide) 43 69 (by decide) rfl rfl ?_)
  intro w4 hm4 hg4
  have m4 := hid hm4
  have b4 := hid (b3.out.grown hg4 (by omega) (fun g e => by have e := Option.some.inj e; omega))
  have hs4 := hg4.size
  clear hm4 hg4
  go_wp2_with (refine wpList_fun_insert rfl _ _ _ rfl w.heap.size _ rfl m4.out (by decide) 44 70 (by decide) rfl rfl ?_)
  intro w5 hm5 hg5
  have m5 := hid hm5
  have b5 := hid (b4.out.grown hg5 (by omega) (fun g e => by have e := Option.some.inj e; omega))
  have hs5 := hg5.size
  clear hm5 hg5
  go_wp2_with (refine wpList_fun_insert rfl _ _ _ rfl w.heap.size _ rfl m5.out (by decide) 42 71 (by decide) rfl rfl ?_)
  intro w6 hm6 hg6
  have m6 := hid hm6
  have b6 := hid (b5.out.grown hg6 (by omega) (fun g e => by have e := Option.some.inj e; omega))
  have hs6 := hg6.size
  clear hm6 hg6
  go_wp2_with (refine wpList_fun_insert rfl _ _ _ rfl w.heap.size _ rfl m6.out (by decide) 51 72 (by decide) rfl rfl ?_)
  intro w7 hm7 hg7
  have m7 := hid hm7
  have b7 := hid (b6.out.grown hg7 (by omega) (fun g e => by have e := Option.some.inj e; omega))
  have hs7 := hg7.size
  clear hm7 hg7
  go_wp2_with fail
  go_ret
  exact ⟨b7.out, rfl, m7.out⟩
end
end Go.Proofs.Ytliblhfabnjpkaa

namespace Go.Proofs.Ytliblhfabnjpkaa
namespace HE
def toX {α : Type} : Option α → Except Int α
  | some x => .ok x
  | none => .error 270
/-- What the data of an extension of a known kind are. -/
def parsed (h : Hel) (k : Nat) (d : BS) : Except Int (Hel × BS) :=
  if k = 0 then toX ((name d).map fun x => ({ h with name := x.1 }, x.2))
  else if k = 10 then toX ((numbers 2 d).map fun x => ({ h with groups := x.1 }, x.2))
  else if k = 13 then toX ((numbers 2 d).map fun x => ({ h with schemes := x.1 }, x.2))
  else if k = 43 then toX ((numbers 1 d).map fun x => ({ h with versions := x.1 }, x.2))
  else if k = 44 then toX ((some' 2 d).map fun x => ({ h with cookie := x.1 }, x.2))
  else if k = 42 then .ok ({ h with early := true }, d)
  else if k = 51 then (sharesX d).map fun l => ({ h with shared := true, shares := l }, [])
  else .ok ({ h with others := h.others ++ [k] }, [])
def put (h : Hel) (k : Nat) (d : BS) : Except Int Hel :=
  match parsed h k d with
  | .error c => .error c
  | .ok (h', r) => if r = [] then .ok h' else .error 270
/-- One extension: its kind, its data, the rest. -/
def ext1 (s : BS) : Option (Nat × BS × BS) := (num 2 s).bind fun p => (text 2 p.2).map fun q => (p.1, q.1, q.2)
/-- All extensions; n: how many more may come; l: the kinds that were. -/
def extN : Nat → Hel → List Nat → BS → Except Int Hel
  | 0, h, _, s => if s = [] then .ok h else .error 270
  | n + 1, h, l, s =>
    if s = [] then .ok h else
    match ext1 s with
    | none => .error 270
    | some (k, d, r) =>
      if k ∈ l ∨ 41 ∈ l then .error 271 else
      match put h k d with
      | .error c => .error c
      | .ok h' => extN n h' (l ++ [k]) r
end HE
end Go.Proofs.Ytliblhfabnjpkaa

namespace Go.Proofs.Ytliblhfabnjpkaa
open Go Go.RowKit
theorem afterX_of {F : Nat → Prop} {p q B : Nat} {r : Option (Hel × HE.BS)} {e : Ending} {w' : World} (h : AfterH F p q B r e w') : AfterX F p q B (HE.toX r) e w' := by
  cases r <;> exact h
section
variable {w : World} {F : Nat → Prop} {p q B : Nat} {t : HE.BS} {h : Hel}
theorem read_any {k f : Nat} (hk : kindL.lookup k = some f) (hp : PAt w p t (.pointer (some ⟨q, 0, none⟩))) (hh : HIn w F q B h) (hF : ∀ k, F k → k < w.heap.size) (hFp : F p) (hpq : p ≠ q) (hqB : q < B) (hB : B ≤ w.heap.size) (ht : t.length ≤ 1000000) :
    Calls Try.prog f #[.pointer (some ⟨p, 0, none⟩)] w fun e w' => Out (fun k => k = p ∨ k = q) w w' ∧ AfterX F p q B (HE.parsed h k t) e w' := by
  by_cases h51 : k = 51
  · subst h51; obtain rfl := Option.some.inj hk; exact shares_any hp hh hF hFp hpq hqB hB ht
  by_cases h42 : k = 42
  · subst h42; obtain rfl := Option.some.inj hk; exact early_any hp hh hF hFp hpq hqB
  by_cases h44 : k = 44
  · subst h44; obtain rfl := Option.some.inj hk; exact (cookie_any hp hh hF hFp hpq hqB ht).mono fun e w' h => ⟨h.1, afterX_of h.2⟩
  by_cases h43 : k = 43
  · subst h43; obtain rfl := Option.some.inj hk; exact (versions_any hp hh hF hFp hpq hqB hB ht).mono fun e w' h => ⟨h.1, afterX_of h.2⟩
  by_cases h13 : k = 13
  · subst h13; obtain rfl := Option.some.inj hk; exact (schemes_any hp hh hF hFp hpq hqB hB ht).mono fun e w' h => ⟨h.1, afterX_of h.2⟩
  by_cases h10 : k = 10
  · subst h10; obtain rfl := Option.some.inj hk; exact (groups_any hp hh hF hFp hpq hqB hB ht).mono fun e w' h => ⟨h.1, afterX_of h.2⟩
  by_cases h0 : k = 0
  · subst h0; obtain rfl := Option.some.inj hk; exact (name_any hp hh hF hFp hpq hqB hB ht).mono fun e w' h => ⟨h.1, afterX_of h.2⟩
  unfold kindL at hk
  simp only [List.lookup_cons, List.lookup_nil, beq_eq_false_iff_ne.2 h51, beq_eq_false_iff_ne.2 h42, beq_eq_false_iff_ne.2 h44, beq_eq_false_iff_ne.2 h43, beq_eq_false_iff_ne.2 h13, beq_eq_false_iff_ne.2 h10, beq_eq_false_iff_ne.2 h0] at hk
  cases hk
theorem kind_enter {k f : Nat} (hk : kindL.lookup k = some f) (args : Array Value) : (callFunc f args).run Try.prog w = .ok (.enter f args) w := by
  by_cases h51 : k = 51
  · subst h51; obtain rfl := Option.some.inj hk; kernel_rfl
  by_cases h42 : k = 42
  · subst h42; obtain rfl := Option.some.inj hk; kernel_rfl
  by_cases h44 : k = 44
  · subst h44; obtain rfl := Option.some.inj hk; kernel_rfl
  by_cases h43 : k = 43
  · subst h43; obtain rfl := Option.some.inj hk; kernel_rfl
  by_cases h13 : k = 13
  · subst h13; obtain rfl := Option.some.inj hk; kernel_rfl
  by_cases h10 : k = 10
  · subst h10; obtain rfl := Option.some.inj hk; kernel_rfl
  by_cases h0 : k = 0
  · subst h0; obtain rfl := Option.some.inj hk; kernel_rfl
  unfold kindL at hk
  simp only [List.lookup_cons, List.lookup_nil, beq_eq_false_iff_ne.2 h51, beq_eq_false_iff_ne.2 h42, beq_eq_false_iff_ne.2 h44, beq_eq_false_iff_ne.2 h43, beq_eq_false_iff_ne.2 h13, beq_eq_false_iff_ne.2 h10, beq_eq_false_iff_ne.2 h0] at hk
  cases hk
theorem parsed_other {k : Nat} (hk : kindL.lookup k = none) : HE.parsed h k t = .ok ({ h with others := h.others ++ [k] }, []) := by
  unfold HE.parsed
  have n : ∀ j f, (j, f) ∈ kindL → k ≠ j := fun j f hj e => by
    subst e
    rw [List.lookup_eq_none_iff] at hk
    have := hk _ hj
    simp at this
  rw [if_neg (n 0 _ (by unfold kindL; simp; rfl)), if_neg (n 10 _ (by unfold kindL; simp; rfl)), if_neg (n 13 _ (by unfold kindL; simp; rfl)), if_neg (n 43 _ (by unfold kindL; simp; rfl)), if_neg (n 44 _ (by unfold kindL; simp; rfl)), if_neg (n 42 _ (by unfold kindL; simp; rfl)), if_neg (n 51 _ (by unfold kindL; simp; rfl))]
theorem put_others {k : Nat} {d : HE.BS} {h' : Hel} (e : HE.put h k d = .ok h') : h'.others.length ≤ h.others.length + 1 := by
  have hp : ∀ x, HE.parsed h k d = .ok x → x.1.others.length ≤ h.others.length + 1 := by
    intro x hx
    unfold HE.parsed at hx
    have o : ∀ {α : Type} (f : α → Hel × HE.BS) (r : Option α), (∀ y, (f y).1.others = h.others) → HE.toX (r.map f) = .ok x → x.1.others.length ≤ h.others.length + 1 := by
      intro α f r hf hr
      cases r with
      | none => cases hr
      | some y =>
        have hr : f y = x := by injection hr
        rw [← hr, hf y]; omega
    split at hx
    · exact o (fun y => _) _ (fun _ => rfl) hx
    split at hx
    · exact o (fun y => _) _ (fun _ => rfl) hx
    split at hx
    · exact o (fun y => _) _ (fun _ => rfl) hx
    split at hx
    · exact o (fun y => _) _ (fun _ => rfl) hx
    split at hx
    · exact o (fun y => _) _ (fun _ => rfl) hx
    split at hx
    · injection hx with hx; subst hx; exact Nat.le_succ _
    split at hx
    · cases hs : HE.sharesX d with
      | error c => rw [hs] at hx; cases hx
      | ok l => rw [hs] at hx; injection hx with hx; subst hx; exact Nat.le_succ _
    · injection hx with hx; subst hx; simp
  unfold HE.put at e
  cases hq : HE.parsed h k d with
  | error c => rw [hq] at e; cases e
  | ok x =>
    rw [hq] at e
    simp only [] at e
    split at e
    · injection e with e; subst e; exact hp _ hq
    · cases e
end
theorem SetAt.len {w : World} {M : Nat} {l : List Nat} (h : SetAt w M l) (ty : TypeId) : (Builtin.len_ #[106] ty #[.map (some M)]).run Try.prog w = .ok (.int .i64 (l.length : Int)) w := by
  obtain ⟨D, hown, hD⟩ := h
  rw [hown.len Try.underlying106 ty, hD.size]
theorem HIn.out {w w' : World} {F ex : Nat → Prop} {q B : Nat} {h : Hel} (hh : HIn w F q B h) (ho : Out ex w w') (hq : ¬ ex q) (hn : ∀ k, ex k → k < B ∨ F k) : HIn w' F q B h := by
  obtain ⟨vS, vV, vG, vC, vH, vO, hg, hv, hf⟩ := hh
  have k : ∀ v : Value, (∀ k, v.ownBlock = some k → ¬ F k) → ∀ g, B ≤ g → g < w.heap.size → v.ownBlock = some g → w'.heap[g]? = w.heap[g]? := fun v hv' g hg hlt e => ho.block g hlt fun e2 => by
    rcases hn g e2 with h1 | h1
    · omega
    · exact hv' _ e h1
  exact ⟨vS, vV, vG, vC, vH, vO, ho.get hg hq, ⟨owns_keep hv.s (k _ hf.s), owns_keep hv.v (k _ hf.v), owns_keep hv.g (k _ hf.g), owns_keep hv.c (k _ hf.c), owns_keep hv.sh (k _ hf.sh), owns_keep hv.o (k _ hf.o), hv.apart⟩, hf⟩
theorem HIn.less {w : World} {F F' : Nat → Prop} {q B : Nat} {h : Hel} (hh : HIn w F q B h) (hn : ∀ k, k < w.heap.size → F' k → F k) : HIn w F' q B h := by
  obtain ⟨vS, vV, vG, vC, vH, vO, hg, hv, hf⟩ := hh
  exact ⟨vS, vV, vG, vC, vH, vO, hg, hv, ⟨fun k e f => hf.s k e (hn k (owns_lt hv.s e).2 f), fun k e f => hf.v k e (hn k (owns_lt hv.v e).2 f), fun k e f => hf.g k e (hn k (owns_lt hv.g e).2 f), fun k e f => hf.c k e (hn k (owns_lt hv.c e).2 f), fun k e f => hf.sh k e (hn k (owns_lt hv.sh e).2 f), fun k e f => hf.o k e (hn k (owns_lt hv.o e).2 f)⟩⟩
theorem HIn.lt {w : World} {F : Nat → Prop} {q B : Nat} {h : Hel} (hh : HIn w F q B h) : q < w.heap.size := by
  obtain ⟨vS, vV, vG, vC, vH, vO, hg, hv, hf⟩ := hh
  exact hget_lt hg
end Go.Proofs.Ytliblhfabnjpkaa

namespace Go.Proofs.Ytliblhfabnjpkaa
open Go Go.RowKit
/-- What the extensions of a hello give: or a panic. -/
abbrev AfterE (q B : Nat) (r : Except Int Hel) (e : Ending) (w' : World) : Prop :=
  match r with
  | .ok h => e = .returned (.tuple #[]) ∧ HIn w' (fun _ => False) q B h
  | .error c => e = pan c
theorem ext1_none1 {s : HE.BS} (h : HE.num 2 s = none) : HE.ext1 s = none := by unfold HE.ext1; rw [h]; rfl
theorem ext1_none2 {s r : HE.BS} {k : Nat} (h : HE.num 2 s = some (k, r)) (h2 : HE.text 2 r = none) : HE.ext1 s = none := by unfold HE.ext1; rw [h]; simp [h2]
theorem ext1_some {s r r2 d : HE.BS} {k : Nat} (h : HE.num 2 s = some (k, r)) (h2 : HE.text 2 r = some (d, r2)) : HE.ext1 s = some (k, d, r2) := by unfold HE.ext1; rw [h]; simp [h2]
theorem extN_none {n : Nat} {h : Hel} {l : List Nat} {s : HE.BS} (hs : s ≠ []) (h1 : HE.ext1 s = none) : HE.extN n h l s = .error 270 := by
  cases n with
  | zero => unfold HE.extN; rw [if_neg hs]
  | succ n => unfold HE.extN; rw [if_neg hs, h1]
@[go_sem] theorem run_eq_nil (w : World) : (binOp .eql 107 .nilFunc .nilFunc).run Try.prog w = .ok (.bool true) w := by kernel_rfl
@[go_sem] theorem run_eq_fun (f : Nat) (w : World) : (binOp .eql 107 (.func (.func f) #[] #[]) .nilFunc).run Try.prog w = .ok (.bool false) w := by kernel_rfl
section
variable {w : World} {q B : Nat} {h : Hel}
set_option maxHeartbeats 4000000 in
theorem exts_any (s : HE.BS) (hh : HIn w (fun _ => False) q B h) (hqB : q < B) (hB : B ≤ w.heap.size) (hs : s.length ≤ 1000000) (ho : h.others.length ≤ 1000) :
    Calls Try.prog 38 #[.pointer (some ⟨q, 0, none⟩), .string ⟨s.toArray⟩] w fun e w' => Out (fun k => k = q ∨ B ≤ k) w w' ∧ AfterE q B (HE.extN 64 h [] s) e w' := by
  obtain ⟨i0, hi, hii⟩ := Option.map_eq_some_iff.1 info_u16
  obtain ⟨hz0, hz1, hz2⟩ : i0.zero = some (.int .u16 0) ∧ i0.size = 1 ∧ i0.bytes = 2 := by simpa using hii
  clear hii
  have hmm := @run_makeMap Try.prog
  have hp0 : PAt ((w.alloc (.map #[] 0)).alloc (.cells #[.string ⟨s.toArray⟩, .pointer none] 75)) (w.alloc (.map #[] 0)).heap.size s (.pointer none) := alloc_at _ _
  have hsz0 : (w.alloc (.map #[] 0)).heap.size = w.heap.size + 1 := by simp
  have hb0 : Below w.heap.size w ((w.alloc (.map #[] 0)).alloc (.cells #[.string ⟨s.toArray⟩, .pointer none] 75)) := (below_new (w := w) (.map #[] 0)).alloc (by simp) _
  have hm0 : SetAt ((w.alloc (.map #[] 0)).alloc (.cells #[.string ⟨s.toArray⟩, .pointer none] 75)) w.heap.size [] := (SetAt.new w).out (Out.of_below (ex := fun _ => False) (below_new _)) (by simp)
  have hqw := hh.lt
  have hh0 := (hh.less (F' := fun k => k = w.heap.size ∨ k = w.heap.size + 1) (fun k hk e => by omega)).out (Out.of_below (ex := fun _ => False) hb0) (by simp) (by simp)
  rw [hsz0] at hp0
  have H0 := hid (And.intro hp0 (And.intro hb0 (And.intro hm0 (And.intro hh0 hh))))
  clear hp0 hb0 hm0 hh0 hh hsz0
  go_enter Try.func38, Try.ntmps38
  go_wp2_with fail
  generalize (w.alloc (.map #[] 0)).alloc (.cells #[.string ⟨s.toArray⟩, .pointer none] 75) = w0 at *
  have HO0 := hid (Out.of_below (ex := fun k => k = q ∨ B ≤ k) H0.out.2.1)
  generalize w.heap.size = M at *
  go_loopw [] (fun wr => ∃ (g : Hel) (l : List Nat) (r : HE.BS), HE.extN 64 h [] s = HE.extN (64 - l.length) g l r ∧ l.length ≤ 64 ∧ g.others.length ≤ 1000 + l.length ∧ r.length ≤ 1000000 ∧ SetAt wr M l ∧ PAt wr (M + 1) r (.pointer none) ∧ HIn wr (fun k => k = M ∨ k = M + 1) q B g ∧ Out (fun k => k = q ∨ B ≤ k) w wr) (fun wr => strAt wr (M + 1))
  case atStart => exact ⟨h, [], s, rfl, by simp, by simp; exact ho, hs, H0.out.2.2.1, H0.out.1, H0.out.2.2.2.1, HO0.out⟩
  case round =>
    obtain ⟨g, l, r, heq, hl, hol, hrl, hm, hp, hh, hO⟩ := hrel
    have hme := strAt_of hp
    have c0 : wr.cell? ⟨M + 1, 0, none⟩ = some (.string ⟨r.toArray⟩) := cell_at hp 0
    have hemp := str_empty r
    obtain ⟨T, hT⟩ : ∃ T, (⟨r.toArray⟩ : ByteArray) = T := ⟨_, rfl⟩
    rw [hT] at c0 hemp
    have HP := hid hp
    have HM := hid hm
    have HH := hid hh
    have HO := hid hO
    have HEQ := hid heq
    have HME := hid hme
    clear hT hp hm hh hO heq hme H0 HO0
    by_cases hr0 : r = []
    · rw [decide_eq_true hr0] at hemp
      subst hr0
      go_wp2_with fail
      go_end0
      refine ⟨HO.out, ?_⟩
      have : HE.extN (64 - l.length) g l [] = .ok g := by cases 64 - l.length <;> rfl
      rw [HEQ.out, this]
      exact ⟨rfl, HH.out.less (fun _ _ e => e.elim)⟩
    · rw [decide_eq_false hr0] at hemp
      have hnm := num_any HP.out 2 (by omega) (by omega)
      unfold Gives at hnm
      cases hr : HE.num 2 r with
      | none =>
        rw [hr] at hnm
        have HN := hid hnm
        have HX := hid ((HEQ.out).trans (extN_none hr0 (ext1_none1 hr)))
        clear hnm hr hr0
        go_wp2_with fail
        refine HN.out.mono ?_
        rintro e w' ⟨ho, rfl⟩
        refine ⟨rfl, HO.out.trans ho (fun j hj e => by omega), ?_⟩
        rw [HX.out]
        rfl
      | some kr =>
        obtain ⟨k, r1⟩ := kr
        rw [hr] at hnm
        have HN := hid hnm
        obtain ⟨hl1, hk⟩ := HE.num_some hr
        have hl0 := (num2_some hr).2
        have hk2 : (k : Int) % 65536 = (k : Int) := by omega
        have hk3 : k < 65536 := hk
        have HR := hid hr
        have HR0 := hid hr0
        clear hnm hr hk hr0
        go_wp2_with fail
        refine HN.out.mono ?_
        rintro e w1 ⟨ho, v, rfl, hv1, hp1⟩
        obtain rfl : v = .int .i64 (k : Int) := hv1
        have HM1 := hid (HM.out.out ho (by omega))
        have HH1 := hid (HH.out.out ho (by omega) (fun j e => by omega))
        have HO1 := hid (HO.out.trans ho (fun j hj e => by omega))
        have HP1 := hid hp1
        have htx := text_any hp1 2 (by omega) (by omega)
        unfold Gives at htx
        clear ho hp1 HM HH HO HP HN c0 hemp
        cases hr2 : HE.text 2 r1 with
        | none =>
          rw [hr2] at htx
          have HT := hid htx
          have HX := hid ((HEQ.out).trans (extN_none HR0.out (ext1_none2 HR.out hr2)))
          clear htx hr2
          go_wp2_with fail
          refine HT.out.mono ?_
          rintro e w' ⟨ho, rfl⟩
          refine ⟨rfl, HO1.out.trans ho (fun j hj e => by omega), ?_⟩
          rw [HX.out]
          rfl
        | some dr =>
          obtain ⟨d, r2⟩ := dr
          rw [hr2] at htx
          have HT := hid htx
          obtain ⟨hl2, hl3⟩ := HE.text_some hr2
          have HR2 := hid (ext1_some HR.out hr2)
          clear htx hr2
          go_wp2_with fail
          refine HT.out.mono ?_
          rintro e w2 ⟨ho, v, rfl, hv1, hp2⟩
          obtain rfl : v = .string ⟨d.toArray⟩ := hv1
          have HM2 := hid (HM1.out.out ho (by omega))
          have HH2 := hid (HH1.out.out ho (by omega) (fun j e => by omega))
          have HO2 := hid (HO1.out.trans ho (fun j hj e => by omega))
          have HP2 := hid hp2
          have hlen := fun ty => HM2.out.len ty
          clear ho hp2 HM1 HH1 HO1 HP1 HT HR
          by_cases hl64 : l.length = 64
          · have d64 : decide ((64 : Int) ≤ (l.length : Int)) = true := decide_eq_true (by omega)
            have HX := hid (show HE.extN 64 h [] s = .error 270 by rw [HEQ.out, hl64, Nat.sub_self, HE.extN, if_neg HR0.out])
            go_wp2_with fail
            refine ⟨rfl, HO2.out, ?_⟩
            rw [HX.out]
            rfl
          · have d64 : decide ((64 : Int) ≤ (l.length : Int)) = false := decide_eq_false (by omega)
            have hlk := HM2.out.look hk3
            have hlk2 : (Instr.lookup 106 (.map (some M)) (.int .u16 41) false).run Try.prog w2 = .ok (.bool (decide (41 ∈ l))) w2 := HM2.out.look (x := 41) (by omega)
            have hst : HE.extN 64 h [] s = if k ∈ l ∨ 41 ∈ l then .error 271 else match HE.put g k d with | .error c => .error c | .ok h' => HE.extN (64 - (l.length + 1)) h' (l ++ [k]) r2 := by
              rw [HEQ.out, show 64 - l.length = (64 - (l.length + 1)) + 1 by omega, HE.extN, if_neg HR0.out, HR2.out] <;> rfl
            have HST := hid hst
            clear hst HEQ HR0 HR2
            by_cases hkl : k ∈ l
            · rw [decide_eq_true hkl] at hlk
              have HX := hid (HST.out.trans (if_pos (.inl hkl)))
              clear hkl
              go_wp2_with fail
              refine ⟨rfl, HO2.out, ?_⟩
              rw [HX.out]
              rfl
            rw [decide_eq_false hkl] at hlk
            by_cases hpk : 41 ∈ l
            · rw [decide_eq_true hpk] at hlk2
              have HX := hid (HST.out.trans (if_pos (.inr hpk)))
              have HKL := hid hkl
              clear hpk hkl
              go_wp2_with fail
              refine ⟨rfl, HO2.out, ?_⟩
              rw [HX.out]
              rfl
            rw [decide_eq_false hpk] at hlk2
            have HX := hid (HST.out.trans (if_neg (by simp [hkl, hpk])))
            have HKL := hid hkl
            have hlm : l.length < maxLen := by unfold maxLen; omega
            clear hpk hkl HST
            go_wp2_with (at_mapUpdate; refine wpList_set_put rfl _ _ _ rfl M _ rfl HM2.out hlm k hk3 HKL.out rfl rfl ?_)
            intro w3 hm3 hg3
            have hoM : Out (fun j => j = M) w2 w3 := Out.of_grown hg3 (fun j e => (Option.some.inj e).symm)
            have HM3 := hid hm3
            have HH3 := hid (HH2.out.out hoM (by omega) (fun j e => .inr (.inl e)))
            have HO3 := hid (HO2.out.trans hoM (fun j hj e => by omega))
            have HP3 := hid (show PAt w3 (M + 1) r2 (.pointer none) from hoM.get HP2.out (by omega))
            clear hm3 hg3 hoM HM2 HH2 HO2 HP2 hlen hlk hlk2 hmm
            go_wp2_with fail
            refine kinds_any.mono ?_
            rintro e w4 ⟨hb, rfl, hf⟩
            have hlk4 := hf.look hk3
            have hM3 : M < w3.heap.size := HM3.out.lt
            have hP3 : M + 1 < w3.heap.size := hget_lt HP3.out
            have hbo : Out (fun _ => False) w3 w4 := Out.of_below hb
            have HM4 := hid (HM3.out.out hbo (by simp))
            have HH4 := hid (HH3.out.out hbo (by simp) (by simp))
            have HO4 := hid (HO3.out.then (Out.of_below hb))
            have HP4 := hid (show PAt w4 (M + 1) r2 (.pointer none) from hbo.get HP3.out (by simp))
            clear hf hb hbo HM3 HH3 HO3 HP3
            cases hq : kindL.lookup k with
            | none =>
              rw [hq] at hlk4
              simp only [funV] at hlk4
              have hput : HE.put g k d = .ok { g with others := g.others ++ [k] } := by unfold HE.put; rw [parsed_other hq]; rfl
              have hx := HX.out
              rw [hput] at hx
              have HPS := hid hx
              obtain ⟨vS, vV, vG, vC, vH, vO, hgq, hv, hf⟩ := HH4.out
              obtain ⟨sa, sc, hvO⟩ := owns_sl hv.o
              have cq : w4.cell? ⟨q, 11, none⟩ = some vO := cell_at hgq 11
              have fq := free_at hgq
              have HGQ := hid hgq
              have HV := hid hv
              have HF := hid hf
              have HOW := hid hv.o
              have hml : g.others.length + 1 ≤ maxLen := by unfold maxLen; omega
              have hBw : B ≤ w4.heap.size := Nat.le_trans hB (by have := HM4.out.lt; omega)
              have hqw4 : q < w4.heap.size := hget_lt hgq
              have HVO := hid hvO
              subst hvO
              clear hq HX hx hput HH4 hgq hv hf
              go_wp2_with (at_builtin; refine wpList_append_own_at _ rfl _ _ 35 rfl B 56 i0 (.int .u16 0) 1 2 Try.underlying35 hi hz0 hz1 hz2 rfl (by decide) _ _ _ rfl (HOW.out.alloc _) ⟨w4.heap.size, 0, none⟩ 1 1 [.int .u16 (k : Int)] rfl rfl ?c1 ?c2 hml ?c4 ?c5 ?_)
              case c1 => exact cell_one_new _ _ _
              case c2 => intro u hu; simp only [List.mem_cons, List.not_mem_nil, or_false] at hu; subst hu; rfl
              case c4 => omega
              case c5 => simp; omega
              intro v'' w5 hown' hgrow _ hat
              obtain ⟨sa', sc', hv'⟩ := owns_sl hown'
              subst hv'
              have hnqO : ∀ j, (Value.slice sa g.others.length sc).ownBlock = some j → j ≠ q := fun j e => by have := (owns_lt HOW.out e).1; omega
              have hgq5 : hget w5 q = _ := hget_grown (keepB (below_new (w := w4) (.cells #[.int .u16 (k : Int)] 56)) HGQ.out) hgrow (fun e => hnqO q e.symm rfl)
              have cq5 : w5.cell? ⟨q, 11, none⟩ = some (.slice sa g.others.length sc) := cell_at hgq5 11
              have fq5 := free_at hgq5
              have HGR := hid hgrow
              have HAT := hid hat
              have HON := hid hown'
              have HQ5 := hid hgq5
              have HNQ := hid hnqO
              clear hgrow hat hown' hgq5 hnqO cq fq
              go_wp2_with fail
              obtain ⟨v', hvd⟩ : ∃ v', Value.slice sa' (g.others.length + 1) sc' = v' := ⟨_, rfl⟩
              have HON := hid (hvd ▸ HON.out)
              have HAT := hid (hvd ▸ HAT.out)
              rw [hvd]
              have hw : (w4.alloc (.cells #[.int .u16 (k : Int)] 56)).heap.size = w4.heap.size + 1 := by simp
              have hkeep : ∀ j, j < w4.heap.size → j ≠ q → (Value.slice sa g.others.length sc).ownBlock ≠ some j → (w5.setCell ⟨q, 11, none⟩ v').heap[j]? = w4.heap[j]? := fun j hj h1 h2 =>
                (Below.heap_setCell w5 ⟨q, 11, none⟩ v' j h1).trans ((HGR.out.block j (by omega) (fun e => h2 e.symm)).trans (Below.heap_alloc w4 _ j hj))
              have ho6 : Out (fun j => j = q ∨ (Value.slice sa g.others.length sc).ownBlock = some j) w4 (w5.setCell ⟨q, 11, none⟩ v') :=
                ((Out.of_below (below_new (w := w4) _)).trans (Out.of_grown (ex := fun j => (Value.slice sa g.others.length sc).ownBlock = some j) HGR.out (fun j e => e)) (fun j _ e => .inr e)).setCell (.inl (.inl rfl)) v'
              have hvb : ∀ j, v'.ownBlock = some j → (Value.slice sa g.others.length sc).ownBlock = some j ∨ j = w4.heap.size + 1 := fun j e => by
                rcases HAT.out with h1 | h1
                · exact .inl (h1.symm.trans e)
                · have e2 := Option.some.inj (h1.symm.trans e); exact .inr (by first | omega | (simp at e2; omega))
              have hnb : ∀ (v : Value), (∀ j, v.ownBlock = some j → B ≤ j) → (∀ j, (Value.slice sa g.others.length sc).ownBlock = some j → v.ownBlock ≠ some j) → ∀ j, B ≤ j → j < w4.heap.size → v.ownBlock = some j → (w5.setCell ⟨q, 11, none⟩ v').heap[j]? = w4.heap[j]? := fun v h1 h2 j hj hlt e =>
                hkeep j hlt (by omega) (fun e2 => h2 j e2 e)
              have hap := HV.out.apart
              have hlM := HM4.out.lt
              have hl4 : M + 1 < w4.heap.size := hget_lt HP4.out
              have hlt : ∀ {e : TypeId} {sz : Nat} {v : Value} {n : Nat} {xs : List Value}, w4.ownsRow B e sz v n xs → (∀ j, (Value.slice sa g.others.length sc).ownBlock = some j → v.ownBlock ≠ some j) → ∀ j, v'.ownBlock = some j → v.ownBlock ≠ some j := fun ho hn j e e2 => by
                rcases hvb j e with h1 | h1
                · exact hn j h1 e2
                · have := (owns_lt ho e2).2; omega
              have hp6 := ho6.get HP4.out (fun e => e.elim (by omega) (fun e => HF.out.o (M + 1) e (.inr rfl)))
              refine ⟨⟨{ g with others := g.others ++ [k] }, l ++ [k], r2, ?_, ?_, ?_, ?_, HM4.out.out ho6 (fun e => e.elim (by omega) (fun e => HF.out.o M e (.inl rfl))), hp6, ⟨vS, vV, vG, vC, vH, v', hget_setCell HQ5.out 11 v', ⟨owns_keep HV.out.s (hnb _ (fun j e => (owns_lt HV.out.s e).1) (fun j e => (hap j e).1)), owns_keep HV.out.v (hnb _ (fun j e => (owns_lt HV.out.v e).1) (fun j e => (hap j e).2.1)), owns_keep HV.out.g (hnb _ (fun j e => (owns_lt HV.out.g e).1) (fun j e => (hap j e).2.2.1)), owns_keep HV.out.c (hnb _ (fun j e => (owns_lt HV.out.c e).1) (fun j e => (hap j e).2.2.2.1)), owns_keep HV.out.sh (hnb _ (fun j e => (owns_lt HV.out.sh e).1) (fun j e => (hap j e).2.2.2.2)), ?_, fun j e => ⟨hlt HV.out.s (fun j e => (hap j e).1) j e, hlt HV.out.v (fun j e => (hap j e).2.1) j e, hlt HV.out.g (fun j e => (hap j e).2.2.1) j e, hlt HV.out.c (fun j e => (hap j e).2.2.2.1) j e, hlt HV.out.sh (fun j e => (hap j e).2.2.2.2) j e⟩⟩, ⟨HF.out.s, HF.out.v, HF.out.g, HF.out.c, HF.out.sh, fun j e => ?_⟩⟩, HO4.out.trans ho6 (fun j _ e => ?_)⟩, ?_⟩
              · rw [List.length_append, List.length_singleton]
                exact HPS.out
              · rw [List.length_append, List.length_singleton]; omega
              · simp only [List.length_append, List.length_singleton]; omega
              · omega
              · rw [List.length_append, u16s_append]
                exact owns_out HON.out (Out.setCell (p := ⟨q, 11, none⟩) (Out.refl (fun k => k = q) w5) (.inl rfl) v') (fun j hj e => by omega)
              · rcases hvb j e with h1 | h1
                · exact HF.out.o j h1
                · omega
              · rcases e with e | e
                · exact .inl e
                · exact .inr (owns_lt HOW.out e).1
              · rw [strAt_of (show PAt _ _ _ _ from hp6)]
                have := HME.out
                omega
            | some f =>
              rw [hq] at hlk4
              simp only [funV, funOf] at hlk4
              have hent := fun w args => kind_enter (w := w) hq args
              have hbx := below_new (w := w4) (.cells #[.string ⟨d.toArray⟩, .pointer (some ⟨q, 0, none⟩)] 75)
              have hx : PAt (w4.alloc (.cells #[.string ⟨d.toArray⟩, .pointer (some ⟨q, 0, none⟩)] 75)) w4.heap.size d (.pointer (some ⟨q, 0, none⟩)) := alloc_at _ _
              have hl4 : M + 1 < w4.heap.size := hget_lt HP4.out
              have hq4 : q < w4.heap.size := HH4.out.lt
              have hh5 := (HH4.out.less (F' := fun j => j = M ∨ j = M + 1 ∨ j = w4.heap.size) (fun j hj e => by omega)).out (Out.of_below (ex := fun _ => False) hbx) (by simp) (by simp)
              have hrd := read_any hq hx hh5 (fun j e => by simp; omega) (.inr (.inr rfl)) (by omega) hqB (by simp; omega) (by omega)
              have hbo : Out (fun _ => False) w4 (w4.alloc (.cells #[.string ⟨d.toArray⟩, .pointer (some ⟨q, 0, none⟩)] 75)) := Out.of_below hbx
              have HM5 := hid (HM4.out.out hbo (by simp))
              have HP5 := hid (hbo.get HP4.out (by simp))
              have HO5 := hid (HO4.out.then (Out.of_below hbx))
              have HRD := hid hrd
              clear hbx hx hh5 hrd hbo HM4 HP4 HO4 HH4
              go_wp2_with fail
              refine HRD.out.mono ?_
              rintro e w5 ⟨ho5, hx⟩
              have hw : (w4.alloc (.cells #[.string ⟨d.toArray⟩, .pointer (some ⟨q, 0, none⟩)] 75)).heap.size = w4.heap.size + 1 := by simp
              have HM6 := hid (HM5.out.out ho5 (by omega))
              have hp6 := ho5.get HP5.out (by omega)
              have HO6 := hid (HO5.out.trans ho5 (fun j hj e => by omega))
              cases hpr : HE.parsed g k d with
              | error c =>
                rw [hpr] at hx
                obtain rfl : e = pan c := hx
                have hput : HE.put g k d = .error c := by unfold HE.put; rw [hpr]
                have HX2 := HX.out
                rw [hput] at HX2
                refine ⟨rfl, HO6.out, ?_⟩
                rw [HX2]
                rfl
              | ok gr =>
                obtain ⟨g', rr⟩ := gr
                rw [hpr] at hx
                obtain ⟨rfl, hp5, hh5⟩ := hx
                have HEN := hid (ends_any hp5)
                have HP6 := hid hp6
                have HH6 := hid (hh5.less (F' := fun j => j = M ∨ j = M + 1) (fun j hj e => by rcases e with e | e; exact .inl e; exact .inr (.inl e)))
                have HPR := hid hpr
                clear hp5 hh5 hpr hp6 HM5 HP5 HO5 hent hlk4 ho5 HRD
                go_wp2_with fail
                refine HEN.out.mono ?_
                rintro e w6 ⟨rfl, rfl⟩
                by_cases hrr : rr = []
                · rw [if_pos hrr]
                  have hput : HE.put g k d = .ok g' := by unfold HE.put; rw [HPR.out]; exact if_pos hrr
                  have HX2 := HX.out
                  rw [hput] at HX2
                  have HX3 := hid HX2
                  have HOB := hid (put_others hput)
                  clear hput HX2 HX hrr
                  go_wp2_with fail
                  refine ⟨⟨g', l ++ [k], r2, ?_, ?_, ?_, ?_, HM6.out, HP6.out, HH6.out, HO6.out⟩, ?_⟩
                  · rw [List.length_append, List.length_singleton]
                    exact HX3.out
                  · rw [List.length_append, List.length_singleton]; omega
                  · have := HOB.out; simp only [List.length_append, List.length_singleton]; omega
                  · omega
                  · rw [strAt_of (show PAt _ _ _ _ from HP6.out)]
                    have := HME.out
                    omega
                · rw [if_neg hrr]
                  have hput : HE.put g k d = .error 270 := by unfold HE.put; rw [HPR.out]; exact if_neg hrr
                  have HX2 := HX.out
                  rw [hput] at HX2
                  refine ⟨rfl, HO6.out, ?_⟩
                  rw [HX2]
                  rfl
end
end Go.Proofs.Ytliblhfabnjpkaa
