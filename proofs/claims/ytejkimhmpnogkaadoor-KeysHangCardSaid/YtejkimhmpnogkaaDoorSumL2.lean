/- The walks of the laws SumOfs, SumTags, SumNil. -/
import Derived.Test.YtejkimhmpnogkaaDoorSumL1
namespace Go.Proofs.YtejkimhmpnogkaaDoor
open Go.RowKit

theorem small_one (s : ByteArray) (b : Nat) (W : World) (hs : s.size ≤ 140737488351232) (hc : W.cell? ⟨b, 0, none⟩ = some (.string s)) :
    Calls Tryd.prog 13 #[.slice (some ⟨b, 0, none⟩) 1 1] W fun e w' => e = .returned (.bool (decide (8 + s.size ≤ 2048))) ∧ W = w' := by
  have h := small_any [s] (some ⟨b, 0, none⟩) 1 W (by simp) (fun j hj => by
    have : j = 0 := by simpa using hj
    subst this; exact hs) (.inr ⟨b, 0, rfl, fun j hj => by
    have : j = 0 := by simpa using hj
    subst this; exact hc⟩)
  have e : wsum [s] = 8 + s.size := by simp [wsum]
  rw [e] at h
  exact h
theorem small_two (s t : ByteArray) (b : Nat) (W : World) (hs : s.size ≤ 140737488351232) (ht : t.size ≤ 140737488351232) (hc : W.cell? ⟨b, 0, none⟩ = some (.string s)) (hd : W.cell? ⟨b, 1, none⟩ = some (.string t)) :
    Calls Tryd.prog 13 #[.slice (some ⟨b, 0, none⟩) 2 2] W fun e w' => e = .returned (.bool (decide (8 + s.size + (8 + t.size) ≤ 2048))) ∧ W = w' := by
  have h := small_any [s, t] (some ⟨b, 0, none⟩) 2 W (by simp) (fun j hj => by
    match j, hj with
    | 0, _ => exact hs
    | 1, _ => exact ht) (.inr ⟨b, 0, rfl, fun j hj => by
    match j, hj with
    | 0, _ => exact hc
    | 1, _ => exact hd⟩)
  have e : wsum [s, t] = 8 + s.size + (8 + t.size) := by simp [wsum]
  rw [e] at h
  exact h

set_option maxHeartbeats 1000000 in
theorem ofs_any (s : ByteArray) (W : World) (hT : Tab W) (hs : s.size ≤ 140737488351232) : Calls Tryd.prog 3 #[.string s] W fun e w' => e = .returned (.bool true) ∧ Below W.heap.size W w' := by
  have T1 := hid (hT.keep (below_new (w := W) (.cells #[.string s] 9)))
  have B1 := hid (below_new (w := W) (.cells #[.string s] 9))
  have hsm := small_one s W.heap.size _ hs (cell_at (alloc_at W (.cells #[.string s] 9)) 0)
  clear hT
  by_cases hc : 8 + s.size ≤ 2048
  · rw [decide_eq_true hc] at hsm
    have HSM := hid hsm
    clear hsm
    go_enter Tryd.func3, Tryd.ntmps3
    go_wp2_with fail
    refine HSM.out.mono ?_
    rintro e w' ⟨rfl, rfl⟩
    go_wp2_with fail
    have h1 := of_any s _ T1.out (by omega)
    refine h1.mono ?_
    clear h1
    rintro e w2 ⟨rfl, hb2⟩
    have T2 := hid (T1.out.keep hb2)
    have B2 := hid (below_to B1.out hb2)
    clear hb2 T1 B1 HSM
    obtain ⟨D, hD⟩ : ∃ D : ByteArray, (⟨(SM.sum s.data.toList).toArray⟩ : ByteArray) = D := ⟨_, rfl⟩
    have h2 := ROf_any s w2 (by omega)
    rw [hD] at h2 ⊢
    clear hD
    go_wp2_with fail
    refine h2.mono ?_
    clear h2
    rintro e w3 ⟨rfl, hb3⟩
    have T3 := hid (T2.out.keep hb3)
    have B3 := hid (below_to B2.out hb3)
    clear hb3 T2 B2
    go_wp2_with fail
    refine (alive_any _ T3.out).mono ?_
    rintro e w4 ⟨rfl, hb4⟩
    go_wp2_with fail
    go_ret
    exact ⟨rfl, below_to B3.out hb4⟩
  · rw [decide_eq_false hc] at hsm
    have HSM := hid hsm
    clear hsm
    go_enter Tryd.func3, Tryd.ntmps3
    go_wp2_with fail
    refine HSM.out.mono ?_
    rintro e w' ⟨rfl, rfl⟩
    go_wp2_with fail
    refine (alive_any _ T1.out).mono ?_
    rintro e w4 ⟨rfl, hb4⟩
    go_wp2_with fail
    go_ret
    exact ⟨rfl, below_to B1.out hb4⟩

set_option maxHeartbeats 1000000 in
theorem tags_any (key s : ByteArray) (W : World) (hT : Tab W) (hk : key.size ≤ 140737488351232) (hs : s.size ≤ 140737488351232) : Calls Tryd.prog 4 #[.string key, .string s] W fun e w' => e = .returned (.bool true) ∧ Below W.heap.size W w' := by
  have T1 := hid (hT.keep (below_new (w := W) (.cells #[.string key, .string s] 9)))
  have B1 := hid (below_new (w := W) (.cells #[.string key, .string s] 9))
  have hsm := small_two key s W.heap.size _ hk hs (cell_at (alloc_at W (.cells #[.string key, .string s] 9)) 0) (cell_at (alloc_at W (.cells #[.string key, .string s] 9)) 1)
  clear hT
  by_cases hc : 8 + key.size + (8 + s.size) ≤ 2048
  · rw [decide_eq_true hc] at hsm
    have HSM := hid hsm
    clear hsm
    go_enter Tryd.func4, Tryd.ntmps4
    go_wp2_with fail
    refine HSM.out.mono ?_
    rintro e w' ⟨rfl, rfl⟩
    go_wp2_with fail
    have h1 := tag_any key s _ T1.out (by omega) (by omega)
    refine h1.mono ?_
    clear h1
    rintro e w2 ⟨rfl, hb2⟩
    have T2 := hid (T1.out.keep hb2)
    have B2 := hid (below_to B1.out hb2)
    clear hb2 T1 B1 HSM
    obtain ⟨D, hD⟩ : ∃ D : ByteArray, (⟨(SM.tag key.data.toList s.data.toList).toArray⟩ : ByteArray) = D := ⟨_, rfl⟩
    have h2 := RTag_any key s w2 (by omega) (by omega)
    rw [hD] at h2 ⊢
    clear hD
    go_wp2_with fail
    refine h2.mono ?_
    clear h2
    rintro e w3 ⟨rfl, hb3⟩
    have T3 := hid (T2.out.keep hb3)
    have B3 := hid (below_to B2.out hb3)
    clear hb3 T2 B2
    go_wp2_with fail
    refine (alive_any _ T3.out).mono ?_
    rintro e w4 ⟨rfl, hb4⟩
    go_wp2_with fail
    go_ret
    exact ⟨rfl, below_to B3.out hb4⟩
  · rw [decide_eq_false hc] at hsm
    have HSM := hid hsm
    clear hsm
    go_enter Tryd.func4, Tryd.ntmps4
    go_wp2_with fail
    refine HSM.out.mono ?_
    rintro e w' ⟨rfl, rfl⟩
    go_wp2_with fail
    refine (alive_any _ T1.out).mono ?_
    rintro e w4 ⟨rfl, hb4⟩
    go_wp2_with fail
    go_ret
    exact ⟨rfl, below_to B1.out hb4⟩

theorem add_nil (s : ByteArray) (w : World) : Calls Tryd.prog 21 #[.pointer none, .string s] w fun e w' => e = .returned (.int .i64 1) ∧ w = w' := by
  go_enter Tryd.func21, Tryd.ntmps21
  go_wp2_with fail
  refine (none_nil _).mono ?_
  rintro e w' ⟨rfl, rfl⟩
  go_wp2_with fail
  go_ret
  exact ⟨rfl, rfl⟩
set_option maxHeartbeats 1000000 in
theorem nils_any (s : ByteArray) (W : World) (hT : Tab W) : Calls Tryd.prog 6 #[.string s] W fun e w' => e = .returned (.bool true) ∧ Below W.heap.size W w' := by
  go_enter Tryd.func6, Tryd.ntmps6
  go_wp2_with fail
  refine (add_nil s _).mono ?_
  rintro e w' ⟨rfl, rfl⟩
  go_wp2_with fail
  refine (sum_nil _).mono ?_
  rintro e w' ⟨rfl, rfl⟩
  go_wp2_with fail
  refine (copy_nil _).mono ?_
  rintro e w' ⟨rfl, rfl⟩
  go_wp2_with fail
  refine (alive_any _ hT).mono ?_
  rintro e w4 ⟨rfl, hb4⟩
  go_wp2_with fail
  go_ret
  exact ⟨rfl, hb4⟩

end Go.Proofs.YtejkimhmpnogkaaDoor
