/- The walks of the numbers: below. -/
import Derived.Test.YtoaihbmicdbaiaaNumW3
namespace Go.Proofs.Ytoaihbmicdbaiaa
open Go.RowKit DG
attribute [local go_sem ↓] exl_Elem exs_Elem exl_Num exs_Num
                 attribute [local go_sem] ldr_Elem str_Elem ldr_Num str_Num
attribute [local go_sem] to_quad0 to_nine0

set_option maxHeartbeats 1000000 in
theorem below_any (a : Nat) (W : World) (ha : a < p2) : Calls Try.prog 36 #[.agg (quad a)] W fun e w' => e = .returned (.agg (quad (a % pP))) ∧ Below W.heap.size W w' := by
  have h255 : a % 57896044618658097711785492504343953926634992332820282019728792003956564819968 < p2 := Nat.lt_trans (Nat.mod_lt _ (by decide)) (by decide)
  obtain ⟨q, hq⟩ : ∃ q, a / 57896044618658097711785492504343953926634992332820282019728792003956564819968 = q := ⟨_, rfl⟩
  obtain ⟨r, hr⟩ : ∃ r, a % 57896044618658097711785492504343953926634992332820282019728792003956564819968 = r := ⟨_, rfl⟩
  have hr1 : r < 57896044618658097711785492504343953926634992332820282019728792003956564819968 := by omega
  have hq1 : q ≤ 1 := by unfold p2 at ha; omega
  have hr2 : r < p2 := by unfold p2; omega
  have har : a % pP = if 57896044618658097711785492504343953926634992332820282019728792003956564819968 ≤ r + 19 * q + 19 then r + 19 * q + 19 - 57896044618658097711785492504343953926634992332820282019728792003956564819968 else r + 19 * q := by
    split <;> (unfold pP; omega)
  have ht := fun w => top_any a w ha
  simp only [hq, hr] at ht
  have hp1 := fun w => plus_any r (19 * q) w hr2 (by omega)
  simp only [show ((19 * q : Nat) : Int) = 19 * (q : Int) by omega, show plusN r (19 * q) = r + 19 * q by unfold plusN p2; omega] at hp1
  obtain ⟨s, hs⟩ : ∃ s, r + 19 * q = s := ⟨_, rfl⟩
  rw [hs] at hp1 har
  have hs1 : s < 57896044618658097711785492504343953926634992332820282019728792003956564819968 + 38 := by omega
  have hs2 : s < p2 := by unfold p2; omega
  have hp2 := fun w => plus_any s 19 w hs2 (by omega)
  simp only [show plusN s 19 = s + 19 by unfold plusN p2; omega] at hp2
  have ht2 := fun w => top_any (s + 19) w (by unfold p2; omega)
  obtain ⟨y, hy⟩ : ∃ y, (s + 19) / 57896044618658097711785492504343953926634992332820282019728792003956564819968 = y := ⟨_, rfl⟩
  obtain ⟨z, hz⟩ : ∃ z, (s + 19) % 57896044618658097711785492504343953926634992332820282019728792003956564819968 = z := ⟨_, rfl⟩
  simp only [hy, hz] at ht2
  have hy1 : y ≤ 1 := by omega
  have hz2 : z < p2 := by unfold p2; omega
  have hse := fun w => select_any ((y : Int) == 1) s z w hs2 hz2
  have hfin : (if ((y : Int) == 1) = true then z else s) = a % pP := by
    rw [har]
    by_cases h1 : y = 1
    · subst h1
      rw [if_pos (by decide), if_pos (by omega)]
      omega
    · rw [if_neg (by simp; omega), if_neg (by omega)]
  simp only [hfin] at hse
  have HT := hid ht
  have HP1 := hid hp1
  have HP2 := hid hp2
  have HT2 := hid ht2
  have HSE := hid hse
  clear ht hp1 hp2 ht2 hse hfin har hq hr hs hy hz hr1 hr2 hs1 hs2 hz2 h255 ha
  generalize a % pP = m at *
  go_enter Try.func36, Try.ntmps36
  go_wp2_with fail
  refine (HT.out _).mono ?_
  rintro e w1 ⟨rfl, hb1⟩
  have kA := Kept.on (kept (b := W.heap.size) (o := .cells (quad a) 24 (0, 0)) (by go_simp)) hb1
  have kB := Kept.on (kept (b := W.heap.size + 1) (o := .cells (quad 0) 24 (0, 0)) (by go_simp)) hb1
  have b1 : Hid (Below W.heap.size W w1) := below_to (by repeat (first | exact Below.refl _ _ | exact below_new _ | assumption | refine Below.drew ?_ | refine Below.drewN ?_ _ | refine below_alloc ?_ _ | refine below_blk' ?_ (by omega) _)) hb1
  clear hb1
  try clear gA lA nA mA
  obtain ⟨gA, lA, nA, mA⟩ := kA
  try clear gB lB nB mB
  obtain ⟨gB, lB, nB, mB⟩ := kB
  go_wp2_with fail
  refine (HP1.out _).mono ?_
  rintro e w2 ⟨rfl, hb2⟩
  have kA := Kept.on (kept (b := W.heap.size) (o := .cells (quad r) 24 (0, 0)) (by go_simp)) hb2
  have kB := Kept.on (kept (b := W.heap.size + 1) (o := .cells (quad 0) 24 (0, 0)) (by go_simp)) hb2
  have b2 : Hid (Below W.heap.size W w2) := below_to (by repeat (first | exact Below.refl _ _ | exact below_new _ | exact b1.out | assumption | refine Below.drew ?_ | refine Below.drewN ?_ _ | refine below_alloc ?_ _ | refine below_blk' ?_ (by omega) _)) hb2
  clear hb2
  try clear gA lA nA mA
  obtain ⟨gA, lA, nA, mA⟩ := kA
  try clear gB lB nB mB
  obtain ⟨gB, lB, nB, mB⟩ := kB
  clear b1
  go_wp2_with fail
  refine (HP2.out _).mono ?_
  rintro e w3 ⟨rfl, hb3⟩
  have kA := Kept.on (kept (b := W.heap.size) (o := .cells (quad s) 24 (0, 0)) (by go_simp)) hb3
  have kB := Kept.on (kept (b := W.heap.size + 1) (o := .cells (quad 0) 24 (0, 0)) (by go_simp)) hb3
  have b3 : Hid (Below W.heap.size W w3) := below_to (by repeat (first | exact Below.refl _ _ | exact below_new _ | exact b2.out | assumption | refine Below.drew ?_ | refine Below.drewN ?_ _ | refine below_alloc ?_ _ | refine below_blk' ?_ (by omega) _)) hb3
  clear hb3
  try clear gA lA nA mA
  obtain ⟨gA, lA, nA, mA⟩ := kA
  try clear gB lB nB mB
  obtain ⟨gB, lB, nB, mB⟩ := kB
  clear b2
  go_wp2_with fail
  refine (HT2.out _).mono ?_
  rintro e w4 ⟨rfl, hb4⟩
  have kA := Kept.on (kept (b := W.heap.size) (o := .cells (quad s) 24 (0, 0)) (by go_simp)) hb4
  have kB := Kept.on (kept (b := W.heap.size + 1) (o := .cells (quad 0) 24 (0, 0)) (by go_simp)) hb4
  have b4 : Hid (Below W.heap.size W w4) := below_to (by repeat (first | exact Below.refl _ _ | exact below_new _ | exact b3.out | assumption | refine Below.drew ?_ | refine Below.drewN ?_ _ | refine below_alloc ?_ _ | refine below_blk' ?_ (by omega) _)) hb4
  clear hb4
  try clear gA lA nA mA
  obtain ⟨gA, lA, nA, mA⟩ := kA
  try clear gB lB nB mB
  obtain ⟨gB, lB, nB, mB⟩ := kB
  clear b3
  go_wp2_with fail
  refine (HSE.out _).mono ?_
  rintro e w5 ⟨rfl, hb5⟩
  have kA := Kept.on (kept (b := W.heap.size) (o := .cells (quad s) 24 (0, 0)) (by go_simp)) hb5
  have kB := Kept.on (kept (b := W.heap.size + 1) (o := .cells (quad 0) 24 (0, 0)) (by go_simp)) hb5
  have b5 : Hid (Below W.heap.size W w5) := below_to (by repeat (first | exact Below.refl _ _ | exact below_new _ | exact b4.out | assumption | refine Below.drew ?_ | refine Below.drewN ?_ _ | refine below_alloc ?_ _ | refine below_blk' ?_ (by omega) _)) hb5
  clear hb5
  try clear gA lA nA mA
  obtain ⟨gA, lA, nA, mA⟩ := kA
  try clear gB lB nB mB
  obtain ⟨gB, lB, nB, mB⟩ := kB
  clear b4
  go_wp2_with fail
  refine bodyPost_ret (v := .agg (quad m)) (results_cell_row Try.results36 _ _ (W.heap.size + 1) 24 (quad m) (0, 0) _ (by rfl) (by rw [← hget_eq]; go_simp) Try.underlying24 rfl (by rw [info_Elem]; go_simp)) rfl ?_
  exact ⟨rfl, by repeat (first | exact Below.refl _ _ | exact below_new _ | exact b5.out | assumption | refine Below.drew ?_ | refine Below.drewN ?_ _ | refine below_alloc ?_ _ | refine below_blk' ?_ (by omega) _)⟩

end Go.Proofs.Ytoaihbmicdbaiaa
