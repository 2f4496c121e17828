/- The walks of the numbers: below. The walks of the numbers: Same, Odd, Canonical, Bytes. The walks of the document's numbers: Bytes, Canonical, power, Inv, Root. The walk of the numbers' Mul. The walks of the numbers: raised. The walks of the numbers: Sub. -/
import Derived.Test.YtceljjnohjnepaaDoorM03
import Derived.Test.YtceljjnohjnepaaDoorM02
namespace Go.Proofs.YtceljjnohjnepaaDoor
open Go.RowKit DG
attribute [local go_sem ↓] exl_Elem exs_Elem
                 attribute [local go_sem] ldr_Elem str_Elem
attribute [local go_sem] to_quad0 to_nine0

set_option maxRecDepth 100000 in
set_option maxHeartbeats 1000000 in
theorem below_any (a : Nat) (W : World) (ha : a < p2) : Calls Tryd.prog 49 #[.agg (quad a)] W fun e w' => e = .returned (.agg (quad (a % pP))) ∧ Below W.heap.size W w' := by
  have h255 : a % 57896044618658097711785492504343953926634992332820282019728792003956564819968 < p2 := Nat.lt_trans (Nat.mod_lt _ (by decide)) (by decide)
  obtain ⟨q, hq⟩ : ∃ q, a / 57896044618658097711785492504343953926634992332820282019728792003956564819968 = q := ⟨_, rfl⟩
  obtain ⟨r, hr⟩ : ∃ r, a % 57896044618658097711785492504343953926634992332820282019728792003956564819968 = r := ⟨_, rfl⟩
  have hr1 : r < 57896044618658097711785492504343953926634992332820282019728792003956564819968 := by omega
  have hq1 : q ≤ 1 := by unfold p2 at ha; omega
  have hr2 : r < p2 := by unfold p2; omega
  have har : a % pP = if 57896044618658097711785492504343953926634992332820282019728792003956564819968 ≤ r + 19 * q + 19 then r + 19 * q + 19 - 57896044618658097711785492504343953926634992332820282019728792003956564819968 else r + 19 * q := by
    split <;> (unfold pP; omega)
  have ht := fun w => top_any a w ha
  simp only [hq, hr] at ht
  have hp1 := fun w => plus_any r (19 * q) w hr2 (by omega)
  simp only [show ((19 * q : Nat) : Int) = 19 * (q : Int) by omega, show plusN r (19 * q) = r + 19 * q by unfold plusN p2; omega] at hp1
  obtain ⟨s, hs⟩ : ∃ s, r + 19 * q = s := ⟨_, rfl⟩
  rw [hs] at hp1 har
  have hs1 : s < 57896044618658097711785492504343953926634992332820282019728792003956564819968 + 38 := by omega
  have hs2 : s < p2 := by unfold p2; omega
  have hp2 := fun w => plus_any s 19 w hs2 (by omega)
  simp only [show plusN s 19 = s + 19 by unfold plusN p2; omega] at hp2
  have ht2 := fun w => top_any (s + 19) w (by unfold p2; omega)
  obtain ⟨y, hy⟩ : ∃ y, (s + 19) / 57896044618658097711785492504343953926634992332820282019728792003956564819968 = y := ⟨_, rfl⟩
  obtain ⟨z, hz⟩ : ∃ z, (s + 19) % 57896044618658097711785492504343953926634992332820282019728792003956564819968 = z := ⟨_, rfl⟩
  simp only [hy, hz] at ht2
  have hy1 : y ≤ 1 := by omega
  have hz2 : z < p2 := by unfold p2; omega
  have hse := fun w => select_any ((y : Int) == 1) s z w hs2 hz2
  have hfin : (if ((y : Int) == 1) = true then z else s) = a % pP := by
    rw [har]
    by_cases h1 : y = 1
    · subst h1
      rw [if_pos (by decide), if_pos (by omega)]
      omega
    · rw [if_neg (by simp; omega), if_neg (by omega)]
  simp only [hfin] at hse
  have HT := hid ht
  have HP1 := hid hp1
  have HP2 := hid hp2
  have HT2 := hid ht2
  have HSE := hid hse
  clear ht hp1 hp2 ht2 hse hfin har hq hr hs hy hz hr1 hr2 hs1 hs2 hz2 h255 ha
  generalize a % pP = m at *
  go_enter Tryd.func49, Tryd.ntmps49
  go_wp2_with fail
  refine (HT.out _).mono ?_
  rintro e w1 ⟨rfl, hb1⟩
  have kA := Kept.on (kept (b := W.heap.size) (o := .cells (quad a) 44 (0, 0)) (by go_simp)) hb1
  have kB := Kept.on (kept (b := W.heap.size + 1) (o := .cells (quad 0) 44 (0, 0)) (by go_simp)) hb1
  have b1 : Hid (Below W.heap.size W w1) := below_to (by repeat (first | exact Below.refl _ _ | exact below_new _ | assumption | refine Below.drew ?_ | refine Below.drewN ?_ _ | refine below_alloc ?_ _ | refine below_blk' ?_ (by omega) _)) hb1
  clear hb1
  try clear gA lA nA mA
  obtain ⟨gA, lA, nA, mA⟩ := kA
  try clear gB lB nB mB
  obtain ⟨gB, lB, nB, mB⟩ := kB
  go_wp2_with fail
  refine (HP1.out _).mono ?_
  rintro e w2 ⟨rfl, hb2⟩
  have kA := Kept.on (kept (b := W.heap.size) (o := .cells (quad r) 44 (0, 0)) (by go_simp)) hb2
  have kB := Kept.on (kept (b := W.heap.size + 1) (o := .cells (quad 0) 44 (0, 0)) (by go_simp)) hb2
  have b2 : Hid (Below W.heap.size W w2) := below_to (by repeat (first | exact Below.refl _ _ | exact below_new _ | exact b1.out | assumption | refine Below.drew ?_ | refine Below.drewN ?_ _ | refine below_alloc ?_ _ | refine below_blk' ?_ (by omega) _)) hb2
  clear hb2
  try clear gA lA nA mA
  obtain ⟨gA, lA, nA, mA⟩ := kA
  try clear gB lB nB mB
  obtain ⟨gB, lB, nB, mB⟩ := kB
  clear b1
  go_wp2_with fail
  refine (HP2.out _).mono ?_
  rintro e w3 ⟨rfl, hb3⟩
  have kA := Kept.on (kept (b := W.heap.size) (o := .cells (quad s) 44 (0, 0)) (by go_simp)) hb3
  have kB := Kept.on (kept (b := W.heap.size + 1) (o := .cells (quad 0) 44 (0, 0)) (by go_simp)) hb3
  have b3 : Hid (Below W.heap.size W w3) := below_to (by repeat (first | exact Below.refl _ _ | exact below_new _ | exact b2.out | assumption | refine Below.drew ?_ | refine Below.drewN ?_ _ | refine below_alloc ?_ _ | refine below_blk' ?_ (by omega) _)) hb3
  clear hb3
  try clear gA lA nA mA
  obtain ⟨gA, lA, nA, mA⟩ := kA
  try clear gB lB nB mB
  obtain ⟨gB, lB, nB, mB⟩ := kB
  clear b2
  go_wp2_with fail
  refine (HT2.out _).mono ?_
  rintro e w4 ⟨rfl, hb4⟩
  have kA := Kept.on (kept (b := W.heap.size) (o := .cells (quad s) 44 (0, 0)) (by go_simp)) hb4
  have kB := Kept.on (kept (b := W.heap.size + 1) (o := .cells (quad 0) 44 (0, 0)) (by go_simp)) hb4
  have b4 : Hid (Below W.heap.size W w4) := below_to (by repeat (first | exact Below.refl _ _ | exact below_new _ | exact b3.out | assumption | refine Below.drew ?_ | refine Below.drewN ?_ _ | refine below_alloc ?_ _ | refine below_blk' ?_ (by omega) _)) hb4
  clear hb4
  try clear gA lA nA mA
  obtain ⟨gA, lA, nA, mA⟩ := kA
  try clear gB lB nB mB
  obtain ⟨gB, lB, nB, mB⟩ := kB
  clear b3
  go_wp2_with fail
  refine (HSE.out _).mono ?_
  rintro e w5 ⟨rfl, hb5⟩
  have kA := Kept.on (kept (b := W.heap.size) (o := .cells (quad s) 44 (0, 0)) (by go_simp)) hb5
  have kB := Kept.on (kept (b := W.heap.size + 1) (o := .cells (quad 0) 44 (0, 0)) (by go_simp)) hb5
  have b5 : Hid (Below W.heap.size W w5) := below_to (by repeat (first | exact Below.refl _ _ | exact below_new _ | exact b4.out | assumption | refine Below.drew ?_ | refine Below.drewN ?_ _ | refine below_alloc ?_ _ | refine below_blk' ?_ (by omega) _)) hb5
  clear hb5
  try clear gA lA nA mA
  obtain ⟨gA, lA, nA, mA⟩ := kA
  try clear gB lB nB mB
  obtain ⟨gB, lB, nB, mB⟩ := kB
  clear b4
  go_wp2_with fail
  refine bodyPost_ret (v := .agg (quad m)) (results_cell_row Tryd.results49 _ _ (W.heap.size + 1) 44 (quad m) (0, 0) _ (by rfl) (by rw [← hget_eq]; go_simp) Tryd.underlying44 rfl (by rw [info_Elem]; go_simp)) rfl ?_
  exact ⟨rfl, by repeat (first | exact Below.refl _ _ | exact below_new _ | exact b5.out | assumption | refine Below.drew ?_ | refine Below.drewN ?_ _ | refine below_alloc ?_ _ | refine below_blk' ?_ (by omega) _)⟩

end Go.Proofs.YtceljjnohjnepaaDoor

namespace Go.Proofs.YtceljjnohjnepaaDoor
open Go.RowKit DG
attribute [local go_sem ↓] exl_Elem exs_Elem
                 attribute [local go_sem] ldr_Elem str_Elem
attribute [local go_sem] to_quad0

set_option maxRecDepth 100000 in
theorem quad_inj {a b : Nat} (ha : a < p2) (hb : b < p2) : quad a = quad b ↔ a = b := by
  constructor
  · intro h
    unfold quad at h
    simp only [Array.mk.injEq, List.cons.injEq, Value.int.injEq, true_and, and_true] at h
    unfold p2 at *
    omega
  · rintro rfl; rfl
set_option maxRecDepth 100000 in
theorem eqlE (a b : Nat) (ha : a < p2) (hb : b < p2) (d : Nat) (w : World) : (Op.equalIn (d + 2) 44 (.agg (quad a)) (.agg (quad b))).run Tryd.prog w = .ok (decide (a = b)) w := by
  rw [quad_ints, quad_ints, run_equalIn_ints (n := 4) (k := .u64) Tryd.underlying44 (by rfl) (by kernel_rfl) d _ _ (digs_length _ _) (digs_length _ _)]
  congr 1
  rw [decide_eq_decide]
  constructor
  · intro h
    have h1 := val_digs (B := 2 ^ 64) a 4
    have h2 := val_digs (B := 2 ^ 64) b 4
    rw [h] at h1
    rw [h1, Nat.mod_eq_of_lt (a := a) (by unfold p2 at ha; omega), Nat.mod_eq_of_lt (a := b) (by unfold p2 at hb; omega)] at h2
    exact h2
  · rintro rfl; rfl
set_option maxRecDepth 100000 in
theorem pP_lt (a : Nat) : a % pP < p2 := Nat.lt_trans (Nat.mod_lt _ (by decide)) (by decide)

set_option maxRecDepth 100000 in
set_option maxHeartbeats 1000000 in
theorem same_any (a b : Nat) (W : World) (ha : a < p2) (hb : b < p2) : Calls Tryd.prog 43 #[.agg (quad a), .agg (quad b)] W fun e w' => e = .returned (.bool (decide (a % pP = b % pP))) ∧ Below W.heap.size W w' := by
  have h1 := hid (fun w => below_any a w ha)
  have h2 := hid (fun w => below_any b w hb)
  have he := eqlE (a % pP) (b % pP) (pP_lt a) (pP_lt b)
  generalize a % pP = x at *
  generalize b % pP = y at *
  go_enter Tryd.func43, Tryd.ntmps43
  go_wp2_with fail
  obtain ⟨w1, hw1⟩ : ∃ w1, (W.alloc (.cells (quad a) 44)).alloc (.cells (quad b) 44) = w1 := ⟨_, rfl⟩
  have kA := kept (show hget w1 (W.heap.size) = some (.cells (quad a) 44 (0, 0)) by rw [← hw1]; clear hw1; go_simp)
  have kB := kept (show hget w1 (W.heap.size + 1) = some (.cells (quad b) 44 (0, 0)) by rw [← hw1]; clear hw1; go_simp)
  have b1 : Hid (Below W.heap.size W w1) := by rw [← hw1]; repeat (first | exact Below.refl _ _ | exact below_new _ | assumption | refine Below.drew ?_ | refine Below.drewN ?_ _ | refine below_alloc ?_ _ | refine below_blk' ?_ (by omega) _)
  rw [hw1]
  clear hw1
  try clear gA lA nA mA
  try clear jA
  have jA := kA.later
  obtain ⟨gA, lA, nA, mA⟩ := kA
  try clear gB lB nB mB
  try clear jB
  have jB := kB.later
  obtain ⟨gB, lB, nB, mB⟩ := kB
  refine wp_region_later (by kernel_rfl) (by kernel_rfl) ?_
  repeat ((go_big_quiet_step ((go_at_call 49; first | with_reducible exact calls_later (h1.out _) | with_reducible exact calls_later (h2.out _)))))
  refine wpQuiet_nil ?_
  intro wL hwL
  obtain ⟨⟨w8, hL⟩, e8⟩ := hwL
  change wL = w8 at e8
  subst e8
  have b2 := hid (below_to b1.out hL)
  clear hL
  go_wp2_with fail
  go_ret
  exact ⟨rfl, b2.out⟩

set_option maxRecDepth 100000 in
theorem odd_quad (x : Nat) : (Instr.index 44 (.agg (quad x)) (.int .i64 0)).run Tryd.prog = fun w => .ok (.int .u64 ((x % 18446744073709551616 : Nat) : Int)) w := by
  funext w
  rw [quad_ints]
  exact idx_elem _ (digs_length _ _) 0 (by decide) w
set_option maxRecDepth 100000 in
theorem and1_lit (x : Nat) (hx : x < 18446744073709551616) : bits .and .u64 (x : Int) 1 = ((x % 2 : Nat) : Int) := by
  rw [show (1 : Int) = ((1 : Nat) : Int) from rfl, u64_and_nat _ _ hx (by decide), nat_mask1]

set_option maxRecDepth 100000 in
set_option maxHeartbeats 1000000 in
theorem odd_any (a : Nat) (W : World) (ha : a < p2) : Calls Tryd.prog 29 #[.agg (quad a)] W fun e w' => e = .returned (.bool (decide (a % pP % 2 = 1))) ∧ Below W.heap.size W w' := by
  have h1 := hid (fun w => below_any a w ha)
  generalize a % pP = x at *
  have hi := odd_quad x
  have hc : ((((x % 18446744073709551616 : Nat) : Int) % 2) == 1) = decide (x % 2 = 1) := by
    rw [Bool.eq_iff_iff]; simp; omega
  have ha1 := and1_lit (x % 18446744073709551616) (Nat.mod_lt _ (by decide))
  go_enter Tryd.func29, Tryd.ntmps29
  go_wp2_with fail
  refine (h1.out _).mono ?_
  rintro e w1 ⟨rfl, hb1⟩
  have b1 : Hid (Below W.heap.size W w1) := below_to (by repeat (first | exact Below.refl _ _ | exact below_new _ | assumption | refine Below.drew ?_ | refine Below.drewN ?_ _ | refine below_alloc ?_ _ | refine below_blk' ?_ (by omega) _)) hb1
  clear hb1
  go_wp2_with fail
  go_ret
  refine ⟨congrArg (fun b => Ending.returned (.bool b)) ?_, b1.out⟩
  rw [show ((x : Int) % 18446744073709551616) = ((x % 18446744073709551616 : Nat) : Int) from rfl, ha1]
  exact hc

/-- Which bytes are canonical. -/
def canB (s : ByteArray) : Bool := decide (s.size = 32 ∧ bytesNat s.data.toList < pP)
set_option maxRecDepth 100000 in
theorem bytes32_lt {s : ByteArray} (h : s.size = 32) : bytesNat s.data.toList < p2 := by
  have := bytesNat_lt s.data.toList
  rw [show s.data.toList.length = 32 by simpa using h] at this
  exact Nat.lt_of_lt_of_eq this (by decide)

set_option maxRecDepth 100000 in
set_option maxHeartbeats 1000000 in
theorem canonical_any (s : ByteArray) (W : World) (hmax : s.size ≤ 9223372036854775807) : Calls Tryd.prog 39 #[.string s] W fun e w' => e = .returned (.bool (canB s)) ∧ Below W.heap.size W w' := by
  have hof := hid (fun w => Of_any s w hmax)
  by_cases h32 : s.size = 32
  · rw [if_pos h32, if_pos h32] at hof
    have hlt := bytes32_lt h32
    have hcb : canB s = decide (bytesNat s.data.toList = bytesNat s.data.toList % pP) := by
      unfold canB
      rw [decide_eq_decide]
      constructor
      · rintro ⟨_, h⟩; exact (Nat.mod_eq_of_lt h).symm
      · intro h; exact ⟨h32, by rw [h]; exact Nat.mod_lt _ (by decide)⟩
    rw [hcb]
    generalize bytesNat s.data.toList = a at *
    have h1 := hid (fun w => below_any a w hlt)
    have he := eqlE a (a % pP) hlt (pP_lt a)
    generalize a % pP = x at *
    clear hcb
    go_enter Tryd.func39, Tryd.ntmps39
    go_wp2_with fail
    refine (hof.out _).mono ?_
    rintro e w1 ⟨rfl, hb1⟩
    have b1 : Hid (Below W.heap.size W w1) := below_to (by repeat (first | exact Below.refl _ _ | exact below_new _ | assumption | refine Below.drew ?_ | refine Below.drewN ?_ _ | refine below_alloc ?_ _ | refine below_blk' ?_ (by omega) _)) hb1
    clear hb1
    go_wp2_with fail
    obtain ⟨w2, hw2⟩ : ∃ w2, w1.alloc (.cells (quad a) 44) = w2 := ⟨_, rfl⟩
    have kA := kept (show hget w2 (w1.heap.size) = some (.cells (quad a) 44 (0, 0)) by rw [← hw2]; clear hw2; go_simp)
    have b2 : Hid (Below W.heap.size W w2) := by rw [← hw2]; repeat (first | exact Below.refl _ _ | exact below_new _ | exact b1.out | assumption | refine Below.drew ?_ | refine Below.drewN ?_ _ | refine below_alloc ?_ _ | refine below_blk' ?_ (by omega) _)
    rw [hw2]
    clear hw2
    try clear gA lA nA mA
    try clear jA
    have jA := kA.later
    obtain ⟨gA, lA, nA, mA⟩ := kA
    clear b1
    refine wp_region_later (by kernel_rfl) (by kernel_rfl) ?_
    repeat ((go_big_quiet_step ((go_at_call 49; with_reducible exact calls_later (h1.out _)))))
    refine wpQuiet_nil ?_
    intro wL hwL
    obtain ⟨⟨w8, hL⟩, e8⟩ := hwL
    change wL = w8 at e8
    subst e8
    have b3 := hid (below_to b2.out hL)
    clear hL
    go_wp2_with fail
    go_ret
    exact ⟨rfl, b3.out⟩
  · rw [if_neg h32, if_neg h32] at hof
    have hcb : canB s = false := by unfold canB; exact decide_eq_false (fun h => h32 h.1)
    rw [hcb]
    go_enter Tryd.func39, Tryd.ntmps39
    go_wp2_with fail
    refine (hof.out _).mono ?_
    rintro e w1 ⟨rfl, hb1⟩
    have b1 : Hid (Below W.heap.size W w1) := below_to (by repeat (first | exact Below.refl _ _ | exact below_new _ | assumption | refine Below.drew ?_ | refine Below.drewN ?_ _ | refine below_alloc ?_ _ | refine below_blk' ?_ (by omega) _)) hb1
    clear hb1
    go_wp2_with fail
    obtain ⟨w2, hw2⟩ : ∃ w2, w1.alloc (.cells (quad 0) 44) = w2 := ⟨_, rfl⟩
    have kA := kept (show hget w2 (w1.heap.size) = some (.cells (quad 0) 44 (0, 0)) by rw [← hw2]; clear hw2; go_simp)
    have b2 : Hid (Below W.heap.size W w2) := by rw [← hw2]; repeat (first | exact Below.refl _ _ | exact below_new _ | exact b1.out | assumption | refine Below.drew ?_ | refine Below.drewN ?_ _ | refine below_alloc ?_ _ | refine below_blk' ?_ (by omega) _)
    rw [hw2]
    clear hw2
    try clear gA lA nA mA
    try clear jA
    have jA := kA.later
    obtain ⟨gA, lA, nA, mA⟩ := kA
    clear b1
    refine wp_region_later (by kernel_rfl) (by kernel_rfl) ?_
    repeat ((go_big_quiet_step (fail)))
    refine wpQuiet_nil ?_
    intro wL hwL
    obtain ⟨⟨w8, hL⟩, e8⟩ := hwL
    change wL = w8 at e8
    subst e8
    have b3 := hid (below_to b2.out hL)
    clear hL
    go_wp2_with fail
    go_ret
    exact ⟨rfl, b3.out⟩

set_option maxRecDepth 100000 in
@[go_sem] theorem make32_32 (w : World) : (Instr.makeSlice 27 (.int .i64 32) (.int .i64 32)).run Tryd.prog w = .ok (.slice (some ⟨w.heap.size, 0, none⟩) 32 32) (w.alloc (.cells (ints .u8 (List.replicate 32 0)) 5)) := by kernel_rfl
set_option maxRecDepth 100000 in
theorem natBytes_getD (n k j : Nat) (h : j < k) : ((natBytes n k).getD j 0).toNat = (digs 256 n k).getD j 0 := by
  rw [← natBytes_map]
  have : j < (natBytes n k).length := by rw [natBytes_length]; exact h
  simp [this]
set_option maxRecDepth 100000 in
/-- A byte of a number out of its words. -/
theorem word_byte (n m : Nat) (hm : m < 32) : (digs (2 ^ 64) n 4).getD (m / 8) 0 / 2 ^ (m % 8 * 8) % 256 = (digs 256 n 32).getD m 0 := by
  rw [digs_getD n (by omega), digs_getD n hm]
  have h256 : (256 : Nat) ^ m = (2 ^ 64) ^ (m / 8) * 2 ^ (m % 8 * 8) := by
    rw [show (256 : Nat) = 2 ^ 8 from rfl, ← Nat.pow_mul, ← Nat.pow_mul, ← Nat.pow_add]; congr 1; omega
  rw [h256, ← Nat.div_div_eq_div_mul]
  generalize n / (2 ^ 64) ^ (m / 8) = q
  have h3 : (2 : Nat) ^ 64 = 2 ^ (m % 8 * 8) * (256 * 2 ^ (56 - m % 8 * 8)) := by
    rw [show (256 : Nat) = 2 ^ 8 from rfl, ← Nat.pow_add, ← Nat.pow_add]; congr 1; omega
  rw [h3, Nat.mod_mul, Nat.add_mul_div_left _ _ (Nat.two_pow_pos _), Nat.div_eq_of_lt (Nat.mod_lt _ (Nat.two_pow_pos _)), Nat.zero_add, Nat.mod_mul_right_mod]

set_option maxRecDepth 100000 in
set_option maxHeartbeats 1000000 in
theorem bytes_any (a : Nat) (W : World) (ha : a < p2) : Calls Tryd.prog 28 #[.agg (quad a)] W fun e w' => e = .returned (.string ⟨(natBytes (a % pP) 32).toArray⟩) ∧ Below W.heap.size W w' := by
  have h1 := hid (fun w => below_any a w ha)
  generalize a % pP = n at *
  go_enter Tryd.func28, Tryd.ntmps28
  go_wp2_with fail
  refine (h1.out _).mono ?_
  rintro e w1 ⟨rfl, hb1⟩
  have kA := Kept.on (kept (b := W.heap.size) (o := .cells (quad a) 44 (0, 0)) (by go_simp)) hb1
  have b1 : Hid (Below W.heap.size W w1) := below_to (by repeat (first | exact Below.refl _ _ | exact below_new _ | assumption | refine Below.drew ?_ | refine Below.drewN ?_ _ | refine below_alloc ?_ _ | refine below_blk' ?_ (by omega) _)) hb1
  clear hb1
  try clear gA lA nA mA
  obtain ⟨gA, lA, nA, mA⟩ := kA
  go_upto_region 4 with (fail)
  obtain ⟨N, hN⟩ : ∃ N, w1.heap.size = N := ⟨_, rfl⟩
  obtain ⟨M, hM⟩ : ∃ M, W.heap.size = M := ⟨_, rfl⟩
  obtain ⟨w2, hw2⟩ : ∃ w2, (blk w1 W.heap.size (.cells (quad n) 44 (0, 0))).alloc (.cells (ints .u8 (List.replicate 32 0)) 5) = w2 := ⟨_, rfl⟩
  have gE : w2.heap[M]? = some (.cells (ints .u64 (digs (2 ^ 64) n 4)) 44 (0, 0)) := by rw [← quad_ints, ← hw2, ← hM]; exact alloc_old (blk_heap lA)
  have gC : w2.heap[N]? = some (.cells (ints .u8 (List.replicate 32 0)) 5 (0, 0)) := by rw [← hw2, ← hN]; exact alloc_at' (by simp [blk_size]) _
  have b2 : Hid (Below W.heap.size W w2) := by rw [← hw2]; exact below_alloc (below_blk' b1.out (Nat.le_refl _) _) _
  have hMN : M < N := by rw [← hM, ← hN]; exact lA
  have HM := hid hM
  change Code.wp _ _ _ _ ((blk w1 W.heap.size (.cells (quad n) 44 (0, 0))).alloc (.cells (ints .u8 (List.replicate 32 0)) 5))
  rw [hw2, hN, hM]
  clear hw2 hN hM gA lA nA mA b1
  go_loopw [10] (fun i wr => ∃ (k : Nat) (c : List Nat), k ≤ 32 ∧ i = .int .i64 (k : Int) ∧ c.length = 32 ∧ (∀ j, j < k → c.getD j 0 = (digs 256 n 32).getD j 0) ∧
    wr.heap[M]? = some (.cells (ints .u64 (digs (2 ^ 64) n 4)) 44 (0, 0)) ∧ wr.heap[N]? = some (.cells (ints .u8 c) 5 (0, 0)) ∧ Below W.heap.size W wr) (fun i _ => (32 - intOf i).toNat)
  case atStart => exact ⟨0, List.replicate 32 0, by omega, rfl, by simp, fun j hj => absurd hj (by omega), gE, gC, b2.out⟩
  case round =>
    clear gE gC
    obtain ⟨k, c, hk, rfl, hcl, hcj, rA, rC, rb⟩ := hrel
    have HCJ := hid hcj
    have RBE := hid rb
    clear hcj rb
    by_cases hk32 : k < 32
    · have hkd : decide ((k : Int) < 32) = true := decide_eq_true (by omega)
      have hwb := word_byte n k hk32
      have ca := ints_cell rA (j := k / 8) (by rw [digs_length]; omega)
      have cc := ints_cell rC (j := k) (by rw [hcl]; exact hk32)
      have hf := free_at rC
      have hi0 : 0 ≤ (k : Int) / 8 := by omega
      have hi1 : (k : Int) / 8 < 4 := by omega
      have hi2 : ((k : Int) / 8).toNat = k / 8 := by omega
      have hi3 : (k : Int) < 32 := by omega
      generalize hxa : (digs (2 ^ 64) n 4).getD (k / 8) 0 = x at *
      have hxb : ((x : Int) / 2 ^ (k % 8 * 8) % 256) = (((digs 256 n 32).getD k 0 : Nat) : Int) := by
        rw [← hwb, Int.natCast_emod, Int.natCast_ediv, Int.natCast_pow]; rfl
      have HXB := hid hxb
      have HA := hid rA
      have HC := hid rC
      have HCL := hid hcl
      clear hxa rA rC hcl hwb hxb
      go_wp2_with fail
      rw [HXB.out]
      refine ⟨⟨k + 1, c.set k ((digs 256 n 32).getD k 0), by omega, by go_num, by simp [HCL.out], ?_, at_setCell_other HA.out (by simp; omega) _, ints_store HC.out _ _, RBE.out.setCell (by have := HM.out; simp; omega) _⟩, by simp [intOf]; omega⟩
      intro j hj
      by_cases hjk : j = k
      · subst hjk; have := HCL.out; simp [show j < c.length by omega]
      · rw [← HCJ.out j (by omega)]; simp [Ne.symm hjk]
    · have hkd : decide ((k : Int) < 32) = false := decide_eq_false (by omega)
      have hconv := conv_string wr N 0 32 32 (natBytes n 32) (natBytes_length _ _) (fun j hj => by
        rw [Nat.zero_add, ints_cell rC (by rw [hcl]; exact hj), HCJ.out j (by omega), natBytes_getD n 32 j hj])
      have HA := hid rA
      have HC := hid rC
      clear rA rC
      go_wp2_with fail
      go_ret
      exact ⟨rfl, RBE.out⟩

end Go.Proofs.YtceljjnohjnepaaDoor

namespace Go.Proofs.YtceljjnohjnepaaDoor
open Go.RowKit DG


attribute [local go_sem] to_nine0

set_option maxRecDepth 100000 in
theorem or_bit8 (d r b : Nat) (hd : d < 2 ^ r) (hr : r < 8) (hb : b < 2) : bits .or .u8 (d : Int) ((b : Int) * (2 : Int) ^ r % 256) = ((d + b * 2 ^ r : Nat) : Int) := by
  have h1 : 2 ^ (r + 1) ≤ 2 ^ 8 := Nat.pow_le_pow_right (by decide) (by omega)
  have h2 : b * 2 ^ r ≤ 1 * 2 ^ r := Nat.mul_le_mul_right _ (by omega)
  rw [Nat.pow_succ] at h1
  have e : (b : Int) * (2 : Int) ^ r = ((b * 2 ^ r : Nat) : Int) := by rw [Int.natCast_mul, Int.natCast_pow]; rfl
  have hw : (((b * 2 ^ r : Nat) : Int)) % 256 = ((b * 2 ^ r : Nat) : Int) := by omega
  rw [e, hw, u8_or_nat _ _ (by omega) (by omega), Nat.or_comm, nat_join r _ _ (Nat.mul_mod_left _ _) hd, Nat.add_comm]

/-- A power of so many ones, modulo the prime; and of the bits of a text. -/
def rOnes (a : Nat) : Nat → Nat
  | 0 => 1
  | k + 1 => (rOnes a k * rOnes a k % pP) * a % pP
def rBits (a x : Nat) (l : List UInt8) : Nat → Nat
  | 0 => x
  | k + 1 => if (((l.getD k 0).toNat : Int) == 49) = true then (rBits a x l k * rBits a x l k % pP) * a % pP else rBits a x l k * rBits a x l k % pP
def rPow (a : Nat) (l : List UInt8) : Nat := rBits a (rOnes a 250) l l.length
/-- So far. -/
def rAt (a : Nat) (l : List UInt8) (k : Nat) : Nat := if k ≤ 250 then rOnes a k else rBits a (rOnes a 250) l (k - 250)
set_option maxRecDepth 100000 in
theorem rOnes_lt (a k : Nat) : rOnes a k < pP := by
  cases k with
  | zero => exact (by decide : 1 < pP)
  | succ k => exact Nat.mod_lt _ (by decide)
set_option maxRecDepth 100000 in
theorem rBits_lt {a x : Nat} (hx : x < pP) (l : List UInt8) (k : Nat) : rBits a x l k < pP := by
  cases k with
  | zero => exact hx
  | succ k =>
    unfold rBits
    split <;> exact Nat.mod_lt _ (by decide)
set_option maxRecDepth 100000 in
theorem rAt_lt (a : Nat) (l : List UInt8) (k : Nat) : rAt a l k < pP := by
  unfold rAt
  split
  · exact rOnes_lt a k
  · exact rBits_lt (rOnes_lt a 250) l _
set_option maxRecDepth 100000 in
theorem rAt_ones {a : Nat} {l : List UInt8} {k : Nat} (h : k < 250) : rAt a l (k + 1) = (rAt a l k * rAt a l k % pP) * a % pP := by
  unfold rAt
  rw [if_pos (by omega), if_pos (by omega)]
  rfl
set_option maxRecDepth 100000 in
theorem rAt_bits {a : Nat} {l : List UInt8} {k : Nat} (h : ¬ k < 250) : rAt a l (k + 1) = if (((l.getD (k - 250) 0).toNat : Int) == 49) = true then (rAt a l k * rAt a l k % pP) * a % pP else rAt a l k * rAt a l k % pP := by
  have e : rAt a l k = rBits a (rOnes a 250) l (k - 250) := by
    unfold rAt
    split
    · have : k = 250 := by omega
      subst this; rfl
    · rfl
  rw [e]
  unfold rAt
  rw [if_neg (by omega), show k + 1 - 250 = (k - 250) + 1 by omega]
  rfl
set_option maxRecDepth 100000 in
theorem rAt_end (a : Nat) (l : List UInt8) : rAt a l (250 + l.length) = rPow a l := by
  unfold rAt rPow
  split
  · have : l.length = 0 := by omega
    rw [this]; rfl
  · rw [show 250 + l.length - 250 = l.length by omega]

def str2 : ByteArray := ⟨#[48, 49, 48, 49, 49]⟩
def str3 : ByteArray := ⟨#[49, 48]⟩
def str4 : ByteArray := ⟨#[48, 49, 49]⟩
def rInv (a : Nat) : Nat := rPow a [48, 49, 48, 49, 49]
def rRoot0 (a : Nat) : Nat := rPow a [49, 48]
def rRootS : Nat := rPow 2 [48, 49, 49]
set_option maxRecDepth 100000 in
theorem rInv_eq (a : Nat) : rPow a [48, 49, 48, 49, 49] = rInv a := rfl
set_option maxRecDepth 100000 in
theorem rRoot0_eq (a : Nat) : rPow a [49, 48] = rRoot0 a := rfl
set_option maxRecDepth 100000 in
theorem rRootS_eq : rPow 2 [48, 49, 49] = rRootS := rfl
set_option maxRecDepth 100000 in
theorem rPow_lt (a : Nat) (l : List UInt8) : rPow a l < pP := rBits_lt (rOnes_lt a 250) l _

set_option maxRecDepth 100000 in
theorem nine_cell0 {w : World} {b n : Nat} {T : TypeId} {fz : Nat × Nat} (h : hget w b = some (.cells (nine n) T fz)) : w.cell? ⟨b, 0, none⟩ = some (.int .u64 ((n % 1073741824 : Nat) : Int)) := by
  have := ints_cell (l := digs B30 n 9) h (j := 0) (by rw [digs_length]; decide)
  rw [this]
  rfl
set_option maxRecDepth 100000 in
theorem odd9 (n : Nat) : (bits .and .u64 ((n : Int) % 1073741824) 1 == 1) = decide (n % 2 = 1) := by
  rw [show ((n : Int) % 1073741824) = ((n % 1073741824 : Nat) : Int) from rfl, and1_lit _ (by omega), Bool.eq_iff_iff]
  simp; omega

/-- The document's root. -/
def rRoot1 (a : Nat) : Nat := if decide (rRoot0 a * rRoot0 a % pP = a) = true then rRoot0 a else rRoot0 a * rRootS % pP
def rIs (a : Nat) : Bool := decide (rRoot1 a * rRoot1 a % pP = a)
def rRoot2 (a : Nat) (odd : Bool) : Nat := if (decide (rRoot1 a % 2 = 1) != odd) = true then (0 + (pP - rRoot1 a)) % pP else rRoot1 a
set_option maxRecDepth 100000 in
theorem rRoot1_lt (a : Nat) : rRoot1 a < pP := by
  unfold rRoot1; split
  · exact rPow_lt _ _
  · exact Nat.mod_lt _ (by decide)
set_option maxRecDepth 100000 in
theorem rRoot2_lt (a : Nat) (odd : Bool) : rRoot2 a odd < pP := by
  unfold rRoot2; split
  · exact Nat.mod_lt _ (by decide)
  · exact rRoot1_lt a

end Go.Proofs.YtceljjnohjnepaaDoor

namespace Go.Proofs.YtceljjnohjnepaaDoor
open Go.RowKit DG
attribute [local go_sem ↓] exl_Elem exs_Elem exl_wide exs_wide
                 attribute [local go_sem] ldr_Elem str_Elem ldr_wide str_wide
attribute [local go_sem] to_quad0

set_option maxRecDepth 100000 in
theorem mul_dig {wl o : List Nat} {k cr d cr' : Nat} (hw : wl.length = 8) (ho : o.length = 4) (hk : k < 4)
    (h : val (2 ^ 64) (o.take k) + cr * (2 ^ 64) ^ k = val (2 ^ 64) (wl.take k) + 38 * val (2 ^ 64) ((wl.drop 4).take k)) (he : d + 2 ^ 64 * cr' = 38 * wl.getD (k + 4) 0 + wl.getD k 0 + cr) :
    val (2 ^ 64) ((o.set k d).take (k + 1)) + cr' * (2 ^ 64) ^ (k + 1) = val (2 ^ 64) (wl.take (k + 1)) + 38 * val (2 ^ 64) ((wl.drop 4).take (k + 1)) := by
  have hd : (wl.drop 4).getD k 0 = wl.getD (k + 4) 0 := by simp [List.getD_eq_getElem?_getD, Nat.add_comm]
  rw [take_set_succ (by omega), val_take_succ wl k (by omega), val_take_succ (wl.drop 4) k (by rw [List.length_drop]; omega), hd]
  generalize wl.getD (k + 4) 0 = x at *
  generalize wl.getD k 0 = y at *
  have h3 : (d + 2 ^ 64 * cr') * (2 ^ 64) ^ k = (38 * x + y + cr) * (2 ^ 64) ^ k := by rw [he]
  rw [Nat.add_mul, Nat.add_mul, Nat.add_mul] at h3
  rw [Nat.pow_succ (2 ^ 64) k, show cr' * ((2 ^ 64) ^ k * 2 ^ 64) = 2 ^ 64 * cr' * (2 ^ 64) ^ k by rw [Nat.mul_comm ((2 ^ 64) ^ k), ← Nat.mul_assoc, Nat.mul_comm cr']]
  rw [Nat.mul_add, ← Nat.mul_assoc 38]
  generalize (2 ^ 64) ^ k = P at *
  omega
set_option maxRecDepth 100000 in
theorem mul_end {wl o : List Nat} {n cr : Nat} (hw : wl.length = 8) (ho : o.length = 4) (hall : All (2 ^ 64) wl) (oall : All (2 ^ 64) o) (hv : val (2 ^ 64) wl = n)
    (h : val (2 ^ 64) o + cr * (2 ^ 64) ^ 4 = val (2 ^ 64) (wl.take 4) + 38 * val (2 ^ 64) ((wl.drop 4).take 4)) : ints .u64 o = quad (foldN n % p2) ∧ cr = foldN n / p2 := by
  rw [List.take_of_length_le (l := wl.drop 4) (by rw [List.length_drop]; omega)] at h
  have hc := val_cut (B := 2 ^ 64) wl 4 (by omega)
  have h1 := val_take_lt hall (k := 4) (by omega)
  have h2 := val_lt oall
  have hd := digs_val oall
  rw [ho] at h2 hd
  rw [hv] at hc
  rw [quad_ints, ← hd]
  have e : (2 ^ 64) ^ 4 = p2 := by decide
  rw [e] at hc h1 h2 h
  clear e
  generalize val (2 ^ 64) (wl.take 4) = t at *
  generalize val (2 ^ 64) (wl.drop 4) = u at *
  generalize val (2 ^ 64) o = z at *
  have e1 : n % p2 = t := by rw [hc, Nat.add_mul_mod_self_left, Nat.mod_eq_of_lt h1]
  have e2 : n / p2 = u := by rw [hc, Nat.add_mul_div_left _ _ (by omega), Nat.div_eq_of_lt h1, Nat.zero_add]
  unfold foldN
  rw [e1, e2, ← h]
  rw [Nat.add_mul_mod_self_right, Nat.mod_eq_of_lt h2, Nat.add_mul_div_right _ _ (by omega), Nat.div_eq_of_lt h2, Nat.zero_add]
  exact ⟨rfl, rfl⟩

set_option maxRecDepth 100000 in
set_option maxHeartbeats 2000000 in
theorem mul_any (a b : Nat) (W : World) (ha : a < p2) (hb : b < p2) : Calls Tryd.prog 27 #[.agg (quad a), .agg (quad b)] W fun e w' => e = .returned (.agg (quad (mulN a b))) ∧ Below W.heap.size W w' := by
  have hpr := fun w => product_any a b w ha hb
  have hv := val_digs (B := 2 ^ 64) (a * b) 8
  rw [Nat.mod_eq_of_lt (product_bound ha hb)] at hv
  have hall := digs_all (B := 2 ^ 64) (by decide) (a * b) 8
  have hl := digs_length (B := 2 ^ 64) (a * b) 8
  obtain ⟨wl, hwl⟩ : ∃ wl, digs (2 ^ 64) (a * b) 8 = wl := ⟨_, rfl⟩
  simp only [hwl] at hpr
  rw [hwl] at hv hall hl
  have hs8 : (ints .u64 wl).size = 8 := by rw [ints_size, hl]
  have ho8 : ones (ints .u64 wl) = true := rows_one _ _
  obtain ⟨r, hr⟩ : ∃ r, mulN a b = r := ⟨_, rfl⟩
  rw [hr]
  have HPR := hid hpr
  have HV := hid hv
  have HL := hid hl
  have HR := hid hr
  clear hpr hv hl hwl hr
  go_enter Tryd.func27, Tryd.ntmps27
  go_wp2_with fail
  refine (HPR.out _).mono ?_
  rintro e w1 ⟨rfl, hb1⟩
  have kA := Kept.on (kept (b := W.heap.size + 1 + 1) (o := .cells (quad 0) 44 (0, 0)) (by go_simp)) hb1
  have b1 : Hid (Below W.heap.size W w1) := below_to (by repeat (first | exact Below.refl _ _ | exact below_new _ | assumption | refine Below.drew ?_ | refine Below.drewN ?_ _ | refine below_alloc ?_ _ | refine below_blk' ?_ (by omega) _)) hb1
  clear hb1
  try clear gA lA nA mA
  obtain ⟨gA, lA, nA, mA⟩ := kA
  go_upto_region 3 with (fail)
  obtain ⟨X, hX⟩ : ∃ X, w1.heap.size = X := ⟨_, rfl⟩
  obtain ⟨w2, hw2⟩ : ∃ w2, (w1.alloc (.cells (ints .u64 wl) 83)).alloc (.cells (quad 0) 44) = w2 := ⟨_, rfl⟩
  have gR := hid (show hget w2 (W.heap.size + 1 + 1) = some (.cells (quad 0) 44 (0, 0)) by rw [← hw2]; clear hw2 hX; go_simp)
  have gV : w2.heap[X]? = some (.cells (ints .u64 wl) 83 (0, 0)) := by rw [← hw2, ← hX]; exact alloc_old (alloc_at _ _)
  have gO : w2.heap[X + 1]? = some (.cells (ints .u64 [0, 0, 0, 0]) 44 (0, 0)) := by rw [← hw2, ← hX]; exact alloc_at' (by simp) _
  have b2 : Hid (Below W.heap.size W w2) := by rw [← hw2]; exact below_alloc (below_alloc b1.out _) _
  have hRX : W.heap.size + 1 + 1 < X := by rw [← hX]; exact lA
  rw [hw2, hX]
  clear hX hw2 gA lA nA mA b1
  go_wp2_with fail
  go_loopw [15, 7] (fun i cy wq => ∃ (k cr : Nat) (o : List Nat), k ≤ 4 ∧ i = .int .i64 (k : Int) ∧ cy = .int .u64 (cr : Int) ∧ cr < 18446744073709551616 ∧ o.length = 4 ∧ All (2 ^ 64) o ∧
      val (2 ^ 64) (o.take k) + cr * (2 ^ 64) ^ k = val (2 ^ 64) (wl.take k) + 38 * val (2 ^ 64) ((wl.drop 4).take k) ∧
      hget wq (W.heap.size + 1 + 1) = some (.cells (quad 0) 44 (0, 0)) ∧ wq.heap[X]? = some (.cells (ints .u64 wl) 83 (0, 0)) ∧ wq.heap[X + 1]? = some (.cells (ints .u64 o) 44 (0, 0)) ∧ Below W.heap.size W wq) (fun i _ _ => (4 - intOf i).toNat)
  case atStart => exact ⟨0, 0, [0, 0, 0, 0], by omega, rfl, rfl, by omega, rfl, by exact all_replicate 4 (by decide), by simp [DG.val], gR.out, gV, gO, b2.out⟩
  case round =>
    clear gV gO
    obtain ⟨k, cr, o, hk, rfl, rfl, hcr, hol, hoa, hv, qR, qV, qO, qb⟩ := hrel
    have HVM := hid hv
    have QR := hid qR
    have QBE := hid qb
    clear hv qR qb
    by_cases hk4 : k < 4
    · have hkd : decide ((k : Int) < 4) = true := decide_eq_true (by omega)
      have c1 := ints_cell qV (j := k + 4) (by rw [HL.out]; omega)
      have c2 := ints_cell qV (j := k) (by rw [HL.out]; omega)
      have c3 := ints_cell qO (j := k) (by omega)
      have x1 := hall.getD (j := k + 4) (by rw [HL.out]; omega)
      have y1 := hall.getD (j := k) (by rw [HL.out]; omega)
      have hfo := free_at qO
      have hi0 : 0 ≤ (k : Int) + 4 := by omega
      have hi1 : (k : Int) + 4 < 8 := by omega
      have hi2 : ((k : Int) + 4).toNat = k + 4 := by omega
      have hi3 : (k : Int) < 8 := by omega
      generalize hx : wl.getD (k + 4) 0 = x at *
      generalize hy : wl.getD k 0 = y at *
      have HX := hid hx
      have HY := hid hy
      have QV := hid qV
      have QO := hid qO
      clear hx hy qV qO
      go_wp2_with fail
      refine (mul64_any x 38 _ (by omega) (by omega)).mono ?_
      rintro e w' ⟨rfl, rfl⟩
      obtain ⟨hi, lo, eh, el, m1, m2, m3, m4, m5, m6⟩ := mul64_facts (x : Int) 38 (by omega) (by omega)
      rw [eh, el]
      clear eh el
      have hhi : hi ≤ 38 := by omega
      have tok1 : True := trivial
      have tok2 : True := trivial
      go_wp2_with (first | (have _t := tok1; refine wpList_add64 rfl rfl _ _ _ rfl rfl rfl (by omega) (by omega) (by omega) (by omega) (by omega) ?_; intro d1 e1 da1 db1 ea1 eb1 pa1 pb1; obtain ⟨d1, rfl⟩ := Int.eq_ofNat_of_zero_le da1; obtain ⟨e1, rfl⟩ := Int.eq_ofNat_of_zero_le ea1; clear tok1 _t) | (have _t := tok2; refine wpList_add64 rfl rfl _ _ _ rfl rfl rfl (by omega) (by omega) (by omega) (by omega) (by omega) ?_; intro d2 e2 da2 db2 ea2 eb2 pa2 pb2; obtain ⟨d2, rfl⟩ := Int.eq_ofNat_of_zero_le da2; obtain ⟨e2, rfl⟩ := Int.eq_ofNat_of_zero_le ea2; clear tok2 _t))
      have he : d2 + 2 ^ 64 * (hi.toNat + e1 + e2) = 38 * wl.getD (k + 4) 0 + wl.getD k 0 + cr := by rw [HX.out, HY.out]; omega
      have hst := mul_dig (o := o) HL.out hol hk4 HVM.out he
      have HST := hid hst
      have hci : hi + (e1 : Int) + (e2 : Int) = ((hi.toNat + e1 + e2 : Nat) : Int) := by omega
      clear he hst
      go_roundw
      case rel =>
        refine ⟨k + 1, hi.toNat + e1 + e2, o.set k d2, by omega, by go_num, congrArg (Value.int IntKind.u64) hci, by omega, by simp [hol], All.set hoa _ (by omega), HST.out, at_setCell_other QR.out (by simp; omega) _, at_setCell_other QV.out (by simp) _, ints_store QO.out _ _, QBE.out.setCell (by simp; omega) _⟩
      case measure => simp [intOf]; omega
    · have hkd : decide ((k : Int) < 4) = false := decide_eq_false (by omega)
      have hk5 : k = 4 := by omega
      have hv := HVM.out
      rw [hk5, List.take_of_length_le (l := o) (by omega)] at hv
      obtain ⟨r1, r2⟩ := mul_end HL.out hol hall hoa HV.out hv
      have hc := mul_foldlt ha hb
      rw [← r2] at hc
      rw [r1] at qO
      have hp := fun w => plus_any (foldN (a * b) % p2) (38 * cr) w (Nat.mod_lt _ (by decide)) (by omega)
      simp only [show ((38 * cr : Nat) : Int) = 38 * (cr : Int) by omega] at hp
      rw [r2] at hp
      simp only [show plusN (foldN (a * b) % p2) (38 * (foldN (a * b) / p2)) = r from HR.out] at hp
      rw [← r2] at hp
      obtain ⟨z, hz⟩ : ∃ z, foldN (a * b) % p2 = z := ⟨_, rfl⟩
      rw [hz] at qO
      simp only [hz] at hp
      have gO : hget wr (X + 1) = some (.cells (quad z) 44 (0, 0)) := qO
      have gR : hget wr (W.heap.size + 1 + 1) = some (.cells (quad 0) 44 (0, 0)) := QR.out
      have HP := hid hp
      clear hp hz r1 r2 hv hk5 qO qV HVM QR
      go_wp2_with fail
      refine (HP.out _).mono ?_
      rintro e w3 ⟨rfl, hb3⟩
      have kR := Kept.on (kept (b := W.heap.size + 1 + 1) (o := .cells (quad 0) 44 (0, 0)) (by go_simp)) hb3
      have b3 : Hid (Below W.heap.size W w3) := below_to (by repeat (first | exact Below.refl _ _ | exact below_new _ | exact QBE.out | assumption | refine Below.drew ?_ | refine Below.drewN ?_ _ | refine below_alloc ?_ _ | refine below_blk' ?_ (by omega) _)) hb3
      clear hb3
      try clear gR lR nR mR
      obtain ⟨gR, lR, nR, mR⟩ := kR
      clear QBE
      clear gO
      go_wp2_with fail
      refine bodyPost_ret (v := .agg (quad r)) (results_cell_row Tryd.results27 _ _ (W.heap.size + 1 + 1) 44 (quad r) (0, 0) _ (by rfl) (by rw [← hget_eq]; go_simp) Tryd.underlying44 rfl (by rw [info_Elem]; go_simp)) rfl ?_
      exact ⟨rfl, by repeat (first | exact Below.refl _ _ | exact below_new _ | exact b3.out | assumption | refine Below.drew ?_ | refine Below.drewN ?_ _ | refine below_alloc ?_ _ | refine below_blk' ?_ (by omega) _)⟩

end Go.Proofs.YtceljjnohjnepaaDoor

namespace Go.Proofs.YtceljjnohjnepaaDoor
open Go.RowKit DG
attribute [local go_sem ↓] exl_Elem exs_Elem
                 attribute [local go_sem] ldr_Elem str_Elem
attribute [local go_sem] to_quad0

/-- A power of so many ones. -/
def onesN (a : Nat) : Nat → Nat
  | 0 => 1
  | k + 1 => mulN (mulN (onesN a k) (onesN a k)) a
/-- And of so many of these bits. -/
def bitsN (a x : Nat) (bits : List Nat) : Nat → Nat
  | 0 => x
  | k + 1 => if ((bits.getD k 0 : Nat) : Int) == 1 then mulN (mulN (bitsN a x bits k) (bitsN a x bits k)) a else mulN (bitsN a x bits k) (bitsN a x bits k)
def raisedN (a : Nat) (bits : List Nat) : Nat := bitsN a (onesN a 250) bits bits.length
set_option maxRecDepth 100000 in
theorem ones_lt {a : Nat} (ha : a < p2) (k : Nat) : onesN a k < p2 := by
  induction k with
  | zero => exact (by decide : 1 < p2)
  | succ k ih => exact mul_lt (mul_lt ih ih) ha
set_option maxRecDepth 100000 in
theorem bits_lt {a x : Nat} {bits : List Nat} (ha : a < p2) (hx : x < p2) (k : Nat) : bitsN a x bits k < p2 := by
  induction k with
  | zero => exact hx
  | succ k ih =>
    unfold bitsN
    split
    · exact mul_lt (mul_lt ih ih) ha
    · exact mul_lt ih ih
set_option maxRecDepth 100000 in
theorem raised_lt {a : Nat} {bits : List Nat} (ha : a < p2) : raisedN a bits < p2 := bits_lt ha (ones_lt ha _) _

set_option maxRecDepth 100000 in
set_option maxHeartbeats 2000000 in
theorem raised_any (a b cap : Nat) (bits : List Nat) (W : World) (ha : a < p2) (_hall : All 256 bits) (hlen : bits.length ≤ 8) (hcap : bits.length ≤ cap) (hB : W.heap[b]? = some (.cells (ints .u8 bits) 5 (0, 0))) :
    Calls Tryd.prog 46 #[.agg (quad a), .slice (some ⟨b, 0, none⟩) bits.length cap] W fun e w' => e = .returned (.agg (quad (raisedN a bits))) ∧ Below W.heap.size W w' := by
  have HBB := hid hB
  have hbW : b < W.heap.size := lt_blk hB
  have hsm := hid (fun w => small_any 1 w (by decide))
  have MU := hid (fun x y w (hx : x < p2) (hy : y < p2) => mul_any x y w hx hy)
  clear hB
  obtain ⟨len, hl⟩ : ∃ len, bits.length = len := ⟨_, rfl⟩
  rw [hl] at hlen hcap ⊢
  have HL := hid hl
  clear hl
  go_enter Tryd.func46, Tryd.ntmps46
  go_wp2_with fail
  refine (hsm.out _).mono ?_
  rintro e w1 ⟨rfl, hb1⟩
  have kA := Kept.on (kept (b := W.heap.size) (o := .cells (quad a) 44 (0, 0)) (by go_simp)) hb1
  have kR := Kept.on (kept (b := W.heap.size + 1) (o := .cells (quad 0) 44 (0, 0)) (by go_simp)) hb1
  have b1 : Hid (Below W.heap.size W w1) := below_to (by repeat (first | exact Below.refl _ _ | exact below_new _ | assumption | refine Below.drew ?_ | refine Below.drewN ?_ _ | refine below_alloc ?_ _ | refine below_blk' ?_ (by omega) _)) hb1
  clear hb1
  try clear gA lA nA mA
  obtain ⟨gA, lA, nA, mA⟩ := kA
  try clear gR lR nR mR
  obtain ⟨gR, lR, nR, mR⟩ := kR
  obtain ⟨gB, lB, nB, mB⟩ := kept (show hget w1 b = some (.cells (ints .u8 bits) 5 (0, 0)) from (b1.out.block b hbW).trans HBB.out)
  have hXW := lR
  have hbX := lB
  go_upto_region 3 with (fail)
  obtain ⟨w2, hw2⟩ : ∃ w2, w1.alloc (.cells (quad 1) 44) = w2 := ⟨_, rfl⟩
  have kA := kept (show hget w2 (W.heap.size) = some (.cells (quad a) 44 (0, 0)) by rw [← hw2]; clear hw2; go_simp)
  have kR := kept (show hget w2 (W.heap.size + 1) = some (.cells (quad 0) 44 (0, 0)) by rw [← hw2]; clear hw2; go_simp)
  have kB := kept (show hget w2 (b) = some (.cells (ints .u8 bits) 5 (0, 0)) by rw [← hw2]; clear hw2; go_simp)
  have kX := kept (show hget w2 (w1.heap.size) = some (.cells (quad 1) 44 (0, 0)) by rw [← hw2]; clear hw2; go_simp)
  have b2 : Hid (Below W.heap.size W w2) := by rw [← hw2]; repeat (first | exact Below.refl _ _ | exact below_new _ | exact b1.out | assumption | refine Below.drew ?_ | refine Below.drewN ?_ _ | refine below_alloc ?_ _ | refine below_blk' ?_ (by omega) _)
  rw [hw2]
  clear hw2
  try clear gA lA nA mA
  try clear jA
  have jA := kA.later
  obtain ⟨gA, lA, nA, mA⟩ := kA
  try clear gR lR nR mR
  try clear jR
  have jR := kR.later
  obtain ⟨gR, lR, nR, mR⟩ := kR
  try clear gB lB nB mB
  try clear jB
  have jB := kB.later
  obtain ⟨gB, lB, nB, mB⟩ := kB
  try clear gX lX nX mX
  try clear jX
  have jX := kX.later
  obtain ⟨gX, lX, nX, mX⟩ := kX
  clear b1
  generalize w1.heap.size = X at *
  have q1 : (W.heap.size = X) = False := by simp; omega
  have q2 : (W.heap.size + 1 = X) = False := by simp; omega
  have q3 : (b = X) = False := by simp; omega
  have hWX : W.heap.size ≤ X := by omega
  have b2' := b2
  go_loopw [9] (fun i wr => ∃ k : Nat, k ≤ 250 ∧ i = .int .i64 (k : Int) ∧ hget wr X = some (.cells (quad (onesN a k)) 44 (0, 0)) ∧ hget wr (W.heap.size) = some (.cells (quad a) 44 (0, 0)) ∧ hget wr (W.heap.size + 1) = some (.cells (quad 0) 44 (0, 0)) ∧ hget wr b = some (.cells (ints .u8 bits) 5 (0, 0)) ∧ Hid (Below W.heap.size W wr)) (fun i _ => (250 - intOf i).toNat)
  case atStart => exact ⟨0, by omega, rfl, gX, gA, gR, gB, b2'⟩
  case round =>
    clear gX gA gR gB jX jA jR jB lX lA lR lB nX nA nR nB mX mA mR mB b2 b2'
    obtain ⟨k, hk, rfl, qX, qA, qR, qB, qb⟩ := hrel
    obtain ⟨gX, lX, nX, mX⟩ := kept qX
    obtain ⟨gA, lA, nA, mA⟩ := kept qA
    obtain ⟨gR, lR, nR, mR⟩ := kept qR
    obtain ⟨gB, lB, nB, mB⟩ := kept qB
    have jX := (kept qX).later
    have jA := (kept qA).later
    have jR := (kept qR).later
    have jB := (kept qB).later
    clear qX qA qR qB
    by_cases hk250 : k < 250
    · have hkd : decide ((k : Int) < 250) = true := decide_eq_true (by omega)
      obtain ⟨x, hx⟩ : ∃ x, onesN a k = x := ⟨_, rfl⟩
      have hx2 := ones_lt ha k
      have hst : onesN a (k + 1) = mulN (mulN (onesN a k) (onesN a k)) a := rfl
      rw [hx] at hx2 jX gX hst
      have hxx := mul_lt hx2 hx2
      obtain ⟨y, hy⟩ : ∃ y, mulN x x = y := ⟨_, rfl⟩
      have m1' := fun w => MU.out x x w hx2 hx2
      rw [hy] at hxx hst
      simp only [hy] at m1'
      have m2' := fun w => MU.out y a w hxx ha
      rw [← hst]  at m2'
      have m1 := hid m1'
      have m2 := hid m2'
      have HST := hid hst
      obtain ⟨z, hz⟩ : ∃ z, onesN a (k + 1) = z := ⟨_, rfl⟩
      have HST' := hid hz
      rw [hz] at m2
      clear hx m1' m2' hst hy hz HST
      go_wp2_with fail
      refine wp_region_later_tail 5 (by kernel_rfl) (by kernel_rfl) ?_
      simp only [List.take_succ_cons, List.take_zero, List.drop_succ_cons, List.drop_zero]
      repeat ((go_big_quiet_step ((go_at_call 27; first | with_reducible exact calls_later (m1.out _) | with_reducible exact calls_later (m2.out _)))))
      refine wpQuiet_nil ?_
      intro wL hwL
      obtain ⟨⟨w8, hL⟩, e8⟩ := hwL
      change wL = w8 at e8
      subst e8
      obtain ⟨gX, lX, nX, mX⟩ := kept (jX ⟨_, hL⟩)
      obtain ⟨gA, lA, nA, mA⟩ := kept (jA ⟨_, hL⟩)
      obtain ⟨gR, lR, nR, mR⟩ := kept (jR ⟨_, hL⟩)
      obtain ⟨gB, lB, nB, mB⟩ := kept (jB ⟨_, hL⟩)
      go_wp2_with fail
      have bz := below_blk' (below_to qb.out hL) hWX (.cells (quad z) 44 (0, 0))
      exact ⟨⟨k + 1, by omega, by go_num, by rw [HST'.out]; go_simp, by go_simp, by go_simp, by go_simp, bz⟩, by simp [intOf]; omega⟩
    · have hkd : decide ((k : Int) < 250) = false := decide_eq_false (by omega)
      have hk5 : k = 250 := by omega
      have hx2 := ones_lt ha k
      rw [hk5] at gX hx2
      obtain ⟨x, hx⟩ : ∃ x, onesN a 250 = x := ⟨_, rfl⟩
      rw [hx] at gX hx2
      have HX := hid hx
      clear hx jX jA jR jB hk5
      go_upto_region 7 with (fail)
      go_loopw [19] (fun i wr => ∃ k : Nat, k ≤ len ∧ i = .int .i64 (k : Int) ∧ hget wr X = some (.cells (quad (bitsN a x bits k)) 44 (0, 0)) ∧ hget wr (W.heap.size) = some (.cells (quad a) 44 (0, 0)) ∧ hget wr (W.heap.size + 1) = some (.cells (quad 0) 44 (0, 0)) ∧ hget wr b = some (.cells (ints .u8 bits) 5 (0, 0)) ∧ Hid (Below W.heap.size W wr)) (fun i _ => (len - intOf i).toNat)
      case atStart => exact ⟨0, by omega, rfl, gX, gA, gR, gB, qb⟩
      case round =>
        clear gX gA gR gB lX lA lR lB nX nA nR nB mX mA mR mB qb
        obtain ⟨k, hk, rfl, qX, qA, qR, qB, qb⟩ := hrel
        obtain ⟨gX, lX, nX, mX⟩ := kept qX
        obtain ⟨gA, lA, nA, mA⟩ := kept qA
        obtain ⟨gR, lR, nR, mR⟩ := kept qR
        obtain ⟨gB, lB, nB, mB⟩ := kept qB
        have jX := (kept qX).later
        have jA := (kept qA).later
        have jR := (kept qR).later
        have jB := (kept qB).later
        by_cases hkl : k < len
        · have hkd : decide ((k : Int) < len) = true := decide_eq_true (by omega)
          have hi3 : (k : Int) < len := by omega
          have hkl' : (k : Int) < cap := by omega
          have cb := ints_cell (show wr.heap[b]? = some (.cells (ints .u8 bits) 5 (0, 0)) from qB) (j := k) (by rw [HL.out]; exact hkl)
          obtain ⟨y, hy⟩ : ∃ y, bitsN a x bits k = y := ⟨_, rfl⟩
          have hy2 : bitsN a x bits k < p2 := bits_lt ha hx2 k
          have hst : bitsN a x bits (k + 1) = if ((bits.getD k 0 : Nat) : Int) == 1 then mulN (mulN (bitsN a x bits k) (bitsN a x bits k)) a else mulN (bitsN a x bits k) (bitsN a x bits k) := rfl
          rw [hy] at hy2 qX hst gX
          have hyy := mul_lt hy2 hy2
          have hya := mul_lt hyy ha
          obtain ⟨v, hv⟩ : ∃ v, mulN y y = v := ⟨_, rfl⟩
          obtain ⟨u, hu⟩ : ∃ u, mulN v a = u := ⟨_, rfl⟩
          obtain ⟨t, ht⟩ : ∃ t, bits.getD k 0 = t := ⟨_, rfl⟩
          have m1' := fun w => MU.out y y w hy2 hy2
          rw [hv] at hyy hst hya
          simp only [hv] at m1'
          have m2' := fun w => MU.out v a w hyy ha
          rw [hu] at hst hya
          simp only [hu] at m2'
          rw [ht] at cb hst
          have m3' := fun w => select_any ((t : Int) == 1) v u w hyy hya
          rw [← hst] at m3'
          have m1 := hid m1'
          have m2 := hid m2'
          have m3 := hid m3'
          obtain ⟨z, hz⟩ : ∃ z, bitsN a x bits (k + 1) = z := ⟨_, rfl⟩
          have HZ := hid hz
          rw [hz] at m3
          clear jX jA jR jB m1' m2' m3' hst hv hu ht hy hz qX qA qR qB
          go_wp2_with fail
          refine (m1.out _).mono ?_
          rintro e w3 ⟨rfl, hb3⟩
          have kA := Kept.on (kept (b := W.heap.size) (o := .cells (quad a) 44 (0, 0)) (by go_simp)) hb3
          have kR := Kept.on (kept (b := W.heap.size + 1) (o := .cells (quad 0) 44 (0, 0)) (by go_simp)) hb3
          have kB := Kept.on (kept (b := b) (o := .cells (ints .u8 bits) 5 (0, 0)) (by go_simp)) hb3
          have kX := Kept.on (kept (b := X) (o := .cells (quad y) 44 (0, 0)) (by go_simp)) hb3
          have b3 : Hid (Below W.heap.size W w3) := below_to (by repeat (first | exact Below.refl _ _ | exact below_new _ | exact qb.out | assumption | refine Below.drew ?_ | refine Below.drewN ?_ _ | refine below_alloc ?_ _ | refine below_blk' ?_ (by omega) _)) hb3
          clear hb3
          try clear gA lA nA mA
          obtain ⟨gA, lA, nA, mA⟩ := kA
          try clear gR lR nR mR
          obtain ⟨gR, lR, nR, mR⟩ := kR
          try clear gB lB nB mB
          obtain ⟨gB, lB, nB, mB⟩ := kB
          try clear gX lX nX mX
          obtain ⟨gX, lX, nX, mX⟩ := kX
          clear qb
          clear cb
          go_wp2_with fail
          obtain ⟨w4, hw4⟩ : ∃ w4, blk w3 X (.cells (quad v) 44 (0, 0)) = w4 := ⟨_, rfl⟩
          have kA := kept (show hget w4 (W.heap.size) = some (.cells (quad a) 44 (0, 0)) by rw [← hw4]; clear hw4; go_simp)
          have kR := kept (show hget w4 (W.heap.size + 1) = some (.cells (quad 0) 44 (0, 0)) by rw [← hw4]; clear hw4; go_simp)
          have kB := kept (show hget w4 (b) = some (.cells (ints .u8 bits) 5 (0, 0)) by rw [← hw4]; clear hw4; go_simp)
          have kX := kept (show hget w4 (X) = some (.cells (quad v) 44 (0, 0)) by rw [← hw4]; clear hw4; go_simp)
          have b4 : Hid (Below W.heap.size W w4) := by rw [← hw4]; repeat (first | exact Below.refl _ _ | exact below_new _ | exact b3.out | assumption | refine Below.drew ?_ | refine Below.drewN ?_ _ | refine below_alloc ?_ _ | refine below_blk' ?_ (by omega) _)
          rw [hw4]
          clear hw4
          try clear gA lA nA mA
          try clear jA
          have jA := kA.later
          obtain ⟨gA, lA, nA, mA⟩ := kA
          try clear gR lR nR mR
          try clear jR
          have jR := kR.later
          obtain ⟨gR, lR, nR, mR⟩ := kR
          try clear gB lB nB mB
          try clear jB
          have jB := kB.later
          obtain ⟨gB, lB, nB, mB⟩ := kB
          try clear gX lX nX mX
          try clear jX
          have jX := kX.later
          obtain ⟨gX, lX, nX, mX⟩ := kX
          clear b3
          refine wp_region_later_tail 7 (by kernel_rfl) (by kernel_rfl) ?_
          simp only [List.take_succ_cons, List.take_zero, List.drop_succ_cons, List.drop_zero]
          repeat ((go_big_quiet_step ((first | (go_at_call 27; with_reducible exact calls_later (m2.out _)) | (go_at_call 52; with_reducible exact calls_later (m3.out _))))))
          refine wpQuiet_nil ?_
          intro wL hwL
          obtain ⟨⟨w8, hL⟩, e8⟩ := hwL
          change wL = w8 at e8
          subst e8
          obtain ⟨gX, lX, nX, mX⟩ := kept (jX ⟨_, hL⟩)
          obtain ⟨gA, lA, nA, mA⟩ := kept (jA ⟨_, hL⟩)
          obtain ⟨gR, lR, nR, mR⟩ := kept (jR ⟨_, hL⟩)
          obtain ⟨gB, lB, nB, mB⟩ := kept (jB ⟨_, hL⟩)
          go_wp2_with fail
          have bz := below_blk' (below_to b4.out hL) hWX (.cells (quad z) 44 (0, 0))
          exact ⟨⟨k + 1, by omega, by go_num, by rw [HZ.out]; go_simp, by go_simp, by go_simp, by go_simp, bz⟩, by simp [intOf]; omega⟩
        · have hkd : decide ((k : Int) < len) = false := decide_eq_false (by omega)
          have hk5 : k = len := by omega
          have hfin : bitsN a x bits k = raisedN a bits := by unfold raisedN; rw [hk5, HL.out, HX.out]
          rw [hfin] at gX
          generalize hr : raisedN a bits = r at *
          have HR := hid hr
          clear hr hfin jX jA jR jB qX qA qR qB
          go_wp2_with fail
          refine bodyPost_ret (v := .agg (quad r)) (results_cell_row Tryd.results46 _ _ (W.heap.size + 1) 44 (quad r) (0, 0) _ (by rfl) (by rw [← hget_eq]; go_simp) Tryd.underlying44 rfl (by rw [info_Elem]; go_simp)) rfl ?_
          exact ⟨by rw [HR.out], by repeat (first | exact Below.refl _ _ | exact below_new _ | exact qb.out | assumption | refine Below.drew ?_ | refine Below.drewN ?_ _ | refine below_alloc ?_ _ | refine below_blk' ?_ (by omega) _)⟩

end Go.Proofs.YtceljjnohjnepaaDoor

namespace Go.Proofs.YtceljjnohjnepaaDoor
open Go.RowKit DG
attribute [local go_sem ↓] exl_Elem exs_Elem
                 attribute [local go_sem] ldr_Elem str_Elem
attribute [local go_sem] to_quad0

set_option maxRecDepth 100000 in
theorem sub64_any (x y c : Int) (hx : 0 ≤ x ∧ x < 18446744073709551616) (hy : 0 ≤ y ∧ y < 18446744073709551616) (hc : 0 ≤ c ∧ c ≤ 1) : ∃ d e : Int,
    (∀ w, (callFunc 51 #[.int .u64 x, .int .u64 y, .int .u64 c]).run Tryd.prog w = .ok (.value (.tuple #[.int .u64 d, .int .u64 e])) w) ∧
    0 ≤ d ∧ d < 18446744073709551616 ∧ 0 ≤ e ∧ e ≤ 1 ∧ d + y + c ≤ x + 18446744073709551616 * e ∧ x + 18446744073709551616 * e ≤ d + y + c :=
  ⟨_, _, fun w => call_sub64 x y c hx.1 hy hc.1 hc.2 w, by omega, by omega, by split <;> omega, by split <;> omega, by split <;> omega, by split <;> omega⟩

set_option maxRecDepth 100000 in
theorem sub4 {a0 a1 a2 a3 b0 b1 b2 b3 d0 d1 d2 d3 e0 e1 e2 e3 : Int} (h0 : d0 + b0 + 0 = a0 + 18446744073709551616 * e0) (h1 : d1 + b1 + e0 = a1 + 18446744073709551616 * e1)
    (h2 : d2 + b2 + e1 = a2 + 18446744073709551616 * e2) (h3 : d3 + b3 + e2 = a3 + 18446744073709551616 * e3) : (d0 + 18446744073709551616 * d1 + 340282366920938463463374607431768211456 * d2 + 6277101735386680763835789423207666416102355444464034512896 * d3) + (b0 + 18446744073709551616 * b1 + 340282366920938463463374607431768211456 * b2 + 6277101735386680763835789423207666416102355444464034512896 * b3) = (a0 + 18446744073709551616 * a1 + 340282366920938463463374607431768211456 * a2 + 6277101735386680763835789423207666416102355444464034512896 * a3) + 115792089237316195423570985008687907853269984665640564039457584007913129639936 * e3 := by omega
set_option maxRecDepth 100000 in
theorem sub4s {n d0 d1 d2 d3 f0 f1 f2 f3 g0 g1 g2 g3 : Int} (h0 : f0 + n + 0 = d0 + 18446744073709551616 * g0) (h1 : f1 + g0 + 0 = d1 + 18446744073709551616 * g1)
    (h2 : f2 + g1 + 0 = d2 + 18446744073709551616 * g2) (h3 : f3 + g2 + 0 = d3 + 18446744073709551616 * g3) : (f0 + 18446744073709551616 * f1 + 340282366920938463463374607431768211456 * f2 + 6277101735386680763835789423207666416102355444464034512896 * f3) + n = (d0 + 18446744073709551616 * d1 + 340282366920938463463374607431768211456 * d2 + 6277101735386680763835789423207666416102355444464034512896 * d3) + 115792089237316195423570985008687907853269984665640564039457584007913129639936 * g3 := by omega
set_option maxRecDepth 100000 in
theorem sub_fin {a b : Nat} {D e F g : Int} (ha : a < p2) (hb : b < p2) (h1 : D + b = a + 115792089237316195423570985008687907853269984665640564039457584007913129639936 * e) (h2 : F + 38 * e = D + 115792089237316195423570985008687907853269984665640564039457584007913129639936 * g) (D0 : 0 ≤ D) (D1 : D < 115792089237316195423570985008687907853269984665640564039457584007913129639936) (F0 : 0 ≤ F) (F1 : F < 115792089237316195423570985008687907853269984665640564039457584007913129639936)
    (e0 : 0 ≤ e) (e1 : e ≤ 1) (g0 : 0 ≤ g) (g1 : g ≤ 1) : 38 * g ≤ F ∧ F - 38 * g = ((subN a b : Nat) : Int) := by
  have he : (if a < b then 1 else 0 : Nat) = e.toNat := by split <;> (unfold p2 at *; omega)
  have ht : (a + p2 - b) % p2 = D.toNat := by
    unfold p2 at *
    omega
  unfold subN
  rw [he, ht]
  have hg : (if D.toNat < 38 * e.toNat then 1 else 0 : Nat) = g.toNat := by split <;> omega
  rw [hg]
  have hF : (D.toNat + p2 - 38 * e.toNat) % p2 = F.toNat := by
    unfold p2 at *
    omega
  rw [hF]
  clear hF hg ht he
  omega
set_option maxRecDepth 100000 in
theorem sub_law {a b : Nat} {a0 a1 a2 a3 b0 b1 b2 b3 d0 d1 d2 d3 e3 f0 f1 f2 f3 g3 : Int} (ha : a < p2) (hb : b < p2) (HA : W4 a a0 a1 a2 a3) (HB : W4 b b0 b1 b2 b3)
    (da : 0 ≤ d0 ∧ 0 ≤ d1 ∧ 0 ≤ d2 ∧ 0 ≤ d3) (db : d0 < 18446744073709551616 ∧ d1 < 18446744073709551616 ∧ d2 < 18446744073709551616 ∧ d3 < 18446744073709551616) (ea3 : 0 ≤ e3) (eb3 : e3 ≤ 1)
    (fa : 0 ≤ f0 ∧ 0 ≤ f1 ∧ 0 ≤ f2 ∧ 0 ≤ f3) (fb : f0 < 18446744073709551616 ∧ f1 < 18446744073709551616 ∧ f2 < 18446744073709551616 ∧ f3 < 18446744073709551616) (ga3 : 0 ≤ g3) (gb3 : g3 ≤ 1)
    (h : (d0 + 18446744073709551616 * d1 + 340282366920938463463374607431768211456 * d2 + 6277101735386680763835789423207666416102355444464034512896 * d3) + (b0 + 18446744073709551616 * b1 + 340282366920938463463374607431768211456 * b2 + 6277101735386680763835789423207666416102355444464034512896 * b3) = (a0 + 18446744073709551616 * a1 + 340282366920938463463374607431768211456 * a2 + 6277101735386680763835789423207666416102355444464034512896 * a3) + 115792089237316195423570985008687907853269984665640564039457584007913129639936 * e3) (k : (f0 + 18446744073709551616 * f1 + 340282366920938463463374607431768211456 * f2 + 6277101735386680763835789423207666416102355444464034512896 * f3) + 38 * e3 = (d0 + 18446744073709551616 * d1 + 340282366920938463463374607431768211456 * d2 + 6277101735386680763835789423207666416102355444464034512896 * d3) + 115792089237316195423570985008687907853269984665640564039457584007913129639936 * g3) :
    0 ≤ f0 - 38 * g3 ∧ f0 - 38 * g3 < 18446744073709551616 ∧ W4 (subN a b) (f0 - 38 * g3) f1 f2 f3 := by
  have hD := four_lt da.1 da.2.1 da.2.2.1 da.2.2.2 db.1 db.2.1 db.2.2.1 db.2.2.2
  have hF := four_lt fa.1 fa.2.1 fa.2.2.1 fa.2.2.2 fb.1 fb.2.1 fb.2.2.1 fb.2.2.2
  rw [HA.eq, HB.eq] at h
  obtain ⟨r1, r2⟩ := sub_fin ha hb h k hD.1 hD.2 hF.1 hF.2 ea3 eb3 ga3 gb3
  clear h
  have hf : 38 * g3 ≤ f0 := by
    obtain h | h : g3 = 0 ∨ g3 = 1 := by omega
    · omega
    · subst h
      clear r1 r2 HA HB ha hb
      omega
  exact ⟨by omega, by omega, w4_of ⟨by omega, by omega⟩ ⟨fa.2.1, fb.2.1⟩ ⟨fa.2.2.1, fb.2.2.1⟩ ⟨fa.2.2.2, fb.2.2.2⟩ (by omega)⟩

set_option maxRecDepth 100000 in
set_option maxHeartbeats 2000000 in
theorem sub_any (a b : Nat) (W : World) (ha : a < p2) (hb : b < p2) : Calls Tryd.prog 35 #[.agg (quad a), .agg (quad b)] W fun e w' => e = .returned (.agg (quad (subN a b))) ∧ Below W.heap.size W w' := by
  obtain ⟨a0, a1, a2, a3, hq, hw4⟩ := quad_w4 a ha
  have HA := hid hw4
  obtain ⟨h0, h1, h2, h3, h0', h1', h2', h3', _⟩ := hw4
  obtain ⟨b0, b1, b2, b3, hqb, hw4⟩ := quad_w4 b hb
  have HB := hid hw4
  obtain ⟨g0, g1, g2, g3, g0', g1', g2', g3', _⟩ := hw4
  rw [hq, hqb]
  clear hq hqb
  obtain ⟨r, hr⟩ : ∃ r, subN a b = r := ⟨_, rfl⟩
  rw [hr]
  have HR := hid hr
  clear hr
  go_enter Tryd.func35, Tryd.ntmps35
  go_wp2_with fail
  refine wp_loop_rounds 5 ?_
  rw [rounds_succ]
  obtain ⟨d0, e0, hr0, da0, db0, ea0, eb0, pa0, pb0⟩ := sub64_any a0 b0 0 (by omega) (by omega) (by omega)
  go_wp2_with fail
  refine wp_region_stf 13 (fun w => w.setCell ⟨W.heap.size, 0, none⟩ (.int .u64 d0)) (by kernel_rfl) (by kernel_rfl) (by decide) ?_
  repeat (first | (refine wpStf_quiet (by decide) (by rfl) (fun K hK => ?_); go_simp; refine hK _ ?_; clear hK K; try go_ints) | (refine wpStf_store (by rfl) (by rfl) (fun K hK => ?_); go_simp; refine hK _ ?_; clear hK K; try go_ints) | (refine wpStf_free (by decide) (fun K hK => ?_); go_simp; refine hK _ ?_; clear hK K; try go_ints))
  refine wpStf_nil ?_
  go_wp2_with fail
  clear hr0
  rw [rounds_succ]
  obtain ⟨d1, e1, hr1, da1, db1, ea1, eb1, pa1, pb1⟩ := sub64_any a1 b1 e0 (by omega) (by omega) (by omega)
  go_wp2_with fail
  refine wp_region_stf 13 (fun w => w.setCell ⟨W.heap.size, 1, none⟩ (.int .u64 d1)) (by kernel_rfl) (by kernel_rfl) (by decide) ?_
  repeat (first | (refine wpStf_quiet (by decide) (by rfl) (fun K hK => ?_); go_simp; refine hK _ ?_; clear hK K; try go_ints) | (refine wpStf_store (by rfl) (by rfl) (fun K hK => ?_); go_simp; refine hK _ ?_; clear hK K; try go_ints) | (refine wpStf_free (by decide) (fun K hK => ?_); go_simp; refine hK _ ?_; clear hK K; try go_ints))
  refine wpStf_nil ?_
  go_wp2_with fail
  clear hr1
  rw [rounds_succ]
  obtain ⟨d2, e2, hr2, da2, db2, ea2, eb2, pa2, pb2⟩ := sub64_any a2 b2 e1 (by omega) (by omega) (by omega)
  go_wp2_with fail
  refine wp_region_stf 13 (fun w => w.setCell ⟨W.heap.size, 2, none⟩ (.int .u64 d2)) (by kernel_rfl) (by kernel_rfl) (by decide) ?_
  repeat (first | (refine wpStf_quiet (by decide) (by rfl) (fun K hK => ?_); go_simp; refine hK _ ?_; clear hK K; try go_ints) | (refine wpStf_store (by rfl) (by rfl) (fun K hK => ?_); go_simp; refine hK _ ?_; clear hK K; try go_ints) | (refine wpStf_free (by decide) (fun K hK => ?_); go_simp; refine hK _ ?_; clear hK K; try go_ints))
  refine wpStf_nil ?_
  go_wp2_with fail
  clear hr2
  rw [rounds_succ]
  obtain ⟨d3, e3, hr3, da3, db3, ea3, eb3, pa3, pb3⟩ := sub64_any a3 b3 e2 (by omega) (by omega) (by omega)
  go_wp2_with fail
  refine wp_region_stf 13 (fun w => w.setCell ⟨W.heap.size, 3, none⟩ (.int .u64 d3)) (by kernel_rfl) (by kernel_rfl) (by decide) ?_
  repeat (first | (refine wpStf_quiet (by decide) (by rfl) (fun K hK => ?_); go_simp; refine hK _ ?_; clear hK K; try go_ints) | (refine wpStf_store (by rfl) (by rfl) (fun K hK => ?_); go_simp; refine hK _ ?_; clear hK K; try go_ints) | (refine wpStf_free (by decide) (fun K hK => ?_); go_simp; refine hK _ ?_; clear hK K; try go_ints))
  refine wpStf_nil ?_
  go_wp2_with fail
  clear hr3
  rw [rounds_succ]
  go_wp2_with fail
  have HS := hid (sub4 (a0 := a0) (a1 := a1) (a2 := a2) (a3 := a3) (b0 := b0) (b1 := b1) (b2 := b2) (b3 := b3) (d0 := d0) (d1 := d1) (d2 := d2) (d3 := d3) (e0 := e0) (e1 := e1) (e2 := e2) (e3 := e3) (by omega) (by omega) (by omega) (by omega))
  clear h0 h1 h2 h3 h0' h1' h2' h3' g0 g1 g2 g3 g0' g1' g2' g3' pa0 pb0 pa1 pb1 pa2 pb2 pa3 pb3 ea0 ea1 ea2 eb0 eb1 eb2
  refine wp_loop_rounds 5 ?_
  rw [rounds_succ]
  obtain ⟨f0, g0, hr0, fa0, fb0, ga0, gb0, qa0, qb0⟩ := sub64_any d0 (38 * e3) 0 (by omega) (by omega) (by omega)
  go_wp2_with fail
  clear hr0
  rw [rounds_succ]
  obtain ⟨f1, g1, hr1, fa1, fb1, ga1, gb1, qa1, qb1⟩ := sub64_any d1 g0 0 (by omega) (by omega) (by omega)
  go_wp2_with fail
  clear hr1
  rw [rounds_succ]
  obtain ⟨f2, g2, hr2, fa2, fb2, ga2, gb2, qa2, qb2⟩ := sub64_any d2 g1 0 (by omega) (by omega) (by omega)
  go_wp2_with fail
  clear hr2
  rw [rounds_succ]
  obtain ⟨f3, g3, hr3, fa3, fb3, ga3, gb3, qa3, qb3⟩ := sub64_any d3 g2 0 (by omega) (by omega) (by omega)
  go_wp2_with fail
  clear hr3
  have HT := hid (sub4s (n := 38 * e3) (d0 := d0) (d1 := d1) (d2 := d2) (d3 := d3) (f0 := f0) (f1 := f1) (f2 := f2) (f3 := f3) (g0 := g0) (g1 := g1) (g2 := g2) (g3 := g3) (by omega) (by omega) (by omega) (by omega))
  obtain ⟨z1, z2, Z⟩ := sub_law ha hb HA.out HB.out ⟨da0, da1, da2, da3⟩ ⟨db0, db1, db2, db3⟩ ea3 eb3 ⟨fa0, fa1, fa2, fa3⟩ ⟨fb0, fb1, fb2, fb3⟩ ga3 gb3 HS.out HT.out
  rw [HR.out] at Z
  have HZ := hid Z
  clear Z qa0 qb0 qa1 qb1 qa2 qb2 qa3 qb3
  rw [rounds_succ]
  go_wp2_with fail
  refine bodyPost_ret (v := .agg (#[.int .u64 (f0 - 38 * g3), .int .u64 f1, .int .u64 f2, .int .u64 f3])) (results_cell_row Tryd.results35 _ _ (W.heap.size + 1 + 1) 44 (#[.int .u64 (f0 - 38 * g3), .int .u64 f1, .int .u64 f2, .int .u64 f3]) (0, 0) _ (by rfl) (by rw [← hget_eq]; go_simp) Tryd.underlying44 rfl (by rw [info_Elem]; go_simp)) rfl ?_
  refine ⟨by rw [HZ.out.quad], ?_⟩
  repeat (first | exact Below.refl _ _ | exact below_new _ | assumption | refine Below.drew ?_ | refine Below.drewN ?_ _ | refine below_alloc ?_ _ | refine below_blk' ?_ (by omega) _)

end Go.Proofs.YtceljjnohjnepaaDoor
