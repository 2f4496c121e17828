/- The walks of the numbers: top, below. -/
import Derived.Test.YtoaihbmicdbaiaaNumV
namespace Go.Proofs.Ytoaihbmicdbaiaa
open Go.RowKit DG

theorem and63 (x : Int) (h : 0 ≤ x ∧ x < 18446744073709551616) : bits .and .u64 x 9223372036854775807 = x % 9223372036854775808 := by
  obtain ⟨n, rfl⟩ := Int.eq_ofNat_of_zero_le h.1
  rw [show (9223372036854775807 : Int) = ((9223372036854775807 : Nat) : Int) from rfl, u64_and_nat _ _ (by omega) (by decide), show (9223372036854775807 : Nat) = 2 ^ 63 - 1 from rfl, Nat.and_two_pow_sub_one_eq_mod]
  rfl
theorem top_law {n : Nat} {a0 a1 a2 a3 : Int} (h : W4 n a0 a1 a2 a3) : a3 / 9223372036854775808 = ((n / 57896044618658097711785492504343953926634992332820282019728792003956564819968 : Nat) : Int) ∧ W4 (n % 57896044618658097711785492504343953926634992332820282019728792003956564819968) a0 a1 a2 (a3 % 9223372036854775808) := by
  obtain ⟨l0, l1, l2, l3, u0, u1, u2, u3, hv⟩ := h
  refine ⟨by omega, l0, l1, l2, by omega, u0, u1, u2, by omega, by omega⟩

set_option maxHeartbeats 1000000 in
theorem top_any (a : Nat) (W : World) (ha : a < p2) :
    Calls Try.prog 46 #[.agg (quad a)] W fun e w' => e = .returned (.tuple #[.int .u64 ((a / 57896044618658097711785492504343953926634992332820282019728792003956564819968 : Nat) : Int), .agg (quad (a % 57896044618658097711785492504343953926634992332820282019728792003956564819968))]) ∧ Below W.heap.size W w' := by
  obtain ⟨a0, a1, a2, a3, hq, hw4⟩ := quad_w4 a ha
  have HW4 := hid (top_law hw4)
  obtain ⟨h0, h1, h2, h3, h0', h1', h2', h3', _⟩ := hw4
  rw [hq]
  clear hq
  go_enter Try.func46, Try.ntmps46
  go_wp2_with fail
  rw [and63 a3 ⟨h3, h3'⟩]
  have hz0 := Int.emod_nonneg a3 (show (9223372036854775808 : Int) ≠ 0 by decide)
  refine still_tail 3 (by kernel_rfl) (by kernel_rfl) ?_
  simp only [List.take_succ_cons, List.take_zero, List.drop_succ_cons, List.drop_zero]
  repeat (first | (refine wpStill_step (fun K hK => ?_); go_simp; refine hK _ ?_; clear hK K; try go_ints))
  refine wpStill_nil ?_
  go_wp2_with fail
  refine bodyPost_ret (v := .tuple #[.int .u64 (a3 / 9223372036854775808), .agg #[.int .u64 a0, .int .u64 a1, .int .u64 a2, .int .u64 (a3 % 9223372036854775808)]]) (by simp [results, Try.results46, go_sem]) rfl ?_
  obtain ⟨e1, e2⟩ := HW4.out
  exact ⟨by rw [e1, e2.quad], (below_alloc (below_new _) _).drew⟩


theorem xor_back (x y : Int) (hx : 0 ≤ x) (hx' : x < 18446744073709551616) (hy : 0 ≤ y) (hy' : y < 18446744073709551616) : bits .xor .u64 x (bits .and .u64 18446744073709551615 (bits .xor .u64 x y)) = y := by
  obtain ⟨a, rfl⟩ := Int.eq_ofNat_of_zero_le hx
  obtain ⟨b, rfl⟩ := Int.eq_ofNat_of_zero_le hy
  rw [u64_xor_nat _ _ (by omega) (by omega)]
  have hlt : a ^^^ b < 18446744073709551616 := Nat.xor_lt_two_pow (n := 64) (by omega) (by omega)
  rw [show (18446744073709551615 : Int) = ((18446744073709551615 : Nat) : Int) from rfl, u64_and_nat _ _ (by decide) hlt, Nat.and_comm, show (18446744073709551615 : Nat) = 2 ^ 64 - 1 from rfl, Nat.and_two_pow_sub_one_eq_mod, Nat.mod_eq_of_lt hlt, u64_xor_nat _ _ (by omega) hlt, ← Nat.xor_assoc, Nat.xor_self, Nat.zero_xor]
theorem xor_none (x y : Int) (hx : 0 ≤ x) (hx' : x < 18446744073709551616) (hy : 0 ≤ y) (hy' : y < 18446744073709551616) : bits .xor .u64 x (bits .and .u64 0 (bits .xor .u64 x y)) = x := by
  obtain ⟨a, rfl⟩ := Int.eq_ofNat_of_zero_le hx
  obtain ⟨b, rfl⟩ := Int.eq_ofNat_of_zero_le hy
  rw [u64_xor_nat _ _ (by omega) (by omega)]
  have hlt : a ^^^ b < 18446744073709551616 := Nat.xor_lt_two_pow (n := 64) (by omega) (by omega)
  rw [show (0 : Int) = ((0 : Nat) : Int) from rfl, u64_and_nat _ _ (by decide) hlt, Nat.zero_and, u64_xor_nat _ _ (by omega) (by decide), Nat.xor_zero]
attribute [local go_sem] xor_back xor_none


set_option maxHeartbeats 1000000 in
theorem select_true (a b : Nat) (W : World) (ha : a < p2) (hb : b < p2) : Calls Try.prog 28 #[.bool true, .agg (quad a), .agg (quad b)] W fun e w' => e = .returned (.agg (quad b)) ∧ Below W.heap.size W w' := by
  obtain ⟨a0, a1, a2, a3, hq, hw4⟩ := quad_w4 a ha
  obtain ⟨h0, h1, h2, h3, h0', h1', h2', h3', _⟩ := hw4
  obtain ⟨b0, b1, b2, b3, hqb, hwb⟩ := quad_w4 b hb
  obtain ⟨g0, g1, g2, g3, g0', g1', g2', g3', _⟩ := hwb
  rw [hq, hqb]
  clear hq hqb
  go_enter Try.func28, Try.ntmps28
  go_wp2_with fail
  refine (mask_any true _).mono ?_
  rintro e w' ⟨rfl, rfl⟩
  rw [show maskN true = 18446744073709551615 from rfl]
  go_wp2_with fail
  refine wp_loop_rounds 5 ?_
  rw [rounds_succ]
  go_wp2_with fail
  refine still_tail 14 (by kernel_rfl) (by kernel_rfl) ?_
  simp only [List.take_succ_cons, List.take_zero, List.drop_succ_cons, List.drop_zero]
  repeat (first | (refine wpStill_step (fun K hK => ?_); go_simp; refine hK _ ?_; clear hK K; try go_ints))
  refine wpStill_nil ?_
  go_wp2_with fail
  rw [rounds_succ]
  go_wp2_with fail
  refine still_tail 14 (by kernel_rfl) (by kernel_rfl) ?_
  simp only [List.take_succ_cons, List.take_zero, List.drop_succ_cons, List.drop_zero]
  repeat (first | (refine wpStill_step (fun K hK => ?_); go_simp; refine hK _ ?_; clear hK K; try go_ints))
  refine wpStill_nil ?_
  go_wp2_with fail
  rw [rounds_succ]
  go_wp2_with fail
  refine still_tail 14 (by kernel_rfl) (by kernel_rfl) ?_
  simp only [List.take_succ_cons, List.take_zero, List.drop_succ_cons, List.drop_zero]
  repeat (first | (refine wpStill_step (fun K hK => ?_); go_simp; refine hK _ ?_; clear hK K; try go_ints))
  refine wpStill_nil ?_
  go_wp2_with fail
  rw [rounds_succ]
  go_wp2_with fail
  refine still_tail 14 (by kernel_rfl) (by kernel_rfl) ?_
  simp only [List.take_succ_cons, List.take_zero, List.drop_succ_cons, List.drop_zero]
  repeat (first | (refine wpStill_step (fun K hK => ?_); go_simp; refine hK _ ?_; clear hK K; try go_ints))
  refine wpStill_nil ?_
  go_wp2_with fail
  rw [rounds_succ]
  go_wp2_with fail
  refine bodyPost_ret (v := .agg #[.int .u64 b0, .int .u64 b1, .int .u64 b2, .int .u64 b3]) (by simp [results, Try.results28, go_sem]) rfl ⟨rfl, ?_⟩
  repeat (first | exact Below.refl _ _ | exact below_new _ | assumption | refine Below.drew ?_ | refine Below.drewN ?_ _ | refine below_alloc ?_ _)

set_option maxHeartbeats 1000000 in
theorem select_false (a b : Nat) (W : World) (ha : a < p2) (hb : b < p2) : Calls Try.prog 28 #[.bool false, .agg (quad a), .agg (quad b)] W fun e w' => e = .returned (.agg (quad a)) ∧ Below W.heap.size W w' := by
  obtain ⟨a0, a1, a2, a3, hq, hw4⟩ := quad_w4 a ha
  obtain ⟨h0, h1, h2, h3, h0', h1', h2', h3', _⟩ := hw4
  obtain ⟨b0, b1, b2, b3, hqb, hwb⟩ := quad_w4 b hb
  obtain ⟨g0, g1, g2, g3, g0', g1', g2', g3', _⟩ := hwb
  rw [hq, hqb]
  clear hq hqb
  go_enter Try.func28, Try.ntmps28
  go_wp2_with fail
  refine (mask_any false _).mono ?_
  rintro e w' ⟨rfl, rfl⟩
  rw [show maskN false = 0 from rfl]
  go_wp2_with fail
  refine wp_loop_rounds 5 ?_
  rw [rounds_succ]
  go_wp2_with fail
  refine still_tail 14 (by kernel_rfl) (by kernel_rfl) ?_
  simp only [List.take_succ_cons, List.take_zero, List.drop_succ_cons, List.drop_zero]
  repeat (first | (refine wpStill_step (fun K hK => ?_); go_simp; refine hK _ ?_; clear hK K; try go_ints))
  refine wpStill_nil ?_
  go_wp2_with fail
  rw [rounds_succ]
  go_wp2_with fail
  refine still_tail 14 (by kernel_rfl) (by kernel_rfl) ?_
  simp only [List.take_succ_cons, List.take_zero, List.drop_succ_cons, List.drop_zero]
  repeat (first | (refine wpStill_step (fun K hK => ?_); go_simp; refine hK _ ?_; clear hK K; try go_ints))
  refine wpStill_nil ?_
  go_wp2_with fail
  rw [rounds_succ]
  go_wp2_with fail
  refine still_tail 14 (by kernel_rfl) (by kernel_rfl) ?_
  simp only [List.take_succ_cons, List.take_zero, List.drop_succ_cons, List.drop_zero]
  repeat (first | (refine wpStill_step (fun K hK => ?_); go_simp; refine hK _ ?_; clear hK K; try go_ints))
  refine wpStill_nil ?_
  go_wp2_with fail
  rw [rounds_succ]
  go_wp2_with fail
  refine still_tail 14 (by kernel_rfl) (by kernel_rfl) ?_
  simp only [List.take_succ_cons, List.take_zero, List.drop_succ_cons, List.drop_zero]
  repeat (first | (refine wpStill_step (fun K hK => ?_); go_simp; refine hK _ ?_; clear hK K; try go_ints))
  refine wpStill_nil ?_
  go_wp2_with fail
  rw [rounds_succ]
  go_wp2_with fail
  refine bodyPost_ret (v := .agg #[.int .u64 a0, .int .u64 a1, .int .u64 a2, .int .u64 a3]) (by simp [results, Try.results28, go_sem]) rfl ⟨rfl, ?_⟩
  repeat (first | exact Below.refl _ _ | exact below_new _ | assumption | refine Below.drew ?_ | refine Below.drewN ?_ _ | refine below_alloc ?_ _)


theorem select_any (c : Bool) (a b : Nat) (W : World) (ha : a < p2) (hb : b < p2) : Calls Try.prog 28 #[.bool c, .agg (quad a), .agg (quad b)] W fun e w' => e = .returned (.agg (quad (if c then b else a))) ∧ Below W.heap.size W w' := by
  cases c
  · exact select_false a b W ha hb
  · exact select_true a b W ha hb

end Go.Proofs.Ytoaihbmicdbaiaa
