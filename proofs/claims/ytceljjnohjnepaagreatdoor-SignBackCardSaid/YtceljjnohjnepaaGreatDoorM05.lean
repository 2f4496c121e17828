/- Bytes in memory: texts to bytes and back, a row of bytes that is appended to. The walks of the numbers: top, below. The walks of the numbers: below. The walks of the numbers: Same, Odd, Canonical, Bytes. -/
import Derived.Test.YtceljjnohjnepaaGreatDoorM04
import Derived.Test.YtceljjnohjnepaaGreatDoorM02
import Derived.Lib.ConvBytes
namespace Go.Proofs.YtceljjnohjnepaaGreatDoor
open Go.RowKit

set_option maxRecDepth 100000 in
theorem info_u8 : (Tryz.prog.info? 5).map (fun i => (i.zero, i.size, i.bytes)) = some (some (.int .u8 0), 1, 1) := by kernel_rfl

/-- Bytes as values. -/
def u8s (l : List UInt8) : List Value := l.map fun c => Value.int .u8 (c.toNat : Int)

set_option maxRecDepth 100000 in
theorem conv_string (w : World) (b off len cap : Nat) (l : List UInt8) (hl : l.length = len) (hc : ∀ j, j < len → w.cell? ⟨b, off + j, none⟩ = some (.int .u8 ((l.getD j 0).toNat : Int))) :
    (convert 32 9 (.slice (some ⟨b, off, none⟩) len cap)).run Tryz.prog w = .ok (.string ⟨l.toArray⟩) w := by
  have h := run_convert_bytes_arg (P := Tryz.prog) w 32 5 Tryz.underlying32 Tryz.underlying5 b off len cap (l.map fun c => (c.toNat : Int)) (by simpa using hl) (fun i hi => by
    rw [hc i hi]; simp [hl, hi]) 9 Tryz.underlying9
  rw [h]
  congr 2
  unfold strOfNums
  congr 1
  rw [List.map_map]
  congr 1
  conv => rhs; rw [← List.map_id l]
  exact List.map_congr_left fun c _ => by simp

set_option maxRecDepth 100000 in
theorem block_le {w : World} {base : Nat} {e : TypeId} {size : Nat} {v : Value} {n : Nat} {xs : List Value} (h : w.ownsRow base e size v n xs) {g : Nat} (hg : v.ownBlock = some g) : base ≤ g := by
  obtain ⟨_, h2⟩ := h
  rcases h2 with ⟨rfl, _⟩ | ⟨g', cap, cur, rfl, hb, _⟩
  · simp [Value.ownBlock] at hg
  · simp [Value.ownBlock] at hg; omega

set_option maxRecDepth 100000 in
@[go_sem] theorem conv_bytes (s : ByteArray) (w : World) : (convert 9 32 (.string s)).run Tryz.prog w = .ok (.slice (some ⟨w.heap.size, 0, none⟩) s.size (grownCap w s.size 0 5)) (Lib.bytesWorld w 5 s) :=
  Lib.run_convert_string_bytes w 9 32 5 s Tryz.underlying9 Tryz.underlying32 Tryz.underlying5
set_option maxRecDepth 100000 in
theorem bytesWorld_below (w : World) (e : TypeId) (s : ByteArray) : Below w.heap.size w (Lib.bytesWorld w e s) :=
  ⟨rfl, rfl, rfl, by rw [Lib.bytesWorld_size]; omega, fun k hk => Lib.bytesWorld_at_old w e s k hk⟩
/-- What is known of the bytes that are laid. -/
structure Laid (w : World) (b : Nat) (l : List UInt8) : Prop where
  ex : ∃ C T n, w.heap[b]? = some (.cells C T (n, n + 1)) ∧ l.length ≤ n ∧ ∀ j, j < l.length → C[j]? = some (.int .u8 ((l.getD j 0).toNat : Int))
set_option maxRecDepth 100000 in
theorem laid_bytes (w : World) (s : ByteArray) : Laid (Lib.bytesWorld w 5 s) w.heap.size s.data.toList := by
  refine ⟨⟨_, _, _, Lib.bytesWorld_at_new w 5 s, ?_, fun j hj => ?_⟩⟩
  · simp [Lib.bytesCells]
  · have := Lib.bytesWorld_cell w 5 s j (by simpa using hj)
    rwa [cell_at (Lib.bytesWorld_at_new w 5 s)] at this
set_option maxRecDepth 100000 in
theorem Laid.cell {w : World} {b : Nat} {l : List UInt8} (h : Laid w b l) {j : Nat} (hj : j < l.length) : w.cell? ⟨b, j, none⟩ = some (.int .u8 ((l.getD j 0).toNat : Int)) := by
  obtain ⟨C, T, n, h1, _, h3⟩ := h.ex
  rw [cell_at h1, h3 j hj]
set_option maxRecDepth 100000 in
theorem Laid.free {w : World} {b : Nat} {l : List UInt8} (h : Laid w b l) {j : Nat} (hj : j < l.length) : w.frozen? ⟨b, j, none⟩ = false := by
  obtain ⟨C, T, n, h1, h2, h3⟩ := h.ex
  simp [World.frozen?, h1]; omega
set_option maxRecDepth 100000 in
theorem Laid.set {w : World} {b : Nat} {l : List UInt8} (h : Laid w b l) (j : Nat) (x : UInt8) : Laid (w.setCell ⟨b, j, none⟩ (.int .u8 (x.toNat : Int))) b (l.set j x) := by
  obtain ⟨C, T, n, h1, h2, h3⟩ := h.ex
  refine ⟨⟨_, _, _, at_setCell h1 _ _, by simpa using h2, fun i hi => ?_⟩⟩
  rw [List.length_set] at hi
  rw [Array.getElem?_setIfInBounds]
  by_cases hij : j = i
  · subst hij
    have hlt : j < C.size := by
      have := h3 j hi
      rcases Nat.lt_or_ge j C.size with h' | h'
      · exact h'
      · simp [Array.getElem?_eq_none h'] at this
    simp [hlt, hi]
  · rw [if_neg hij, h3 i hi]; simp [hij]

set_option maxRecDepth 100000 in
theorem u8s_append (l m : List UInt8) : u8s (l ++ m) = u8s l ++ u8s m := by simp [u8s]
set_option maxRecDepth 100000 in
theorem u8s_length (l : List UInt8) : (u8s l).length = l.length := by simp [u8s]
set_option maxRecDepth 100000 in
/-- The cells of a row that is appended to. -/
theorem owns_cell {w : World} {base : Nat} {v : Value} {n : Nat} {l : List UInt8} (h : w.ownsRow base 5 1 v n (u8s l)) (hn : n = l.length) (h0 : 0 < n) :
    ∃ g cap, v = .slice (some ⟨g, 0, none⟩) n cap ∧ base ≤ g ∧ n ≤ cap ∧ (∀ j, j < n → w.cell? ⟨g, j, none⟩ = some (.int .u8 ((l.getD j 0).toNat : Int))) := by
  obtain ⟨_, h2⟩ := h
  rcases h2 with ⟨_, h0'⟩ | ⟨g, cap, cur, rfl, hg, hc, hle, _, hsz, hxs⟩
  · omega
  refine ⟨g, cap, rfl, hg, hle, fun j hj => ?_⟩
  rw [cell_at hc]
  have h3 : cur.toList[j]? = (u8s l)[j]? := by
    have h4 : (cur.toList.take (n * 1))[j]? = cur.toList[j]? := by rw [List.getElem?_take, if_pos (by omega)]
    rw [← h4, hxs]
  rw [← Array.getElem?_toList, h3]
  unfold u8s
  have hjl : j < l.length := by omega
  simp [hjl]

end Go.Proofs.YtceljjnohjnepaaGreatDoor

namespace Go.Proofs.YtceljjnohjnepaaGreatDoor
open Go.RowKit DG

set_option maxRecDepth 100000 in
theorem and63 (x : Int) (h : 0 ≤ x ∧ x < 18446744073709551616) : bits .and .u64 x 9223372036854775807 = x % 9223372036854775808 := by
  obtain ⟨n, rfl⟩ := Int.eq_ofNat_of_zero_le h.1
  rw [show (9223372036854775807 : Int) = ((9223372036854775807 : Nat) : Int) from rfl, u64_and_nat _ _ (by omega) (by decide), show (9223372036854775807 : Nat) = 2 ^ 63 - 1 from rfl, Nat.and_two_pow_sub_one_eq_mod]
  rfl
set_option maxRecDepth 100000 in
theorem top_law {n : Nat} {a0 a1 a2 a3 : Int} (h : W4 n a0 a1 a2 a3) : a3 / 9223372036854775808 = ((n / 57896044618658097711785492504343953926634992332820282019728792003956564819968 : Nat) : Int) ∧ W4 (n % 57896044618658097711785492504343953926634992332820282019728792003956564819968) a0 a1 a2 (a3 % 9223372036854775808) := by
  obtain ⟨l0, l1, l2, l3, u0, u1, u2, u3, hv⟩ := h
  refine ⟨by omega, l0, l1, l2, by omega, u0, u1, u2, by omega, by omega⟩

set_option maxRecDepth 100000 in
set_option maxHeartbeats 1000000 in
theorem top_any (a : Nat) (W : World) (ha : a < p2) :
    Calls Tryz.prog 98 #[.agg (quad a)] W fun e w' => e = .returned (.tuple #[.int .u64 ((a / 57896044618658097711785492504343953926634992332820282019728792003956564819968 : Nat) : Int), .agg (quad (a % 57896044618658097711785492504343953926634992332820282019728792003956564819968))]) ∧ Below W.heap.size W w' := by
  obtain ⟨a0, a1, a2, a3, hq, hw4⟩ := quad_w4 a ha
  have HW4 := hid (top_law hw4)
  obtain ⟨h0, h1, h2, h3, h0', h1', h2', h3', _⟩ := hw4
  rw [hq]
  clear hq
  go_enter Tryz.func98, Tryz.ntmps98
  go_wp2_with fail
  rw [and63 a3 ⟨h3, h3'⟩]
  have hz0 := Int.emod_nonneg a3 (show (9223372036854775808 : Int) ≠ 0 by decide)
  refine still_tail 3 (by kernel_rfl) (by kernel_rfl) ?_
  simp only [List.take_succ_cons, List.take_zero, List.drop_succ_cons, List.drop_zero]
  repeat (first | (refine wpStill_step (fun K hK => ?_); go_simp; refine hK _ ?_; clear hK K; try go_ints))
  refine wpStill_nil ?_
  go_wp2_with fail
  refine bodyPost_ret (v := .tuple #[.int .u64 (a3 / 9223372036854775808), .agg #[.int .u64 a0, .int .u64 a1, .int .u64 a2, .int .u64 (a3 % 9223372036854775808)]]) (by simp [results, Tryz.results98, go_sem]) rfl ?_
  obtain ⟨e1, e2⟩ := HW4.out
  exact ⟨by rw [e1, e2.quad], (below_alloc (below_new _) _).drew⟩


set_option maxRecDepth 100000 in
theorem xor_back (x y : Int) (hx : 0 ≤ x) (hx' : x < 18446744073709551616) (hy : 0 ≤ y) (hy' : y < 18446744073709551616) : bits .xor .u64 x (bits .and .u64 18446744073709551615 (bits .xor .u64 x y)) = y := by
  obtain ⟨a, rfl⟩ := Int.eq_ofNat_of_zero_le hx
  obtain ⟨b, rfl⟩ := Int.eq_ofNat_of_zero_le hy
  rw [u64_xor_nat _ _ (by omega) (by omega)]
  have hlt : a ^^^ b < 18446744073709551616 := Nat.xor_lt_two_pow (n := 64) (by omega) (by omega)
  rw [show (18446744073709551615 : Int) = ((18446744073709551615 : Nat) : Int) from rfl, u64_and_nat _ _ (by decide) hlt, Nat.and_comm, show (18446744073709551615 : Nat) = 2 ^ 64 - 1 from rfl, Nat.and_two_pow_sub_one_eq_mod, Nat.mod_eq_of_lt hlt, u64_xor_nat _ _ (by omega) hlt, ← Nat.xor_assoc, Nat.xor_self, Nat.zero_xor]
set_option maxRecDepth 100000 in
theorem xor_none (x y : Int) (hx : 0 ≤ x) (hx' : x < 18446744073709551616) (hy : 0 ≤ y) (hy' : y < 18446744073709551616) : bits .xor .u64 x (bits .and .u64 0 (bits .xor .u64 x y)) = x := by
  obtain ⟨a, rfl⟩ := Int.eq_ofNat_of_zero_le hx
  obtain ⟨b, rfl⟩ := Int.eq_ofNat_of_zero_le hy
  rw [u64_xor_nat _ _ (by omega) (by omega)]
  have hlt : a ^^^ b < 18446744073709551616 := Nat.xor_lt_two_pow (n := 64) (by omega) (by omega)
  rw [show (0 : Int) = ((0 : Nat) : Int) from rfl, u64_and_nat _ _ (by decide) hlt, Nat.zero_and, u64_xor_nat _ _ (by omega) (by decide), Nat.xor_zero]
attribute [local go_sem] xor_back xor_none


set_option maxRecDepth 100000 in
set_option maxHeartbeats 1000000 in
theorem select_true (a b : Nat) (W : World) (ha : a < p2) (hb : b < p2) : Calls Tryz.prog 90 #[.bool true, .agg (quad a), .agg (quad b)] W fun e w' => e = .returned (.agg (quad b)) ∧ Below W.heap.size W w' := by
  obtain ⟨a0, a1, a2, a3, hq, hw4⟩ := quad_w4 a ha
  obtain ⟨h0, h1, h2, h3, h0', h1', h2', h3', _⟩ := hw4
  obtain ⟨b0, b1, b2, b3, hqb, hwb⟩ := quad_w4 b hb
  obtain ⟨g0, g1, g2, g3, g0', g1', g2', g3', _⟩ := hwb
  rw [hq, hqb]
  clear hq hqb
  go_enter Tryz.func90, Tryz.ntmps90
  go_wp2_with fail
  refine (mask_any true _).mono ?_
  rintro e w' ⟨rfl, rfl⟩
  rw [show maskN true = 18446744073709551615 from rfl]
  go_wp2_with fail
  refine wp_loop_rounds 5 ?_
  rw [rounds_succ]
  go_wp2_with fail
  refine still_tail 14 (by kernel_rfl) (by kernel_rfl) ?_
  simp only [List.take_succ_cons, List.take_zero, List.drop_succ_cons, List.drop_zero]
  repeat (first | (refine wpStill_step (fun K hK => ?_); go_simp; refine hK _ ?_; clear hK K; try go_ints))
  refine wpStill_nil ?_
  go_wp2_with fail
  rw [rounds_succ]
  go_wp2_with fail
  refine still_tail 14 (by kernel_rfl) (by kernel_rfl) ?_
  simp only [List.take_succ_cons, List.take_zero, List.drop_succ_cons, List.drop_zero]
  repeat (first | (refine wpStill_step (fun K hK => ?_); go_simp; refine hK _ ?_; clear hK K; try go_ints))
  refine wpStill_nil ?_
  go_wp2_with fail
  rw [rounds_succ]
  go_wp2_with fail
  refine still_tail 14 (by kernel_rfl) (by kernel_rfl) ?_
  simp only [List.take_succ_cons, List.take_zero, List.drop_succ_cons, List.drop_zero]
  repeat (first | (refine wpStill_step (fun K hK => ?_); go_simp; refine hK _ ?_; clear hK K; try go_ints))
  refine wpStill_nil ?_
  go_wp2_with fail
  rw [rounds_succ]
  go_wp2_with fail
  refine still_tail 14 (by kernel_rfl) (by kernel_rfl) ?_
  simp only [List.take_succ_cons, List.take_zero, List.drop_succ_cons, List.drop_zero]
  repeat (first | (refine wpStill_step (fun K hK => ?_); go_simp; refine hK _ ?_; clear hK K; try go_ints))
  refine wpStill_nil ?_
  go_wp2_with fail
  rw [rounds_succ]
  go_wp2_with fail
  refine bodyPost_ret (v := .agg #[.int .u64 b0, .int .u64 b1, .int .u64 b2, .int .u64 b3]) (by simp [results, Tryz.results90, go_sem]) rfl ⟨rfl, ?_⟩
  repeat (first | exact Below.refl _ _ | exact below_new _ | assumption | refine Below.drew ?_ | refine Below.drewN ?_ _ | refine below_alloc ?_ _)

set_option maxRecDepth 100000 in
set_option maxHeartbeats 1000000 in
theorem select_false (a b : Nat) (W : World) (ha : a < p2) (hb : b < p2) : Calls Tryz.prog 90 #[.bool false, .agg (quad a), .agg (quad b)] W fun e w' => e = .returned (.agg (quad a)) ∧ Below W.heap.size W w' := by
  obtain ⟨a0, a1, a2, a3, hq, hw4⟩ := quad_w4 a ha
  obtain ⟨h0, h1, h2, h3, h0', h1', h2', h3', _⟩ := hw4
  obtain ⟨b0, b1, b2, b3, hqb, hwb⟩ := quad_w4 b hb
  obtain ⟨g0, g1, g2, g3, g0', g1', g2', g3', _⟩ := hwb
  rw [hq, hqb]
  clear hq hqb
  go_enter Tryz.func90, Tryz.ntmps90
  go_wp2_with fail
  refine (mask_any false _).mono ?_
  rintro e w' ⟨rfl, rfl⟩
  rw [show maskN false = 0 from rfl]
  go_wp2_with fail
  refine wp_loop_rounds 5 ?_
  rw [rounds_succ]
  go_wp2_with fail
  refine still_tail 14 (by kernel_rfl) (by kernel_rfl) ?_
  simp only [List.take_succ_cons, List.take_zero, List.drop_succ_cons, List.drop_zero]
  repeat (first | (refine wpStill_step (fun K hK => ?_); go_simp; refine hK _ ?_; clear hK K; try go_ints))
  refine wpStill_nil ?_
  go_wp2_with fail
  rw [rounds_succ]
  go_wp2_with fail
  refine still_tail 14 (by kernel_rfl) (by kernel_rfl) ?_
  simp only [List.take_succ_cons, List.take_zero, List.drop_succ_cons, List.drop_zero]
  repeat (first | (refine wpStill_step (fun K hK => ?_); go_simp; refine hK _ ?_; clear hK K; try go_ints))
  refine wpStill_nil ?_
  go_wp2_with fail
  rw [rounds_succ]
  go_wp2_with fail
  refine still_tail 14 (by kernel_rfl) (by kernel_rfl) ?_
  simp only [List.take_succ_cons, List.take_zero, List.drop_succ_cons, List.drop_zero]
  repeat (first | (refine wpStill_step (fun K hK => ?_); go_simp; refine hK _ ?_; clear hK K; try go_ints))
  refine wpStill_nil ?_
  go_wp2_with fail
  rw [rounds_succ]
  go_wp2_with fail
  refine still_tail 14 (by kernel_rfl) (by kernel_rfl) ?_
  simp only [List.take_succ_cons, List.take_zero, List.drop_succ_cons, List.drop_zero]
  repeat (first | (refine wpStill_step (fun K hK => ?_); go_simp; refine hK _ ?_; clear hK K; try go_ints))
  refine wpStill_nil ?_
  go_wp2_with fail
  rw [rounds_succ]
  go_wp2_with fail
  refine bodyPost_ret (v := .agg #[.int .u64 a0, .int .u64 a1, .int .u64 a2, .int .u64 a3]) (by simp [results, Tryz.results90, go_sem]) rfl ⟨rfl, ?_⟩
  repeat (first | exact Below.refl _ _ | exact below_new _ | assumption | refine Below.drew ?_ | refine Below.drewN ?_ _ | refine below_alloc ?_ _)


set_option maxRecDepth 100000 in
theorem select_any (c : Bool) (a b : Nat) (W : World) (ha : a < p2) (hb : b < p2) : Calls Tryz.prog 90 #[.bool c, .agg (quad a), .agg (quad b)] W fun e w' => e = .returned (.agg (quad (if c then b else a))) ∧ Below W.heap.size W w' := by
  cases c
  · exact select_false a b W ha hb
  · exact select_true a b W ha hb

end Go.Proofs.YtceljjnohjnepaaGreatDoor

namespace Go.Proofs.YtceljjnohjnepaaGreatDoor
open Go.RowKit DG
attribute [local go_sem ↓] exl_Elem exs_Elem exl_Num exs_Num
                 attribute [local go_sem] ldr_Elem str_Elem ldr_Num str_Num
attribute [local go_sem] to_quad0 to_nine0

set_option maxRecDepth 100000 in
set_option maxHeartbeats 1000000 in
theorem below_any (a : Nat) (W : World) (ha : a < p2) : Calls Tryz.prog 84 #[.agg (quad a)] W fun e w' => e = .returned (.agg (quad (a % pP))) ∧ Below W.heap.size W w' := by
  have h255 : a % 57896044618658097711785492504343953926634992332820282019728792003956564819968 < p2 := Nat.lt_trans (Nat.mod_lt _ (by decide)) (by decide)
  obtain ⟨q, hq⟩ : ∃ q, a / 57896044618658097711785492504343953926634992332820282019728792003956564819968 = q := ⟨_, rfl⟩
  obtain ⟨r, hr⟩ : ∃ r, a % 57896044618658097711785492504343953926634992332820282019728792003956564819968 = r := ⟨_, rfl⟩
  have hr1 : r < 57896044618658097711785492504343953926634992332820282019728792003956564819968 := by omega
  have hq1 : q ≤ 1 := by unfold p2 at ha; omega
  have hr2 : r < p2 := by unfold p2; omega
  have har : a % pP = if 57896044618658097711785492504343953926634992332820282019728792003956564819968 ≤ r + 19 * q + 19 then r + 19 * q + 19 - 57896044618658097711785492504343953926634992332820282019728792003956564819968 else r + 19 * q := by
    split <;> (unfold pP; omega)
  have ht := fun w => top_any a w ha
  simp only [hq, hr] at ht
  have hp1 := fun w => plus_any r (19 * q) w hr2 (by omega)
  simp only [show ((19 * q : Nat) : Int) = 19 * (q : Int) by omega, show plusN r (19 * q) = r + 19 * q by unfold plusN p2; omega] at hp1
  obtain ⟨s, hs⟩ : ∃ s, r + 19 * q = s := ⟨_, rfl⟩
  rw [hs] at hp1 har
  have hs1 : s < 57896044618658097711785492504343953926634992332820282019728792003956564819968 + 38 := by omega
  have hs2 : s < p2 := by unfold p2; omega
  have hp2 := fun w => plus_any s 19 w hs2 (by omega)
  simp only [show plusN s 19 = s + 19 by unfold plusN p2; omega] at hp2
  have ht2 := fun w => top_any (s + 19) w (by unfold p2; omega)
  obtain ⟨y, hy⟩ : ∃ y, (s + 19) / 57896044618658097711785492504343953926634992332820282019728792003956564819968 = y := ⟨_, rfl⟩
  obtain ⟨z, hz⟩ : ∃ z, (s + 19) % 57896044618658097711785492504343953926634992332820282019728792003956564819968 = z := ⟨_, rfl⟩
  simp only [hy, hz] at ht2
  have hy1 : y ≤ 1 := by omega
  have hz2 : z < p2 := by unfold p2; omega
  have hse := fun w => select_any ((y : Int) == 1) s z w hs2 hz2
  have hfin : (if ((y : Int) == 1) = true then z else s) = a % pP := by
    rw [har]
    by_cases h1 : y = 1
    · subst h1
      rw [if_pos (by decide), if_pos (by omega)]
      omega
    · rw [if_neg (by simp; omega), if_neg (by omega)]
  simp only [hfin] at hse
  have HT := hid ht
  have HP1 := hid hp1
  have HP2 := hid hp2
  have HT2 := hid ht2
  have HSE := hid hse
  clear ht hp1 hp2 ht2 hse hfin har hq hr hs hy hz hr1 hr2 hs1 hs2 hz2 h255 ha
  generalize a % pP = m at *
  go_enter Tryz.func84, Tryz.ntmps84
  go_wp2_with fail
  refine (HT.out _).mono ?_
  rintro e w1 ⟨rfl, hb1⟩
  have kA := Kept.on (kept (b := W.heap.size) (o := .cells (quad a) 54 (0, 0)) (by go_simp)) hb1
  have kB := Kept.on (kept (b := W.heap.size + 1) (o := .cells (quad 0) 54 (0, 0)) (by go_simp)) hb1
  have b1 : Hid (Below W.heap.size W w1) := below_to (by repeat (first | exact Below.refl _ _ | exact below_new _ | assumption | refine Below.drew ?_ | refine Below.drewN ?_ _ | refine below_alloc ?_ _ | refine below_blk' ?_ (by omega) _)) hb1
  clear hb1
  try clear gA lA nA mA
  obtain ⟨gA, lA, nA, mA⟩ := kA
  try clear gB lB nB mB
  obtain ⟨gB, lB, nB, mB⟩ := kB
  go_wp2_with fail
  refine (HP1.out _).mono ?_
  rintro e w2 ⟨rfl, hb2⟩
  have kA := Kept.on (kept (b := W.heap.size) (o := .cells (quad r) 54 (0, 0)) (by go_simp)) hb2
  have kB := Kept.on (kept (b := W.heap.size + 1) (o := .cells (quad 0) 54 (0, 0)) (by go_simp)) hb2
  have b2 : Hid (Below W.heap.size W w2) := below_to (by repeat (first | exact Below.refl _ _ | exact below_new _ | exact b1.out | assumption | refine Below.drew ?_ | refine Below.drewN ?_ _ | refine below_alloc ?_ _ | refine below_blk' ?_ (by omega) _)) hb2
  clear hb2
  try clear gA lA nA mA
  obtain ⟨gA, lA, nA, mA⟩ := kA
  try clear gB lB nB mB
  obtain ⟨gB, lB, nB, mB⟩ := kB
  clear b1
  go_wp2_with fail
  refine (HP2.out _).mono ?_
  rintro e w3 ⟨rfl, hb3⟩
  have kA := Kept.on (kept (b := W.heap.size) (o := .cells (quad s) 54 (0, 0)) (by go_simp)) hb3
  have kB := Kept.on (kept (b := W.heap.size + 1) (o := .cells (quad 0) 54 (0, 0)) (by go_simp)) hb3
  have b3 : Hid (Below W.heap.size W w3) := below_to (by repeat (first | exact Below.refl _ _ | exact below_new _ | exact b2.out | assumption | refine Below.drew ?_ | refine Below.drewN ?_ _ | refine below_alloc ?_ _ | refine below_blk' ?_ (by omega) _)) hb3
  clear hb3
  try clear gA lA nA mA
  obtain ⟨gA, lA, nA, mA⟩ := kA
  try clear gB lB nB mB
  obtain ⟨gB, lB, nB, mB⟩ := kB
  clear b2
  go_wp2_with fail
  refine (HT2.out _).mono ?_
  rintro e w4 ⟨rfl, hb4⟩
  have kA := Kept.on (kept (b := W.heap.size) (o := .cells (quad s) 54 (0, 0)) (by go_simp)) hb4
  have kB := Kept.on (kept (b := W.heap.size + 1) (o := .cells (quad 0) 54 (0, 0)) (by go_simp)) hb4
  have b4 : Hid (Below W.heap.size W w4) := below_to (by repeat (first | exact Below.refl _ _ | exact below_new _ | exact b3.out | assumption | refine Below.drew ?_ | refine Below.drewN ?_ _ | refine below_alloc ?_ _ | refine below_blk' ?_ (by omega) _)) hb4
  clear hb4
  try clear gA lA nA mA
  obtain ⟨gA, lA, nA, mA⟩ := kA
  try clear gB lB nB mB
  obtain ⟨gB, lB, nB, mB⟩ := kB
  clear b3
  go_wp2_with fail
  refine (HSE.out _).mono ?_
  rintro e w5 ⟨rfl, hb5⟩
  have kA := Kept.on (kept (b := W.heap.size) (o := .cells (quad s) 54 (0, 0)) (by go_simp)) hb5
  have kB := Kept.on (kept (b := W.heap.size + 1) (o := .cells (quad 0) 54 (0, 0)) (by go_simp)) hb5
  have b5 : Hid (Below W.heap.size W w5) := below_to (by repeat (first | exact Below.refl _ _ | exact below_new _ | exact b4.out | assumption | refine Below.drew ?_ | refine Below.drewN ?_ _ | refine below_alloc ?_ _ | refine below_blk' ?_ (by omega) _)) hb5
  clear hb5
  try clear gA lA nA mA
  obtain ⟨gA, lA, nA, mA⟩ := kA
  try clear gB lB nB mB
  obtain ⟨gB, lB, nB, mB⟩ := kB
  clear b4
  go_wp2_with fail
  refine bodyPost_ret (v := .agg (quad m)) (results_cell_row Tryz.results84 _ _ (W.heap.size + 1) 54 (quad m) (0, 0) _ (by rfl) (by rw [← hget_eq]; go_simp) Tryz.underlying54 rfl (by rw [info_Elem]; go_simp)) rfl ?_
  exact ⟨rfl, by repeat (first | exact Below.refl _ _ | exact below_new _ | exact b5.out | assumption | refine Below.drew ?_ | refine Below.drewN ?_ _ | refine below_alloc ?_ _ | refine below_blk' ?_ (by omega) _)⟩

end Go.Proofs.YtceljjnohjnepaaGreatDoor

namespace Go.Proofs.YtceljjnohjnepaaGreatDoor
open Go.RowKit DG
attribute [local go_sem ↓] exl_Elem exs_Elem
                 attribute [local go_sem] ldr_Elem str_Elem
attribute [local go_sem] to_quad0

set_option maxRecDepth 100000 in
theorem quad_inj {a b : Nat} (ha : a < p2) (hb : b < p2) : quad a = quad b ↔ a = b := by
  constructor
  · intro h
    unfold quad at h
    simp only [Array.mk.injEq, List.cons.injEq, Value.int.injEq, true_and, and_true] at h
    unfold p2 at *
    omega
  · rintro rfl; rfl
set_option maxRecDepth 100000 in
theorem eqlE (a b : Nat) (ha : a < p2) (hb : b < p2) (d : Nat) (w : World) : (Op.equalIn (d + 2) 54 (.agg (quad a)) (.agg (quad b))).run Tryz.prog w = .ok (decide (a = b)) w := by
  rw [quad_ints, quad_ints, run_equalIn_ints (n := 4) (k := .u64) Tryz.underlying54 (by rfl) (by kernel_rfl) d _ _ (digs_length _ _) (digs_length _ _)]
  congr 1
  rw [decide_eq_decide]
  constructor
  · intro h
    have h1 := val_digs (B := 2 ^ 64) a 4
    have h2 := val_digs (B := 2 ^ 64) b 4
    rw [h] at h1
    rw [h1, Nat.mod_eq_of_lt (a := a) (by unfold p2 at ha; omega), Nat.mod_eq_of_lt (a := b) (by unfold p2 at hb; omega)] at h2
    exact h2
  · rintro rfl; rfl
set_option maxRecDepth 100000 in
theorem pP_lt (a : Nat) : a % pP < p2 := Nat.lt_trans (Nat.mod_lt _ (by decide)) (by decide)

set_option maxRecDepth 100000 in
set_option maxHeartbeats 1000000 in
theorem same_any (a b : Nat) (W : World) (ha : a < p2) (hb : b < p2) : Calls Tryz.prog 69 #[.agg (quad a), .agg (quad b)] W fun e w' => e = .returned (.bool (decide (a % pP = b % pP))) ∧ Below W.heap.size W w' := by
  have h1 := hid (fun w => below_any a w ha)
  have h2 := hid (fun w => below_any b w hb)
  have he := eqlE (a % pP) (b % pP) (pP_lt a) (pP_lt b)
  generalize a % pP = x at *
  generalize b % pP = y at *
  go_enter Tryz.func69, Tryz.ntmps69
  go_wp2_with fail
  obtain ⟨w1, hw1⟩ : ∃ w1, (W.alloc (.cells (quad a) 54)).alloc (.cells (quad b) 54) = w1 := ⟨_, rfl⟩
  have kA := kept (show hget w1 (W.heap.size) = some (.cells (quad a) 54 (0, 0)) by rw [← hw1]; clear hw1; go_simp)
  have kB := kept (show hget w1 (W.heap.size + 1) = some (.cells (quad b) 54 (0, 0)) by rw [← hw1]; clear hw1; go_simp)
  have b1 : Hid (Below W.heap.size W w1) := by rw [← hw1]; repeat (first | exact Below.refl _ _ | exact below_new _ | assumption | refine Below.drew ?_ | refine Below.drewN ?_ _ | refine below_alloc ?_ _ | refine below_blk' ?_ (by omega) _)
  rw [hw1]
  clear hw1
  try clear gA lA nA mA
  try clear jA
  have jA := kA.later
  obtain ⟨gA, lA, nA, mA⟩ := kA
  try clear gB lB nB mB
  try clear jB
  have jB := kB.later
  obtain ⟨gB, lB, nB, mB⟩ := kB
  refine wp_region_later (by kernel_rfl) (by kernel_rfl) ?_
  repeat ((go_big_quiet_step ((go_at_call 84; first | with_reducible exact calls_later (h1.out _) | with_reducible exact calls_later (h2.out _)))))
  refine wpQuiet_nil ?_
  intro wL hwL
  obtain ⟨⟨w8, hL⟩, e8⟩ := hwL
  change wL = w8 at e8
  subst e8
  have b2 := hid (below_to b1.out hL)
  clear hL
  go_wp2_with fail
  go_ret
  exact ⟨rfl, b2.out⟩

set_option maxRecDepth 100000 in
theorem odd_quad (x : Nat) : (Instr.index 54 (.agg (quad x)) (.int .i64 0)).run Tryz.prog = fun w => .ok (.int .u64 ((x % 18446744073709551616 : Nat) : Int)) w := by
  funext w
  rw [quad_ints]
  exact idx_elem _ (digs_length _ _) 0 (by decide) w
set_option maxRecDepth 100000 in
theorem and1_lit (x : Nat) (hx : x < 18446744073709551616) : bits .and .u64 (x : Int) 1 = ((x % 2 : Nat) : Int) := by
  rw [show (1 : Int) = ((1 : Nat) : Int) from rfl, u64_and_nat _ _ hx (by decide), nat_mask1]

set_option maxRecDepth 100000 in
set_option maxHeartbeats 1000000 in
theorem odd_any (a : Nat) (W : World) (ha : a < p2) : Calls Tryz.prog 50 #[.agg (quad a)] W fun e w' => e = .returned (.bool (decide (a % pP % 2 = 1))) ∧ Below W.heap.size W w' := by
  have h1 := hid (fun w => below_any a w ha)
  generalize a % pP = x at *
  have hi := odd_quad x
  have hc : ((((x % 18446744073709551616 : Nat) : Int) % 2) == 1) = decide (x % 2 = 1) := by
    rw [Bool.eq_iff_iff]; simp; omega
  have ha1 := and1_lit (x % 18446744073709551616) (Nat.mod_lt _ (by decide))
  go_enter Tryz.func50, Tryz.ntmps50
  go_wp2_with fail
  refine (h1.out _).mono ?_
  rintro e w1 ⟨rfl, hb1⟩
  have b1 : Hid (Below W.heap.size W w1) := below_to (by repeat (first | exact Below.refl _ _ | exact below_new _ | assumption | refine Below.drew ?_ | refine Below.drewN ?_ _ | refine below_alloc ?_ _ | refine below_blk' ?_ (by omega) _)) hb1
  clear hb1
  go_wp2_with fail
  go_ret
  refine ⟨congrArg (fun b => Ending.returned (.bool b)) ?_, b1.out⟩
  rw [show ((x : Int) % 18446744073709551616) = ((x % 18446744073709551616 : Nat) : Int) from rfl, ha1]
  exact hc

/-- Which bytes are canonical. -/
def canB (s : ByteArray) : Bool := decide (s.size = 32 ∧ bytesNat s.data.toList < pP)
set_option maxRecDepth 100000 in
theorem bytes32_lt {s : ByteArray} (h : s.size = 32) : bytesNat s.data.toList < p2 := by
  have := bytesNat_lt s.data.toList
  rw [show s.data.toList.length = 32 by simpa using h] at this
  exact Nat.lt_of_lt_of_eq this (by decide)

set_option maxRecDepth 100000 in
set_option maxHeartbeats 1000000 in
theorem canonical_any (s : ByteArray) (W : World) (hmax : s.size ≤ 9223372036854775807) : Calls Tryz.prog 65 #[.string s] W fun e w' => e = .returned (.bool (canB s)) ∧ Below W.heap.size W w' := by
  have hof := hid (fun w => Of_any s w hmax)
  by_cases h32 : s.size = 32
  · rw [if_pos h32, if_pos h32] at hof
    have hlt := bytes32_lt h32
    have hcb : canB s = decide (bytesNat s.data.toList = bytesNat s.data.toList % pP) := by
      unfold canB
      rw [decide_eq_decide]
      constructor
      · rintro ⟨_, h⟩; exact (Nat.mod_eq_of_lt h).symm
      · intro h; exact ⟨h32, by rw [h]; exact Nat.mod_lt _ (by decide)⟩
    rw [hcb]
    generalize bytesNat s.data.toList = a at *
    have h1 := hid (fun w => below_any a w hlt)
    have he := eqlE a (a % pP) hlt (pP_lt a)
    generalize a % pP = x at *
    clear hcb
    go_enter Tryz.func65, Tryz.ntmps65
    go_wp2_with fail
    refine (hof.out _).mono ?_
    rintro e w1 ⟨rfl, hb1⟩
    have b1 : Hid (Below W.heap.size W w1) := below_to (by repeat (first | exact Below.refl _ _ | exact below_new _ | assumption | refine Below.drew ?_ | refine Below.drewN ?_ _ | refine below_alloc ?_ _ | refine below_blk' ?_ (by omega) _)) hb1
    clear hb1
    go_wp2_with fail
    obtain ⟨w2, hw2⟩ : ∃ w2, w1.alloc (.cells (quad a) 54) = w2 := ⟨_, rfl⟩
    have kA := kept (show hget w2 (w1.heap.size) = some (.cells (quad a) 54 (0, 0)) by rw [← hw2]; clear hw2; go_simp)
    have b2 : Hid (Below W.heap.size W w2) := by rw [← hw2]; repeat (first | exact Below.refl _ _ | exact below_new _ | exact b1.out | assumption | refine Below.drew ?_ | refine Below.drewN ?_ _ | refine below_alloc ?_ _ | refine below_blk' ?_ (by omega) _)
    rw [hw2]
    clear hw2
    try clear gA lA nA mA
    try clear jA
    have jA := kA.later
    obtain ⟨gA, lA, nA, mA⟩ := kA
    clear b1
    refine wp_region_later (by kernel_rfl) (by kernel_rfl) ?_
    repeat ((go_big_quiet_step ((go_at_call 84; with_reducible exact calls_later (h1.out _)))))
    refine wpQuiet_nil ?_
    intro wL hwL
    obtain ⟨⟨w8, hL⟩, e8⟩ := hwL
    change wL = w8 at e8
    subst e8
    have b3 := hid (below_to b2.out hL)
    clear hL
    go_wp2_with fail
    go_ret
    exact ⟨rfl, b3.out⟩
  · rw [if_neg h32, if_neg h32] at hof
    have hcb : canB s = false := by unfold canB; exact decide_eq_false (fun h => h32 h.1)
    rw [hcb]
    go_enter Tryz.func65, Tryz.ntmps65
    go_wp2_with fail
    refine (hof.out _).mono ?_
    rintro e w1 ⟨rfl, hb1⟩
    have b1 : Hid (Below W.heap.size W w1) := below_to (by repeat (first | exact Below.refl _ _ | exact below_new _ | assumption | refine Below.drew ?_ | refine Below.drewN ?_ _ | refine below_alloc ?_ _ | refine below_blk' ?_ (by omega) _)) hb1
    clear hb1
    go_wp2_with fail
    obtain ⟨w2, hw2⟩ : ∃ w2, w1.alloc (.cells (quad 0) 54) = w2 := ⟨_, rfl⟩
    have kA := kept (show hget w2 (w1.heap.size) = some (.cells (quad 0) 54 (0, 0)) by rw [← hw2]; clear hw2; go_simp)
    have b2 : Hid (Below W.heap.size W w2) := by rw [← hw2]; repeat (first | exact Below.refl _ _ | exact below_new _ | exact b1.out | assumption | refine Below.drew ?_ | refine Below.drewN ?_ _ | refine below_alloc ?_ _ | refine below_blk' ?_ (by omega) _)
    rw [hw2]
    clear hw2
    try clear gA lA nA mA
    try clear jA
    have jA := kA.later
    obtain ⟨gA, lA, nA, mA⟩ := kA
    clear b1
    refine wp_region_later (by kernel_rfl) (by kernel_rfl) ?_
    repeat ((go_big_quiet_step (fail)))
    refine wpQuiet_nil ?_
    intro wL hwL
    obtain ⟨⟨w8, hL⟩, e8⟩ := hwL
    change wL = w8 at e8
    subst e8
    have b3 := hid (below_to b2.out hL)
    clear hL
    go_wp2_with fail
    go_ret
    exact ⟨rfl, b3.out⟩

set_option maxRecDepth 100000 in
@[go_sem] theorem make32_32 (w : World) : (Instr.makeSlice 32 (.int .i64 32) (.int .i64 32)).run Tryz.prog w = .ok (.slice (some ⟨w.heap.size, 0, none⟩) 32 32) (w.alloc (.cells (ints .u8 (List.replicate 32 0)) 5)) := by kernel_rfl
set_option maxRecDepth 100000 in
theorem natBytes_getD (n k j : Nat) (h : j < k) : ((natBytes n k).getD j 0).toNat = (digs 256 n k).getD j 0 := by
  rw [← natBytes_map]
  have : j < (natBytes n k).length := by rw [natBytes_length]; exact h
  simp [this]
set_option maxRecDepth 100000 in
/-- A byte of a number out of its words. -/
theorem word_byte (n m : Nat) (hm : m < 32) : (digs (2 ^ 64) n 4).getD (m / 8) 0 / 2 ^ (m % 8 * 8) % 256 = (digs 256 n 32).getD m 0 := by
  rw [digs_getD n (by omega), digs_getD n hm]
  have h256 : (256 : Nat) ^ m = (2 ^ 64) ^ (m / 8) * 2 ^ (m % 8 * 8) := by
    rw [show (256 : Nat) = 2 ^ 8 from rfl, ← Nat.pow_mul, ← Nat.pow_mul, ← Nat.pow_add]; congr 1; omega
  rw [h256, ← Nat.div_div_eq_div_mul]
  generalize n / (2 ^ 64) ^ (m / 8) = q
  have h3 : (2 : Nat) ^ 64 = 2 ^ (m % 8 * 8) * (256 * 2 ^ (56 - m % 8 * 8)) := by
    rw [show (256 : Nat) = 2 ^ 8 from rfl, ← Nat.pow_add, ← Nat.pow_add]; congr 1; omega
  rw [h3, Nat.mod_mul, Nat.add_mul_div_left _ _ (Nat.two_pow_pos _), Nat.div_eq_of_lt (Nat.mod_lt _ (Nat.two_pow_pos _)), Nat.zero_add, Nat.mod_mul_right_mod]

set_option maxRecDepth 100000 in
set_option maxHeartbeats 1000000 in
theorem bytes_any (a : Nat) (W : World) (ha : a < p2) : Calls Tryz.prog 49 #[.agg (quad a)] W fun e w' => e = .returned (.string ⟨(natBytes (a % pP) 32).toArray⟩) ∧ Below W.heap.size W w' := by
  have h1 := hid (fun w => below_any a w ha)
  generalize a % pP = n at *
  go_enter Tryz.func49, Tryz.ntmps49
  go_wp2_with fail
  refine (h1.out _).mono ?_
  rintro e w1 ⟨rfl, hb1⟩
  have kA := Kept.on (kept (b := W.heap.size) (o := .cells (quad a) 54 (0, 0)) (by go_simp)) hb1
  have b1 : Hid (Below W.heap.size W w1) := below_to (by repeat (first | exact Below.refl _ _ | exact below_new _ | assumption | refine Below.drew ?_ | refine Below.drewN ?_ _ | refine below_alloc ?_ _ | refine below_blk' ?_ (by omega) _)) hb1
  clear hb1
  try clear gA lA nA mA
  obtain ⟨gA, lA, nA, mA⟩ := kA
  go_upto_region 4 with (fail)
  obtain ⟨N, hN⟩ : ∃ N, w1.heap.size = N := ⟨_, rfl⟩
  obtain ⟨M, hM⟩ : ∃ M, W.heap.size = M := ⟨_, rfl⟩
  obtain ⟨w2, hw2⟩ : ∃ w2, (blk w1 W.heap.size (.cells (quad n) 54 (0, 0))).alloc (.cells (ints .u8 (List.replicate 32 0)) 5) = w2 := ⟨_, rfl⟩
  have gE : w2.heap[M]? = some (.cells (ints .u64 (digs (2 ^ 64) n 4)) 54 (0, 0)) := by rw [← quad_ints, ← hw2, ← hM]; exact alloc_old (blk_heap lA)
  have gC : w2.heap[N]? = some (.cells (ints .u8 (List.replicate 32 0)) 5 (0, 0)) := by rw [← hw2, ← hN]; exact alloc_at' (by simp [blk_size]) _
  have b2 : Hid (Below W.heap.size W w2) := by rw [← hw2]; exact below_alloc (below_blk' b1.out (Nat.le_refl _) _) _
  have hMN : M < N := by rw [← hM, ← hN]; exact lA
  have HM := hid hM
  change Code.wp _ _ _ _ ((blk w1 W.heap.size (.cells (quad n) 54 (0, 0))).alloc (.cells (ints .u8 (List.replicate 32 0)) 5))
  rw [hw2, hN, hM]
  clear hw2 hN hM gA lA nA mA b1
  go_loopw [10] (fun i wr => ∃ (k : Nat) (c : List Nat), k ≤ 32 ∧ i = .int .i64 (k : Int) ∧ c.length = 32 ∧ (∀ j, j < k → c.getD j 0 = (digs 256 n 32).getD j 0) ∧
    wr.heap[M]? = some (.cells (ints .u64 (digs (2 ^ 64) n 4)) 54 (0, 0)) ∧ wr.heap[N]? = some (.cells (ints .u8 c) 5 (0, 0)) ∧ Below W.heap.size W wr) (fun i _ => (32 - intOf i).toNat)
  case atStart => exact ⟨0, List.replicate 32 0, by omega, rfl, by simp, fun j hj => absurd hj (by omega), gE, gC, b2.out⟩
  case round =>
    clear gE gC
    obtain ⟨k, c, hk, rfl, hcl, hcj, rA, rC, rb⟩ := hrel
    have HCJ := hid hcj
    have RBE := hid rb
    clear hcj rb
    by_cases hk32 : k < 32
    · have hkd : decide ((k : Int) < 32) = true := decide_eq_true (by omega)
      have hwb := word_byte n k hk32
      have ca := ints_cell rA (j := k / 8) (by rw [digs_length]; omega)
      have cc := ints_cell rC (j := k) (by rw [hcl]; exact hk32)
      have hf := free_at rC
      have hi0 : 0 ≤ (k : Int) / 8 := by omega
      have hi1 : (k : Int) / 8 < 4 := by omega
      have hi2 : ((k : Int) / 8).toNat = k / 8 := by omega
      have hi3 : (k : Int) < 32 := by omega
      generalize hxa : (digs (2 ^ 64) n 4).getD (k / 8) 0 = x at *
      have hxb : ((x : Int) / 2 ^ (k % 8 * 8) % 256) = (((digs 256 n 32).getD k 0 : Nat) : Int) := by
        rw [← hwb, Int.natCast_emod, Int.natCast_ediv, Int.natCast_pow]; rfl
      have HXB := hid hxb
      have HA := hid rA
      have HC := hid rC
      have HCL := hid hcl
      clear hxa rA rC hcl hwb hxb
      go_wp2_with fail
      rw [HXB.out]
      refine ⟨⟨k + 1, c.set k ((digs 256 n 32).getD k 0), by omega, by go_num, by simp [HCL.out], ?_, at_setCell_other HA.out (by simp; omega) _, ints_store HC.out _ _, RBE.out.setCell (by have := HM.out; simp; omega) _⟩, by simp [intOf]; omega⟩
      intro j hj
      by_cases hjk : j = k
      · subst hjk; have := HCL.out; simp [show j < c.length by omega]
      · rw [← HCJ.out j (by omega)]; simp [Ne.symm hjk]
    · have hkd : decide ((k : Int) < 32) = false := decide_eq_false (by omega)
      have hconv := conv_string wr N 0 32 32 (natBytes n 32) (natBytes_length _ _) (fun j hj => by
        rw [Nat.zero_add, ints_cell rC (by rw [hcl]; exact hj), HCJ.out j (by omega), natBytes_getD n 32 j hj])
      have HA := hid rA
      have HC := hid rC
      clear rA rC
      go_wp2_with fail
      go_ret
      exact ⟨rfl, RBE.out⟩

end Go.Proofs.YtceljjnohjnepaaGreatDoor
