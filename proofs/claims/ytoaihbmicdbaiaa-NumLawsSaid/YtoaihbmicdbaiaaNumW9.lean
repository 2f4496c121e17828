/- The walks of the numbers: Same, Odd, Canonical, Bytes. -/
import Derived.Test.YtoaihbmicdbaiaaNumW8
import Derived.Test.YtoaihbmicdbaiaaNumW4
namespace Go.Proofs.Ytoaihbmicdbaiaa
open Go.RowKit DG
attribute [local go_sem ↓] exl_Elem exs_Elem
                 attribute [local go_sem] ldr_Elem str_Elem
attribute [local go_sem] to_quad0

theorem quad_inj {a b : Nat} (ha : a < p2) (hb : b < p2) : quad a = quad b ↔ a = b := by
  constructor
  · intro h
    unfold quad at h
    simp only [Array.mk.injEq, List.cons.injEq, Value.int.injEq, true_and, and_true] at h
    unfold p2 at *
    omega
  · rintro rfl; rfl
theorem eqlE (a b : Nat) (ha : a < p2) (hb : b < p2) (d : Nat) (w : World) : (Op.equalIn (d + 2) 24 (.agg (quad a)) (.agg (quad b))).run Try.prog w = .ok (decide (a = b)) w := by
  rw [quad_ints, quad_ints, run_equalIn_ints (n := 4) (k := .u64) Try.underlying24 (by rfl) (by kernel_rfl) d _ _ (digs_length _ _) (digs_length _ _)]
  congr 1
  rw [decide_eq_decide]
  constructor
  · intro h
    have h1 := val_digs (B := 2 ^ 64) a 4
    have h2 := val_digs (B := 2 ^ 64) b 4
    rw [h] at h1
    rw [h1, Nat.mod_eq_of_lt (a := a) (by unfold p2 at ha; omega), Nat.mod_eq_of_lt (a := b) (by unfold p2 at hb; omega)] at h2
    exact h2
  · rintro rfl; rfl
theorem pP_lt (a : Nat) : a % pP < p2 := Nat.lt_trans (Nat.mod_lt _ (by decide)) (by decide)

set_option maxHeartbeats 1000000 in
theorem same_any (a b : Nat) (W : World) (ha : a < p2) (hb : b < p2) : Calls Try.prog 20 #[.agg (quad a), .agg (quad b)] W fun e w' => e = .returned (.bool (decide (a % pP = b % pP))) ∧ Below W.heap.size W w' := by
  have h1 := hid (fun w => below_any a w ha)
  have h2 := hid (fun w => below_any b w hb)
  have he := eqlE (a % pP) (b % pP) (pP_lt a) (pP_lt b)
  generalize a % pP = x at *
  generalize b % pP = y at *
  go_enter Try.func20, Try.ntmps20
  go_wp2_with fail
  obtain ⟨w1, hw1⟩ : ∃ w1, (W.alloc (.cells (quad a) 24)).alloc (.cells (quad b) 24) = w1 := ⟨_, rfl⟩
  have kA := kept (show hget w1 (W.heap.size) = some (.cells (quad a) 24 (0, 0)) by rw [← hw1]; clear hw1; go_simp)
  have kB := kept (show hget w1 (W.heap.size + 1) = some (.cells (quad b) 24 (0, 0)) by rw [← hw1]; clear hw1; go_simp)
  have b1 : Hid (Below W.heap.size W w1) := by rw [← hw1]; repeat (first | exact Below.refl _ _ | exact below_new _ | assumption | refine Below.drew ?_ | refine Below.drewN ?_ _ | refine below_alloc ?_ _ | refine below_blk' ?_ (by omega) _)
  rw [hw1]
  clear hw1
  try clear gA lA nA mA
  try clear jA
  have jA := kA.later
  obtain ⟨gA, lA, nA, mA⟩ := kA
  try clear gB lB nB mB
  try clear jB
  have jB := kB.later
  obtain ⟨gB, lB, nB, mB⟩ := kB
  refine wp_region_later (by kernel_rfl) (by kernel_rfl) ?_
  repeat ((go_big_quiet_step ((go_at_call 36; first | with_reducible exact calls_later (h1.out _) | with_reducible exact calls_later (h2.out _)))))
  refine wpQuiet_nil ?_
  intro wL hwL
  obtain ⟨⟨w8, hL⟩, e8⟩ := hwL
  change wL = w8 at e8
  subst e8
  have b2 := hid (below_to b1.out hL)
  clear hL
  go_wp2_with fail
  go_ret
  exact ⟨rfl, b2.out⟩

theorem odd_quad (x : Nat) : (Instr.index 24 (.agg (quad x)) (.int .i64 0)).run Try.prog = fun w => .ok (.int .u64 ((x % 18446744073709551616 : Nat) : Int)) w := by
  funext w
  rw [quad_ints]
  exact idx_elem _ (digs_length _ _) 0 (by decide) w
theorem and1_lit (x : Nat) (hx : x < 18446744073709551616) : bits .and .u64 (x : Int) 1 = ((x % 2 : Nat) : Int) := by
  rw [show (1 : Int) = ((1 : Nat) : Int) from rfl, u64_and_nat _ _ hx (by decide), nat_mask1]

set_option maxHeartbeats 1000000 in
theorem odd_any (a : Nat) (W : World) (ha : a < p2) : Calls Try.prog 21 #[.agg (quad a)] W fun e w' => e = .returned (.bool (decide (a % pP % 2 = 1))) ∧ Below W.heap.size W w' := by
  have h1 := hid (fun w => below_any a w ha)
  generalize a % pP = x at *
  have hi := odd_quad x
  have hc : ((((x % 18446744073709551616 : Nat) : Int) % 2) == 1) = decide (x % 2 = 1) := by
    rw [Bool.eq_iff_iff]; simp; omega
  have ha1 := and1_lit (x % 18446744073709551616) (Nat.mod_lt _ (by decide))
  go_enter Try.func21, Try.ntmps21
  go_wp2_with fail
  refine (h1.out _).mono ?_
  rintro e w1 ⟨rfl, hb1⟩
  have b1 : Hid (Below W.heap.size W w1) := below_to (by repeat (first | exact Below.refl _ _ | exact below_new _ | assumption | refine Below.drew ?_ | refine Below.drewN ?_ _ | refine below_alloc ?_ _ | refine below_blk' ?_ (by omega) _)) hb1
  clear hb1
  go_wp2_with fail
  go_ret
  refine ⟨congrArg (fun b => Ending.returned (.bool b)) ?_, b1.out⟩
  rw [show ((x : Int) % 18446744073709551616) = ((x % 18446744073709551616 : Nat) : Int) from rfl, ha1]
  exact hc

/-- Which bytes are canonical. -/
def canB (s : ByteArray) : Bool := decide (s.size = 32 ∧ bytesNat s.data.toList < pP)
theorem bytes32_lt {s : ByteArray} (h : s.size = 32) : bytesNat s.data.toList < p2 := by
  have := bytesNat_lt s.data.toList
  rw [show s.data.toList.length = 32 by simpa using h] at this
  exact Nat.lt_of_lt_of_eq this (by decide)

set_option maxHeartbeats 1000000 in
theorem canonical_any (s : ByteArray) (W : World) (hmax : s.size ≤ 9223372036854775807) : Calls Try.prog 16 #[.string s] W fun e w' => e = .returned (.bool (canB s)) ∧ Below W.heap.size W w' := by
  have hof := hid (fun w => Of_any s w hmax)
  by_cases h32 : s.size = 32
  · rw [if_pos h32, if_pos h32] at hof
    have hlt := bytes32_lt h32
    have hcb : canB s = decide (bytesNat s.data.toList = bytesNat s.data.toList % pP) := by
      unfold canB
      rw [decide_eq_decide]
      constructor
      · rintro ⟨_, h⟩; exact (Nat.mod_eq_of_lt h).symm
      · intro h; exact ⟨h32, by rw [h]; exact Nat.mod_lt _ (by decide)⟩
    rw [hcb]
    generalize bytesNat s.data.toList = a at *
    have h1 := hid (fun w => below_any a w hlt)
    have he := eqlE a (a % pP) hlt (pP_lt a)
    generalize a % pP = x at *
    clear hcb
    go_enter Try.func16, Try.ntmps16
    go_wp2_with fail
    refine (hof.out _).mono ?_
    rintro e w1 ⟨rfl, hb1⟩
    have b1 : Hid (Below W.heap.size W w1) := below_to (by repeat (first | exact Below.refl _ _ | exact below_new _ | assumption | refine Below.drew ?_ | refine Below.drewN ?_ _ | refine below_alloc ?_ _ | refine below_blk' ?_ (by omega) _)) hb1
    clear hb1
    go_wp2_with fail
    obtain ⟨w2, hw2⟩ : ∃ w2, w1.alloc (.cells (quad a) 24) = w2 := ⟨_, rfl⟩
    have kA := kept (show hget w2 (w1.heap.size) = some (.cells (quad a) 24 (0, 0)) by rw [← hw2]; clear hw2; go_simp)
    have b2 : Hid (Below W.heap.size W w2) := by rw [← hw2]; repeat (first | exact Below.refl _ _ | exact below_new _ | exact b1.out | assumption | refine Below.drew ?_ | refine Below.drewN ?_ _ | refine below_alloc ?_ _ | refine below_blk' ?_ (by omega) _)
    rw [hw2]
    clear hw2
    try clear gA lA nA mA
    try clear jA
    have jA := kA.later
    obtain ⟨gA, lA, nA, mA⟩ := kA
    clear b1
    refine wp_region_later (by kernel_rfl) (by kernel_rfl) ?_
    repeat ((go_big_quiet_step ((go_at_call 36; with_reducible exact calls_later (h1.out _)))))
    refine wpQuiet_nil ?_
    intro wL hwL
    obtain ⟨⟨w8, hL⟩, e8⟩ := hwL
    change wL = w8 at e8
    subst e8
    have b3 := hid (below_to b2.out hL)
    clear hL
    go_wp2_with fail
    go_ret
    exact ⟨rfl, b3.out⟩
  · rw [if_neg h32, if_neg h32] at hof
    have hcb : canB s = false := by unfold canB; exact decide_eq_false (fun h => h32 h.1)
    rw [hcb]
    go_enter Try.func16, Try.ntmps16
    go_wp2_with fail
    refine (hof.out _).mono ?_
    rintro e w1 ⟨rfl, hb1⟩
    have b1 : Hid (Below W.heap.size W w1) := below_to (by repeat (first | exact Below.refl _ _ | exact below_new _ | assumption | refine Below.drew ?_ | refine Below.drewN ?_ _ | refine below_alloc ?_ _ | refine below_blk' ?_ (by omega) _)) hb1
    clear hb1
    go_wp2_with fail
    obtain ⟨w2, hw2⟩ : ∃ w2, w1.alloc (.cells (quad 0) 24) = w2 := ⟨_, rfl⟩
    have kA := kept (show hget w2 (w1.heap.size) = some (.cells (quad 0) 24 (0, 0)) by rw [← hw2]; clear hw2; go_simp)
    have b2 : Hid (Below W.heap.size W w2) := by rw [← hw2]; repeat (first | exact Below.refl _ _ | exact below_new _ | exact b1.out | assumption | refine Below.drew ?_ | refine Below.drewN ?_ _ | refine below_alloc ?_ _ | refine below_blk' ?_ (by omega) _)
    rw [hw2]
    clear hw2
    try clear gA lA nA mA
    try clear jA
    have jA := kA.later
    obtain ⟨gA, lA, nA, mA⟩ := kA
    clear b1
    refine wp_region_later (by kernel_rfl) (by kernel_rfl) ?_
    repeat ((go_big_quiet_step (fail)))
    refine wpQuiet_nil ?_
    intro wL hwL
    obtain ⟨⟨w8, hL⟩, e8⟩ := hwL
    change wL = w8 at e8
    subst e8
    have b3 := hid (below_to b2.out hL)
    clear hL
    go_wp2_with fail
    go_ret
    exact ⟨rfl, b3.out⟩

@[go_sem] theorem make32_32 (w : World) : (Instr.makeSlice 71 (.int .i64 32) (.int .i64 32)).run Try.prog w = .ok (.slice (some ⟨w.heap.size, 0, none⟩) 32 32) (w.alloc (.cells (ints .u8 (List.replicate 32 0)) 5)) := by kernel_rfl
theorem conv_string (w : World) (b off len cap : Nat) (l : List UInt8) (hl : l.length = len) (hc : ∀ j, j < len → w.cell? ⟨b, off + j, none⟩ = some (.int .u8 ((l.getD j 0).toNat : Int))) :
    (convert 71 9 (.slice (some ⟨b, off, none⟩) len cap)).run Try.prog w = .ok (.string ⟨l.toArray⟩) w := by
  have h := run_convert_bytes_arg (P := Try.prog) w 71 5 Try.underlying71 Try.underlying5 b off len cap (l.map fun c => (c.toNat : Int)) (by simpa using hl) (fun i hi => by
    rw [hc i hi]; simp [hl, hi]) 9 Try.underlying9
  rw [h]
  congr 2
  unfold strOfNums
  congr 1
  rw [List.map_map]
  congr 1
  conv => rhs; rw [← List.map_id l]
  exact List.map_congr_left fun c _ => by simp
theorem natBytes_getD (n k j : Nat) (h : j < k) : ((natBytes n k).getD j 0).toNat = (digs 256 n k).getD j 0 := by
  rw [← natBytes_map]
  have : j < (natBytes n k).length := by rw [natBytes_length]; exact h
  simp [this]
/-- A byte of a number out of its words. -/
theorem word_byte (n m : Nat) (hm : m < 32) : (digs (2 ^ 64) n 4).getD (m / 8) 0 / 2 ^ (m % 8 * 8) % 256 = (digs 256 n 32).getD m 0 := by
  rw [digs_getD n (by omega), digs_getD n hm]
  have h256 : (256 : Nat) ^ m = (2 ^ 64) ^ (m / 8) * 2 ^ (m % 8 * 8) := by
    rw [show (256 : Nat) = 2 ^ 8 from rfl, ← Nat.pow_mul, ← Nat.pow_mul, ← Nat.pow_add]; congr 1; omega
  rw [h256, ← Nat.div_div_eq_div_mul]
  generalize n / (2 ^ 64) ^ (m / 8) = q
  have h3 : (2 : Nat) ^ 64 = 2 ^ (m % 8 * 8) * (256 * 2 ^ (56 - m % 8 * 8)) := by
    rw [show (256 : Nat) = 2 ^ 8 from rfl, ← Nat.pow_add, ← Nat.pow_add]; congr 1; omega
  rw [h3, Nat.mod_mul, Nat.add_mul_div_left _ _ (Nat.two_pow_pos _), Nat.div_eq_of_lt (Nat.mod_lt _ (Nat.two_pow_pos _)), Nat.zero_add, Nat.mod_mul_right_mod]

set_option maxHeartbeats 1000000 in
theorem bytes_any (a : Nat) (W : World) (ha : a < p2) : Calls Try.prog 30 #[.agg (quad a)] W fun e w' => e = .returned (.string ⟨(natBytes (a % pP) 32).toArray⟩) ∧ Below W.heap.size W w' := by
  have h1 := hid (fun w => below_any a w ha)
  generalize a % pP = n at *
  go_enter Try.func30, Try.ntmps30
  go_wp2_with fail
  refine (h1.out _).mono ?_
  rintro e w1 ⟨rfl, hb1⟩
  have kA := Kept.on (kept (b := W.heap.size) (o := .cells (quad a) 24 (0, 0)) (by go_simp)) hb1
  have b1 : Hid (Below W.heap.size W w1) := below_to (by repeat (first | exact Below.refl _ _ | exact below_new _ | assumption | refine Below.drew ?_ | refine Below.drewN ?_ _ | refine below_alloc ?_ _ | refine below_blk' ?_ (by omega) _)) hb1
  clear hb1
  try clear gA lA nA mA
  obtain ⟨gA, lA, nA, mA⟩ := kA
  go_upto_region 4 with (fail)
  obtain ⟨N, hN⟩ : ∃ N, w1.heap.size = N := ⟨_, rfl⟩
  obtain ⟨M, hM⟩ : ∃ M, W.heap.size = M := ⟨_, rfl⟩
  obtain ⟨w2, hw2⟩ : ∃ w2, (blk w1 W.heap.size (.cells (quad n) 24 (0, 0))).alloc (.cells (ints .u8 (List.replicate 32 0)) 5) = w2 := ⟨_, rfl⟩
  have gE : w2.heap[M]? = some (.cells (ints .u64 (digs (2 ^ 64) n 4)) 24 (0, 0)) := by rw [← quad_ints, ← hw2, ← hM]; exact alloc_old (blk_heap lA)
  have gC : w2.heap[N]? = some (.cells (ints .u8 (List.replicate 32 0)) 5 (0, 0)) := by rw [← hw2, ← hN]; exact alloc_at' (by simp [blk_size]) _
  have b2 : Hid (Below W.heap.size W w2) := by rw [← hw2]; exact below_alloc (below_blk' b1.out (Nat.le_refl _) _) _
  have hMN : M < N := by rw [← hM, ← hN]; exact lA
  have HM := hid hM
  change Code.wp _ _ _ _ ((blk w1 W.heap.size (.cells (quad n) 24 (0, 0))).alloc (.cells (ints .u8 (List.replicate 32 0)) 5))
  rw [hw2, hN, hM]
  clear hw2 hN hM gA lA nA mA b1
  go_loopw [10] (fun i wr => ∃ (k : Nat) (c : List Nat), k ≤ 32 ∧ i = .int .i64 (k : Int) ∧ c.length = 32 ∧ (∀ j, j < k → c.getD j 0 = (digs 256 n 32).getD j 0) ∧
    wr.heap[M]? = some (.cells (ints .u64 (digs (2 ^ 64) n 4)) 24 (0, 0)) ∧ wr.heap[N]? = some (.cells (ints .u8 c) 5 (0, 0)) ∧ Below W.heap.size W wr) (fun i _ => (32 - intOf i).toNat)
  case atStart => exact ⟨0, List.replicate 32 0, by omega, rfl, by simp, fun j hj => absurd hj (by omega), gE, gC, b2.out⟩
  case round =>
    clear gE gC
    obtain ⟨k, c, hk, rfl, hcl, hcj, rA, rC, rb⟩ := hrel
    have HCJ := hid hcj
    have RBE := hid rb
    clear hcj rb
    by_cases hk32 : k < 32
    · have hkd : decide ((k : Int) < 32) = true := decide_eq_true (by omega)
      have hwb := word_byte n k hk32
      have ca := ints_cell rA (j := k / 8) (by rw [digs_length]; omega)
      have cc := ints_cell rC (j := k) (by rw [hcl]; exact hk32)
      have hf := free_at rC
      have hi0 : 0 ≤ (k : Int) / 8 := by omega
      have hi1 : (k : Int) / 8 < 4 := by omega
      have hi2 : ((k : Int) / 8).toNat = k / 8 := by omega
      have hi3 : (k : Int) < 32 := by omega
      generalize hxa : (digs (2 ^ 64) n 4).getD (k / 8) 0 = x at *
      have hxb : ((x : Int) / 2 ^ (k % 8 * 8) % 256) = (((digs 256 n 32).getD k 0 : Nat) : Int) := by
        rw [← hwb, Int.natCast_emod, Int.natCast_ediv, Int.natCast_pow]; rfl
      have HXB := hid hxb
      have HA := hid rA
      have HC := hid rC
      have HCL := hid hcl
      clear hxa rA rC hcl hwb hxb
      go_wp2_with fail
      rw [HXB.out]
      refine ⟨⟨k + 1, c.set k ((digs 256 n 32).getD k 0), by omega, by go_num, by simp [HCL.out], ?_, at_setCell_other HA.out (by simp; omega) _, ints_store HC.out _ _, RBE.out.setCell (by have := HM.out; simp; omega) _⟩, by simp [intOf]; omega⟩
      intro j hj
      by_cases hjk : j = k
      · subst hjk; have := HCL.out; simp [show j < c.length by omega]
      · rw [← HCJ.out j (by omega)]; simp [List.getElem?_set, Ne.symm hjk]
    · have hkd : decide ((k : Int) < 32) = false := decide_eq_false (by omega)
      have hconv := conv_string wr N 0 32 32 (natBytes n 32) (natBytes_length _ _) (fun j hj => by
        rw [Nat.zero_add, ints_cell rC (by rw [hcl]; exact hj), HCJ.out j (by omega), natBytes_getD n 32 j hj])
      have HA := hid rA
      have HC := hid rC
      clear rA rC
      go_wp2_with fail
      go_ret
      exact ⟨rfl, RBE.out⟩

end Go.Proofs.Ytoaihbmicdbaiaa
