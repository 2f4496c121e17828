/- The walks of the document's numbers: Bytes, Canonical, power, Inv, Root. The walk of the numbers' Mul. -/
import Derived.Test.YtceljjnohjnepaaGreatDoorM04
import Derived.Test.YtceljjnohjnepaaGreatDoorM05
namespace Go.Proofs.YtceljjnohjnepaaGreatDoor
open Go.RowKit DG
attribute [local go_sem ↓] exl_Num exs_Num
                 attribute [local go_sem] ldr_Num str_Num
attribute [local go_sem] to_nine0

set_option maxRecDepth 100000 in
theorem or_bit8 (d r b : Nat) (hd : d < 2 ^ r) (hr : r < 8) (hb : b < 2) : bits .or .u8 (d : Int) ((b : Int) * (2 : Int) ^ r % 256) = ((d + b * 2 ^ r : Nat) : Int) := by
  have h1 : 2 ^ (r + 1) ≤ 2 ^ 8 := Nat.pow_le_pow_right (by decide) (by omega)
  have h2 : b * 2 ^ r ≤ 1 * 2 ^ r := Nat.mul_le_mul_right _ (by omega)
  rw [Nat.pow_succ] at h1
  have e : (b : Int) * (2 : Int) ^ r = ((b * 2 ^ r : Nat) : Int) := by rw [Int.natCast_mul, Int.natCast_pow]; rfl
  have hw : (((b * 2 ^ r : Nat) : Int)) % 256 = ((b * 2 ^ r : Nat) : Int) := by omega
  rw [e, hw, u8_or_nat _ _ (by omega) (by omega), Nat.or_comm, nat_join r _ _ (Nat.mul_mod_left _ _) hd, Nat.add_comm]

set_option maxRecDepth 100000 in
set_option maxHeartbeats 1000000 in
theorem ref_Bytes (n : Nat) (W : World) (hn : n < 57896044618658097711785492504343953926634992332820282019728792003956564819968) :
    Calls Tryz.prog 45 #[.agg (nine n)] W fun e w' => e = .returned (.string ⟨(natBytes n 32).toArray⟩) ∧ Below W.heap.size W w' := by
  have hv := val_nine (v := n) (by omega)
  have hall := digs_all (B := B30) (by decide) n 9
  have hl9 := digs_length (B := B30) n 9
  unfold nine
  obtain ⟨c, hc⟩ : ∃ c, digs B30 n 9 = c := ⟨_, rfl⟩
  rw [hc] at hv hall hl9 ⊢
  have hsc : (ints .u64 c).size = 9 := by rw [ints_size, hl9]
  have HV := hid hv
  have HL := hid hl9
  clear hc hv hl9
  go_enter Tryz.func45, Tryz.ntmps45
  go_wp2_with fail
  obtain ⟨N, hN⟩ : ∃ N, N = W.heap.size := ⟨_, rfl⟩
  rw [← hN]
  have HN := hid hN
  go_loopw [4] (fun i wr => ∃ k : Nat, k ≤ 256 ∧ i = .int .i64 (k : Int) ∧ wr.heap[N]? = some (.cells (ints .u64 c) 48 (0, 0)) ∧ wr.heap[N + 1]? = some (.cells (ints .u8 (digs 256 (n % 2 ^ k) 32)) 5 (0, 0)) ∧ Below W.heap.size W wr) (fun i _ => (256 - intOf i).toNat)
  case atStart => exact ⟨0, by omega, rfl, alloc_old (alloc_at' hN _), by rw [Nat.pow_zero, Nat.mod_one]; exact alloc_at' (by simp [hN]) _, below_alloc (below_new _) _⟩
  case round =>
    clear hN
    obtain ⟨k, hk, rfl, rA, rC, rb⟩ := hrel
    have RBE := hid rb
    clear rb
    by_cases hkl : k < 256
    · have hkd : decide ((k : Int) < 256) = true := decide_eq_true (by omega)
      have hi0 : 0 ≤ (k : Int) / 8 := by omega
      have hi1 : (k : Int) / 8 < 32 := by omega
      have hi2 : ((k : Int) / 8).toNat = k / 8 := by omega
      have hj0 : 0 ≤ (k : Int) / 30 := by omega
      have hj1 : (k : Int) / 30 < 9 := by omega
      have hj2 : ((k : Int) / 30).toNat = k / 30 := by omega
      have ca := ints_cell rA (j := k / 30) (by rw [HL.out]; omega)
      have hx1 : c.getD (k / 30) 0 < 1073741824 := hall.getD (by rw [HL.out]; omega)
      have hbit := bit_digit (w := 30) (l := c) hall k (by decide) (by rw [HL.out]; omega)
      rw [← B30_pow, HV.out] at hbit
      obtain ⟨x, hx⟩ : ∃ x, c.getD (k / 30) 0 = x := ⟨_, rfl⟩
      rw [hx] at ca hx1 hbit
      have hand := and1_shr x (k % 30) (by omega)
      rw [← hbit] at hand
      obtain ⟨bit, hbt⟩ : ∃ bit, n / 2 ^ k % 2 = bit := ⟨_, rfl⟩
      have hb1 : bit < 2 := by omega
      have hmb := mod_bit n k
      rw [hbt] at hand hmb
      obtain ⟨hst, hglt⟩ := bit_step (w := 8) (n := n % 2 ^ k) (b := bit) (k := k) (m := 32) (by decide) (Nat.mod_lt _ (Nat.two_pow_pos _)) hb1 (by omega)
      rw [← hmb, show (2 : Nat) ^ 8 = 256 from rfl] at hst
      rw [show (2 : Nat) ^ 8 = 256 from rfl] at hglt
      have cj := ints_cell rC (j := k / 8) (by rw [digs_length]; omega)
      have hf := free_at rC
      obtain ⟨o, ho⟩ : ∃ o, digs 256 (n % 2 ^ k) 32 = o := ⟨_, rfl⟩
      obtain ⟨d, hd⟩ : ∃ d, o.getD (k / 8) 0 = d := ⟨_, rfl⟩
      rw [ho] at hst hglt rC cj
      rw [hd] at hst hglt cj
      have HST := hid hst
      have RA := hid rA
      have RC := hid rC
      have hor := or_bit8 d (k % 8) bit hglt (Nat.mod_lt _ (by decide)) hb1
      clear hbt hbit hmb hst hx ho hd rC rA
      go_wp2_with fail
      refine still_tail 24 (by kernel_rfl) (by kernel_rfl) ?_
      simp only [List.take_succ_cons, List.take_zero, List.drop_succ_cons, List.drop_zero]
      repeat (first | (refine wpStill_step (fun K hK => ?_); go_simp; refine hK _ ?_; clear hK K; try go_ints))
      refine wpStill_nil ?_
      go_wp2_with fail
      refine ⟨⟨k + 1, by omega, by go_num, at_setCell_other RA.out (by simp) _, ?_, (RBE.out.setCell (by have := HN.out; simp; omega) _).drew⟩, by simp [intOf]; omega⟩
      rw [HST.out]
      have e1 : (d : Int) + (bit : Int) * (2 : Int) ^ (k % 8) = ((d + bit * 2 ^ (k % 8) : Nat) : Int) := by rw [Int.natCast_add, Int.natCast_mul, Int.natCast_pow]; rfl
      rw [e1]
      exact ints_store RC.out _ _
    · have hkd : decide ((k : Int) < 256) = false := decide_eq_false (by omega)
      have hk5 : k = 256 := by omega
      rw [hk5, Nat.mod_eq_of_lt (by omega)] at rC
      have hconv := conv_string wr (N + 1) 0 32 32 (natBytes n 32) (natBytes_length _ _) (fun j hj => by
        rw [Nat.zero_add, ints_cell rC (by rw [digs_length]; exact hj), natBytes_getD n 32 j hj])
      have HA := hid rA
      have HC := hid rC
      clear rA rC hk5
      go_wp2_with fail
      go_ret
      exact ⟨rfl, RBE.out⟩

set_option maxRecDepth 100000 in
set_option maxHeartbeats 1000000 in
theorem ref_Canonical (s : ByteArray) (W : World) (_hmax : s.size ≤ 9223372036854775807) : Calls Tryz.prog 70 #[.string s] W fun e w' => e = .returned (.bool (canB s)) ∧ Below W.heap.size W w' := by
  by_cases h32 : s.size = 32
  · have hs2 : ((s.size : Int) == 32) = true := by rw [beq_iff_eq]; omega
    have hrd := hid (fun w => ref_Read s w (by omega))
    have hlt := bytes32_lt h32
    have hl2 : bytesNat s.data.toList < 1897137590064188545819787018382342682267975428761855001222473056385648716020711424 := Nat.lt_trans hlt (by decide)
    have hle := ref_less (digs B30 (bytesNat s.data.toList) 9) (digs B30 pP 9)
    have hc : canB s = decide (bytesNat s.data.toList < pP) := by unfold canB; rw [decide_eq_decide]; exact ⟨fun h => h.2, fun h => ⟨h32, h⟩⟩
    rw [hc]
    have hl3 := fun w => hle w (digs_all (by decide) _ _) (digs_all (by decide) _ _) (digs_length _ _) (digs_length _ _)
    simp only [val_nine hl2, val_nine (v := pP) (by decide)] at hl3
    have HLE := hid (fun w => (hl3 w : Calls Tryz.prog 92 #[.agg (nine (bytesNat s.data.toList)), .agg (nine pP)] w _))
    have HPR := hid (fun w => ref_Prime w)
    generalize bytesNat s.data.toList = n at *
    clear hc hle hl3 h32 hlt hl2
    go_enter Tryz.func70, Tryz.ntmps70
    go_wp2_with fail
    refine (hrd.out _).mono ?_
    rintro e w1 ⟨rfl, hb1⟩
    have b1 : Hid (Below W.heap.size W w1) := below_to (by repeat (first | exact Below.refl _ _ | exact below_new _ | assumption | refine Below.drew ?_ | refine Below.drewN ?_ _ | refine below_alloc ?_ _ | refine below_blk' ?_ (by omega) _)) hb1
    clear hb1
    go_wp2_with fail
    refine (HPR.out _).mono ?_
    rintro e w2 ⟨rfl, hb2⟩
    have b2 : Hid (Below W.heap.size W w2) := below_to (by repeat (first | exact Below.refl _ _ | exact below_new _ | exact b1.out | assumption | refine Below.drew ?_ | refine Below.drewN ?_ _ | refine below_alloc ?_ _ | refine below_blk' ?_ (by omega) _)) hb2
    clear hb2
    clear b1
    go_wp2_with fail
    refine (HLE.out _).mono ?_
    rintro e w3 ⟨rfl, hb3⟩
    have b3 : Hid (Below W.heap.size W w3) := below_to (by repeat (first | exact Below.refl _ _ | exact below_new _ | exact b2.out | assumption | refine Below.drew ?_ | refine Below.drewN ?_ _ | refine below_alloc ?_ _ | refine below_blk' ?_ (by omega) _)) hb3
    clear hb3
    clear b2
    go_wp2_with fail
    go_ret
    exact ⟨rfl, b3.out⟩
  · have hcan : canB s = false := by unfold canB; exact decide_eq_false (fun h => h32 h.1)
    rw [hcan]
    have hs2 : ((s.size : Int) == 32) = false := by rw [beq_eq_false_iff_ne]; omega
    clear hcan h32
    go_enter Tryz.func70, Tryz.ntmps70
    go_wp2_with fail
    go_ret
    exact ⟨rfl, Below.refl _ _⟩

/-- A power of so many ones, modulo the prime; and of the bits of a text. -/
def rOnes (a : Nat) : Nat → Nat
  | 0 => 1
  | k + 1 => (rOnes a k * rOnes a k % pP) * a % pP
def rBits (a x : Nat) (l : List UInt8) : Nat → Nat
  | 0 => x
  | k + 1 => if (((l.getD k 0).toNat : Int) == 49) = true then (rBits a x l k * rBits a x l k % pP) * a % pP else rBits a x l k * rBits a x l k % pP
def rPow (a : Nat) (l : List UInt8) : Nat := rBits a (rOnes a 250) l l.length
/-- So far. -/
def rAt (a : Nat) (l : List UInt8) (k : Nat) : Nat := if k ≤ 250 then rOnes a k else rBits a (rOnes a 250) l (k - 250)
set_option maxRecDepth 100000 in
theorem rOnes_lt (a k : Nat) : rOnes a k < pP := by
  cases k with
  | zero => exact (by decide : 1 < pP)
  | succ k => exact Nat.mod_lt _ (by decide)
set_option maxRecDepth 100000 in
theorem rBits_lt {a x : Nat} (hx : x < pP) (l : List UInt8) (k : Nat) : rBits a x l k < pP := by
  cases k with
  | zero => exact hx
  | succ k =>
    unfold rBits
    split <;> exact Nat.mod_lt _ (by decide)
set_option maxRecDepth 100000 in
theorem rAt_lt (a : Nat) (l : List UInt8) (k : Nat) : rAt a l k < pP := by
  unfold rAt
  split
  · exact rOnes_lt a k
  · exact rBits_lt (rOnes_lt a 250) l _
set_option maxRecDepth 100000 in
theorem rAt_ones {a : Nat} {l : List UInt8} {k : Nat} (h : k < 250) : rAt a l (k + 1) = (rAt a l k * rAt a l k % pP) * a % pP := by
  unfold rAt
  rw [if_pos (by omega), if_pos (by omega)]
  rfl
set_option maxRecDepth 100000 in
theorem rAt_bits {a : Nat} {l : List UInt8} {k : Nat} (h : ¬ k < 250) : rAt a l (k + 1) = if (((l.getD (k - 250) 0).toNat : Int) == 49) = true then (rAt a l k * rAt a l k % pP) * a % pP else rAt a l k * rAt a l k % pP := by
  have e : rAt a l k = rBits a (rOnes a 250) l (k - 250) := by
    unfold rAt
    split
    · have : k = 250 := by omega
      subst this; rfl
    · rfl
  rw [e]
  unfold rAt
  rw [if_neg (by omega), show k + 1 - 250 = (k - 250) + 1 by omega]
  rfl
set_option maxRecDepth 100000 in
theorem rAt_end (a : Nat) (l : List UInt8) : rAt a l (250 + l.length) = rPow a l := by
  unfold rAt rPow
  split
  · have : l.length = 0 := by omega
    rw [this]; rfl
  · rw [show 250 + l.length - 250 = l.length by omega]

set_option maxRecDepth 100000 in
set_option maxHeartbeats 1000000 in
theorem ref_power (a : Nat) (s : ByteArray) (W : World) (ha : a < pP) (hs : s.size ≤ 100) : Calls Tryz.prog 79 #[.agg (nine a), .int .i64 250, .string s] W fun e w' => e = .returned (.agg (nine (rPow a s.data.toList))) ∧ Below W.heap.size W w' := by
  have hsm := hid (fun w => ref_Small 1 w (by decide))
  have MU := hid (fun x y w (hx : x < pP) (hy : y < pP) => ref_Mul x y w hx hy)
  have hsl : s.data.toList.length = s.size := by simp
  have hen := rAt_end a s.data.toList
  rw [hsl] at hen
  rw [← hen]
  clear hen
  obtain ⟨l, hl⟩ : ∃ l, s.data.toList = l := ⟨_, rfl⟩
  rw [hl] at hsl ⊢
  have HSL := hid hsl
  have HLL := hid hl
  clear hl hsl
  go_enter Tryz.func79, Tryz.ntmps79
  go_wp2_with fail
  refine (hsm.out _).mono ?_
  rintro e w1 ⟨rfl, hb1⟩
  have kA := Kept.on (kept (b := W.heap.size) (o := .cells (nine a) 48 (0, 0)) (by go_simp)) hb1
  have kR := Kept.on (kept (b := W.heap.size + 1) (o := .cells (nine 0) 48 (0, 0)) (by go_simp)) hb1
  have b1 : Hid (Below W.heap.size W w1) := below_to (by repeat (first | exact Below.refl _ _ | exact below_new _ | assumption | refine Below.drew ?_ | refine Below.drewN ?_ _ | refine below_alloc ?_ _ | refine below_blk' ?_ (by omega) _)) hb1
  clear hb1
  try clear gA lA nA mA
  obtain ⟨gA, lA, nA, mA⟩ := kA
  try clear gR lR nR mR
  obtain ⟨gR, lR, nR, mR⟩ := kR
  have hXW := lR
  go_wp2_with fail
  obtain ⟨w2, hw2⟩ : ∃ w2, w1.alloc (.cells (nine 1) 48) = w2 := ⟨_, rfl⟩
  have kA := kept (show hget w2 (W.heap.size) = some (.cells (nine a) 48 (0, 0)) by rw [← hw2]; clear hw2; go_simp)
  have kR := kept (show hget w2 (W.heap.size + 1) = some (.cells (nine 0) 48 (0, 0)) by rw [← hw2]; clear hw2; go_simp)
  have kX := kept (show hget w2 (w1.heap.size) = some (.cells (nine 1) 48 (0, 0)) by rw [← hw2]; clear hw2; go_simp)
  have b2 : Hid (Below W.heap.size W w2) := by rw [← hw2]; repeat (first | exact Below.refl _ _ | exact below_new _ | exact b1.out | assumption | refine Below.drew ?_ | refine Below.drewN ?_ _ | refine below_alloc ?_ _ | refine below_blk' ?_ (by omega) _)
  rw [hw2]
  clear hw2
  try clear gA lA nA mA
  try clear jA
  have jA := kA.later
  obtain ⟨gA, lA, nA, mA⟩ := kA
  try clear gR lR nR mR
  try clear jR
  have jR := kR.later
  obtain ⟨gR, lR, nR, mR⟩ := kR
  try clear gX lX nX mX
  try clear jX
  have jX := kX.later
  obtain ⟨gX, lX, nX, mX⟩ := kX
  clear b1
  generalize w1.heap.size = X at *
  have q1 : (W.heap.size = X) = False := by simp; omega
  have q2 : (W.heap.size + 1 = X) = False := by simp; omega
  have hWX : W.heap.size ≤ X := by omega
  go_loopw [8] (fun i wr => ∃ k : Nat, k ≤ 250 + s.size ∧ i = .int .i64 (k : Int) ∧ hget wr X = some (.cells (nine (rAt a l k)) 48 (0, 0)) ∧ hget wr (W.heap.size) = some (.cells (nine a) 48 (0, 0)) ∧ hget wr (W.heap.size + 1) = some (.cells (nine 0) 48 (0, 0)) ∧ Hid (Below W.heap.size W wr)) (fun i _ => (250 + s.size - intOf i).toNat)
  case atStart => exact ⟨0, by omega, rfl, gX, gA, gR, b2⟩
  case round =>
    clear gX gA gR jX jA jR lX lA lR nX nA nR mX mA mR b2
    obtain ⟨k, hk, rfl, qX, qA, qR, qb⟩ := hrel
    obtain ⟨gX, lX, nX, mX⟩ := kept qX
    obtain ⟨gA, lA, nA, mA⟩ := kept qA
    obtain ⟨gR, lR, nR, mR⟩ := kept qR
    clear qX qA qR
    by_cases hkl : k < 250 + s.size
    · have hkd : decide ((k : Int) < 250 + (s.size : Int)) = true := decide_eq_true (by omega)
      have hx2 := rAt_lt a l k
      obtain ⟨x, hx⟩ : ∃ x, rAt a l k = x := ⟨_, rfl⟩
      have h1 := fun h => rAt_ones (a := a) (l := l) (k := k) h
      have h2 := fun h => rAt_bits (a := a) (l := l) (k := k) h
      rw [hx] at hx2 gX h1 h2
      have m1 := hid (fun w => MU.out x x w hx2 hx2)
      obtain ⟨y, hy⟩ : ∃ y, x * x % pP = y := ⟨_, rfl⟩
      have hy2 : y < pP := by rw [← hy]; exact Nat.mod_lt _ (by decide)
      rw [hy] at m1 h1 h2
      have m2 := hid (fun w => MU.out y a w hy2 ha)
      obtain ⟨z, hz⟩ : ∃ z, y * a % pP = z := ⟨_, rfl⟩
      rw [hz] at m2 h1 h2
      have H1 := hid h1
      have H2 := hid h2
      clear hx hy hz h1 h2
      go_wp2_with fail
      refine (m1.out _).mono ?_
      rintro e w3 ⟨rfl, hb3⟩
      have kA := Kept.on (kept (b := W.heap.size) (o := .cells (nine a) 48 (0, 0)) (by go_simp)) hb3
      have kR := Kept.on (kept (b := W.heap.size + 1) (o := .cells (nine 0) 48 (0, 0)) (by go_simp)) hb3
      have kX := Kept.on (kept (b := X) (o := .cells (nine x) 48 (0, 0)) (by go_simp)) hb3
      have b3 : Hid (Below W.heap.size W w3) := below_to (by repeat (first | exact Below.refl _ _ | exact below_new _ | exact qb.out | assumption | refine Below.drew ?_ | refine Below.drewN ?_ _ | refine below_alloc ?_ _ | refine below_blk' ?_ (by omega) _)) hb3
      clear hb3
      try clear gA lA nA mA
      obtain ⟨gA, lA, nA, mA⟩ := kA
      try clear gR lR nR mR
      obtain ⟨gR, lR, nR, mR⟩ := kR
      try clear gX lX nX mX
      obtain ⟨gX, lX, nX, mX⟩ := kX
      clear qb
      by_cases h250 : k < 250
      · have hd : decide ((k : Int) < 250) = true := decide_eq_true (by omega)
        go_wp2_with fail
        refine (m2.out _).mono ?_
        rintro e w4 ⟨rfl, hb4⟩
        have kA := Kept.on (kept (b := W.heap.size) (o := .cells (nine a) 48 (0, 0)) (by go_simp)) hb4
        have kR := Kept.on (kept (b := W.heap.size + 1) (o := .cells (nine 0) 48 (0, 0)) (by go_simp)) hb4
        have kX := Kept.on (kept (b := X) (o := .cells (nine y) 48 (0, 0)) (by go_simp)) hb4
        have b4 : Hid (Below W.heap.size W w4) := below_to (by repeat (first | exact Below.refl _ _ | exact below_new _ | exact b3.out | assumption | refine Below.drew ?_ | refine Below.drewN ?_ _ | refine below_alloc ?_ _ | refine below_blk' ?_ (by omega) _)) hb4
        clear hb4
        try clear gA lA nA mA
        obtain ⟨gA, lA, nA, mA⟩ := kA
        try clear gR lR nR mR
        obtain ⟨gR, lR, nR, mR⟩ := kR
        try clear gX lX nX mX
        obtain ⟨gX, lX, nX, mX⟩ := kX
        clear b3
        go_wp2_with fail
        exact ⟨⟨k + 1, by omega, by go_num, by rw [H1.out h250]; go_simp, by go_simp, by go_simp, hid (below_blk' b4.out hWX _)⟩, by simp [intOf]; omega⟩
      · have hd : decide ((k : Int) < 250) = false := decide_eq_false (by omega)
        have hi0 : 0 ≤ (k : Int) - 250 := by omega
        have hi1 : (k : Int) - 250 < s.size := by omega
        have hi2 : ((k : Int) - 250).toNat = k - 250 := by omega
        have hks : k - 250 < s.size := by omega
        have hgd : l.getD (k - 250) 0 = s[k - 250] := by rw [← HLL.out]; simp [hks]; rfl
        have hst := H2.out h250
        rw [hgd] at hst
        cases hc : ((s[k - 250].toNat : Int) == 49)
        · rw [hc, if_neg (by decide)] at hst
          have HST := hid hst
          clear hst hgd
          go_wp2_with fail
          exact ⟨⟨k + 1, by omega, by go_num, by rw [HST.out]; go_simp, by go_simp, by go_simp, hid (below_blk' b3.out hWX _)⟩, by simp [intOf]; omega⟩
        · rw [hc, if_pos rfl] at hst
          have HST := hid hst
          clear hst hgd
          go_wp2_with fail
          refine (m2.out _).mono ?_
          rintro e w4 ⟨rfl, hb4⟩
          have kA := Kept.on (kept (b := W.heap.size) (o := .cells (nine a) 48 (0, 0)) (by go_simp)) hb4
          have kR := Kept.on (kept (b := W.heap.size + 1) (o := .cells (nine 0) 48 (0, 0)) (by go_simp)) hb4
          have kX := Kept.on (kept (b := X) (o := .cells (nine y) 48 (0, 0)) (by go_simp)) hb4
          have b4 : Hid (Below W.heap.size W w4) := below_to (by repeat (first | exact Below.refl _ _ | exact below_new _ | exact b3.out | assumption | refine Below.drew ?_ | refine Below.drewN ?_ _ | refine below_alloc ?_ _ | refine below_blk' ?_ (by omega) _)) hb4
          clear hb4
          try clear gA lA nA mA
          obtain ⟨gA, lA, nA, mA⟩ := kA
          try clear gR lR nR mR
          obtain ⟨gR, lR, nR, mR⟩ := kR
          try clear gX lX nX mX
          obtain ⟨gX, lX, nX, mX⟩ := kX
          clear b3
          go_wp2_with fail
          exact ⟨⟨k + 1, by omega, by go_num, by rw [HST.out]; go_simp, by go_simp, by go_simp, hid (below_blk' b4.out hWX _)⟩, by simp [intOf]; omega⟩
    · have hkd : decide ((k : Int) < 250 + (s.size : Int)) = false := decide_eq_false (by omega)
      have hk5 : k = 250 + s.size := by omega
      rw [hk5] at gX
      obtain ⟨z, hz⟩ : ∃ z, rAt a l (250 + s.size) = z := ⟨_, rfl⟩
      rw [hz] at gX
      have HZ := hid hz
      clear hz hk5
      go_wp2_with fail
      refine bodyPost_ret (v := .agg (nine z)) (results_cell_row Tryz.results79 _ _ (W.heap.size + 1) 48 (nine z) (0, 0) _ (by rfl) (by rw [← hget_eq]; go_simp) Tryz.underlying48 rfl (by rw [info_Num]; go_simp)) rfl ?_
      exact ⟨by rw [HZ.out], by repeat (first | exact Below.refl _ _ | exact below_new _ | exact qb.out | assumption | refine Below.drew ?_ | refine Below.drewN ?_ _ | refine below_alloc ?_ _ | refine below_blk' ?_ (by omega) _)⟩

def str2 : ByteArray := ⟨#[48, 49, 48, 49, 49]⟩
def str3 : ByteArray := ⟨#[49, 48]⟩
def str4 : ByteArray := ⟨#[48, 49, 49]⟩
def rInv (a : Nat) : Nat := rPow a [48, 49, 48, 49, 49]
def rRoot0 (a : Nat) : Nat := rPow a [49, 48]
def rRootS : Nat := rPow 2 [48, 49, 49]
set_option maxRecDepth 100000 in
theorem rInv_eq (a : Nat) : rPow a [48, 49, 48, 49, 49] = rInv a := rfl
set_option maxRecDepth 100000 in
theorem rRoot0_eq (a : Nat) : rPow a [49, 48] = rRoot0 a := rfl
set_option maxRecDepth 100000 in
theorem rRootS_eq : rPow 2 [48, 49, 49] = rRootS := rfl
set_option maxRecDepth 100000 in
theorem rPow_lt (a : Nat) (l : List UInt8) : rPow a l < pP := rBits_lt (rOnes_lt a 250) l _

set_option maxRecDepth 100000 in
set_option maxHeartbeats 1000000 in
theorem ref_Inv (a : Nat) (W : World) (ha : a < pP) : Calls Tryz.prog 43 #[.agg (nine a)] W fun e w' => e = .returned (.agg (nine (rInv a))) ∧ Below W.heap.size W w' := by
  have hp := fun w => ref_power a ⟨#[48, 49, 48, 49, 49]⟩ w ha (by decide)
  simp only [rInv_eq] at hp
  generalize rInv a = z at *
  have HP := hid hp
  clear hp
  go_enter Tryz.func43, Tryz.ntmps43
  go_wp2_with fail
  refine (HP.out _).mono ?_
  rintro e w1 ⟨rfl, hb1⟩
  have kR := Kept.on (kept (b := W.heap.size + 1) (o := .cells (nine 0) 48 (0, 0)) (by go_simp)) hb1
  have b1 : Hid (Below W.heap.size W w1) := below_to (by repeat (first | exact Below.refl _ _ | exact below_new _ | assumption | refine Below.drew ?_ | refine Below.drewN ?_ _ | refine below_alloc ?_ _ | refine below_blk' ?_ (by omega) _)) hb1
  clear hb1
  try clear gR lR nR mR
  obtain ⟨gR, lR, nR, mR⟩ := kR
  go_wp2_with fail
  refine bodyPost_ret (v := .agg (nine z)) (results_cell_row Tryz.results43 _ _ (W.heap.size + 1) 48 (nine z) (0, 0) _ (by rfl) (by rw [← hget_eq]; go_simp) Tryz.underlying48 rfl (by rw [info_Num]; go_simp)) rfl ?_
  exact ⟨rfl, by repeat (first | exact Below.refl _ _ | exact below_new _ | exact b1.out | assumption | refine Below.drew ?_ | refine Below.drewN ?_ _ | refine below_alloc ?_ _ | refine below_blk' ?_ (by omega) _)⟩

set_option maxRecDepth 100000 in
theorem eqlN (a b : Nat) (ha : a < pP) (hb : b < pP) (d : Nat) (w : World) : (Op.equalIn (d + 2) 48 (.agg (nine a)) (.agg (nine b))).run Tryz.prog w = .ok (decide (a = b)) w := by
  unfold nine
  rw [run_equalIn_ints (n := 9) (k := .u64) Tryz.underlying48 (by rfl) (by kernel_rfl) d _ _ (digs_length _ _) (digs_length _ _)]
  congr 1
  rw [decide_eq_decide]
  constructor
  · intro h
    have h1 := val_nine (v := a) (by unfold pP at ha; omega)
    have h2 := val_nine (v := b) (by unfold pP at hb; omega)
    rw [h] at h1
    exact h1.symm.trans h2
  · rintro rfl; rfl
set_option maxRecDepth 100000 in
theorem nine_cell0 {w : World} {b n : Nat} {T : TypeId} {fz : Nat × Nat} (h : hget w b = some (.cells (nine n) T fz)) : w.cell? ⟨b, 0, none⟩ = some (.int .u64 ((n % 1073741824 : Nat) : Int)) := by
  have := ints_cell (l := digs B30 n 9) h (j := 0) (by rw [digs_length]; decide)
  rw [this]
  rfl
set_option maxRecDepth 100000 in
theorem odd9 (n : Nat) : (bits .and .u64 ((n : Int) % 1073741824) 1 == 1) = decide (n % 2 = 1) := by
  rw [show ((n : Int) % 1073741824) = ((n % 1073741824 : Nat) : Int) from rfl, and1_lit _ (by omega), Bool.eq_iff_iff]
  simp; omega

/-- The document's root. -/
def rRoot1 (a : Nat) : Nat := if decide (rRoot0 a * rRoot0 a % pP = a) = true then rRoot0 a else rRoot0 a * rRootS % pP
def rIs (a : Nat) : Bool := decide (rRoot1 a * rRoot1 a % pP = a)
def rRoot2 (a : Nat) (odd : Bool) : Nat := if (decide (rRoot1 a % 2 = 1) != odd) = true then (0 + (pP - rRoot1 a)) % pP else rRoot1 a
set_option maxRecDepth 100000 in
theorem rRoot1_lt (a : Nat) : rRoot1 a < pP := by
  unfold rRoot1; split
  · exact rPow_lt _ _
  · exact Nat.mod_lt _ (by decide)
set_option maxRecDepth 100000 in
theorem rRoot2_lt (a : Nat) (odd : Bool) : rRoot2 a odd < pP := by
  unfold rRoot2; split
  · exact Nat.mod_lt _ (by decide)
  · exact rRoot1_lt a

set_option maxRecDepth 100000 in
set_option maxHeartbeats 2000000 in
theorem ref_Root (a : Nat) (odd : Bool) (W : World) (ha : a < pP) : Calls Tryz.prog 76 #[.agg (nine a), .bool odd] W fun e w' => e = .returned (.tuple #[.agg (nine (if rIs a = true then rRoot2 a odd else 0)), .bool (rIs a && (decide (rRoot2 a odd % 2 = 1) == odd))]) ∧ Below W.heap.size W w' := by
  have l1 := rRoot1_lt a
  have l2 := rRoot2_lt a odd
  have l0 : rRoot0 a < pP := rPow_lt _ _
  have ls : rRootS < pP := rPow_lt _ _
  have hp0 := fun w => ref_power a ⟨#[49, 48]⟩ w ha (by decide)
  have hps := fun w => ref_power 2 ⟨#[48, 49, 49]⟩ w (by decide) (by decide)
  simp only [rRoot0_eq] at hp0
  simp only [rRootS_eq] at hps
  have HP0 := hid hp0
  have HPS := hid hps
  have e1 : rRoot1 a = if decide (rRoot0 a * rRoot0 a % pP = a) = true then rRoot0 a else rRoot0 a * rRootS % pP := rfl
  have e2 : rRoot2 a odd = if (decide (rRoot1 a % 2 = 1) != odd) = true then (0 + (pP - rRoot1 a)) % pP else rRoot1 a := rfl
  have e3 : rIs a = decide (rRoot1 a * rRoot1 a % pP = a) := rfl
  generalize rRoot0 a = c0 at *
  generalize rRootS = s at *
  generalize rRoot1 a = c1 at *
  generalize rRoot2 a odd = c2 at *
  generalize rIs a = is at *
  have M0 := hid (fun w => ref_Mul c0 c0 w l0 l0)
  have lm0 : c0 * c0 % pP < pP := Nat.mod_lt _ (by decide)
  have E0 := eqlN (c0 * c0 % pP) a lm0 ha
  have MS := hid (fun w => ref_Mul c0 s w l0 ls)
  have M1 := hid (fun w => ref_Mul c1 c1 w l1 l1)
  have lm1 : c1 * c1 % pP < pP := Nat.mod_lt _ (by decide)
  have E1 := eqlN (c1 * c1 % pP) a lm1 ha
  rw [← e3] at E1
  have U1 := hid (fun w => ref_Sub 0 c1 w (by decide) (by omega))
  have O1 := odd9 c1
  have O2 := odd9 c2
  obtain ⟨q0, hq0⟩ : ∃ q, decide (c0 * c0 % pP = a) = q := ⟨_, rfl⟩
  rw [hq0] at E0 e1
  generalize c0 * c0 % pP = m0 at *
  generalize c0 * s % pP = ms at *
  generalize c1 * c1 % pP = m1 at *
  generalize (0 + (pP - c1)) % pP = u at *
  generalize hd1 : decide (c1 % 2 = 1) = d1 at *
  generalize hd2 : decide (c2 % 2 = 1) = d2 at *
  have SM := hid (fun w => ref_Small 2 w (by decide))
  obtain ⟨rr, hrr⟩ : ∃ rr, (if is = true then c2 else 0) = rr := ⟨_, rfl⟩
  rw [hrr]
  have HRR := hid hrr
  have HE1 := hid e1
  have HE2 := hid e2
  have HD1 := hid hd1
  have HD2 := hid hd2
  clear hrr e1 e2 e3 hq0 lm0 lm1 l0 ls l1 l2 hd1 hd2
  go_enter Tryz.func76, Tryz.ntmps76
  go_wp2_with fail
  refine (HP0.out _).mono ?_
  rintro e w1 ⟨rfl, hb1⟩
  have kA := Kept.on (kept (b := W.heap.size) (o := .cells (nine a) 48 (0, 0)) (by go_simp)) hb1
  have kR := Kept.on (kept (b := W.heap.size + 1) (o := .cells (nine 0) 48 (0, 0)) (by go_simp)) hb1
  have b1 : Hid (Below W.heap.size W w1) := below_to (by repeat (first | exact Below.refl _ _ | exact below_new _ | assumption | refine Below.drew ?_ | refine Below.drewN ?_ _ | refine below_alloc ?_ _ | refine below_blk' ?_ (by omega) _)) hb1
  clear hb1
  try clear gA lA nA mA
  obtain ⟨gA, lA, nA, mA⟩ := kA
  try clear gR lR nR mR
  obtain ⟨gR, lR, nR, mR⟩ := kR
  have hXW := lR
  go_wp2_with fail
  obtain ⟨w2, hw2⟩ : ∃ w2, w1.alloc (.cells (nine c0) 48) = w2 := ⟨_, rfl⟩
  have kA := kept (show hget w2 (W.heap.size) = some (.cells (nine a) 48 (0, 0)) by rw [← hw2]; clear hw2; go_simp)
  have kR := kept (show hget w2 (W.heap.size + 1) = some (.cells (nine 0) 48 (0, 0)) by rw [← hw2]; clear hw2; go_simp)
  have kX := kept (show hget w2 (w1.heap.size) = some (.cells (nine c0) 48 (0, 0)) by rw [← hw2]; clear hw2; go_simp)
  have b2 : Hid (Below W.heap.size W w2) := by rw [← hw2]; repeat (first | exact Below.refl _ _ | exact below_new _ | exact b1.out | assumption | refine Below.drew ?_ | refine Below.drewN ?_ _ | refine below_alloc ?_ _ | refine below_blk' ?_ (by omega) _)
  rw [hw2]
  clear hw2
  try clear gA lA nA mA
  try clear jA
  have jA := kA.later
  obtain ⟨gA, lA, nA, mA⟩ := kA
  try clear gR lR nR mR
  try clear jR
  have jR := kR.later
  obtain ⟨gR, lR, nR, mR⟩ := kR
  try clear gX lX nX mX
  try clear jX
  have jX := kX.later
  obtain ⟨gX, lX, nX, mX⟩ := kX
  clear b1
  generalize w1.heap.size = X at *
  have q1' : (W.heap.size = X) = False := by simp; omega
  have q2' : (W.heap.size + 1 = X) = False := by simp; omega
  have q3' : (X = W.heap.size + 1) = False := by simp; omega
  have hWX : W.heap.size ≤ X := by omega
  refine wp_region_later (by kernel_rfl) (by kernel_rfl) ?_
  repeat ((go_big_quiet_step ((go_at_call 44; with_reducible exact calls_later (M0.out _)))))
  refine wpQuiet_nil ?_
  intro wL hwL
  obtain ⟨⟨w8, hL⟩, e8⟩ := hwL
  change wL = w8 at e8
  subst e8
  have kR : Kept wL _ _ := kept (jR ⟨_, hL⟩)
  have kA : Kept wL _ _ := kept (jA ⟨_, hL⟩)
  have kX : Kept wL _ _ := kept (jX ⟨_, hL⟩)
  have b3 := hid (below_to b2.out hL)
  clear jX jA jR b2 hL gX gA gR lX lA lR nX nA nR mX mA mR
  have hc1 := HE1.out
  cases q0
  · rw [if_neg (by decide)] at hc1
    obtain ⟨gR, lR, nR, mR⟩ := kR
    obtain ⟨gA, lA, nA, mA⟩ := kA
    obtain ⟨gX, lX, nX, mX⟩ := kX
    have jX := (kept gX).later
    have jA := (kept gA).later
    have jR := (kept gR).later
    rw [← hc1] at MS
    go_wp2_with fail
    refine wp_region_later_tail 4 (by kernel_rfl) (by kernel_rfl) ?_
    simp only [List.take_succ_cons, List.take_zero, List.drop_succ_cons, List.drop_zero]
    repeat ((go_big_quiet_step ((first | (go_at_call 72; with_reducible exact calls_later (SM.out _)) | (go_at_call 79; with_reducible exact calls_later (HPS.out _)) | (go_at_call 44; with_reducible exact calls_later (MS.out _))))))
    refine wpQuiet_nil ?_
    intro wL hwL
    obtain ⟨⟨w8, hL⟩, e8⟩ := hwL
    change wL = w8 at e8
    subst e8
    obtain ⟨gX, lX, nX, mX⟩ := kept (jX ⟨_, hL⟩)
    obtain ⟨gA, lA, nA, mA⟩ := kept (jA ⟨_, hL⟩)
    obtain ⟨gR, lR, nR, mR⟩ := kept (jR ⟨_, hL⟩)
    have b4 := hid (below_to b3.out hL)
    clear jX jA jR b3
    go_wp2_with fail
    rw [← hc1]
    clear hc1
    obtain ⟨w5, hw5⟩ : ∃ w5, blk wL X (.cells (nine c1) 48 (0, 0)) = w5 := ⟨_, rfl⟩
    have kA := kept (show hget w5 (W.heap.size) = some (.cells (nine a) 48 (0, 0)) by rw [← hw5]; clear hw5; go_simp)
    have kR := kept (show hget w5 (W.heap.size + 1) = some (.cells (nine 0) 48 (0, 0)) by rw [← hw5]; clear hw5; go_simp)
    have kX := kept (show hget w5 (X) = some (.cells (nine c1) 48 (0, 0)) by rw [← hw5]; clear hw5; go_simp)
    have b5 : Hid (Below W.heap.size W w5) := by rw [← hw5]; repeat (first | exact Below.refl _ _ | exact below_new _ | exact b4.out | assumption | refine Below.drew ?_ | refine Below.drewN ?_ _ | refine below_alloc ?_ _ | refine below_blk' ?_ (by omega) _)
    rw [hw5]
    clear hw5
    try clear gA lA nA mA
    try clear jA
    have jA := kA.later
    obtain ⟨gA, lA, nA, mA⟩ := kA
    try clear gR lR nR mR
    try clear jR
    have jR := kR.later
    obtain ⟨gR, lR, nR, mR⟩ := kR
    try clear gX lX nX mX
    try clear jX
    have jX := kX.later
    obtain ⟨gX, lX, nX, mX⟩ := kX
    clear b4
    clear hL
    refine wp_region_later (by kernel_rfl) (by kernel_rfl) ?_
    repeat ((go_big_quiet_step ((go_at_call 44; with_reducible exact calls_later (M1.out _)))))
    refine wpQuiet_nil ?_
    intro wL hwL
    obtain ⟨⟨w8, hL⟩, e8⟩ := hwL
    change wL = w8 at e8
    subst e8
    have kR : Kept wL _ _ := kept (jR ⟨_, hL⟩)
    have kX : Kept wL _ _ := kept (jX ⟨_, hL⟩)
    have b6 := hid (below_to b5.out hL)
    clear jX jA jR b5 hL gX gA gR lX lA lR nX nA nR mX mA mR
    obtain ⟨gR, lR, nR, mR⟩ := kR
    obtain ⟨gX, lX, nX, mX⟩ := kX
    cases is
    · go_wp2_with fail
      refine bodyPost_ret (v := .tuple #[.agg (nine 0), .bool false]) (results_cell_tmp Tryz.results76 _ _ (W.heap.size + 1) 48 (nine 0) (0, 0) _ (.bool false) (by rfl) (by rfl) (by rw [← hget_eq]; go_simp) Tryz.underlying48 rfl (by rw [info_Num]; go_simp)) rfl ?_
      exact ⟨by rw [← HRR.out]; simp, by repeat (first | exact Below.refl _ _ | exact below_new _ | exact b6.out | assumption | refine Below.drew ?_ | refine Below.drewN ?_ _ | refine below_alloc ?_ _ | refine below_blk' ?_ (by omega) _)⟩
    · have cX := nine_cell0 gX
      have hc2 := HE2.out
      cases d1
      · cases odd
        · rw [if_neg (by decide)] at hc2
          have hdd : d2 = false := by rw [← HD2.out, ← HD1.out, hc2]
          have HC2 := hid hc2
          have HDD := hid hdd
          clear hc2 hdd
          go_wp2_with fail
          refine wp_region_stf 7 (fun w => blk w (W.heap.size + 1) (.cells (nine c1) 48 (0, 0))) (by kernel_rfl) (by kernel_rfl) (by decide) ?_
          repeat (first | (refine wpStf_quiet (by decide) (by rfl) (fun K hK => ?_); go_simp; refine hK _ ?_; clear hK K; try go_ints) | (refine wpStf_store (by rfl) (by rfl) (fun K hK => ?_); go_simp; refine hK _ ?_; clear hK K; try go_ints) | (refine wpStf_free (by decide) (fun K hK => ?_); go_simp; refine hK _ ?_; clear hK K; try go_ints))
          refine wpStf_nil ?_
          go_wp2_with fail
          refine bodyPost_ret (v := .tuple #[.agg (nine c1), .bool (false == false)]) (results_cell_tmp Tryz.results76 _ _ (W.heap.size + 1) 48 (nine c1) (0, 0) _ (.bool (false == false)) (by rfl) (by rfl) (by rw [← hget_eq]; go_simp) Tryz.underlying48 rfl (by rw [info_Num]; go_simp)) rfl ?_
          exact ⟨by (have h := HRR.out; simp at h; rw [← h]; rw [HC2.out, HDD.out]; simp), by repeat (first | exact Below.refl _ _ | exact below_new _ | exact b6.out | assumption | refine Below.drew ?_ | refine Below.drewN ?_ _ | refine below_alloc ?_ _ | refine below_blk' ?_ (by omega) _)⟩
        · rw [if_pos (by decide)] at hc2
          rw [← hc2] at U1
          clear hc2
          go_wp2_with fail
          refine (U1.out _).mono ?_
          rintro e w7 ⟨rfl, hb7⟩
          have kR := Kept.on (kept (b := W.heap.size + 1) (o := .cells (nine 0) 48 (0, 0)) (by go_simp)) hb7
          have kX := Kept.on (kept (b := X) (o := .cells (nine c1) 48 (0, 0)) (by go_simp)) hb7
          have b7 : Hid (Below W.heap.size W w7) := below_to (by repeat (first | exact Below.refl _ _ | exact below_new _ | exact b6.out | assumption | refine Below.drew ?_ | refine Below.drewN ?_ _ | refine below_alloc ?_ _ | refine below_blk' ?_ (by omega) _)) hb7
          clear hb7
          try clear gR lR nR mR
          obtain ⟨gR, lR, nR, mR⟩ := kR
          try clear gX lX nX mX
          obtain ⟨gX, lX, nX, mX⟩ := kX
          clear b6
          clear cX
          go_wp2_with fail
          obtain ⟨w8, hw8⟩ : ∃ w8, blk w7 X (.cells (nine c2) 48 (0, 0)) = w8 := ⟨_, rfl⟩
          have kR := kept (show hget w8 (W.heap.size + 1) = some (.cells (nine 0) 48 (0, 0)) by rw [← hw8]; clear hw8; go_simp)
          have kX := kept (show hget w8 (X) = some (.cells (nine c2) 48 (0, 0)) by rw [← hw8]; clear hw8; go_simp)
          have b8 : Hid (Below W.heap.size W w8) := by rw [← hw8]; repeat (first | exact Below.refl _ _ | exact below_new _ | exact b7.out | assumption | refine Below.drew ?_ | refine Below.drewN ?_ _ | refine below_alloc ?_ _ | refine below_blk' ?_ (by omega) _)
          rw [hw8]
          clear hw8
          try clear gR lR nR mR
          try clear jR
          have jR := kR.later
          obtain ⟨gR, lR, nR, mR⟩ := kR
          try clear gX lX nX mX
          try clear jX
          have jX := kX.later
          obtain ⟨gX, lX, nX, mX⟩ := kX
          clear b7
          have cX := nine_cell0 gX
          clear jX jR
          cases d2
          · refine wp_region_stf 7 (fun w => blk w (W.heap.size + 1) (.cells (nine c2) 48 (0, 0))) (by kernel_rfl) (by kernel_rfl) (by decide) ?_
            repeat (first | (refine wpStf_quiet (by decide) (by rfl) (fun K hK => ?_); go_simp; refine hK _ ?_; clear hK K; try go_ints) | (refine wpStf_store (by rfl) (by rfl) (fun K hK => ?_); go_simp; refine hK _ ?_; clear hK K; try go_ints) | (refine wpStf_free (by decide) (fun K hK => ?_); go_simp; refine hK _ ?_; clear hK K; try go_ints))
            refine wpStf_nil ?_
            go_wp2_with fail
            refine bodyPost_ret (v := .tuple #[.agg (nine c2), .bool _]) (results_cell_tmp Tryz.results76 _ _ (W.heap.size + 1) 48 (nine c2) (0, 0) _ (.bool _) (by rfl) (by rfl) (by rw [← hget_eq]; go_simp) Tryz.underlying48 rfl (by rw [info_Num]; go_simp)) rfl ?_
            exact ⟨by (have h := HRR.out; simp at h; rw [← h]; skip; simp), by repeat (first | exact Below.refl _ _ | exact below_new _ | exact b8.out | assumption | refine Below.drew ?_ | refine Below.drewN ?_ _ | refine below_alloc ?_ _ | refine below_blk' ?_ (by omega) _)⟩
          · refine wp_region_stf 7 (fun w => blk w (W.heap.size + 1) (.cells (nine c2) 48 (0, 0))) (by kernel_rfl) (by kernel_rfl) (by decide) ?_
            repeat (first | (refine wpStf_quiet (by decide) (by rfl) (fun K hK => ?_); go_simp; refine hK _ ?_; clear hK K; try go_ints) | (refine wpStf_store (by rfl) (by rfl) (fun K hK => ?_); go_simp; refine hK _ ?_; clear hK K; try go_ints) | (refine wpStf_free (by decide) (fun K hK => ?_); go_simp; refine hK _ ?_; clear hK K; try go_ints))
            refine wpStf_nil ?_
            go_wp2_with fail
            refine bodyPost_ret (v := .tuple #[.agg (nine c2), .bool _]) (results_cell_tmp Tryz.results76 _ _ (W.heap.size + 1) 48 (nine c2) (0, 0) _ (.bool _) (by rfl) (by rfl) (by rw [← hget_eq]; go_simp) Tryz.underlying48 rfl (by rw [info_Num]; go_simp)) rfl ?_
            exact ⟨by (have h := HRR.out; simp at h; rw [← h]; skip; simp), by repeat (first | exact Below.refl _ _ | exact below_new _ | exact b8.out | assumption | refine Below.drew ?_ | refine Below.drewN ?_ _ | refine below_alloc ?_ _ | refine below_blk' ?_ (by omega) _)⟩
      · cases odd
        · rw [if_pos (by decide)] at hc2
          rw [← hc2] at U1
          clear hc2
          go_wp2_with fail
          refine (U1.out _).mono ?_
          rintro e w7 ⟨rfl, hb7⟩
          have kR := Kept.on (kept (b := W.heap.size + 1) (o := .cells (nine 0) 48 (0, 0)) (by go_simp)) hb7
          have kX := Kept.on (kept (b := X) (o := .cells (nine c1) 48 (0, 0)) (by go_simp)) hb7
          have b7 : Hid (Below W.heap.size W w7) := below_to (by repeat (first | exact Below.refl _ _ | exact below_new _ | exact b6.out | assumption | refine Below.drew ?_ | refine Below.drewN ?_ _ | refine below_alloc ?_ _ | refine below_blk' ?_ (by omega) _)) hb7
          clear hb7
          try clear gR lR nR mR
          obtain ⟨gR, lR, nR, mR⟩ := kR
          try clear gX lX nX mX
          obtain ⟨gX, lX, nX, mX⟩ := kX
          clear b6
          clear cX
          go_wp2_with fail
          obtain ⟨w8, hw8⟩ : ∃ w8, blk w7 X (.cells (nine c2) 48 (0, 0)) = w8 := ⟨_, rfl⟩
          have kR := kept (show hget w8 (W.heap.size + 1) = some (.cells (nine 0) 48 (0, 0)) by rw [← hw8]; clear hw8; go_simp)
          have kX := kept (show hget w8 (X) = some (.cells (nine c2) 48 (0, 0)) by rw [← hw8]; clear hw8; go_simp)
          have b8 : Hid (Below W.heap.size W w8) := by rw [← hw8]; repeat (first | exact Below.refl _ _ | exact below_new _ | exact b7.out | assumption | refine Below.drew ?_ | refine Below.drewN ?_ _ | refine below_alloc ?_ _ | refine below_blk' ?_ (by omega) _)
          rw [hw8]
          clear hw8
          try clear gR lR nR mR
          try clear jR
          have jR := kR.later
          obtain ⟨gR, lR, nR, mR⟩ := kR
          try clear gX lX nX mX
          try clear jX
          have jX := kX.later
          obtain ⟨gX, lX, nX, mX⟩ := kX
          clear b7
          have cX := nine_cell0 gX
          clear jX jR
          cases d2
          · refine wp_region_stf 7 (fun w => blk w (W.heap.size + 1) (.cells (nine c2) 48 (0, 0))) (by kernel_rfl) (by kernel_rfl) (by decide) ?_
            repeat (first | (refine wpStf_quiet (by decide) (by rfl) (fun K hK => ?_); go_simp; refine hK _ ?_; clear hK K; try go_ints) | (refine wpStf_store (by rfl) (by rfl) (fun K hK => ?_); go_simp; refine hK _ ?_; clear hK K; try go_ints) | (refine wpStf_free (by decide) (fun K hK => ?_); go_simp; refine hK _ ?_; clear hK K; try go_ints))
            refine wpStf_nil ?_
            go_wp2_with fail
            refine bodyPost_ret (v := .tuple #[.agg (nine c2), .bool _]) (results_cell_tmp Tryz.results76 _ _ (W.heap.size + 1) 48 (nine c2) (0, 0) _ (.bool _) (by rfl) (by rfl) (by rw [← hget_eq]; go_simp) Tryz.underlying48 rfl (by rw [info_Num]; go_simp)) rfl ?_
            exact ⟨by (have h := HRR.out; simp at h; rw [← h]; skip; simp), by repeat (first | exact Below.refl _ _ | exact below_new _ | exact b8.out | assumption | refine Below.drew ?_ | refine Below.drewN ?_ _ | refine below_alloc ?_ _ | refine below_blk' ?_ (by omega) _)⟩
          · refine wp_region_stf 7 (fun w => blk w (W.heap.size + 1) (.cells (nine c2) 48 (0, 0))) (by kernel_rfl) (by kernel_rfl) (by decide) ?_
            repeat (first | (refine wpStf_quiet (by decide) (by rfl) (fun K hK => ?_); go_simp; refine hK _ ?_; clear hK K; try go_ints) | (refine wpStf_store (by rfl) (by rfl) (fun K hK => ?_); go_simp; refine hK _ ?_; clear hK K; try go_ints) | (refine wpStf_free (by decide) (fun K hK => ?_); go_simp; refine hK _ ?_; clear hK K; try go_ints))
            refine wpStf_nil ?_
            go_wp2_with fail
            refine bodyPost_ret (v := .tuple #[.agg (nine c2), .bool _]) (results_cell_tmp Tryz.results76 _ _ (W.heap.size + 1) 48 (nine c2) (0, 0) _ (.bool _) (by rfl) (by rfl) (by rw [← hget_eq]; go_simp) Tryz.underlying48 rfl (by rw [info_Num]; go_simp)) rfl ?_
            exact ⟨by (have h := HRR.out; simp at h; rw [← h]; skip; simp), by repeat (first | exact Below.refl _ _ | exact below_new _ | exact b8.out | assumption | refine Below.drew ?_ | refine Below.drewN ?_ _ | refine below_alloc ?_ _ | refine below_blk' ?_ (by omega) _)⟩
        · rw [if_neg (by decide)] at hc2
          have hdd : d2 = true := by rw [← HD2.out, ← HD1.out, hc2]
          have HC2 := hid hc2
          have HDD := hid hdd
          clear hc2 hdd
          go_wp2_with fail
          refine wp_region_stf 7 (fun w => blk w (W.heap.size + 1) (.cells (nine c1) 48 (0, 0))) (by kernel_rfl) (by kernel_rfl) (by decide) ?_
          repeat (first | (refine wpStf_quiet (by decide) (by rfl) (fun K hK => ?_); go_simp; refine hK _ ?_; clear hK K; try go_ints) | (refine wpStf_store (by rfl) (by rfl) (fun K hK => ?_); go_simp; refine hK _ ?_; clear hK K; try go_ints) | (refine wpStf_free (by decide) (fun K hK => ?_); go_simp; refine hK _ ?_; clear hK K; try go_ints))
          refine wpStf_nil ?_
          go_wp2_with fail
          refine bodyPost_ret (v := .tuple #[.agg (nine c1), .bool (true == true)]) (results_cell_tmp Tryz.results76 _ _ (W.heap.size + 1) 48 (nine c1) (0, 0) _ (.bool (true == true)) (by rfl) (by rfl) (by rw [← hget_eq]; go_simp) Tryz.underlying48 rfl (by rw [info_Num]; go_simp)) rfl ?_
          exact ⟨by (have h := HRR.out; simp at h; rw [← h]; rw [HC2.out, HDD.out]; simp), by repeat (first | exact Below.refl _ _ | exact below_new _ | exact b6.out | assumption | refine Below.drew ?_ | refine Below.drewN ?_ _ | refine below_alloc ?_ _ | refine below_blk' ?_ (by omega) _)⟩
  · rw [if_pos rfl] at hc1
    rw [← hc1] at kX
    obtain ⟨gR, lR, nR, mR⟩ := kR
    obtain ⟨gA, lA, nA, mA⟩ := kA
    obtain ⟨gX, lX, nX, mX⟩ := kX
    have jX := (kept gX).later
    have jA := (kept gA).later
    have jR := (kept gR).later
    have b5 := b3
    clear b3 hc1
    go_wp2_with fail
    refine wp_region_later (by kernel_rfl) (by kernel_rfl) ?_
    repeat ((go_big_quiet_step ((go_at_call 44; with_reducible exact calls_later (M1.out _)))))
    refine wpQuiet_nil ?_
    intro wL hwL
    obtain ⟨⟨w8, hL⟩, e8⟩ := hwL
    change wL = w8 at e8
    subst e8
    have kR : Kept wL _ _ := kept (jR ⟨_, hL⟩)
    have kX : Kept wL _ _ := kept (jX ⟨_, hL⟩)
    have b6 := hid (below_to b5.out hL)
    clear jX jA jR b5 hL gX gA gR lX lA lR nX nA nR mX mA mR
    obtain ⟨gR, lR, nR, mR⟩ := kR
    obtain ⟨gX, lX, nX, mX⟩ := kX
    cases is
    · go_wp2_with fail
      refine bodyPost_ret (v := .tuple #[.agg (nine 0), .bool false]) (results_cell_tmp Tryz.results76 _ _ (W.heap.size + 1) 48 (nine 0) (0, 0) _ (.bool false) (by rfl) (by rfl) (by rw [← hget_eq]; go_simp) Tryz.underlying48 rfl (by rw [info_Num]; go_simp)) rfl ?_
      exact ⟨by rw [← HRR.out]; simp, by repeat (first | exact Below.refl _ _ | exact below_new _ | exact b6.out | assumption | refine Below.drew ?_ | refine Below.drewN ?_ _ | refine below_alloc ?_ _ | refine below_blk' ?_ (by omega) _)⟩
    · have cX := nine_cell0 gX
      have hc2 := HE2.out
      cases d1
      · cases odd
        · rw [if_neg (by decide)] at hc2
          have hdd : d2 = false := by rw [← HD2.out, ← HD1.out, hc2]
          have HC2 := hid hc2
          have HDD := hid hdd
          clear hc2 hdd
          go_wp2_with fail
          refine wp_region_stf 7 (fun w => blk w (W.heap.size + 1) (.cells (nine c1) 48 (0, 0))) (by kernel_rfl) (by kernel_rfl) (by decide) ?_
          repeat (first | (refine wpStf_quiet (by decide) (by rfl) (fun K hK => ?_); go_simp; refine hK _ ?_; clear hK K; try go_ints) | (refine wpStf_store (by rfl) (by rfl) (fun K hK => ?_); go_simp; refine hK _ ?_; clear hK K; try go_ints) | (refine wpStf_free (by decide) (fun K hK => ?_); go_simp; refine hK _ ?_; clear hK K; try go_ints))
          refine wpStf_nil ?_
          go_wp2_with fail
          refine bodyPost_ret (v := .tuple #[.agg (nine c1), .bool (false == false)]) (results_cell_tmp Tryz.results76 _ _ (W.heap.size + 1) 48 (nine c1) (0, 0) _ (.bool (false == false)) (by rfl) (by rfl) (by rw [← hget_eq]; go_simp) Tryz.underlying48 rfl (by rw [info_Num]; go_simp)) rfl ?_
          exact ⟨by (have h := HRR.out; simp at h; rw [← h]; rw [HC2.out, HDD.out]; simp), by repeat (first | exact Below.refl _ _ | exact below_new _ | exact b6.out | assumption | refine Below.drew ?_ | refine Below.drewN ?_ _ | refine below_alloc ?_ _ | refine below_blk' ?_ (by omega) _)⟩
        · rw [if_pos (by decide)] at hc2
          rw [← hc2] at U1
          clear hc2
          go_wp2_with fail
          refine (U1.out _).mono ?_
          rintro e w7 ⟨rfl, hb7⟩
          have kR := Kept.on (kept (b := W.heap.size + 1) (o := .cells (nine 0) 48 (0, 0)) (by go_simp)) hb7
          have kX := Kept.on (kept (b := X) (o := .cells (nine c1) 48 (0, 0)) (by go_simp)) hb7
          have b7 : Hid (Below W.heap.size W w7) := below_to (by repeat (first | exact Below.refl _ _ | exact below_new _ | exact b6.out | assumption | refine Below.drew ?_ | refine Below.drewN ?_ _ | refine below_alloc ?_ _ | refine below_blk' ?_ (by omega) _)) hb7
          clear hb7
          try clear gR lR nR mR
          obtain ⟨gR, lR, nR, mR⟩ := kR
          try clear gX lX nX mX
          obtain ⟨gX, lX, nX, mX⟩ := kX
          clear b6
          clear cX
          go_wp2_with fail
          obtain ⟨w8, hw8⟩ : ∃ w8, blk w7 X (.cells (nine c2) 48 (0, 0)) = w8 := ⟨_, rfl⟩
          have kR := kept (show hget w8 (W.heap.size + 1) = some (.cells (nine 0) 48 (0, 0)) by rw [← hw8]; clear hw8; go_simp)
          have kX := kept (show hget w8 (X) = some (.cells (nine c2) 48 (0, 0)) by rw [← hw8]; clear hw8; go_simp)
          have b8 : Hid (Below W.heap.size W w8) := by rw [← hw8]; repeat (first | exact Below.refl _ _ | exact below_new _ | exact b7.out | assumption | refine Below.drew ?_ | refine Below.drewN ?_ _ | refine below_alloc ?_ _ | refine below_blk' ?_ (by omega) _)
          rw [hw8]
          clear hw8
          try clear gR lR nR mR
          try clear jR
          have jR := kR.later
          obtain ⟨gR, lR, nR, mR⟩ := kR
          try clear gX lX nX mX
          try clear jX
          have jX := kX.later
          obtain ⟨gX, lX, nX, mX⟩ := kX
          clear b7
          have cX := nine_cell0 gX
          clear jX jR
          cases d2
          · refine wp_region_stf 7 (fun w => blk w (W.heap.size + 1) (.cells (nine c2) 48 (0, 0))) (by kernel_rfl) (by kernel_rfl) (by decide) ?_
            repeat (first | (refine wpStf_quiet (by decide) (by rfl) (fun K hK => ?_); go_simp; refine hK _ ?_; clear hK K; try go_ints) | (refine wpStf_store (by rfl) (by rfl) (fun K hK => ?_); go_simp; refine hK _ ?_; clear hK K; try go_ints) | (refine wpStf_free (by decide) (fun K hK => ?_); go_simp; refine hK _ ?_; clear hK K; try go_ints))
            refine wpStf_nil ?_
            go_wp2_with fail
            refine bodyPost_ret (v := .tuple #[.agg (nine c2), .bool _]) (results_cell_tmp Tryz.results76 _ _ (W.heap.size + 1) 48 (nine c2) (0, 0) _ (.bool _) (by rfl) (by rfl) (by rw [← hget_eq]; go_simp) Tryz.underlying48 rfl (by rw [info_Num]; go_simp)) rfl ?_
            exact ⟨by (have h := HRR.out; simp at h; rw [← h]; skip; simp), by repeat (first | exact Below.refl _ _ | exact below_new _ | exact b8.out | assumption | refine Below.drew ?_ | refine Below.drewN ?_ _ | refine below_alloc ?_ _ | refine below_blk' ?_ (by omega) _)⟩
          · refine wp_region_stf 7 (fun w => blk w (W.heap.size + 1) (.cells (nine c2) 48 (0, 0))) (by kernel_rfl) (by kernel_rfl) (by decide) ?_
            repeat (first | (refine wpStf_quiet (by decide) (by rfl) (fun K hK => ?_); go_simp; refine hK _ ?_; clear hK K; try go_ints) | (refine wpStf_store (by rfl) (by rfl) (fun K hK => ?_); go_simp; refine hK _ ?_; clear hK K; try go_ints) | (refine wpStf_free (by decide) (fun K hK => ?_); go_simp; refine hK _ ?_; clear hK K; try go_ints))
            refine wpStf_nil ?_
            go_wp2_with fail
            refine bodyPost_ret (v := .tuple #[.agg (nine c2), .bool _]) (results_cell_tmp Tryz.results76 _ _ (W.heap.size + 1) 48 (nine c2) (0, 0) _ (.bool _) (by rfl) (by rfl) (by rw [← hget_eq]; go_simp) Tryz.underlying48 rfl (by rw [info_Num]; go_simp)) rfl ?_
            exact ⟨by (have h := HRR.out; simp at h; rw [← h]; skip; simp), by repeat (first | exact Below.refl _ _ | exact below_new _ | exact b8.out | assumption | refine Below.drew ?_ | refine Below.drewN ?_ _ | refine below_alloc ?_ _ | refine below_blk' ?_ (by omega) _)⟩
      · cases odd
        · rw [if_pos (by decide)] at hc2
          rw [← hc2] at U1
          clear hc2
          go_wp2_with fail
          refine (U1.out _).mono ?_
          rintro e w7 ⟨rfl, hb7⟩
          have kR := Kept.on (kept (b := W.heap.size + 1) (o := .cells (nine 0) 48 (0, 0)) (by go_simp)) hb7
          have kX := Kept.on (kept (b := X) (o := .cells (nine c1) 48 (0, 0)) (by go_simp)) hb7
          have b7 : Hid (Below W.heap.size W w7) := below_to (by repeat (first | exact Below.refl _ _ | exact below_new _ | exact b6.out | assumption | refine Below.drew ?_ | refine Below.drewN ?_ _ | refine below_alloc ?_ _ | refine below_blk' ?_ (by omega) _)) hb7
          clear hb7
          try clear gR lR nR mR
          obtain ⟨gR, lR, nR, mR⟩ := kR
          try clear gX lX nX mX
          obtain ⟨gX, lX, nX, mX⟩ := kX
          clear b6
          clear cX
          go_wp2_with fail
          obtain ⟨w8, hw8⟩ : ∃ w8, blk w7 X (.cells (nine c2) 48 (0, 0)) = w8 := ⟨_, rfl⟩
          have kR := kept (show hget w8 (W.heap.size + 1) = some (.cells (nine 0) 48 (0, 0)) by rw [← hw8]; clear hw8; go_simp)
          have kX := kept (show hget w8 (X) = some (.cells (nine c2) 48 (0, 0)) by rw [← hw8]; clear hw8; go_simp)
          have b8 : Hid (Below W.heap.size W w8) := by rw [← hw8]; repeat (first | exact Below.refl _ _ | exact below_new _ | exact b7.out | assumption | refine Below.drew ?_ | refine Below.drewN ?_ _ | refine below_alloc ?_ _ | refine below_blk' ?_ (by omega) _)
          rw [hw8]
          clear hw8
          try clear gR lR nR mR
          try clear jR
          have jR := kR.later
          obtain ⟨gR, lR, nR, mR⟩ := kR
          try clear gX lX nX mX
          try clear jX
          have jX := kX.later
          obtain ⟨gX, lX, nX, mX⟩ := kX
          clear b7
          have cX := nine_cell0 gX
          clear jX jR
          cases d2
          · refine wp_region_stf 7 (fun w => blk w (W.heap.size + 1) (.cells (nine c2) 48 (0, 0))) (by kernel_rfl) (by kernel_rfl) (by decide) ?_
            repeat (first | (refine wpStf_quiet (by decide) (by rfl) (fun K hK => ?_); go_simp; refine hK _ ?_; clear hK K; try go_ints) | (refine wpStf_store (by rfl) (by rfl) (fun K hK => ?_); go_simp; refine hK _ ?_; clear hK K; try go_ints) | (refine wpStf_free (by decide) (fun K hK => ?_); go_simp; refine hK _ ?_; clear hK K; try go_ints))
            refine wpStf_nil ?_
            go_wp2_with fail
            refine bodyPost_ret (v := .tuple #[.agg (nine c2), .bool _]) (results_cell_tmp Tryz.results76 _ _ (W.heap.size + 1) 48 (nine c2) (0, 0) _ (.bool _) (by rfl) (by rfl) (by rw [← hget_eq]; go_simp) Tryz.underlying48 rfl (by rw [info_Num]; go_simp)) rfl ?_
            exact ⟨by (have h := HRR.out; simp at h; rw [← h]; skip; simp), by repeat (first | exact Below.refl _ _ | exact below_new _ | exact b8.out | assumption | refine Below.drew ?_ | refine Below.drewN ?_ _ | refine below_alloc ?_ _ | refine below_blk' ?_ (by omega) _)⟩
          · refine wp_region_stf 7 (fun w => blk w (W.heap.size + 1) (.cells (nine c2) 48 (0, 0))) (by kernel_rfl) (by kernel_rfl) (by decide) ?_
            repeat (first | (refine wpStf_quiet (by decide) (by rfl) (fun K hK => ?_); go_simp; refine hK _ ?_; clear hK K; try go_ints) | (refine wpStf_store (by rfl) (by rfl) (fun K hK => ?_); go_simp; refine hK _ ?_; clear hK K; try go_ints) | (refine wpStf_free (by decide) (fun K hK => ?_); go_simp; refine hK _ ?_; clear hK K; try go_ints))
            refine wpStf_nil ?_
            go_wp2_with fail
            refine bodyPost_ret (v := .tuple #[.agg (nine c2), .bool _]) (results_cell_tmp Tryz.results76 _ _ (W.heap.size + 1) 48 (nine c2) (0, 0) _ (.bool _) (by rfl) (by rfl) (by rw [← hget_eq]; go_simp) Tryz.underlying48 rfl (by rw [info_Num]; go_simp)) rfl ?_
            exact ⟨by (have h := HRR.out; simp at h; rw [← h]; skip; simp), by repeat (first | exact Below.refl _ _ | exact below_new _ | exact b8.out | assumption | refine Below.drew ?_ | refine Below.drewN ?_ _ | refine below_alloc ?_ _ | refine below_blk' ?_ (by omega) _)⟩
        · rw [if_neg (by decide)] at hc2
          have hdd : d2 = true := by rw [← HD2.out, ← HD1.out, hc2]
          have HC2 := hid hc2
          have HDD := hid hdd
          clear hc2 hdd
          go_wp2_with fail
          refine wp_region_stf 7 (fun w => blk w (W.heap.size + 1) (.cells (nine c1) 48 (0, 0))) (by kernel_rfl) (by kernel_rfl) (by decide) ?_
          repeat (first | (refine wpStf_quiet (by decide) (by rfl) (fun K hK => ?_); go_simp; refine hK _ ?_; clear hK K; try go_ints) | (refine wpStf_store (by rfl) (by rfl) (fun K hK => ?_); go_simp; refine hK _ ?_; clear hK K; try go_ints) | (refine wpStf_free (by decide) (fun K hK => ?_); go_simp; refine hK _ ?_; clear hK K; try go_ints))
          refine wpStf_nil ?_
          go_wp2_with fail
          refine bodyPost_ret (v := .tuple #[.agg (nine c1), .bool (true == true)]) (results_cell_tmp Tryz.results76 _ _ (W.heap.size + 1) 48 (nine c1) (0, 0) _ (.bool (true == true)) (by rfl) (by rfl) (by rw [← hget_eq]; go_simp) Tryz.underlying48 rfl (by rw [info_Num]; go_simp)) rfl ?_
          exact ⟨by (have h := HRR.out; simp at h; rw [← h]; rw [HC2.out, HDD.out]; simp), by repeat (first | exact Below.refl _ _ | exact below_new _ | exact b6.out | assumption | refine Below.drew ?_ | refine Below.drewN ?_ _ | refine below_alloc ?_ _ | refine below_blk' ?_ (by omega) _)⟩

end Go.Proofs.YtceljjnohjnepaaGreatDoor

namespace Go.Proofs.YtceljjnohjnepaaGreatDoor
open Go.RowKit DG
attribute [local go_sem ↓] exl_Elem exs_Elem exl_wide exs_wide
                 attribute [local go_sem] ldr_Elem str_Elem ldr_wide str_wide
attribute [local go_sem] to_quad0

set_option maxRecDepth 100000 in
theorem mul_dig {wl o : List Nat} {k cr d cr' : Nat} (hw : wl.length = 8) (ho : o.length = 4) (hk : k < 4)
    (h : val (2 ^ 64) (o.take k) + cr * (2 ^ 64) ^ k = val (2 ^ 64) (wl.take k) + 38 * val (2 ^ 64) ((wl.drop 4).take k)) (he : d + 2 ^ 64 * cr' = 38 * wl.getD (k + 4) 0 + wl.getD k 0 + cr) :
    val (2 ^ 64) ((o.set k d).take (k + 1)) + cr' * (2 ^ 64) ^ (k + 1) = val (2 ^ 64) (wl.take (k + 1)) + 38 * val (2 ^ 64) ((wl.drop 4).take (k + 1)) := by
  have hd : (wl.drop 4).getD k 0 = wl.getD (k + 4) 0 := by simp [List.getD_eq_getElem?_getD, Nat.add_comm]
  rw [take_set_succ (by omega), val_take_succ wl k (by omega), val_take_succ (wl.drop 4) k (by rw [List.length_drop]; omega), hd]
  generalize wl.getD (k + 4) 0 = x at *
  generalize wl.getD k 0 = y at *
  have h3 : (d + 2 ^ 64 * cr') * (2 ^ 64) ^ k = (38 * x + y + cr) * (2 ^ 64) ^ k := by rw [he]
  rw [Nat.add_mul, Nat.add_mul, Nat.add_mul] at h3
  rw [Nat.pow_succ (2 ^ 64) k, show cr' * ((2 ^ 64) ^ k * 2 ^ 64) = 2 ^ 64 * cr' * (2 ^ 64) ^ k by rw [Nat.mul_comm ((2 ^ 64) ^ k), ← Nat.mul_assoc, Nat.mul_comm cr']]
  rw [Nat.mul_add, ← Nat.mul_assoc 38]
  generalize (2 ^ 64) ^ k = P at *
  omega
set_option maxRecDepth 100000 in
theorem mul_end {wl o : List Nat} {n cr : Nat} (hw : wl.length = 8) (ho : o.length = 4) (hall : All (2 ^ 64) wl) (oall : All (2 ^ 64) o) (hv : val (2 ^ 64) wl = n)
    (h : val (2 ^ 64) o + cr * (2 ^ 64) ^ 4 = val (2 ^ 64) (wl.take 4) + 38 * val (2 ^ 64) ((wl.drop 4).take 4)) : ints .u64 o = quad (foldN n % p2) ∧ cr = foldN n / p2 := by
  rw [List.take_of_length_le (l := wl.drop 4) (by rw [List.length_drop]; omega)] at h
  have hc := val_cut (B := 2 ^ 64) wl 4 (by omega)
  have h1 := val_take_lt hall (k := 4) (by omega)
  have h2 := val_lt oall
  have hd := digs_val oall
  rw [ho] at h2 hd
  rw [hv] at hc
  rw [quad_ints, ← hd]
  have e : (2 ^ 64) ^ 4 = p2 := by decide
  rw [e] at hc h1 h2 h
  clear e
  generalize val (2 ^ 64) (wl.take 4) = t at *
  generalize val (2 ^ 64) (wl.drop 4) = u at *
  generalize val (2 ^ 64) o = z at *
  have e1 : n % p2 = t := by rw [hc, Nat.add_mul_mod_self_left, Nat.mod_eq_of_lt h1]
  have e2 : n / p2 = u := by rw [hc, Nat.add_mul_div_left _ _ (by omega), Nat.div_eq_of_lt h1, Nat.zero_add]
  unfold foldN
  rw [e1, e2, ← h]
  rw [Nat.add_mul_mod_self_right, Nat.mod_eq_of_lt h2, Nat.add_mul_div_right _ _ (by omega), Nat.div_eq_of_lt h2, Nat.zero_add]
  exact ⟨rfl, rfl⟩

set_option maxRecDepth 100000 in
set_option maxHeartbeats 2000000 in
theorem mul_any (a b : Nat) (W : World) (ha : a < p2) (hb : b < p2) : Calls Tryz.prog 48 #[.agg (quad a), .agg (quad b)] W fun e w' => e = .returned (.agg (quad (mulN a b))) ∧ Below W.heap.size W w' := by
  have hpr := fun w => product_any a b w ha hb
  have hv := val_digs (B := 2 ^ 64) (a * b) 8
  rw [Nat.mod_eq_of_lt (product_bound ha hb)] at hv
  have hall := digs_all (B := 2 ^ 64) (by decide) (a * b) 8
  have hl := digs_length (B := 2 ^ 64) (a * b) 8
  obtain ⟨wl, hwl⟩ : ∃ wl, digs (2 ^ 64) (a * b) 8 = wl := ⟨_, rfl⟩
  simp only [hwl] at hpr
  rw [hwl] at hv hall hl
  have hs8 : (ints .u64 wl).size = 8 := by rw [ints_size, hl]
  have ho8 : ones (ints .u64 wl) = true := rows_one _ _
  obtain ⟨r, hr⟩ : ∃ r, mulN a b = r := ⟨_, rfl⟩
  rw [hr]
  have HPR := hid hpr
  have HV := hid hv
  have HL := hid hl
  have HR := hid hr
  clear hpr hv hl hwl hr
  go_enter Tryz.func48, Tryz.ntmps48
  go_wp2_with fail
  refine (HPR.out _).mono ?_
  rintro e w1 ⟨rfl, hb1⟩
  have kA := Kept.on (kept (b := W.heap.size + 1 + 1) (o := .cells (quad 0) 54 (0, 0)) (by go_simp)) hb1
  have b1 : Hid (Below W.heap.size W w1) := below_to (by repeat (first | exact Below.refl _ _ | exact below_new _ | assumption | refine Below.drew ?_ | refine Below.drewN ?_ _ | refine below_alloc ?_ _ | refine below_blk' ?_ (by omega) _)) hb1
  clear hb1
  try clear gA lA nA mA
  obtain ⟨gA, lA, nA, mA⟩ := kA
  go_upto_region 3 with (fail)
  obtain ⟨X, hX⟩ : ∃ X, w1.heap.size = X := ⟨_, rfl⟩
  obtain ⟨w2, hw2⟩ : ∃ w2, (w1.alloc (.cells (ints .u64 wl) 115)).alloc (.cells (quad 0) 54) = w2 := ⟨_, rfl⟩
  have gR := hid (show hget w2 (W.heap.size + 1 + 1) = some (.cells (quad 0) 54 (0, 0)) by rw [← hw2]; clear hw2 hX; go_simp)
  have gV : w2.heap[X]? = some (.cells (ints .u64 wl) 115 (0, 0)) := by rw [← hw2, ← hX]; exact alloc_old (alloc_at _ _)
  have gO : w2.heap[X + 1]? = some (.cells (ints .u64 [0, 0, 0, 0]) 54 (0, 0)) := by rw [← hw2, ← hX]; exact alloc_at' (by simp) _
  have b2 : Hid (Below W.heap.size W w2) := by rw [← hw2]; exact below_alloc (below_alloc b1.out _) _
  have hRX : W.heap.size + 1 + 1 < X := by rw [← hX]; exact lA
  rw [hw2, hX]
  clear hX hw2 gA lA nA mA b1
  go_wp2_with fail
  go_loopw [15, 7] (fun i cy wq => ∃ (k cr : Nat) (o : List Nat), k ≤ 4 ∧ i = .int .i64 (k : Int) ∧ cy = .int .u64 (cr : Int) ∧ cr < 18446744073709551616 ∧ o.length = 4 ∧ All (2 ^ 64) o ∧
      val (2 ^ 64) (o.take k) + cr * (2 ^ 64) ^ k = val (2 ^ 64) (wl.take k) + 38 * val (2 ^ 64) ((wl.drop 4).take k) ∧
      hget wq (W.heap.size + 1 + 1) = some (.cells (quad 0) 54 (0, 0)) ∧ wq.heap[X]? = some (.cells (ints .u64 wl) 115 (0, 0)) ∧ wq.heap[X + 1]? = some (.cells (ints .u64 o) 54 (0, 0)) ∧ Below W.heap.size W wq) (fun i _ _ => (4 - intOf i).toNat)
  case atStart => exact ⟨0, 0, [0, 0, 0, 0], by omega, rfl, rfl, by omega, rfl, by exact all_replicate 4 (by decide), by simp [DG.val], gR.out, gV, gO, b2.out⟩
  case round =>
    clear gV gO
    obtain ⟨k, cr, o, hk, rfl, rfl, hcr, hol, hoa, hv, qR, qV, qO, qb⟩ := hrel
    have HVM := hid hv
    have QR := hid qR
    have QBE := hid qb
    clear hv qR qb
    by_cases hk4 : k < 4
    · have hkd : decide ((k : Int) < 4) = true := decide_eq_true (by omega)
      have c1 := ints_cell qV (j := k + 4) (by rw [HL.out]; omega)
      have c2 := ints_cell qV (j := k) (by rw [HL.out]; omega)
      have c3 := ints_cell qO (j := k) (by omega)
      have x1 := hall.getD (j := k + 4) (by rw [HL.out]; omega)
      have y1 := hall.getD (j := k) (by rw [HL.out]; omega)
      have hfo := free_at qO
      have hi0 : 0 ≤ (k : Int) + 4 := by omega
      have hi1 : (k : Int) + 4 < 8 := by omega
      have hi2 : ((k : Int) + 4).toNat = k + 4 := by omega
      have hi3 : (k : Int) < 8 := by omega
      generalize hx : wl.getD (k + 4) 0 = x at *
      generalize hy : wl.getD k 0 = y at *
      have HX := hid hx
      have HY := hid hy
      have QV := hid qV
      have QO := hid qO
      clear hx hy qV qO
      go_wp2_with fail
      refine (mul64_any x 38 _ (by omega) (by omega)).mono ?_
      rintro e w' ⟨rfl, rfl⟩
      obtain ⟨hi, lo, eh, el, m1, m2, m3, m4, m5, m6⟩ := mul64_facts (x : Int) 38 (by omega) (by omega)
      rw [eh, el]
      clear eh el
      have hhi : hi ≤ 38 := by omega
      have tok1 : True := trivial
      have tok2 : True := trivial
      go_wp2_with (first | (have _t := tok1; refine wpList_add64 rfl rfl _ _ _ rfl rfl rfl (by omega) (by omega) (by omega) (by omega) (by omega) ?_; intro d1 e1 da1 db1 ea1 eb1 pa1 pb1; obtain ⟨d1, rfl⟩ := Int.eq_ofNat_of_zero_le da1; obtain ⟨e1, rfl⟩ := Int.eq_ofNat_of_zero_le ea1; clear tok1 _t) | (have _t := tok2; refine wpList_add64 rfl rfl _ _ _ rfl rfl rfl (by omega) (by omega) (by omega) (by omega) (by omega) ?_; intro d2 e2 da2 db2 ea2 eb2 pa2 pb2; obtain ⟨d2, rfl⟩ := Int.eq_ofNat_of_zero_le da2; obtain ⟨e2, rfl⟩ := Int.eq_ofNat_of_zero_le ea2; clear tok2 _t))
      have he : d2 + 2 ^ 64 * (hi.toNat + e1 + e2) = 38 * wl.getD (k + 4) 0 + wl.getD k 0 + cr := by rw [HX.out, HY.out]; omega
      have hst := mul_dig (o := o) HL.out hol hk4 HVM.out he
      have HST := hid hst
      have hci : hi + (e1 : Int) + (e2 : Int) = ((hi.toNat + e1 + e2 : Nat) : Int) := by omega
      clear he hst
      go_roundw
      case rel =>
        refine ⟨k + 1, hi.toNat + e1 + e2, o.set k d2, by omega, by go_num, congrArg (Value.int IntKind.u64) hci, by omega, by simp [hol], All.set hoa _ (by omega), HST.out, at_setCell_other QR.out (by simp; omega) _, at_setCell_other QV.out (by simp) _, ints_store QO.out _ _, QBE.out.setCell (by simp; omega) _⟩
      case measure => simp [intOf]; omega
    · have hkd : decide ((k : Int) < 4) = false := decide_eq_false (by omega)
      have hk5 : k = 4 := by omega
      have hv := HVM.out
      rw [hk5, List.take_of_length_le (l := o) (by omega)] at hv
      obtain ⟨r1, r2⟩ := mul_end HL.out hol hall hoa HV.out hv
      have hc := mul_foldlt ha hb
      rw [← r2] at hc
      rw [r1] at qO
      have hp := fun w => plus_any (foldN (a * b) % p2) (38 * cr) w (Nat.mod_lt _ (by decide)) (by omega)
      simp only [show ((38 * cr : Nat) : Int) = 38 * (cr : Int) by omega] at hp
      rw [r2] at hp
      simp only [show plusN (foldN (a * b) % p2) (38 * (foldN (a * b) / p2)) = r from HR.out] at hp
      rw [← r2] at hp
      obtain ⟨z, hz⟩ : ∃ z, foldN (a * b) % p2 = z := ⟨_, rfl⟩
      rw [hz] at qO
      simp only [hz] at hp
      have gO : hget wr (X + 1) = some (.cells (quad z) 54 (0, 0)) := qO
      have gR : hget wr (W.heap.size + 1 + 1) = some (.cells (quad 0) 54 (0, 0)) := QR.out
      have HP := hid hp
      clear hp hz r1 r2 hv hk5 qO qV HVM QR
      go_wp2_with fail
      refine (HP.out _).mono ?_
      rintro e w3 ⟨rfl, hb3⟩
      have kR := Kept.on (kept (b := W.heap.size + 1 + 1) (o := .cells (quad 0) 54 (0, 0)) (by go_simp)) hb3
      have b3 : Hid (Below W.heap.size W w3) := below_to (by repeat (first | exact Below.refl _ _ | exact below_new _ | exact QBE.out | assumption | refine Below.drew ?_ | refine Below.drewN ?_ _ | refine below_alloc ?_ _ | refine below_blk' ?_ (by omega) _)) hb3
      clear hb3
      try clear gR lR nR mR
      obtain ⟨gR, lR, nR, mR⟩ := kR
      clear QBE
      clear gO
      go_wp2_with fail
      refine bodyPost_ret (v := .agg (quad r)) (results_cell_row Tryz.results48 _ _ (W.heap.size + 1 + 1) 54 (quad r) (0, 0) _ (by rfl) (by rw [← hget_eq]; go_simp) Tryz.underlying54 rfl (by rw [info_Elem]; go_simp)) rfl ?_
      exact ⟨rfl, by repeat (first | exact Below.refl _ _ | exact below_new _ | exact b3.out | assumption | refine Below.drew ?_ | refine Below.drewN ?_ _ | refine below_alloc ?_ _ | refine below_blk' ?_ (by omega) _)⟩

end Go.Proofs.YtceljjnohjnepaaGreatDoor
