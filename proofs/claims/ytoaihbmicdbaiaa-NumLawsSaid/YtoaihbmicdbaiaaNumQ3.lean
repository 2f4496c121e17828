/- Plain: what the program reckons and what the document reckons are the same modulo the prime. -/
import Derived.Test.YtoaihbmicdbaiaaNumR6
import Derived.Test.YtoaihbmicdbaiaaNumW11
namespace Go.Proofs.Ytoaihbmicdbaiaa
open DG

theorem mm (a b : Nat) : mulN a b % pP = (a % pP) * (b % pP) % pP := by rw [mul_mod, Nat.mul_mod]
theorem ones_mod (a k : Nat) : onesN a k % pP = rOnes (a % pP) k := by
  induction k with
  | zero => exact (by decide : (1 : Nat) % pP = 1)
  | succ k ih =>
    show mulN (mulN (onesN a k) (onesN a k)) a % pP = (rOnes (a % pP) k * rOnes (a % pP) k % pP) * (a % pP) % pP
    rw [mm, mm, ih]
theorem bits_mod {a x r : Nat} {bits : List Nat} {l : List UInt8} (hb : ∀ k, (((bits.getD k 0 : Nat) : Int) == 1) = (((l.getD k 0).toNat : Int) == 49)) (hx : x % pP = r) (k : Nat) : bitsN a x bits k % pP = rBits (a % pP) r l k := by
  induction k with
  | zero => exact hx
  | succ k ih =>
    show (if (((bits.getD k 0 : Nat) : Int) == 1) = true then mulN (mulN (bitsN a x bits k) (bitsN a x bits k)) a else mulN (bitsN a x bits k) (bitsN a x bits k)) % pP =
      if (((l.getD k 0).toNat : Int) == 49) = true then (rBits (a % pP) r l k * rBits (a % pP) r l k % pP) * (a % pP) % pP else rBits (a % pP) r l k * rBits (a % pP) r l k % pP
    rw [hb k]
    split
    · rw [mm, mm, ih]
    · rw [mm, ih]
theorem raised_mod {a : Nat} {bits : List Nat} {l : List UInt8} (hb : ∀ k, (((bits.getD k 0 : Nat) : Int) == 1) = (((l.getD k 0).toNat : Int) == 49)) (hl : bits.length = l.length) : raisedN a bits % pP = rPow (a % pP) l := by
  unfold raisedN rPow
  rw [hl]
  exact bits_mod hb (ones_mod a 250) _
theorem inv_mod (a : Nat) : invN a % pP = rInv (a % pP) := raised_mod (bits := [0, 1, 0, 1, 1]) (l := [48, 49, 48, 49, 49]) (fun k => by (match k with | 0 | 1 | 2 | 3 | 4 => rfl | k + 5 => simp)) rfl
theorem root0_mod (a : Nat) : root0 a % pP = rRoot0 (a % pP) := raised_mod (bits := [1, 0]) (l := [49, 48]) (fun k => by (match k with | 0 | 1 => rfl | k + 2 => simp)) rfl
theorem rootS_mod : rootS % pP = rRootS := by
  have := raised_mod (a := 2) (bits := [0, 1, 1]) (l := [48, 49, 49]) (fun k => by (match k with | 0 | 1 | 2 => rfl | k + 3 => simp)) rfl
  rw [show 2 % pP = 2 from by decide] at this
  unfold rootS rRootS
  exact this
theorem root1_mod (a : Nat) : root1 a % pP = rRoot1 (a % pP) := by
  unfold root1 rRoot1
  rw [mm, root0_mod]
  split
  · exact root0_mod a
  · rw [mm, root0_mod, rootS_mod]
theorem neg_key {P s r : Nat} (hs : s < P) (hr : r < P) (h : (s + r) % P = 0) : s = (0 + (P - r)) % P := by
  rcases Nat.lt_or_ge (s + r) P with h1 | h1
  · rw [Nat.mod_eq_of_lt h1] at h
    have : r = 0 := by omega
    subst this
    rw [Nat.zero_add, Nat.sub_zero, Nat.mod_self]; omega
  · rw [Nat.mod_eq_sub_mod h1, Nat.mod_eq_of_lt (by omega)] at h
    rw [Nat.mod_eq_of_lt (by omega)]; omega
theorem sub0_mod {c : Nat} (hc : c < p2) : subN 0 c % pP = (0 + (pP - c % pP)) % pP := by
  have h := sub_mod (a := 0) (b := c) (by decide) hc
  rw [Nat.zero_mod, Nat.add_mod] at h
  exact neg_key (Nat.mod_lt _ (by decide)) (Nat.mod_lt _ (by decide)) h
theorem root2_mod {a : Nat} (ha : a < p2) (odd : Bool) : root2 a odd % pP = rRoot2 (a % pP) odd := by
  unfold root2 rRoot2
  rw [root1_mod]
  cases hd : decide (rRoot1 (a % pP) % 2 = 1) <;> cases odd <;> simp [sub0_mod (root1_lt ha), root1_mod]
theorem sq_neg {P r : Nat} (hr : r < P) : ((0 + (P - r)) % P) * ((0 + (P - r)) % P) % P = r * r % P := by
  rw [← Nat.mul_mod, Nat.zero_add]
  have e : (P - r) * (P - r) + r * (2 * (P - r)) + r * r = P * P := by
    obtain ⟨d, rfl⟩ : ∃ d, P = r + d := ⟨P - r, by omega⟩
    rw [show r + d - r = d by omega, Nat.add_mul, Nat.mul_add, Nat.mul_add, Nat.mul_left_comm r 2 d, Nat.two_mul, Nat.mul_comm d r]
    omega
  have h2 : (P - r) * (P - r) + P * (2 * r) = r * r + P * P := by
    obtain ⟨d, rfl⟩ : ∃ d, P = r + d := ⟨P - r, by omega⟩
    rw [show r + d - r = d by omega] at e ⊢
    rw [Nat.add_mul r d (2 * r), Nat.add_mul, Nat.mul_add, Nat.mul_add, Nat.mul_left_comm r 2 r, Nat.mul_left_comm d 2 r, Nat.mul_comm d r, Nat.two_mul, Nat.two_mul]
    omega
  have h3 := congrArg (· % P) h2
  simpa using h3
theorem rsq (b : Nat) (odd : Bool) : rRoot2 b odd * rRoot2 b odd % pP = rRoot1 b * rRoot1 b % pP := by
  unfold rRoot2
  split
  · exact sq_neg (rRoot1_lt b)
  · rfl
theorem ok_mod {a : Nat} (ha : a < p2) (odd : Bool) : rootOk a odd = (rIs (a % pP) && (decide (rRoot2 (a % pP) odd % 2 = 1) == odd)) := by
  unfold rootOk rIs
  rw [mm, root2_mod ha, rsq]
theorem parity {P r : Nat} (hP : P % 2 = 1) (hr : r < P) (h0 : r ≠ 0) : decide ((0 + (P - r)) % P % 2 = 1) = !decide (r % 2 = 1) := by
  rw [Nat.mod_eq_of_lt (a := 0 + (P - r)) (b := P) (by omega)]
  by_cases h : r % 2 = 1
  · rw [decide_eq_true h, decide_eq_false (by omega)]; rfl
  · rw [decide_eq_false h, decide_eq_true (by omega)]; rfl
theorem rRoot2_zero {b : Nat} {odd : Bool} (h : (decide (rRoot2 b odd % 2 = 1) == odd) = false) : rRoot2 b odd = 0 := by
  unfold rRoot2 at h ⊢
  by_cases hc : (decide (rRoot1 b % 2 = 1) != odd) = true
  · rw [if_pos hc] at h ⊢
    by_cases h0 : rRoot1 b = 0
    · rw [h0, Nat.zero_add, Nat.sub_zero, Nat.mod_self]
    · rw [parity (by decide) (rRoot1_lt b) h0] at h
      cases hd : decide (rRoot1 b % 2 = 1) <;> cases odd <;> simp [hd] at h hc
  · rw [if_neg hc] at h
    cases hd : decide (rRoot1 b % 2 = 1) <;> cases odd <;> simp [hd] at h hc
/-- The value that is handed back. -/
def rootV (a : Nat) (odd : Bool) : Nat := if rootOk a odd = true then root2 a odd else 0
theorem rootV_lt {a : Nat} (ha : a < p2) (odd : Bool) : rootV a odd < p2 := by
  unfold rootV; split
  · exact root2_lt ha odd
  · decide
theorem rootV_mod {a : Nat} (ha : a < p2) (odd : Bool) : rootV a odd % pP = if rIs (a % pP) = true then rRoot2 (a % pP) odd else 0 := by
  unfold rootV
  rw [ok_mod ha]
  cases h1 : rIs (a % pP)
  · rfl
  · cases h2 : (decide (rRoot2 (a % pP) odd % 2 = 1) == odd)
    · rw [rRoot2_zero h2]; rfl
    · exact root2_mod ha odd
theorem add_mod2 (a b : Nat) : addN a b % pP = (a % pP + b % pP) % pP := by rw [add_mod, Nat.add_mod]
theorem sub_key2 {P s a b : Nat} (hs : s < P) (ha : a < P) (hb : b < P) (h : (s + b) % P = a) : s = (a + (P - b)) % P := by
  rcases Nat.lt_or_ge (s + b) P with h1 | h1
  · rw [Nat.mod_eq_of_lt h1] at h
    rw [show a + (P - b) = s + P by omega, Nat.add_mod_right, Nat.mod_eq_of_lt hs]
  · rw [Nat.mod_eq_sub_mod h1, Nat.mod_eq_of_lt (by omega)] at h
    rw [show a + (P - b) = s by omega, Nat.mod_eq_of_lt hs]
theorem sub_mod2 {a b : Nat} (ha : a < p2) (hb : b < p2) : subN a b % pP = (a % pP + (pP - b % pP)) % pP := by
  have h := sub_mod ha hb
  rw [Nat.add_mod] at h
  exact sub_key2 (Nat.mod_lt _ (by decide)) (Nat.mod_lt _ (by decide)) (Nat.mod_lt _ (by decide)) h
end Go.Proofs.Ytoaihbmicdbaiaa
