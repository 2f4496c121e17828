/- The plain laws of numbers in four words, modulo 2^255 - 19. -/
import Derived.Test.YtoaihbmicdbaiaaBL
import Derived.Test.YtoaihbmicdbaiaaDG
namespace Go.Proofs.Ytoaihbmicdbaiaa
open Go.RowKit

def pP : Nat := 57896044618658097711785492504343953926634992332820282019728792003956564819949
def p2 : Nat := 115792089237316195423570985008687907853269984665640564039457584007913129639936
def plusN (a n : Nat) : Nat := (a + n) % p2 + 38 * ((a + n) / p2)
def addN (a b : Nat) : Nat := plusN ((a + b) % p2) (38 * ((a + b) / p2))
def subN (a b : Nat) : Nat :=
  ((a + p2 - b) % p2 + p2 - 38 * (if a < b then 1 else 0)) % p2 - 38 * (if (a + p2 - b) % p2 < 38 * (if a < b then 1 else 0) then 1 else 0)
def foldN (t : Nat) : Nat := t % p2 + 38 * (t / p2)
def mulN (a b : Nat) : Nat := plusN (foldN (a * b) % p2) (38 * (foldN (a * b) / p2))

theorem p2_eq : p2 = 2 * pP + 38 := rfl
theorem fold_mod (t : Nat) : foldN t % pP = t % pP := by
  unfold foldN
  have h := Nat.div_add_mod t p2
  have e : t = (t % p2 + 38 * (t / p2)) + pP * (2 * (t / p2)) := by
    conv => lhs; rw [← h, p2_eq]
    rw [Nat.add_mul, ← Nat.mul_assoc pP 2, Nat.mul_comm pP 2]
    rw [← p2_eq]; omega
  conv => rhs; rw [e]
  rw [Nat.add_mul_mod_self_left]
theorem plus_lt {a n : Nat} (ha : a < p2) (hn : n ≤ 10000) : plusN a n < p2 := by unfold plusN p2 at *; omega
theorem plus_mod (a n : Nat) : plusN a n % pP = (a + n) % pP := fold_mod (a + n)
theorem add_lt {a b : Nat} (ha : a < p2) (hb : b < p2) : addN a b < p2 := plus_lt (Nat.mod_lt _ (by decide)) (by
  have : (a + b) / p2 < 2 := Nat.div_lt_of_lt_mul (by omega)
  omega)
theorem add_mod (a b : Nat) : addN a b % pP = (a + b) % pP := by
  unfold addN
  rw [plus_mod]; exact fold_mod (a + b)
theorem sub_lt {a b : Nat} (_ : a < p2) (_ : b < p2) : subN a b < p2 := by
  unfold subN
  have : ((a + p2 - b) % p2 + p2 - 38 * (if a < b then 1 else 0)) % p2 < p2 := Nat.mod_lt _ (by decide)
  omega
theorem sub_key {a b M P : Nat} (hM : M = 2 * P + 38) (hP : 100 < P) (ha : a < M) (hb : b < M) :
    ∃ k, (((a + M - b) % M + M - 38 * (if a < b then 1 else 0)) % M - 38 * (if (a + M - b) % M < 38 * (if a < b then 1 else 0) then 1 else 0)) + b + k * P = a + 4 * P := by
  by_cases h : a < b
  · rw [if_pos h]
    have e1 : (a + M - b) % M = a + M - b := Nat.mod_eq_of_lt (by omega)
    rw [e1]
    by_cases h2 : a + M - b < 38 * 1
    · rw [if_pos h2]
      have e2 : (a + M - b + M - 38 * 1) % M = a + M - b + M - 38 * 1 := Nat.mod_eq_of_lt (by omega)
      rw [e2]
      exact ⟨0, by omega⟩
    · rw [if_neg h2]
      have e2 : (a + M - b + M - 38 * 1) % M = a + M - b - 38 := by
        rw [show a + M - b + M - 38 * 1 = (a + M - b - 38) + M by omega, Nat.add_mod_right, Nat.mod_eq_of_lt (by omega)]
      rw [e2]
      exact ⟨2, by omega⟩
  · rw [if_neg h]
    simp only [Nat.mul_zero, Nat.not_lt_zero, if_false, Nat.sub_zero]
    have e1 : (a + M - b) % M = a - b := by rw [show a + M - b = (a - b) + M by omega, Nat.add_mod_right, Nat.mod_eq_of_lt (by omega)]
    rw [e1, Nat.add_mod_right, Nat.mod_eq_of_lt (by omega)]
    exact ⟨4, by omega⟩
theorem sub_mod {a b : Nat} (ha : a < p2) (hb : b < p2) : (subN a b + b) % pP = a % pP := by
  obtain ⟨k, hk⟩ := sub_key (P := pP) p2_eq (by decide) ha hb
  have hk' : subN a b + b + k * pP = a + 4 * pP := hk
  have h1 := congrArg (· % pP) hk'
  simpa [Nat.add_mul_mod_self_right] using h1
theorem mul_foldlt {a b : Nat} (ha : a < p2) (hb : b < p2) : foldN (a * b) / p2 ≤ 38 := by
  have h1 : a * b < p2 * p2 := Nat.mul_lt_mul'' ha hb
  have h2 : a * b / p2 < p2 := Nat.div_lt_of_lt_mul h1
  have h3 : foldN (a * b) < 39 * p2 := by
    unfold foldN
    have := Nat.mod_lt (a * b) (show 0 < p2 by decide)
    omega
  have h4 : foldN (a * b) / p2 < 39 := Nat.div_lt_of_lt_mul (Nat.lt_of_lt_of_eq h3 (Nat.mul_comm _ _))
  omega
theorem mul_lt {a b : Nat} (ha : a < p2) (hb : b < p2) : mulN a b < p2 := plus_lt (Nat.mod_lt _ (by decide)) (by have := mul_foldlt ha hb; omega)
theorem mul_mod (a b : Nat) : mulN a b % pP = a * b % pP := by
  unfold mulN
  rw [plus_mod]
  have := fold_mod (foldN (a * b))
  unfold foldN at this ⊢
  rw [this]
  exact fold_mod (a * b)

/-- Four words, without their sum. -/
theorem w4_of {n : Nat} {a0 a1 a2 a3 : Int} (h0 : 0 ≤ a0 ∧ a0 < 18446744073709551616) (h1 : 0 ≤ a1 ∧ a1 < 18446744073709551616) (h2 : 0 ≤ a2 ∧ a2 < 18446744073709551616) (h3 : 0 ≤ a3 ∧ a3 < 18446744073709551616)
    (h : a0 + 18446744073709551616 * a1 + 340282366920938463463374607431768211456 * a2 + 6277101735386680763835789423207666416102355444464034512896 * a3 = n) : W4 n a0 a1 a2 a3 :=
  ⟨h0.1, h1.1, h2.1, h3.1, h0.2, h1.2, h2.2, h3.2, h⟩
theorem four_lt {a0 a1 a2 a3 : Int} (l0 : 0 ≤ a0) (l1 : 0 ≤ a1) (l2 : 0 ≤ a2) (l3 : 0 ≤ a3) (u0 : a0 < 18446744073709551616) (u1 : a1 < 18446744073709551616) (u2 : a2 < 18446744073709551616) (u3 : a3 < 18446744073709551616) :
    0 ≤ a0 + 18446744073709551616 * a1 + 340282366920938463463374607431768211456 * a2 + 6277101735386680763835789423207666416102355444464034512896 * a3 ∧
    a0 + 18446744073709551616 * a1 + 340282366920938463463374607431768211456 * a2 + 6277101735386680763835789423207666416102355444464034512896 * a3 < 115792089237316195423570985008687907853269984665640564039457584007913129639936 := by omega
theorem add_sum {a0 a1 a2 a3 b0 b1 b2 b3 d0 d1 d2 d3 e0 e1 e2 e3 : Int} (h0 : d0 + 18446744073709551616 * e0 = a0 + b0) (h1 : d1 + 18446744073709551616 * e1 = a1 + b1 + e0)
    (h2 : d2 + 18446744073709551616 * e2 = a2 + b2 + e1) (h3 : d3 + 18446744073709551616 * e3 = a3 + b3 + e2) :
    (d0 + 18446744073709551616 * d1 + 340282366920938463463374607431768211456 * d2 + 6277101735386680763835789423207666416102355444464034512896 * d3) + 115792089237316195423570985008687907853269984665640564039457584007913129639936 * e3 =
      (a0 + 18446744073709551616 * a1 + 340282366920938463463374607431768211456 * a2 + 6277101735386680763835789423207666416102355444464034512896 * a3) + (b0 + 18446744073709551616 * b1 + 340282366920938463463374607431768211456 * b2 + 6277101735386680763835789423207666416102355444464034512896 * b3) := by omega
/-- Splitting a sum with its carry. -/
theorem split_carry {X : Nat} {D e : Int} (h : D + 115792089237316195423570985008687907853269984665640564039457584007913129639936 * e = X) (h0 : 0 ≤ D) (h1 : D < 115792089237316195423570985008687907853269984665640564039457584007913129639936) (he : 0 ≤ e) :
    D = ((X % p2 : Nat) : Int) ∧ e = ((X / p2 : Nat) : Int) := by
  unfold p2
  omega

/-- 'plus': the law of its four sums. -/
theorem plus_law {n a : Nat} {a0 a1 a2 a3 d0 d1 d2 d3 e0 e1 e2 e3 : Int} (ha : W4 a a0 a1 a2 a3) (hn : n ≤ 10000)
    (d0l : 0 ≤ d0) (d0u : d0 < 18446744073709551616) (d1l : 0 ≤ d1) (d1u : d1 < 18446744073709551616) (d2l : 0 ≤ d2) (d2u : d2 < 18446744073709551616) (d3l : 0 ≤ d3) (d3u : d3 < 18446744073709551616)
    (e3l : 0 ≤ e3) (e3u : e3 ≤ 1)
    (p0 : d0 + 18446744073709551616 * e0 ≤ a0 + (n : Int) + 0) (q0 : a0 + (n : Int) + 0 ≤ d0 + 18446744073709551616 * e0)
    (p1 : d1 + 18446744073709551616 * e1 ≤ a1 + 0 + e0) (q1 : a1 + 0 + e0 ≤ d1 + 18446744073709551616 * e1)
    (p2' : d2 + 18446744073709551616 * e2 ≤ a2 + 0 + e1) (q2 : a2 + 0 + e1 ≤ d2 + 18446744073709551616 * e2)
    (p3 : d3 + 18446744073709551616 * e3 ≤ a3 + 0 + e2) (q3 : a3 + 0 + e2 ≤ d3 + 18446744073709551616 * e3) :
    0 ≤ d0 + 38 * e3 ∧ d0 + 38 * e3 < 18446744073709551616 ∧ W4 (plusN a n) (d0 + 38 * e3) d1 d2 d3 := by
  obtain ⟨l0, l1, l2, l3, u0, u1, u2, u3, hv⟩ := ha
  have s := add_sum (a0 := a0) (a1 := a1) (a2 := a2) (a3 := a3) (b0 := n) (b1 := 0) (b2 := 0) (b3 := 0) (d0 := d0) (d1 := d1) (d2 := d2) (d3 := d3) (e0 := e0) (e1 := e1) (e2 := e2) (e3 := e3) (by omega) (by omega) (by omega) (by omega)
  have b := four_lt d0l d1l d2l d3l d0u d1u d2u d3u
  rw [hv] at s
  clear p0 q0 p1 q1 p2' q2 p3 q3
  have hsp := split_carry (X := a + n) (D := d0 + 18446744073709551616 * d1 + 340282366920938463463374607431768211456 * d2 + 6277101735386680763835789423207666416102355444464034512896 * d3) (e := e3) (by rw [s]; simp) b.1 b.2 e3l
  have hA : (a : Int) < 115792089237316195423570985008687907853269984665640564039457584007913129639936 := by rw [← hv]; exact (four_lt l0 l1 l2 l3 u0 u1 u2 u3).2
  have hd : 0 ≤ d0 + 38 * e3 ∧ d0 + 38 * e3 < 18446744073709551616 := by
    refine ⟨by omega, ?_⟩
    obtain h | h : e3 = 0 ∨ e3 = 1 := by omega
    · omega
    · subst h
      clear hsp b
      omega
  refine ⟨hd.1, hd.2, w4_of hd ⟨d1l, d1u⟩ ⟨d2l, d2u⟩ ⟨d3l, d3u⟩ ?_⟩
  have e : ((plusN a n : Nat) : Int) = (((a + n) % p2 : Nat) : Int) + 38 * (((a + n) / p2 : Nat) : Int) := by unfold plusN; push_cast; rfl
  rw [e, ← hsp.1, ← hsp.2]
  omega
end Go.Proofs.Ytoaihbmicdbaiaa
