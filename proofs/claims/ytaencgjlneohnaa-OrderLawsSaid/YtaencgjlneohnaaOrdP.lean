/- The plain law of a step of the order's numbers: doubling, a bit, the order taken off. -/
import Derived.Test.YtaencgjlneohnaaBL
import Derived.Test.YtaencgjlneohnaaDG
namespace Go.Proofs.Ytaencgjlneohnaa
open Go.RowKit

def ordL : Nat := 7237005577332262213973186563042994240857116359379907606001950938285454250989

theorem dbl_word {a x c : Int} (h0 : 0 ≤ a) (h : a < 18446744073709551616) (hc : 0 ≤ c ∧ c ≤ 1) (x1 : x ≤ a * 2 % 18446744073709551616 + c) (x2 : a * 2 % 18446744073709551616 + c ≤ x) :
    2 * a + c = x + 18446744073709551616 * (a / 9223372036854775808) := by omega
theorem dbl_sum {a0 a1 a2 a3 x0 x1 x2 x3 c1 c2 c3 c4 b : Int} (h0 : 2 * a0 + b = x0 + 18446744073709551616 * c1) (h1 : 2 * a1 + c1 = x1 + 18446744073709551616 * c2)
    (h2 : 2 * a2 + c2 = x2 + 18446744073709551616 * c3) (h3 : 2 * a3 + c3 = x3 + 18446744073709551616 * c4) :
    x0 + 18446744073709551616 * x1 + 340282366920938463463374607431768211456 * x2 + 6277101735386680763835789423207666416102355444464034512896 * x3 + 115792089237316195423570985008687907853269984665640564039457584007913129639936 * c4 =
      2 * (a0 + 18446744073709551616 * a1 + 340282366920938463463374607431768211456 * a2 + 6277101735386680763835789423207666416102355444464034512896 * a3) + b := by omega
theorem sub_sum {x0 x1 x2 x3 l0 l1 l2 l3 d0 d1 d2 d3 e0 e1 e2 e3 : Int} (h0 : d0 + l0 + 0 = x0 + 18446744073709551616 * e0) (h1 : d1 + l1 + e0 = x1 + 18446744073709551616 * e1)
    (h2 : d2 + l2 + e1 = x2 + 18446744073709551616 * e2) (h3 : d3 + l3 + e2 = x3 + 18446744073709551616 * e3) :
    (d0 + 18446744073709551616 * d1 + 340282366920938463463374607431768211456 * d2 + 6277101735386680763835789423207666416102355444464034512896 * d3) + (l0 + 18446744073709551616 * l1 + 340282366920938463463374607431768211456 * l2 + 6277101735386680763835789423207666416102355444464034512896 * l3) =
      (x0 + 18446744073709551616 * x1 + 340282366920938463463374607431768211456 * x2 + 6277101735386680763835789423207666416102355444464034512896 * x3) + 115792089237316195423570985008687907853269984665640564039457584007913129639936 * e3 := by omega
/-- Four words are below 2^256. -/
theorem four_lt {a0 a1 a2 a3 : Int} (l0 : 0 ≤ a0) (l1 : 0 ≤ a1) (l2 : 0 ≤ a2) (l3 : 0 ≤ a3) (u0 : a0 < 18446744073709551616) (u1 : a1 < 18446744073709551616) (u2 : a2 < 18446744073709551616) (u3 : a3 < 18446744073709551616) :
    0 ≤ a0 + 18446744073709551616 * a1 + 340282366920938463463374607431768211456 * a2 + 6277101735386680763835789423207666416102355444464034512896 * a3 ∧
    a0 + 18446744073709551616 * a1 + 340282366920938463463374607431768211456 * a2 + 6277101735386680763835789423207666416102355444464034512896 * a3 < 115792089237316195423570985008687907853269984665640564039457584007913129639936 := by omega

theorem push_mod_lt {n b : Nat} (h : 2 * n + b < ordL) : (2 * n + b) % ordL = 2 * n + b := Nat.mod_eq_of_lt h
theorem push_mod_ge {n b : Nat} (h : ordL ≤ 2 * n + b) (hn : n < ordL) (hb : b ≤ 1) : (2 * n + b) % ordL = 2 * n + b - ordL := by
  rw [Nat.mod_eq_sub_mod h, Nat.mod_eq_of_lt (by omega)]

theorem push_law {n bn : Nat} {bit a0 a1 a2 a3 x0 x1 x2 x3 d0 d1 d2 d3 e0 e1 e2 e3 : Int} (hn : n < ordL) (hbn : (bn : Int) = bit) (hb1 : bn ≤ 1) (ha : W4 n a0 a1 a2 a3)
    (x0a : 0 ≤ x0) (x0b : x0 < 18446744073709551616) (x0c : x0 ≤ a0 * 2 % 18446744073709551616 + bit) (x0d : a0 * 2 % 18446744073709551616 + bit ≤ x0)
    (x1a : 0 ≤ x1) (x1b : x1 < 18446744073709551616) (x1c : x1 ≤ a1 * 2 % 18446744073709551616 + a0 / 9223372036854775808) (x1d : a1 * 2 % 18446744073709551616 + a0 / 9223372036854775808 ≤ x1)
    (x2a : 0 ≤ x2) (x2b : x2 < 18446744073709551616) (x2c : x2 ≤ a2 * 2 % 18446744073709551616 + a1 / 9223372036854775808) (x2d : a2 * 2 % 18446744073709551616 + a1 / 9223372036854775808 ≤ x2)
    (x3a : 0 ≤ x3) (x3b : x3 < 18446744073709551616) (x3c : x3 ≤ a3 * 2 % 18446744073709551616 + a2 / 9223372036854775808) (x3d : a3 * 2 % 18446744073709551616 + a2 / 9223372036854775808 ≤ x3)
    (da0 : 0 ≤ d0) (db0 : d0 < 18446744073709551616) (da1 : 0 ≤ d1) (db1 : d1 < 18446744073709551616) (da2 : 0 ≤ d2) (db2 : d2 < 18446744073709551616) (da3 : 0 ≤ d3) (db3 : d3 < 18446744073709551616)
    (pa0 : d0 + 6346243789798364141 + 0 ≤ x0 + 18446744073709551616 * e0) (pb0 : x0 + 18446744073709551616 * e0 ≤ d0 + 6346243789798364141 + 0)
    (pa1 : d1 + 1503914060200516822 + e0 ≤ x1 + 18446744073709551616 * e1) (pb1 : x1 + 18446744073709551616 * e1 ≤ d1 + 1503914060200516822 + e0)
    (pa2 : d2 + 0 + e1 ≤ x2 + 18446744073709551616 * e2) (pb2 : x2 + 18446744073709551616 * e2 ≤ d2 + 0 + e1)
    (pa3 : d3 + 1152921504606846976 + e2 ≤ x3 + 18446744073709551616 * e3) (pb3 : x3 + 18446744073709551616 * e3 ≤ d3 + 1152921504606846976 + e2) :
    (e3 = 0 → W4 ((2 * n + bn) % ordL) d0 d1 d2 d3) ∧ (e3 = 1 → W4 ((2 * n + bn) % ordL) x0 x1 x2 x3) := by
  obtain ⟨l0, l1, l2, l3, u0, u1, u2, u3, hv⟩ := ha
  have s1 := dbl_sum (dbl_word l0 u0 (by omega) x0c x0d) (dbl_word l1 u1 (by omega) x1c x1d) (dbl_word l2 u2 (by omega) x2c x2d) (dbl_word l3 u3 (by omega) x3c x3d)
  have s2 := sub_sum (Int.le_antisymm pa0 pb0) (Int.le_antisymm pa1 pb1) (Int.le_antisymm pa2 pb2) (Int.le_antisymm pa3 pb3)
  have bx := four_lt x0a x1a x2a x3a x0b x1b x2b x3b
  have bd := four_lt da0 da1 da2 da3 db0 db1 db2 db3
  rw [hv] at s1
  have hc : a3 / 9223372036854775808 = 0 := by
    clear s2 pa0 pb0 pa1 pb1 pa2 pb2 pa3 pb3 x0c x0d x1c x1d x2c x2d x3c x3d bd s1 bx
    unfold ordL at hn; omega
  rw [hc] at s1
  clear pa0 pb0 pa1 pb1 pa2 pb2 pa3 pb3 x0c x0d x1c x1d x2c x2d x3c x3d hc hv
  have hL : (6346243789798364141 + 18446744073709551616 * 1503914060200516822 + 340282366920938463463374607431768211456 * 0 + 6277101735386680763835789423207666416102355444464034512896 * 1152921504606846976 : Int) = (ordL : Nat) := by decide
  rw [hL] at s2
  generalize hX : x0 + 18446744073709551616 * x1 + 340282366920938463463374607431768211456 * x2 + 6277101735386680763835789423207666416102355444464034512896 * x3 = X at *
  generalize hD : d0 + 18446744073709551616 * d1 + 340282366920938463463374607431768211456 * d2 + 6277101735386680763835789423207666416102355444464034512896 * d3 = D at *
  refine ⟨fun h => ?_, fun h => ?_⟩
  · subst h
    refine ⟨da0, da1, da2, da3, db0, db1, db2, db3, ?_⟩
    rw [hD, push_mod_ge (by omega) hn hb1]
    omega
  · subst h
    refine ⟨x0a, x1a, x2a, x3a, x0b, x1b, x2b, x3b, ?_⟩
    rw [hX, push_mod_lt (by omega)]
    omega

open DG
theorem of_step (N k : Nat) (hk : 0 < k) : (2 * (N / 2 ^ k % ordL) + N / 2 ^ (k - 1) % 2) % ordL = N / 2 ^ (k - 1) % ordL := by
  have e : 2 ^ k = 2 ^ (k - 1) * 2 := by rw [← Nat.pow_succ]; congr 1; omega
  rw [e, ← Nat.div_div_eq_div_mul]
  generalize N / 2 ^ (k - 1) = m
  rw [Nat.add_mod, Nat.mul_mod, Nat.mod_mod, ← Nat.mul_mod, ← Nat.add_mod]
  congr 1; omega
theorem quad_ints (n : Nat) : quad n = #[.int .u64 (((digs (2 ^ 64) n 4).getD 0 0 : Nat) : Int), .int .u64 (((digs (2 ^ 64) n 4).getD 1 0 : Nat) : Int), .int .u64 (((digs (2 ^ 64) n 4).getD 2 0 : Nat) : Int), .int .u64 (((digs (2 ^ 64) n 4).getD 3 0 : Nat) : Int)] := by
  rw [digs_getD n (by decide), digs_getD n (by decide), digs_getD n (by decide), digs_getD n (by decide), show ((2 : Nat) ^ 64) ^ 0 = 1 from rfl, Nat.div_one, show ((2 : Nat) ^ 64) ^ 1 = 18446744073709551616 from rfl,
    show ((2 : Nat) ^ 64) ^ 2 = 340282366920938463463374607431768211456 from rfl, show ((2 : Nat) ^ 64) ^ 3 = 6277101735386680763835789423207666416102355444464034512896 from rfl]
  rfl
theorem val_take_succ {B : Nat} (l : List Nat) (k : Nat) (h : k < l.length) : val B (l.take (k + 1)) = val B (l.take k) + l.getD k 0 * B ^ k := by
  rw [List.take_succ_eq_append_getElem h, val_append]
  simp [val, Nat.min_eq_left (Nat.le_of_lt h), h]
  rw [Nat.mul_comm]
/-- One word of a product: the row of words behind it. -/
theorem mul_step {B : Nat} {wl : List Nat} {j v y x c c' V0 t i k : Nat} (hj : j < wl.length) (hjk : j = i + k) (h : val B wl + c * B ^ j = V0 + x * t * B ^ i)
    (he : v + B * c' = x * y + wl.getD j 0 + c) :
    val B (wl.set j v) + c' * B ^ (j + 1) = V0 + x * (t + y * B ^ k) * B ^ i := by
  have hs := val_set (B := B) hj v
  have e1 : (v + B * c') * B ^ j = (x * y + wl.getD j 0 + c) * B ^ j := by rw [he]
  have e2 : x * (t + y * B ^ k) * B ^ i = x * t * B ^ i + x * y * B ^ j := by
    rw [Nat.mul_add, Nat.add_mul, hjk, Nat.pow_add, Nat.mul_comm (B ^ i), ← Nat.mul_assoc x y, Nat.mul_assoc (x * y)]
  rw [Nat.add_mul, Nat.add_mul, Nat.add_mul] at e1
  rw [e2, Nat.pow_succ B j]
  have e3 : c' * (B ^ j * B) = B * c' * B ^ j := by rw [Nat.mul_comm (B ^ j), ← Nat.mul_assoc, Nat.mul_comm c']
  rw [e3]
  omega
theorem carry_step {B : Nat} {wl : List Nat} {j v c c' V : Nat} (hj : j < wl.length) (h : val B wl + c * B ^ j = V) (he : v + B * c' = wl.getD j 0 + c) :
    val B (wl.set j v) + c' * B ^ (j + 1) = V := by
  have hs := val_set (B := B) hj v
  have e1 : (v + B * c') * B ^ j = (wl.getD j 0 + c) * B ^ j := by rw [he]
  rw [Nat.add_mul, Nat.add_mul] at e1
  rw [Nat.pow_succ B j, show c' * (B ^ j * B) = B * c' * B ^ j by rw [Nat.mul_comm (B ^ j), ← Nat.mul_assoc, Nat.mul_comm c']]
  omega
theorem All.set {B : Nat} {l : List Nat} (h : All B l) (j : Nat) {v : Nat} (hv : v < B) : All B (l.set j v) := fun x hx => by
  rcases List.mem_or_eq_of_mem_set hx with h1 | h1
  · exact h x h1
  · rw [h1]; exact hv
theorem row_bound {B : Nat} {a b c : Nat} (ha : a < B ^ 4) (hb : b < B ^ 4) (hc : c < B ^ 4) : c + a * b < B ^ 8 := by
  have h1 : a * b ≤ a * B ^ 4 := Nat.mul_le_mul_left _ (Nat.le_of_lt hb)
  have h2 : (a + 1) * B ^ 4 ≤ B ^ 4 * B ^ 4 := Nat.mul_le_mul_right _ ha
  rw [← Nat.pow_add, Nat.add_mul] at h2
  simp only [Nat.reduceAdd, Nat.one_mul] at h2
  omega
theorem no_carry {B v c V j : Nat} (hB : V < B ^ j) (h : v + c * B ^ j = V) : c = 0 ∧ v = V := by
  rcases Nat.eq_zero_or_pos c with h0 | h0
  · subst h0; simp at h; exact ⟨rfl, h⟩
  · have : 1 * B ^ j ≤ c * B ^ j := Nat.mul_le_mul_right _ h0
    omega
theorem quad_zero : quad 0 = #[.int .u64 0, .int .u64 0, .int .u64 0, .int .u64 0] := rfl

end Go.Proofs.Ytaencgjlneohnaa
