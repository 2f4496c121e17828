/- Plain: the numbers that are not 0 are the powers of 2; which of them have roots. -/
import Derived.Test.YtoaihbmicdbaiaaNT2
import Derived.Test.YtoaihbmicdbaiaaNumQ3
namespace Go.Proofs.Ytoaihbmicdbaiaa
open DG

theorem P_eq : NT.P = pP := rfl
/-- Powers of 2, modulo the prime. -/
def gP (e : Nat) : Nat := 2 ^ e % pP
theorem g_lt (e : Nat) : gP e < pP := Nat.mod_lt _ (by decide)
theorem g_add (a b : Nat) : gP (a + b) = gP a * gP b % pP := by unfold gP; rw [Nat.pow_add, Nat.mul_mod]
theorem g_log {a : Nat} (h0 : 0 < a) (h1 : a < pP) : ∃ k, gP k = a := by
  obtain ⟨k, _, hk⟩ := NT.P_log a h0 h1
  exact ⟨k, hk⟩
theorem g_zero : gP 0 = 1 := by unfold gP; decide
theorem g_of {e n : Nat} (h : 2 ^ e % NT.P = n) : gP e = n := h
theorem g_pm1 : gP 57896044618658097711785492504343953926634992332820282019728792003956564819948 = 1 := by rw [← (by decide : NT.P - 1 = 57896044618658097711785492504343953926634992332820282019728792003956564819948)]; exact g_of NT.P_one
theorem g_half : gP 28948022309329048855892746252171976963317496166410141009864396001978282409974 = pP - 1 := by rw [← (by decide : (NT.P - 1) / 2 = 28948022309329048855892746252171976963317496166410141009864396001978282409974)]; exact g_of NT.P_half
attribute [irreducible] gP
theorem g_one1 : gP 1 = 2 := by unfold gP; decide
theorem g_period (k : Nat) : gP (k * 57896044618658097711785492504343953926634992332820282019728792003956564819948) = 1 := by
  induction k with
  | zero => rw [Nat.zero_mul]; exact g_zero
  | succ k ih => rw [Nat.succ_mul, g_add, ih, g_pm1]; decide
theorem g_pos (e : Nat) : gP e ≠ 0 := fun h => by
  have h1 := g_period e
  rw [show e * 57896044618658097711785492504343953926634992332820282019728792003956564819948 = e + e * 57896044618658097711785492504343953926634992332820282019728792003956564819947 by omega, g_add, h, Nat.zero_mul, Nat.zero_mod] at h1
  exact absurd h1 (by decide)
theorem neg_mul {x : Nat} (h0 : 0 < x) (h1 : x < pP) : x * (pP - 1) % pP = pP - x := by
  have e : x * (pP - 1) = (pP - x) + (x - 1) * pP := by
    obtain ⟨y, rfl⟩ : ∃ y, x = y + 1 := ⟨x - 1, by omega⟩
    have hp : 1 ≤ pP := by decide
    rw [Nat.mul_sub, Nat.mul_one, Nat.add_sub_cancel, Nat.add_mul, Nat.one_mul]
    omega
  rw [e, Nat.add_mul_mod_self_right, Nat.mod_eq_of_lt (by omega)]
theorem g_neg (e : Nat) : gP (e + 28948022309329048855892746252171976963317496166410141009864396001978282409974) = pP - gP e := by
  rw [g_add, g_half]
  exact neg_mul (Nat.pos_of_ne_zero (g_pos e)) (g_lt e)
/-- A multiple of half the period. -/
theorem g_halves (e m : Nat) : gP (e + m * 28948022309329048855892746252171976963317496166410141009864396001978282409974) = if m % 2 = 0 then gP e else pP - gP e := by
  induction m with
  | zero => rw [Nat.zero_mul, Nat.add_zero]; rfl
  | succ m ih =>
    rw [Nat.succ_mul, ← Nat.add_assoc, g_neg, ih]
    have := g_lt e
    by_cases h : m % 2 = 0
    · rw [if_pos h, if_neg (by omega)]
    · rw [if_neg h, if_pos (by omega)]; omega

theorem ones_g (k n : Nat) : rOnes (gP k) n = gP (k * (2 ^ n - 1)) := by
  induction n with
  | zero => rw [Nat.pow_zero, Nat.sub_self, Nat.mul_zero, g_zero]; rfl
  | succ n ih =>
    show (rOnes (gP k) n * rOnes (gP k) n % pP) * gP k % pP = _
    rw [ih, ← g_add, ← g_add]
    congr 1
    have h1 : 0 < 2 ^ n := Nat.two_pow_pos n
    rw [Nat.pow_succ]
    obtain ⟨m, hm⟩ : ∃ m, 2 ^ n = m + 1 := ⟨2 ^ n - 1, by omega⟩
    rw [hm, Nat.add_sub_cancel, show (m + 1) * 2 - 1 = m + m + 1 by omega, Nat.mul_add, Nat.mul_add, Nat.mul_one]
theorem ones250 (k : Nat) : rOnes (gP k) 250 = gP (k * 1809251394333065553493296640760748560207343510400633813116524750123642650623) := by
  rw [ones_g, show 2 ^ 250 - 1 = 1809251394333065553493296640760748560207343510400633813116524750123642650623 from by decide]
/-- The exponent. -/
def exB (k u : Nat) (l : List UInt8) : Nat → Nat
  | 0 => u
  | j + 1 => if (((l.getD j 0).toNat : Int) == 49) = true then exB k u l j + exB k u l j + k else exB k u l j + exB k u l j
theorem rBits_g (k u : Nat) (l : List UInt8) (j : Nat) : rBits (gP k) (gP u) l j = gP (exB k u l j) := by
  induction j with
  | zero => rfl
  | succ j ih =>
    show (if (((l.getD j 0).toNat : Int) == 49) = true then (rBits (gP k) (gP u) l j * rBits (gP k) (gP u) l j % pP) * gP k % pP else rBits (gP k) (gP u) l j * rBits (gP k) (gP u) l j % pP) = gP (if (((l.getD j 0).toNat : Int) == 49) = true then exB k u l j + exB k u l j + k else exB k u l j + exB k u l j)
    rw [ih]
    split
    · rw [← g_add, ← g_add]
    · rw [← g_add]
theorem ex_inv (k u : Nat) : exB k u [48, 49, 48, 49, 49] 5 = 32 * u + 11 * k := by
  show (((u + u) + (u + u) + k) + ((u + u) + (u + u) + k)) + (((u + u) + (u + u) + k) + ((u + u) + (u + u) + k)) + k + ((((u + u) + (u + u) + k) + ((u + u) + (u + u) + k)) + (((u + u) + (u + u) + k) + ((u + u) + (u + u) + k)) + k) + k = _
  omega
theorem ex_root0 (k u : Nat) : exB k u [49, 48] 2 = 4 * u + 2 * k := by
  show (u + u + k) + (u + u + k) = _
  omega
theorem ex_rootS (k u : Nat) : exB k u [48, 49, 49] 3 = 8 * u + 3 * k := by
  show ((u + u) + (u + u) + k) + ((u + u) + (u + u) + k) + k = _
  omega
theorem inv_g (k : Nat) : rInv (gP k) = gP (k * 57896044618658097711785492504343953926634992332820282019728792003956564819947) := by
  unfold rInv rPow
  rw [ones250, rBits_g]
  refine congrArg gP ((ex_inv k _).trans ?_)
  omega
theorem root0_g (k : Nat) : rRoot0 (gP k) = gP (k * 7237005577332262213973186563042994240829374041602535252466099000494570602494) := by
  unfold rRoot0 rPow
  rw [ones250, rBits_g]
  refine congrArg gP ((ex_root0 k _).trans ?_)
  omega
theorem rootS_g : rRootS = gP 14474011154664524427946373126085988481658748083205070504932198000989141204987 := by
  unfold rRootS rPow
  rw [← g_one1, ones250, rBits_g]
  refine congrArg gP ((ex_rootS 1 _).trans ?_)
  omega
/-- What is multiplied by its inverse is 1. -/
theorem inv_one {a : Nat} (h0 : 0 < a) (h1 : a < pP) : a * rInv a % pP = 1 := by
  obtain ⟨k, rfl⟩ := g_log h0 h1
  rw [inv_g, ← g_add, show k + k * 57896044618658097711785492504343953926634992332820282019728792003956564819947 = k * 57896044618658097711785492504343953926634992332820282019728792003956564819948 by omega]
  exact g_period k
theorem inv_nought : 0 * rInv 0 % pP = 0 := by rw [Nat.zero_mul, Nat.zero_mod]

theorem odd_half (x : Nat) (h : x < pP) : x ≠ pP - x := by unfold pP at *; omega
/-- Just the even powers have roots. -/
theorem is_g (k : Nat) : rIs (gP k) = decide (k % 2 = 0) := by
  have hX : gP (k * 7237005577332262213973186563042994240829374041602535252466099000494570602494) * gP (k * 7237005577332262213973186563042994240829374041602535252466099000494570602494) % pP = gP (k + k * 14474011154664524427946373126085988481658748083205070504932198000989141204987) := by rw [← g_add]; exact congrArg gP (by omega)
  have hS : gP 14474011154664524427946373126085988481658748083205070504932198000989141204987 * gP 14474011154664524427946373126085988481658748083205070504932198000989141204987 % pP = gP 28948022309329048855892746252171976963317496166410141009864396001978282409974 := by rw [← g_add]
  have hY : (gP (k * 7237005577332262213973186563042994240829374041602535252466099000494570602494) * gP 14474011154664524427946373126085988481658748083205070504932198000989141204987 % pP) * (gP (k * 7237005577332262213973186563042994240829374041602535252466099000494570602494) * gP 14474011154664524427946373126085988481658748083205070504932198000989141204987 % pP) % pP = gP (k + k * 14474011154664524427946373126085988481658748083205070504932198000989141204987 + 28948022309329048855892746252171976963317496166410141009864396001978282409974) := by rw [← g_add, ← g_add]; exact congrArg gP (by omega)
  unfold rIs rRoot1
  rw [root0_g, rootS_g, hX]
  have hlt := g_lt k
  have hpos := g_pos k
  by_cases hk : k % 2 = 0
  · rw [decide_eq_true hk]
    have hm : k * 14474011154664524427946373126085988481658748083205070504932198000989141204987 = (k / 2) * 28948022309329048855892746252171976963317496166410141009864396001978282409974 := by
      have : k = 2 * (k / 2) := by omega
      omega
    by_cases hx : gP (k + k * 14474011154664524427946373126085988481658748083205070504932198000989141204987) = gP k
    · rw [if_pos (decide_eq_true hx), hX, decide_eq_true hx]
    · rw [if_neg (by simpa using hx), hY]
      rw [hm, g_halves] at hx
      have h4 : (k / 2) % 2 ≠ 0 := fun h => hx (by rw [if_pos h])
      rw [hm, Nat.add_assoc, ← Nat.succ_mul, g_halves, if_pos (by omega), decide_eq_true rfl]
  · rw [decide_eq_false hk]
    -- squares: otherwise a number would be its own negative
    have key : ∀ m, m % 2 = 1 → gP (k + k * 14474011154664524427946373126085988481658748083205070504932198000989141204987 + (m - 1) * 28948022309329048855892746252171976963317496166410141009864396001978282409974) ≠ gP k := by
      intro m hm h
      have h2 : gP (k + k * 14474011154664524427946373126085988481658748083205070504932198000989141204987 + (m - 1) * 28948022309329048855892746252171976963317496166410141009864396001978282409974) * gP (k + k * 14474011154664524427946373126085988481658748083205070504932198000989141204987 + (m - 1) * 28948022309329048855892746252171976963317496166410141009864396001978282409974) % pP = gP k * gP k % pP := by rw [h]
      rw [← g_add, ← g_add] at h2
      rw [show k + k * 14474011154664524427946373126085988481658748083205070504932198000989141204987 + (m - 1) * 28948022309329048855892746252171976963317496166410141009864396001978282409974 + (k + k * 14474011154664524427946373126085988481658748083205070504932198000989141204987 + (m - 1) * 28948022309329048855892746252171976963317496166410141009864396001978282409974) = (k + k) + (k + 2 * (m - 1)) * 28948022309329048855892746252171976963317496166410141009864396001978282409974 by omega, g_halves, if_neg (by omega)] at h2
      exact odd_half _ (g_lt (k + k)) h2.symm
    have k1 := key 1 rfl
    have k2 : gP (k + k * 14474011154664524427946373126085988481658748083205070504932198000989141204987 + 28948022309329048855892746252171976963317496166410141009864396001978282409974) ≠ gP k := by
      intro h
      have h2 : gP (k + k * 14474011154664524427946373126085988481658748083205070504932198000989141204987 + 28948022309329048855892746252171976963317496166410141009864396001978282409974) * gP (k + k * 14474011154664524427946373126085988481658748083205070504932198000989141204987 + 28948022309329048855892746252171976963317496166410141009864396001978282409974) % pP = gP k * gP k % pP := by rw [h]
      rw [← g_add, ← g_add] at h2
      rw [show k + k * 14474011154664524427946373126085988481658748083205070504932198000989141204987 + 28948022309329048855892746252171976963317496166410141009864396001978282409974 + (k + k * 14474011154664524427946373126085988481658748083205070504932198000989141204987 + 28948022309329048855892746252171976963317496166410141009864396001978282409974) = (k + k) + (k + 2) * 28948022309329048855892746252171976963317496166410141009864396001978282409974 by omega, g_halves, if_neg (by omega)] at h2
      exact odd_half _ (g_lt (k + k)) h2.symm
    rw [show k + k * 14474011154664524427946373126085988481658748083205070504932198000989141204987 + (1 - 1) * 28948022309329048855892746252171976963317496166410141009864396001978282409974 = k + k * 14474011154664524427946373126085988481658748083205070504932198000989141204987 by omega] at k1
    rw [if_neg (by simpa using k1), hY, decide_eq_false k2]
/-- Of a number and twice it just one has roots. -/
theorem is_twice {a : Nat} (h0 : 0 < a) (h1 : a < pP) : rIs ((a + a) % pP) = !rIs a := by
  obtain ⟨k, rfl⟩ := g_log h0 h1
  have e : (gP k + gP k) % pP = gP (k + 1) := by rw [g_add, g_one1, Nat.mul_two]
  rw [e, is_g, is_g]
  by_cases hk : k % 2 = 0
  · rw [decide_eq_true hk, decide_eq_false (by omega)]; rfl
  · rw [decide_eq_false hk, decide_eq_true (by omega)]; rfl
end Go.Proofs.Ytoaihbmicdbaiaa
