/- Plain: the laws of a field, as the program reckons; roots. -/
import Derived.Test.YtoaihbmicdbaiaaNumN
import Derived.Test.YtoaihbmicdbaiaaNumW2
namespace Go.Proofs.Ytoaihbmicdbaiaa
open DG

theorem la1 (a b : Nat) : addN a b % pP = addN b a % pP := by rw [add_mod, add_mod, Nat.add_comm]
theorem la2 (a b : Nat) : mulN a b % pP = mulN b a % pP := by rw [mul_mod, mul_mod, Nat.mul_comm]
theorem am (a b : Nat) : addN a b % pP = (a % pP + b % pP) % pP := add_mod2 a b
theorem la3 (a b c : Nat) : addN (addN a b) c % pP = addN a (addN b c) % pP := by
  rw [add_mod, add_mod, Nat.add_mod, add_mod, ← Nat.add_mod, Nat.add_mod a, add_mod, ← Nat.add_mod, Nat.add_assoc]
theorem la4 (a b c : Nat) : mulN (mulN a b) c % pP = mulN a (mulN b c) % pP := by
  rw [mul_mod, mul_mod, Nat.mul_mod, mul_mod, ← Nat.mul_mod, Nat.mul_mod a, mul_mod, ← Nat.mul_mod, Nat.mul_assoc]
theorem la5 (a b c : Nat) : mulN a (addN b c) % pP = addN (mulN a b) (mulN a c) % pP := by
  rw [mul_mod, add_mod, Nat.mul_mod, add_mod, ← Nat.mul_mod, Nat.add_mod (mulN a b), mul_mod, mul_mod, ← Nat.add_mod, Nat.mul_add]
theorem la6 {a b : Nat} (ha : a < p2) (hb : b < p2) : addN (subN a b) b % pP = a % pP := by rw [add_mod]; exact sub_mod ha hb
theorem la7 {a : Nat} (ha : a < p2) : subN a a % pP = 0 % pP := by
  rw [sub_mod2 ha ha, show a % pP + (pP - a % pP) = pP by have := Nat.mod_lt a (show 0 < pP by decide); omega, Nat.mod_self, Nat.zero_mod]
/-- Just one of the two is so. -/
theorem zmod : 0 % pP = 0 := Nat.zero_mod _
theorem omod : 1 % pP = 1 := Nat.mod_eq_of_lt (by unfold pP; omega)
theorem la8 (a : Nat) : decide (mulN a (invN a) % pP = 1 % pP) = !decide (a % pP = 0 % pP) := by
  rw [mm, inv_mod, omod, zmod]
  have hlt := Nat.mod_lt a (show 0 < pP by decide)
  by_cases h : a % pP = 0
  · rw [h, inv_nought]; rfl
  · rw [inv_one (Nat.pos_of_ne_zero h) hlt, decide_eq_false h]; rfl

/-- The root of a number that is not 0 is not 0. -/
theorem root1_ne {b : Nat} (h : rIs b = true) (h0 : b ≠ 0) : rRoot1 b ≠ 0 := fun e => by
  unfold rIs at h
  rw [e, Nat.zero_mul, Nat.zero_mod] at h
  exact h0 (of_decide_eq_true h).symm
theorem root2_par {b : Nat} (odd : Bool) (h0 : rRoot1 b ≠ 0) : (decide (rRoot2 b odd % 2 = 1) == odd) = true := by
  unfold rRoot2
  by_cases hc : (decide (rRoot1 b % 2 = 1) != odd) = true
  · rw [if_pos hc, parity (by decide) (rRoot1_lt b) h0]
    cases hd : decide (rRoot1 b % 2 = 1) <;> cases odd <;> simp [hd] at hc ⊢
  · rw [if_neg hc]
    cases hd : decide (rRoot1 b % 2 = 1) <;> cases odd <;> simp [hd] at hc ⊢
theorem ok_is {a : Nat} (ha : a < p2) (odd : Bool) (h0 : a % pP ≠ 0) : rootOk a odd = rIs (a % pP) := by
  rw [ok_mod ha]
  cases h : rIs (a % pP)
  · rfl
  · rw [root2_par odd (root1_ne h h0)]; rfl
theorem v_is {a : Nat} (ha : a < p2) (odd : Bool) (h : rIs (a % pP) = true) : rootV a odd % pP = rRoot2 (a % pP) odd := by rw [rootV_mod ha, if_pos h]
theorem v_sq {a : Nat} (ha : a < p2) (odd : Bool) (h : rIs (a % pP) = true) : mulN (rootV a odd) (rootV a odd) % pP = a % pP := by
  rw [mm, v_is ha odd h, rsq]
  unfold rIs at h
  exact of_decide_eq_true h
theorem v_par {a : Nat} (ha : a < p2) (odd : Bool) (h : rIs (a % pP) = true) (h0 : a % pP ≠ 0) : decide (rootV a odd % pP % 2 = 1) = odd := by
  rw [v_is ha odd h]
  have := root2_par odd (root1_ne h h0)
  simpa using this
theorem v_sum {a : Nat} (ha : a < p2) (h : rIs (a % pP) = true) : addN (rootV a false) (rootV a true) % pP = 0 % pP := by
  rw [am, v_is ha _ h, v_is ha _ h]
  unfold rRoot2
  have hr := rRoot1_lt (a % pP)
  have key : ∀ P r : Nat, r < P → ((r + (0 + (P - r)) % P) % P = 0 ∧ ((0 + (P - r)) % P + r) % P = 0) := fun P r h => by
    rw [Nat.add_mod_mod, Nat.mod_add_mod, show r + (0 + (P - r)) = P by omega, show 0 + (P - r) + r = P by omega, Nat.mod_self]
    exact ⟨rfl, rfl⟩
  rw [zmod]
  cases hd : decide (rRoot1 (a % pP) % 2 = 1)
  · rw [if_neg (by decide), if_pos (by decide)]; exact (key _ _ hr).1
  · rw [if_pos (by decide), if_neg (by decide)]; exact (key _ _ hr).2
theorem twice_is {a : Nat} (h0 : a % pP ≠ 0) : rIs (addN a a % pP) = !rIs (a % pP) := by
  rw [am]
  exact is_twice (Nat.pos_of_ne_zero h0) (Nat.mod_lt _ (by decide))
theorem twice_key {P x : Nat} (hP : P % 2 = 1) (h0 : x ≠ 0) (h1 : x < P) : (x + x) % P ≠ 0 := fun h => by
  by_cases hc : x + x < P
  · rw [Nat.mod_eq_of_lt hc] at h; omega
  · rw [Nat.mod_eq_sub_mod (by omega), Nat.mod_eq_of_lt (by omega)] at h; omega
theorem twice_ne {a : Nat} (h0 : a % pP ≠ 0) : addN a a % pP ≠ 0 := by
  rw [am]
  exact twice_key (by decide) h0 (Nat.mod_lt a (by decide))
/-- Of 0. -/
theorem rOnes_nought (k : Nat) : rOnes 0 (k + 1) = 0 := by
  show (rOnes 0 k * rOnes 0 k % pP) * 0 % pP = 0
  rw [Nat.mul_zero, Nat.zero_mod]
theorem rBits_nought (l : List UInt8) (k : Nat) : rBits 0 0 l k = 0 := by
  induction k with
  | zero => rfl
  | succ k ih =>
    show (if _ then (rBits 0 0 l k * rBits 0 0 l k % pP) * 0 % pP else rBits 0 0 l k * rBits 0 0 l k % pP) = 0
    rw [ih, Nat.mul_zero, Nat.mul_zero, Nat.zero_mod]
    split <;> rfl
theorem root0_nought : rRoot0 0 = 0 := by
  unfold rRoot0 rPow
  rw [rOnes_nought 249, rBits_nought]
theorem root00 : rRoot1 0 = 0 := by
  unfold rRoot1
  rw [root0_nought, Nat.zero_mul, Nat.zero_mod, if_pos (decide_eq_true rfl)]
theorem is0 : rIs 0 = true := by
  unfold rIs
  rw [root00, Nat.zero_mul, Nat.zero_mod]
  rfl
theorem neg_nought : (0 + (pP - 0)) % pP = 0 := by rw [Nat.zero_add, Nat.sub_zero, Nat.mod_self]
theorem ok_nought {a : Nat} (ha : a < p2) (odd : Bool) (h0 : a % pP = 0) : rootOk a odd = !odd := by
  rw [ok_mod ha, h0, is0]
  unfold rRoot2
  rw [root00, neg_nought]
  cases odd <;> rfl
theorem v_nought {a : Nat} (ha : a < p2) (odd : Bool) (h0 : a % pP = 0) : rootV a odd % pP = 0 % pP := by
  rw [rootV_mod ha, h0, is0, if_pos rfl, Nat.zero_mod]
  unfold rRoot2
  rw [root00, neg_nought]
  split <;> rfl
theorem twice_nought {a : Nat} (h0 : a % pP = 0) : addN a a % pP = 0 := by rw [am, h0, Nat.zero_mod]
end Go.Proofs.Ytoaihbmicdbaiaa
