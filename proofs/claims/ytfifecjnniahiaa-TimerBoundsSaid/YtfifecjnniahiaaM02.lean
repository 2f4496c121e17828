/- Numbers of 64 bits: a quotient's next whole number is great enough. Laws for the walk: floats; and what stays of a world but for some blocks. The leaves of the timer: Abs, IsInf, Mix, Same. The timer of the program: set, the deferred part of Sample, Sample, Backoff, Value, Smooth, New. The timer of the program: Sample, Backoff, Value, Smooth, New. The timer of the program: Backoff, Value, Smooth, New; no timer. Rate and Pause at 10 and 4; the known run. The known run; and what no timer answers. The timer of the reference. -/
import Derived.Test.YtfifecjnniahiaaM01
import Derived.Laws.Externs
import Derived.Defers
import Derived.Recover
namespace Go.Proofs.Ytfifecjnniahiaa
namespace IE
open Go Ieee

def kP : Nat := 1200
theorem low_key {M Z n T : Nat} (hF : Z + n > M) (h2 : n < T) (hge : T * 2048 ≤ M) : M * 2047 ≤ Z * 2048 := by
  have h1 : M * 2048 ≤ (Z + n) * 2048 := Nat.mul_le_mul_right _ (Nat.le_of_lt hF)
  have h3 : n * 2048 ≤ T * 2048 := Nat.mul_le_mul_right _ (Nat.le_of_lt h2)
  rw [Nat.add_mul] at h1
  have h4 : M * 2048 = M * 2047 + M := Nat.mul_succ M 2047
  rw [h4] at h1
  exact Nat.le_of_add_le_add_right (Nat.le_trans h1 (Nat.add_le_add_left (Nat.le_trans h3 hge) _))
theorem one_key {B Y : Nat} (h : B ≤ Y) : 1023 * B ≤ Y * 1024 := by omega
/-- The digits of a quotient: near from below. -/
theorem mag_low {m n : Nat} (hm : m ≠ 0) (hn : n ≠ 0) (hm2 : m.log2 ≤ 52) : m * 2 ^ moreQ m n * 2047 ≤ n * (magQ m n * 1024) := by
  have h1 := Nat.log2_self_le hm
  have h2 : n < 2 ^ (n.log2 + 1) := Nat.lt_log2_self
  obtain ⟨a, ha⟩ : ∃ a, moreQ m n = a := ⟨_, rfl⟩
  have hge : 2 ^ (n.log2 + 1) * 2 ^ 53 ≤ m * 2 ^ a := by
    have e : n.log2 + 1 + 53 = m.log2 + a := by unfold moreQ at ha; omega
    rw [← Nat.pow_add, e, Nat.pow_add]
    exact Nat.mul_le_mul_right _ h1
  have hF : n * (m * 2 ^ a / n) + n > m * 2 ^ a := by
    have := Nat.div_add_mod (m * 2 ^ a) n
    have := Nat.mod_lt (m * 2 ^ a) (Nat.pos_of_ne_zero hn)
    omega
  have hmag : 2 * (m * 2 ^ a / n) ≤ magQ m n := by
    unfold magQ
    rw [ha, Nat.shiftLeft_eq]
    exact Nat.le_add_right _ _
  have h3 : n * (2 * (m * 2 ^ a / n) * 1024) ≤ n * (magQ m n * 1024) := Nat.mul_le_mul_left _ (Nat.mul_le_mul_right _ hmag)
  refine Nat.le_trans ?_ h3
  rw [ha]
  have h4 : n * (2 * (m * 2 ^ a / n) * 1024) = n * (m * 2 ^ a / n) * 2048 := by
    rw [Nat.mul_comm 2, Nat.mul_assoc (m * 2 ^ a / n) 2 1024, ← Nat.mul_assoc]
  rw [h4]
  generalize n * (m * 2 ^ a / n) = Z at *
  generalize m * 2 ^ a = M at *
  have hge2 : 2 ^ (n.log2 + 1) * 2048 ≤ M := Nat.le_trans (Nat.mul_le_mul_left _ (by decide)) hge
  exact low_key hF h2 hge2
/-- What is kept of eleven digits. -/
theorem keep11 {X q : Nat} (hq : q = RN 1200 X) (h1 : 11 + 1200 ≤ X.log2) (h2 : X.log2 ≤ 3200) : X * 2047 ≤ val 1200 q * 2048 := by
  have h0 : X ≠ 0 := fun e => by rw [e] at h1; simp at h1
  have l1 := Nat.log2_self_le h0
  have l2 : X < 2 ^ (X.log2 + 1) := Nat.lt_log2_self
  obtain ⟨t, ht⟩ : ∃ t, X.log2 = 11 + (1200 + t) := ⟨X.log2 - 11 - 1200, by omega⟩
  rw [ht] at l1 l2
  obtain ⟨S, hS⟩ : ∃ S, 2 ^ (1200 + t) = S := ⟨_, rfl⟩
  have e1 : 2 ^ (11 + (1200 + t)) = 2048 * S := by rw [Nat.pow_add, hS]
  have e2 : 2 ^ (11 + (1200 + t) + 1) = 4096 * S := by rw [Nat.pow_succ, e1]; omega
  rw [e1] at l1
  rw [e2] at l2
  have hSp : 0 < S := by rw [← hS]; exact Nat.two_pow_pos _
  have hc : X / S < 4096 := (Nat.div_lt_iff_lt_mul hSp).2 l2
  obtain ⟨r1, r2⟩ := RN_exact 1200 t (X / S) (Nat.lt_of_lt_of_le hc (by decide)) (by omega)
  rw [hS] at r1 r2
  obtain ⟨r, hr⟩ : ∃ r, RN 1200 (X / S * S) = r := ⟨_, rfl⟩
  rw [hr] at r1 r2
  have hle : X / S * S ≤ X := Nat.div_mul_le_self X S
  have h3 : r ≤ q := by
    rw [hq]
    exact le_RN (Nat.le_of_lt r2) (by rw [r1]; exact hle)
  have h4 := (val_mono (k := 1200) (Nat.le_of_lt r2) (by rw [hq]; exact RN_inf _ _)).2 h3
  rw [r1] at h4
  have h5 := Nat.div_add_mod X S
  have h6 := Nat.mod_lt X hSp
  rw [Nat.mul_comm S] at h5
  generalize X / S * S = A at *
  omega
/-- The quotient, times what it was divided by. -/
theorem quo_low {x y : Nat} (hx : x < inf) (hx1 : 1 ≤ x) (hy : y < inf) (hy1 : 1 ≤ y) : val 0 x * 2 ^ (k74 + kP) * 2047 ≤ val 0 y * (magQ (vm x) (vm y) * 2 ^ expQ (ve x) (ve y) (moreQ (vm x) (vm y)) * 2048) := by
  have hl : (vm x).log2 ≤ 52 := log2_le (by
    have := vm_lt x
    rw [show 2 ^ (52 + 1) = 2 * b52 by decide]
    exact this)
  have h := mag_low (vm_pos hx1) (vm_pos hy1) hl
  have hl2 : (vm y).log2 ≤ 52 := log2_le (by
    have := vm_lt y
    rw [show 2 ^ (52 + 1) = 2 * b52 by decide]
    exact this)
  have hmore : moreQ (vm x) (vm y) ≤ 106 := by unfold moreQ; omega
  have v1 := ve_le hx
  have v2 := ve_le hy
  unfold val
  rw [Nat.add_zero, Nat.add_zero]
  generalize vm x = m at *
  generalize vm y = n at *
  generalize ve x = i at *
  generalize ve y = j at *
  generalize magQ m n = g at *
  generalize moreQ m n = a at *
  obtain ⟨E, hE⟩ : ∃ E, expQ i j a = E := ⟨_, rfl⟩
  have hEj : E + j + a + 1 = i + (k74 + kP) := by
    rw [← hE]
    unfold expQ
    rw [show k74 + kP = 2274 by decide]
    omega
  rw [hE]
  have e1 : (2 : Nat) ^ i * 2 ^ (k74 + kP) = 2 ^ a * (2 * (2 ^ E * 2 ^ j)) := by
    rw [← Nat.pow_add, ← hEj, ← Nat.pow_add, ← Nat.pow_succ', ← Nat.pow_add]
    congr 1
    omega
  calc m * 2 ^ i * 2 ^ (k74 + kP) * 2047 = m * 2 ^ a * 2047 * (2 * (2 ^ E * 2 ^ j)) := by
        rw [Nat.mul_assoc m, e1, ← Nat.mul_assoc m, Nat.mul_right_comm]
    _ ≤ n * (g * 1024) * (2 * (2 ^ E * 2 ^ j)) := Nat.mul_le_mul_right _ h
    _ = n * 2 ^ j * (g * 2 ^ E * 2048) := by
        generalize (2 : Nat) ^ E = u
        generalize (2 : Nat) ^ j = w
        rw [show (2048 : Nat) = 1024 * 2 from rfl]
        simp only [Nat.mul_assoc, Nat.mul_comm, Nat.mul_left_comm]

def k11 : Nat := 1211
def kZ : Nat := 2045
def kY : Nat := 53 + kZ
def c0999 : Nat := 4607173411600762667
theorem c0999_le : val 0 c0999 * 1024 ≤ 1023 * 2 ^ k74 := by decide +kernel
theorem M32_val : val 0 M32 = 4294967296 * 2 ^ k74 := by decide +kernel
theorem kP_val (r : Nat) : val 1200 r = val 0 r * 2 ^ kP := val_shift 0 kP r
theorem one_1200 : val 1200 1 = 2 ^ kP := by
  rw [kP_val, show val 0 1 = 1 by decide, Nat.one_mul]
theorem ceil_le_val (q : Nat) : val 0 q ≤ ceilN q * 2 ^ k74 := by
  have hd := Nat.div_add_mod (val 0 q) (2 ^ k74)
  have hm := Nat.mod_lt (val 0 q) (Nat.two_pow_pos k74)
  unfold ceilN
  rw [Nat.mul_comm] at hd
  rw [Nat.add_mul]
  generalize val 0 q / 2 ^ k74 * 2 ^ k74 = A at *
  generalize 2 ^ k74 = U at *
  split <;> omega
/-- Long enough. -/
theorem long_enough {b y : Nat} (hb : 1 ≤ b) (hb2 : b ≤ 4294967296) (hy : y < inf) (hy1 : 1 ≤ y) (hp : ceilN (quo (ofN b) y) < 4294967296) :
    RN 1074 (val 0 (ofN b) * val 0 c0999) ≤ RN 1074 (val 0 (ofN (ceilN (quo (ofN b) y))) * val 0 y) := by
  obtain ⟨p, hpp⟩ : ∃ p, ceilN (quo (ofN b) y) = p := ⟨_, rfl⟩
  rw [hpp] at hp ⊢
  obtain ⟨o1, o2⟩ := ofN_val hb2
  obtain ⟨o3, o4⟩ := ofN_val (Nat.le_of_lt hp)
  rw [o3]
  have hx1 : 1 ≤ ofN b := le_RN (by decide) (by
    rw [show val 0 1 = 1 by decide]
    exact Nat.mul_pos hb (Nat.two_pow_pos _))
  have hq := quo_low o2 hx1 hy hy1
  obtain ⟨X, hX⟩ : ∃ X, magQ (vm (ofN b)) (vm y) * 2 ^ expQ (ve (ofN b)) (ve y) (moreQ (vm (ofN b)) (vm y)) = X := ⟨_, rfl⟩
  have hqX : quo (ofN b) y = RN 1200 X := by unfold quo; rw [hX]
  rw [hX, o1] at hq
  rw [o1]
  obtain ⟨q, hqq⟩ : ∃ q, quo (ofN b) y = q := ⟨_, rfl⟩
  rw [hqq] at hpp hqX
  have hcv := ceil_le_val q
  rw [hpp] at hcv
  have hY : val 0 y ≤ 2 ^ kY := by
    unfold val
    have h1 := vm_lt y
    have h2 := ve_le hy
    have hkY : kY = 53 + kZ := rfl
    rw [Nat.add_zero, hkY, Nat.pow_add 2 53 kZ]
    exact Nat.mul_le_mul (Nat.le_trans (Nat.le_of_lt h1) (by decide)) (Nat.pow_le_pow_right (by decide) h2)
  -- below: the numbers by name
  have hUP : (2 : Nat) ^ (k74 + kP) = 2 ^ k74 * 2 ^ kP := Nat.pow_add _ _ _
  rw [hUP] at hq
  have key : b * (val 0 c0999 * 1024) ≤ p * (val 0 y * 1024) → RN 1074 (b * 2 ^ k74 * val 0 c0999) ≤ RN 1074 (p * 2 ^ k74 * val 0 y) := fun h => by
    refine RN_mono ?_
    rw [Nat.mul_right_comm b, Nat.mul_right_comm p]
    refine Nat.mul_le_mul_right _ ?_
    have : b * val 0 c0999 * 1024 ≤ p * val 0 y * 1024 := by rw [Nat.mul_assoc, Nat.mul_assoc]; exact h
    exact Nat.le_of_mul_le_mul_right this (by decide)
  refine key (Nat.le_trans (Nat.mul_le_mul_left b c0999_le) ?_)
  have hXbig : 2 ^ kP ≤ X := by
    apply Decidable.byContradiction
    intro hn
    have hlt : X < 2 ^ kP := Nat.lt_of_not_le hn
    have h1 : b * 2 ^ k74 * (2 ^ k74 * 2 ^ kP) * 2047 ≤ 2 ^ kY * (2 ^ kP * 2048) := Nat.le_trans hq (Nat.mul_le_mul hY (Nat.mul_le_mul_right _ (Nat.le_of_lt hlt)))
    have h2 : 1 * 2 ^ k74 * (2 ^ k74 * 2 ^ kP) * 2047 ≤ 2 ^ kY * (2 ^ kP * 2048) := Nat.le_trans (Nat.mul_le_mul_right _ (Nat.mul_le_mul_right _ (Nat.mul_le_mul_right _ hb))) h1
    revert h2
    decide +kernel
  have hq1 : 1 ≤ q := by
    rw [hqX]
    exact le_RN (by decide) (by rw [one_1200]; exact hXbig)
  by_cases hcase : b * 2 ^ k74 ≤ val 0 y
  · -- a quotient not above one
    have hv1 : 1 ≤ val 0 q := by
      have := (val_mono (k := 0) (r := 1) (q := q) (by decide) (by rw [hqX]; exact RN_inf _ _)).2 hq1
      rwa [show val 0 1 = 1 by decide] at this
    have hp1 : 1 ≤ p := by
      rcases Nat.eq_zero_or_pos p with h0 | h0
      · rw [h0, Nat.zero_mul] at hcv; omega
      · exact h0
    have h1 : 1 * (val 0 y * 1024) ≤ p * (val 0 y * 1024) := Nat.mul_le_mul_right _ hp1
    refine Nat.le_trans ?_ h1
    rw [Nat.one_mul, Nat.mul_left_comm b]
    exact one_key hcase
  · have hgt : val 0 y < b * 2 ^ k74 := Nat.lt_of_not_le hcase
    -- the digits that are kept
    have hX2 : X < val 1200 M32 := by
      apply Decidable.byContradiction
      intro hn
      have h1 : M32 ≤ q := by rw [hqX]; exact le_RN (Nat.le_of_lt M32_inf) (Nat.le_of_not_lt hn)
      have h2 := (val_mono (k := 0) (Nat.le_of_lt M32_inf) (show q ≤ inf by rw [hqX]; exact RN_inf _ _)).2 h1
      rw [M32_val] at h2
      have h3 := Nat.le_of_mul_le_mul_right (Nat.le_trans h2 hcv) (Nat.two_pow_pos k74)
      omega
    have hXl2 : X.log2 ≤ 3200 := log2_le (Nat.lt_trans hX2 (by rw [kP_val, M32_val]; decide +kernel))
    have hXl1' : k11 ≤ X.log2 := le_log2 (by
      apply Decidable.byContradiction
      intro hn
      have hlt : X < 2 ^ k11 := Nat.lt_of_not_le hn
      have hy0 : 0 < val 0 y := by
        have := (val_mono (k := 0) (r := 1) (q := y) (by decide) (Nat.le_of_lt hy)).2 hy1
        rw [show val 0 1 = 1 by decide] at this
        omega
      have h1 : val 0 y * (2 ^ k74 * 2 ^ kP) * 2047 ≤ b * 2 ^ k74 * (2 ^ k74 * 2 ^ kP) * 2047 := Nat.mul_le_mul_right _ (Nat.mul_le_mul_right _ (Nat.le_of_lt hgt))
      have h2 := Nat.le_trans h1 hq
      rw [Nat.mul_assoc] at h2
      have h3 := Nat.le_of_mul_le_mul_left h2 hy0
      have h4 : 2 ^ k74 * 2 ^ kP * 2047 ≤ 2 ^ k11 * 2048 := Nat.le_trans h3 (Nat.mul_le_mul_right _ (Nat.le_of_lt hlt))
      revert h4
      decide +kernel)
    have hXl1 : 11 + 1200 ≤ X.log2 := hXl1'
    have hk := keep11 hqX hXl1 hXl2
    rw [kP_val] at hk
    have h1 : b * 2 ^ k74 * (2 ^ k74 * 2 ^ kP) * 2047 * 2047 ≤ val 0 y * (val 0 q * 2 ^ kP * 2048) * 2048 := by
      have a1 := Nat.mul_le_mul_right 2047 hq
      have a2 : val 0 y * (X * 2048) * 2047 = val 0 y * (X * 2047) * 2048 := by
        generalize val 0 y = Y
        rw [Nat.mul_assoc, Nat.mul_assoc, Nat.mul_assoc, Nat.mul_assoc, Nat.mul_comm 2048 2047]
      rw [a2] at a1
      exact Nat.le_trans a1 (Nat.mul_le_mul_right _ (Nat.mul_le_mul_left _ hk))
    have hPp := Nat.two_pow_pos kP
    have hUp := Nat.two_pow_pos k74
    generalize (2 : Nat) ^ kP = P at *
    generalize (2 : Nat) ^ k74 = U at *
    generalize val 0 q = v at *
    generalize val 0 y = Y at *
    clear hq hX2 hXl1 hXl1' hXl2 hk hXbig key hqX hY hUP o1 o3
    have h2 : b * U * 2047 * 2047 * (U * P) ≤ Y * v * (2048 * 2048) * P := by
      have e1 : b * U * (U * P) * 2047 * 2047 = b * U * 2047 * 2047 * (U * P) := by
        rw [Nat.mul_right_comm (b * U), Nat.mul_right_comm (b * U * 2047)]
      have e2 : Y * (v * P * 2048) * 2048 = Y * v * (2048 * 2048) * P := by
        simp only [Nat.mul_assoc, Nat.mul_comm, Nat.mul_left_comm]
      rw [e1, e2] at h1
      exact h1
    rw [← Nat.mul_assoc] at h2
    have h3 := Nat.le_of_mul_le_mul_right h2 hPp
    have h4 : Y * v * (2048 * 2048) ≤ Y * (p * U) * (2048 * 2048) := Nat.mul_le_mul_right _ (Nat.mul_le_mul_left _ hcv)
    have h5 := Nat.le_trans h3 h4
    rw [← Nat.mul_assoc Y, Nat.mul_right_comm (Y * p)] at h5
    have h6 := Nat.le_of_mul_le_mul_right h5 hUp
    rw [Nat.mul_left_comm b, ← Nat.mul_assoc p]
    rw [Nat.mul_comm Y p] at h6
    generalize b * U = B at *
    generalize p * Y = Z at *
    omega

end IE
end Go.Proofs.Ytfifecjnniahiaa

namespace Go.Proofs.Ytfifecjnniahiaa
open Go Go.RowKit

@[go_sem] theorem fmt64 : FloatKind.f64.format = IE.D := rfl
@[go_sem] theorem oq1 : (some Ordering.lt == some Ordering.lt) = true := rfl
@[go_sem] theorem oq2 : (some Ordering.lt == some Ordering.eq) = false := rfl
@[go_sem] theorem oq3 : (some Ordering.lt == some Ordering.gt) = false := rfl
@[go_sem] theorem oq4 : (some Ordering.eq == some Ordering.lt) = false := rfl
@[go_sem] theorem oq5 : (some Ordering.eq == some Ordering.eq) = true := rfl
@[go_sem] theorem oq6 : (some Ordering.eq == some Ordering.gt) = false := rfl
@[go_sem] theorem oq7 : (some Ordering.gt == some Ordering.lt) = false := rfl
@[go_sem] theorem oq8 : (some Ordering.gt == some Ordering.eq) = false := rfl
@[go_sem] theorem oq9 : (some Ordering.gt == some Ordering.gt) = true := rfl
@[go_sem] theorem oqa (c : Ordering) : ((none : Option Ordering) == some c) = false := rfl
@[go_sem] theorem on2 : (some Ordering.lt != some Ordering.eq) = true := rfl
@[go_sem] theorem on5 : (some Ordering.eq != some Ordering.eq) = false := rfl
@[go_sem] theorem on8 : (some Ordering.gt != some Ordering.eq) = true := rfl
@[go_sem] theorem ona : ((none : Option Ordering) != some Ordering.eq) = true := rfl

section
variable {P : Program} (w : World)
/-- What an operation gives. -/
noncomputable def fres (P : Program) (w : World) (x y : Nat) (o : Option Nat) := (match o with | some r => (pure (Value.float .f64 r) : Sem Value) | none => do pure (.float .f64 (← choose (.nanBits .f64 x y))) : Sem Value).run P w
@[go_sem] theorem fres_some (x y r : Nat) : fres P w x y (some r) = .ok (.float .f64 r) w := by simp [fres]
theorem fres_none (x y : Nat) : ∃ z, IE.nanB z = true ∧ fres P w x y none = .ok (.float .f64 z) w.drew := by
  refine ⟨(Question.nanBits .f64 x y).cut (w.tape w.drawn (.nanBits .f64 x y)), ?_, ?_⟩
  · exact IE.drawn_nan _
  · simp [fres, Question.forced]
@[go_sem] theorem run_fadd (t : TypeId) (x y : Nat) : (binOp .add t (.float .f64 x) (.float .f64 y)).run P w = fres P w x y (IE.D.add x y) := by
  simp only [binOp, Op.floatArith, fres]; rfl
@[go_sem] theorem run_fsub (t : TypeId) (x y : Nat) : (binOp .sub t (.float .f64 x) (.float .f64 y)).run P w = fres P w x y (IE.D.sub x y) := by
  simp only [binOp, Op.floatArith, fres]; rfl
@[go_sem] theorem run_fmul (t : TypeId) (x y : Nat) : (binOp .mul t (.float .f64 x) (.float .f64 y)).run P w = fres P w x y (IE.D.mul x y) := by
  simp only [binOp, Op.floatArith, fres]; rfl
@[go_sem] theorem run_fquo (t : TypeId) (x y : Nat) : (binOp .quo t (.float .f64 x) (.float .f64 y)).run P w = fres P w x y (IE.D.div x y) := by
  simp only [binOp, Op.floatArith, fres]; rfl
@[go_sem] theorem run_store_float (a : Addr) (m : Mode) (k : FloatKind) (b : Nat) : (store a (.float k b) m).run P w = stored P w a (.float k b) m := run_store P w a _ m rfl
end

theorem call_frombits (n : Nat) (w : World) : (callFunc 32 #[.int .u64 (n : Int)]).run Try.prog w = .ok (.value (.float .f64 n)) w := by
  rw [run_callFunc_extern (e := Extern.MathFloatBits.float64frombits) Try.func32 (by kernel_rfl) (by kernel_rfl) (by kernel_rfl) (by kernel_rfl)]
  rfl
theorem call_bits (n : Nat) (w : World) : (callFunc 33 #[.float .f64 n]).run Try.prog w = .ok (.value (.int .u64 (n : Int))) w := by
  rw [run_callFunc_extern (e := Extern.MathFloatBits.float64bits) Try.func33 (by kernel_rfl) (by kernel_rfl) (by kernel_rfl) (by kernel_rfl)]
  rfl

set_option maxHeartbeats 400000 in
theorem NaN_any (w : World) : Calls Try.prog 23 #[] w fun e w' => e = .returned (.float .f64 9221120237041090561) ∧ w = w' := by
  go_enter Try.func23, Try.ntmps23
  go_wp2_with fail
  rw [show (9221120237041090561 : Int) = ((9221120237041090561 : Nat) : Int) from rfl, call_frombits]
  try simp only [Result.andThen]
  try rw [Oper.upon_value]
  go_wp2_with fail
  go_ret
  exact ⟨rfl, rfl⟩

theorem none_eq (x : Nat) : (IE.D.order x x != some Ordering.eq) = IE.nanB x := by
  cases h : IE.nanB x
  · rw [IE.order_self h]; rfl
  · rw [(IE.order_nan h x).1]; rfl

set_option maxHeartbeats 400000 in
theorem none_any (x : Nat) (w : World) : Calls Try.prog 26 #[.float .f64 x] w fun e w' => e = .returned (.bool (IE.nanB x)) ∧ w = w' := by
  go_enter Try.func26, Try.ntmps26
  go_wp2_with fail
  go_ret
  exact ⟨by rw [← none_eq]; rfl, rfl⟩

theorem zero_zero : IE.D.div 0 0 = none := by decide +kernel
set_option maxHeartbeats 400000 in
theorem nan_any (w : World) : Calls Try.prog 25 #[] w fun e w' => ∃ z, IE.nanB z = true ∧ e = .returned (.float .f64 z) ∧ w.drew = w' := by
  obtain ⟨z, hz, hr⟩ := fres_none (P := Try.prog) w 0 0
  have hd := zero_zero
  go_enter Try.func25, Try.ntmps25
  go_wp2_with fail
  go_ret
  exact ⟨z, hz, rfl, rfl⟩

end Go.Proofs.Ytfifecjnniahiaa

namespace Go.Proofs.Ytfifecjnniahiaa
open Go Go.RowKit

theorem clear_eq {r s : Nat} (hs : s = r ∨ s = IE.sgn + r) (h : r < IE.sgn) : bits .andNot .u64 (s : Int) 9223372036854775808 = (r : Int) := by
  have hg : IE.sgn = 9223372036854775808 := rfl
  rw [show (9223372036854775808 : Int) = ((9223372036854775808 : Nat) : Int) from rfl, u64_andNot_nat s _ (by omega) (by decide)]
  rw [show 18446744073709551615 - 9223372036854775808 = 2 ^ 63 - 1 by decide, Nat.and_two_pow_sub_one_eq_mod]
  rw [show (2 : Nat) ^ 63 = 9223372036854775808 by decide]
  rw [show s % 9223372036854775808 = r by omega]

set_option maxHeartbeats 400000 in
theorem abs_any (r s : Nat) (w : World) (hs : s = r ∨ s = IE.sgn + r) (h : r < IE.sgn) : Calls Try.prog 28 #[.float .f64 s] w fun e w' => e = .returned (.float .f64 r) ∧ w = w' := by
  have hc := clear_eq hs h
  go_enter Try.func28, Try.ntmps28
  go_wp2_with fail
  rw [call_bits, Oper.upon_value]
  go_wp2_with fail
  rw [call_frombits, Oper.upon_value]
  go_wp2_with fail
  go_ret
  exact ⟨rfl, rfl⟩

theorem inf_sgn : IE.inf < IE.sgn := by decide
theorem nan_rung {s : Nat} (h : s < IE.inf) : IE.nanB s = false := by unfold IE.nanB; rw [IE.read_rung h]; rfl
theorem ord_max {s : Nat} (h : s < IE.inf) : (IE.D.order s 9218868437227405311 == some Ordering.gt) = false := by
  rw [IE.order_eq h (by decide)]
  have : compare s 9218868437227405311 ≠ .gt := by
    rw [Nat.compare_ne_gt]; unfold IE.inf at h; omega
  cases hc : compare s 9218868437227405311 <;> first | rfl | exact absurd hc this
theorem ord_zero {s : Nat} (h : s < IE.inf) : IE.D.order s 0 = some .eq ∨ IE.D.order s 0 = some .gt := by
  rw [IE.order_eq h (by decide)]
  cases hc : compare s 0
  · have := Nat.compare_eq_lt.1 hc; omega
  · exact .inl rfl
  · exact .inr rfl
theorem ord_same {s : Nat} (h : s < IE.inf) : IE.D.order s s = some .eq := IE.order_self (nan_rung h)

set_option maxHeartbeats 400000 in
theorem inf_fin (s : Nat) (w : World) (h : s < IE.inf) : Calls Try.prog 29 #[.float .f64 s, .int .i64 0] w fun e w' => e = .returned (.bool false) ∧ w = w' := by
  have hm := ord_max h
  go_enter Try.func29, Try.ntmps29
  go_wp2_with fail
  refine (abs_any s s _ (.inl rfl) (Nat.lt_trans h inf_sgn)).mono ?_
  rintro e w' ⟨rfl, rfl⟩
  go_wp2_with fail
  go_ret
  exact ⟨by rw [← hm]; rfl, rfl⟩

structure MixOk (w v o s : Nat) : Prop where
  w0 : IE.D.order w 0 = some .gt
  w1 : IE.D.order w 4607182418800017408 = some .lt
  wn : IE.nanB w = false
  sub : IE.D.sub 4607182418800017408 w = some v
  wi : w < IE.inf
  vi : v < IE.inf
  oi : o < IE.inf
  si : s < IE.inf
  p : IE.RN 1074 (IE.val 0 o * IE.val 0 w) < IE.inf
  q : IE.RN 1074 (IE.val 0 s * IE.val 0 v) < IE.inf

set_option maxHeartbeats 1000000 in
theorem mix_fin (w v o s : Nat) (h : MixOk w v o s) (W : World) : Calls Try.prog 21 #[.float .f64 o, .float .f64 s, .float .f64 w] W fun e w' => e = .returned (.float .f64 (IE.mixR w v o s)) ∧ W = w' := by
  have a1 := h.w0
  have a2 := h.w1
  have a3 := h.sub
  have a4 := ord_same h.oi
  have a5 := IE.mul_eq h.oi h.wi
  have a6 := IE.mul_eq h.si h.vi
  have a7 := IE.add_eq h.p h.q
  have hm : Hid (IE.RN 0 (IE.val 0 (IE.RN 1074 (IE.val 0 o * IE.val 0 w)) + IE.val 0 (IE.RN 1074 (IE.val 0 s * IE.val 0 v))) = IE.mixR w v o s) := hid rfl
  have hh := hid h
  generalize IE.RN 1074 (IE.val 0 o * IE.val 0 w) = p at *
  generalize IE.RN 1074 (IE.val 0 s * IE.val 0 v) = q at *
  rw [hm.out] at a7
  clear h
  rcases ord_zero hh.out.si with a8 | a8
  all_goals
    go_enter Try.func21, Try.ntmps21
    go_wp2_with fail
    refine (inf_fin s _ hh.out.si).mono ?_
    rintro e w' ⟨rfl, rfl⟩
    go_wp2_with fail
    go_ret
    exact ⟨rfl, rfl⟩

theorem sub_self {s : Nat} (h : s < IE.inf) : IE.D.sub s s = some 0 := by
  rw [IE.sub_eq h h (Nat.le_refl _), Nat.sub_self]; rfl

set_option maxHeartbeats 400000 in
theorem infinite_fin (s : Nat) (w : World) (h : s < IE.inf) : Calls Try.prog 31 #[.float .f64 s] w fun e w' => e = .returned (.bool false) ∧ w = w' := by
  have hn := nan_rung h
  have hs := sub_self h
  have h0 : IE.nanB 0 = false := by decide +kernel
  go_enter Try.func31, Try.ntmps31
  go_wp2_with (go_at_call 26; refine (none_any _ _).mono ?_; rintro e w' ⟨rfl, rfl⟩)
  go_ret
  exact ⟨rfl, rfl⟩

set_option maxHeartbeats 1000000 in
theorem rmix_fin (w v o s : Nat) (h : MixOk w v o s) (W : World) : Calls Try.prog 22 #[.float .f64 o, .float .f64 s, .float .f64 w] W fun e w' => e = .returned (.float .f64 (IE.mixR w v o s)) ∧ W = w' := by
  have a1 := h.w0
  have a2 := h.w1
  have a3 := h.sub
  have a4 := nan_rung h.oi
  have a9 := nan_rung h.si
  have b1 := h.wn
  have a5 := IE.mul_eq h.oi h.wi
  have a6 := IE.mul_eq h.si h.vi
  have a7 := IE.add_eq h.p h.q
  have hm : Hid (IE.RN 0 (IE.val 0 (IE.RN 1074 (IE.val 0 o * IE.val 0 w)) + IE.val 0 (IE.RN 1074 (IE.val 0 s * IE.val 0 v))) = IE.mixR w v o s) := hid rfl
  have hh := hid h
  generalize IE.RN 1074 (IE.val 0 o * IE.val 0 w) = p at *
  generalize IE.RN 1074 (IE.val 0 s * IE.val 0 v) = q at *
  rw [hm.out] at a7
  clear h
  rcases ord_zero hh.out.si with a8 | a8
  all_goals
    go_enter Try.func22, Try.ntmps22
    go_wp2_with (first | (go_at_call 26; refine (none_any _ _).mono ?_; rintro e w' ⟨rfl, rfl⟩) | (go_at_call 31; refine (infinite_fin s _ hh.out.si).mono ?_; rintro e w' ⟨rfl, rfl⟩))
    go_ret
    exact ⟨rfl, rfl⟩

theorem one_zero : IE.D.div 4607182418800017408 0 = some 9218868437227405312 := by decide +kernel
theorem ord_inf : IE.D.order 9218868437227405312 9218868437227405312 = some .eq := by decide +kernel
theorem ord_00 : IE.D.order 0 0 = some .eq := by decide +kernel
set_option maxHeartbeats 1000000 in
theorem same_fin (s : Nat) (W : World) (h : s < IE.inf) : Calls Try.prog 12 #[.float .f64 s, .float .f64 s] W fun e w' => e = .returned (.bool true) ∧ W = w' := by
  have hn := nan_rung h
  have ho := ord_same h
  have h1 := one_zero
  have h2 := ord_inf
  rcases Nat.eq_zero_or_pos s with rfl | hp
  · go_enter Try.func12, Try.ntmps12
    go_wp2_with (go_at_call 26; refine (none_any _ _).mono ?_; rintro e w' ⟨rfl, rfl⟩)
    go_ret
    exact ⟨rfl, rfl⟩
  · have hz : IE.D.order s 0 = some .gt := by rw [IE.order_eq h (by decide)]; congr 1; exact Nat.compare_eq_gt.2 hp
    go_enter Try.func12, Try.ntmps12
    go_wp2_with (go_at_call 26; refine (none_any _ _).mono ?_; rintro e w' ⟨rfl, rfl⟩)
    go_ret
    exact ⟨rfl, rfl⟩
set_option maxHeartbeats 1000000 in
theorem same_nan (s t : Nat) (W : World) (h : IE.nanB s = true) (h2 : IE.nanB t = true) : Calls Try.prog 12 #[.float .f64 s, .float .f64 t] W fun e w' => e = .returned (.bool true) ∧ W = w' := by
  go_enter Try.func12, Try.ntmps12
  go_wp2_with (go_at_call 26; refine (none_any _ _).mono ?_; rintro e w' ⟨rfl, rfl⟩)
  go_ret
  exact ⟨rfl, rfl⟩
end Go.Proofs.Ytfifecjnniahiaa

namespace Go.Proofs.Ytfifecjnniahiaa
open Go Go.RowKit

/-- But for the blocks that ex names, and for new ones, the world is as it was. -/
structure Out (ex : Nat → Prop) (w w' : World) : Prop where
  os : w'.os = w.os
  tape : w'.tape = w.tape
  output : w'.output = w.output
  size : w.heap.size ≤ w'.heap.size
  block : ∀ k, k < w.heap.size → ¬ ex k → w'.heap[k]? = w.heap[k]?
section
variable {ex ex' : Nat → Prop} {a b c w w' : World}
theorem Out.refl (ex : Nat → Prop) (w : World) : Out ex w w := ⟨rfl, rfl, rfl, Nat.le_refl _, fun _ _ _ => rfl⟩
theorem Out.then (h : Out ex a b) (k : Out ex b c) : Out ex a c :=
  ⟨k.os.trans h.os, k.tape.trans h.tape, k.output.trans h.output, Nat.le_trans h.size k.size, fun i hi hn => (k.block i (Nat.lt_of_lt_of_le hi h.size) hn).trans (h.block i hi hn)⟩
theorem Out.below {B : Nat} (h : Out ex w w') (he : ∀ k, ex k → B ≤ k) (hB : B ≤ w.heap.size) : Below B w w' := ⟨h.os, h.tape, h.output, h.size, fun k hk => h.block k (by omega) (fun e => by have := he k e; omega)⟩
theorem Out.drew (h : Out ex a w) : Out ex a w.drew := ⟨h.os, h.tape, h.output, h.size, h.block⟩
theorem Out.drewN (h : Out ex a w) (n : Nat) : Out ex a (w.drewN n) := ⟨h.os, h.tape, h.output, h.size, h.block⟩
theorem Out.dr (h : Out ex a w) (hd : Dr w w') : Out ex a w' := by obtain ⟨n, rfl⟩ := hd; exact ⟨h.os, h.tape, h.output, h.size, h.block⟩
theorem Out.alloc (h : Out ex a w) (o : Obj) : Out ex a (w.alloc o) := h.then ⟨rfl, rfl, rfl, by simp, fun i hi _ => Below.heap_alloc w o i hi⟩
theorem Out.setCell (h : Out ex a w) {p : Addr} (hp : ex p.block) (u : Value) : Out ex a (w.setCell p u) :=
  ⟨h.os, h.tape, h.output, Nat.le_trans h.size (by simp [World.setCell]), fun i hi hn => (Below.heap_setCell w p u i (fun e => by subst e; exact hn hp)).trans (h.block i hi hn)⟩
end

def tcells (l m s v x : Nat) : Array Value := #[.int .u64 (l : Int), .int .u64 (m : Int), .float .f64 s, .float .f64 v, .int .u64 (x : Int)]
/-- A timer, of the program or of the reference, at block P. -/
def TAt (w : World) (P : Nat) (T : TypeId) (l m : Nat) (t : IE.TS) : Prop :=
  ∃ s v : Nat, w.heap[P]? = some (.cells (tcells l m s v t.val) T (0, 0)) ∧ (if t.has then s = t.s ∧ v = t.v else IE.nanB s = true ∧ IE.nanB v = true)

set_option maxHeartbeats 400000 in
theorem set_any (P l m n : Nat) (w : World) (c0 : w.cell? ⟨P, 0, none⟩ = some (.int .u64 (l : Int))) (c1 : w.cell? ⟨P, 1, none⟩ = some (.int .u64 (m : Int))) {x : Value} (c4 : w.cell? ⟨P, 4, none⟩ = some x) (hf : w.frozen? ⟨P, 4, none⟩ = false) :
    Calls Try.prog 24 #[.pointer (some ⟨P, 0, none⟩), .int .u64 (n : Int)] w fun e w' => e = .returned (.tuple #[]) ∧ (w.setCell ⟨P, 4, none⟩ (.int .u64 ((IE.clampT l m n : Nat) : Int))).drew = w' := by
  have hc : Hid (min (max (n : Int) (l : Int)) (m : Int) = ((IE.clampT l m n : Nat) : Int)) := hid (by unfold IE.clampT; omega)
  go_enter Try.func24, Try.ntmps24
  go_wp2_with fail
  refine still_tail 16 (by kernel_rfl) (by kernel_rfl) ?_
  simp only [List.take_succ_cons, List.take_zero, List.drop_succ_cons, List.drop_zero]
  repeat (first | (refine wpStill_step (fun K hK => ?_); go_simp; refine hK _ ?_; clear hK K; try go_ints))
  refine wpStill_nil ?_
  go_wp2_with fail
  rw [hc.out]
  go_end0
  exact ⟨rfl, rfl⟩

theorem floor_run {r : Nat} (h : r < IE.inf) (hr : IE.floorN r ≤ 4398046511104) (w : World) : (convert 33 22 (.float .f64 r)).run Try.prog w = .ok (.int .u64 ((IE.floorN r : Nat) : Int)) w := by
  refine run_convert_float_int (P := Try.prog) w 33 22 .f64 .u64 r _ (by rw [Try.underlying33]; rfl) Try.underlying22 ?_
  unfold floatToIntVal
  have := IE.toInt_eq h
  rw [show FloatKind.f64.decode r = IE.D.read r from rfl, this]
  simp only
  rw [if_pos]
  have e1 : IntKind.u64.min = 0 := rfl
  have e2 : IntKind.u64.max = 18446744073709551615 := rfl
  rw [e1, e2]
  omega
theorem max_run {P : Program} {v : Nat} (h : v < IE.inf) (ts : Array TypeId) (t : TypeId) (w : World) : (Builtin.max_ ts t #[.float .f64 v, .float .f64 4598175219545276416]).run P w = .ok (.float .f64 (max v IE.c025)) w := by
  have ho := IE.order_eq h (show IE.c025 < IE.inf by decide)
  have e : Builtin.max_ ts t #[.float .f64 v, .float .f64 4598175219545276416] = Builtin.max2 (.float .f64 v) (.float .f64 4598175219545276416) := by
    simp [Builtin.max_]
  rw [e]
  unfold Builtin.max2
  simp only
  rw [show FloatKind.f64.format.order v 4598175219545276416 = IE.D.order v IE.c025 from rfl, ho]
  cases hc : compare v IE.c025
  · have := Nat.compare_eq_lt.1 hc
    simp only [Sem.run_pure]; rw [Nat.max_eq_right (Nat.le_of_lt this)]; rfl
  · have := Nat.compare_eq_eq.1 hc
    simp only [Sem.run_pure]; rw [this, Nat.max_self]; unfold IE.c025; split <;> rfl
  · have := Nat.compare_eq_gt.1 hc
    simp only [Sem.run_pure]; rw [Nat.max_eq_left (Nat.le_of_lt this)]

structure Num (s v : Nat) : Prop where
  s : s ≤ IE.M32
  v : v ≤ IE.M32
theorem Num.si {s v : Nat} (h : Num s v) : s < IE.inf := Nat.lt_of_le_of_lt h.s IE.M32_inf
theorem Num.vi {s v : Nat} (h : Num s v) : v < IE.inf := Nat.lt_of_le_of_lt h.v IE.M32_inf

/-- What the sum of the smooth time and four deviations is reckoned with. -/
def pof (v : Nat) : Nat := IE.RN 1074 (IE.val 0 IE.c4 * IE.val 0 (max v IE.c025))
def qof (s v : Nat) : Nat := IE.RN 0 (IE.val 0 s + IE.val 0 (pof v))
structure Sums (s v : Nat) : Prop where
  m : IE.D.mul 4616189618054758400 (max v IE.c025) = some (pof v)
  a : IE.D.add s (pof v) = some (qof s v)
  qi : qof s v < IE.inf
  f : IE.floorN (qof s v) = IE.due s v
  d : IE.due s v ≤ 4398046511104
theorem sums {s v : Nat} (h : Num s v) : Sums s v := by
  have hm : max v IE.c025 < IE.inf := Nat.max_lt.2 ⟨h.vi, by decide⟩
  have hp : pof v < IE.inf := Nat.lt_of_le_of_lt (IE.four_le h.v) (by decide)
  refine ⟨IE.mul_eq (by decide) hm, IE.add_eq h.si hp, Nat.lt_of_le_of_lt (IE.sum_le h.s h.v) (by decide), rfl, ?_⟩
  exact Nat.le_trans (IE.due_le h.s h.v) (by decide)

attribute [-go_sem] run_fadd in
set_option maxHeartbeats 1000000 in
theorem later_any (B P l m s v x : Nat) (u : FrameMode) (w : World) (hB : w.cell? ⟨B, 0, none⟩ = some (.pointer (some ⟨P, 0, none⟩))) (hP : w.heap[P]? = some (.cells (tcells l m s v x) 54 (0, 0))) (hn : Num s v) :
    CallsD Try.prog 27 #[.pointer (some ⟨B, 0, none⟩)] u w fun e u' w' => u' = u ∧ (e = .returned (.tuple #[]) ∧ Dr (w.setCell ⟨P, 4, none⟩ (.int .u64 ((IE.clampT l m (IE.due s v) : Nat) : Int))) w') := by
  have c0 : w.cell? ⟨P, 0, none⟩ = some (.int .u64 (l : Int)) := cell_at hP 0
  have c1 : w.cell? ⟨P, 1, none⟩ = some (.int .u64 (m : Int)) := cell_at hP 1
  have c2 : w.cell? ⟨P, 2, none⟩ = some (.float .f64 s) := cell_at hP 2
  have c3 : w.cell? ⟨P, 3, none⟩ = some (.float .f64 v) := cell_at hP 3
  have c4 : w.cell? ⟨P, 4, none⟩ = some (.int .u64 (x : Int)) := cell_at hP 4
  have hf := free_at hP 4
  have hs := sums hn
  have h1 := hs.m
  have h2 := hs.a
  have h3 := fun w => floor_run hs.qi (by rw [hs.f]; exact hs.d) w
  rw [hs.f] at h3
  have h4 := fun (ts : Array TypeId) (t : TypeId) (w : World) => max_run (P := Try.prog) hn.vi ts t w
  obtain ⟨V, k2, k3⟩ : ∃ V : Value, (∀ w, (binOp .add 33 (.float .f64 s) (.float .f64 (pof v))).run Try.prog w = .ok V w) ∧ ∀ w, (convert 33 22 V).run Try.prog w = .ok (.int .u64 ((IE.due s v : Nat) : Int)) w :=
    ⟨.float .f64 (qof s v), fun w => by rw [run_fadd, h2, fres_some], h3⟩
  clear h2 h3
  clear hs hP hn
  generalize max v IE.c025 = mv at *
  generalize pof v = pv at *
  generalize qof s v = qv at *
  generalize IE.due s v = dv at *
  go_enter_d Try.func27, Try.ntmps27
  go_wp2_with fail
  refine still_tail 8 (by kernel_rfl) (by kernel_rfl) ?_
  simp only [List.take_succ_cons, List.take_zero, List.drop_succ_cons, List.drop_zero]
  repeat (first | (refine wpStill_step (fun K hK => ?_); go_simp; refine hK _ ?_; clear hK K; try go_ints))
  refine wpStill_nil ?_
  go_wp2_with fail
  refine (set_any P l m dv _ (by go_simp; try rfl) (by go_simp; try rfl) (x := .int .u64 (x : Int)) (by go_simp; try rfl) (by go_simp; try rfl)).mono ?_
  rintro e w' ⟨rfl, rfl⟩
  go_wp2_with fail
  go_end0
  exact ⟨rfl, ⟨2, rfl⟩⟩

end Go.Proofs.Ytfifecjnniahiaa

namespace Go.Proofs.Ytfifecjnniahiaa
open Go Go.RowKit

section
variable {w : World} {P l m n : Nat} {t : IE.TS}
theorem mixok_v {o s : Nat} (ho : o ≤ IE.M32) (hs : s ≤ IE.M32) : MixOk 4604930618986332160 4598175219545276416 o s := by
  have hi := Nat.le_of_lt IE.M32_inf
  refine ⟨by decide +kernel, by decide +kernel, by decide +kernel, by decide +kernel, by decide, by decide, Nat.lt_of_le_of_lt ho IE.M32_inf, Nat.lt_of_le_of_lt hs IE.M32_inf, ?_, ?_⟩
  · refine Nat.lt_of_le_of_lt (IE.RN_le (r := 4749045807062188032) (by decide) ?_) (by decide)
    rw [show IE.val 1074 4749045807062188032 = IE.val 0 IE.M32 * IE.val 0 4604930618986332160 by decide +kernel]
    exact Nat.mul_le_mul_right _ ((IE.val_mono (Nat.le_trans ho hi) hi).2 ho)
  · refine Nat.lt_of_le_of_lt (IE.RN_le (r := 4742290407621132288) (by decide) ?_) (by decide)
    rw [show IE.val 1074 4742290407621132288 = IE.val 0 IE.M32 * IE.val 0 4598175219545276416 by decide +kernel]
    exact Nat.mul_le_mul_right _ ((IE.val_mono (Nat.le_trans hs hi) hi).2 hs)
theorem mixok_s {o s : Nat} (ho : o ≤ IE.M32) (hs : s ≤ IE.M32) : MixOk 4606056518893174784 4593671619917905920 o s := by
  have hi := Nat.le_of_lt IE.M32_inf
  refine ⟨by decide +kernel, by decide +kernel, by decide +kernel, by decide +kernel, by decide, by decide, Nat.lt_of_le_of_lt ho IE.M32_inf, Nat.lt_of_le_of_lt hs IE.M32_inf, ?_, ?_⟩
  · refine Nat.lt_of_le_of_lt (IE.RN_le (r := 4750171706969030656) (by decide) ?_) (by decide)
    rw [show IE.val 1074 4750171706969030656 = IE.val 0 IE.M32 * IE.val 0 4606056518893174784 by decide +kernel]
    exact Nat.mul_le_mul_right _ ((IE.val_mono (Nat.le_trans ho hi) hi).2 ho)
  · refine Nat.lt_of_le_of_lt (IE.RN_le (r := 4737786807993761792) (by decide) ?_) (by decide)
    rw [show IE.val 1074 4737786807993761792 = IE.val 0 IE.M32 * IE.val 0 4593671619917905920 by decide +kernel]
    exact Nat.mul_le_mul_right _ ((IE.val_mono (Nat.le_trans hs hi) hi).2 hs)
theorem sub_dif {a b : Nat} (ha : a < IE.inf) (hb : b < IE.inf) : ∃ r, IE.D.sub a b = some r ∧ (r = IE.dif a b ∨ r = IE.sgn + IE.dif a b) := by
  by_cases h : b ≤ a
  · exact ⟨_, IE.sub_eq ha hb h, .inl (by unfold IE.dif; rw [if_pos h])⟩
  · exact ⟨_, IE.sub_neg ha hb (by omega), .inr (by unfold IE.dif; rw [if_neg h])⟩
theorem ofn_le {n : Nat} (h : n ≤ 4294967296) : IE.ofN n ≤ IE.M32 := by rw [IE.M32_eq]; exact IE.ofN_mono h

theorem boxcell (w : World) (a : Addr) (v c : Value) (T : TypeId) (n : Nat) : (((w.setCell a v).alloc (.cells #[c] T)).drewN n).cell? ⟨w.heap.size, 0, none⟩ = some c := by
  have e : (w.setCell a v).heap.size = w.heap.size := by simp [World.setCell]
  have h := cell_at (alloc_at (w.setCell a v) (.cells #[c] T)) 0
  rw [e] at h
  exact h
theorem boxcell2 (w : World) (a b : Addr) (u v c : Value) (T : TypeId) (n : Nat) : ((((w.setCell a v).setCell b u).alloc (.cells #[c] T)).drewN n).cell? ⟨w.heap.size, 0, none⟩ = some c := by
  have e : (w.setCell a v).heap.size = w.heap.size := by simp [World.setCell]
  have h := boxcell (w.setCell a v) b u c T n
  rw [e] at h
  exact h

theorem tat_done {wd w'' : World} {s' v' x X : Nat} (hd0 : wd.heap[P]? = some (.cells (tcells l m s' v' x) 54 (0, 0))) (ho : Out (· = P) w wd) (hd : Dr (wd.setCell ⟨P, 4, none⟩ (.int .u64 (X : Int))) w'') :
    TAt w'' P 54 l m ⟨true, s', v', X⟩ ∧ Out (· = P) w w'' := by
  obtain ⟨n, rfl⟩ := hd
  exact ⟨⟨s', v', at_setCell hd0 4 _, rfl, rfl⟩, (ho.setCell rfl _).dr ⟨n, rfl⟩⟩
theorem two_cells {s v s' v' x : Nat} {o : Obj} {n : Nat} (h : w.heap[P]? = some (.cells (tcells l m s v x) 54 (0, 0))) (wd : World) (e : wd = (((w.setCell ⟨P, 2, none⟩ (.float .f64 s')).setCell ⟨P, 3, none⟩ (.float .f64 v')).alloc o).drewN n) :
    wd.heap[P]? = some (.cells (tcells l m s' v' x) 54 (0, 0)) ∧ Out (· = P) w wd := by
  subst e
  have g := alloc_old (o' := o) (at_setCell (at_setCell h 2 (.float .f64 s')) 3 (.float .f64 v'))
  exact ⟨g, ((((Out.refl (fun k => k = P) w).setCell (p := ⟨P, 2, none⟩) rfl _).setCell (p := ⟨P, 3, none⟩) rfl _).alloc _).drewN n⟩
theorem two_cells' {s v s' v' x : Nat} {o : Obj} {n : Nat} (h : w.heap[P]? = some (.cells (tcells l m s v x) 54 (0, 0))) (wd : World) (e : wd = (((w.setCell ⟨P, 3, none⟩ (.float .f64 v')).setCell ⟨P, 2, none⟩ (.float .f64 s')).alloc o).drewN n) :
    wd.heap[P]? = some (.cells (tcells l m s' v' x) 54 (0, 0)) ∧ Out (· = P) w wd := by
  subst e
  have g := alloc_old (o' := o) (at_setCell (at_setCell h 3 (.float .f64 v')) 2 (.float .f64 s'))
  exact ⟨g, ((((Out.refl (fun k => k = P) w).setCell (p := ⟨P, 3, none⟩) rfl _).setCell (p := ⟨P, 2, none⟩) rfl _).alloc _).drewN n⟩

theorem sample_far (hn : 4294967296 < n) (h : TAt w P 54 l m t) :
    Calls Try.prog 13 #[.pointer (some ⟨P, 0, none⟩), .int .u64 (n : Int)] w fun e w' => e = .returned (.tuple #[]) ∧ TAt w' P 54 l m (t.sample l m n) ∧ Out (· = P) w w' := by
  have hn' : (4294967296 : Int) < (n : Int) := by omega
  have ht : t.sample l m n = t := by unfold IE.TS.sample; rw [if_pos hn]
  rw [ht]
  go_enter_defers Try.func13, Try.ntmps13
  go_wp2_with fail
  obtain ⟨s, v, hP, hh⟩ := h
  refine ⟨_, results_none rfl _ _ _, rfl, ⟨s, v, alloc_old hP, hh⟩, (Out.refl _ _).alloc _⟩

set_option maxHeartbeats 1000000 in
theorem sample_first (hn : n ≤ 4294967296) (hh : t.has = false) (h : TAt w P 54 l m t) :
    Calls Try.prog 13 #[.pointer (some ⟨P, 0, none⟩), .int .u64 (n : Int)] w fun e w' => e = .returned (.tuple #[]) ∧ TAt w' P 54 l m (t.sample l m n) ∧ Out (· = P) w w' := by
  have hmf : ∀ (fn : Fn) (first cap : Array Value) (w : World), (Instr.makeFunc fn first cap).run Try.prog w = .ok (.func fn first cap) w := fun _ _ _ _ => rfl
  have hn' : decide ((4294967296 : Int) < (n : Int)) = false := decide_eq_false (by omega)
  have ht : t.sample l m n = ⟨true, IE.ofN n, IE.half (IE.ofN n), IE.clampT l m (IE.due (IE.ofN n) (IE.half (IE.ofN n)))⟩ := by unfold IE.TS.sample; rw [if_neg (by omega)]; simp only [hh, Bool.false_eq_true, if_false]
  rw [ht]
  have hx := ofn_le hn
  have hxi := Nat.lt_of_le_of_lt hx IE.M32_inf
  have hnum : Hid (Num (IE.ofN n) (IE.half (IE.ofN n))) := hid ⟨hx, Nat.le_trans (IE.half_le (Nat.le_of_lt hxi)) hx⟩
  have hdv := IE.half_eq hxi
  rw [show IE.c2 = 4611686018427387904 from rfl] at hdv
  have hof := IE.ofN_eq n
  obtain ⟨s, v, hP, hs⟩ := h
  rw [hh] at hs
  obtain ⟨s1, s2⟩ : IE.nanB s = true ∧ IE.nanB v = true := hs
  have ho := (IE.order_nan s1 s).1
  have c2 : w.cell? ⟨P, 2, none⟩ = some (.float .f64 s) := cell_at hP 2
  have c3 : w.cell? ⟨P, 3, none⟩ = some (.float .f64 v) := cell_at hP 3
  have hf := free_at hP
  have HP := hid hP
  have hPl := lt_blk hP
  have hne : ¬ w.heap.size = P := by omega
  have hne2 : ¬ P = w.heap.size := by omega
  clear hP hx hxi ht hn
  generalize IE.half (IE.ofN n) = y at *
  generalize IE.ofN n = x at *
  go_enter_defers Try.func13, Try.ntmps13
  go_wp2_with fail
  go_quiet (fail)
  go_wp2_with fail
  have cB : (w.alloc (.cells #[.pointer (some ⟨P, 0, none⟩)] 27)).cell? ⟨w.heap.size, 0, none⟩ = some (.pointer (some ⟨P, 0, none⟩)) := by simp
  go_region_held3 (fun w' => w'.cell? ⟨w.heap.size, 0, none⟩ = some (.pointer (some ⟨P, 0, none⟩))) (first | with_reducible exact boxcell _ _ _ _ _ _ | with_reducible exact boxcell2 _ _ _ _ _ _ _ _ | go_keep) (fail)
  go_wp2_with fail
  obtain ⟨g, hO⟩ := two_cells HP.out _ rfl
  refine leaves_cons (f := 27) (args := #[.pointer (some ⟨w.heap.size, 0, none⟩)]) (by simp) (by simp [go_sem]) ?_
  refine (later_any w.heap.size P l m x y t.val .returning _ (by first | assumption | exact boxcell2 _ _ _ _ _ _ _ _) g hnum.out).mono ?_
  rintro e u' w'' ⟨rfl, rfl, hd⟩
  exact ⟨_, results_none rfl _ _ _, rfl, tat_done g hO hd⟩

set_option maxHeartbeats 1000000 in
theorem sample_more (hn : n ≤ 4294967296) (hh : t.has = true) (hok : t.ok) (h : TAt w P 54 l m t) :
    Calls Try.prog 13 #[.pointer (some ⟨P, 0, none⟩), .int .u64 (n : Int)] w fun e w' => e = .returned (.tuple #[]) ∧ TAt w' P 54 l m (t.sample l m n) ∧ Out (· = P) w w' := by
  have hmf : ∀ (fn : Fn) (first cap : Array Value) (w : World), (Instr.makeFunc fn first cap).run Try.prog w = .ok (.func fn first cap) w := fun _ _ _ _ => rfl
  have hn' : decide ((4294967296 : Int) < (n : Int)) = false := decide_eq_false (by omega)
  obtain ⟨s, v, hP, hs⟩ := h
  rw [hh] at hs
  obtain ⟨rfl, rfl⟩ : s = t.s ∧ v = t.v := hs
  have ht : t.sample l m n = ⟨true, IE.mixR 4606056518893174784 4593671619917905920 t.s (IE.ofN n), IE.mixR 4604930618986332160 4598175219545276416 t.v (IE.dif t.s (IE.ofN n)), IE.clampT l m (IE.due (IE.mixR 4606056518893174784 4593671619917905920 t.s (IE.ofN n)) (IE.mixR 4604930618986332160 4598175219545276416 t.v (IE.dif t.s (IE.ofN n))))⟩ := by
    unfold IE.TS.sample; rw [if_neg (by omega)]; simp only [hh, if_true, IE.c0875, IE.c0125, IE.c075, IE.c025]
  have hok2 := IE.TS.sample_ok hok l m n
  rw [ht] at hok2 ⊢
  have hnum : Hid (Num _ _) := hid ⟨hok2.s, hok2.v⟩
  have hx := ofn_le hn
  have hxi := Nat.lt_of_le_of_lt hx IE.M32_inf
  have hsi := Nat.lt_of_le_of_lt hok.s IE.M32_inf
  have hd := IE.dif_le (Nat.le_of_lt IE.M32_inf) hok.s hx
  have hds := hid (Nat.lt_trans (Nat.lt_of_le_of_lt hd IE.M32_inf) inf_sgn)
  obtain ⟨r, hr, hrd⟩ := sub_dif hsi hxi
  have HRD := hid hrd
  have HMV := hid (mixok_v hok.v hd)
  have HMS := hid (mixok_s hok.s hx)
  have ho := ord_same hsi
  have hof := IE.ofN_eq n
  have c2 : w.cell? ⟨P, 2, none⟩ = some (.float .f64 t.s) := cell_at hP 2
  have c3 : w.cell? ⟨P, 3, none⟩ = some (.float .f64 t.v) := cell_at hP 3
  have hf := free_at hP
  have HP := hid hP
  have hPl := lt_blk hP
  have hne : ¬ w.heap.size = P := by omega
  have hne2 : ¬ P = w.heap.size := by omega
  clear hP hx hxi ht hn hok hok2 hsi hd hrd hh
  generalize IE.dif t.s (IE.ofN n) = d at *
  generalize IE.ofN n = x at *
  obtain ⟨has, ts, tv, tx⟩ := t
  simp only at *
  obtain ⟨s', hs'⟩ : ∃ s', IE.mixR 4606056518893174784 4593671619917905920 ts x = s' := ⟨_, rfl⟩
  obtain ⟨v', hv'⟩ : ∃ v', IE.mixR 4604930618986332160 4598175219545276416 tv d = v' := ⟨_, rfl⟩
  have hms := fun w => mix_fin _ _ _ _ HMS.out w
  have hmv := fun w => mix_fin _ _ _ _ HMV.out w
  rw [hs'] at hms hnum
  rw [hv'] at hmv hnum
  rw [hs', hv']
  have HA := hid hms
  have HB := hid hmv
  clear hs' hv' HMV HMS hms hmv
  go_enter_defers Try.func13, Try.ntmps13
  go_wp2_with fail
  go_quiet (fail)
  go_wp2_with fail
  refine still_tail 13 (by kernel_rfl) (by kernel_rfl) ?_
  simp only [List.take_succ_cons, List.take_zero, List.drop_succ_cons, List.drop_zero]
  repeat (first | (refine wpStill_step (fun K hK => ?_); go_simp; refine hK _ ?_; clear hK K; try go_ints) | (refine wpStill_step (fun K hK => ?_); go_simp; refine ⟨_, rsame (abs_any d _ _ HRD.out hds.out), hK _ ?_⟩; clear hK K; try go_ints) | (refine wpStill_step (fun K hK => ?_); go_simp; refine ⟨_, rsame (HB.out _), hK _ ?_⟩; clear hK K; try go_ints))
  refine wpStill_nil ?_
  go_wp2_with fail
  refine still_tail 7 (by kernel_rfl) (by kernel_rfl) ?_
  simp only [List.take_succ_cons, List.take_zero, List.drop_succ_cons, List.drop_zero]
  repeat (first | (refine wpStill_step (fun K hK => ?_); go_simp; refine hK _ ?_; clear hK K; try go_ints) | (refine wpStill_step (fun K hK => ?_); go_simp; refine ⟨_, rsame (HA.out _), hK _ ?_⟩; clear hK K; try go_ints))
  refine wpStill_nil ?_
  go_wp2_with fail
  obtain ⟨g, hO⟩ := two_cells' HP.out _ rfl
  refine leaves_cons (f := 27) (args := #[.pointer (some ⟨w.heap.size, 0, none⟩)]) (by simp) (by simp [go_sem]) ?_
  refine (later_any w.heap.size P l m s' v' tx .returning _ (by first | assumption | exact boxcell2 _ _ _ _ _ _ _ _) g hnum.out).mono ?_
  rintro e u' w'' ⟨rfl, rfl, hd⟩
  exact ⟨_, results_none rfl _ _ _, rfl, tat_done g hO hd⟩

theorem sample_any (hok : t.ok) (h : TAt w P 54 l m t) :
    Calls Try.prog 13 #[.pointer (some ⟨P, 0, none⟩), .int .u64 (n : Int)] w fun e w' => e = .returned (.tuple #[]) ∧ TAt w' P 54 l m (t.sample l m n) ∧ Out (· = P) w w' := by
  by_cases hn : n ≤ 4294967296
  · cases hh : t.has
    · exact sample_first hn hh h
    · exact sample_more hn hh hok h
  · exact sample_far (by omega) h
end
end Go.Proofs.Ytfifecjnniahiaa

namespace Go.Proofs.Ytfifecjnniahiaa
open Go Go.RowKit
section
variable {w : World} {P l m n : Nat} {t : IE.TS}
set_option maxHeartbeats 1000000 in
theorem value_any (h : TAt w P 54 l m t) : Calls Try.prog 11 #[.pointer (some ⟨P, 0, none⟩)] w fun e w' => e = .returned (.int .u64 (t.val : Int)) ∧ w = w' := by
  obtain ⟨s, v, hP, hs⟩ := h
  have c4 : w.cell? ⟨P, 4, none⟩ = some (.int .u64 (t.val : Int)) := cell_at hP 4
  clear hP hs
  go_enter Try.func11, Try.ntmps11
  go_wp2_with fail
  go_ret
  exact ⟨rfl, rfl⟩
theorem value_nil (w : World) : Calls Try.prog 11 #[.pointer none] w fun e w' => e = .returned (.int .u64 0) ∧ w = w' := by
  go_enter Try.func11, Try.ntmps11
  go_wp2_with fail
  go_ret
  exact ⟨rfl, rfl⟩
theorem smooth_nil (w : World) : Calls Try.prog 10 #[.pointer none] w fun e w' => e = .returned (.tuple #[.float .f64 9221120237041090561, .float .f64 9221120237041090561]) ∧ w = w' := by
  go_enter Try.func10, Try.ntmps10
  go_wp2_with (go_at_call 23; refine (NaN_any _).mono ?_; rintro e w' ⟨rfl, rfl⟩)
  go_ret2
  exact ⟨rfl, rfl⟩
theorem sample_nil (n : Nat) (w : World) : Calls Try.prog 13 #[.pointer none, .int .u64 (n : Int)] w fun e w' => e = .returned (.tuple #[]) ∧ Below w.heap.size w w' := by
  go_enter_defers Try.func13, Try.ntmps13
  go_wp2_with fail
  exact ⟨_, results_none rfl _ _ _, rfl, (Below.refl _ _).alloc (Nat.le_refl _) _⟩
theorem backoff_nil (w : World) : Calls Try.prog 15 #[.pointer none] w fun e w' => e = .returned (.tuple #[]) ∧ w = w' := by
  go_enter Try.func15, Try.ntmps15
  go_wp2_with fail
  go_end0
  exact ⟨rfl, rfl⟩

set_option maxHeartbeats 1000000 in
theorem smooth_any {s v x : Nat} (hP : w.heap[P]? = some (.cells (tcells l m s v x) 54 (0, 0))) :
    Calls Try.prog 10 #[.pointer (some ⟨P, 0, none⟩)] w fun e w' => e = .returned (.tuple #[.float .f64 s, .float .f64 v]) ∧ Dr w w' := by
  have c2 : w.cell? ⟨P, 2, none⟩ = some (.float .f64 s) := cell_at hP 2
  have c3 : w.cell? ⟨P, 3, none⟩ = some (.float .f64 v) := cell_at hP 3
  clear hP
  go_enter Try.func10, Try.ntmps10
  go_wp2_with fail
  go_quiet (fail)
  go_wp2_with fail
  go_ret2
  exact ⟨rfl, (Dr.refl _).drewN _⟩

set_option maxHeartbeats 1000000 in
theorem backoff_any (hv : l ≤ t.val ∧ t.val ≤ 4294967296) (h : TAt w P 54 l m t) :
    Calls Try.prog 15 #[.pointer (some ⟨P, 0, none⟩)] w fun e w' => e = .returned (.tuple #[]) ∧ TAt w' P 54 l m (t.backoff m) ∧ Out (· = P) w w' := by
  obtain ⟨s, v, hP, hs⟩ := h
  have c0 : w.cell? ⟨P, 0, none⟩ = some (.int .u64 (l : Int)) := cell_at hP 0
  have c1 : w.cell? ⟨P, 1, none⟩ = some (.int .u64 (m : Int)) := cell_at hP 1
  have c4 : w.cell? ⟨P, 4, none⟩ = some (.int .u64 (t.val : Int)) := cell_at hP 4
  have e2 : Hid (2 * (t.val : Int) = ((2 * t.val : Nat) : Int)) := hid (by omega)
  have hb : 2 * (t.val : Int) ≤ 18446744073709551615 := by omega
  have hf := free_at hP 4
  have HP := hid hP
  have ev : IE.clampT l m (2 * t.val) = (t.backoff m).val := by
    have h2 : 2 * t.val % 18446744073709551616 = 2 * t.val := Nat.mod_eq_of_lt (by omega)
    unfold IE.clampT IE.TS.backoff
    simp only [h2]
    rw [Nat.max_eq_left (by omega)]
  have EV := hid ev
  clear hP ev
  go_enter Try.func15, Try.ntmps15
  go_wp2_with fail
  rw [e2.out]
  refine (set_any P l m (2 * t.val) _ c0 c1 c4 hf).mono ?_
  rintro e w' ⟨rfl, rfl⟩
  rw [EV.out]
  go_wp2_with fail
  go_end0
  refine ⟨rfl, ⟨s, v, at_setCell HP.out 4 _, hs⟩, ?_⟩
  exact ((Out.refl (fun k => k = P) w).setCell (p := ⟨P, 4, none⟩) rfl _).drew

theorem new_no (hm : l < 1 ∨ m < l ∨ 4294967296 < m) : Calls Try.prog 8 #[.agg #[.int .u64 (l : Int), .int .u64 (m : Int)]] w fun e w' => e = .returned (.tuple #[.pointer none, .int .i64 2]) ∧ Below w.heap.size w w' := by
  have c0 : (w.alloc (.cells #[.int .u64 (l : Int), .int .u64 (m : Int)] 24)).cell? ⟨w.heap.size, 0, none⟩ = some (.int .u64 (l : Int)) := cell_at (alloc_at _ _) 0
  have c1 : (w.alloc (.cells #[.int .u64 (l : Int), .int .u64 (m : Int)] 24)).cell? ⟨w.heap.size, 1, none⟩ = some (.int .u64 (m : Int)) := cell_at (alloc_at _ _) 1
  by_cases h1 : (l : Int) < 1
  · clear hm
    go_enter Try.func8, Try.ntmps8
    go_wp2_with fail
    go_ret2
    exact ⟨rfl, (Below.refl _ _).alloc (Nat.le_refl _) _⟩
  · have h1' : decide ((l : Int) < 1) = false := decide_eq_false h1
    by_cases h2 : (m : Int) < (l : Int)
    · clear hm h1
      go_enter Try.func8, Try.ntmps8
      go_wp2_with fail
      go_ret2
      exact ⟨rfl, (Below.refl _ _).alloc (Nat.le_refl _) _⟩
    · have h2' : decide (m < l) = false := decide_eq_false (by omega)
      have h3 : (4294967296 : Int) < (m : Int) := by omega
      clear hm h1 h2
      go_enter Try.func8, Try.ntmps8
      go_wp2_with fail
      go_ret2
      exact ⟨rfl, (Below.refl _ _).alloc (Nat.le_refl _) _⟩

def freshT (l m : Nat) : IE.TS := ⟨false, 0, 0, IE.clampT l m 1000⟩
set_option maxHeartbeats 1000000 in
theorem new_any (h1 : 1 ≤ l) (h2 : l ≤ m) (h3 : m ≤ 4294967296) : Calls Try.prog 8 #[.agg #[.int .u64 (l : Int), .int .u64 (m : Int)]] w fun e w' => ∃ P, w.heap.size ≤ P ∧ e = .returned (.tuple #[.pointer (some ⟨P, 0, none⟩), .int .i64 0]) ∧ TAt w' P 54 l m (freshT l m) ∧ Below w.heap.size w w' := by
  have d1 : decide ((l : Int) < 1) = false := decide_eq_false (by omega)
  have d2 : decide ((m : Int) < (l : Int)) = false := decide_eq_false (by omega)
  have d3 : decide ((4294967296 : Int) < (m : Int)) = false := decide_eq_false (by omega)
  have c0 : (w.alloc (.cells #[.int .u64 (l : Int), .int .u64 (m : Int)] 24)).cell? ⟨w.heap.size, 0, none⟩ = some (.int .u64 (l : Int)) := cell_at (alloc_at _ _) 0
  have c1 : (w.alloc (.cells #[.int .u64 (l : Int), .int .u64 (m : Int)] 24)).cell? ⟨w.heap.size, 1, none⟩ = some (.int .u64 (m : Int)) := cell_at (alloc_at _ _) 1
  go_enter Try.func8, Try.ntmps8
  go_wp2_with fail
  refine still_tail 4 (by kernel_rfl) (by kernel_rfl) ?_
  simp only [List.take_succ_cons, List.take_zero, List.drop_succ_cons, List.drop_zero]
  repeat (first | (refine wpStill_step (fun K hK => ?_); go_simp; refine hK _ ?_; clear hK K; try go_ints) | (refine wpStill_step (fun K hK => ?_); go_simp; refine ⟨_, rsame (NaN_any _), hK _ ?_⟩; clear hK K; try go_ints))
  refine wpStill_nil ?_
  go_wp2_with fail
  have g1 : ((w.alloc (.cells #[.int .u64 (l : Int), .int .u64 (m : Int)] 24)).alloc (.cells (tcells l m 9221120237041090561 9221120237041090561 0) 54)).drew.heap[w.heap.size + 1]? = some (.cells (tcells l m 9221120237041090561 9221120237041090561 0) 54 (0, 0)) := by
    have := alloc_at (w.alloc (.cells #[.int .u64 (l : Int), .int .u64 (m : Int)] 24)) (.cells (tcells l m 9221120237041090561 9221120237041090561 0) 54)
    rw [World.size_alloc] at this
    exact this
  refine (set_any (w.heap.size + 1) l m 1000 _ (cell_at g1 0) (cell_at g1 1) (cell_at g1 4) (free_at g1 4)).mono ?_
  rintro e w' ⟨rfl, rfl⟩
  go_wp2_with fail
  go_ret2
  refine ⟨w.heap.size + 1, Nat.le_succ _, rfl, ⟨9221120237041090561, 9221120237041090561, ?_, ?_⟩, ?_⟩
  · have := alloc_at (w.alloc (.cells #[.int .u64 (l : Int), .int .u64 (m : Int)] 24)) (.cells (tcells l m 9221120237041090561 9221120237041090561 (IE.clampT l m 1000)) 54)
    rw [World.size_alloc] at this
    exact this
  · exact ⟨by decide +kernel, by decide +kernel⟩
  · have b1 := (Below.refl w.heap.size w).alloc (Nat.le_refl _) (.cells #[.int .u64 (l : Int), .int .u64 (m : Int)] 24)
    have b2 := b1.alloc b1.size (.cells (tcells l m 9221120237041090561 9221120237041090561 (IE.clampT l m 1000)) 54)
    exact b2.drew.drew
end
end Go.Proofs.Ytfifecjnniahiaa

namespace Go.Proofs.Ytfifecjnniahiaa
open Go Go.RowKit

theorem call_ceil (r : Nat) (h : r < IE.inf) (w : World) : (callFunc 34 #[.float .f64 r]).run Try.prog w = .ok (.value (.float .f64 (IE.ofN (IE.ceilN r)))) w := by
  rw [run_callFunc_extern (e := Extern.MathFloor.toIntegral "math.archCeil" .up) Try.func34 (by kernel_rfl) (by kernel_rfl) (by kernel_rfl) (by kernel_rfl)]
  have hc := IE.ceil_eq h
  have hr := IE.read_rung h
  rw [hr] at hc
  have hd : FloatKind.f64.decode r = .number false (IE.vm r) (-1074 + (IE.ve r : Int)) := hr
  have e : Extern.MathFloor.toIntegral "math.archCeil" .up #[.float .f64 r] = pure (.float .f64 (IE.ofN (IE.ceilN r))) := by
    conv => lhs; whnf
    rw [hd, ← hc]
    rfl
  rw [e]
  rfl
theorem ceil_any (r : Nat) (h : r < IE.inf) (w : World) : Calls Try.prog 30 #[.float .f64 r] w fun e w' => e = .returned (.float .f64 (IE.ofN (IE.ceilN r))) ∧ w = w' := by
  have hc := fun w => call_ceil r h w
  generalize IE.ofN (IE.ceilN r) = c at *
  go_enter Try.func30, Try.ntmps30
  go_wp2_with fail
  go_ret
  exact ⟨rfl, rfl⟩

set_option maxHeartbeats 400000 in
theorem inf_one (s : Nat) (w : World) (h : s < IE.inf) : Calls Try.prog 29 #[.float .f64 s, .int .i64 1] w fun e w' => e = .returned (.bool false) ∧ w = w' := by
  have hm := ord_max h
  go_enter Try.func29, Try.ntmps29
  go_wp2_with fail
  go_ret
  exact ⟨by rw [← hm]; rfl, rfl⟩

theorem k_ten : floatOfInt FloatKind.f64 10 = 4621819117588971520 := by decide +kernel
theorem k_div : IE.D.div 4621819117588971520 4616189618054758400 = some 4612811918334230528 := by decide +kernel
theorem k_four0 : IE.D.order 4616189618054758400 0 = some .gt := by decide +kernel
theorem k_four : IE.D.order 4616189618054758400 4616189618054758400 = some .eq := by decide +kernel
set_option maxHeartbeats 400000 in
theorem rate_known (w : World) : Calls Try.prog 17 #[.int .u64 10, .float .f64 4616189618054758400] w fun e w' => e = .returned (.float .f64 4612811918334230528) ∧ w = w' := by
  have h1 := k_ten
  have h2 := k_div
  have h3 := k_four0
  go_enter Try.func17, Try.ntmps17
  go_wp2_with fail
  go_ret
  exact ⟨rfl, rfl⟩
theorem k_c3 : IE.ofN (IE.ceilN 4612811918334230528) = 4613937818241073152 := by decide +kernel
theorem k_3m : IE.D.order 4613937818241073152 4751297606875873280 = some .lt := by decide +kernel
theorem k_3 : IE.floorN 4613937818241073152 = 3 := by decide +kernel
set_option maxHeartbeats 400000 in
theorem pause_known (w : World) : Calls Try.prog 19 #[.int .u64 10, .float .f64 4616189618054758400] w fun e w' => e = .returned (.int .u64 3) ∧ w = w' := by
  have h1 := k_ten
  have h2 := k_div
  have h3 := k_four0
  have h4 := k_four
  have h5 := k_3m
  have h6 := fun w => floor_run (r := 4613937818241073152) (by decide) (by rw [k_3]; decide) w
  rw [k_3] at h6
  have h7 := fun w => ceil_any 4612811918334230528 (by decide) w
  rw [k_c3] at h7
  have h8 := fun w => inf_one 4616189618054758400 w (by decide)
  go_enter Try.func19, Try.ntmps19
  go_wp2_with (first | (go_at_call 29; refine (h8 _).mono ?_; rintro e w' ⟨rfl, rfl⟩) | (go_at_call 30; refine (h7 _).mono ?_; rintro e w' ⟨rfl, rfl⟩))
  go_ret
  exact ⟨rfl, rfl⟩
end Go.Proofs.Ytfifecjnniahiaa

namespace Go.Proofs.Ytfifecjnniahiaa
open Go Go.RowKit

def t0 : IE.TS := freshT 200 60000
def t1 : IE.TS := t0.sample 200 60000 100
def t2 : IE.TS := t1.sample 200 60000 100
def t3 : IE.TS := t2.backoff 60000
theorem t0_ok : t0.ok := ⟨Nat.zero_le _, Nat.zero_le _⟩
theorem t1_ok : t1.ok := IE.TS.sample_ok t0_ok _ _ _
theorem t2_ok : t2.ok := IE.TS.sample_ok t1_ok _ _ _
theorem t0_val : t0.val = 1000 := by decide +kernel
theorem t1_val : t1.val = 300 := by decide +kernel
theorem t2_val : t2.val = 250 := by decide +kernel
theorem t3_val : t3.val = 500 := by decide +kernel
theorem t3_has : t3.has = true := by decide +kernel
theorem t3_s : t3.s = 4636737291354636288 := by decide +kernel
theorem t3_v : t3.v = 4630474473122824192 := by decide +kernel
theorem o_s : IE.D.order 4636737291354636288 4636737291354636288 = some .eq := by decide +kernel
theorem o_v : IE.D.order 4630474473122824192 4630474473122824192 = some .eq := by decide +kernel
theorem o_r : IE.D.order 4612811918334230528 4612811918334230528 = some .eq := by decide +kernel
theorem o_m : IE.D.order 4618441417868443648 4618441417868443648 = some .eq := by decide +kernel
theorem mix_ok : MixOk 4602678819172646912 4602678819172646912 4616189618054758400 4620693217682128896 :=
  ⟨by decide +kernel, by decide +kernel, by decide +kernel, by decide +kernel, by decide, by decide, by decide, by decide, by decide +kernel, by decide +kernel⟩
theorem mix_val : IE.mixR 4602678819172646912 4602678819172646912 4616189618054758400 4620693217682128896 = 4618441417868443648 := by decide +kernel
theorem mix_known (w : World) : Calls Try.prog 21 #[.float .f64 4616189618054758400, .float .f64 4620693217682128896, .float .f64 4602678819172646912] w fun e w' => e = .returned (.float .f64 4618441417868443648) ∧ w = w' := by
  have := mix_fin _ _ _ _ mix_ok w
  rw [mix_val] at this
  exact this

set_option maxHeartbeats 1000000 in
theorem works_any (W : World) : Calls Try.prog 7 #[] W fun e w' => e = .returned (.bool true) ∧ Below W.heap.size W w' := by
  have e1 := o_s
  have e2 := o_v
  have e3 := o_r
  have e4 := o_m
  go_enter Try.func7, Try.ntmps7
  go_wp2_with fail
  refine (new_any (l := 200) (m := 60000) (by decide) (by decide) (by decide)).mono ?_
  rintro e w1 ⟨P, hP, rfl, h1, b1⟩
  have HP := hid hP
  have H1 := hid h1
  have B1 := hid b1
  clear hP h1 b1
  go_wp2_with fail
  refine (value_any H1.out).mono ?_
  rintro e w' ⟨rfl, rfl⟩
  rw [show ((freshT 200 60000).val : Int) = 1000 from by rw [show (freshT 200 60000).val = 1000 from t0_val]; rfl]
  go_wp2_with fail
  refine (sample_any (n := 100) t0_ok H1.out).mono ?_
  rintro e w2 ⟨rfl, h2, b2⟩
  have H2 : Hid (TAt w2 P 54 200 60000 t1) := hid h2
  have B2 := hid b2
  clear h2 b2
  go_wp2_with fail
  refine (value_any H2.out).mono ?_
  rintro e w' ⟨rfl, rfl⟩
  rw [show (t1.val : Int) = 300 from by rw [t1_val]; rfl]
  go_wp2_with fail
  refine (sample_any (n := 100) t1_ok H2.out).mono ?_
  rintro e w3 ⟨rfl, h3, b3⟩
  have H3 : Hid (TAt w3 P 54 200 60000 t2) := hid h3
  have B3 := hid b3
  clear h3 b3
  go_wp2_with fail
  refine (value_any H3.out).mono ?_
  rintro e w' ⟨rfl, rfl⟩
  rw [show (t2.val : Int) = 250 from by rw [t2_val]; rfl]
  go_wp2_with fail
  refine (backoff_any (by rw [t2_val]; decide) H3.out).mono ?_
  rintro e w4 ⟨rfl, h4, b4⟩
  have H4 : Hid (TAt w4 P 54 200 60000 t3) := hid h4
  have B4 := hid b4
  clear h4 b4
  go_wp2_with fail
  obtain ⟨s, v, h5, h6⟩ := H4.out
  rw [t3_has] at h6
  simp only [if_true] at h6
  rw [t3_s, t3_v] at h6
  refine (smooth_any h5).mono ?_
  rintro e w5 ⟨rfl, hd⟩
  obtain ⟨nd, rfl⟩ := hd
  have H5 : Hid (TAt (w4.drewN nd) P 54 200 60000 t3) := hid ⟨s, v, h5, by rw [t3_has, t3_s, t3_v]; simp only [if_true]; exact h6⟩
  obtain ⟨rfl, rfl⟩ := h6
  clear h5
  have b5 : Out (· = P) w1 (w4.drewN nd) := ((B2.out.then B3.out).then B4.out).drewN nd
  have B5 := hid (B1.out.trans (b5.below (B := W.heap.size) (fun k e => by rw [e]; exact HP.out) B1.out.size))
  clear b5
  have V5 := hid (show (t3.val : Int) = 500 from by rw [t3_val]; rfl)
  go_wp2_with (first | (go_at_call 11; refine (value_any H5.out).mono ?_; rintro e w' ⟨rfl, rfl⟩; rw [V5.out]) | (go_at_call 17; refine (rate_known _).mono ?_; rintro e w' ⟨rfl, rfl⟩) | (go_at_call 19; refine (pause_known _).mono ?_; rintro e w' ⟨rfl, rfl⟩) | (go_at_call 21; refine (mix_known _).mono ?_; rintro e w' ⟨rfl, rfl⟩))
  go_ret
  exact ⟨rfl, B5.out⟩

set_option maxHeartbeats 1000000 in
theorem alone_any (n : Nat) (W : World) : Calls Try.prog 6 #[.int .u64 (n : Int)] W fun e w' => e = .returned (.bool true) ∧ Below W.heap.size W w' := by
  have hn : IE.D.order 9221120237041090561 9221120237041090561 = Option.none := by decide +kernel
  go_enter Try.func6, Try.ntmps6
  go_wp2_with fail
  refine (sample_nil n _).mono ?_
  rintro e w1 ⟨rfl, b1⟩
  have B1 := hid b1
  clear b1
  go_wp2_with (first | (go_at_call 15; refine (backoff_nil _).mono ?_; rintro e w' ⟨rfl, rfl⟩) | (go_at_call 10; refine (smooth_nil _).mono ?_; rintro e w' ⟨rfl, rfl⟩) | (go_at_call 11; refine (value_nil _).mono ?_; rintro e w' ⟨rfl, rfl⟩))
  refine (works_any _).mono ?_
  rintro e w2 ⟨rfl, b2⟩
  have B2 := hid (below_to B1.out b2)
  clear b2
  go_wp2_with fail
  go_ret
  exact ⟨rfl, B2.out⟩
end Go.Proofs.Ytfifecjnniahiaa

namespace Go.Proofs.Ytfifecjnniahiaa
open Go Go.RowKit
section
variable {w : World} {P l m n : Nat} {t : IE.TS}

theorem quarter {s v : Nat} (h : Num s v) : (IE.D.order v 4598175219545276416 = some .lt ∧ IE.D.mul 4616189618054758400 4598175219545276416 = some (pof v)) ∨ ((IE.D.order v 4598175219545276416 = some .eq ∨ IE.D.order v 4598175219545276416 = some .gt) ∧ IE.D.mul 4616189618054758400 v = some (pof v)) := by
  have ho := IE.order_eq h.vi (show IE.c025 < IE.inf by decide)
  have hm := (sums h).m
  rw [show (4598175219545276416 : Nat) = IE.c025 from rfl, ho]
  cases hc : compare v IE.c025
  · have := Nat.compare_eq_lt.1 hc
    rw [Nat.max_eq_right (Nat.le_of_lt this)] at hm
    exact .inl ⟨rfl, hm⟩
  · have := Nat.compare_eq_eq.1 hc
    rw [this, Nat.max_self] at hm
    rw [this]
    exact .inr ⟨.inl rfl, hm⟩
  · have := Nat.compare_eq_gt.1 hc
    rw [Nat.max_eq_left (Nat.le_of_lt this)] at hm
    exact .inr ⟨.inr rfl, hm⟩
/-- What the sum and its way to a word give, as values that nothing unfolds. -/
theorem sum_word {s v : Nat} (h : Num s v) : ∃ V : Value, (∀ w, (binOp .add 33 (.float .f64 s) (.float .f64 (pof v))).run Try.prog w = .ok V w) ∧ ∀ w, (convert 33 22 V).run Try.prog w = .ok (.int .u64 ((IE.due s v : Nat) : Int)) w := by
  have hs := sums h
  refine ⟨.float .f64 (qof s v), fun w => by rw [run_fadd, hs.a, fres_some], fun w => ?_⟩
  have h3 := floor_run hs.qi (by rw [hs.f]; exact hs.d) w
  rw [hs.f] at h3
  exact h3
theorem rdone {s v s' v' x X : Nat} (h : w.heap[P]? = some (.cells (tcells l m s v x) 38 (0, 0))) (wd : World)
    (e : ∃ k, wd = (((w.setCell ⟨P, 2, none⟩ (.float .f64 s')).setCell ⟨P, 3, none⟩ (.float .f64 v')).setCell ⟨P, 4, none⟩ (.int .u64 (X : Int))).drewN k ∨ wd = (((w.setCell ⟨P, 3, none⟩ (.float .f64 v')).setCell ⟨P, 2, none⟩ (.float .f64 s')).setCell ⟨P, 4, none⟩ (.int .u64 (X : Int))).drewN k) :
    TAt wd P 38 l m ⟨true, s', v', X⟩ ∧ Out (· = P) w wd := by
  obtain ⟨k, rfl | rfl⟩ := e
  · exact ⟨⟨s', v', at_setCell (at_setCell (at_setCell h 2 (.float .f64 s')) 3 (.float .f64 v')) 4 (.int .u64 (X : Int)), rfl, rfl⟩, ((((Out.refl (fun k => k = P) w).setCell (p := ⟨P, 2, none⟩) rfl _).setCell (p := ⟨P, 3, none⟩) rfl _).setCell (p := ⟨P, 4, none⟩) rfl _).drewN k⟩
  · exact ⟨⟨s', v', at_setCell (at_setCell (at_setCell h 3 (.float .f64 v')) 2 (.float .f64 s')) 4 (.int .u64 (X : Int)), rfl, rfl⟩, ((((Out.refl (fun k => k = P) w).setCell (p := ⟨P, 3, none⟩) rfl _).setCell (p := ⟨P, 2, none⟩) rfl _).setCell (p := ⟨P, 4, none⟩) rfl _).drewN k⟩

theorem keep4 (w : World) (P k : Nat) (v : Value) (hk : k ≠ 4) : (w.setCell ⟨P, 4, none⟩ v).drew.cell? ⟨P, k, none⟩ = w.cell? ⟨P, k, none⟩ := by
  show (w.setCell ⟨P, 4, none⟩ v).cell? ⟨P, k, none⟩ = _
  exact World.cell?_setCell_other _ _ _ _ (by first | (simp; done) | (simp; omega))

theorem rsample_far (hn : 4294967296 < n) (h : TAt w P 38 l m t) :
    Calls Try.prog 14 #[.pointer (some ⟨P, 0, none⟩), .int .u64 (n : Int)] w fun e w' => e = .returned (.tuple #[]) ∧ TAt w' P 38 l m (t.sample l m n) ∧ Out (· = P) w w' := by
  have hn' : (4294967296 : Int) < (n : Int) := by omega
  have ht : t.sample l m n = t := by unfold IE.TS.sample; rw [if_pos hn]
  rw [ht]
  go_enter Try.func14, Try.ntmps14
  go_wp2_with fail
  refine bodyPost_ret (results_none rfl _ _ _) rfl ⟨rfl, h, Out.refl _ _⟩

attribute [-go_sem] run_fadd in
set_option maxHeartbeats 1000000 in
theorem rsample_first (hn : n ≤ 4294967296) (hh : t.has = false) (h : TAt w P 38 l m t) :
    Calls Try.prog 14 #[.pointer (some ⟨P, 0, none⟩), .int .u64 (n : Int)] w fun e w' => e = .returned (.tuple #[]) ∧ TAt w' P 38 l m (t.sample l m n) ∧ Out (· = P) w w' := by
  have hn' : decide ((4294967296 : Int) < (n : Int)) = false := decide_eq_false (by omega)
  have ht : t.sample l m n = ⟨true, IE.ofN n, IE.half (IE.ofN n), IE.clampT l m (IE.due (IE.ofN n) (IE.half (IE.ofN n)))⟩ := by unfold IE.TS.sample; rw [if_neg (by omega)]; simp only [hh, Bool.false_eq_true, if_false]
  rw [ht]
  have hx := ofn_le hn
  have hxi := Nat.lt_of_le_of_lt hx IE.M32_inf
  have hnum : Num (IE.ofN n) (IE.half (IE.ofN n)) := ⟨hx, Nat.le_trans (IE.half_le (Nat.le_of_lt hxi)) hx⟩
  have hdv := IE.half_eq hxi
  rw [show IE.c2 = 4611686018427387904 from rfl] at hdv
  have hof := IE.ofN_eq n
  obtain ⟨V, k2, k3⟩ := sum_word hnum
  have hq := quarter hnum
  obtain ⟨s, v, hP, hs⟩ := h
  rw [hh] at hs
  obtain ⟨s1, s2⟩ : IE.nanB s = true ∧ IE.nanB v = true := hs
  have c0 : w.cell? ⟨P, 0, none⟩ = some (.int .u64 (l : Int)) := cell_at hP 0
  have c1 : w.cell? ⟨P, 1, none⟩ = some (.int .u64 (m : Int)) := cell_at hP 1
  have c2 : w.cell? ⟨P, 2, none⟩ = some (.float .f64 s) := cell_at hP 2
  have c3 : w.cell? ⟨P, 3, none⟩ = some (.float .f64 v) := cell_at hP 3
  have c4 : w.cell? ⟨P, 4, none⟩ = some (.int .u64 (t.val : Int)) := cell_at hP 4
  have hf := free_at hP
  have HP := hid hP
  clear hP hx hxi ht hn hnum s2
  generalize pof (IE.half (IE.ofN n)) = pv at *
  generalize IE.due (IE.ofN n) (IE.half (IE.ofN n)) = dv at *
  generalize IE.half (IE.ofN n) = y at *
  generalize IE.ofN n = x at *
  have hc : Hid (min (max (dv : Int) (l : Int)) (m : Int) = ((IE.clampT l m dv : Nat) : Int)) := hid (by unfold IE.clampT; omega)
  rcases hq with ⟨q1, q2⟩ | ⟨q1 | q1, q2⟩
  all_goals
    go_enter Try.func14, Try.ntmps14
    go_wp2_with (go_at_call 26; refine (none_any _ _).mono ?_; rintro e w' ⟨rfl, rfl⟩)
    have g0 : ((w.setCell ⟨P, 2, none⟩ (.float .f64 x)).setCell ⟨P, 3, none⟩ (.float .f64 y)).cell? ⟨P, 0, none⟩ = some (.int .u64 (l : Int)) := by go_simp; try rfl
    have g1 : ((w.setCell ⟨P, 2, none⟩ (.float .f64 x)).setCell ⟨P, 3, none⟩ (.float .f64 y)).cell? ⟨P, 1, none⟩ = some (.int .u64 (m : Int)) := by go_simp; try rfl
    have g2 : ((w.setCell ⟨P, 2, none⟩ (.float .f64 x)).setCell ⟨P, 3, none⟩ (.float .f64 y)).cell? ⟨P, 2, none⟩ = some (.float .f64 x) := by go_simp; try rfl
    have g4 : ((w.setCell ⟨P, 2, none⟩ (.float .f64 x)).setCell ⟨P, 3, none⟩ (.float .f64 y)).cell? ⟨P, 4, none⟩ = some (.int .u64 (t.val : Int)) := by go_simp; try rfl
    have gf : ((w.setCell ⟨P, 2, none⟩ (.float .f64 x)).setCell ⟨P, 3, none⟩ (.float .f64 y)).frozen? ⟨P, 4, none⟩ = false := by go_simp; try rfl
    obtain ⟨wz, hwz⟩ : ∃ wz, wz = (w.setCell ⟨P, 2, none⟩ (.float .f64 x)).setCell ⟨P, 3, none⟩ (.float .f64 y) := ⟨_, rfl⟩
    rw [← hwz] at g0 g1 g2 g4 gf ⊢
    have HWZ := hid hwz
    clear hwz c0 c1 c2 c3 c4 hf q1 q2
    generalize Value.float .f64 x = Sv at g2 k2 ⊢
    generalize Value.float .f64 pv = Pv at k2 ⊢
    go_region_held3 (fun w' => w'.cell? ⟨P, 0, none⟩ = some (.int .u64 (l : Int)) ∧ w'.cell? ⟨P, 1, none⟩ = some (.int .u64 (m : Int)) ∧ w'.cell? ⟨P, 2, none⟩ = some Sv) (first | (refine ⟨?_, ?_, ?_⟩ <;> (rw [keep4 _ _ _ _ (by decide)]; assumption)) | go_keep) (fail)
    go_wp2_with fail
    rw [hc.out]
    go_end0
    exact ⟨rfl, rdone HP.out _ ⟨1, .inl (by rw [HWZ.out]; rfl)⟩⟩
end
end Go.Proofs.Ytfifecjnniahiaa
