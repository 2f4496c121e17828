/- The congestion control as plain functions on its state. -/
import Derived.Test.YtekjnljjhdochaaB
namespace Go.Proofs.Ytekjnljjhdochaa
open Go.RowKit

structure St where
  m : Int
  w : Int
  l : Int
  d : Int
  f : Bool
  r : Int
  deriving DecidableEq

def St.enc (s : St) : Array Value := #[.int .u32 s.m, .int .u32 s.w, .int .u32 s.l, .int .i64 s.d, .bool s.f, .int .u32 s.r]
def St.val (s : St) : Value := .agg #[.int .u32 s.w, .int .u32 s.l, .int .i64 s.d, .bool s.f, .int .u32 s.r]
structure St.ok (s : St) : Prop where
  m1 : 1 ≤ s.m
  m2 : s.m ≤ 16384
  w1 : s.m ≤ s.w
  w2 : s.w ≤ 1073741824
  l1 : 2 * s.m ≤ s.l
  l2 : s.l ≤ 1073741824

def lessB (x y : Int) : Bool := decide (1 ≤ (y - x) % 4294967296 ∧ (y - x) % 4294967296 ≤ 2147483647)
def grown (s : St) (n : Int) : Int := min (max (s.w + n) s.m) 1073741824
def acked (s : St) (ack n : Int) : St :=
  if n = 0 then s
  else if s.f then
    if lessB ack s.r then { s with d := 0, w := min (max (max s.m (s.w - n) + s.m) s.m) 1073741824 }
    else { s with d := 0, w := s.l, f := false }
  else if s.w < s.l then { s with d := 0, w := min (max (s.w + min n s.m) s.m) 1073741824 }
  else { s with d := 0, w := min (max (s.w + max 1 (s.m * s.m / s.w)) s.m) 1073741824 }
def half (s : St) (fl : Int) : Int := min (max (fl / 2) (2 * s.m)) 1073741824
def dupped (s : St) (fl next : Int) : St × Bool :=
  if s.f then ({ s with d := wrap64 (s.d + 1), w := min (max (s.w + s.m) s.m) 1073741824 }, false)
  else if wrap64 (s.d + 1) = 3 then
    ({ s with d := wrap64 (s.d + 1), w := min (max (half s fl + 3 * s.m) 0) 1073741824, l := half s fl, f := true, r := next }, true)
  else ({ s with d := wrap64 (s.d + 1) }, false)
def timed (s : St) (fl : Int) : St := { s with w := s.m, l := half s fl, d := 0, f := false }
def fresh (m : Int) : St := { m := m, w := (if m ≤ 1095 then 4 else if m ≤ 2190 then 3 else 2) * m, l := 1073741824, d := 0, f := false, r := 0 }

theorem mm_le {m : Int} (h1 : 1 ≤ m) (h2 : m ≤ 16384) : 1 ≤ m * m ∧ m * m ≤ 268435456 := by
  constructor
  · have := Int.mul_le_mul h1 h1 (by omega) (by omega); simpa using this
  · have := Int.mul_le_mul h2 h2 (by omega) (by omega); simpa using this
theorem mmw_le {m w : Int} (h1 : 1 ≤ m) (h2 : m ≤ 16384) (h3 : m ≤ w) : 0 ≤ m * m / w ∧ m * m / w ≤ 268435456 := by
  have := mm_le h1 h2
  have h := Int.ediv_le_self (b := w) (a := m * m) (by omega)
  exact ⟨Int.ediv_nonneg (by omega) (by omega), by omega⟩
theorem mmw_le' {m w : Int} (h1 : 1 ≤ m) (h3 : m ≤ w) : m * m / w ≤ m := by
  have h : m * m ≤ m * w := Int.mul_le_mul_of_nonneg_left h3 (by omega)
  have h' := Int.ediv_le_ediv (c := w) (by omega) h
  rwa [Int.mul_ediv_cancel _ (by omega)] at h'
theorem half_ok {s : St} (h : s.ok) (fl : Int) : 2 * s.m ≤ half s fl ∧ half s fl ≤ 1073741824 := by
  obtain ⟨h1, h2, h3, h4, h5, h6⟩ := h; unfold half; omega

theorem fresh_ok {m : Int} (h1 : 1 ≤ m) (h2 : m ≤ 16384) : (fresh m).ok := by
  constructor <;> simp only [fresh] <;> (try split) <;> (try split) <;> omega
theorem acked_ok {s : St} (h : s.ok) (ack n : Int) : (acked s ack n).ok := by
  obtain ⟨m, w, l, d, f, r⟩ := s
  have h0 := h
  obtain ⟨h1, h2, h3, h4, h5, h6⟩ := h
  simp only at h1 h2 h3 h4 h5 h6
  have := mmw_le h1 h2 h3
  unfold acked
  repeat' split
  all_goals (try exact h0)
  all_goals (constructor <;> simp only <;> omega)
theorem dupped_ok {s : St} (h : s.ok) (fl next : Int) : (dupped s fl next).1.ok := by
  obtain ⟨m, w, l, d, f, r⟩ := s
  have hh := half_ok h fl
  obtain ⟨h1, h2, h3, h4, h5, h6⟩ := h
  simp only at h1 h2 h3 h4 h5 h6 hh
  unfold dupped
  repeat' split
  all_goals (constructor <;> simp only <;> omega)
theorem timed_ok {s : St} (h : s.ok) (fl : Int) : (timed s fl).ok := by
  have hh := half_ok h fl
  obtain ⟨h1, h2, h3, h4, h5, h6⟩ := h
  unfold timed
  constructor <;> simp only <;> omega

theorem acked_m (s : St) (ack n : Int) : (acked s ack n).m = s.m := by unfold acked; repeat' split
                                                                       all_goals rfl
theorem dupped_m (s : St) (fl next : Int) : (dupped s fl next).1.m = s.m := by unfold dupped; repeat' split
                                                                               all_goals rfl
def St.dOk (s : St) : Prop := 0 ≤ s.d ∧ s.d ≤ 1000
theorem acked_d {s : St} {k : Int} (h : 0 ≤ s.d ∧ s.d ≤ k) (ack n : Int) : 0 ≤ (acked s ack n).d ∧ (acked s ack n).d ≤ k := by
  unfold acked; repeat' split
  all_goals (try simp only)
  all_goals omega
theorem dupped_d {s : St} {k : Int} (h : 0 ≤ s.d ∧ s.d ≤ k) (hk : k ≤ 1000) (fl next : Int) : 0 ≤ (dupped s fl next).1.d ∧ (dupped s fl next).1.d ≤ k + 1 := by
  have : wrap64 (s.d + 1) = s.d + 1 := by unfold wrap64; omega
  unfold dupped; rw [this]; repeat' split
  all_goals (try simp only)
  all_goals omega
theorem acked_grow {s : St} (h : s.ok) (ack n : Int) (hn : 0 < n) (hf : s.f = false) :
    s.w ≤ (acked s ack n).w ∧ (s.w < (acked s ack n).w ∨ 1073741824 ≤ s.w) ∧ (acked s ack n).w ≤ s.w + s.m := by
  obtain ⟨m, w, l, d, f, r⟩ := s
  obtain ⟨h1, h2, h3, h4, h5, h6⟩ := h
  simp only at h1 h2 h3 h4 h5 h6 hf
  subst hf
  have := mmw_le h1 h2 h3
  have h7 := mmw_le' h1 h3
  unfold acked
  rw [if_neg (by omega)]
  simp only [Bool.false_eq_true, if_false]
  split <;> simp only <;> omega
theorem dupped_again {s : St} (h : s.ok) (hd : 0 ≤ s.d ∧ s.d ≤ 1000) (fl next : Int) (hfl : 0 ≤ fl) :
    (dupped s fl next).2 = (!s.f && s.d == 2) ∧
    ((dupped s fl next).2 = true → (dupped s fl next).1.w = min ((dupped s fl next).1.l + 3 * s.m) 1073741824 ∧ (dupped s fl next).1.l ≤ max (fl / 2) (2 * s.m) ∧ (dupped s fl next).1.r = next) := by
  obtain ⟨m, w, l, d, f, r⟩ := s
  obtain ⟨h1, h2, h3, h4, h5, h6⟩ := h
  simp only at h1 h2 h3 h4 h5 h6 hd
  have e : wrap64 (d + 1) = d + 1 := by unfold wrap64; omega
  unfold dupped
  simp only [e]
  cases f
  · by_cases h3 : d + 1 = 3
    · have : d = 2 := by omega
      subst this
      simp [half]; omega
    · have : (d == 2) = false := beq_eq_false_iff_ne.2 (by omega)
      simp [h3, this]
  · simp

end Go.Proofs.Ytekjnljjhdochaa
