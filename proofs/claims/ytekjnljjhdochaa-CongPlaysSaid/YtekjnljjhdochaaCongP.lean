/- The congestion control as plain functions on its state. -/
import Derived.Test.YtekjnljjhdochaaB
namespace Go.Proofs.Ytekjnljjhdochaa
open Go.RowKit

structure St where
  m : Int
  w : Int
  l : Int
  d : Int
  f : Bool
  r : Int
  deriving DecidableEq

def St.enc (s : St) : Array Value := #[.int .u32 s.m, .int .u32 s.w, .int .u32 s.l, .int .i64 s.d, .bool s.f, .int .u32 s.r]
def St.val (s : St) : Value := .agg #[.int .u32 s.w, .int .u32 s.l, .int .i64 s.d, .bool s.f, .int .u32 s.r]
structure St.ok (s : St) : Prop where
  m1 : 1 ≤ s.m
  m2 : s.m ≤ 16384
  w1 : s.m ≤ s.w
  w2 : s.w ≤ 1073741824
  l1 : 2 * s.m ≤ s.l
  l2 : s.l ≤ 1073741824

def lessB (x y : Int) : Bool := decide (1 ≤ (y - x) % 4294967296 ∧ (y - x) % 4294967296 ≤ 2147483647)
def grown (s : St) (n : Int) : Int := min (max (s.w + n) s.m) 1073741824
def acked (s : St) (ack n : Int) : St :=
  if n = 0 then s
  else if s.f then
    if lessB ack s.r then { s with d := 0, w := min (max (max s.m (s.w - n) + s.m) s.m) 1073741824 }
    else { s with d := 0, w := s.l, f := false }
  else if s.w < s.l then { s with d := 0, w := min (max (s.w + min n s.m) s.m) 1073741824 }
  else { s with d := 0, w := min (max (s.w + max 1 (s.m * s.m / s.w)) s.m) 1073741824 }
def half (s : St) (fl : Int) : Int := min (max (fl / 2) (2 * s.m)) 1073741824
def dupped (s : St) (fl next : Int) : St × Bool :=
  if s.f then ({ s with d := wrap64 (s.d + 1), w := min (max (s.w + s.m) s.m) 1073741824 }, false)
  else if wrap64 (s.d + 1) = 3 then
    ({ s with d := wrap64 (s.d + 1), w := min (max (half s fl + 3 * s.m) 0) 1073741824, l := half s fl, f := true, r := next }, true)
  else ({ s with d := wrap64 (s.d + 1) }, false)
def timed (s : St) (fl : Int) : St := { s with w := s.m, l := half s fl, d := 0, f := false }
def fresh (m : Int) : St := { m := m, w := (if m ≤ 1095 then 4 else if m ≤ 2190 then 3 else 2) * m, l := 1073741824, d := 0, f := false, r := 0 }

theorem mm_le {m : Int} (h1 : 1 ≤ m) (h2 : m ≤ 16384) : 1 ≤ m * m ∧ m * m ≤ 268435456 := by
  constructor
  · have := Int.mul_le_mul h1 h1 (by omega) (by omega); simpa using this
  · have := Int.mul_le_mul h2 h2 (by omega) (by omega); simpa using this
theorem mmw_le {m w : Int} (h1 : 1 ≤ m) (h2 : m ≤ 16384) (h3 : m ≤ w) : 0 ≤ m * m / w ∧ m * m / w ≤ 268435456 := by
  have := mm_le h1 h2
  have h := Int.ediv_le_self (b := w) (a := m * m) (by omega)
  exact ⟨Int.ediv_nonneg (by omega) (by omega), by omega⟩
theorem mmw_le' {m w : Int} (h1 : 1 ≤ m) (h3 : m ≤ w) : m * m / w ≤ m := by
  have h : m * m ≤ m * w := Int.mul_le_mul_of_nonneg_left h3 (by omega)
  have h' := Int.ediv_le_ediv (c := w) (by omega) h
  rwa [Int.mul_ediv_cancel _ (by omega)] at h'
theorem half_ok {s : St} (h : s.ok) (fl : Int) : 2 * s.m ≤ half s fl ∧ half s fl ≤ 1073741824 := by
  obtain ⟨h1, h2, h3, h4, h5, h6⟩ := h; unfold half; omega

theorem fresh_ok {m : Int} (h1 : 1 ≤ m) (h2 : m ≤ 16384) : (fresh m).ok := by
  constructor <;> simp only [fresh] <;> (try split) <;> (try split) <;> omega
theorem acked_ok {s : St} (h : s.ok) (ack n : Int) : (acked s ack n).ok := by
  obtain ⟨m, w, l, d, f, r⟩ := s
  have h0 := h
  obtain ⟨h1, h2, h3, h4, h5, h6⟩ := h
  simp only at h1 h2 h3 h4 h5 h6
  have := mmw_le h1 h2 h3
  unfold acked
  repeat' split
  all_goals (try exact h0)
  all_goals (constructor <;> simp only <;> omega)
theorem dupped_ok {s : St} (h : s.ok) (fl next : Int) : (dupped s fl next).1.ok := by
  obtain ⟨m, w, l, d, f, r⟩ := s
  have hh := half_ok h fl
  obtain ⟨h1, h2, h3, h4, h5, h6⟩ := h
  simp only at h1 h2 h3 h4 h5 h6 hh
  unfold dupped
  repeat' split
  all_goals (constructor <;> simp only <;> omega)
theorem timed_ok {s : St} (h : s.ok) (fl : Int) : (timed s fl).ok := by
  have hh := half_ok h fl
  obtain ⟨h1, h2, h3, h4, h5, h6⟩ := h
  unfold timed
  constructor <;> simp only <;> omega

end Go.Proofs.Ytekjnljjhdochaa
