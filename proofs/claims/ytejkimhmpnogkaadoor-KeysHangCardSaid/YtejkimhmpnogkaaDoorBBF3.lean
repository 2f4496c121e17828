/- A bytes.Buffer in a struct's fields: room is made. -/
import Derived.Test.YtejkimhmpnogkaaDoorBBF2
namespace Go.Proofs.YtejkimhmpnogkaaDoor
open Go Go.RowKit

/-- A slice of bytes that a buffer has for itself, with room for n more at its end. -/
def OwnG (w : World) (v : Value) (o : Nat) (l : List UInt8) (n : Nat) : Prop :=
  (v = .slice none 0 0 ∧ o = 0 ∧ l = [] ∧ n = 0) ∨
  ∃ g cap cur, v = .slice (some ⟨g, 0, none⟩) (o + l.length + n) cap ∧ hget w g = some (.cells cur 5 (0, 0)) ∧ o + l.length + n ≤ cap ∧ cap ≤ cur.size ∧ cur.size ≤ 9223372036854775807 ∧ (cur.toList.drop o).take l.length = u8s l ∧ 0 < cap
structure GrownAt (w : World) (P k : Nat) (T : TypeId) (cs : Array Value) (v : Value) (o : Nat) (r : Int) (l : List UInt8) (n : Nat) : Prop where
  at_ : hget w P = some (.cells (bset cs k v o r) T (0, 0))
  fits : k + 2 < cs.size
  own : OwnG w v o l n
  ne : v.ownBlock ≠ some P
section
variable {w : World} {P k : Nat} {T : TypeId} {cs : Array Value} {v : Value} {o : Nat} {r : Int} {l : List UInt8}
theorem GrownAt.c0 {n : Nat} (h : GrownAt w P k T cs v o r l n) : w.cell? ⟨P, k, none⟩ = some v := by rw [cell_at h.at_, bset_at0 _ _ _ _ _ h.fits]

set_option maxHeartbeats 1000000 in
theorem try_yes (n : Nat) (a : Option Addr) (cap : Nat) (h : BufAt w P k T cs (.slice a (o + l.length) cap) o r l) (hroom : o + l.length + n ≤ cap) (hs : o + l.length + n ≤ 1099511627776) :
    Calls Tryd.prog 64 #[.pointer (some ⟨P, k, none⟩), .int .i64 (n : Int)] w fun e w' => e = .returned (.tuple #[.int .i64 ((o + l.length : Nat) : Int), .bool true]) ∧ GrownAt w' P k T cs (.slice a (o + l.length + n) cap) o r l n ∧ Out (· = P) w w' := by
  have c0 := h.c0
  have f := h.free
  have hn : (Value.slice a (o + l.length + n) cap).ownBlock ≠ some P := by have := h.ne; cases a <;> exact this
  have H : GrownAt (w.setCell ⟨P, k, none⟩ (.slice a (o + l.length + n) cap)) P k T cs (.slice a (o + l.length + n) cap) o r l n := by
    refine ⟨by rw [hget_setCell h.at_, bset_put0], h.fits, ?_, hn⟩
    rcases h.own with ⟨e1, rfl, rfl⟩ | ⟨g, cap', cur, e1, h2, h3, h4, h5, h6, h7⟩
    · injection e1 with e1 e2 e3
      subst e1 e3
      have : n = 0 := by simp at hroom; exact hroom
      subst this
      exact .inl ⟨rfl, rfl, rfl, rfl⟩
    · injection e1 with e1 e2 e3
      subst e1 e3
      refine .inr ⟨g, cap, cur, rfl, hget_setCell_ne h2 (by rintro rfl; exact hn rfl) _, hroom, h4, h5, h6, h7⟩
  have HH := hid H
  obtain ⟨a', cap', e1, b1, b2, _, _⟩ := h.bounds
  injection e1 with e1 e2 e3
  subst e1 e3
  clear h H hn e2
  generalize hm : o + l.length = m at *
  have HM := hid hm
  clear hm
  have d1 : decide ((n : Int) ≤ (cap : Int) - (m : Int)) = true := decide_eq_true (by omega)
  go_enter Tryd.func64, Tryd.ntmps64
  go_wp2_with fail
  go_ret2
  exact ⟨rfl, HH.out, (Out.refl (· = P) w).setCell (p := ⟨P, k, none⟩) (.inl rfl) _⟩

set_option maxHeartbeats 1000000 in
theorem try_no (n : Nat) (a : Option Addr) (cap : Nat) (h : BufAt w P k T cs (.slice a (o + l.length) cap) o r l) (hroom : ¬ o + l.length + n ≤ cap) (hs : n ≤ 1099511627776) :
    Calls Tryd.prog 64 #[.pointer (some ⟨P, k, none⟩), .int .i64 (n : Int)] w fun e w' => e = .returned (.tuple #[.int .i64 0, .bool false]) ∧ w = w' := by
  have c0 := h.c0
  obtain ⟨a', cap', e1, b1, b2, _, _⟩ := h.bounds
  injection e1 with e1 e2 e3
  subst e1 e3
  clear h e2
  generalize hm : o + l.length = m at *
  have d1 : decide ((n : Int) ≤ (cap : Int) - (m : Int)) = false := decide_eq_false (by omega)
  go_enter Tryd.func64, Tryd.ntmps64
  go_wp2_with fail
  go_ret2
  exact ⟨rfl, rfl⟩
end

end Go.Proofs.YtejkimhmpnogkaaDoor
