/- Plain: what a queue takes is never more than its window. -/
import Derived.Test.YtkmkgfgppblleaaFlowP
namespace Go.Proofs.Ytkmkgfgppblleaa
namespace FL

theorem ofs_def (x n : Nat) : ofs x n = (x + 4294967296 - n) % 4294967296 := by unfold ofs; rfl
/-- Nothing is held next. -/
def Stable (s : FS) : Prop := s.held.getD 0 none = none
theorem stable_new (x n : Nat) : Stable (new x n) := by
  unfold Stable new
  show (List.replicate (n + 1) (none : Option UInt8)).getD 0 none = none
  rfl
theorem stable_move (s : FS) : Stable (move s) := by
  unfold Stable move
  show (s.held.drop (lead s.held) ++ List.replicate (lead s.held) none).getD 0 none = none
  rw [getD_shift, Nat.zero_add]
  have := lead_stop s.held
  cases h : s.held.getD (lead s.held) none with
  | none => rfl
  | some c => rw [h] at this; cases this
theorem stable_put {s : FS} (h : Stable s) (seq : Nat) (data : List UInt8) (fin : Bool) : Stable (put s seq data fin) := by
  cases hc : (s.ended || decide (65536 < data.length))
  · rw [put_eq hc]; exact stable_move _
  · rw [put_no hc]; exact h
theorem stable_read {s : FS} (h : Stable s) (m : Int) : Stable (read s m) := h
theorem lead_zero {l : List (Option UInt8)} (h : l.getD 0 none = none) : lead l = 0 := by
  cases l with
  | nil => rfl
  | cons a l =>
    have : a = none := h
    subst this
    rfl
theorem put_size (s : FS) (seq : Nat) (data : List UInt8) (fin : Bool) : (put s seq data fin).size = s.size := by
  unfold put; split <;> rfl

theorem count_lay1 (s : FS) (a : Nat) (c : UInt8) (l : List (Option UInt8)) : (lay1 s a c l).countP Option.isSome ≤ l.countP Option.isSome + 1 := by
  unfold lay1
  split
  · rename_i h
    simp only [Bool.and_eq_true] at h
    by_cases ha : a < l.length
    · rw [count_set ha h.1.2]; exact Nat.le_refl _
    · rw [List.set_eq_of_length_le (by omega)]; omega
  · omega
theorem count_layK (s : FS) (seq : Nat) (data : List UInt8) (k : Nat) : (layK s seq data k).countP Option.isSome ≤ s.cnt + k := by
  induction k with
  | zero => exact Nat.le_refl _
  | succ k ih =>
    rw [layK]
    have := count_lay1 s (ofs ((seq + k) % 4294967296) s.next) (data.getD k 0) (layK s seq data k)
    omega
theorem count_take (l : List (Option UInt8)) : (l.take (lead l)).countP Option.isSome = lead l := by
  induction l with
  | nil => rfl
  | cons a l ih =>
    cases ha : a.isSome
    · have : lead (a :: l) = 0 := by unfold lead; rw [List.takeWhile_cons, ha]; rfl
      rw [this]; rfl
    · have : lead (a :: l) = lead l + 1 := by unfold lead; rw [List.takeWhile_cons, ha]; rfl
      rw [this, List.take_succ_cons, List.countP_cons, ih, ha]; rfl
/-- What is held next is ready: no more, no less. -/
theorem move_sum (s : FS) : (move s).ready.length + (move s).cnt = s.ready.length + s.cnt := by
  show (s.ready ++ bytes (s.held.take (lead s.held))).length + (s.held.drop (lead s.held) ++ List.replicate (lead s.held) none).countP Option.isSome = s.ready.length + s.held.countP Option.isSome
  rw [List.length_append, bytes_len, List.countP_append]
  have h1 : (List.replicate (lead s.held) (none : Option UInt8)).countP Option.isSome = 0 := by simp [List.countP_replicate]
  have h2 : s.held.countP Option.isSome = (s.held.take (lead s.held)).countP Option.isSome + (s.held.drop (lead s.held)).countP Option.isSome := by
    rw [← List.countP_append, List.take_append_drop]
  rw [count_take] at h2
  omega
theorem put_sum (s : FS) (seq : Nat) (data : List UInt8) (fin : Bool) : (put s seq data fin).ready.length + (put s seq data fin).cnt ≤ s.ready.length + s.cnt + data.length := by
  cases hc : (s.ended || decide (65536 < data.length))
  · rw [put_eq hc, move_sum]
    show s.ready.length + (layK s seq data data.length).countP Option.isSome ≤ _
    have := count_layK s seq data data.length
    omega
  · rw [put_no hc]; omega
theorem put_ready (s : FS) (seq : Nat) (data : List UInt8) (fin : Bool) : s.ready.length ≤ (put s seq data fin).ready.length := by
  cases hc : (s.ended || decide (65536 < data.length))
  · rw [put_eq hc]
    show _ ≤ (s.ready ++ _).length
    rw [List.length_append]; omega
  · rw [put_no hc]; exact Nat.le_refl _
theorem count_below {l : List (Option UInt8)} {n : Nat} (h : ∀ i, (l.getD i none).isSome = true → i < n) : l.countP Option.isSome ≤ n := by
  have h1 : l.countP Option.isSome = (l.take n).countP Option.isSome + (l.drop n).countP Option.isSome := by rw [← List.countP_append, List.take_append_drop]
  have h2 : (l.drop n).countP Option.isSome = 0 := by
    rw [List.countP_eq_zero]
    intro a ha hs
    obtain ⟨j, hj, rfl⟩ := List.mem_iff_getElem.1 ha
    rw [List.length_drop] at hj
    rw [List.getElem_drop] at hs
    have := h (n + j) (by rw [List.getD_eq_getElem?_getD, List.getElem?_eq_getElem (by omega)]; exact hs)
    omega
  have h3 := List.countP_le_length (p := Option.isSome) (l := l.take n)
  rw [List.length_take] at h3
  omega
theorem sum_le {s : FS} (hs : Inv s) : s.ready.length + s.cnt ≤ s.size := by
  have h := count_below hs.held
  have hr := hs.room
  unfold FS.win at h
  unfold FS.cnt
  split at h <;> omega
/-- How far it goes on. -/
theorem gone {s : FS} (hs : Inv s) (seq : Nat) (data : List UInt8) (fin : Bool) : ofs (put s seq data fin).next s.next ≤ s.win + 1 := by
  have hn := hs.next
  cases hc : (s.ended || decide (65536 < data.length))
  · have hne : s.ended = false := by cases he : s.ended <;> rw [he] at hc <;> first | rfl | cases hc
    rw [put_eq hc]
    have hi := inv_laid hs hne seq data fin
    have hl : lead (laid s seq data fin).held ≤ s.win := by
      rcases Nat.eq_zero_or_pos (lead (laid s seq data fin).held) with h | h
      · omega
      · have h1 := hi.held _ (lead_some _ (lead (laid s seq data fin).held - 1) (by omega))
        have : (laid s seq data fin).win = s.win := rfl
        omega
    have hw : s.win ≤ 65536 := by have := hs.size; unfold FS.win; split <;> omega
    rw [ofs_def]
    have hnx : (laid s seq data fin).next = s.next := rfl
    show ((if ((laid s seq data fin).hasEnd && decide ((laid s seq data fin).endo = lead (laid s seq data fin).held)) = true then (((laid s seq data fin).next + lead (laid s seq data fin).held) % 4294967296 + 1) % 4294967296 else ((laid s seq data fin).next + lead (laid s seq data fin).held) % 4294967296) + 4294967296 - s.next) % 4294967296 ≤ _
    rw [hnx]
    generalize lead (laid s seq data fin).held = n at *
    split <;> omega
  · rw [put_no hc, ofs_def]; omega
theorem took_ended {s : FS} (h : s.ended = true) (seq : Nat) (data : List UInt8) (fin : Bool) : took s seq data fin = false := by
  unfold took; rw [h]; rfl
theorem took_is {s : FS} (seq : Nat) (data : List UInt8) (fin : Bool) : took s seq data fin = ((put s seq data fin).next != s.next) := by
  unfold took
  split
  · rename_i h; rw [put_no h]; simp
  · rfl
/-- What stands outside of the window is not taken. -/
theorem outside {s : FS} (hs : Inv s) (hst : Stable s) {seq : Nat} (hq : seq < 4294967296) {data : List UInt8} (h1 : s.win ≤ ofs seq s.next) (h2 : data.length ≤ ofs s.next seq) :
    (put s seq data false).ready = s.ready ∧ (put s seq data false).cnt = s.cnt := by
  have hn := hs.next
  cases hc : (s.ended || decide (65536 < data.length))
  · rw [put_eq hc]
    have hlay : ∀ k, k ≤ data.length → layK s seq data k = s.held := by
      intro k
      induction k with
      | zero => intro _; rfl
      | succ k ih =>
        intro hk
        rw [layK, ih (by omega)]
        unfold lay1
        rw [if_neg]
        have : ¬ ofs ((seq + k) % 4294967296) s.next < s.win := by
          rw [ofs_def] at h1 h2 ⊢
          omega
        simp [this]
    have hld : laid s seq data false = { s with held := s.held } := by
      have : ∀ l e, ends s l e false = false := fun _ _ => rfl
      unfold laid
      simp only [hlay _ (Nat.le_refl _), this, Bool.or_false, Bool.false_eq_true, if_false]
    rw [hld]
    have h0 := lead_zero hst
    constructor
    · show s.ready ++ bytes (s.held.take (lead s.held)) = s.ready
      rw [h0]; simp [bytes]
    · show (s.held.drop (lead s.held) ++ List.replicate (lead s.held) none).countP Option.isSome = _
      rw [h0]; simp [FS.cnt]
  · rw [put_no hc]; exact ⟨rfl, rfl⟩
theorem read_len {s : FS} (m : Int) : ((s.ready.take (readN s m)).length : Int) = min (max m 0) s.ready.length := by
  rw [List.length_take]; unfold readN; omega
end FL
end Go.Proofs.Ytkmkgfgppblleaa
