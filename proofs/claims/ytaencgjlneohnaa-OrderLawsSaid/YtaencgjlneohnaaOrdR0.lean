/- Plain laws of rows of bytes: which is less, differences, sums with carries. -/
import Derived.Test.YtaencgjlneohnaaDG
import Derived.Test.YtaencgjlneohnaaOrdP
namespace Go.Proofs.Ytaencgjlneohnaa
namespace DG
variable {B : Nat}

theorem getD_at {l : List Nat} {k : Nat} (h : k < l.length) : l.getD k 0 = l[k] := by simp [h]
theorem val_split (l : List Nat) (k : Nat) (hk : k < l.length) : val B l = val B (l.take k) + B ^ k * (l.getD k 0 + B * val B (l.drop (k + 1))) := by
  have h : l = l.take k ++ (l.getD k 0 :: l.drop (k + 1)) := by
    rw [getD_at hk, ← List.drop_eq_getElem_cons hk, List.take_append_drop]
  conv => lhs; rw [h]
  rw [val_append, List.length_take, Nat.min_eq_left (by omega)]
  rfl
theorem All.take {l : List Nat} (h : All B l) (k : Nat) : All B (l.take k) := fun x hx => h x (List.mem_of_mem_take hx)
theorem val_take_lt {l : List Nat} (h : All B l) {k : Nat} (hk : k ≤ l.length) : val B (l.take k) < B ^ k := by
  have := val_lt (h.take k)
  rwa [List.length_take, Nat.min_eq_left hk] at this
theorem less_at {a b : List Nat} (ha : All B a) (hb : All B b) (hl : a.length = b.length) {k : Nat} (hk : k < a.length) (hd : a.drop (k + 1) = b.drop (k + 1)) (hlt : a.getD k 0 < b.getD k 0) : val B a < val B b := by
  rw [val_split a k hk, val_split b k (by omega), hd]
  have h1 := val_take_lt ha (k := k) (by omega)
  have h2 : B ^ k * (a.getD k 0 + B * val B (b.drop (k + 1)) + 1) ≤ B ^ k * (b.getD k 0 + B * val B (b.drop (k + 1))) := Nat.mul_le_mul_left _ (by omega)
  rw [Nat.mul_add, Nat.mul_one] at h2
  omega
theorem less_iff {a b : List Nat} (ha : All B a) (hb : All B b) (hl : a.length = b.length) {k : Nat} (hk : k < a.length) (hd : a.drop (k + 1) = b.drop (k + 1)) (hne : a.getD k 0 ≠ b.getD k 0) :
    decide (a.getD k 0 < b.getD k 0) = decide (val B a < val B b) := by
  rcases Nat.lt_or_gt_of_ne hne with h | h
  · rw [decide_eq_true h, decide_eq_true (less_at ha hb hl hk hd h)]
  · have := less_at hb ha hl.symm (by omega) hd.symm h
    rw [decide_eq_false (by omega), decide_eq_false (by omega)]
theorem drop_step {a b : List Nat} {k : Nat} (hk : k < a.length) (hl : a.length = b.length) (hd : a.drop (k + 1) = b.drop (k + 1)) (he : a.getD k 0 = b.getD k 0) : a.drop k = b.drop k := by
  rw [List.drop_eq_getElem_cons hk, List.drop_eq_getElem_cons (by omega : k < b.length), hd]
  rw [getD_at hk, getD_at (by omega)] at he
  rw [he]

/-- One digit of a difference: c is the row as it stands (k digits done), r the borrow. -/
theorem minus_step {c b : List Nat} {k x r r' A : Nat} (hk : k < c.length)
    (h : val B c + val B (b.take k) = A + r * B ^ k) (hkb : k < b.length) (hx : x + b.getD k 0 + r = c.getD k 0 + r' * B) :
    val B (c.set k x) + val B (b.take (k + 1)) = A + r' * B ^ (k + 1) := by
  have h1 := val_set (B := B) hk x
  have h2 : val B (b.take (k + 1)) = val B (b.take k) + b.getD k 0 * B ^ k := by
    rw [List.take_succ_eq_append_getElem hkb, val_append, List.length_take, Nat.min_eq_left (by omega), getD_at hkb]
    simp [val, Nat.mul_comm]
  have h3 : (x + b.getD k 0 + r) * B ^ k = (c.getD k 0 + r' * B) * B ^ k := by rw [hx]
  rw [Nat.add_mul, Nat.add_mul, Nat.add_mul, Nat.mul_assoc, ← Nat.pow_succ'] at h3
  rw [h2]
  rw [Nat.succ_eq_add_one] at h3
  omega
theorem minus_end {c b : List Nat} {r A n : Nat} (hc : All B c) (hn : c.length = n) (hb : val B b ≤ A) (hA : A < B ^ n) (h : val B c + val B b = A + r * B ^ n) (hbn : All B b) (hbl : b.length = n) : c = digs B (A - val B b) n := by
  have h1 := val_lt hc
  rw [hn] at h1
  have h2 := val_lt hbn
  rw [hbl] at h2
  have hr : r = 0 := by
    rcases Nat.eq_zero_or_pos r with h0 | h0
    · exact h0
    · have : 1 * B ^ n ≤ r * B ^ n := Nat.mul_le_mul_right _ h0
      omega
  subst hr
  have hv : val B c = A - val B b := by omega
  rw [← hv, ← hn, digs_val hc]
end DG
end Go.Proofs.Ytaencgjlneohnaa
