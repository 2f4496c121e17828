/- Plain laws of rows of digits: which is less, differences, sums with carries, products. -/
import Derived.Test.YtoaihbmicdbaiaaBL
import Derived.Test.YtoaihbmicdbaiaaDG
namespace Go.Proofs.Ytoaihbmicdbaiaa
namespace DG
variable {B : Nat}

theorem getD_at {l : List Nat} {k : Nat} (h : k < l.length) : l.getD k 0 = l[k] := by simp [h]
theorem val_split (l : List Nat) (k : Nat) (hk : k < l.length) : val B l = val B (l.take k) + B ^ k * (l.getD k 0 + B * val B (l.drop (k + 1))) := by
  have h : l = l.take k ++ (l.getD k 0 :: l.drop (k + 1)) := by
    rw [getD_at hk, ← List.drop_eq_getElem_cons hk, List.take_append_drop]
  conv => lhs; rw [h]
  rw [val_append, List.length_take, Nat.min_eq_left (by omega)]
  rfl
theorem val_cut (l : List Nat) (k : Nat) (hk : k ≤ l.length) : val B l = val B (l.take k) + B ^ k * val B (l.drop k) := by
  conv => lhs; rw [← List.take_append_drop k l]
  rw [val_append, List.length_take, Nat.min_eq_left hk]
theorem All.take {l : List Nat} (h : All B l) (k : Nat) : All B (l.take k) := fun x hx => h x (List.mem_of_mem_take hx)
theorem All.drop {l : List Nat} (h : All B l) (k : Nat) : All B (l.drop k) := fun x hx => h x (List.mem_of_mem_drop hx)
theorem All.mono {B C : Nat} {l : List Nat} (h : All B l) (hB : B ≤ C) : All C l := fun x hx => Nat.lt_of_lt_of_le (h x hx) hB
theorem All.set {B : Nat} {l : List Nat} (h : All B l) (j : Nat) {v : Nat} (hv : v < B) : All B (l.set j v) := fun x hx => by
  rcases List.mem_or_eq_of_mem_set hx with h1 | h1
  · exact h x h1
  · rw [h1]; exact hv
theorem all_replicate (k : Nat) (h : 0 < B) : All B (List.replicate k 0) := fun x hx => by rw [List.eq_of_mem_replicate hx]; exact h
theorem val_take_lt {l : List Nat} (h : All B l) {k : Nat} (hk : k ≤ l.length) : val B (l.take k) < B ^ k := by
  have := val_lt (h.take k)
  rwa [List.length_take, Nat.min_eq_left hk] at this
theorem less_at {a b : List Nat} (ha : All B a) (hl : a.length = b.length) {k : Nat} (hk : k < a.length) (hd : a.drop (k + 1) = b.drop (k + 1)) (hlt : a.getD k 0 < b.getD k 0) : val B a < val B b := by
  rw [val_split a k hk, val_split b k (by omega), hd]
  have h1 := val_take_lt ha (k := k) (by omega)
  have h2 : B ^ k * (a.getD k 0 + B * val B (b.drop (k + 1)) + 1) ≤ B ^ k * (b.getD k 0 + B * val B (b.drop (k + 1))) := Nat.mul_le_mul_left _ (by omega)
  rw [Nat.mul_add, Nat.mul_one] at h2
  omega
theorem less_iff {a b : List Nat} (ha : All B a) (hb : All B b) (hl : a.length = b.length) {k : Nat} (hk : k < a.length) (hd : a.drop (k + 1) = b.drop (k + 1)) (hne : a.getD k 0 ≠ b.getD k 0) :
    decide (a.getD k 0 < b.getD k 0) = decide (val B a < val B b) := by
  rcases Nat.lt_or_gt_of_ne hne with h | h
  · rw [decide_eq_true h, decide_eq_true (less_at ha hl hk hd h)]
  · have := less_at hb hl.symm (by omega) hd.symm h
    rw [decide_eq_false (by omega), decide_eq_false (by omega)]
theorem drop_step {a b : List Nat} {k : Nat} (hk : k < a.length) (hl : a.length = b.length) (hd : a.drop (k + 1) = b.drop (k + 1)) (he : a.getD k 0 = b.getD k 0) : a.drop k = b.drop k := by
  rw [List.drop_eq_getElem_cons hk, List.drop_eq_getElem_cons (by omega : k < b.length), hd]
  rw [getD_at hk, getD_at (by omega)] at he
  rw [he]
theorem minus_step {c b : List Nat} {k x r r' A : Nat} (hk : k < c.length)
    (h : val B c + val B (b.take k) = A + r * B ^ k) (hkb : k < b.length) (hx : x + b.getD k 0 + r = c.getD k 0 + r' * B) :
    val B (c.set k x) + val B (b.take (k + 1)) = A + r' * B ^ (k + 1) := by
  have h1 := val_set (B := B) hk x
  have h2 : val B (b.take (k + 1)) = val B (b.take k) + b.getD k 0 * B ^ k := by
    rw [List.take_succ_eq_append_getElem hkb, val_append, List.length_take, Nat.min_eq_left (by omega), getD_at hkb]
    simp [val, Nat.mul_comm]
  have h3 : (x + b.getD k 0 + r) * B ^ k = (c.getD k 0 + r' * B) * B ^ k := by rw [hx]
  rw [Nat.add_mul, Nat.add_mul, Nat.add_mul, Nat.mul_assoc, ← Nat.pow_succ'] at h3
  rw [h2]
  rw [Nat.succ_eq_add_one] at h3
  omega
theorem minus_end {c b : List Nat} {r A n : Nat} (hc : All B c) (hn : c.length = n) (hb : val B b ≤ A) (hA : A < B ^ n) (h : val B c + val B b = A + r * B ^ n) (hbn : All B b) (hbl : b.length = n) : c = digs B (A - val B b) n := by
  have h1 := val_lt hc
  rw [hn] at h1
  have h2 := val_lt hbn
  rw [hbl] at h2
  have hr : r = 0 := by
    rcases Nat.eq_zero_or_pos r with h0 | h0
    · exact h0
    · have : 1 * B ^ n ≤ r * B ^ n := Nat.mul_le_mul_right _ h0
      omega
  subst hr
  have hv : val B c = A - val B b := by omega
  rw [← hv, ← hn, digs_val hc]
theorem val_take_succ (l : List Nat) (k : Nat) (h : k < l.length) : val B (l.take (k + 1)) = val B (l.take k) + l.getD k 0 * B ^ k := by
  rw [List.take_succ_eq_append_getElem h, val_append]
  simp [val, Nat.min_eq_left (Nat.le_of_lt h), h]
  rw [Nat.mul_comm]
/-- One word of a product: the row of words behind it. -/
theorem mul_step {wl : List Nat} {j v y x c c' V0 t i k : Nat} (hj : j < wl.length) (hjk : j = i + k) (h : val B wl + c * B ^ j = V0 + x * t * B ^ i)
    (he : v + B * c' = x * y + wl.getD j 0 + c) :
    val B (wl.set j v) + c' * B ^ (j + 1) = V0 + x * (t + y * B ^ k) * B ^ i := by
  have hs := val_set (B := B) hj v
  have e1 : (v + B * c') * B ^ j = (x * y + wl.getD j 0 + c) * B ^ j := by rw [he]
  have e2 : x * (t + y * B ^ k) * B ^ i = x * t * B ^ i + x * y * B ^ j := by
    rw [Nat.mul_add, Nat.add_mul, hjk, Nat.pow_add, Nat.mul_comm (B ^ i), ← Nat.mul_assoc x y, Nat.mul_assoc (x * y)]
  rw [Nat.add_mul, Nat.add_mul, Nat.add_mul] at e1
  rw [e2, Nat.pow_succ B j]
  have e3 : c' * (B ^ j * B) = B * c' * B ^ j := by rw [Nat.mul_comm (B ^ j), ← Nat.mul_assoc, Nat.mul_comm c']
  rw [e3]
  omega
theorem carry_step {wl : List Nat} {j v c c' V : Nat} (hj : j < wl.length) (h : val B wl + c * B ^ j = V) (he : v + B * c' = wl.getD j 0 + c) :
    val B (wl.set j v) + c' * B ^ (j + 1) = V := by
  have hs := val_set (B := B) hj v
  have e1 : (v + B * c') * B ^ j = (wl.getD j 0 + c) * B ^ j := by rw [he]
  rw [Nat.add_mul, Nat.add_mul] at e1
  rw [Nat.pow_succ B j, show c' * (B ^ j * B) = B * c' * B ^ j by rw [Nat.mul_comm (B ^ j), ← Nat.mul_assoc, Nat.mul_comm c']]
  omega
theorem no_carry {v c V j : Nat} (hB : V < B ^ j) (h : v + c * B ^ j = V) : c = 0 ∧ v = V := by
  rcases Nat.eq_zero_or_pos c with h0 | h0
  · subst h0; simp at h; exact ⟨rfl, h⟩
  · have : 1 * B ^ j ≤ c * B ^ j := Nat.mul_le_mul_right _ h0
    omega
theorem add_at {l : List Nat} {j x : Nat} (h : j < l.length) : val B (l.set j (l.getD j 0 + x)) = val B l + x * B ^ j := by
  have := val_set (B := B) h (l.getD j 0 + x)
  rw [Nat.add_mul] at this
  omega
theorem take_set_succ {l : List Nat} {j x : Nat} (h : j < l.length) (B : Nat) : val B ((l.set j x).take (j + 1)) = val B (l.take j) + x * B ^ j := by
  rw [val_take_succ _ _ (by simpa using h)]
  congr 1
  · congr 1; exact List.take_set_of_le (Nat.le_refl _)
  · simp [h]
/-- One digit of carrying. -/
theorem carry1 {o t : List Nat} {k cr d cr' : Nat} (hk : k < o.length) (hkt : k < t.length) (h : val B (o.take k) + cr * B ^ k = val B (t.take k)) (hx : d + cr' * B = t.getD k 0 + cr) :
    val B ((o.set k d).take (k + 1)) + cr' * B ^ (k + 1) = val B (t.take (k + 1)) := by
  rw [take_set_succ hk, val_take_succ t _ hkt, ← h]
  have h3 : (d + cr' * B) * B ^ k = (t.getD k 0 + cr) * B ^ k := by rw [hx]
  rw [Nat.add_mul, Nat.add_mul, Nat.mul_assoc, ← Nat.pow_succ', Nat.succ_eq_add_one] at h3
  omega
theorem drop_set_succ {c l : List Nat} {k d : Nat} (h : c.drop k = l.drop k) : (c.set k d).drop (k + 1) = l.drop (k + 1) := by
  have h2 : c.drop (k + 1) = l.drop (k + 1) := by rw [← List.drop_drop, ← List.drop_drop, h]
  rw [List.drop_set, if_pos (by omega), h2]
theorem drop_set_lt {c : List Nat} {k j d : Nat} (h : j < k) : (c.set j d).drop k = c.drop k := by
  rw [List.drop_set, if_pos h]
theorem drop_getD {c l : List Nat} {k j : Nat} (h : c.drop k = l.drop k) (hj : k ≤ j) : c.getD j 0 = l.getD j 0 := by
  have := congrArg (fun (m : List Nat) => m.getD (j - k) 0) h
  simpa [List.getD_eq_getElem?_getD, show k + (j - k) = j by omega] using this
theorem All.take_set {l : List Nat} {k d : Nat} (h : All B (l.take k)) (hd : d < B) : All B ((l.set k d).take (k + 1)) := by
  intro x hx
  rw [List.mem_take_iff_getElem] at hx
  obtain ⟨i, hi, rfl⟩ := hx
  rw [List.length_set] at hi
  rw [List.getElem_set]
  split
  · exact hd
  · exact h _ (List.mem_take_iff_getElem.2 ⟨i, by omega, rfl⟩)

/-- Carrying: so many digits done, and what is carried. -/
def carr (B : Nat) (l : List Nat) : Nat → List Nat × Nat
  | 0 => (l, 0)
  | k + 1 => ((carr B l k).1.set k (((carr B l k).1.getD k 0 + (carr B l k).2) % B), ((carr B l k).1.getD k 0 + (carr B l k).2) / B)
theorem carr_len (l : List Nat) (k : Nat) : (carr B l k).1.length = l.length := by
  induction k with
  | zero => rfl
  | succ k ih => simp [carr, ih]
theorem carr_spec (hB : 0 < B) (l : List Nat) (k : Nat) (hk : k ≤ l.length) : (carr B l k).1.drop k = l.drop k ∧ All B ((carr B l k).1.take k) ∧ val B ((carr B l k).1.take k) + (carr B l k).2 * B ^ k = val B (l.take k) := by
  induction k with
  | zero => exact ⟨rfl, fun x hx => by simp at hx, by simp [carr]⟩
  | succ k ih =>
    obtain ⟨h1, h2, h3⟩ := ih (by omega)
    have hl := carr_len (B := B) l k
    refine ⟨drop_set_succ h1, h2.take_set (Nat.mod_lt _ hB), ?_⟩
    refine carry1 (by omega) (by omega) h3 ?_
    rw [← drop_getD h1 (Nat.le_refl _), Nat.mul_comm]
    exact Nat.mod_add_div _ _
theorem carr_getD (hB : 0 < B) (l : List Nat) (k : Nat) (hk : k ≤ l.length) : (carr B l k).1.getD k 0 = l.getD k 0 := drop_getD (carr_spec hB l k hk).1 (Nat.le_refl _)
end DG
end Go.Proofs.Ytoaihbmicdbaiaa
