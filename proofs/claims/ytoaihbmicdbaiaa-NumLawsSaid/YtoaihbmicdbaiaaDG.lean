/- Plain lemmas on numbers written in digits, the lowest first. -/
import Derived.Test.YtoaihbmicdbaiaaRows
namespace Go.Proofs.Ytoaihbmicdbaiaa.DG

/-- What digits are, the lowest first. -/
def val (B : Nat) : List Nat → Nat
  | [] => 0
  | x :: xs => x + B * val B xs
/-- So many digits of a number, the lowest first. -/
def digs (B : Nat) : Nat → Nat → List Nat
  | _, 0 => []
  | n, k + 1 => n % B :: digs B (n / B) k
def All (B : Nat) (l : List Nat) : Prop := ∀ x ∈ l, x < B

variable {B : Nat}
theorem digs_length (n k : Nat) : (digs B n k).length = k := by
  induction k generalizing n with
  | zero => rfl
  | succ k ih => simp [digs, ih]
theorem digs_all (hB : 0 < B) (n k : Nat) : All B (digs B n k) := by
  induction k generalizing n with
  | zero => intro x h; simp [digs] at h
  | succ k ih =>
    intro x h
    simp only [digs, List.mem_cons] at h
    rcases h with rfl | h
    · exact Nat.mod_lt _ hB
    · exact ih _ x h
theorem val_digs (n k : Nat) : val B (digs B n k) = n % B ^ k := by
  induction k generalizing n with
  | zero => simp [digs, val, Nat.mod_one]
  | succ k ih =>
    simp only [digs, val, ih]
    rw [Nat.pow_succ', Nat.mod_mul]
theorem val_lt {l : List Nat} (h : All B l) : val B l < B ^ l.length := by
  induction l with
  | nil => simp [val]
  | cons x xs ih =>
    have h1 := ih (fun y hy => h y (by simp [hy]))
    have h2 := h x (by simp)
    simp only [val, List.length_cons, Nat.pow_succ']
    have h3 : B * (val B xs + 1) ≤ B * B ^ xs.length := Nat.mul_le_mul_left B h1
    rw [Nat.mul_add] at h3
    omega
theorem digs_val {l : List Nat} (h : All B l) : digs B (val B l) l.length = l := by
  induction l with
  | nil => rfl
  | cons x xs ih =>
    have h1 := ih (fun y hy => h y (by simp [hy]))
    have h2 := h x (by simp)
    simp only [val, List.length_cons, digs]
    rw [Nat.add_mul_mod_self_left, Nat.mod_eq_of_lt h2, Nat.add_mul_div_left _ _ (by omega), Nat.div_eq_of_lt h2, Nat.zero_add, h1]
theorem val_inj {l m : List Nat} (hl : All B l) (hm : All B m) (hlen : l.length = m.length) (h : val B l = val B m) : l = m := by
  rw [← digs_val hl, ← digs_val hm, h, hlen]
theorem val_append (l m : List Nat) : val B (l ++ m) = val B l + B ^ l.length * val B m := by
  induction l with
  | nil => simp [val]
  | cons x xs ih => simp only [List.cons_append, val, ih, List.length_cons, Nat.pow_succ', Nat.mul_add, Nat.mul_assoc]; omega
theorem val_set {l : List Nat} {j : Nat} (hj : j < l.length) (v : Nat) : val B (l.set j v) + l.getD j 0 * B ^ j = val B l + v * B ^ j := by
  induction l generalizing j with
  | nil => simp at hj
  | cons x xs ih =>
    cases j with
    | zero => simp [val]; omega
    | succ j =>
      have h1 := ih (j := j) (by simpa using hj)
      simp only [List.set_cons_succ, val, List.getD_cons_succ, Nat.pow_succ']
      have h2 : B * (val B (xs.set j v) + xs.getD j 0 * B ^ j) = B * (val B xs + v * B ^ j) := by rw [h1]
      rw [Nat.mul_add, Nat.mul_add] at h2
      rw [show xs.getD j 0 * (B * B ^ j) = B * (xs.getD j 0 * B ^ j) by rw [Nat.mul_left_comm], show v * (B * B ^ j) = B * (v * B ^ j) by rw [Nat.mul_left_comm]]
      omega
theorem val_digit {l : List Nat} (h : All B l) (j : Nat) (hj : j < l.length) : val B l / B ^ j % B = l.getD j 0 := by
  induction l generalizing j with
  | nil => simp at hj
  | cons x xs ih =>
    have h2 := h x (by simp)
    cases j with
    | zero => simp [val, Nat.add_mul_mod_self_left, Nat.mod_eq_of_lt h2]
    | succ j =>
      have h1 := ih (fun y hy => h y (by simp [hy])) j (by simpa using hj)
      simp only [val, List.getD_cons_succ, Nat.pow_succ']
      rw [← Nat.div_div_eq_div_mul, Nat.add_mul_div_left _ _ (by omega), Nat.div_eq_of_lt h2, Nat.zero_add, h1]
theorem digs_getD (n : Nat) {k j : Nat} (hj : j < k) : (digs B n k).getD j 0 = n / B ^ j % B := by
  induction k generalizing n j with
  | zero => omega
  | succ k ih =>
    cases j with
    | zero => simp [digs]
    | succ j =>
      simp only [digs, List.getD_cons_succ]
      rw [ih _ (by omega), Nat.pow_succ', Nat.div_div_eq_div_mul]
/-- A bit of a number, told by its digit of 2^w. -/
theorem bit_digit {w : Nat} {l : List Nat} (h : All (2 ^ w) l) (i : Nat) (hw : 0 < w) (hi : i < w * l.length) : val (2 ^ w) l / 2 ^ i % 2 = l.getD (i / w) 0 / 2 ^ (i % w) % 2 := by
  have hq : i / w < l.length := Nat.div_lt_of_lt_mul hi
  have h1 := val_digit h (i / w) hq
  have h2 : 2 ^ i = (2 ^ w) ^ (i / w) * 2 ^ (i % w) := by rw [← Nat.pow_mul, ← Nat.pow_add, Nat.div_add_mod]
  rw [h2, ← Nat.div_div_eq_div_mul, ← h1]
  generalize val (2 ^ w) l / (2 ^ w) ^ (i / w) = n
  have hr : i % w < w := Nat.mod_lt _ hw
  have h3 : 2 ^ w = 2 ^ (i % w) * (2 * 2 ^ (w - 1 - i % w)) := by rw [← Nat.pow_succ', ← Nat.pow_add]; congr 1; omega
  rw [h3, Nat.mod_mul, Nat.add_mul_div_left _ _ (Nat.two_pow_pos _), Nat.div_eq_of_lt (Nat.mod_lt _ (Nat.two_pow_pos _)), Nat.zero_add, Nat.mod_mul_right_mod]
theorem All.getD {l : List Nat} (h : All B l) {j : Nat} (hj : j < l.length) : l.getD j 0 < B := by
  have : l.getD j 0 = l[j] := by simp [hj]
  rw [this]; exact h _ (List.getElem_mem _)
theorem val_nil : val B [] = 0 := rfl
theorem val_replicate (k : Nat) : val B (List.replicate k 0) = 0 := by
  induction k with
  | zero => rfl
  | succ k ih => simp [List.replicate_succ, val, ih]

/-- A number of bytes, the lowest first. -/
def bytesNat (l : List UInt8) : Nat := val 256 (l.map (·.toNat))
theorem bytes_all (l : List UInt8) : All 256 (l.map (·.toNat)) := by
  intro x h
  obtain ⟨c, _, rfl⟩ := List.mem_map.1 h
  exact c.toNat_lt
theorem bytesNat_lt (l : List UInt8) : bytesNat l < 256 ^ l.length := by
  have := val_lt (bytes_all l); simpa [bytesNat] using this
def natBytes (n k : Nat) : List UInt8 := (digs 256 n k).map UInt8.ofNat
theorem natBytes_length (n k : Nat) : (natBytes n k).length = k := by simp [natBytes, digs_length]
theorem natBytes_map (n k : Nat) : (natBytes n k).map (·.toNat) = digs 256 n k := by
  unfold natBytes
  rw [List.map_map]
  conv => rhs; rw [← List.map_id (digs 256 n k)]
  refine List.map_congr_left fun x hx => ?_
  have := digs_all (B := 256) (by decide) n k x hx
  simp [Nat.mod_eq_of_lt this]
theorem bytesNat_natBytes (n k : Nat) : bytesNat (natBytes n k) = n % 256 ^ k := by
  unfold bytesNat; rw [natBytes_map, val_digs]
theorem natBytes_bytesNat (l : List UInt8) : natBytes (bytesNat l) l.length = l := by
  unfold natBytes bytesNat
  have h := digs_val (bytes_all l)
  rw [List.length_map] at h
  rw [h, List.map_map]
  conv => rhs; rw [← List.map_id l]
  exact List.map_congr_left fun x _ => by simp
theorem bytesNat_inj {l m : List UInt8} (hlen : l.length = m.length) (h : bytesNat l = bytesNat m) : l = m := by
  rw [← natBytes_bytesNat l, ← natBytes_bytesNat m, h, hlen]
theorem natBytes_inj {n m k : Nat} (hn : n < 256 ^ k) (hm : m < 256 ^ k) (h : natBytes n k = natBytes m k) : n = m := by
  have h1 := bytesNat_natBytes n k
  have h2 := bytesNat_natBytes m k
  rw [Nat.mod_eq_of_lt hn] at h1
  rw [Nat.mod_eq_of_lt hm] at h2
  rw [← h1, ← h2, h]

end Go.Proofs.Ytoaihbmicdbaiaa.DG
