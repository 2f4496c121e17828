/- Rows of numbers in memory. -/
import Derived.Test.YtoaihbmicdbaiaaB
import Derived.Test.YtoaihbmicdbaiaaDG
namespace Go.Proofs.Ytoaihbmicdbaiaa
open Go.RowKit

/-- Cells that hold numbers. -/
def ints (k : IntKind) (l : List Nat) : Array Value := (l.map fun (x : Nat) => Value.int k (x : Int)).toArray
theorem ints_size (k : IntKind) (l : List Nat) : (ints k l).size = l.length := by simp [ints]
theorem ints_get (k : IntKind) (l : List Nat) {j : Nat} (h : j < l.length) : (ints k l)[j]? = some (.int k ((l.getD j 0 : Nat) : Int)) := by simp [ints, h]
theorem ints_set (k : IntKind) (l : List Nat) (j v : Nat) : (ints k l).setIfInBounds j (.int k (v : Int)) = ints k (l.set j v) := by
  unfold ints
  rw [List.setIfInBounds_toArray, List.map_set]
section
variable {w : World} {b : Nat} {k : IntKind} {l : List Nat} {T : TypeId} {fz : Nat × Nat}
theorem ints_cell (h : w.heap[b]? = some (.cells (ints k l) T fz)) {j : Nat} (hj : j < l.length) : w.cell? ⟨b, j, none⟩ = some (.int k ((l.getD j 0 : Nat) : Int)) := by
  rw [cell_at h, ints_get k l hj]
theorem ints_store (h : w.heap[b]? = some (.cells (ints k l) T fz)) (j v : Nat) : (w.setCell ⟨b, j, none⟩ (.int k (v : Int))).heap[b]? = some (.cells (ints k (l.set j v)) T fz) := by
  rw [at_setCell h, ints_set]
end

open DG
theorem bytesNat_take_succ (l : List UInt8) (k : Nat) (h : k < l.length) : bytesNat (l.take (k + 1)) = bytesNat (l.take k) + l[k].toNat * 256 ^ k := by
  unfold bytesNat
  rw [List.take_succ_eq_append_getElem h, List.map_append, val_append]
  simp [val, Nat.min_eq_left (Nat.le_of_lt h)]
  rw [Nat.mul_comm]
/-- One byte more in words of eight bytes. -/
theorem word_step {n b k m : Nat} (hn : n < 256 ^ k) (hb : b < 256) (hk : k < 8 * m) :
    digs (2 ^ 64) (n + b * 256 ^ k) m = (digs (2 ^ 64) n m).set (k / 8) ((digs (2 ^ 64) n m).getD (k / 8) 0 + b * 2 ^ (8 * (k % 8))) ∧
      (digs (2 ^ 64) n m).getD (k / 8) 0 < 2 ^ (8 * (k % 8)) := by
  have hk8 : k / 8 < m := by omega
  have h256 : (256 : Nat) ^ k = (2 ^ 64) ^ (k / 8) * 2 ^ (8 * (k % 8)) := by
    rw [show (256 : Nat) = 2 ^ 8 from rfl, ← Nat.pow_mul, ← Nat.pow_mul, ← Nat.pow_add]; congr 1; omega
  have hg : (digs (2 ^ 64) n m).getD (k / 8) 0 < 2 ^ (8 * (k % 8)) := by
    rw [digs_getD n hk8]
    refine Nat.lt_of_le_of_lt (Nat.mod_le _ _) ?_
    exact Nat.div_lt_of_lt_mul (by rw [← h256]; exact hn)
  refine ⟨?_, hg⟩
  have hB : (256 : Nat) ^ (k + 1) ≤ (2 ^ 64) ^ m := by
    rw [show (256 : Nat) = 2 ^ 8 from rfl, ← Nat.pow_mul, ← Nat.pow_mul]; exact Nat.pow_le_pow_right (by decide) (by omega)
  have hle : b * 256 ^ k ≤ 255 * 256 ^ k := Nat.mul_le_mul_right _ (by omega)
  have hsum : n + b * 256 ^ k < (2 ^ 64) ^ m := by rw [Nat.pow_succ] at hB; omega
  have hn' : n < (2 ^ 64) ^ m := by omega
  refine val_inj (B := 2 ^ 64) (digs_all (by decide) _ _) ?_ (by rw [digs_length, List.length_set, digs_length]) ?_
  · intro x hx
    rcases List.mem_or_eq_of_mem_set hx with h | h
    · exact digs_all (by decide) _ _ x h
    · rw [h]
      have h1 : b * 2 ^ (8 * (k % 8)) ≤ 255 * 2 ^ (8 * (k % 8)) := Nat.mul_le_mul_right _ (by omega)
      have h2 : 256 * 2 ^ (8 * (k % 8)) ≤ 2 ^ 64 := by
        rw [show 256 * 2 ^ (8 * (k % 8)) = 2 ^ (8 + 8 * (k % 8)) by rw [Nat.pow_add]]; exact Nat.pow_le_pow_right (by decide) (by omega)
      omega
  · have hs := val_set (B := 2 ^ 64) (l := digs (2 ^ 64) n m) (j := k / 8) (by rw [digs_length]; exact hk8) ((digs (2 ^ 64) n m).getD (k / 8) 0 + b * 2 ^ (8 * (k % 8)))
    rw [val_digs, Nat.mod_eq_of_lt hn', Nat.add_mul] at hs
    rw [val_digs, Nat.mod_eq_of_lt hsum, h256]
    rw [Nat.mul_assoc, Nat.mul_comm (2 ^ (8 * (k % 8)))] at hs
    omega

end Go.Proofs.Ytoaihbmicdbaiaa
