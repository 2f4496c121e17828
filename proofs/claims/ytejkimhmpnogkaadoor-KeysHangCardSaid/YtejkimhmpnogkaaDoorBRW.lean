/- Bytes in memory, a row of them. -/
import Derived.Test.YtejkimhmpnogkaaDoorBYT
namespace Go.Proofs.YtejkimhmpnogkaaDoor
open Go.RowKit

def brow (l : List UInt8) : Array Value := (l.map fun (c : UInt8) => Value.int .u8 (c.toNat : Int)).toArray
theorem brow_size (l : List UInt8) : (brow l).size = l.length := by simp [brow]
theorem brow_cell {w : World} {b : Nat} {l : List UInt8} {T : TypeId} {fz : Nat × Nat} (h : w.heap[b]? = some (.cells (brow l) T fz)) {j : Nat} (hj : j < l.length) : w.cell? ⟨b, j, none⟩ = some (.int .u8 ((l.getD j 0).toNat : Int)) := by
  rw [cell_at h]; simp [brow, hj]
theorem brow_store {w : World} {b : Nat} {l : List UInt8} {T : TypeId} {fz : Nat × Nat} (h : w.heap[b]? = some (.cells (brow l) T fz)) (j : Nat) (c : UInt8) : (w.setCell ⟨b, j, none⟩ (.int .u8 (c.toNat : Int))).heap[b]? = some (.cells (brow (l.set j c)) T fz) := by
  rw [at_setCell h]
  unfold brow
  rw [List.setIfInBounds_toArray, List.map_set]

end Go.Proofs.YtejkimhmpnogkaaDoor
