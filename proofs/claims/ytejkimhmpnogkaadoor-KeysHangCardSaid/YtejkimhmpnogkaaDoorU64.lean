/- Words as UInt64: what the model's arithmetic on their numbers is. -/
import Derived.Test.YtejkimhmpnogkaaDoorB
import Derived.Laws.BitsAllLaws
namespace Go.Proofs.YtejkimhmpnogkaaDoor
open Go.RowKit

/-- A word as a number. -/
def UW (x : UInt64) : Int := (x.toNat : Int)
theorem uw_nonneg (x : UInt64) : 0 ≤ UW x := Int.natCast_nonneg _
theorem uw_lt (x : UInt64) : UW x < 18446744073709551616 := by have := x.toNat_lt; unfold UW; omega
theorem wrap_nat (n : Nat) : IntKind.u64.wrap (n : Int) = ((n % 18446744073709551616 : Nat) : Int) := by rw [IntKind.wrap_u64]; rfl
section
variable (x y : UInt64)
@[go_sem] theorem u_xor : bits .xor .u64 (UW x) (UW y) = UW (x ^^^ y) := by unfold UW; rw [u64_xor_nat _ _ x.toNat_lt y.toNat_lt, UInt64.toNat_xor]
@[go_sem] theorem u_and : bits .and .u64 (UW x) (UW y) = UW (x &&& y) := by unfold UW; rw [u64_and_nat _ _ x.toNat_lt y.toNat_lt, UInt64.toNat_and]
@[go_sem] theorem u_or : bits .or .u64 (UW x) (UW y) = UW (x ||| y) := by unfold UW; rw [u64_or_nat _ _ x.toNat_lt y.toNat_lt, UInt64.toNat_or]
@[go_sem] theorem u_add : IntKind.u64.wrap (UW x + UW y) = UW (x + y) := by unfold UW; rw [← Int.natCast_add, wrap_nat, UInt64.toNat_add]
theorem u_shr (n : Nat) (h : n < 64) : UW x / (2 : Int) ^ n = UW (x >>> UInt64.ofNat n) := by
  unfold UW
  rw [UInt64.toNat_shiftRight, UInt64.toNat_ofNat', Nat.mod_eq_of_lt (a := n) (b := 2 ^ 64) (by omega), Nat.mod_eq_of_lt h, Nat.shiftRight_eq_div_pow, Int.natCast_ediv, Int.natCast_pow]; rfl
theorem u_shl (n : Nat) (h : n < 64) : IntKind.u64.wrap (UW x * (2 : Int) ^ n) = UW (x <<< UInt64.ofNat n) := by
  unfold UW
  rw [UInt64.toNat_shiftLeft, UInt64.toNat_ofNat', Nat.mod_eq_of_lt (a := n) (b := 2 ^ 64) (by omega), Nat.mod_eq_of_lt h, Nat.shiftLeft_eq]
  rw [show (x.toNat : Int) * (2 : Int) ^ n = ((x.toNat * 2 ^ n : Nat) : Int) by rw [Int.natCast_mul, Int.natCast_pow]; rfl, wrap_nat]
end
@[go_sem] theorem u_shr7 (x : UInt64) : UW x / (128 : Int) = UW (x >>> 7) := u_shr x 7 (by decide)
@[go_sem] theorem u_shr6 (x : UInt64) : UW x / (64 : Int) = UW (x >>> 6) := u_shr x 6 (by decide)
@[go_sem] theorem u_self (x : UInt64) : IntKind.u64.wrap (UW x) = UW x := by unfold UW; rw [wrap_nat, Nat.mod_eq_of_lt x.toNat_lt]
theorem u_lit (n : Nat) (h : n < 18446744073709551616) : (n : Int) = UW (UInt64.ofNat n) := by unfold UW; rw [UInt64.toNat_ofNat', Nat.mod_eq_of_lt (a := n) (b := 2 ^ 64) (by omega)]

/-- Cells that hold words. -/
def wrow (l : List UInt64) : Array Value := (l.map fun (x : UInt64) => Value.int .u64 (UW x)).toArray
theorem wrow_size (l : List UInt64) : (wrow l).size = l.length := by simp [wrow]
theorem wrow_get (l : List UInt64) {j : Nat} (h : j < l.length) : (wrow l)[j]? = some (.int .u64 (UW (l.getD j 0))) := by simp [wrow, h]
theorem wrow_set (l : List UInt64) (j : Nat) (v : UInt64) : (wrow l).setIfInBounds j (.int .u64 (UW v)) = wrow (l.set j v) := by
  unfold wrow
  rw [List.setIfInBounds_toArray, List.map_set]
section
variable {w : World} {b : Nat} {l : List UInt64} {T : TypeId} {fz : Nat × Nat}
theorem wrow_cell (h : w.heap[b]? = some (.cells (wrow l) T fz)) {j : Nat} (hj : j < l.length) : w.cell? ⟨b, j, none⟩ = some (.int .u64 (UW (l.getD j 0))) := by
  rw [cell_at h, wrow_get l hj]
theorem wrow_store (h : w.heap[b]? = some (.cells (wrow l) T fz)) (j : Nat) (v : UInt64) : (w.setCell ⟨b, j, none⟩ (.int .u64 (UW v))).heap[b]? = some (.cells (wrow (l.set j v)) T fz) := by
  rw [at_setCell h, wrow_set]
theorem wrow_one (l : List UInt64) : (wrow l).all (·.oneCell') = true := by
  rw [Array.all_eq_true_iff_forall_mem]
  intro v hv
  simp only [wrow, List.mem_toArray, List.mem_map] at hv
  obtain ⟨x, _, rfl⟩ := hv
  rfl
end

theorem wrow_range {w : World} {b : Nat} {l : List UInt64} {T : TypeId} {fz : Nat × Nat} (h : w.heap[b]? = some (.cells (wrow l) T fz)) (j : Nat) (hj : j < l.length) : w.cell? ⟨b, j, none⟩ = some (.int .u64 (UW (l.getD j 0))) := wrow_cell h hj
theorem oct_cells {w : World} {b : Nat} {x0 x1 x2 x3 x4 x5 x6 x7 : UInt64} {T : TypeId} {fz : Nat × Nat} (h : w.heap[b]? = some (.cells (wrow [x0, x1, x2, x3, x4, x5, x6, x7]) T fz)) :
    w.cell? ⟨b, 0, none⟩ = some (.int .u64 (UW x0)) ∧ w.cell? ⟨b, 1, none⟩ = some (.int .u64 (UW x1)) ∧ w.cell? ⟨b, 2, none⟩ = some (.int .u64 (UW x2)) ∧ w.cell? ⟨b, 3, none⟩ = some (.int .u64 (UW x3)) ∧
    w.cell? ⟨b, 4, none⟩ = some (.int .u64 (UW x4)) ∧ w.cell? ⟨b, 5, none⟩ = some (.int .u64 (UW x5)) ∧ w.cell? ⟨b, 6, none⟩ = some (.int .u64 (UW x6)) ∧ w.cell? ⟨b, 7, none⟩ = some (.int .u64 (UW x7)) :=
  ⟨cell_at h 0, cell_at h 1, cell_at h 2, cell_at h 3, cell_at h 4, cell_at h 5, cell_at h 6, cell_at h 7⟩

theorem set8 {w : World} {b : Nat} {x0 x1 x2 x3 x4 x5 x6 x7 : UInt64} {T : TypeId} {fz : Nat × Nat} (h : w.heap[b]? = some (.cells (wrow [x0, x1, x2, x3, x4, x5, x6, x7]) T fz)) (y0 y1 y2 y3 y4 y5 y6 y7 : UInt64) :
    (((((((w.setCell ⟨b, 0, none⟩ (.int .u64 (UW y0))).setCell ⟨b, 1, none⟩ (.int .u64 (UW y1))).setCell ⟨b, 2, none⟩ (.int .u64 (UW y2))).setCell ⟨b, 3, none⟩ (.int .u64 (UW y3))).setCell ⟨b, 4, none⟩ (.int .u64 (UW y4))).setCell ⟨b, 5, none⟩ (.int .u64 (UW y5))).setCell ⟨b, 6, none⟩ (.int .u64 (UW y6))).setCell ⟨b, 7, none⟩ (.int .u64 (UW y7)) =
      blk w b (.cells (wrow [y0, y1, y2, y3, y4, y5, y6, y7]) T fz) := by
  have hlt := lt_blk h
  rw [setCell_blk h, blk_setCell hlt, blk_setCell hlt, blk_setCell hlt, blk_setCell hlt, blk_setCell hlt, blk_setCell hlt, blk_setCell hlt]
  simp only [wrow_set, List.set_cons_zero, List.set_cons_succ]

end Go.Proofs.YtejkimhmpnogkaaDoor
