/- Words as UInt32: what the model's arithmetic on their numbers is. -/
import Derived.Test.YtejkimhmpnogkaaDoorB
import Derived.Laws.BitsAllLaws
namespace Go.Proofs.YtejkimhmpnogkaaDoor
open Go.RowKit

/-- A word as a number. -/
def UV (x : UInt32) : Int := (x.toNat : Int)
theorem uv_nonneg (x : UInt32) : 0 ≤ UV x := Int.natCast_nonneg _
theorem uv_lt (x : UInt32) : UV x < 4294967296 := by have := x.toNat_lt; unfold UV; omega
theorem wrap_nat32 (n : Nat) : IntKind.u32.wrap (n : Int) = ((n % 4294967296 : Nat) : Int) := by rw [IntKind.wrap_u32']; rfl
section
variable (x y : UInt32)
@[go_sem] theorem v_xor : bits .xor .u32 (UV x) (UV y) = UV (x ^^^ y) := by unfold UV; rw [u32_xor_nat _ _ x.toNat_lt y.toNat_lt, UInt32.toNat_xor]
@[go_sem] theorem v_and : bits .and .u32 (UV x) (UV y) = UV (x &&& y) := by unfold UV; rw [u32_and_nat _ _ x.toNat_lt y.toNat_lt, UInt32.toNat_and]
@[go_sem] theorem v_or : bits .or .u32 (UV x) (UV y) = UV (x ||| y) := by unfold UV; rw [u32_or_nat _ _ x.toNat_lt y.toNat_lt, UInt32.toNat_or]
@[go_sem] theorem v_add : IntKind.u32.wrap (UV x + UV y) = UV (x + y) := by unfold UV; rw [← Int.natCast_add, wrap_nat32, UInt32.toNat_add]
theorem v_shr (n : Nat) (h : n < 32) : UV x / (2 : Int) ^ n = UV (x >>> UInt32.ofNat n) := by
  unfold UV
  rw [UInt32.toNat_shiftRight, UInt32.toNat_ofNat', Nat.mod_eq_of_lt (a := n) (b := 2 ^ 32) (by omega), Nat.mod_eq_of_lt h, Nat.shiftRight_eq_div_pow, Int.natCast_ediv, Int.natCast_pow]; rfl
theorem v_shl (n : Nat) (h : n < 32) : IntKind.u32.wrap (UV x * (2 : Int) ^ n) = UV (x <<< UInt32.ofNat n) := by
  unfold UV
  rw [UInt32.toNat_shiftLeft, UInt32.toNat_ofNat', Nat.mod_eq_of_lt (a := n) (b := 2 ^ 32) (by omega), Nat.mod_eq_of_lt h, Nat.shiftLeft_eq]
  rw [show (x.toNat : Int) * (2 : Int) ^ n = ((x.toNat * 2 ^ n : Nat) : Int) by rw [Int.natCast_mul, Int.natCast_pow]; rfl, wrap_nat32]
end
@[go_sem] theorem v_shr7 (x : UInt32) : UV x / (128 : Int) = UV (x >>> 7) := v_shr x 7 (by decide)
@[go_sem] theorem v_shr6 (x : UInt32) : UV x / (64 : Int) = UV (x >>> 6) := v_shr x 6 (by decide)
@[go_sem] theorem v_self (x : UInt32) : IntKind.u32.wrap (UV x) = UV x := by unfold UV; rw [wrap_nat32, Nat.mod_eq_of_lt x.toNat_lt]
theorem v_shl' (x : UInt32) (n : Nat) (h : n < 32) : UV x * (2 : Int) ^ n % 4294967296 = UV (x <<< UInt32.ofNat n) := by rw [← v_shl x n h, IntKind.wrap_u32']
@[go_sem] theorem v_add' (x y : UInt32) : (UV x + UV y) % 4294967296 = UV (x + y) := by rw [← v_add, IntKind.wrap_u32']
@[go_sem] theorem v_self' (x : UInt32) : UV x % 4294967296 = UV x := by rw [← IntKind.wrap_u32', v_self]
theorem v_lit (n : Nat) (h : n < 4294967296) : (n : Int) = UV (UInt32.ofNat n) := by unfold UV; rw [UInt32.toNat_ofNat', Nat.mod_eq_of_lt (a := n) (b := 2 ^ 32) (by omega)]

/-- Cells that hold words. -/
def vrow (l : List UInt32) : Array Value := (l.map fun (x : UInt32) => Value.int .u32 (UV x)).toArray
theorem vrow_size (l : List UInt32) : (vrow l).size = l.length := by simp [vrow]
theorem vrow_get (l : List UInt32) {j : Nat} (h : j < l.length) : (vrow l)[j]? = some (.int .u32 (UV (l.getD j 0))) := by simp [vrow, h]
theorem vrow_set (l : List UInt32) (j : Nat) (v : UInt32) : (vrow l).setIfInBounds j (.int .u32 (UV v)) = vrow (l.set j v) := by
  unfold vrow
  rw [List.setIfInBounds_toArray, List.map_set]
section
variable {w : World} {b : Nat} {l : List UInt32} {T : TypeId} {fz : Nat × Nat}
theorem vrow_cell (h : w.heap[b]? = some (.cells (vrow l) T fz)) {j : Nat} (hj : j < l.length) : w.cell? ⟨b, j, none⟩ = some (.int .u32 (UV (l.getD j 0))) := by
  rw [cell_at h, vrow_get l hj]
theorem vrow_store (h : w.heap[b]? = some (.cells (vrow l) T fz)) (j : Nat) (v : UInt32) : (w.setCell ⟨b, j, none⟩ (.int .u32 (UV v))).heap[b]? = some (.cells (vrow (l.set j v)) T fz) := by
  rw [at_setCell h, vrow_set]
theorem vrow_one (l : List UInt32) : (vrow l).all (·.oneCell') = true := by
  rw [Array.all_eq_true_iff_forall_mem]
  intro v hv
  simp only [vrow, List.mem_toArray, List.mem_map] at hv
  obtain ⟨x, _, rfl⟩ := hv
  rfl
end

theorem vrow_range {w : World} {b : Nat} {l : List UInt32} {T : TypeId} {fz : Nat × Nat} (h : w.heap[b]? = some (.cells (vrow l) T fz)) (j : Nat) (hj : j < l.length) : w.cell? ⟨b, j, none⟩ = some (.int .u32 (UV (l.getD j 0))) := vrow_cell h hj
theorem oct_vcells {w : World} {b : Nat} {x0 x1 x2 x3 x4 x5 x6 x7 : UInt32} {T : TypeId} {fz : Nat × Nat} (h : w.heap[b]? = some (.cells (vrow [x0, x1, x2, x3, x4, x5, x6, x7]) T fz)) :
    w.cell? ⟨b, 0, none⟩ = some (.int .u32 (UV x0)) ∧ w.cell? ⟨b, 1, none⟩ = some (.int .u32 (UV x1)) ∧ w.cell? ⟨b, 2, none⟩ = some (.int .u32 (UV x2)) ∧ w.cell? ⟨b, 3, none⟩ = some (.int .u32 (UV x3)) ∧
    w.cell? ⟨b, 4, none⟩ = some (.int .u32 (UV x4)) ∧ w.cell? ⟨b, 5, none⟩ = some (.int .u32 (UV x5)) ∧ w.cell? ⟨b, 6, none⟩ = some (.int .u32 (UV x6)) ∧ w.cell? ⟨b, 7, none⟩ = some (.int .u32 (UV x7)) :=
  ⟨cell_at h 0, cell_at h 1, cell_at h 2, cell_at h 3, cell_at h 4, cell_at h 5, cell_at h 6, cell_at h 7⟩

theorem vset8 {w : World} {b : Nat} {x0 x1 x2 x3 x4 x5 x6 x7 : UInt32} {T : TypeId} {fz : Nat × Nat} (h : w.heap[b]? = some (.cells (vrow [x0, x1, x2, x3, x4, x5, x6, x7]) T fz)) (y0 y1 y2 y3 y4 y5 y6 y7 : UInt32) :
    (((((((w.setCell ⟨b, 0, none⟩ (.int .u32 (UV y0))).setCell ⟨b, 1, none⟩ (.int .u32 (UV y1))).setCell ⟨b, 2, none⟩ (.int .u32 (UV y2))).setCell ⟨b, 3, none⟩ (.int .u32 (UV y3))).setCell ⟨b, 4, none⟩ (.int .u32 (UV y4))).setCell ⟨b, 5, none⟩ (.int .u32 (UV y5))).setCell ⟨b, 6, none⟩ (.int .u32 (UV y6))).setCell ⟨b, 7, none⟩ (.int .u32 (UV y7)) =
      blk w b (.cells (vrow [y0, y1, y2, y3, y4, y5, y6, y7]) T fz) := by
  have hlt := lt_blk h
  rw [setCell_blk h, blk_setCell hlt, blk_setCell hlt, blk_setCell hlt, blk_setCell hlt, blk_setCell hlt, blk_setCell hlt, blk_setCell hlt]
  simp only [vrow_set, List.set_cons_zero, List.set_cons_succ]

end Go.Proofs.YtejkimhmpnogkaaDoor
