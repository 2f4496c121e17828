/- A whole row by value: read out of a block, written into it, handed back. -/
import Derived.Test.YtejkimhmpnogkaaDoorLT
import Derived.Deep.MidRow
import Derived.Deep.WholeRow
import Derived.Deep.Cut
namespace Go.Proofs.YtejkimhmpnogkaaDoor
open Go.RowKit

section
variable {P : Program} {w : World} {b : Nat} {cs c : Array Value} {T ty : TypeId} {fz : Nat × Nat} {d : TypeDesc}
theorem cells_range (h : w.heap[b]? = some (.cells cs T fz)) : w.rangeAt b 0 cs.toList := fun j v hv => by
  rw [Nat.zero_add, cell_at h]
  simpa using hv
theorem load_row (h : w.heap[b]? = some (.cells cs T fz)) (hu : P.underlying ty = some d) (hd : d.isRow = true) (hi : (P.info? ty).map (·.size) = some cs.size) :
    (Instr.loadAt ty (.pointer (some ⟨b, 0, none⟩))).run P w = .ok (.agg cs) w := by
  have := run_loadAt_mid (P := P) w b 0 ty cs.toList d (cells_range h) hu hd (by simpa using hi)
  simpa using this
theorem setCells_row (vs : List Value) : ∀ (w : World) (b : Nat) (pre old post : List Value) (T : TypeId) (fz : Nat × Nat), w.heap[b]? = some (.cells (pre ++ old ++ post).toArray T fz) → old.length = vs.length →
    w.setCells b pre.length vs = blk w b (.cells (pre ++ vs ++ post).toArray T fz) := by
  induction vs with
  | nil =>
    intro w b pre old post T fz h hl
    have : old = [] := List.length_eq_zero_iff.1 hl
    subst this
    exact (blk_self h).symm
  | cons v vs ih =>
    intro w b pre old post T fz h hl
    match old, hl with
    | o :: old, hl =>
      have h1 := at_setCell h pre.length v
      have e : ((pre ++ (o :: old) ++ post).toArray.setIfInBounds pre.length v) = ((pre ++ [v]) ++ old ++ post).toArray := by
        rw [List.setIfInBounds_toArray]; simp
      rw [e] at h1
      have h2 := ih (w.setCell ⟨b, pre.length, none⟩ v) b (pre ++ [v]) old post T fz h1 (by simpa using hl)
      rw [List.length_append, List.length_singleton] at h2
      rw [World.setCells, h2, setCell_blk h, blk_blk]
      simp
theorem row_there {n : Nat} (h : w.heap[b]? = some (.cells c T (0, 0))) (hn : n ≤ c.size) : w.there b 0 n := fun j hj => by
  rw [Nat.zero_add, cell_at h, free_at h]
  simp; omega
theorem store_row (h : w.heap[b]? = some (.cells c T (0, 0))) (hi : (P.info? ty).map (·.size) = some cs.size) (hc : c.size = cs.size) (h1 : cs.all (·.oneCell') = true) :
    (Instr.storeAt ty (.pointer (some ⟨b, 0, none⟩)) (.agg cs)).run P w = .ok () (blk w b (.cells cs T (0, 0))) := by
  rw [run_storeAt_mid (P := P) w b 0 ty cs (row_there h (by omega)) hi h1]
  have h2 := setCells_row cs.toList w b [] c.toList [] T (0, 0) (by simpa using h) (by simp [hc])
  simp only [List.length_nil, List.nil_append, List.append_nil] at h2
  rw [h2]
theorem later_row (h : w.heap[b]? = some (.cells cs T fz)) (hu : P.underlying ty = some d) (hd : d.isRow = true) (hi : (P.info? ty).map (·.size) = some cs.size) :
    ∀ w', (∃ x : Later w, w' = x.w') → (Instr.loadAt ty (.pointer (some ⟨b, 0, none⟩))).run P w' = .ok (.agg cs) w' := by
  rintro _ ⟨x, rfl⟩; exact load_row (later_block h x) hu hd hi
end
section
variable {P : Program} {ops : Array Oper} {rest : List Oper} {op : Oper} {a : Act} {w : World} {Q : Exit → Act → World → Prop}
theorem wp_load_row (hgd : op.guard = none) (ty : TypeId) (x : Operand) (ho : op.op = .load ty x) {b : Nat} (hx : a.eval x = .pointer (some ⟨b, 0, none⟩)) {cs : Array Value} {T : TypeId} {fz : Nat × Nat} {d : TypeDesc}
    (h : w.heap[b]? = some (.cells cs T fz)) (hu : P.underlying ty = some d) (hd : d.isRow = true) (hi : (P.info? ty).map (·.size) = some cs.size)
    (k : wpList P ops Q rest (a.put op.dst (.agg cs)) w) : wpList P ops Q (op :: rest) a w := by
  refine wpList_load_mid hgd ty x ho b 0 hx cs.toList d (cells_range h) hu hd (by simpa using hi) ?_
  simpa using k
theorem opwp_load_row {K : Act → World → Prop} (ty : TypeId) (x : Operand) (ho : op.op = .load ty x) {b : Nat} (hx : a.eval x = .pointer (some ⟨b, 0, none⟩)) {cs : Array Value} {T : TypeId} {fz : Nat × Nat} {d : TypeDesc}
    (h : w.heap[b]? = some (.cells cs T fz)) (hu : P.underlying ty = some d) (hd : d.isRow = true) (hi : (P.info? ty).map (·.size) = some cs.size)
    (k : K (a.put op.dst (.agg cs)) w) : op.wp P a w K Q := by
  refine wp_load_mid ty x ho b 0 hx cs.toList d (cells_range h) hu hd (by simpa using hi) ?_
  simpa using k
theorem wp_store_row (hgd : op.guard = none) (ty : TypeId) (x y : Operand) (ho : op.op = .store ty x y) {b : Nat} (hx : a.eval x = .pointer (some ⟨b, 0, none⟩)) {cs c : Array Value} {T : TypeId} (hy : a.eval y = .agg cs)
    (h : w.heap[b]? = some (.cells c T (0, 0))) (hi : (P.info? ty).map (·.size) = some cs.size) (hc : c.size = cs.size) (h1 : cs.all (·.oneCell') = true)
    (k : wpList P ops Q rest (a.put op.dst undef) (blk w b (.cells cs T (0, 0)))) : wpList P ops Q (op :: rest) a w := by
  refine wpList_store_mid hgd ty x y ho b 0 cs hx hy (row_there h (by omega)) hi h1 ?_
  have h2 := setCells_row cs.toList w b [] c.toList [] T (0, 0) (by simpa using h) (by simp [hc])
  simp only [List.length_nil, List.nil_append, List.append_nil] at h2
  rw [h2]
  exact k
end
section
variable {P : Program} {ops : Array Oper} {rest : List Oper} {op : Oper} {a : Act} {w : World} {Q : Exit → Act → World → Prop}
theorem wp_build (hgd : op.guard = none) (t : TypeId) (parts : Array (Nat × Operand)) (ho : op.op = .build t parts) (cells : Array Value) (h : P.built t (parts.map fun (i, x) => (i, a.eval x)).toList = some cells)
    (k : wpList P ops Q rest (a.put op.dst (.agg cells)) w) : wpList P ops Q (op :: rest) a w :=
  wpList_plain hgd fun _ hK => by
    unfold Oper.wp execOp
    simp only [ho, Sem.run_bind, Sem.run_pure, Result.andThen_ok, run_build w t _ cells h]
    exact hK _ _ k
end
/-- A whole row into the block that was made last. -/
theorem store_cells_new {P : Program} (w : World) (t : TypeId) (c c' : Array Value) (hi : (P.info? t).map (·.size) = some c'.size) (ho : c.size = c'.size) (h1 : c'.all (·.oneCell') = true) :
    (storeCells ⟨w.heap.size, 0, none⟩ c'.toList).run P (w.alloc (.cells c t)) = .ok () (w.alloc (.cells c' t)) := run_storeCells_new w t c c' hi ho h1

end Go.Proofs.YtejkimhmpnogkaaDoor
