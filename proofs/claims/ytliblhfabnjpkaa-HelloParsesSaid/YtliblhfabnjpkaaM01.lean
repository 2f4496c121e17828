/- Small lemmas on worlds, for the walks of this seat: a block that is put whole, draws, what is below. A region that draws its order, whose operations read and whose calls leave all that stood as it was: one walk in the order of the text. A whole row by value: read out of a block, written into it, handed back. Whole values in memory: loads and stores of a row as one step, told by what its block holds. A world that is as it was, but for some blocks and what is new. Bytes in memory: texts to bytes and back, a row of bytes that is appended to. Objects that turn: what stays of a world but for some blocks; bytes that an object has for itself. Plain: a text that is read piece by piece. The parser: take, num, text, some, end. -/
import Derived.Test.YtliblhfabnjpkaaRows
import Derived.WalkKit
import Derived.WalkSpells
import Derived.WalkLawsBesides
import Derived.Deep.QuietTactic
import Derived.BigQuiet
import Derived.StillTailTactics
import Derived.Lib.MinMax
import Derived.Deep.RegionHeld3
import Derived.Deep.MidRow
import Derived.Deep.WholeRow
import Derived.Deep.Cut
import Derived.Lib.ConvBytes
import Derived.Deep.AppendSrc
import Derived.Laws.AppendOwn
import Derived.Maps.OwnSet
namespace Go.Proofs.Ytliblhfabnjpkaa
open Go.RowKit
attribute [go_sem] World.cell?_alloc_some

/-- The world with block b put. -/
def blk (w : World) (b : Nat) (o : Obj) : World := { w with heap := w.heap.setIfInBounds b o }
section
variable {w : World} {b k : Nat} {c : Array Value} {T : TypeId} {fz : Nat × Nat} {v : Value} {o o' : Obj}
theorem lt_blk (h : w.heap[b]? = some o) : b < w.heap.size := by
  rcases Nat.lt_or_ge b w.heap.size with h' | h'
  · exact h'
  · simp [Array.getElem?_eq_none h'] at h
theorem cell_at (h : w.heap[b]? = some (.cells c T fz)) (k : Nat) : w.cell? ⟨b, k, none⟩ = c[k]? := by simp [World.cell?, h]
theorem free_at (h : w.heap[b]? = some (.cells c T (0, 0))) (k : Nat) : w.frozen? ⟨b, k, none⟩ = false := by simp [World.frozen?, h]
theorem setCell_blk (h : w.heap[b]? = some (.cells c T fz)) (k : Nat) (v : Value) : w.setCell ⟨b, k, none⟩ v = blk w b (.cells (c.setIfInBounds k v) T fz) := by
  unfold World.setCell blk
  have hlt := lt_blk h
  have h' : w.heap[b] = .cells c T fz := by simpa [Array.getElem?_eq_getElem hlt] using h
  congr 1
  apply Array.ext
  · simp
  · intro i h1 h2
    simp only [Array.size_modify] at h1
    rw [Array.getElem_modify, Array.getElem_setIfInBounds]
    · split
      · rename_i hi; subst hi; simp [h']
      · rfl
theorem blk_heap (h : b < w.heap.size) : (blk w b o).heap[b]? = some o := by simp [blk, h]
theorem blk_other (j : Nat) (h : j ≠ b) : (blk w b o).heap[j]? = w.heap[j]? := by
  unfold blk; rw [Array.getElem?_setIfInBounds_ne (by omega)]
theorem blk_size : (blk w b o).heap.size = w.heap.size := by simp [blk]
theorem blk_blk : blk (blk w b o) b o' = blk w b o' := by simp [blk]
theorem blk_self (h : w.heap[b]? = some o) : blk w b o = w := by
  unfold blk
  have hlt := lt_blk h
  have h' : w.heap[b] = o := by simpa [Array.getElem?_eq_getElem hlt] using h
  rw [← h', Array.setIfInBounds_def, dif_pos hlt, Array.set_getElem_self]
theorem blk_setCell (hb : b < w.heap.size) (k : Nat) (v : Value) : (blk w b (.cells c T fz)).setCell ⟨b, k, none⟩ v = blk w b (.cells (c.setIfInBounds k v) T fz) := by
  rw [setCell_blk (blk_heap hb), blk_blk]
@[go_sem] theorem setCell_drewN (w : World) (n : Nat) (a : Addr) (v : Value) : (w.drewN n).setCell a v = (w.setCell a v).drewN n := rfl
@[go_sem] theorem setCell_drew' (w : World) (a : Addr) (v : Value) : w.drew.setCell a v = (w.setCell a v).drew := rfl
theorem at_setCell (h : w.heap[b]? = some (.cells c T fz)) (k : Nat) (v : Value) : (w.setCell ⟨b, k, none⟩ v).heap[b]? = some (.cells (c.setIfInBounds k v) T fz) := by
  rw [setCell_blk h]; exact blk_heap (lt_blk h)
theorem at_setCell_other (h : w.heap[b]? = some o) {p : Addr} (hp : b ≠ p.block) (v : Value) : (w.setCell p v).heap[b]? = some o := (Below.heap_setCell w p v b hp).trans h
theorem blk_drew : (blk w b o).drew = blk w.drew b o := rfl
end

theorem hid {p : Prop} (h : p) : Hid p := h

/-- Some draws later. -/
def Dr (w w' : World) : Prop := ∃ n, w' = w.drewN n
theorem Dr.refl (w : World) : Dr w w := ⟨0, rfl⟩
theorem Dr.drew {w w' : World} (h : Dr w w') : Dr w w'.drew := by obtain ⟨n, rfl⟩ := h; exact ⟨n + 1, rfl⟩
theorem Dr.drewN {w w' : World} (h : Dr w w') (m : Nat) : Dr w (w'.drewN m) := by obtain ⟨n, rfl⟩ := h; exact ⟨n + m, World.drewN_drewN ..⟩

theorem dr_blk {W w' : World} {b : Nat} {o o' : Obj} (h : Dr (blk W b o) w') (e : o = o') : Dr (blk W b o') w' := e ▸ h

theorem Dr.heap {w w' : World} (h : Dr w w') : w'.heap = w.heap := by obtain ⟨n, rfl⟩ := h; rfl
theorem Dr.below {B : Nat} {w w' : World} (h : Dr w w') : Below B w w' := by obtain ⟨n, rfl⟩ := h; exact ⟨rfl, rfl, rfl, Nat.le_refl _, fun _ _ => rfl⟩
theorem below_blk {B : Nat} {w : World} {b : Nat} {o : Obj} (h : B ≤ b) : Below B w (blk w b o) :=
  ⟨rfl, rfl, rfl, by simp [blk], fun k hk => blk_other k (by omega)⟩
theorem dr_at {w w' : World} {b : Nat} {o : Obj} (h : Dr (blk w b o) w') (hb : b < w.heap.size) : w'.heap[b]? = some o := by rw [h.heap]; exact blk_heap hb
theorem dr_other {w w' : World} {b : Nat} {o : Obj} (h : Dr (blk w b o) w') (j : Nat) (hj : j ≠ b) : w'.heap[j]? = w.heap[j]? := by rw [h.heap]; exact blk_other j hj
theorem dr_size {w w' : World} {b : Nat} {o : Obj} (h : Dr (blk w b o) w') : w'.heap.size = w.heap.size := by rw [h.heap]; exact blk_size
theorem dr_below {B : Nat} {w w' : World} {b : Nat} {o : Obj} (h : Dr (blk w b o) w') (hb : B ≤ b) : Below B w w' := (below_blk hb).trans h.below
theorem alloc_at (w : World) (o : Obj) : (w.alloc o).heap[w.heap.size]? = some o := by
  show (w.heap.push o)[w.heap.size]? = _; simp
theorem alloc_at' {w : World} {n : Nat} (h : n = w.heap.size) (o : Obj) : (w.alloc o).heap[n]? = some o := by rw [h]; exact alloc_at w o
theorem alloc_old {w : World} {o o' : Obj} {b : Nat} (h : w.heap[b]? = some o) : (w.alloc o').heap[b]? = some o := by
  rw [Below.heap_alloc _ _ _ (lt_blk h)]; exact h
theorem alloc_below (B : Nat) (w : World) (o : Obj) (h : B ≤ w.heap.size) : Below B w (w.alloc o) := (Below.refl _ _).alloc h o

/-- But for block b, and for what is new, the world is as it was. -/
structure Only (b : Nat) (w w' : World) : Prop where
  os : w'.os = w.os
  tape : w'.tape = w.tape
  output : w'.output = w.output
  size : w.heap.size ≤ w'.heap.size
  block : ∀ k, k < w.heap.size → k ≠ b → w'.heap[k]? = w.heap[k]?
theorem Only.refl (b : Nat) (w : World) : Only b w w := ⟨rfl, rfl, rfl, Nat.le_refl _, fun _ _ _ => rfl⟩
theorem Only.trans {b : Nat} {a w w' : World} (h : Only b a w) (k : Only b w w') : Only b a w' :=
  ⟨k.os.trans h.os, k.tape.trans h.tape, k.output.trans h.output, Nat.le_trans h.size k.size, fun i hi hn => (k.block i (Nat.lt_of_lt_of_le hi h.size) hn).trans (h.block i hi hn)⟩
theorem Only.of_below {b : Nat} {w w' : World} (h : Below w.heap.size w w') : Only b w w' := ⟨h.os, h.tape, h.output, h.size, fun k hk _ => h.block k hk⟩
theorem Only.below {B b : Nat} {w w' : World} (h : Only b w w') (hb : B ≤ b) (hB : B ≤ w.heap.size) : Below B w w' := ⟨h.os, h.tape, h.output, h.size, fun k hk => h.block k (by omega) (by omega)⟩
theorem Only.alloc {b : Nat} {a w : World} (h : Only b a w) (o : Obj) : Only b a (w.alloc o) :=
  ⟨h.os, h.tape, h.output, Nat.le_trans h.size (by simp), fun i hi hn => (Below.heap_alloc w o i (Nat.lt_of_lt_of_le hi h.size)).trans (h.block i hi hn)⟩
theorem Only.drewN {b : Nat} {a w : World} (h : Only b a w) (n : Nat) : Only b a (w.drewN n) := ⟨h.os, h.tape, h.output, h.size, h.block⟩
theorem Only.drew {b : Nat} {a w : World} (h : Only b a w) : Only b a w.drew := ⟨h.os, h.tape, h.output, h.size, h.block⟩
theorem Only.blk {b : Nat} {a w : World} (h : Only b a w) {c : Nat} (hc : c = b ∨ a.heap.size ≤ c) (o : Obj) : Only b a (blk w c o) :=
  ⟨h.os, h.tape, h.output, Nat.le_trans h.size (by simp [Proofs.Ytliblhfabnjpkaa.blk]), fun i hi hn => (blk_other i (by omega)).trans (h.block i hi hn)⟩
theorem Only.setCell {b : Nat} {a w : World} (h : Only b a w) {p : Addr} (hp : p.block = b ∨ a.heap.size ≤ p.block) (u : Value) : Only b a (w.setCell p u) :=
  ⟨h.os, h.tape, h.output, Nat.le_trans h.size (by simp [World.setCell]), fun i hi hn => (Below.heap_setCell w p u i (by omega)).trans (h.block i hi hn)⟩
theorem Only.cell {b : Nat} {w w' : World} (h : Only b w w') {p : Addr} (hp : p.block < w.heap.size) (hn : p.block ≠ b) : w'.cell? p = w.cell? p := World.cell?_of_block (w := w) (h.block p.block hp hn)
theorem below_new {w : World} (o : Obj) : Below w.heap.size w (w.alloc o) := alloc_below _ _ _ (Nat.le_refl _)
theorem below_alloc {W w : World} (h : Below W.heap.size W w) (o : Obj) : Below W.heap.size W (w.alloc o) := h.alloc h.size o
theorem below_blk' {W w : World} (h : Below W.heap.size W w) {b : Nat} (hb : W.heap.size ≤ b) (o : Obj) : Below W.heap.size W (blk w b o) := h.trans (below_blk hb)
theorem below_to {W w w' : World} (h : Below W.heap.size W w) (h' : Below w.heap.size w w') : Below W.heap.size W w' := h.trans (h'.mono h.size)

theorem still_tail {P : Program} {id : Nat} {Q : Exit → Act → World → Prop} {a : Act} {w : World} {l : List Oper} (n : Nat) (hm : P.follows .mixedOrders = true) (hB : Region.lexTailB .any l.toArray n = true)
    (h : wpStill P l.toArray w.drew (fun a' => wpList P l.toArray Q (l.drop n) a' w.drew) (l.take n) a) : (Code.region id l.toArray true).wp P Q a w := wp_region_still_tail n hm hB h

theorem rsame {P : Program} {f : FuncId} {args : Array Value} {w : World} {v : Value} (h : Calls P f args w fun e w' => e = .returned v ∧ w = w') :
   Calls P f args w fun e w' => e = .returned v ∧ w' = w := h.mono fun _ _ ⟨a, b⟩ => ⟨a, b.symm⟩

end Go.Proofs.Ytliblhfabnjpkaa

namespace Go.Proofs.Ytliblhfabnjpkaa
open Go Go.RowKit

/-- A world in which all that stood in w is as it was. -/
structure Later (w : World) where
  w' : World
  h : Below w.heap.size w w'

instance (w : World) : Nonempty (Later w) := ⟨⟨w, Below.refl _ _⟩⟩

variable {P : Program}
theorem wp_region_later {id : Nat} {Q : Exit → Act → World → Prop} {a : Act} {w : World} {l : List Oper} (hm : P.follows .mixedOrders = true) (hB : Region.lexB .any l.toArray = true)
    (h : wpQuiet P l.toArray (fun w' => ∃ x : Later w, w' = x.w') (fun a' => ∀ w', (∃ x : Later w, w' = x.w') → Q .normal a' w') l a) : (Code.region id l.toArray true).wp P Q a w :=
  wp_region_quiet (C := fun w' => ∃ x : Later w, w' = x.w') hm hB ⟨⟨w.drew, (Below.refl _ _).drew⟩, rfl⟩ (by simpa using h)
theorem calls_later {f : FuncId} {args : Array Value} {w : World} {x : Later w} {v : Value} (h : Calls P f args x.w' fun e w' => e = .returned v ∧ Below x.w'.heap.size x.w' w') :
    Calls P f args x.w' fun e w'' => e = .returned v ∧ ∃ y : Later w, w'' = y.w' :=
  h.mono fun _ _ ⟨he, hb⟩ => ⟨he, ⟨⟨_, below_to x.h hb⟩, rfl⟩⟩
theorem later_block {w : World} {b : Nat} {o : Obj} (h : w.heap[b]? = some o) (x : Later w) : x.w'.heap[b]? = some o := (x.h.block b (lt_blk h)).trans h
theorem later_cell {w : World} {p : Addr} {v : Value} (c : w.cell? p = some v) (x : Later w) : x.w'.cell? p = some v := (x.h.cell (p := p) (World.block_lt_of_cell? w p c)).trans c

theorem keepB {w w' : World} {b : Nat} {o : Obj} (hb : Below w.heap.size w w') (h : w.heap[b]? = some o) : w'.heap[b]? = some o := (hb.block b (lt_blk h)).trans h

/-- A load of a whole row. -/
theorem quiet_load {C : World → Prop} {K : Act → Prop} {a : Act} {o : Oper} (ty : TypeId) (x : Operand) (ho : o.op = .load ty x) {p : Value} (hp : a.eval x = p) {v : Value}
    (h : ∀ w, C w → (Instr.loadAt ty p).run P w = .ok v w) (hk : K (a.put o.dst v)) : o.quiet P a C K := by
  refine ⟨v, fun w hw => ?_, hk⟩
  unfold Oper.quietAt execOp
  simp only [ho, hp, Sem.run_bind, Sem.run_pure, Result.andThen_ok, h w hw]
  exact ⟨rfl, rfl⟩

end Go.Proofs.Ytliblhfabnjpkaa

namespace Go.Proofs.Ytliblhfabnjpkaa
open Go.RowKit

section
variable {P : Program} {w : World} {b : Nat} {cs c : Array Value} {T ty : TypeId} {fz : Nat × Nat} {d : TypeDesc}
theorem cells_range (h : w.heap[b]? = some (.cells cs T fz)) : w.rangeAt b 0 cs.toList := fun j v hv => by
  rw [Nat.zero_add, cell_at h]
  simpa using hv
theorem load_row (h : w.heap[b]? = some (.cells cs T fz)) (hu : P.underlying ty = some d) (hd : d.isRow = true) (hi : (P.info? ty).map (·.size) = some cs.size) :
    (Instr.loadAt ty (.pointer (some ⟨b, 0, none⟩))).run P w = .ok (.agg cs) w := by
  have := run_loadAt_mid (P := P) w b 0 ty cs.toList d (cells_range h) hu hd (by simpa using hi)
  simpa using this
theorem setCells_row (vs : List Value) : ∀ (w : World) (b : Nat) (pre old post : List Value) (T : TypeId) (fz : Nat × Nat), w.heap[b]? = some (.cells (pre ++ old ++ post).toArray T fz) → old.length = vs.length →
    w.setCells b pre.length vs = blk w b (.cells (pre ++ vs ++ post).toArray T fz) := by
  induction vs with
  | nil =>
    intro w b pre old post T fz h hl
    have : old = [] := List.length_eq_zero_iff.1 hl
    subst this
    exact (blk_self h).symm
  | cons v vs ih =>
    intro w b pre old post T fz h hl
    match old, hl with
    | o :: old, hl =>
      have h1 := at_setCell h pre.length v
      have e : ((pre ++ (o :: old) ++ post).toArray.setIfInBounds pre.length v) = ((pre ++ [v]) ++ old ++ post).toArray := by
        rw [List.setIfInBounds_toArray]; simp
      rw [e] at h1
      have h2 := ih (w.setCell ⟨b, pre.length, none⟩ v) b (pre ++ [v]) old post T fz h1 (by simpa using hl)
      rw [List.length_append, List.length_singleton] at h2
      rw [World.setCells, h2, setCell_blk h, blk_blk]
      simp
theorem row_there {n : Nat} (h : w.heap[b]? = some (.cells c T (0, 0))) (hn : n ≤ c.size) : w.there b 0 n := fun j hj => by
  rw [Nat.zero_add, cell_at h, free_at h]
  simp; omega
theorem store_row (h : w.heap[b]? = some (.cells c T (0, 0))) (hi : (P.info? ty).map (·.size) = some cs.size) (hc : c.size = cs.size) (h1 : cs.all (·.oneCell') = true) :
    (Instr.storeAt ty (.pointer (some ⟨b, 0, none⟩)) (.agg cs)).run P w = .ok () (blk w b (.cells cs T (0, 0))) := by
  rw [run_storeAt_mid (P := P) w b 0 ty cs (row_there h (by omega)) hi h1]
  have h2 := setCells_row cs.toList w b [] c.toList [] T (0, 0) (by simpa using h) (by simp [hc])
  simp only [List.length_nil, List.nil_append, List.append_nil] at h2
  rw [h2]
theorem later_row (h : w.heap[b]? = some (.cells cs T fz)) (hu : P.underlying ty = some d) (hd : d.isRow = true) (hi : (P.info? ty).map (·.size) = some cs.size) :
    ∀ w', (∃ x : Later w, w' = x.w') → (Instr.loadAt ty (.pointer (some ⟨b, 0, none⟩))).run P w' = .ok (.agg cs) w' := by
  rintro _ ⟨x, rfl⟩; exact load_row (later_block h x) hu hd hi
end
section
variable {P : Program} {ops : Array Oper} {rest : List Oper} {op : Oper} {a : Act} {w : World} {Q : Exit → Act → World → Prop}
theorem wp_load_row (hgd : op.guard = none) (ty : TypeId) (x : Operand) (ho : op.op = .load ty x) {b : Nat} (hx : a.eval x = .pointer (some ⟨b, 0, none⟩)) {cs : Array Value} {T : TypeId} {fz : Nat × Nat} {d : TypeDesc}
    (h : w.heap[b]? = some (.cells cs T fz)) (hu : P.underlying ty = some d) (hd : d.isRow = true) (hi : (P.info? ty).map (·.size) = some cs.size)
    (k : wpList P ops Q rest (a.put op.dst (.agg cs)) w) : wpList P ops Q (op :: rest) a w := by
  refine wpList_load_mid hgd ty x ho b 0 hx cs.toList d (cells_range h) hu hd (by simpa using hi) ?_
  simpa using k
theorem opwp_load_row {K : Act → World → Prop} (ty : TypeId) (x : Operand) (ho : op.op = .load ty x) {b : Nat} (hx : a.eval x = .pointer (some ⟨b, 0, none⟩)) {cs : Array Value} {T : TypeId} {fz : Nat × Nat} {d : TypeDesc}
    (h : w.heap[b]? = some (.cells cs T fz)) (hu : P.underlying ty = some d) (hd : d.isRow = true) (hi : (P.info? ty).map (·.size) = some cs.size)
    (k : K (a.put op.dst (.agg cs)) w) : op.wp P a w K Q := by
  refine wp_load_mid ty x ho b 0 hx cs.toList d (cells_range h) hu hd (by simpa using hi) ?_
  simpa using k
theorem wp_store_row (hgd : op.guard = none) (ty : TypeId) (x y : Operand) (ho : op.op = .store ty x y) {b : Nat} (hx : a.eval x = .pointer (some ⟨b, 0, none⟩)) {cs c : Array Value} {T : TypeId} (hy : a.eval y = .agg cs)
    (h : w.heap[b]? = some (.cells c T (0, 0))) (hi : (P.info? ty).map (·.size) = some cs.size) (hc : c.size = cs.size) (h1 : cs.all (·.oneCell') = true)
    (k : wpList P ops Q rest (a.put op.dst undef) (blk w b (.cells cs T (0, 0)))) : wpList P ops Q (op :: rest) a w := by
  refine wpList_store_mid hgd ty x y ho b 0 cs hx hy (row_there h (by omega)) hi h1 ?_
  have h2 := setCells_row cs.toList w b [] c.toList [] T (0, 0) (by simpa using h) (by simp [hc])
  simp only [List.length_nil, List.nil_append, List.append_nil] at h2
  rw [h2]
  exact k
end
section
variable {P : Program} {ops : Array Oper} {rest : List Oper} {op : Oper} {a : Act} {w : World} {Q : Exit → Act → World → Prop}
theorem wp_build (hgd : op.guard = none) (t : TypeId) (parts : Array (Nat × Operand)) (ho : op.op = .build t parts) (cells : Array Value) (h : P.built t (parts.map fun (i, x) => (i, a.eval x)).toList = some cells)
    (k : wpList P ops Q rest (a.put op.dst (.agg cells)) w) : wpList P ops Q (op :: rest) a w :=
  wpList_plain hgd fun _ hK => by
    unfold Oper.wp execOp
    simp only [ho, Sem.run_bind, Sem.run_pure, Result.andThen_ok, run_build w t _ cells h]
    exact hK _ _ k
end
/-- A whole row into the block that was made last. -/
theorem store_cells_new {P : Program} (w : World) (t : TypeId) (c c' : Array Value) (hi : (P.info? t).map (·.size) = some c'.size) (ho : c.size = c'.size) (h1 : c'.all (·.oneCell') = true) :
    (storeCells ⟨w.heap.size, 0, none⟩ c'.toList).run P (w.alloc (.cells c t)) = .ok () (w.alloc (.cells c' t)) := run_storeCells_new w t c c' hi ho h1

end Go.Proofs.Ytliblhfabnjpkaa

namespace Go.Proofs.Ytliblhfabnjpkaa
open Go Go.RowKit

/-- What a block holds. -/
def hget (w : World) (b : Nat) : Option Obj := w.heap[b]?
theorem hget_eq (w : World) (b : Nat) : hget w b = w.heap[b]? := rfl
/-- Is each of them one cell? -/
def ones (c : Array Value) : Bool := c.toList.all (·.oneCell')
@[go_sem] theorem ones_list (l : List Value) : ones l.toArray = l.all (·.oneCell') := rfl
@[go_sem] theorem one_int (k : IntKind) (i : Int) : (Value.int k i).oneCell' = true := rfl
@[go_sem] theorem one_bool (i : Bool) : (Value.bool i).oneCell' = true := rfl
@[go_sem] theorem one_string (i : ByteArray) : (Value.string i).oneCell' = true := rfl
theorem ones_all {c : Array Value} (h : ones c = true) : c.all (·.oneCell') = true := by
  unfold ones at h
  simpa [Array.all_toList] using h
/-- A load of a whole value, under a name of its own. -/
def loadRow (t : TypeId) (p : Value) : Sem Value := Instr.loadAt t p
def storeRow (t : TypeId) (p v : Value) : Sem Unit := Instr.storeAt t p v
def stuckL (P : Program) (t : TypeId) (b : Nat) (w : World) : Result Value := (loadRow t (.pointer (some ⟨b, 0, none⟩))).run P w
def stuckS (P : Program) (t : TypeId) (b : Nat) (v : Value) (w : World) : Result Unit := (storeRow t (.pointer (some ⟨b, 0, none⟩)) v).run P w
section
variable {P : Program} {w : World} {b n : Nat} {t : TypeId} {d : TypeDesc}
theorem loadRow_run (hu : P.underlying t = some d) (hd : d.isRow = true) (hi : (P.info? t).map (·.size) = some n) (b : Nat) (w : World) :
    (loadRow t (.pointer (some ⟨b, 0, none⟩))).run P w = match hget w b with | some (.cells c _ _) => if c.size = n then .ok (.agg c) w else stuckL P t b w | _ => stuckL P t b w := by
  split
  · rename_i c T fz h
    split
    · rename_i hs; exact load_row h hu hd (by rw [hi, hs])
    · rfl
  · rfl
theorem storeRow_run (hi : (P.info? t).map (·.size) = some n) (b : Nat) (c' : Array Value) (w : World) :
    (storeRow t (.pointer (some ⟨b, 0, none⟩)) (.agg c')).run P w = match hget w b with | some (.cells c T (0, 0)) => if c.size = n then (if c'.size = n then (if ones c' = true then .ok () (blk w b (.cells c' T (0, 0))) else stuckS P t b (.agg c') w) else stuckS P t b (.agg c') w) else stuckS P t b (.agg c') w | _ => stuckS P t b (.agg c') w := by
  split
  · rename_i c T h
    split
    · rename_i hs
      split
      · rename_i hs'
        split
        · rename_i h1; exact store_row h (by rw [hi, hs']) (by rw [hs, hs']) (ones_all h1)
        · rfl
      · rfl
    · rfl
  · rfl
end
theorem results_cell_tmp {P : Program} {fn : Func} {p u : Tmp} {ty : TypeId} (h : fn.results = #[.cell p ty, .tmp u]) (tmps : Array Value) (w : World) (g : Nat) (t : TypeId) (cs : Array Value) (fr : Nat × Nat) (d : TypeDesc) (v : Value)
    (hp : tmps.getD p undef = .pointer (some ⟨g, 0, none⟩)) (hv : tmps.getD u undef = v) (hg : w.heap[g]? = some (.cells cs t fr))
    (hu : P.underlying ty = some d) (hd : (match d with | .struct _ | .array _ _ => true | _ => false) = true) (hi : (P.info? ty).map (·.size) = some cs.size) :
    (results fn tmps).run P w = .ok (.tuple #[.agg cs, v]) w := by
  have hp' : tmps[p]?.getD undef = .pointer (some ⟨g, 0, none⟩) := by simpa using hp
  have hv' : tmps[u]?.getD undef = v := by simpa using hv
  simp [results, h, hp', hv', asAddr, run_loadVar_row w g t ty cs fr d hg hu hd hi]
section
variable {w w' : World} {b k : Nat} {o o' : Obj}
@[go_sem] theorem hget_drew (w : World) (b : Nat) : hget w.drew b = hget w b := rfl
@[go_sem] theorem hget_drewN (w : World) (n b : Nat) : hget (w.drewN n) b = hget w b := rfl
@[go_sem] theorem hget_alloc (w : World) (o : Obj) (b : Nat) : hget (w.alloc o) b = if b = w.heap.size then some o else hget w b := by
  show (w.heap.push o)[b]? = _
  rw [Array.getElem?_push]; rfl
@[go_sem] theorem hget_blk (w : World) (b k : Nat) (o : Obj) : hget (blk w b o) k = if k = b then (if b < w.heap.size then some o else none) else hget w k := by
  unfold blk hget
  simp only [Array.getElem?_setIfInBounds]
  split
  · rename_i h; subst h; simp
  · rename_i h; rw [if_neg (Ne.symm h)]
@[go_sem] theorem blk_size' (w : World) (b : Nat) (o : Obj) : (blk w b o).heap.size = w.heap.size := blk_size
@[go_sem] theorem blk_cell_other (w : World) (b b' j : Nat) (o : Obj) (h : (b' = b) = False) : (blk w b o).cell? ⟨b', j, none⟩ = w.cell? ⟨b', j, none⟩ := by
  have hn : b' ≠ b := fun e => by rw [e] at h; simp at h
  exact World.cell?_of_block (blk_other (w := w) (b := b) (o := o) b' hn)
@[go_sem] theorem blk_alloc_new (w : World) (o o' : Obj) : blk (w.alloc o) w.heap.size o' = w.alloc o' := by
  unfold blk World.alloc
  congr 1
  apply Array.ext
  · simp
  · intro i h1 h2
    simp only [Array.size_setIfInBounds, Array.size_push] at h1
    rw [Array.getElem_setIfInBounds (by simpa using h1)]
    rcases Nat.lt_or_ge i w.heap.size with h | h
    · rw [if_neg (by omega), Array.getElem_push_lt h, Array.getElem_push_lt h]
    · have : i = w.heap.size := by omega
      subst this
      simp
@[go_sem] theorem ne_s2 (n : Nat) : (n = n + 1 + 1) = False := by simp; omega
@[go_sem] theorem ne_t2 (n : Nat) : (n + 1 + 1 = n) = False := by simp; omega
@[go_sem] theorem ne_s3 (n : Nat) : (n = n + 1 + 1 + 1) = False := by simp; omega
@[go_sem] theorem ne_t3 (n : Nat) : (n + 1 + 1 + 1 = n) = False := by simp; omega
@[go_sem] theorem ne_s4 (n : Nat) : (n = n + 1 + 1 + 1 + 1) = False := by simp; omega
@[go_sem] theorem ne_t4 (n : Nat) : (n + 1 + 1 + 1 + 1 = n) = False := by simp; omega
@[go_sem] theorem ne_s5 (n : Nat) : (n = n + 1 + 1 + 1 + 1 + 1) = False := by simp; omega
@[go_sem] theorem ne_t5 (n : Nat) : (n + 1 + 1 + 1 + 1 + 1 = n) = False := by simp; omega
@[go_sem] theorem ne_s6 (n : Nat) : (n = n + 1 + 1 + 1 + 1 + 1 + 1) = False := by simp; omega
@[go_sem] theorem ne_t6 (n : Nat) : (n + 1 + 1 + 1 + 1 + 1 + 1 = n) = False := by simp; omega
@[go_sem] theorem ne_s7 (n : Nat) : (n = n + 1 + 1 + 1 + 1 + 1 + 1 + 1) = False := by simp; omega
@[go_sem] theorem ne_t7 (n : Nat) : (n + 1 + 1 + 1 + 1 + 1 + 1 + 1 = n) = False := by simp; omega
@[go_sem] theorem ne_s8 (n : Nat) : (n = n + 1 + 1 + 1 + 1 + 1 + 1 + 1 + 1) = False := by simp; omega
@[go_sem] theorem ne_t8 (n : Nat) : (n + 1 + 1 + 1 + 1 + 1 + 1 + 1 + 1 = n) = False := by simp; omega
theorem hget_lt (h : hget w b = some o) : b < w.heap.size := lt_blk h
theorem hget_hid (h : Hid (hget w b = some o)) : w.heap[b]? = some o := h.out
/-- Behind a call: what stood, stands; it is not what is made next. -/
structure Kept (w : World) (b : Nat) (o : Obj) : Prop where
  get : hget w b = some o
  lt : b < w.heap.size
  ne : (b = w.heap.size) = False
  ne' : (w.heap.size = b) = False
theorem kept (h : hget w b = some o) : Kept w b o := by
  have := hget_lt h
  exact ⟨h, this, by simp; omega, by simp; omega⟩
theorem Kept.on (h : Kept w b o) (hb : Below w.heap.size w w') : Kept w' b o := kept ((hb.block b h.lt).trans h.get)
theorem Kept.later (h : Kept w b o) (x : Later w) : hget x.w' b = some o := later_block h.get x
end
end Go.Proofs.Ytliblhfabnjpkaa

namespace Go.Proofs.Ytliblhfabnjpkaa
open Go Go.RowKit

structure But (L : List Nat) (w w' : World) : Prop where
  os : w'.os = w.os
  tape : w'.tape = w.tape
  output : w'.output = w.output
  size : w.heap.size ≤ w'.heap.size
  block : ∀ k, k < w.heap.size → k ∉ L → w'.heap[k]? = w.heap[k]?
theorem But.refl (L : List Nat) (w : World) : But L w w := ⟨rfl, rfl, rfl, Nat.le_refl _, fun _ _ _ => rfl⟩
theorem But.trans {L : List Nat} {a w w' : World} (h : But L a w) (k : But L w w') : But L a w' :=
  ⟨k.os.trans h.os, k.tape.trans h.tape, k.output.trans h.output, Nat.le_trans h.size k.size, fun i hi hn => (k.block i (Nat.lt_of_lt_of_le hi h.size) hn).trans (h.block i hi hn)⟩
theorem But.of_below {L : List Nat} {w w' : World} (h : Below w.heap.size w w') : But L w w' := ⟨h.os, h.tape, h.output, h.size, fun k hk _ => h.block k hk⟩
theorem But.of_only {L : List Nat} {b : Nat} {w w' : World} (h : Only b w w') (hb : b ∈ L) : But L w w' := ⟨h.os, h.tape, h.output, h.size, fun k hk hn => h.block k hk (fun e => hn (e ▸ hb))⟩
theorem But.alloc {L : List Nat} {a w : World} (h : But L a w) (o : Obj) : But L a (w.alloc o) :=
  ⟨h.os, h.tape, h.output, Nat.le_trans h.size (by simp), fun i hi hn => (Below.heap_alloc w o i (Nat.lt_of_lt_of_le hi h.size)).trans (h.block i hi hn)⟩
theorem But.drew {L : List Nat} {a w : World} (h : But L a w) : But L a w.drew := ⟨h.os, h.tape, h.output, h.size, h.block⟩
theorem But.drewN {L : List Nat} {a w : World} (h : But L a w) (n : Nat) : But L a (w.drewN n) := ⟨h.os, h.tape, h.output, h.size, h.block⟩
theorem But.blk {L : List Nat} {a w : World} (h : But L a w) {c : Nat} (hc : c ∈ L ∨ a.heap.size ≤ c) (o : Obj) : But L a (blk w c o) :=
  ⟨h.os, h.tape, h.output, Nat.le_trans h.size (by simp [Proofs.Ytliblhfabnjpkaa.blk]), fun i hi hn => (blk_other i (by rintro rfl; rcases hc with hc | hc; exact hn hc; omega)).trans (h.block i hi hn)⟩
theorem But.setCell {L : List Nat} {a w : World} (h : But L a w) {p : Addr} (hp : p.block ∈ L ∨ a.heap.size ≤ p.block) (u : Value) : But L a (w.setCell p u) :=
  ⟨h.os, h.tape, h.output, Nat.le_trans h.size (by simp [World.setCell]), fun i hi hn => (Below.heap_setCell w p u i (by rintro rfl; rcases hp with hp | hp; exact hn hp; omega)).trans (h.block i hi hn)⟩
theorem But.below {L : List Nat} {B : Nat} {w w' : World} (h : But L w w') (hb : ∀ b ∈ L, B ≤ b) (hB : B ≤ w.heap.size) : Below B w w' :=
  ⟨h.os, h.tape, h.output, h.size, fun k hk => h.block k (by omega) (fun hm => by have := hb k hm; omega)⟩
theorem But.keep {L : List Nat} {w w' : World} {b : Nat} {o : Obj} (h : But L w w') (hb : w.heap[b]? = some o) (hn : b ∉ L) : w'.heap[b]? = some o := (h.block b (lt_blk hb) hn).trans hb
theorem But.cell {L : List Nat} {w w' : World} {p : Addr} {v : Value} (h : But L w w') (hc : w.cell? p = some v) (hn : p.block ∉ L) : w'.cell? p = some v :=
  (World.cell?_of_block (w := w) (h.block p.block (World.block_lt_of_cell? w p hc) hn)).trans hc

end Go.Proofs.Ytliblhfabnjpkaa

namespace Go.Proofs.Ytliblhfabnjpkaa
open Go.RowKit

theorem info_u8 : (Try.prog.info? 5).map (fun i => (i.zero, i.size, i.bytes)) = some (some (.int .u8 0), 1, 1) := by kernel_rfl

/-- Bytes as values. -/
def u8s (l : List UInt8) : List Value := l.map fun c => Value.int .u8 (c.toNat : Int)

set_option maxRecDepth 100000 in
theorem conv_string (w : World) (b off len cap : Nat) (l : List UInt8) (hl : l.length = len) (hc : ∀ j, j < len → w.cell? ⟨b, off + j, none⟩ = some (.int .u8 ((l.getD j 0).toNat : Int))) :
    (convert 30 9 (.slice (some ⟨b, off, none⟩) len cap)).run Try.prog w = .ok (.string ⟨l.toArray⟩) w := by
  have h := run_convert_bytes_arg (P := Try.prog) w 30 5 Try.underlying30 Try.underlying5 b off len cap (l.map fun c => (c.toNat : Int)) (by simpa using hl) (fun i hi => by
    rw [hc i hi]; simp [hl, hi]) 9 Try.underlying9
  rw [h]
  congr 2
  unfold strOfNums
  congr 1
  rw [List.map_map]
  congr 1
  conv => rhs; rw [← List.map_id l]
  exact List.map_congr_left fun c _ => by simp

theorem block_le {w : World} {base : Nat} {e : TypeId} {size : Nat} {v : Value} {n : Nat} {xs : List Value} (h : w.ownsRow base e size v n xs) {g : Nat} (hg : v.ownBlock = some g) : base ≤ g := by
  obtain ⟨_, h2⟩ := h
  rcases h2 with ⟨rfl, _⟩ | ⟨g', cap, cur, rfl, hb, _⟩
  · simp [Value.ownBlock] at hg
  · simp [Value.ownBlock] at hg; omega

@[go_sem] theorem conv_bytes (s : ByteArray) (w : World) : (convert 9 30 (.string s)).run Try.prog w = .ok (.slice (some ⟨w.heap.size, 0, none⟩) s.size (grownCap w s.size 0 5)) (Lib.bytesWorld w 5 s) :=
  Lib.run_convert_string_bytes w 9 30 5 s Try.underlying9 Try.underlying30 Try.underlying5
theorem bytesWorld_below (w : World) (e : TypeId) (s : ByteArray) : Below w.heap.size w (Lib.bytesWorld w e s) :=
  ⟨rfl, rfl, rfl, by rw [Lib.bytesWorld_size]; omega, fun k hk => Lib.bytesWorld_at_old w e s k hk⟩
/-- What is known of the bytes that are laid. -/
structure Laid (w : World) (b : Nat) (l : List UInt8) : Prop where
  ex : ∃ C T n, w.heap[b]? = some (.cells C T (n, n + 1)) ∧ l.length ≤ n ∧ ∀ j, j < l.length → C[j]? = some (.int .u8 ((l.getD j 0).toNat : Int))
theorem laid_bytes (w : World) (s : ByteArray) : Laid (Lib.bytesWorld w 5 s) w.heap.size s.data.toList := by
  refine ⟨⟨_, _, _, Lib.bytesWorld_at_new w 5 s, ?_, fun j hj => ?_⟩⟩
  · simp [Lib.bytesCells]
  · have := Lib.bytesWorld_cell w 5 s j (by simpa using hj)
    rwa [cell_at (Lib.bytesWorld_at_new w 5 s)] at this
theorem Laid.cell {w : World} {b : Nat} {l : List UInt8} (h : Laid w b l) {j : Nat} (hj : j < l.length) : w.cell? ⟨b, j, none⟩ = some (.int .u8 ((l.getD j 0).toNat : Int)) := by
  obtain ⟨C, T, n, h1, _, h3⟩ := h.ex
  rw [cell_at h1, h3 j hj]
theorem Laid.free {w : World} {b : Nat} {l : List UInt8} (h : Laid w b l) {j : Nat} (hj : j < l.length) : w.frozen? ⟨b, j, none⟩ = false := by
  obtain ⟨C, T, n, h1, h2, h3⟩ := h.ex
  simp [World.frozen?, h1]; omega
theorem Laid.set {w : World} {b : Nat} {l : List UInt8} (h : Laid w b l) (j : Nat) (x : UInt8) : Laid (w.setCell ⟨b, j, none⟩ (.int .u8 (x.toNat : Int))) b (l.set j x) := by
  obtain ⟨C, T, n, h1, h2, h3⟩ := h.ex
  refine ⟨⟨_, _, _, at_setCell h1 _ _, by simpa using h2, fun i hi => ?_⟩⟩
  rw [List.length_set] at hi
  rw [Array.getElem?_setIfInBounds]
  by_cases hij : j = i
  · subst hij
    have hlt : j < C.size := by
      have := h3 j hi
      rcases Nat.lt_or_ge j C.size with h' | h'
      · exact h'
      · simp [Array.getElem?_eq_none h'] at this
    simp [hlt, hi]
  · rw [if_neg hij, h3 i hi]; simp [hij]

theorem u8s_append (l m : List UInt8) : u8s (l ++ m) = u8s l ++ u8s m := by simp [u8s]
theorem u8s_length (l : List UInt8) : (u8s l).length = l.length := by simp [u8s]
/-- The cells of a row that is appended to. -/
theorem owns_cell {w : World} {base : Nat} {v : Value} {n : Nat} {l : List UInt8} (h : w.ownsRow base 5 1 v n (u8s l)) (hn : n = l.length) (h0 : 0 < n) :
    ∃ g cap, v = .slice (some ⟨g, 0, none⟩) n cap ∧ base ≤ g ∧ n ≤ cap ∧ (∀ j, j < n → w.cell? ⟨g, j, none⟩ = some (.int .u8 ((l.getD j 0).toNat : Int))) := by
  obtain ⟨_, h2⟩ := h
  rcases h2 with ⟨_, h0'⟩ | ⟨g, cap, cur, rfl, hg, hc, hle, _, hsz, hxs⟩
  · omega
  refine ⟨g, cap, rfl, hg, hle, fun j hj => ?_⟩
  rw [cell_at hc]
  have h3 : cur.toList[j]? = (u8s l)[j]? := by
    have h4 : (cur.toList.take (n * 1))[j]? = cur.toList[j]? := by rw [List.getElem?_take, if_pos (by omega)]
    rw [← h4, hxs]
  rw [← Array.getElem?_toList, h3]
  unfold u8s
  have hjl : j < l.length := by omega
  simp [hjl]

end Go.Proofs.Ytliblhfabnjpkaa

namespace Go.Proofs.Ytliblhfabnjpkaa
open Go Go.RowKit

/-- But for the blocks that ex names, and for new ones, the world is as it was. -/
structure Out (ex : Nat → Prop) (w w' : World) : Prop where
  os : w'.os = w.os
  tape : w'.tape = w.tape
  output : w'.output = w.output
  size : w.heap.size ≤ w'.heap.size
  block : ∀ k, k < w.heap.size → ¬ ex k → w'.heap[k]? = w.heap[k]?
section
variable {ex ex' : Nat → Prop} {a b c w w' : World}
theorem Out.refl (ex : Nat → Prop) (w : World) : Out ex w w := ⟨rfl, rfl, rfl, Nat.le_refl _, fun _ _ _ => rfl⟩
theorem Out.trans (h : Out ex a b) (k : Out ex' b c) (he : ∀ j, j < a.heap.size → ex' j → ex j) : Out ex a c :=
  ⟨k.os.trans h.os, k.tape.trans h.tape, k.output.trans h.output, Nat.le_trans h.size k.size, fun i hi hn => (k.block i (Nat.lt_of_lt_of_le hi h.size) (fun e => hn (he i hi e))).trans (h.block i hi hn)⟩
theorem Out.then (h : Out ex a b) (k : Out ex b c) : Out ex a c := h.trans k fun _ _ e => e
theorem Out.mono (h : Out ex a b) (he : ∀ j, j < a.heap.size → ex j → ex' j) : Out ex' a b := ⟨h.os, h.tape, h.output, h.size, fun i hi hn => h.block i hi fun e => hn (he i hi e)⟩
theorem Out.of_below (h : Below w.heap.size w w') : Out ex w w' := ⟨h.os, h.tape, h.output, h.size, fun k hk _ => h.block k hk⟩
theorem Out.below {B : Nat} (h : Out ex w w') (he : ∀ k, ex k → B ≤ k) (hB : B ≤ w.heap.size) : Below B w w' := ⟨h.os, h.tape, h.output, h.size, fun k hk => h.block k (by omega) (fun e => by have := he k e; omega)⟩
theorem Out.of_grown {row : Option Nat} (h : w.grownBy w' row) (he : ∀ k, row = some k → ex k) : Out ex w w' := ⟨h.os, h.tape, h.output, h.size, fun k hk hn => h.block k hk (fun e => hn (he k e.symm))⟩
theorem Out.of_dr (h : Dr w w') : Out ex w w' := by obtain ⟨n, rfl⟩ := h; exact ⟨rfl, rfl, rfl, Nat.le_refl _, fun _ _ _ => rfl⟩
theorem Out.drew (h : Out ex a w) : Out ex a w.drew := ⟨h.os, h.tape, h.output, h.size, h.block⟩
theorem Out.drewN (h : Out ex a w) (n : Nat) : Out ex a (w.drewN n) := ⟨h.os, h.tape, h.output, h.size, h.block⟩
theorem Out.alloc (h : Out ex a w) (o : Obj) : Out ex a (w.alloc o) := h.then ⟨rfl, rfl, rfl, by simp, fun i hi _ => Below.heap_alloc w o i hi⟩
theorem Out.setCell (h : Out ex a w) {p : Addr} (hp : ex p.block ∨ a.heap.size ≤ p.block) (u : Value) : Out ex a (w.setCell p u) :=
  ⟨h.os, h.tape, h.output, Nat.le_trans h.size (by simp [World.setCell]), fun i hi hn => (Below.heap_setCell w p u i (fun e => by subst e; rcases hp with hp | hp; exact hn hp; omega)).trans (h.block i hi hn)⟩
theorem Out.blk (h : Out ex a w) {b : Nat} (hb : ex b ∨ a.heap.size ≤ b) (o : Obj) : Out ex a (blk w b o) :=
  ⟨h.os, h.tape, h.output, Nat.le_trans h.size (by simp [Proofs.Ytliblhfabnjpkaa.blk]), fun i hi hn => (blk_other i (fun e => by subst e; rcases hb with hb | hb; exact hn hb; omega)).trans (h.block i hi hn)⟩
theorem Out.get (h : Out ex w w') {b : Nat} {o : Obj} (g : hget w b = some o) (hn : ¬ ex b) : hget w' b = some o := (h.block b (hget_lt g) hn).trans g
theorem Out.cell (h : Out ex w w') {p : Addr} {v : Value} (g : w.cell? p = some v) (hn : ¬ ex p.block) : w'.cell? p = some v :=
  (World.cell?_of_block (h.block p.block (World.block_lt_of_cell? w p g) hn)).trans g
end
theorem hget_setCell {w : World} {b : Nat} {c : Array Value} {T : TypeId} {fz : Nat × Nat} (h : hget w b = some (.cells c T fz)) (k : Nat) (v : Value) : hget (w.setCell ⟨b, k, none⟩ v) b = some (.cells (c.setIfInBounds k v) T fz) := at_setCell h k v
theorem hget_setCell_ne {w : World} {b : Nat} {o : Obj} (h : hget w b = some o) {p : Addr} (hp : b ≠ p.block) (v : Value) : hget (w.setCell p v) b = some o := at_setCell_other h hp v
theorem hget_grown {w w' : World} {b : Nat} {o : Obj} {row : Option Nat} (h : hget w b = some o) (hg : w.grownBy w' row) (hn : some b ≠ row) : hget w' b = some o := (hg.block b (hget_lt h) hn).trans h

/-- A slice of bytes that an object has for itself: what it holds. -/
def OwnsQ (w : World) (v : Value) (l : List UInt8) : Prop :=
  (v = .slice none 0 0 ∧ l = []) ∨
  ∃ g cap cur, v = .slice (some ⟨g, 0, none⟩) l.length cap ∧ hget w g = some (.cells cur 5 (0, 0)) ∧ l.length ≤ cap ∧ cap ≤ cur.size ∧ cur.size ≤ maxLen ∧ cur.toList.take l.length = u8s l
theorem OwnsQ.nil (w : World) : OwnsQ w (.slice none 0 0) [] := .inl ⟨rfl, rfl⟩
theorem OwnsQ.keep {w w' : World} {v : Value} {l : List UInt8} (h : OwnsQ w v l) (hk : ∀ g o, v.ownBlock = some g → hget w g = some o → hget w' g = some o) : OwnsQ w' v l := by
  rcases h with h | ⟨g, cap, cur, rfl, h2, h3⟩
  · exact .inl h
  · exact .inr ⟨g, cap, cur, rfl, hk g _ rfl h2, h3⟩
theorem OwnsQ.lt {w : World} {v : Value} {l : List UInt8} (h : OwnsQ w v l) {g : Nat} (hg : v.ownBlock = some g) : g < w.heap.size := by
  rcases h with ⟨rfl, _⟩ | ⟨g', cap, cur, rfl, h2, _⟩
  · simp [Value.ownBlock] at hg
  · simp [Value.ownBlock] at hg; subst hg; exact hget_lt h2
theorem OwnsQ.shape {w : World} {v : Value} {l : List UInt8} (h : OwnsQ w v l) : ∃ a cap, v = .slice a l.length cap ∧ l.length ≤ cap ∧ (a = none → cap = 0) ∧ cap ≤ maxLen ∧
    (∀ j, j < l.length → ∃ g, a = some ⟨g, 0, none⟩ ∧ w.cell? ⟨g, j, none⟩ = some (.int .u8 ((l.getD j 0).toNat : Int))) := by
  rcases h with ⟨rfl, rfl⟩ | ⟨g, cap, cur, rfl, h2, h3, h4, h5, h6⟩
  · exact ⟨none, 0, rfl, Nat.le_refl _, fun _ => rfl, by unfold maxLen; omega, fun j hj => by simp at hj⟩
  · refine ⟨_, _, rfl, h3, (fun e => by cases e), Nat.le_trans h4 h5, fun j hj => ⟨g, rfl, ?_⟩⟩
    rw [cell_at h2]
    have h3 : cur.toList[j]? = (u8s l)[j]? := by
      have h4 : (cur.toList.take l.length)[j]? = cur.toList[j]? := by rw [List.getElem?_take, if_pos hj]
      rw [← h4, h6]
    rw [← Array.getElem?_toList, h3]
    unfold u8s
    simp [hj]

section
variable {P : Program}
theorem run_append_Q (w : World) (t tx ty : TypeId) (i : TypeInfo) (ht : P.underlying t = some (.slice 5)) (hi : P.info? 5 = some i) (hz : i.zero = some (.int .u8 0)) (hs1 : i.size = 1) (hb1 : i.bytes = 1)
    (v x : Value) (l m : List UInt8) (h : OwnsQ w v l) (hs : Src P 1 tx x m.length (u8s m) w) (hm : 0 < m.length) (hlen : l.length + m.length ≤ 140737488355328) :
    ∃ v' w', (Builtin.append_ #[t, tx] ty #[v, x]).run P w = .ok v' w' ∧ OwnsQ w' v' (l ++ m) ∧ w.grownBy w' v.ownBlock ∧ (v'.ownBlock = v.ownBlock ∨ v'.ownBlock = some w.heap.size) := by
  have grow : ∀ (b : Option Addr) (n cap : Nat), n = l.length → cap < n + m.length → (Builtin.firstCells i.size n (.slice b n cap)).run P w.drew = .ok (u8s l).toArray w.drew → v = .slice b n cap →
      ∃ v' w', (Builtin.append_ #[t, tx] ty #[v, x]).run P w = .ok v' w' ∧ OwnsQ w' v' (l ++ m) ∧ w.grownBy w' v.ownBlock ∧ (v'.ownBlock = v.ownBlock ∨ v'.ownBlock = some w.heap.size) := by
    intro b n cap hn hc hf hv
    have hr := run_append_grow_src (P := P) w t tx ty 5 i (.int .u8 0) ht hi hz b n cap (u8s l) hf x m.length (u8s m) (by rw [hs1]; exact hs) hc (by omega) (by
      rw [hb1, Nat.mul_one]
      have := nextslicecap_le hc
      omega)
    rw [hv]
    have hge := grownCap_ge w (n + m.length) cap 5
    have hle := grownCap_le_maxLen w (n + m.length) cap 5 (by unfold maxLen; omega)
    have e1 : (Value.int IntKind.u8 0).cells.size = 1 := rfl
    refine ⟨_, _, hr, .inr ⟨w.heap.size, grownCap w (n + m.length) cap 5, _, by rw [List.length_append, hn], heap_alloc_new w.drew _, ?_, ?_, ?_, ?_⟩, ⟨rfl, rfl, rfl, by simp, fun k hk _ => heap_alloc_old w.drew _ hk⟩, .inr rfl⟩
    · rw [List.length_append]; omega
    · simp only [Array.size_append, List.size_toArray, List.length_append, u8s_length, size_zeroCells]
      rw [e1]; omega
    · simp only [Array.size_append, List.size_toArray, List.length_append, u8s_length, size_zeroCells]
      rw [e1]; omega
    · rw [Array.toList_append, List.take_append_of_le_length (by simp [u8s_length]), List.take_of_length_le (by simp [u8s_length]), u8s_append]
  rcases h with ⟨rfl, rfl⟩ | ⟨g, cap, cur, rfl, hc, hle, hmx, hsz, hxs⟩
  · exact grow none 0 0 rfl (by omega) (by rw [hs1]; exact run_firstCells_none w.drew 1 0 0 0) rfl
  · by_cases hroom : l.length + m.length ≤ cap
    · have hcell : ∀ j, j < cap → (w.cell? ⟨g, j, none⟩).isSome = true := fun j hj => by rw [cell_at hc]; simp; omega
      have hr := run_append_room_src (P := P) w t tx ty 5 i ht hi g 0 l.length cap x m.length (u8s m) (by rw [hs1]; exact hs) hroom (fun j hj => by rw [hs1, Nat.zero_add, Nat.mul_one]; exact hcell _ (by rw [u8s_length] at hj; omega))
        (fun j hj => by rw [hs1, Nat.zero_add, Nat.mul_one]; exact free_at hc _)
      rw [hs1, Nat.zero_add, Nat.mul_one] at hr
      have hcur : cur = (u8s l ++ (cur.toList.drop l.length).take m.length ++ cur.toList.drop (l.length + m.length)).toArray := by
        apply Array.ext'
        simp only []
        rw [← hxs, ← List.drop_drop, List.append_assoc, List.take_append_drop, List.take_append_drop]
      have hset := setCells_row (u8s m) w g (u8s l) ((cur.toList.drop l.length).take m.length) (cur.toList.drop (l.length + m.length)) 5 (0, 0) (by rw [← hcur]; exact hc) (by rw [List.length_take, List.length_drop, u8s_length]; simp; omega)
      rw [u8s_length] at hset
      rw [hset] at hr
      have hnew := blk_heap (o := .cells (u8s l ++ u8s m ++ cur.toList.drop (l.length + m.length)).toArray 5 (0, 0)) (lt_blk hc)
      refine ⟨_, _, hr, .inr ⟨g, cap, _, by rw [List.length_append], hnew, by rw [List.length_append]; exact hroom, ?_, ?_, ?_⟩, ⟨rfl, rfl, rfl, by simp [blk], fun k hk hn => blk_other k (by rintro rfl; exact hn rfl)⟩, .inl rfl⟩
      · simp only [List.size_toArray, List.length_append, u8s_length, List.length_drop, Array.length_toList]; omega
      · simp only [List.size_toArray, List.length_append, u8s_length, List.length_drop, Array.length_toList]; omega
      · rw [List.length_append]
        rw [List.take_append_of_le_length (by simp [u8s_length]), List.take_of_length_le (by simp [u8s_length]), u8s_append]
    · refine grow (some ⟨g, 0, none⟩) l.length cap rfl (by omega) ?_ rfl
      have := run_firstCells_some (P := P) w.drew i.size l.length ⟨g, 0, none⟩ l.length cap (u8s l) (by rw [hs1, u8s_length, Nat.mul_one]) (fun j u hu => by
        rw [Addr.add_mid, Nat.zero_add]
        show w.cell? _ = _
        rw [cell_at hc, ← Array.getElem?_toList]
        have hj : j < l.length := by have := (List.getElem?_eq_some_iff.1 hu).1; rwa [u8s_length] at this
        have h4 : (cur.toList.take l.length)[j]? = cur.toList[j]? := by rw [List.getElem?_take, if_pos hj]
        rw [← h4, hxs, hu])
      exact this
theorem wpList_append_Q {ops : Array Oper} {rest : List Oper} {o : Oper} {a : Act} {w : World} {Q : Exit → Act → World → Prop} (hgd : o.guard = none) (s x : Operand) (t tx : TypeId)
    (ho : o.op = .call { callee := .builtin .append, args := #[s, x], argTypes := #[t, tx] }) (i : TypeInfo) (ht : P.underlying t = some (.slice 5)) (hi : P.info? 5 = some i) (hz : i.zero = some (.int .u8 0)) (hs1 : i.size = 1) (hb1 : i.bytes = 1)
    (v y : Value) (hv : a.eval s = v) (hy : a.eval x = y) (l m : List UInt8) (h : OwnsQ w v l) (hs : Src P 1 tx y m.length (u8s m) w) (hm : 0 < m.length) (hlen : l.length + m.length ≤ 140737488355328)
    (k : ∀ v' w', OwnsQ w' v' (l ++ m) → w.grownBy w' v.ownBlock → (v'.ownBlock = v.ownBlock ∨ v'.ownBlock = some w.heap.size) → wpList P ops Q rest (a.put o.dst v') w') : wpList P ops Q (o :: rest) a w := by
  refine wpList_plain hgd fun _ hK => ?_
  obtain ⟨v', w', hr, h2, h3, h4⟩ := run_append_Q (P := P) w t tx o.type i ht hi hz hs1 hb1 v y l m h hs hm hlen
  unfold Oper.wp execOp
  simp only [ho, resolve, invoke, builtin, Sem.run_bind, Sem.run_pure, Result.andThen_ok, List.map_toArray, List.map_cons, List.map_nil, hv, hy, hr]
  exact hK _ _ (k v' w' h2 h3 h4)
end
end Go.Proofs.Ytliblhfabnjpkaa

namespace Go.Proofs.Ytliblhfabnjpkaa
namespace HE

abbrev BS := List UInt8
/-- The number that bytes are, the greatest first. -/
def numL (l : BS) : Nat := l.foldl (fun x c => x * 256 + c.toNat) 0
def take (n : Nat) (t : BS) : Option (BS × BS) := if n ≤ t.length then some (t.take n, t.drop n) else none
def num (n : Nat) (t : BS) : Option (Nat × BS) := (take n t).map fun p => (numL p.1, p.2)
def text (n : Nat) (t : BS) : Option (BS × BS) := (num n t).bind fun p => take p.1 p.2
def some' (n : Nat) (t : BS) : Option (BS × BS) := (text n t).bind fun p => if p.1 = [] then none else some p
def pairs : BS → Option (List Nat)
  | [] => some []
  | [_] => none
  | a :: b :: r => (pairs r).map fun l => (a.toNat * 256 + b.toNat) :: l
def numbers (n : Nat) (t : BS) : Option (List Nat × BS) := (some' n t).bind fun p => (pairs p.1).map fun l => (l, p.2)

theorem numL_snoc (l : BS) (c : UInt8) : numL (l ++ [c]) = numL l * 256 + c.toNat := by simp [numL, List.foldl_append]
theorem fold_lt (l : BS) : ∀ x : Nat, l.foldl (fun x c => x * 256 + c.toNat) x < (x + 1) * 256 ^ l.length := by
  induction l with
  | nil => intro x; simp
  | cons c l ih =>
    intro x
    rw [List.foldl_cons, List.length_cons, Nat.pow_succ]
    refine Nat.lt_of_lt_of_le (ih _) ?_
    rw [Nat.mul_comm (256 ^ l.length) 256, ← Nat.mul_assoc]
    refine Nat.mul_le_mul_right _ ?_
    have := c.toNat_lt
    omega
theorem numL_lt (l : BS) : numL l < 256 ^ l.length := by
  have := fold_lt l 0
  rwa [Nat.zero_add, Nat.one_mul] at this
theorem take_some {n : Nat} {t a r : BS} (h : take n t = some (a, r)) : n ≤ t.length ∧ a = t.take n ∧ r = t.drop n := by
  unfold take at h
  split at h
  · rename_i hn
    injection h with h
    injection h with h1 h2
    exact ⟨hn, h1.symm, h2.symm⟩
  · cases h
theorem take_none {n : Nat} {t : BS} (h : take n t = none) : t.length < n := by
  unfold take at h
  split at h
  · cases h
  · omega
theorem num_some {n x : Nat} {t r : BS} (h : num n t = some (x, r)) : r.length ≤ t.length ∧ x < 256 ^ n := by
  unfold num at h
  cases ht : take n t with
  | none => rw [ht] at h; cases h
  | some ar =>
    obtain ⟨a, r'⟩ := ar
    rw [ht] at h
    injection h with h
    injection h with h1 h2
    obtain ⟨k1, k2, k3⟩ := take_some ht
    subst h2
    refine ⟨by rw [k3, List.length_drop]; omega, ?_⟩
    rw [← h1]
    have := numL_lt a
    have hl : a.length = n := by rw [k2, List.length_take]; omega
    rwa [hl] at this
theorem text_some {n : Nat} {t a r : BS} (h : text n t = some (a, r)) : r.length ≤ t.length ∧ a.length ≤ t.length := by
  unfold text at h
  cases hn : num n t with
  | none => rw [hn] at h; cases h
  | some xr =>
    obtain ⟨x, r'⟩ := xr
    rw [hn] at h
    have h' : take x r' = some (a, r) := h
    obtain ⟨k1, k2, k3⟩ := take_some h'
    have := (num_some hn).1
    refine ⟨by rw [k3, List.length_drop]; omega, by rw [k2, List.length_take]; omega⟩
theorem some_some {n : Nat} {t a r : BS} (h : some' n t = some (a, r)) : text n t = some (a, r) ∧ a ≠ [] := by
  unfold some' at h
  cases hn : text n t with
  | none => rw [hn] at h; cases h
  | some xr =>
    rw [hn] at h
    simp only [Option.bind_some] at h
    split at h
    · cases h
    · rename_i hne
      injection h with h
      subst h
      exact ⟨rfl, hne⟩
/-- A share. -/
def share (t : BS) : Option ((Nat × BS) × BS) := (num 2 t).bind fun p => (some' 2 p.2).map fun q => ((p.1, q.1), q.2)
theorem share_len {t r : BS} {x : Nat × BS} (h : share t = some (x, r)) : r.length + 2 ≤ t.length ∧ x.1 < 65536 := by
  unfold share at h
  cases hn : num 2 t with
  | none => rw [hn] at h; cases h
  | some p =>
    obtain ⟨g, r1⟩ := p
    rw [hn] at h
    simp only [Option.bind_some] at h
    cases hs : some' 2 r1 with
    | none => rw [hs] at h; cases h
    | some q =>
      obtain ⟨k, r2⟩ := q
      rw [hs] at h
      injection h with h
      injection h with h1 h2
      obtain rfl : r2 = r := h2
      have h3 := (text_some (some_some hs).1).1
      have h4 : r1.length + 2 ≤ t.length := by
        unfold num at hn
        cases ht : take 2 t with
        | none => rw [ht] at hn; cases hn
        | some ar =>
          obtain ⟨a, r'⟩ := ar
          rw [ht] at hn
          injection hn with hn
          injection hn with e1 e2
          obtain ⟨k1, k2, k3⟩ := take_some ht
          obtain rfl : r' = r1 := e2
          rw [k3, List.length_drop]
          omega
      have h5 := (num_some hn).2
      exact ⟨by omega, by rw [← h1]; exact h5⟩
/-- All shares of a text. -/
def sharesN : Nat → BS → Option (List (Nat × BS))
  | 0, t => if t = [] then some [] else none
  | n + 1, t => if t = [] then some [] else (share t).bind fun p => (sharesN n p.2).map fun l => p.1 :: l
def shareL (t : BS) : Option (List (Nat × BS)) := sharesN t.length t
theorem sharesN_eq : ∀ (n m : Nat) (t : BS), t.length ≤ n → t.length ≤ m → sharesN n t = sharesN m t
  | 0, 0, _, _, _ => rfl
  | 0, m + 1, t, h, _ => by
    have : t = [] := List.length_eq_zero_iff.1 (by omega)
    subst this
    rfl
  | n + 1, 0, t, _, h => by
    have : t = [] := List.length_eq_zero_iff.1 (by omega)
    subst this
    rfl
  | n + 1, m + 1, t, h1, h2 => by
    unfold sharesN
    split
    · rfl
    · cases hs : share t with
      | none => rfl
      | some p =>
        obtain ⟨x, r⟩ := p
        have := (share_len hs).1
        simp only [Option.bind_some]
        rw [sharesN_eq n m r (by omega) (by omega)]
theorem shareL_nil : shareL [] = some [] := rfl
theorem shareL_step {t r : BS} {x : Nat × BS} (hne : t ≠ []) (h : share t = some (x, r)) : shareL t = (shareL r).map fun l => x :: l := by
  have hl := (share_len h).1
  unfold shareL
  obtain ⟨n, hn⟩ : ∃ n, t.length = n + 1 := ⟨t.length - 1, by omega⟩
  rw [hn]
  show (if t = [] then some [] else (share t).bind fun p => (sharesN n p.2).map fun l => p.1 :: l) = _
  rw [if_neg hne, h]
  simp only [Option.bind_some]
  rw [sharesN_eq n r.length r (by omega) (Nat.le_refl _)]
theorem shareL_none {t : BS} (hne : t ≠ []) (h : share t = none) : shareL t = none := by
  unfold shareL
  obtain ⟨n, hn⟩ : ∃ n, t.length = n + 1 := ⟨t.length - 1, by have := List.length_pos_iff.2 hne; omega⟩
  rw [hn]
  show (if t = [] then some [] else (share t).bind fun p => (sharesN n p.2).map fun l => p.1 :: l) = _
  rw [if_neg hne, h]
  rfl
/-- The name of a server. -/
def name (t : BS) : Option (BS × BS) := (text 2 t).bind fun p => (num 1 p.1).bind fun x => if x.1 = 0 then (some' 2 x.2).bind fun y => if y.2 = [] then some (y.1, p.2) else none else none
end HE
end Go.Proofs.Ytliblhfabnjpkaa

namespace Go.Proofs.Ytliblhfabnjpkaa
open Go Go.RowKit

/-- How a panic with an error ends. -/
def pan (c : Int) : Ending := .panicked [{ v := .iface 24 (.int .i64 c), recovered := false }]
/-- A parser at block p: its text; the hello that it fills. -/
def PAt (w : World) (p : Nat) (t : HE.BS) (hv : Value) : Prop := hget w p = some (.cells #[.string ⟨t.toArray⟩, hv] 75 (0, 0))
/-- What a parser's method gives: or a panic. -/
abbrev After {α : Type} (p : Nat) (hv : Value) (r : Option (α × HE.BS)) (val : α → World → Value → Prop) (e : Ending) (w' : World) : Prop :=
  match r with
  | some (x, t) => ∃ v, e = .returned v ∧ val x w' v ∧ PAt w' p t hv
  | none => e = pan 270
def Gives {α : Type} (f : FuncId) (args : Array Value) (w : World) (p : Nat) (hv : Value) (r : Option (α × HE.BS)) (val : α → World → Value → Prop) : Prop :=
  Calls Try.prog f args w fun e w' => Out (· = p) w w' ∧ After p hv r val e w'
def isText (x : HE.BS) (_ : World) (v : Value) : Prop := v = .string ⟨x.toArray⟩
def isNum (x : Nat) (_ : World) (v : Value) : Prop := v = .int .i64 (x : Int)

theorem text_size (t : HE.BS) : (⟨t.toArray⟩ : ByteArray).size = t.length := by simp [ByteArray.size]
theorem text_take (t : HE.BS) (n : Nat) : (⟨t.toArray⟩ : ByteArray).extract 0 n = ⟨(t.take n).toArray⟩ := by
  apply ByteArray.ext; apply Array.ext'
  simp [ByteArray.data_extract, List.extract]
theorem text_drop (t : HE.BS) (n : Nat) (_h : n ≤ t.length) : (⟨t.toArray⟩ : ByteArray).extract n t.length = ⟨(t.drop n).toArray⟩ := by
  apply ByteArray.ext; apply Array.ext'
  simp only [ByteArray.data_extract, Array.toList_extract, List.extract]
  exact List.take_of_length_le (by rw [List.length_drop]; omega)

theorem ofInt64 (n : Nat) (h : n < 131072) : (BitVec.ofInt 64 (n : Int)).toNat = n := by
  rw [BitVec.ofInt_natCast, BitVec.toNat_ofNat]
  exact Nat.mod_eq_of_lt (Nat.lt_trans h (by decide))
theorem or_low (x c : Nat) (hx : x < 256) (hc : c < 256) : bits .or .i64 ((x : Int) * 256) (c : Int) = ((x * 256 + c : Nat) : Int) := by
  have h1 := Nat.shiftLeft_add_eq_or_of_lt (b := c) (i := 8) hc x
  rw [Nat.shiftLeft_eq, show 2 ^ 8 = 256 by decide] at h1
  have e : (x : Int) * 256 = ((x * 256 : Nat) : Int) := by rw [Int.natCast_mul]; rfl
  rw [e]
  show IntKind.i64.wrap ((BitVec.ofInt 64 ((x * 256 : Nat) : Int) ||| BitVec.ofInt 64 (c : Int)).toNat : Int) = _
  rw [BitVec.toNat_or, ofInt64 _ (by omega), ofInt64 _ (by omega), ← h1]
  rw [IntKind.wrap_i64]
  omega
section
variable {w : World} {p : Nat} {t : HE.BS} {hv : Value}
set_option maxHeartbeats 1000000 in
theorem take_any (h : PAt w p t hv) (n : Nat) (_hn : n ≤ 9223372036854775807) (_ht : t.length ≤ 9223372036854775807) : Gives 34 #[.pointer (some ⟨p, 0, none⟩), .int .i64 (n : Int)] w p hv (HE.take n t) isText := by
  have c0 : w.cell? ⟨p, 0, none⟩ = some (.string ⟨t.toArray⟩) := cell_at h 0
  have f0 := free_at h
  have hs := text_size t
  unfold Gives
  by_cases hl : n ≤ t.length
  · have e1 := text_take t n
    have e2 := text_drop t n hl
    have hr : HE.take n t = some (t.take n, t.drop n) := if_pos hl
    obtain ⟨T, hT⟩ : ∃ T, (⟨t.toArray⟩ : ByteArray) = T := ⟨_, rfl⟩
    obtain ⟨L, hL⟩ : ∃ L, t.length = L := ⟨_, rfl⟩
    rw [hT] at c0 hs e1 e2
    rw [hL] at hs e2 hl _ht
    have d1 : decide ((L : Int) < (n : Int)) = false := decide_eq_false (by omega)
    have d2 : decide (L < n) = false := decide_eq_false (by omega)
    have HP := hid h
    have E1 := hid e1
    have E2 := hid e2
    rw [hr]
    clear hr h hT e1 e2
    go_enter Try.func34, Try.ntmps34
    go_wp2_with fail
    go_ret
    refine ⟨(Out.refl (fun k => k = p) _).setCell (p := ⟨p, 0, none⟩) (.inl rfl) _, _, rfl, ?_, ?_⟩
    · show Value.string _ = _
      rw [E1.out]
    · rw [E2.out]
      exact hget_setCell HP.out 0 _
  · have hr : HE.take n t = none := if_neg hl
    have d1 : decide ((t.length : Int) < (n : Int)) = true := decide_eq_true (by omega)
    have d2 : decide (t.length < n) = true := decide_eq_true (by omega)
    rw [hr]
    clear hr
    go_enter Try.func34, Try.ntmps34
    go_wp2_with fail
    exact ⟨rfl, Out.refl _ _, rfl⟩
set_option maxHeartbeats 1000000 in
theorem num_any (h : PAt w p t hv) (n : Nat) (hn : n ≤ 2) (ht : t.length ≤ 9223372036854775807) : Gives 57 #[.pointer (some ⟨p, 0, none⟩), .int .i64 (n : Int)] w p hv (HE.num n t) isNum := by
  have htk := take_any h n (by omega) ht
  unfold Gives at htk ⊢
  unfold HE.num
  cases hr : HE.take n t with
  | none =>
    rw [hr] at htk
    have HT := hid htk
    clear htk hr
    simp only [Option.map_none]
    go_enter Try.func57, Try.ntmps57
    go_wp2_with fail
    refine HT.out.mono ?_
    rintro e w' ⟨ho, rfl⟩
    exact ⟨rfl, ho, rfl⟩
  | some ar =>
    obtain ⟨a, r⟩ := ar
    rw [hr] at htk
    have HT := hid htk
    obtain ⟨h1, h2, h3⟩ := HE.take_some hr
    have hal : a.length = n := by rw [h2, List.length_take]; omega
    simp only [Option.map_some]
    clear htk hr h1 h2 h3
    go_enter Try.func57, Try.ntmps57
    go_wp2_with fail
    refine HT.out.mono ?_
    rintro e w1 ⟨ho, v, rfl, hv1, hp1⟩
    obtain rfl : v = .string ⟨a.toArray⟩ := hv1
    have hs := text_size a
    have hlaid := laid_bytes w1 ⟨a.toArray⟩
    have hb := bytesWorld_below w1 5 ⟨a.toArray⟩
    rw [hs] at *
    have HO := hid (ho.then (Out.of_below hb))
    have HP := hid (show PAt (Lib.bytesWorld w1 5 ⟨a.toArray⟩) p r hv from keepB hb hp1)
    have HL := hid hlaid
    clear hlaid hb hp1 ho
    go_wp2_with fail
    generalize Lib.bytesWorld w1 5 ⟨a.toArray⟩ = wB at *
    generalize w1.heap.size = g at *
    go_loopw [4, 12] (fun x i wr => ∃ k : Nat, k ≤ n ∧ i = .int .i64 (k : Int) ∧ x = .int .i64 ((HE.numL (a.take k) : Nat) : Int) ∧ wr = wB) (fun _ i _ => (n - intOf i).toNat)
    case atStart => exact ⟨0, Nat.zero_le _, rfl, by simp [HE.numL], rfl⟩
    case round =>
      obtain ⟨k, hk, rfl, rfl, rfl⟩ := hrel
      by_cases hkn : k < n
      · have dk : decide ((k : Int) < (n : Int)) = true := decide_eq_true (by omega)
        have hst : HE.numL (a.take (k + 1)) = HE.numL (a.take k) * 256 + (a.getD k 0).toNat := by
          have hka : k < a.length := by omega
          rw [List.take_succ_eq_append_getElem hka, HE.numL_snoc, List.getD_eq_getElem?_getD, List.getElem?_eq_getElem hka]
          rfl
        have hlt := HE.numL_lt (a.take k)
        have hx : HE.numL (a.take k) < 256 := by
          have h1 : (a.take k).length ≤ 1 := by rw [List.length_take]; omega
          refine Nat.lt_of_lt_of_le hlt ?_
          exact Nat.pow_le_pow_right (n := 256) (by decide) h1
        have hc := HL.out.cell (j := k) (show k < a.length by omega)
        change wr.cell? ⟨g, k, none⟩ = some (.int .u8 ((a.getD k 0).toNat : Int)) at hc
        have hcl := (a.getD k 0).toNat_lt
        generalize (a.getD k 0).toNat = c at *
        generalize HE.numL (a.take k) = x at *
        have HST := hid hst
        have hi0 : 0 ≤ (k : Int) := by omega
        have hi1 : (k : Int) < (n : Int) := by omega
        have hi2 : k < n := hkn
        clear hst hlt
        go_wp2_with fail
        rw [or_low x c hx hcl]
        exact ⟨⟨k + 1, by omega, by go_num, by rw [HST.out], trivial⟩, by simp only [intOf]; omega⟩
      · have dk : decide ((k : Int) < (n : Int)) = false := decide_eq_false (by omega)
        obtain rfl : k = n := by omega
        have HN := hid (show HE.numL (a.take k) = HE.numL a by rw [List.take_of_length_le (by omega)])
        go_wp2_with fail
        go_ret
        exact ⟨HO.out, _, rfl, by rw [HN.out]; rfl, HP.out⟩
set_option maxHeartbeats 1000000 in
theorem text_any (h : PAt w p t hv) (n : Nat) (hn : n ≤ 2) (ht : t.length ≤ 9223372036854775807) : Gives 35 #[.pointer (some ⟨p, 0, none⟩), .int .i64 (n : Int)] w p hv (HE.text n t) isText := by
  have hnm := num_any h n hn ht
  unfold Gives at hnm ⊢
  unfold HE.text
  cases hr : HE.num n t with
  | none =>
    rw [hr] at hnm
    have HN := hid hnm
    clear hnm hr
    simp only [Option.bind_none]
    go_enter Try.func35, Try.ntmps35
    go_wp2_with fail
    refine HN.out.mono ?_
    rintro e w' ⟨ho, rfl⟩
    exact ⟨rfl, ho, rfl⟩
  | some xr =>
    obtain ⟨x, r⟩ := xr
    rw [hr] at hnm
    obtain ⟨k1, k2⟩ := HE.num_some hr
    have hx : x < 65536 := Nat.lt_of_lt_of_le k2 (Nat.pow_le_pow_right (n := 256) (by decide) hn)
    have HN := hid hnm
    clear hnm hr k2
    simp only [Option.bind_some]
    go_enter Try.func35, Try.ntmps35
    go_wp2_with fail
    refine HN.out.mono ?_
    rintro e w1 ⟨ho, v, rfl, hv1, hp1⟩
    obtain rfl : v = .int .i64 (x : Int) := hv1
    have htk := take_any hp1 x (by omega) (by omega)
    unfold Gives at htk
    have HT := hid htk
    have HO := hid ho
    clear htk ho hp1 HN
    cases hr2 : HE.take x r with
    | none =>
      rw [hr2] at HT
      go_wp2_with fail
      refine HT.out.mono ?_
      rintro e w' ⟨ho2, rfl⟩
      refine ⟨rfl, HO.out.then ho2, ?_⟩
      rw [hr2]
      rfl
    | some ar =>
      obtain ⟨a, r2⟩ := ar
      rw [hr2] at HT
      go_wp2_with fail
      refine HT.out.mono ?_
      rintro e w' ⟨ho2, v, rfl, hv2, hp2⟩
      obtain rfl : v = .string ⟨a.toArray⟩ := hv2
      have HO2 := hid (HO.out.then ho2)
      have HP2 := hid hp2
      clear ho2 hp2
      go_wp2_with fail
      go_ret
      rw [hr2]
      exact ⟨HO2.out, _, rfl, rfl, HP2.out⟩

theorem str_empty (a : HE.BS) : (⟨a.toArray⟩ : ByteArray).toList.isEmpty = decide (a = []) := by
  rw [ByteArray.toList_mk]
  cases a <;> rfl
set_option maxHeartbeats 1000000 in
theorem some_any (h : PAt w p t hv) (n : Nat) (hn : n ≤ 2) (ht : t.length ≤ 9223372036854775807) : Gives 59 #[.pointer (some ⟨p, 0, none⟩), .int .i64 (n : Int)] w p hv (HE.some' n t) isText := by
  have htx := text_any h n hn ht
  unfold Gives at htx ⊢
  unfold HE.some'
  cases hr : HE.text n t with
  | none =>
    rw [hr] at htx
    have HN := hid htx
    clear htx hr
    simp only [Option.bind_none]
    go_enter Try.func59, Try.ntmps59
    go_wp2_with fail
    refine HN.out.mono ?_
    rintro e w' ⟨ho, rfl⟩
    exact ⟨rfl, ho, rfl⟩
  | some ar =>
    obtain ⟨a, r⟩ := ar
    rw [hr] at htx
    have HN := hid htx
    clear htx hr
    simp only [Option.bind_some]
    have hemp := str_empty a
    obtain ⟨T, hT⟩ : ∃ T, (⟨a.toArray⟩ : ByteArray) = T := ⟨_, rfl⟩
    by_cases ha : a = []
    · rw [if_pos ha]
      rw [decide_eq_true ha, hT] at hemp
      have HTT := hid hT
      clear ha hT
      go_enter Try.func59, Try.ntmps59
      go_wp2_with fail
      refine HN.out.mono ?_
      rintro e w1 ⟨ho, v, rfl, hv1, hp1⟩
      obtain rfl : v = .string T := hv1.trans (by rw [HTT.out])
      have HO := hid ho
      clear ho hp1 hv1
      go_wp2_with fail
      exact ⟨rfl, HO.out, rfl⟩
    · rw [if_neg ha]
      rw [decide_eq_false ha, hT] at hemp
      have HTT := hid hT
      clear ha hT
      go_enter Try.func59, Try.ntmps59
      go_wp2_with fail
      refine HN.out.mono ?_
      rintro e w1 ⟨ho, v, rfl, hv1, hp1⟩
      obtain rfl : v = .string T := hv1.trans (by rw [HTT.out])
      have HO := hid ho
      have HP := hid hp1
      clear ho hp1 hv1
      go_wp2_with fail
      go_ret
      exact ⟨HO.out, _, rfl, by rw [← HTT.out]; rfl, HP.out⟩
set_option maxHeartbeats 1000000 in
theorem ends_any (h : PAt w p t hv) : Calls Try.prog 37 #[.pointer (some ⟨p, 0, none⟩)] w fun e w' => w = w' ∧ e = if t = [] then .returned (.tuple #[]) else pan 270 := by
  have c0 : w.cell? ⟨p, 0, none⟩ = some (.string ⟨t.toArray⟩) := cell_at h 0
  have hemp := str_empty t
  obtain ⟨T, hT⟩ : ∃ T, (⟨t.toArray⟩ : ByteArray) = T := ⟨_, rfl⟩
  rw [hT] at c0 hemp
  by_cases ha : t = []
  · rw [if_pos ha]
    rw [decide_eq_true ha] at hemp
    clear ha hT h
    go_enter Try.func37, Try.ntmps37
    go_wp2_with fail
    go_end0
    exact ⟨rfl, rfl⟩
  · rw [if_neg ha]
    rw [decide_eq_false ha] at hemp
    clear ha hT h
    go_enter Try.func37, Try.ntmps37
    go_wp2_with fail
    exact ⟨rfl, rfl, rfl⟩
end
end Go.Proofs.Ytliblhfabnjpkaa
