/- Small lemmas on worlds, for the walks of this seat: a block that is put whole, draws, what is below. A region that draws its order, whose operations read and whose calls leave all that stood as it was: one walk in the order of the text. A whole row by value: read out of a block, written into it, handed back. Whole values in memory: loads and stores of a row as one step, told by what its block holds. A world that is as it was, but for some blocks and what is new. Bytes in memory: texts to bytes and back, a row of bytes that is appended to. Objects that turn: what stays of a world but for some blocks; bytes that an object has for itself. Plain: the queue of layer 20 as the document tells it: what is held, by how far behind the next byte. -/
import Derived.Test.YtkmkgfgppblleaaRows
import Derived.WalkKit
import Derived.WalkSpells
import Derived.WalkLawsBesides
import Derived.Deep.QuietTactic
import Derived.BigQuiet
import Derived.StillTailTactics
import Derived.Lib.MinMax
import Derived.Deep.RegionHeld3
import Derived.Deep.MidRow
import Derived.Deep.WholeRow
import Derived.Deep.Cut
import Derived.Lib.ConvBytes
import Derived.Deep.AppendSrc
import Derived.Laws.AppendOwn
import Derived.Maps.OwnSet
namespace Go.Proofs.Ytkmkgfgppblleaa
open Go.RowKit
attribute [go_sem] World.cell?_alloc_some

/-- The world with block b put. -/
def blk (w : World) (b : Nat) (o : Obj) : World := { w with heap := w.heap.setIfInBounds b o }
section
variable {w : World} {b k : Nat} {c : Array Value} {T : TypeId} {fz : Nat × Nat} {v : Value} {o o' : Obj}
theorem lt_blk (h : w.heap[b]? = some o) : b < w.heap.size := by
  rcases Nat.lt_or_ge b w.heap.size with h' | h'
  · exact h'
  · simp [Array.getElem?_eq_none h'] at h
theorem cell_at (h : w.heap[b]? = some (.cells c T fz)) (k : Nat) : w.cell? ⟨b, k, none⟩ = c[k]? := by simp [World.cell?, h]
theorem free_at (h : w.heap[b]? = some (.cells c T (0, 0))) (k : Nat) : w.frozen? ⟨b, k, none⟩ = false := by simp [World.frozen?, h]
theorem setCell_blk (h : w.heap[b]? = some (.cells c T fz)) (k : Nat) (v : Value) : w.setCell ⟨b, k, none⟩ v = blk w b (.cells (c.setIfInBounds k v) T fz) := by
  unfold World.setCell blk
  have hlt := lt_blk h
  have h' : w.heap[b] = .cells c T fz := by simpa [Array.getElem?_eq_getElem hlt] using h
  congr 1
  apply Array.ext
  · simp
  · intro i h1 h2
    simp only [Array.size_modify] at h1
    rw [Array.getElem_modify, Array.getElem_setIfInBounds]
    · split
      · rename_i hi; subst hi; simp [h']
      · rfl
theorem blk_heap (h : b < w.heap.size) : (blk w b o).heap[b]? = some o := by simp [blk, h]
theorem blk_other (j : Nat) (h : j ≠ b) : (blk w b o).heap[j]? = w.heap[j]? := by
  unfold blk; rw [Array.getElem?_setIfInBounds_ne (by omega)]
theorem blk_size : (blk w b o).heap.size = w.heap.size := by simp [blk]
theorem blk_blk : blk (blk w b o) b o' = blk w b o' := by simp [blk]
theorem blk_self (h : w.heap[b]? = some o) : blk w b o = w := by
  unfold blk
  have hlt := lt_blk h
  have h' : w.heap[b] = o := by simpa [Array.getElem?_eq_getElem hlt] using h
  rw [← h', Array.setIfInBounds_def, dif_pos hlt, Array.set_getElem_self]
theorem blk_setCell (hb : b < w.heap.size) (k : Nat) (v : Value) : (blk w b (.cells c T fz)).setCell ⟨b, k, none⟩ v = blk w b (.cells (c.setIfInBounds k v) T fz) := by
  rw [setCell_blk (blk_heap hb), blk_blk]
@[go_sem] theorem setCell_drewN (w : World) (n : Nat) (a : Addr) (v : Value) : (w.drewN n).setCell a v = (w.setCell a v).drewN n := rfl
@[go_sem] theorem setCell_drew' (w : World) (a : Addr) (v : Value) : w.drew.setCell a v = (w.setCell a v).drew := rfl
theorem at_setCell (h : w.heap[b]? = some (.cells c T fz)) (k : Nat) (v : Value) : (w.setCell ⟨b, k, none⟩ v).heap[b]? = some (.cells (c.setIfInBounds k v) T fz) := by
  rw [setCell_blk h]; exact blk_heap (lt_blk h)
theorem at_setCell_other (h : w.heap[b]? = some o) {p : Addr} (hp : b ≠ p.block) (v : Value) : (w.setCell p v).heap[b]? = some o := (Below.heap_setCell w p v b hp).trans h
theorem blk_drew : (blk w b o).drew = blk w.drew b o := rfl
end

theorem hid {p : Prop} (h : p) : Hid p := h

/-- Some draws later. -/
def Dr (w w' : World) : Prop := ∃ n, w' = w.drewN n
theorem Dr.refl (w : World) : Dr w w := ⟨0, rfl⟩
theorem Dr.drew {w w' : World} (h : Dr w w') : Dr w w'.drew := by obtain ⟨n, rfl⟩ := h; exact ⟨n + 1, rfl⟩
theorem Dr.drewN {w w' : World} (h : Dr w w') (m : Nat) : Dr w (w'.drewN m) := by obtain ⟨n, rfl⟩ := h; exact ⟨n + m, World.drewN_drewN ..⟩

theorem dr_blk {W w' : World} {b : Nat} {o o' : Obj} (h : Dr (blk W b o) w') (e : o = o') : Dr (blk W b o') w' := e ▸ h

theorem Dr.heap {w w' : World} (h : Dr w w') : w'.heap = w.heap := by obtain ⟨n, rfl⟩ := h; rfl
theorem Dr.below {B : Nat} {w w' : World} (h : Dr w w') : Below B w w' := by obtain ⟨n, rfl⟩ := h; exact ⟨rfl, rfl, rfl, Nat.le_refl _, fun _ _ => rfl⟩
theorem below_blk {B : Nat} {w : World} {b : Nat} {o : Obj} (h : B ≤ b) : Below B w (blk w b o) :=
  ⟨rfl, rfl, rfl, by simp [blk], fun k hk => blk_other k (by omega)⟩
theorem dr_at {w w' : World} {b : Nat} {o : Obj} (h : Dr (blk w b o) w') (hb : b < w.heap.size) : w'.heap[b]? = some o := by rw [h.heap]; exact blk_heap hb
theorem dr_other {w w' : World} {b : Nat} {o : Obj} (h : Dr (blk w b o) w') (j : Nat) (hj : j ≠ b) : w'.heap[j]? = w.heap[j]? := by rw [h.heap]; exact blk_other j hj
theorem dr_size {w w' : World} {b : Nat} {o : Obj} (h : Dr (blk w b o) w') : w'.heap.size = w.heap.size := by rw [h.heap]; exact blk_size
theorem dr_below {B : Nat} {w w' : World} {b : Nat} {o : Obj} (h : Dr (blk w b o) w') (hb : B ≤ b) : Below B w w' := (below_blk hb).trans h.below
theorem alloc_at (w : World) (o : Obj) : (w.alloc o).heap[w.heap.size]? = some o := by
  show (w.heap.push o)[w.heap.size]? = _; simp
theorem alloc_at' {w : World} {n : Nat} (h : n = w.heap.size) (o : Obj) : (w.alloc o).heap[n]? = some o := by rw [h]; exact alloc_at w o
theorem alloc_old {w : World} {o o' : Obj} {b : Nat} (h : w.heap[b]? = some o) : (w.alloc o').heap[b]? = some o := by
  rw [Below.heap_alloc _ _ _ (lt_blk h)]; exact h
theorem alloc_below (B : Nat) (w : World) (o : Obj) (h : B ≤ w.heap.size) : Below B w (w.alloc o) := (Below.refl _ _).alloc h o

/-- But for block b, and for what is new, the world is as it was. -/
structure Only (b : Nat) (w w' : World) : Prop where
  os : w'.os = w.os
  tape : w'.tape = w.tape
  output : w'.output = w.output
  size : w.heap.size ≤ w'.heap.size
  block : ∀ k, k < w.heap.size → k ≠ b → w'.heap[k]? = w.heap[k]?
theorem Only.refl (b : Nat) (w : World) : Only b w w := ⟨rfl, rfl, rfl, Nat.le_refl _, fun _ _ _ => rfl⟩
theorem Only.trans {b : Nat} {a w w' : World} (h : Only b a w) (k : Only b w w') : Only b a w' :=
  ⟨k.os.trans h.os, k.tape.trans h.tape, k.output.trans h.output, Nat.le_trans h.size k.size, fun i hi hn => (k.block i (Nat.lt_of_lt_of_le hi h.size) hn).trans (h.block i hi hn)⟩
theorem Only.of_below {b : Nat} {w w' : World} (h : Below w.heap.size w w') : Only b w w' := ⟨h.os, h.tape, h.output, h.size, fun k hk _ => h.block k hk⟩
theorem Only.below {B b : Nat} {w w' : World} (h : Only b w w') (hb : B ≤ b) (hB : B ≤ w.heap.size) : Below B w w' := ⟨h.os, h.tape, h.output, h.size, fun k hk => h.block k (by omega) (by omega)⟩
theorem Only.alloc {b : Nat} {a w : World} (h : Only b a w) (o : Obj) : Only b a (w.alloc o) :=
  ⟨h.os, h.tape, h.output, Nat.le_trans h.size (by simp), fun i hi hn => (Below.heap_alloc w o i (Nat.lt_of_lt_of_le hi h.size)).trans (h.block i hi hn)⟩
theorem Only.drewN {b : Nat} {a w : World} (h : Only b a w) (n : Nat) : Only b a (w.drewN n) := ⟨h.os, h.tape, h.output, h.size, h.block⟩
theorem Only.drew {b : Nat} {a w : World} (h : Only b a w) : Only b a w.drew := ⟨h.os, h.tape, h.output, h.size, h.block⟩
theorem Only.blk {b : Nat} {a w : World} (h : Only b a w) {c : Nat} (hc : c = b ∨ a.heap.size ≤ c) (o : Obj) : Only b a (blk w c o) :=
  ⟨h.os, h.tape, h.output, Nat.le_trans h.size (by simp [Proofs.Ytkmkgfgppblleaa.blk]), fun i hi hn => (blk_other i (by omega)).trans (h.block i hi hn)⟩
theorem Only.setCell {b : Nat} {a w : World} (h : Only b a w) {p : Addr} (hp : p.block = b ∨ a.heap.size ≤ p.block) (u : Value) : Only b a (w.setCell p u) :=
  ⟨h.os, h.tape, h.output, Nat.le_trans h.size (by simp [World.setCell]), fun i hi hn => (Below.heap_setCell w p u i (by omega)).trans (h.block i hi hn)⟩
theorem Only.cell {b : Nat} {w w' : World} (h : Only b w w') {p : Addr} (hp : p.block < w.heap.size) (hn : p.block ≠ b) : w'.cell? p = w.cell? p := World.cell?_of_block (w := w) (h.block p.block hp hn)
theorem below_new {w : World} (o : Obj) : Below w.heap.size w (w.alloc o) := alloc_below _ _ _ (Nat.le_refl _)
theorem below_alloc {W w : World} (h : Below W.heap.size W w) (o : Obj) : Below W.heap.size W (w.alloc o) := h.alloc h.size o
theorem below_blk' {W w : World} (h : Below W.heap.size W w) {b : Nat} (hb : W.heap.size ≤ b) (o : Obj) : Below W.heap.size W (blk w b o) := h.trans (below_blk hb)
theorem below_to {W w w' : World} (h : Below W.heap.size W w) (h' : Below w.heap.size w w') : Below W.heap.size W w' := h.trans (h'.mono h.size)

theorem still_tail {P : Program} {id : Nat} {Q : Exit → Act → World → Prop} {a : Act} {w : World} {l : List Oper} (n : Nat) (hm : P.follows .mixedOrders = true) (hB : Region.lexTailB .any l.toArray n = true)
    (h : wpStill P l.toArray w.drew (fun a' => wpList P l.toArray Q (l.drop n) a' w.drew) (l.take n) a) : (Code.region id l.toArray true).wp P Q a w := wp_region_still_tail n hm hB h

theorem rsame {P : Program} {f : FuncId} {args : Array Value} {w : World} {v : Value} (h : Calls P f args w fun e w' => e = .returned v ∧ w = w') :
   Calls P f args w fun e w' => e = .returned v ∧ w' = w := h.mono fun _ _ ⟨a, b⟩ => ⟨a, b.symm⟩

end Go.Proofs.Ytkmkgfgppblleaa

namespace Go.Proofs.Ytkmkgfgppblleaa
open Go Go.RowKit

/-- A world in which all that stood in w is as it was. -/
structure Later (w : World) where
  w' : World
  h : Below w.heap.size w w'

instance (w : World) : Nonempty (Later w) := ⟨⟨w, Below.refl _ _⟩⟩

variable {P : Program}
theorem wp_region_later {id : Nat} {Q : Exit → Act → World → Prop} {a : Act} {w : World} {l : List Oper} (hm : P.follows .mixedOrders = true) (hB : Region.lexB .any l.toArray = true)
    (h : wpQuiet P l.toArray (fun w' => ∃ x : Later w, w' = x.w') (fun a' => ∀ w', (∃ x : Later w, w' = x.w') → Q .normal a' w') l a) : (Code.region id l.toArray true).wp P Q a w :=
  wp_region_quiet (C := fun w' => ∃ x : Later w, w' = x.w') hm hB ⟨⟨w.drew, (Below.refl _ _).drew⟩, rfl⟩ (by simpa using h)
theorem calls_later {f : FuncId} {args : Array Value} {w : World} {x : Later w} {v : Value} (h : Calls P f args x.w' fun e w' => e = .returned v ∧ Below x.w'.heap.size x.w' w') :
    Calls P f args x.w' fun e w'' => e = .returned v ∧ ∃ y : Later w, w'' = y.w' :=
  h.mono fun _ _ ⟨he, hb⟩ => ⟨he, ⟨⟨_, below_to x.h hb⟩, rfl⟩⟩
theorem later_block {w : World} {b : Nat} {o : Obj} (h : w.heap[b]? = some o) (x : Later w) : x.w'.heap[b]? = some o := (x.h.block b (lt_blk h)).trans h
theorem later_cell {w : World} {p : Addr} {v : Value} (c : w.cell? p = some v) (x : Later w) : x.w'.cell? p = some v := (x.h.cell (p := p) (World.block_lt_of_cell? w p c)).trans c

theorem keepB {w w' : World} {b : Nat} {o : Obj} (hb : Below w.heap.size w w') (h : w.heap[b]? = some o) : w'.heap[b]? = some o := (hb.block b (lt_blk h)).trans h

/-- A load of a whole row. -/
theorem quiet_load {C : World → Prop} {K : Act → Prop} {a : Act} {o : Oper} (ty : TypeId) (x : Operand) (ho : o.op = .load ty x) {p : Value} (hp : a.eval x = p) {v : Value}
    (h : ∀ w, C w → (Instr.loadAt ty p).run P w = .ok v w) (hk : K (a.put o.dst v)) : o.quiet P a C K := by
  refine ⟨v, fun w hw => ?_, hk⟩
  unfold Oper.quietAt execOp
  simp only [ho, hp, Sem.run_bind, Sem.run_pure, Result.andThen_ok, h w hw]
  exact ⟨rfl, rfl⟩

end Go.Proofs.Ytkmkgfgppblleaa

namespace Go.Proofs.Ytkmkgfgppblleaa
open Go.RowKit

section
variable {P : Program} {w : World} {b : Nat} {cs c : Array Value} {T ty : TypeId} {fz : Nat × Nat} {d : TypeDesc}
theorem cells_range (h : w.heap[b]? = some (.cells cs T fz)) : w.rangeAt b 0 cs.toList := fun j v hv => by
  rw [Nat.zero_add, cell_at h]
  simpa using hv
theorem load_row (h : w.heap[b]? = some (.cells cs T fz)) (hu : P.underlying ty = some d) (hd : d.isRow = true) (hi : (P.info? ty).map (·.size) = some cs.size) :
    (Instr.loadAt ty (.pointer (some ⟨b, 0, none⟩))).run P w = .ok (.agg cs) w := by
  have := run_loadAt_mid (P := P) w b 0 ty cs.toList d (cells_range h) hu hd (by simpa using hi)
  simpa using this
theorem setCells_row (vs : List Value) : ∀ (w : World) (b : Nat) (pre old post : List Value) (T : TypeId) (fz : Nat × Nat), w.heap[b]? = some (.cells (pre ++ old ++ post).toArray T fz) → old.length = vs.length →
    w.setCells b pre.length vs = blk w b (.cells (pre ++ vs ++ post).toArray T fz) := by
  induction vs with
  | nil =>
    intro w b pre old post T fz h hl
    have : old = [] := List.length_eq_zero_iff.1 hl
    subst this
    exact (blk_self h).symm
  | cons v vs ih =>
    intro w b pre old post T fz h hl
    match old, hl with
    | o :: old, hl =>
      have h1 := at_setCell h pre.length v
      have e : ((pre ++ (o :: old) ++ post).toArray.setIfInBounds pre.length v) = ((pre ++ [v]) ++ old ++ post).toArray := by
        rw [List.setIfInBounds_toArray]; simp
      rw [e] at h1
      have h2 := ih (w.setCell ⟨b, pre.length, none⟩ v) b (pre ++ [v]) old post T fz h1 (by simpa using hl)
      rw [List.length_append, List.length_singleton] at h2
      rw [World.setCells, h2, setCell_blk h, blk_blk]
      simp
theorem row_there {n : Nat} (h : w.heap[b]? = some (.cells c T (0, 0))) (hn : n ≤ c.size) : w.there b 0 n := fun j hj => by
  rw [Nat.zero_add, cell_at h, free_at h]
  simp; omega
theorem store_row (h : w.heap[b]? = some (.cells c T (0, 0))) (hi : (P.info? ty).map (·.size) = some cs.size) (hc : c.size = cs.size) (h1 : cs.all (·.oneCell') = true) :
    (Instr.storeAt ty (.pointer (some ⟨b, 0, none⟩)) (.agg cs)).run P w = .ok () (blk w b (.cells cs T (0, 0))) := by
  rw [run_storeAt_mid (P := P) w b 0 ty cs (row_there h (by omega)) hi h1]
  have h2 := setCells_row cs.toList w b [] c.toList [] T (0, 0) (by simpa using h) (by simp [hc])
  simp only [List.length_nil, List.nil_append, List.append_nil] at h2
  rw [h2]
theorem later_row (h : w.heap[b]? = some (.cells cs T fz)) (hu : P.underlying ty = some d) (hd : d.isRow = true) (hi : (P.info? ty).map (·.size) = some cs.size) :
    ∀ w', (∃ x : Later w, w' = x.w') → (Instr.loadAt ty (.pointer (some ⟨b, 0, none⟩))).run P w' = .ok (.agg cs) w' := by
  rintro _ ⟨x, rfl⟩; exact load_row (later_block h x) hu hd hi
end
section
variable {P : Program} {ops : Array Oper} {rest : List Oper} {op : Oper} {a : Act} {w : World} {Q : Exit → Act → World → Prop}
theorem wp_load_row (hgd : op.guard = none) (ty : TypeId) (x : Operand) (ho : op.op = .load ty x) {b : Nat} (hx : a.eval x = .pointer (some ⟨b, 0, none⟩)) {cs : Array Value} {T : TypeId} {fz : Nat × Nat} {d : TypeDesc}
    (h : w.heap[b]? = some (.cells cs T fz)) (hu : P.underlying ty = some d) (hd : d.isRow = true) (hi : (P.info? ty).map (·.size) = some cs.size)
    (k : wpList P ops Q rest (a.put op.dst (.agg cs)) w) : wpList P ops Q (op :: rest) a w := by
  refine wpList_load_mid hgd ty x ho b 0 hx cs.toList d (cells_range h) hu hd (by simpa using hi) ?_
  simpa using k
theorem opwp_load_row {K : Act → World → Prop} (ty : TypeId) (x : Operand) (ho : op.op = .load ty x) {b : Nat} (hx : a.eval x = .pointer (some ⟨b, 0, none⟩)) {cs : Array Value} {T : TypeId} {fz : Nat × Nat} {d : TypeDesc}
    (h : w.heap[b]? = some (.cells cs T fz)) (hu : P.underlying ty = some d) (hd : d.isRow = true) (hi : (P.info? ty).map (·.size) = some cs.size)
    (k : K (a.put op.dst (.agg cs)) w) : op.wp P a w K Q := by
  refine wp_load_mid ty x ho b 0 hx cs.toList d (cells_range h) hu hd (by simpa using hi) ?_
  simpa using k
theorem wp_store_row (hgd : op.guard = none) (ty : TypeId) (x y : Operand) (ho : op.op = .store ty x y) {b : Nat} (hx : a.eval x = .pointer (some ⟨b, 0, none⟩)) {cs c : Array Value} {T : TypeId} (hy : a.eval y = .agg cs)
    (h : w.heap[b]? = some (.cells c T (0, 0))) (hi : (P.info? ty).map (·.size) = some cs.size) (hc : c.size = cs.size) (h1 : cs.all (·.oneCell') = true)
    (k : wpList P ops Q rest (a.put op.dst undef) (blk w b (.cells cs T (0, 0)))) : wpList P ops Q (op :: rest) a w := by
  refine wpList_store_mid hgd ty x y ho b 0 cs hx hy (row_there h (by omega)) hi h1 ?_
  have h2 := setCells_row cs.toList w b [] c.toList [] T (0, 0) (by simpa using h) (by simp [hc])
  simp only [List.length_nil, List.nil_append, List.append_nil] at h2
  rw [h2]
  exact k
end
section
variable {P : Program} {ops : Array Oper} {rest : List Oper} {op : Oper} {a : Act} {w : World} {Q : Exit → Act → World → Prop}
theorem wp_build (hgd : op.guard = none) (t : TypeId) (parts : Array (Nat × Operand)) (ho : op.op = .build t parts) (cells : Array Value) (h : P.built t (parts.map fun (i, x) => (i, a.eval x)).toList = some cells)
    (k : wpList P ops Q rest (a.put op.dst (.agg cells)) w) : wpList P ops Q (op :: rest) a w :=
  wpList_plain hgd fun _ hK => by
    unfold Oper.wp execOp
    simp only [ho, Sem.run_bind, Sem.run_pure, Result.andThen_ok, run_build w t _ cells h]
    exact hK _ _ k
end
/-- A whole row into the block that was made last. -/
theorem store_cells_new {P : Program} (w : World) (t : TypeId) (c c' : Array Value) (hi : (P.info? t).map (·.size) = some c'.size) (ho : c.size = c'.size) (h1 : c'.all (·.oneCell') = true) :
    (storeCells ⟨w.heap.size, 0, none⟩ c'.toList).run P (w.alloc (.cells c t)) = .ok () (w.alloc (.cells c' t)) := run_storeCells_new w t c c' hi ho h1

end Go.Proofs.Ytkmkgfgppblleaa

namespace Go.Proofs.Ytkmkgfgppblleaa
open Go Go.RowKit

/-- What a block holds. -/
def hget (w : World) (b : Nat) : Option Obj := w.heap[b]?
theorem hget_eq (w : World) (b : Nat) : hget w b = w.heap[b]? := rfl
/-- Is each of them one cell? -/
def ones (c : Array Value) : Bool := c.toList.all (·.oneCell')
@[go_sem] theorem ones_list (l : List Value) : ones l.toArray = l.all (·.oneCell') := rfl
@[go_sem] theorem one_int (k : IntKind) (i : Int) : (Value.int k i).oneCell' = true := rfl
@[go_sem] theorem one_bool (i : Bool) : (Value.bool i).oneCell' = true := rfl
@[go_sem] theorem one_string (i : ByteArray) : (Value.string i).oneCell' = true := rfl
theorem ones_all {c : Array Value} (h : ones c = true) : c.all (·.oneCell') = true := by
  unfold ones at h
  simpa [Array.all_toList] using h
/-- A load of a whole value, under a name of its own. -/
def loadRow (t : TypeId) (p : Value) : Sem Value := Instr.loadAt t p
def storeRow (t : TypeId) (p v : Value) : Sem Unit := Instr.storeAt t p v
def stuckL (P : Program) (t : TypeId) (b : Nat) (w : World) : Result Value := (loadRow t (.pointer (some ⟨b, 0, none⟩))).run P w
def stuckS (P : Program) (t : TypeId) (b : Nat) (v : Value) (w : World) : Result Unit := (storeRow t (.pointer (some ⟨b, 0, none⟩)) v).run P w
section
variable {P : Program} {w : World} {b n : Nat} {t : TypeId} {d : TypeDesc}
theorem loadRow_run (hu : P.underlying t = some d) (hd : d.isRow = true) (hi : (P.info? t).map (·.size) = some n) (b : Nat) (w : World) :
    (loadRow t (.pointer (some ⟨b, 0, none⟩))).run P w = match hget w b with | some (.cells c _ _) => if c.size = n then .ok (.agg c) w else stuckL P t b w | _ => stuckL P t b w := by
  split
  · rename_i c T fz h
    split
    · rename_i hs; exact load_row h hu hd (by rw [hi, hs])
    · rfl
  · rfl
theorem storeRow_run (hi : (P.info? t).map (·.size) = some n) (b : Nat) (c' : Array Value) (w : World) :
    (storeRow t (.pointer (some ⟨b, 0, none⟩)) (.agg c')).run P w = match hget w b with | some (.cells c T (0, 0)) => if c.size = n then (if c'.size = n then (if ones c' = true then .ok () (blk w b (.cells c' T (0, 0))) else stuckS P t b (.agg c') w) else stuckS P t b (.agg c') w) else stuckS P t b (.agg c') w | _ => stuckS P t b (.agg c') w := by
  split
  · rename_i c T h
    split
    · rename_i hs
      split
      · rename_i hs'
        split
        · rename_i h1; exact store_row h (by rw [hi, hs']) (by rw [hs, hs']) (ones_all h1)
        · rfl
      · rfl
    · rfl
  · rfl
end
theorem results_cell_tmp {P : Program} {fn : Func} {p u : Tmp} {ty : TypeId} (h : fn.results = #[.cell p ty, .tmp u]) (tmps : Array Value) (w : World) (g : Nat) (t : TypeId) (cs : Array Value) (fr : Nat × Nat) (d : TypeDesc) (v : Value)
    (hp : tmps.getD p undef = .pointer (some ⟨g, 0, none⟩)) (hv : tmps.getD u undef = v) (hg : w.heap[g]? = some (.cells cs t fr))
    (hu : P.underlying ty = some d) (hd : (match d with | .struct _ | .array _ _ => true | _ => false) = true) (hi : (P.info? ty).map (·.size) = some cs.size) :
    (results fn tmps).run P w = .ok (.tuple #[.agg cs, v]) w := by
  have hp' : tmps[p]?.getD undef = .pointer (some ⟨g, 0, none⟩) := by simpa using hp
  have hv' : tmps[u]?.getD undef = v := by simpa using hv
  simp [results, h, hp', hv', asAddr, run_loadVar_row w g t ty cs fr d hg hu hd hi]
section
variable {w w' : World} {b k : Nat} {o o' : Obj}
@[go_sem] theorem hget_drew (w : World) (b : Nat) : hget w.drew b = hget w b := rfl
@[go_sem] theorem hget_drewN (w : World) (n b : Nat) : hget (w.drewN n) b = hget w b := rfl
@[go_sem] theorem hget_alloc (w : World) (o : Obj) (b : Nat) : hget (w.alloc o) b = if b = w.heap.size then some o else hget w b := by
  show (w.heap.push o)[b]? = _
  rw [Array.getElem?_push]; rfl
@[go_sem] theorem hget_blk (w : World) (b k : Nat) (o : Obj) : hget (blk w b o) k = if k = b then (if b < w.heap.size then some o else none) else hget w k := by
  unfold blk hget
  simp only [Array.getElem?_setIfInBounds]
  split
  · rename_i h; subst h; simp
  · rename_i h; rw [if_neg (Ne.symm h)]
@[go_sem] theorem blk_size' (w : World) (b : Nat) (o : Obj) : (blk w b o).heap.size = w.heap.size := blk_size
@[go_sem] theorem blk_cell_other (w : World) (b b' j : Nat) (o : Obj) (h : (b' = b) = False) : (blk w b o).cell? ⟨b', j, none⟩ = w.cell? ⟨b', j, none⟩ := by
  have hn : b' ≠ b := fun e => by rw [e] at h; simp at h
  exact World.cell?_of_block (blk_other (w := w) (b := b) (o := o) b' hn)
@[go_sem] theorem blk_alloc_new (w : World) (o o' : Obj) : blk (w.alloc o) w.heap.size o' = w.alloc o' := by
  unfold blk World.alloc
  congr 1
  apply Array.ext
  · simp
  · intro i h1 h2
    simp only [Array.size_setIfInBounds, Array.size_push] at h1
    rw [Array.getElem_setIfInBounds (by simpa using h1)]
    rcases Nat.lt_or_ge i w.heap.size with h | h
    · rw [if_neg (by omega), Array.getElem_push_lt h, Array.getElem_push_lt h]
    · have : i = w.heap.size := by omega
      subst this
      simp
@[go_sem] theorem ne_s2 (n : Nat) : (n = n + 1 + 1) = False := by simp; omega
@[go_sem] theorem ne_t2 (n : Nat) : (n + 1 + 1 = n) = False := by simp; omega
@[go_sem] theorem ne_s3 (n : Nat) : (n = n + 1 + 1 + 1) = False := by simp; omega
@[go_sem] theorem ne_t3 (n : Nat) : (n + 1 + 1 + 1 = n) = False := by simp; omega
@[go_sem] theorem ne_s4 (n : Nat) : (n = n + 1 + 1 + 1 + 1) = False := by simp; omega
@[go_sem] theorem ne_t4 (n : Nat) : (n + 1 + 1 + 1 + 1 = n) = False := by simp; omega
@[go_sem] theorem ne_s5 (n : Nat) : (n = n + 1 + 1 + 1 + 1 + 1) = False := by simp; omega
@[go_sem] theorem ne_t5 (n : Nat) : (n + 1 + 1 + 1 + 1 + 1 = n) = False := by simp; omega
@[go_sem] theorem ne_s6 (n : Nat) : (n = n + 1 + 1 + 1 + 1 + 1 + 1) = False := by simp; omega
@[go_sem] theorem ne_t6 (n : Nat) : (n + 1 + 1 + 1 + 1 + 1 + 1 = n) = False := by simp; omega
@[go_sem] theorem ne_s7 (n : Nat) : (n = n + 1 + 1 + 1 + 1 + 1 + 1 + 1) = False := by simp; omega
@[go_sem] theorem ne_t7 (n : Nat) : (n + 1 + 1 + 1 + 1 + 1 + 1 + 1 = n) = False := by simp; omega
@[go_sem] theorem ne_s8 (n : Nat) : (n = n + 1 + 1 + 1 + 1 + 1 + 1 + 1 + 1) = False := by simp; omega
@[go_sem] theorem ne_t8 (n : Nat) : (n + 1 + 1 + 1 + 1 + 1 + 1 + 1 + 1 = n) = False := by simp; omega
theorem hget_lt (h : hget w b = some o) : b < w.heap.size := lt_blk h
theorem hget_hid (h : Hid (hget w b = some o)) : w.heap[b]? = some o := h.out
/-- Behind a call: what stood, stands; it is not what is made next. -/
structure Kept (w : World) (b : Nat) (o : Obj) : Prop where
  get : hget w b = some o
  lt : b < w.heap.size
  ne : (b = w.heap.size) = False
  ne' : (w.heap.size = b) = False
theorem kept (h : hget w b = some o) : Kept w b o := by
  have := hget_lt h
  exact ⟨h, this, by simp; omega, by simp; omega⟩
theorem Kept.on (h : Kept w b o) (hb : Below w.heap.size w w') : Kept w' b o := kept ((hb.block b h.lt).trans h.get)
theorem Kept.later (h : Kept w b o) (x : Later w) : hget x.w' b = some o := later_block h.get x
end
end Go.Proofs.Ytkmkgfgppblleaa

namespace Go.Proofs.Ytkmkgfgppblleaa
open Go Go.RowKit

structure But (L : List Nat) (w w' : World) : Prop where
  os : w'.os = w.os
  tape : w'.tape = w.tape
  output : w'.output = w.output
  size : w.heap.size ≤ w'.heap.size
  block : ∀ k, k < w.heap.size → k ∉ L → w'.heap[k]? = w.heap[k]?
theorem But.refl (L : List Nat) (w : World) : But L w w := ⟨rfl, rfl, rfl, Nat.le_refl _, fun _ _ _ => rfl⟩
theorem But.trans {L : List Nat} {a w w' : World} (h : But L a w) (k : But L w w') : But L a w' :=
  ⟨k.os.trans h.os, k.tape.trans h.tape, k.output.trans h.output, Nat.le_trans h.size k.size, fun i hi hn => (k.block i (Nat.lt_of_lt_of_le hi h.size) hn).trans (h.block i hi hn)⟩
theorem But.of_below {L : List Nat} {w w' : World} (h : Below w.heap.size w w') : But L w w' := ⟨h.os, h.tape, h.output, h.size, fun k hk _ => h.block k hk⟩
theorem But.of_only {L : List Nat} {b : Nat} {w w' : World} (h : Only b w w') (hb : b ∈ L) : But L w w' := ⟨h.os, h.tape, h.output, h.size, fun k hk hn => h.block k hk (fun e => hn (e ▸ hb))⟩
theorem But.alloc {L : List Nat} {a w : World} (h : But L a w) (o : Obj) : But L a (w.alloc o) :=
  ⟨h.os, h.tape, h.output, Nat.le_trans h.size (by simp), fun i hi hn => (Below.heap_alloc w o i (Nat.lt_of_lt_of_le hi h.size)).trans (h.block i hi hn)⟩
theorem But.drew {L : List Nat} {a w : World} (h : But L a w) : But L a w.drew := ⟨h.os, h.tape, h.output, h.size, h.block⟩
theorem But.drewN {L : List Nat} {a w : World} (h : But L a w) (n : Nat) : But L a (w.drewN n) := ⟨h.os, h.tape, h.output, h.size, h.block⟩
theorem But.blk {L : List Nat} {a w : World} (h : But L a w) {c : Nat} (hc : c ∈ L ∨ a.heap.size ≤ c) (o : Obj) : But L a (blk w c o) :=
  ⟨h.os, h.tape, h.output, Nat.le_trans h.size (by simp [Proofs.Ytkmkgfgppblleaa.blk]), fun i hi hn => (blk_other i (by rintro rfl; rcases hc with hc | hc; exact hn hc; omega)).trans (h.block i hi hn)⟩
theorem But.setCell {L : List Nat} {a w : World} (h : But L a w) {p : Addr} (hp : p.block ∈ L ∨ a.heap.size ≤ p.block) (u : Value) : But L a (w.setCell p u) :=
  ⟨h.os, h.tape, h.output, Nat.le_trans h.size (by simp [World.setCell]), fun i hi hn => (Below.heap_setCell w p u i (by rintro rfl; rcases hp with hp | hp; exact hn hp; omega)).trans (h.block i hi hn)⟩
theorem But.below {L : List Nat} {B : Nat} {w w' : World} (h : But L w w') (hb : ∀ b ∈ L, B ≤ b) (hB : B ≤ w.heap.size) : Below B w w' :=
  ⟨h.os, h.tape, h.output, h.size, fun k hk => h.block k (by omega) (fun hm => by have := hb k hm; omega)⟩
theorem But.keep {L : List Nat} {w w' : World} {b : Nat} {o : Obj} (h : But L w w') (hb : w.heap[b]? = some o) (hn : b ∉ L) : w'.heap[b]? = some o := (h.block b (lt_blk hb) hn).trans hb
theorem But.cell {L : List Nat} {w w' : World} {p : Addr} {v : Value} (h : But L w w') (hc : w.cell? p = some v) (hn : p.block ∉ L) : w'.cell? p = some v :=
  (World.cell?_of_block (w := w) (h.block p.block (World.block_lt_of_cell? w p hc) hn)).trans hc

end Go.Proofs.Ytkmkgfgppblleaa

namespace Go.Proofs.Ytkmkgfgppblleaa
open Go.RowKit

theorem info_u8 : (Try.prog.info? 5).map (fun i => (i.zero, i.size, i.bytes)) = some (some (.int .u8 0), 1, 1) := by kernel_rfl

/-- Bytes as values. -/
def u8s (l : List UInt8) : List Value := l.map fun c => Value.int .u8 (c.toNat : Int)

set_option maxRecDepth 100000 in
theorem conv_string (w : World) (b off len cap : Nat) (l : List UInt8) (hl : l.length = len) (hc : ∀ j, j < len → w.cell? ⟨b, off + j, none⟩ = some (.int .u8 ((l.getD j 0).toNat : Int))) :
    (convert 24 9 (.slice (some ⟨b, off, none⟩) len cap)).run Try.prog w = .ok (.string ⟨l.toArray⟩) w := by
  have h := run_convert_bytes_arg (P := Try.prog) w 24 5 Try.underlying24 Try.underlying5 b off len cap (l.map fun c => (c.toNat : Int)) (by simpa using hl) (fun i hi => by
    rw [hc i hi]; simp [hl, hi]) 9 Try.underlying9
  rw [h]
  congr 2
  unfold strOfNums
  congr 1
  rw [List.map_map]
  congr 1
  conv => rhs; rw [← List.map_id l]
  exact List.map_congr_left fun c _ => by simp

theorem block_le {w : World} {base : Nat} {e : TypeId} {size : Nat} {v : Value} {n : Nat} {xs : List Value} (h : w.ownsRow base e size v n xs) {g : Nat} (hg : v.ownBlock = some g) : base ≤ g := by
  obtain ⟨_, h2⟩ := h
  rcases h2 with ⟨rfl, _⟩ | ⟨g', cap, cur, rfl, hb, _⟩
  · simp [Value.ownBlock] at hg
  · simp [Value.ownBlock] at hg; omega

@[go_sem] theorem conv_bytes (s : ByteArray) (w : World) : (convert 9 24 (.string s)).run Try.prog w = .ok (.slice (some ⟨w.heap.size, 0, none⟩) s.size (grownCap w s.size 0 5)) (Lib.bytesWorld w 5 s) :=
  Lib.run_convert_string_bytes w 9 24 5 s Try.underlying9 Try.underlying24 Try.underlying5
theorem bytesWorld_below (w : World) (e : TypeId) (s : ByteArray) : Below w.heap.size w (Lib.bytesWorld w e s) :=
  ⟨rfl, rfl, rfl, by rw [Lib.bytesWorld_size]; omega, fun k hk => Lib.bytesWorld_at_old w e s k hk⟩
/-- What is known of the bytes that are laid. -/
structure Laid (w : World) (b : Nat) (l : List UInt8) : Prop where
  ex : ∃ C T n, w.heap[b]? = some (.cells C T (n, n + 1)) ∧ l.length ≤ n ∧ ∀ j, j < l.length → C[j]? = some (.int .u8 ((l.getD j 0).toNat : Int))
theorem laid_bytes (w : World) (s : ByteArray) : Laid (Lib.bytesWorld w 5 s) w.heap.size s.data.toList := by
  refine ⟨⟨_, _, _, Lib.bytesWorld_at_new w 5 s, ?_, fun j hj => ?_⟩⟩
  · simp [Lib.bytesCells]
  · have := Lib.bytesWorld_cell w 5 s j (by simpa using hj)
    rwa [cell_at (Lib.bytesWorld_at_new w 5 s)] at this
theorem Laid.cell {w : World} {b : Nat} {l : List UInt8} (h : Laid w b l) {j : Nat} (hj : j < l.length) : w.cell? ⟨b, j, none⟩ = some (.int .u8 ((l.getD j 0).toNat : Int)) := by
  obtain ⟨C, T, n, h1, _, h3⟩ := h.ex
  rw [cell_at h1, h3 j hj]
theorem Laid.free {w : World} {b : Nat} {l : List UInt8} (h : Laid w b l) {j : Nat} (hj : j < l.length) : w.frozen? ⟨b, j, none⟩ = false := by
  obtain ⟨C, T, n, h1, h2, h3⟩ := h.ex
  simp [World.frozen?, h1]; omega
theorem Laid.set {w : World} {b : Nat} {l : List UInt8} (h : Laid w b l) (j : Nat) (x : UInt8) : Laid (w.setCell ⟨b, j, none⟩ (.int .u8 (x.toNat : Int))) b (l.set j x) := by
  obtain ⟨C, T, n, h1, h2, h3⟩ := h.ex
  refine ⟨⟨_, _, _, at_setCell h1 _ _, by simpa using h2, fun i hi => ?_⟩⟩
  rw [List.length_set] at hi
  rw [Array.getElem?_setIfInBounds]
  by_cases hij : j = i
  · subst hij
    have hlt : j < C.size := by
      have := h3 j hi
      rcases Nat.lt_or_ge j C.size with h' | h'
      · exact h'
      · simp [Array.getElem?_eq_none h'] at this
    simp [hlt, hi]
  · rw [if_neg hij, h3 i hi]; simp [hij]

theorem u8s_append (l m : List UInt8) : u8s (l ++ m) = u8s l ++ u8s m := by simp [u8s]
theorem u8s_length (l : List UInt8) : (u8s l).length = l.length := by simp [u8s]
/-- The cells of a row that is appended to. -/
theorem owns_cell {w : World} {base : Nat} {v : Value} {n : Nat} {l : List UInt8} (h : w.ownsRow base 5 1 v n (u8s l)) (hn : n = l.length) (h0 : 0 < n) :
    ∃ g cap, v = .slice (some ⟨g, 0, none⟩) n cap ∧ base ≤ g ∧ n ≤ cap ∧ (∀ j, j < n → w.cell? ⟨g, j, none⟩ = some (.int .u8 ((l.getD j 0).toNat : Int))) := by
  obtain ⟨_, h2⟩ := h
  rcases h2 with ⟨_, h0'⟩ | ⟨g, cap, cur, rfl, hg, hc, hle, _, hsz, hxs⟩
  · omega
  refine ⟨g, cap, rfl, hg, hle, fun j hj => ?_⟩
  rw [cell_at hc]
  have h3 : cur.toList[j]? = (u8s l)[j]? := by
    have h4 : (cur.toList.take (n * 1))[j]? = cur.toList[j]? := by rw [List.getElem?_take, if_pos (by omega)]
    rw [← h4, hxs]
  rw [← Array.getElem?_toList, h3]
  unfold u8s
  have hjl : j < l.length := by omega
  simp [hjl]

end Go.Proofs.Ytkmkgfgppblleaa

namespace Go.Proofs.Ytkmkgfgppblleaa
open Go Go.RowKit

/-- But for the blocks that ex names, and for new ones, the world is as it was. -/
structure Out (ex : Nat → Prop) (w w' : World) : Prop where
  os : w'.os = w.os
  tape : w'.tape = w.tape
  output : w'.output = w.output
  size : w.heap.size ≤ w'.heap.size
  block : ∀ k, k < w.heap.size → ¬ ex k → w'.heap[k]? = w.heap[k]?
section
variable {ex ex' : Nat → Prop} {a b c w w' : World}
theorem Out.refl (ex : Nat → Prop) (w : World) : Out ex w w := ⟨rfl, rfl, rfl, Nat.le_refl _, fun _ _ _ => rfl⟩
theorem Out.trans (h : Out ex a b) (k : Out ex' b c) (he : ∀ j, j < a.heap.size → ex' j → ex j) : Out ex a c :=
  ⟨k.os.trans h.os, k.tape.trans h.tape, k.output.trans h.output, Nat.le_trans h.size k.size, fun i hi hn => (k.block i (Nat.lt_of_lt_of_le hi h.size) (fun e => hn (he i hi e))).trans (h.block i hi hn)⟩
theorem Out.then (h : Out ex a b) (k : Out ex b c) : Out ex a c := h.trans k fun _ _ e => e
theorem Out.mono (h : Out ex a b) (he : ∀ j, j < a.heap.size → ex j → ex' j) : Out ex' a b := ⟨h.os, h.tape, h.output, h.size, fun i hi hn => h.block i hi fun e => hn (he i hi e)⟩
theorem Out.of_below (h : Below w.heap.size w w') : Out ex w w' := ⟨h.os, h.tape, h.output, h.size, fun k hk _ => h.block k hk⟩
theorem Out.below {B : Nat} (h : Out ex w w') (he : ∀ k, ex k → B ≤ k) (hB : B ≤ w.heap.size) : Below B w w' := ⟨h.os, h.tape, h.output, h.size, fun k hk => h.block k (by omega) (fun e => by have := he k e; omega)⟩
theorem Out.of_grown {row : Option Nat} (h : w.grownBy w' row) (he : ∀ k, row = some k → ex k) : Out ex w w' := ⟨h.os, h.tape, h.output, h.size, fun k hk hn => h.block k hk (fun e => hn (he k e.symm))⟩
theorem Out.of_dr (h : Dr w w') : Out ex w w' := by obtain ⟨n, rfl⟩ := h; exact ⟨rfl, rfl, rfl, Nat.le_refl _, fun _ _ _ => rfl⟩
theorem Out.drew (h : Out ex a w) : Out ex a w.drew := ⟨h.os, h.tape, h.output, h.size, h.block⟩
theorem Out.drewN (h : Out ex a w) (n : Nat) : Out ex a (w.drewN n) := ⟨h.os, h.tape, h.output, h.size, h.block⟩
theorem Out.alloc (h : Out ex a w) (o : Obj) : Out ex a (w.alloc o) := h.then ⟨rfl, rfl, rfl, by simp, fun i hi _ => Below.heap_alloc w o i hi⟩
theorem Out.setCell (h : Out ex a w) {p : Addr} (hp : ex p.block ∨ a.heap.size ≤ p.block) (u : Value) : Out ex a (w.setCell p u) :=
  ⟨h.os, h.tape, h.output, Nat.le_trans h.size (by simp [World.setCell]), fun i hi hn => (Below.heap_setCell w p u i (fun e => by subst e; rcases hp with hp | hp; exact hn hp; omega)).trans (h.block i hi hn)⟩
theorem Out.blk (h : Out ex a w) {b : Nat} (hb : ex b ∨ a.heap.size ≤ b) (o : Obj) : Out ex a (blk w b o) :=
  ⟨h.os, h.tape, h.output, Nat.le_trans h.size (by simp [Proofs.Ytkmkgfgppblleaa.blk]), fun i hi hn => (blk_other i (fun e => by subst e; rcases hb with hb | hb; exact hn hb; omega)).trans (h.block i hi hn)⟩
theorem Out.get (h : Out ex w w') {b : Nat} {o : Obj} (g : hget w b = some o) (hn : ¬ ex b) : hget w' b = some o := (h.block b (hget_lt g) hn).trans g
theorem Out.cell (h : Out ex w w') {p : Addr} {v : Value} (g : w.cell? p = some v) (hn : ¬ ex p.block) : w'.cell? p = some v :=
  (World.cell?_of_block (h.block p.block (World.block_lt_of_cell? w p g) hn)).trans g
end
theorem hget_setCell {w : World} {b : Nat} {c : Array Value} {T : TypeId} {fz : Nat × Nat} (h : hget w b = some (.cells c T fz)) (k : Nat) (v : Value) : hget (w.setCell ⟨b, k, none⟩ v) b = some (.cells (c.setIfInBounds k v) T fz) := at_setCell h k v
theorem hget_setCell_ne {w : World} {b : Nat} {o : Obj} (h : hget w b = some o) {p : Addr} (hp : b ≠ p.block) (v : Value) : hget (w.setCell p v) b = some o := at_setCell_other h hp v
theorem hget_grown {w w' : World} {b : Nat} {o : Obj} {row : Option Nat} (h : hget w b = some o) (hg : w.grownBy w' row) (hn : some b ≠ row) : hget w' b = some o := (hg.block b (hget_lt h) hn).trans h

/-- A slice of bytes that an object has for itself: what it holds. -/
def OwnsQ (w : World) (v : Value) (l : List UInt8) : Prop :=
  (v = .slice none 0 0 ∧ l = []) ∨
  ∃ g cap cur, v = .slice (some ⟨g, 0, none⟩) l.length cap ∧ hget w g = some (.cells cur 5 (0, 0)) ∧ l.length ≤ cap ∧ cap ≤ cur.size ∧ cur.size ≤ maxLen ∧ cur.toList.take l.length = u8s l
theorem OwnsQ.nil (w : World) : OwnsQ w (.slice none 0 0) [] := .inl ⟨rfl, rfl⟩
theorem OwnsQ.keep {w w' : World} {v : Value} {l : List UInt8} (h : OwnsQ w v l) (hk : ∀ g o, v.ownBlock = some g → hget w g = some o → hget w' g = some o) : OwnsQ w' v l := by
  rcases h with h | ⟨g, cap, cur, rfl, h2, h3⟩
  · exact .inl h
  · exact .inr ⟨g, cap, cur, rfl, hk g _ rfl h2, h3⟩
theorem OwnsQ.lt {w : World} {v : Value} {l : List UInt8} (h : OwnsQ w v l) {g : Nat} (hg : v.ownBlock = some g) : g < w.heap.size := by
  rcases h with ⟨rfl, _⟩ | ⟨g', cap, cur, rfl, h2, _⟩
  · simp [Value.ownBlock] at hg
  · simp [Value.ownBlock] at hg; subst hg; exact hget_lt h2
theorem OwnsQ.shape {w : World} {v : Value} {l : List UInt8} (h : OwnsQ w v l) : ∃ a cap, v = .slice a l.length cap ∧ l.length ≤ cap ∧ (a = none → cap = 0) ∧ cap ≤ maxLen ∧
    (∀ j, j < l.length → ∃ g, a = some ⟨g, 0, none⟩ ∧ w.cell? ⟨g, j, none⟩ = some (.int .u8 ((l.getD j 0).toNat : Int))) := by
  rcases h with ⟨rfl, rfl⟩ | ⟨g, cap, cur, rfl, h2, h3, h4, h5, h6⟩
  · exact ⟨none, 0, rfl, Nat.le_refl _, fun _ => rfl, by unfold maxLen; omega, fun j hj => by simp at hj⟩
  · refine ⟨_, _, rfl, h3, (fun e => by cases e), Nat.le_trans h4 h5, fun j hj => ⟨g, rfl, ?_⟩⟩
    rw [cell_at h2]
    have h3 : cur.toList[j]? = (u8s l)[j]? := by
      have h4 : (cur.toList.take l.length)[j]? = cur.toList[j]? := by rw [List.getElem?_take, if_pos hj]
      rw [← h4, h6]
    rw [← Array.getElem?_toList, h3]
    unfold u8s
    simp [hj]

section
variable {P : Program}
theorem run_append_Q (w : World) (t tx ty : TypeId) (i : TypeInfo) (ht : P.underlying t = some (.slice 5)) (hi : P.info? 5 = some i) (hz : i.zero = some (.int .u8 0)) (hs1 : i.size = 1) (hb1 : i.bytes = 1)
    (v x : Value) (l m : List UInt8) (h : OwnsQ w v l) (hs : Src P 1 tx x m.length (u8s m) w) (hm : 0 < m.length) (hlen : l.length + m.length ≤ 140737488355328) :
    ∃ v' w', (Builtin.append_ #[t, tx] ty #[v, x]).run P w = .ok v' w' ∧ OwnsQ w' v' (l ++ m) ∧ w.grownBy w' v.ownBlock ∧ (v'.ownBlock = v.ownBlock ∨ v'.ownBlock = some w.heap.size) := by
  have grow : ∀ (b : Option Addr) (n cap : Nat), n = l.length → cap < n + m.length → (Builtin.firstCells i.size n (.slice b n cap)).run P w.drew = .ok (u8s l).toArray w.drew → v = .slice b n cap →
      ∃ v' w', (Builtin.append_ #[t, tx] ty #[v, x]).run P w = .ok v' w' ∧ OwnsQ w' v' (l ++ m) ∧ w.grownBy w' v.ownBlock ∧ (v'.ownBlock = v.ownBlock ∨ v'.ownBlock = some w.heap.size) := by
    intro b n cap hn hc hf hv
    have hr := run_append_grow_src (P := P) w t tx ty 5 i (.int .u8 0) ht hi hz b n cap (u8s l) hf x m.length (u8s m) (by rw [hs1]; exact hs) hc (by omega) (by
      rw [hb1, Nat.mul_one]
      have := nextslicecap_le hc
      omega)
    rw [hv]
    have hge := grownCap_ge w (n + m.length) cap 5
    have hle := grownCap_le_maxLen w (n + m.length) cap 5 (by unfold maxLen; omega)
    have e1 : (Value.int IntKind.u8 0).cells.size = 1 := rfl
    refine ⟨_, _, hr, .inr ⟨w.heap.size, grownCap w (n + m.length) cap 5, _, by rw [List.length_append, hn], heap_alloc_new w.drew _, ?_, ?_, ?_, ?_⟩, ⟨rfl, rfl, rfl, by simp, fun k hk _ => heap_alloc_old w.drew _ hk⟩, .inr rfl⟩
    · rw [List.length_append]; omega
    · simp only [Array.size_append, List.size_toArray, List.length_append, u8s_length, size_zeroCells]
      rw [e1]; omega
    · simp only [Array.size_append, List.size_toArray, List.length_append, u8s_length, size_zeroCells]
      rw [e1]; omega
    · rw [Array.toList_append, List.take_append_of_le_length (by simp [u8s_length]), List.take_of_length_le (by simp [u8s_length]), u8s_append]
  rcases h with ⟨rfl, rfl⟩ | ⟨g, cap, cur, rfl, hc, hle, hmx, hsz, hxs⟩
  · exact grow none 0 0 rfl (by omega) (by rw [hs1]; exact run_firstCells_none w.drew 1 0 0 0) rfl
  · by_cases hroom : l.length + m.length ≤ cap
    · have hcell : ∀ j, j < cap → (w.cell? ⟨g, j, none⟩).isSome = true := fun j hj => by rw [cell_at hc]; simp; omega
      have hr := run_append_room_src (P := P) w t tx ty 5 i ht hi g 0 l.length cap x m.length (u8s m) (by rw [hs1]; exact hs) hroom (fun j hj => by rw [hs1, Nat.zero_add, Nat.mul_one]; exact hcell _ (by rw [u8s_length] at hj; omega))
        (fun j hj => by rw [hs1, Nat.zero_add, Nat.mul_one]; exact free_at hc _)
      rw [hs1, Nat.zero_add, Nat.mul_one] at hr
      have hcur : cur = (u8s l ++ (cur.toList.drop l.length).take m.length ++ cur.toList.drop (l.length + m.length)).toArray := by
        apply Array.ext'
        simp only []
        rw [← hxs, ← List.drop_drop, List.append_assoc, List.take_append_drop, List.take_append_drop]
      have hset := setCells_row (u8s m) w g (u8s l) ((cur.toList.drop l.length).take m.length) (cur.toList.drop (l.length + m.length)) 5 (0, 0) (by rw [← hcur]; exact hc) (by rw [List.length_take, List.length_drop, u8s_length]; simp; omega)
      rw [u8s_length] at hset
      rw [hset] at hr
      have hnew := blk_heap (o := .cells (u8s l ++ u8s m ++ cur.toList.drop (l.length + m.length)).toArray 5 (0, 0)) (lt_blk hc)
      refine ⟨_, _, hr, .inr ⟨g, cap, _, by rw [List.length_append], hnew, by rw [List.length_append]; exact hroom, ?_, ?_, ?_⟩, ⟨rfl, rfl, rfl, by simp [blk], fun k hk hn => blk_other k (by rintro rfl; exact hn rfl)⟩, .inl rfl⟩
      · simp only [List.size_toArray, List.length_append, u8s_length, List.length_drop, Array.length_toList]; omega
      · simp only [List.size_toArray, List.length_append, u8s_length, List.length_drop, Array.length_toList]; omega
      · rw [List.length_append]
        rw [List.take_append_of_le_length (by simp [u8s_length]), List.take_of_length_le (by simp [u8s_length]), u8s_append]
    · refine grow (some ⟨g, 0, none⟩) l.length cap rfl (by omega) ?_ rfl
      have := run_firstCells_some (P := P) w.drew i.size l.length ⟨g, 0, none⟩ l.length cap (u8s l) (by rw [hs1, u8s_length, Nat.mul_one]) (fun j u hu => by
        rw [Addr.add_mid, Nat.zero_add]
        show w.cell? _ = _
        rw [cell_at hc, ← Array.getElem?_toList]
        have hj : j < l.length := by have := (List.getElem?_eq_some_iff.1 hu).1; rwa [u8s_length] at this
        have h4 : (cur.toList.take l.length)[j]? = cur.toList[j]? := by rw [List.getElem?_take, if_pos hj]
        rw [← h4, hxs, hu])
      exact this
theorem wpList_append_Q {ops : Array Oper} {rest : List Oper} {o : Oper} {a : Act} {w : World} {Q : Exit → Act → World → Prop} (hgd : o.guard = none) (s x : Operand) (t tx : TypeId)
    (ho : o.op = .call { callee := .builtin .append, args := #[s, x], argTypes := #[t, tx] }) (i : TypeInfo) (ht : P.underlying t = some (.slice 5)) (hi : P.info? 5 = some i) (hz : i.zero = some (.int .u8 0)) (hs1 : i.size = 1) (hb1 : i.bytes = 1)
    (v y : Value) (hv : a.eval s = v) (hy : a.eval x = y) (l m : List UInt8) (h : OwnsQ w v l) (hs : Src P 1 tx y m.length (u8s m) w) (hm : 0 < m.length) (hlen : l.length + m.length ≤ 140737488355328)
    (k : ∀ v' w', OwnsQ w' v' (l ++ m) → w.grownBy w' v.ownBlock → (v'.ownBlock = v.ownBlock ∨ v'.ownBlock = some w.heap.size) → wpList P ops Q rest (a.put o.dst v') w') : wpList P ops Q (o :: rest) a w := by
  refine wpList_plain hgd fun _ hK => ?_
  obtain ⟨v', w', hr, h2, h3, h4⟩ := run_append_Q (P := P) w t tx o.type i ht hi hz hs1 hb1 v y l m h hs hm hlen
  unfold Oper.wp execOp
  simp only [ho, resolve, invoke, builtin, Sem.run_bind, Sem.run_pure, Result.andThen_ok, List.map_toArray, List.map_cons, List.map_nil, hv, hy, hr]
  exact hK _ _ (k v' w' h2 h3 h4)
end
end Go.Proofs.Ytkmkgfgppblleaa

namespace Go.Proofs.Ytkmkgfgppblleaa
namespace FL

/-- How far x stands behind n. -/
def ofs (x n : Nat) : Nat := (x + 4294967296 - n) % 4294967296
theorem ofs_lt (x n : Nat) : ofs x n < 4294967296 := Nat.mod_lt _ (by decide)
theorem ofs_int (x n : Nat) (hn : n < 4294967296) : ((x : Int) - n) % 4294967296 = (ofs x n : Nat) := by unfold ofs; omega

structure FS where
  next : Nat
  size : Nat
  ready : List UInt8
  held : List (Option UInt8)
  hasEnd : Bool
  endo : Nat
  ended : Bool

def new (next size : Nat) : FS := ⟨next, size, [], List.replicate (size + 1) none, false, 0, false⟩
def FS.win (s : FS) : Nat := if s.ended then 0 else s.size - s.ready.length
def FS.cnt (s : FS) : Nat := s.held.countP Option.isSome

/-- One byte that came. -/
def lay1 (s : FS) (at' : Nat) (c : UInt8) (l : List (Option UInt8)) : List (Option UInt8) :=
  if decide (at' < s.win) && (l.getD at' none).isNone && (!s.hasEnd || decide (at' < s.endo)) then l.set at' (some c) else l
/-- The first k bytes that came. -/
def layK (s : FS) (seq : Nat) (data : List UInt8) : Nat → List (Option UInt8)
  | 0 => s.held
  | k + 1 => lay1 s (ofs ((seq + k) % 4294967296) s.next) (data.getD k 0) (layK s seq data k)
/-- Does the end lie here? -/
def ends (s : FS) (l : List (Option UInt8)) (e : Nat) (fin : Bool) : Bool := fin && !s.hasEnd && decide (e < s.win + 1) && (l.drop e).all Option.isNone
/-- What is held next. -/
def lead (l : List (Option UInt8)) : Nat := (l.takeWhile Option.isSome).length
def bytes (l : List (Option UInt8)) : List UInt8 := l.filterMap id
def move (s : FS) : FS :=
  let n := lead s.held
  let done := s.hasEnd && decide (s.endo = n)
  { s with next := if done then ((s.next + n) % 4294967296 + 1) % 4294967296 else (s.next + n) % 4294967296, ready := s.ready ++ bytes (s.held.take n), held := s.held.drop n ++ List.replicate n none, endo := s.endo - n, ended := done }
def put (s : FS) (seq : Nat) (data : List UInt8) (fin : Bool) : FS :=
  if s.ended || decide (65536 < data.length) then s else
  let l := layK s seq data data.length
  let e := ofs ((seq + data.length) % 4294967296) s.next
  let b := ends s l e fin
  move { s with held := l, hasEnd := s.hasEnd || b, endo := if b then e else s.endo }
def took (s : FS) (seq : Nat) (data : List UInt8) (fin : Bool) : Bool := if s.ended || decide (65536 < data.length) then false else (put s seq data fin).next != s.next
def readN (s : FS) (most : Int) : Nat := min (max most 0).toNat s.ready.length
def read (s : FS) (most : Int) : FS := { s with ready := s.ready.drop (readN s most) }

/-- What a queue is, always. -/
structure Inv (s : FS) : Prop where
  next : s.next < 4294967296
  size : 1 ≤ s.size ∧ s.size ≤ 65536
  len : s.held.length = s.size + 1
  room : s.ready.length ≤ s.size
  held : ∀ i, (s.held.getD i none).isSome = true → i < s.win
  behind : s.hasEnd = true → s.ended = false → s.endo ≤ s.win ∧ ∀ i, (s.held.getD i none).isSome = true → i < s.endo

theorem getD_some {l : List (Option UInt8)} {i : Nat} (h : (l.getD i none).isSome = true) : i < l.length := by
  rcases Nat.lt_or_ge i l.length with h' | h'
  · exact h'
  · rw [List.getD_eq_getElem?_getD, List.getElem?_eq_none h'] at h; cases h

theorem inv_new {next size : Nat} (hn : next < 4294967296) (h : 1 ≤ size ∧ size ≤ 65536) : Inv (new next size) :=
  by
  refine ⟨hn, h, by simp [new], by simp [new], fun i hi => ?_, fun hc => by simp [new] at hc⟩
  ·
    have h0 : (List.replicate (size + 1) (none : Option UInt8)).getD i none = none := by
      rw [List.getD_eq_getElem?_getD]
      rcases Nat.lt_or_ge i (size + 1) with h' | h'
      · rw [List.getElem?_replicate, if_pos h']; rfl
      · rw [List.getElem?_eq_none (by simpa using h')]; rfl
    change ((List.replicate (size + 1) (none : Option UInt8)).getD i none).isSome = true at hi
    rw [h0] at hi
    cases hi

theorem getD_set (l : List (Option UInt8)) (k i : Nat) (c : Option UInt8) : (l.set k c).getD i none = if i = k ∧ k < l.length then c else l.getD i none := by
  rw [List.getD_eq_getElem?_getD, List.getElem?_set, List.getD_eq_getElem?_getD]
  by_cases h : k = i
  · subst h
    by_cases h2 : k < l.length
    · simp [h2]
    · simp [h2]
  · rw [if_neg h, if_neg (by omega)]

theorem lay1_len (s : FS) (a : Nat) (c : UInt8) (l : List (Option UInt8)) : (lay1 s a c l).length = l.length := by
  unfold lay1; split <;> simp
theorem layK_len (s : FS) (seq : Nat) (data : List UInt8) (k : Nat) : (layK s seq data k).length = s.held.length := by
  induction k with
  | zero => rfl
  | succ k ih => rw [layK, lay1_len, ih]
/-- What is held behind a byte that came. -/
theorem lay1_some {s : FS} {a : Nat} {c : UInt8} {l : List (Option UInt8)} {i : Nat} (h : ((lay1 s a c l).getD i none).isSome = true) :
    (l.getD i none).isSome = true ∨ (i = a ∧ a < s.win ∧ (s.hasEnd = true → a < s.endo)) := by
  unfold lay1 at h
  split at h
  · rename_i hc
    rw [getD_set] at h
    split at h
    · rename_i h2
      right
      simp only [Bool.and_eq_true, decide_eq_true_eq, Bool.or_eq_true, Bool.not_eq_true'] at hc
      refine ⟨h2.1, hc.1.1, fun he => ?_⟩
      rcases hc.2 with h3 | h3
      · rw [he] at h3; cases h3
      · exact h3
    · exact .inl h
  · exact .inl h
theorem layK_some {s : FS} (hs : Inv s) (hne : s.ended = false) (seq : Nat) (data : List UInt8) (k : Nat) :
    ∀ i, ((layK s seq data k).getD i none).isSome = true → i < s.win ∧ (s.hasEnd = true → i < s.endo) := by
  induction k with
  | zero => exact fun i hi => ⟨hs.held i hi, fun he => (hs.behind he hne).2 i hi⟩
  | succ k ih =>
    intro i hi
    rcases lay1_some hi with h | ⟨rfl, h1, h2⟩
    · exact ih i h
    · exact ⟨h1, h2⟩

theorem lead_le (l : List (Option UInt8)) : lead l ≤ l.length := by
  unfold lead
  induction l with
  | nil => exact Nat.le_refl _
  | cons a l ih =>
    rw [List.takeWhile_cons]
    split
    · simp only [List.length_cons]; omega
    · simp
theorem lead_some (l : List (Option UInt8)) : ∀ i, i < lead l → (l.getD i none).isSome = true := by
  induction l with
  | nil => intro i hi; simp [lead] at hi
  | cons a l ih =>
    intro i hi
    unfold lead at hi
    rw [List.takeWhile_cons] at hi
    cases ha : a.isSome
    · rw [ha] at hi; simp at hi
    · rw [ha] at hi
      cases i with
      | zero => simpa using ha
      | succ i =>
        simp only [if_true, List.length_cons] at hi
        simpa using ih i (by unfold lead; omega)
theorem lead_stop (l : List (Option UInt8)) : (l.getD (lead l) none).isSome = false := by
  induction l with
  | nil => rfl
  | cons a l ih =>
    unfold lead
    rw [List.takeWhile_cons]
    cases ha : a.isSome
    · simpa using ha
    · simpa [lead] using ih
theorem bytes_len (l : List (Option UInt8)) : (bytes (l.take (lead l))).length = lead l := by
  have h : l.take (lead l) = l.takeWhile Option.isSome := by
    unfold lead
    induction l with
    | nil => rfl
    | cons a l ih =>
      rw [List.takeWhile_cons]
      split
      · simp only [List.length_cons, List.take_succ_cons, ih]
      · rfl
  rw [h]
  clear h
  unfold bytes lead
  have hall : ∀ x ∈ l.takeWhile Option.isSome, x.isSome = true := fun x hx => by
    induction l with
    | nil => simp at hx
    | cons a l ih =>
      rw [List.takeWhile_cons] at hx
      split at hx
      · rcases List.mem_cons.1 hx with rfl | h2
        · assumption
        · exact ih h2
      · simp at hx
  generalize l.takeWhile Option.isSome = m at *
  induction m with
  | nil => rfl
  | cons a m ih =>
    obtain ⟨c, rfl⟩ := Option.isSome_iff_exists.1 (hall a (by simp))
    simp only [List.filterMap_cons, id, List.length_cons, ih (fun x hx => hall x (by simp [hx]))]

theorem getD_shift (l : List (Option UInt8)) (n i : Nat) : (l.drop n ++ List.replicate n none).getD i none = l.getD (i + n) none := by
  simp only [List.getD_eq_getElem?_getD]
  rw [List.getElem?_append]
  split
  · rw [List.getElem?_drop, Nat.add_comm]
  · rename_i h
    rw [List.length_drop] at h
    rw [List.getElem?_eq_none (i := i + n) (by omega), List.getElem?_replicate]
    split <;> rfl

/-- Moving keeps it. -/
theorem inv_move {s : FS} (hs : Inv s) (hne : s.ended = false) : Inv (move s) := by
  have hl := lead_le s.held
  have hw : s.win = s.size - s.ready.length := by unfold FS.win; rw [hne]; rfl
  have hn : lead s.held ≤ s.win := by
    rcases Nat.eq_zero_or_pos (lead s.held) with h | h
    · omega
    · have := hs.held _ (lead_some s.held (lead s.held - 1) (by omega)); omega
  have hb := bytes_len s.held
  have hroom := hs.room
  have hz := hs.size
  have hlen := hs.len
  have hx := hs.next
  refine ⟨?_, hz, ?_, ?_, ?_, ?_⟩
  · show (if _ then _ else _) < _
    split <;> exact Nat.mod_lt _ (by decide)
  · show (s.held.drop _ ++ List.replicate _ none).length = s.size + 1
    rw [List.length_append, List.length_drop, List.length_replicate]; omega
  · show (s.ready ++ bytes _).length ≤ s.size
    rw [List.length_append, hb]; omega
  · intro i hi
    change ((s.held.drop _ ++ List.replicate _ none).getD i none).isSome = true at hi
    rw [getD_shift] at hi
    have h1 := hs.held _ hi
    by_cases hd : (s.hasEnd && decide (s.endo = lead s.held)) = true
    · simp only [Bool.and_eq_true, decide_eq_true_eq] at hd
      have := (hs.behind hd.1 hne).2 _ hi
      omega
    · show i < (if (s.hasEnd && decide (s.endo = lead s.held)) = true then 0 else s.size - (s.ready ++ bytes (s.held.take (lead s.held))).length)
      rw [if_neg hd, List.length_append, hb]
      omega
  · intro he hd
    have hd' : (s.hasEnd && decide (s.endo = lead s.held)) = false := hd
    have he' : s.hasEnd = true := he
    obtain ⟨h1, h2⟩ := hs.behind he' hne
    have hwin : (move s).win = s.size - (s.ready.length + lead s.held) := by
      show (if (s.hasEnd && decide (s.endo = lead s.held)) = true then 0 else s.size - (s.ready ++ bytes (s.held.take (lead s.held))).length) = _
      rw [hd', List.length_append, hb]; rfl
    rw [hwin]
    refine ⟨?_, fun i hi => ?_⟩
    · show s.endo - lead s.held ≤ _
      omega
    · change ((s.held.drop _ ++ List.replicate _ none).getD i none).isSome = true at hi
      rw [getD_shift] at hi
      have := h2 _ hi
      show i < s.endo - lead s.held
      omega
theorem all_none {l : List (Option UInt8)} {e : Nat} (h : (l.drop e).all Option.isNone = true) : ∀ i, (l.getD i none).isSome = true → i < e := fun i hi => by
  rcases Nat.lt_or_ge i e with h' | h'
  · exact h'
  · have hlt := getD_some hi
    have h1 := List.all_eq_true.1 h (l.getD i none) (by
      have : (l.drop e)[i - e]? = some (l.getD i none) := by
        rw [List.getElem?_drop, show e + (i - e) = i by omega, List.getD_eq_getElem?_getD, List.getElem?_eq_getElem hlt]; rfl
      exact List.mem_of_getElem? this)
    cases hx : l.getD i none <;> rw [hx] at h1 hi <;> cases h1 <;> cases hi
/-- Before the move. -/
def laid (s : FS) (seq : Nat) (data : List UInt8) (fin : Bool) : FS :=
  let l := layK s seq data data.length
  let e := ofs ((seq + data.length) % 4294967296) s.next
  let b := ends s l e fin
  { s with held := l, hasEnd := s.hasEnd || b, endo := if b then e else s.endo }
theorem inv_laid {s : FS} (hs : Inv s) (hne : s.ended = false) (seq : Nat) (data : List UInt8) (fin : Bool) : Inv (laid s seq data fin) := by
  have h1 := layK_some hs hne seq data data.length
  refine ⟨hs.next, hs.size, (layK_len ..).trans hs.len, hs.room, fun i hi => (h1 i hi).1, fun he hd => ?_⟩
  show (if ends s (layK s seq data data.length) (ofs ((seq + data.length) % 4294967296) s.next) fin = true then ofs ((seq + data.length) % 4294967296) s.next else s.endo) ≤ s.win ∧ ∀ i, ((layK s seq data data.length).getD i none).isSome = true → i < (if ends s (layK s seq data data.length) (ofs ((seq + data.length) % 4294967296) s.next) fin = true then ofs ((seq + data.length) % 4294967296) s.next else s.endo)
  by_cases hb : ends s (layK s seq data data.length) (ofs ((seq + data.length) % 4294967296) s.next) fin = true
  · rw [if_pos hb]
    unfold ends at hb
    simp only [Bool.and_eq_true, decide_eq_true_eq] at hb
    exact ⟨by omega, all_none hb.2⟩
  · rw [if_neg hb]
    have he' : s.hasEnd = true := by
      have : (s.hasEnd || ends s (layK s seq data data.length) (ofs ((seq + data.length) % 4294967296) s.next) fin) = true := he
      simpa [hb] using this
    exact ⟨(hs.behind he' hne).1, fun i hi => (h1 i hi).2 he'⟩
theorem put_eq {s : FS} {seq : Nat} {data : List UInt8} {fin : Bool} (h : (s.ended || decide (65536 < data.length)) = false) : put s seq data fin = move (laid s seq data fin) := by
  unfold put; rw [h]; rfl
theorem put_no {s : FS} {seq : Nat} {data : List UInt8} {fin : Bool} (h : (s.ended || decide (65536 < data.length)) = true) : put s seq data fin = s := by
  unfold put; rw [h]; rfl
theorem inv_put {s : FS} (hs : Inv s) (seq : Nat) (data : List UInt8) (fin : Bool) : Inv (put s seq data fin) := by
  cases h : (s.ended || decide (65536 < data.length))
  · rw [put_eq h]
    have hne : s.ended = false := by cases he : s.ended <;> rw [he] at h <;> first | rfl | cases h
    exact inv_move (inv_laid hs hne seq data fin) hne
  · rw [put_no h]; exact hs
theorem inv_read {s : FS} (hs : Inv s) (most : Int) : Inv (read s most) := by
  have hroom := hs.room
  have hl : (read s most).ready.length = s.ready.length - readN s most := by unfold read; exact List.length_drop
  have hw : s.win ≤ (read s most).win := by
    unfold FS.win
    show (if s.ended then 0 else _) ≤ (if s.ended then 0 else s.size - (read s most).ready.length)
    rw [hl]; split <;> omega
  exact ⟨hs.next, hs.size, hs.len, by rw [hl]; show _ ≤ s.size; omega, fun i hi => Nat.lt_of_lt_of_le (hs.held i hi) hw, fun he hd => ⟨Nat.le_trans (hs.behind he hd).1 hw, (hs.behind he hd).2⟩⟩

theorem getD_cons (a : Option UInt8) (l : List (Option UInt8)) (i : Nat) : (a :: l).getD (i + 1) none = l.getD i none := rfl
/-! ### the map -/
abbrev Dt := DataW Unit
def key (x : Nat) : Lit := .int .u32 (x : Int)
theorem key_ne {x y : Nat} (h : x ≠ y) : key x ≠ key y := fun e => by
  unfold key at e
  injection e with _ e
  omega
/-- The map holds what is held, each byte under its number. -/
structure FMap (D : Dt) (nx : Nat) (l : List (Option UInt8)) : Prop where
  tidy : Maps.Tidy D
  has : ∀ x, x < 4294967296 → Maps.has D (key x) = (l.getD (ofs x nx) none).isSome
  val : ∀ x c, x < 4294967296 → l.getD (ofs x nx) none = some c → ∀ z, D.atKey (key x) z = .lit (.int .u8 (c.toNat : Int))
  size : Maps.size D = l.countP Option.isSome

theorem ofs_inj {x y n : Nat} (hx : x < 4294967296) (hy : y < 4294967296) (hn : n < 4294967296) (h : ofs x n = ofs y n) : x = y := by unfold ofs at h; omega
theorem ofs_self {n : Nat} (_hn : n < 4294967296) : ofs n n = 0 := by unfold ofs; omega
theorem ofs_next {x n : Nat} (hx : x < 4294967296) (hn : n < 4294967296) (hne : x ≠ n) : ofs x n = ofs x ((n + 1) % 4294967296) + 1 := by unfold ofs; omega
theorem ofs_next_self {n : Nat} (hn : n < 4294967296) : 65537 < ofs n ((n + 1) % 4294967296) := by unfold ofs; omega

attribute [irreducible] ofs
theorem isKeyLit (x : Nat) : WideAt.IsKeyLit (key x) := by unfold key; exact trivial

theorem count_set {l : List (Option UInt8)} {a : Nat} {c : UInt8} (ha : a < l.length) (hn : (l.getD a none).isNone = true) : (l.set a (some c)).countP Option.isSome = l.countP Option.isSome + 1 := by
  induction l generalizing a with
  | nil => simp at ha
  | cons x l ih =>
    cases a with
    | zero =>
      have : x = none := by simpa using hn
      subst this
      simp []
    | succ a =>
      rw [List.set_cons_succ, List.countP_cons, List.countP_cons, ih (by simpa using ha) (by simpa using hn)]
      omega
theorem FMap.put {D : Dt} {nx : Nat} {l : List (Option UInt8)} (h : FMap D nx l) {x : Nat} {c : UInt8} (hx : x < 4294967296) (hnx : nx < 4294967296) (ha : ofs x nx < l.length) (hn : (l.getD (ofs x nx) none).isNone = true) :
    FMap (D.put (key x) (.lit (.int .u8 (c.toNat : Int)))) nx (l.set (ofs x nx) (some c)) := by
  have hno : Maps.has D (key x) = false := by
    rw [h.has x hx]
    cases hg : l.getD (ofs x nx) none <;> rw [hg] at hn
    · rfl
    · cases hn
  refine ⟨h.tidy.put (isKeyLit x) _, fun y hy => ?_, fun y d hy hd z => ?_, ?_⟩
  · rw [getD_set]
    by_cases hxy : y = x
    · subst hxy
      rw [Maps.has_put_same h.tidy.isMap (isKeyLit y), if_pos ⟨rfl, ha⟩]; rfl
    · rw [Maps.has_put_other (key_ne hxy), if_neg (fun e => hxy (ofs_inj hy hx hnx e.1)), h.has y hy]
  · rw [getD_set] at hd
    by_cases hxy : y = x
    · subst hxy
      rw [if_pos ⟨rfl, ha⟩] at hd
      injection hd with hd
      subst hd
      exact Maps.atKey_put_same h.tidy.isMap (isKeyLit y) _ z
    · rw [if_neg (fun e => hxy (ofs_inj hy hx hnx e.1))] at hd
      rw [Maps.atKey_put_other (key_ne hxy)]
      exact h.val y d hy hd z
  · rw [Maps.size_put h.tidy, hno, count_set ha hn, h.size]; rfl
theorem FMap.del {D : Dt} {nx : Nat} {c : UInt8} {l : List (Option UInt8)} (h : FMap D nx (some c :: l)) (hnx : nx < 4294967296) (hl : l.length ≤ 65537) : FMap (D.del (key nx)) ((nx + 1) % 4294967296) l := by
  have hin : Maps.has D (key nx) = true := by rw [h.has nx hnx, ofs_self hnx]; rfl
  refine ⟨h.tidy.del _, fun y hy => ?_, fun y d hy hd z => ?_, ?_⟩
  · by_cases hxy : y = nx
    · subst hxy
      have hf := ofs_next_self hy
      rw [Maps.has_del_same, List.getD_eq_getElem?_getD, List.getElem?_eq_none (by omega)]; rfl
    · rw [Maps.has_del_other (key_ne hxy), h.has y hy, ofs_next hy hnx hxy, getD_cons]
  · by_cases hxy : y = nx
    · subst hxy
      have hf := ofs_next_self hy
      rw [List.getD_eq_getElem?_getD, List.getElem?_eq_none (by omega)] at hd; cases hd
    · rw [Maps.atKey_del_other (key_ne hxy)]
      exact h.val y d hy (by rw [ofs_next hy hnx hxy, getD_cons]; exact hd) z
  · have h1 := Maps.size_del h.tidy (k := key nx)
    rw [hin, h.size, List.countP_cons] at h1
    simpa using h1
theorem FMap.pad {D : Dt} {nx : Nat} {l : List (Option UInt8)} (h : FMap D nx l) (n : Nat) : FMap D nx (l ++ List.replicate n none) := by
  have e : ∀ i, (l ++ List.replicate n none).getD i none = l.getD i none := fun i => by
    simp only [List.getD_eq_getElem?_getD, List.getElem?_append]
    split
    · rfl
    · rename_i hi
      rw [List.getElem?_eq_none (l := l) (by omega), List.getElem?_replicate]
      split <;> rfl
  exact ⟨h.tidy, fun x hx => by rw [e]; exact h.has x hx, fun x c hx hc => h.val x c hx (by rw [← e]; exact hc), by
    rw [List.countP_append, h.size]
    have : (List.replicate n (none : Option UInt8)).countP Option.isSome = 0 := by simp [List.countP_replicate]
    omega⟩
/-- Where nothing is held, the next number may be any. -/
theorem FMap.none_any {D : Dt} {nx : Nat} {l : List (Option UInt8)} (h : FMap D nx l) (hn : ∀ i, (l.getD i none).isSome = false) (m : Nat) : FMap D m l :=
  ⟨h.tidy, fun x hx => by rw [h.has x hx, hn, hn], fun x c hx hc => absurd (hn (ofs x m)) (by rw [hc]; exact fun e => Bool.noConfusion e), h.size⟩
theorem fmap_new (nx n : Nat) : FMap (.map []) nx (List.replicate n none) := by
  have h0 : ∀ i, (List.replicate n (none : Option UInt8)).getD i none = none := fun i => by
    rw [List.getD_eq_getElem?_getD, List.getElem?_replicate]
    split <;> rfl
  refine ⟨Maps.tidy_empty, fun x hx => ?_, fun x c hx hc => ?_, ?_⟩
  · rw [h0]; rfl
  · rw [h0] at hc; cases hc
  · simp [Maps.size, List.countP_replicate]
end FL
end Go.Proofs.Ytkmkgfgppblleaa
