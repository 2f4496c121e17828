/- Small lemmas on worlds, for the walks of this seat: a block that is put whole, draws, what is below. -/
import Derived.Test.YtejkimhmpnogkaaDoorRows
import Derived.WalkKit
import Derived.WalkSpells
import Derived.WalkLawsBesides
import Derived.Deep.QuietTactic
import Derived.BigQuiet
import Derived.StillTailTactics
import Derived.Lib.MinMax
import Derived.Deep.RegionHeld3
namespace Go.Proofs.YtejkimhmpnogkaaDoor
open Go.RowKit
attribute [go_sem] World.cell?_alloc_some

/-- The world with block b put. -/
def blk (w : World) (b : Nat) (o : Obj) : World := { w with heap := w.heap.setIfInBounds b o }
section
variable {w : World} {b k : Nat} {c : Array Value} {T : TypeId} {fz : Nat × Nat} {v : Value} {o o' : Obj}
theorem lt_blk (h : w.heap[b]? = some o) : b < w.heap.size := by
  rcases Nat.lt_or_ge b w.heap.size with h' | h'
  · exact h'
  · simp [Array.getElem?_eq_none h'] at h
theorem cell_at (h : w.heap[b]? = some (.cells c T fz)) (k : Nat) : w.cell? ⟨b, k, none⟩ = c[k]? := by simp [World.cell?, h]
theorem free_at (h : w.heap[b]? = some (.cells c T (0, 0))) (k : Nat) : w.frozen? ⟨b, k, none⟩ = false := by simp [World.frozen?, h]
theorem setCell_blk (h : w.heap[b]? = some (.cells c T fz)) (k : Nat) (v : Value) : w.setCell ⟨b, k, none⟩ v = blk w b (.cells (c.setIfInBounds k v) T fz) := by
  unfold World.setCell blk
  have hlt := lt_blk h
  have h' : w.heap[b] = .cells c T fz := by simpa [Array.getElem?_eq_getElem hlt] using h
  congr 1
  apply Array.ext
  · simp
  · intro i h1 h2
    simp only [Array.size_modify] at h1
    rw [Array.getElem_modify, Array.getElem_setIfInBounds]
    · split
      · rename_i hi; subst hi; simp [h']
      · rfl
theorem blk_heap (h : b < w.heap.size) : (blk w b o).heap[b]? = some o := by simp [blk, h]
theorem blk_other (j : Nat) (h : j ≠ b) : (blk w b o).heap[j]? = w.heap[j]? := by
  unfold blk; rw [Array.getElem?_setIfInBounds_ne (by omega)]
theorem blk_size : (blk w b o).heap.size = w.heap.size := by simp [blk]
theorem blk_blk : blk (blk w b o) b o' = blk w b o' := by simp [blk]
theorem blk_self (h : w.heap[b]? = some o) : blk w b o = w := by
  unfold blk
  have hlt := lt_blk h
  have h' : w.heap[b] = o := by simpa [Array.getElem?_eq_getElem hlt] using h
  rw [← h', Array.setIfInBounds_def, dif_pos hlt, Array.set_getElem_self]
theorem blk_setCell (hb : b < w.heap.size) (k : Nat) (v : Value) : (blk w b (.cells c T fz)).setCell ⟨b, k, none⟩ v = blk w b (.cells (c.setIfInBounds k v) T fz) := by
  rw [setCell_blk (blk_heap hb), blk_blk]
@[go_sem] theorem setCell_drewN (w : World) (n : Nat) (a : Addr) (v : Value) : (w.drewN n).setCell a v = (w.setCell a v).drewN n := rfl
@[go_sem] theorem setCell_drew' (w : World) (a : Addr) (v : Value) : w.drew.setCell a v = (w.setCell a v).drew := rfl
theorem at_setCell (h : w.heap[b]? = some (.cells c T fz)) (k : Nat) (v : Value) : (w.setCell ⟨b, k, none⟩ v).heap[b]? = some (.cells (c.setIfInBounds k v) T fz) := by
  rw [setCell_blk h]; exact blk_heap (lt_blk h)
theorem at_setCell_other (h : w.heap[b]? = some o) {p : Addr} (hp : b ≠ p.block) (v : Value) : (w.setCell p v).heap[b]? = some o := (Below.heap_setCell w p v b hp).trans h
theorem blk_drew : (blk w b o).drew = blk w.drew b o := rfl
end

theorem hid {p : Prop} (h : p) : Hid p := h

/-- Some draws later. -/
def Dr (w w' : World) : Prop := ∃ n, w' = w.drewN n
theorem Dr.refl (w : World) : Dr w w := ⟨0, rfl⟩
theorem Dr.drew {w w' : World} (h : Dr w w') : Dr w w'.drew := by obtain ⟨n, rfl⟩ := h; exact ⟨n + 1, rfl⟩
theorem Dr.drewN {w w' : World} (h : Dr w w') (m : Nat) : Dr w (w'.drewN m) := by obtain ⟨n, rfl⟩ := h; exact ⟨n + m, World.drewN_drewN ..⟩

theorem dr_blk {W w' : World} {b : Nat} {o o' : Obj} (h : Dr (blk W b o) w') (e : o = o') : Dr (blk W b o') w' := e ▸ h

theorem Dr.heap {w w' : World} (h : Dr w w') : w'.heap = w.heap := by obtain ⟨n, rfl⟩ := h; rfl
theorem Dr.below {B : Nat} {w w' : World} (h : Dr w w') : Below B w w' := by obtain ⟨n, rfl⟩ := h; exact ⟨rfl, rfl, rfl, Nat.le_refl _, fun _ _ => rfl⟩
theorem below_blk {B : Nat} {w : World} {b : Nat} {o : Obj} (h : B ≤ b) : Below B w (blk w b o) :=
  ⟨rfl, rfl, rfl, by simp [blk], fun k hk => blk_other k (by omega)⟩
theorem dr_at {w w' : World} {b : Nat} {o : Obj} (h : Dr (blk w b o) w') (hb : b < w.heap.size) : w'.heap[b]? = some o := by rw [h.heap]; exact blk_heap hb
theorem dr_other {w w' : World} {b : Nat} {o : Obj} (h : Dr (blk w b o) w') (j : Nat) (hj : j ≠ b) : w'.heap[j]? = w.heap[j]? := by rw [h.heap]; exact blk_other j hj
theorem dr_size {w w' : World} {b : Nat} {o : Obj} (h : Dr (blk w b o) w') : w'.heap.size = w.heap.size := by rw [h.heap]; exact blk_size
theorem dr_below {B : Nat} {w w' : World} {b : Nat} {o : Obj} (h : Dr (blk w b o) w') (hb : B ≤ b) : Below B w w' := (below_blk hb).trans h.below
theorem alloc_at (w : World) (o : Obj) : (w.alloc o).heap[w.heap.size]? = some o := by
  show (w.heap.push o)[w.heap.size]? = _; simp
theorem alloc_at' {w : World} {n : Nat} (h : n = w.heap.size) (o : Obj) : (w.alloc o).heap[n]? = some o := by rw [h]; exact alloc_at w o
theorem alloc_old {w : World} {o o' : Obj} {b : Nat} (h : w.heap[b]? = some o) : (w.alloc o').heap[b]? = some o := by
  rw [Below.heap_alloc _ _ _ (lt_blk h)]; exact h
theorem alloc_below (B : Nat) (w : World) (o : Obj) (h : B ≤ w.heap.size) : Below B w (w.alloc o) := (Below.refl _ _).alloc h o

/-- But for block b, and for what is new, the world is as it was. -/
structure Only (b : Nat) (w w' : World) : Prop where
  os : w'.os = w.os
  tape : w'.tape = w.tape
  output : w'.output = w.output
  size : w.heap.size ≤ w'.heap.size
  block : ∀ k, k < w.heap.size → k ≠ b → w'.heap[k]? = w.heap[k]?
theorem Only.refl (b : Nat) (w : World) : Only b w w := ⟨rfl, rfl, rfl, Nat.le_refl _, fun _ _ _ => rfl⟩
theorem Only.trans {b : Nat} {a w w' : World} (h : Only b a w) (k : Only b w w') : Only b a w' :=
  ⟨k.os.trans h.os, k.tape.trans h.tape, k.output.trans h.output, Nat.le_trans h.size k.size, fun i hi hn => (k.block i (Nat.lt_of_lt_of_le hi h.size) hn).trans (h.block i hi hn)⟩
theorem Only.of_below {b : Nat} {w w' : World} (h : Below w.heap.size w w') : Only b w w' := ⟨h.os, h.tape, h.output, h.size, fun k hk _ => h.block k hk⟩
theorem Only.below {B b : Nat} {w w' : World} (h : Only b w w') (hb : B ≤ b) (hB : B ≤ w.heap.size) : Below B w w' := ⟨h.os, h.tape, h.output, h.size, fun k hk => h.block k (by omega) (by omega)⟩
theorem Only.alloc {b : Nat} {a w : World} (h : Only b a w) (o : Obj) : Only b a (w.alloc o) :=
  ⟨h.os, h.tape, h.output, Nat.le_trans h.size (by simp), fun i hi hn => (Below.heap_alloc w o i (Nat.lt_of_lt_of_le hi h.size)).trans (h.block i hi hn)⟩
theorem Only.drewN {b : Nat} {a w : World} (h : Only b a w) (n : Nat) : Only b a (w.drewN n) := ⟨h.os, h.tape, h.output, h.size, h.block⟩
theorem Only.drew {b : Nat} {a w : World} (h : Only b a w) : Only b a w.drew := ⟨h.os, h.tape, h.output, h.size, h.block⟩
theorem Only.blk {b : Nat} {a w : World} (h : Only b a w) {c : Nat} (hc : c = b ∨ a.heap.size ≤ c) (o : Obj) : Only b a (blk w c o) :=
  ⟨h.os, h.tape, h.output, Nat.le_trans h.size (by simp [Proofs.YtejkimhmpnogkaaDoor.blk]), fun i hi hn => (blk_other i (by omega)).trans (h.block i hi hn)⟩
theorem Only.setCell {b : Nat} {a w : World} (h : Only b a w) {p : Addr} (hp : p.block = b ∨ a.heap.size ≤ p.block) (u : Value) : Only b a (w.setCell p u) :=
  ⟨h.os, h.tape, h.output, Nat.le_trans h.size (by simp [World.setCell]), fun i hi hn => (Below.heap_setCell w p u i (by omega)).trans (h.block i hi hn)⟩
theorem Only.cell {b : Nat} {w w' : World} (h : Only b w w') {p : Addr} (hp : p.block < w.heap.size) (hn : p.block ≠ b) : w'.cell? p = w.cell? p := World.cell?_of_block (w := w) (h.block p.block hp hn)
theorem below_new {w : World} (o : Obj) : Below w.heap.size w (w.alloc o) := alloc_below _ _ _ (Nat.le_refl _)
theorem below_alloc {W w : World} (h : Below W.heap.size W w) (o : Obj) : Below W.heap.size W (w.alloc o) := h.alloc h.size o
theorem below_blk' {W w : World} (h : Below W.heap.size W w) {b : Nat} (hb : W.heap.size ≤ b) (o : Obj) : Below W.heap.size W (blk w b o) := h.trans (below_blk hb)
theorem below_to {W w w' : World} (h : Below W.heap.size W w) (h' : Below w.heap.size w w') : Below W.heap.size W w' := h.trans (h'.mono h.size)

theorem still_tail {P : Program} {id : Nat} {Q : Exit → Act → World → Prop} {a : Act} {w : World} {l : List Oper} (n : Nat) (hm : P.follows .mixedOrders = true) (hB : Region.lexTailB .any l.toArray n = true)
    (h : wpStill P l.toArray w.drew (fun a' => wpList P l.toArray Q (l.drop n) a' w.drew) (l.take n) a) : (Code.region id l.toArray true).wp P Q a w := wp_region_still_tail n hm hB h

theorem rsame {P : Program} {f : FuncId} {args : Array Value} {w : World} {v : Value} (h : Calls P f args w fun e w' => e = .returned v ∧ w = w') :
   Calls P f args w fun e w' => e = .returned v ∧ w' = w := h.mono fun _ _ ⟨a, b⟩ => ⟨a, b.symm⟩

end Go.Proofs.YtejkimhmpnogkaaDoor
