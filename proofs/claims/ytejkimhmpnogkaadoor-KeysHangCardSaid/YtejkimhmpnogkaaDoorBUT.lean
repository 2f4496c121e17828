/- A world that is as it was, but for some blocks and what is new. -/
import Derived.Test.YtejkimhmpnogkaaDoorLT
namespace Go.Proofs.YtejkimhmpnogkaaDoor
open Go Go.RowKit

structure But (L : List Nat) (w w' : World) : Prop where
  os : w'.os = w.os
  tape : w'.tape = w.tape
  output : w'.output = w.output
  size : w.heap.size ≤ w'.heap.size
  block : ∀ k, k < w.heap.size → k ∉ L → w'.heap[k]? = w.heap[k]?
theorem But.refl (L : List Nat) (w : World) : But L w w := ⟨rfl, rfl, rfl, Nat.le_refl _, fun _ _ _ => rfl⟩
theorem But.trans {L : List Nat} {a w w' : World} (h : But L a w) (k : But L w w') : But L a w' :=
  ⟨k.os.trans h.os, k.tape.trans h.tape, k.output.trans h.output, Nat.le_trans h.size k.size, fun i hi hn => (k.block i (Nat.lt_of_lt_of_le hi h.size) hn).trans (h.block i hi hn)⟩
theorem But.of_below {L : List Nat} {w w' : World} (h : Below w.heap.size w w') : But L w w' := ⟨h.os, h.tape, h.output, h.size, fun k hk _ => h.block k hk⟩
theorem But.of_only {L : List Nat} {b : Nat} {w w' : World} (h : Only b w w') (hb : b ∈ L) : But L w w' := ⟨h.os, h.tape, h.output, h.size, fun k hk hn => h.block k hk (fun e => hn (e ▸ hb))⟩
theorem But.alloc {L : List Nat} {a w : World} (h : But L a w) (o : Obj) : But L a (w.alloc o) :=
  ⟨h.os, h.tape, h.output, Nat.le_trans h.size (by simp), fun i hi hn => (Below.heap_alloc w o i (Nat.lt_of_lt_of_le hi h.size)).trans (h.block i hi hn)⟩
theorem But.drew {L : List Nat} {a w : World} (h : But L a w) : But L a w.drew := ⟨h.os, h.tape, h.output, h.size, h.block⟩
theorem But.drewN {L : List Nat} {a w : World} (h : But L a w) (n : Nat) : But L a (w.drewN n) := ⟨h.os, h.tape, h.output, h.size, h.block⟩
theorem But.blk {L : List Nat} {a w : World} (h : But L a w) {c : Nat} (hc : c ∈ L ∨ a.heap.size ≤ c) (o : Obj) : But L a (blk w c o) :=
  ⟨h.os, h.tape, h.output, Nat.le_trans h.size (by simp [Proofs.YtejkimhmpnogkaaDoor.blk]), fun i hi hn => (blk_other i (by rintro rfl; rcases hc with hc | hc; exact hn hc; omega)).trans (h.block i hi hn)⟩
theorem But.setCell {L : List Nat} {a w : World} (h : But L a w) {p : Addr} (hp : p.block ∈ L ∨ a.heap.size ≤ p.block) (u : Value) : But L a (w.setCell p u) :=
  ⟨h.os, h.tape, h.output, Nat.le_trans h.size (by simp [World.setCell]), fun i hi hn => (Below.heap_setCell w p u i (by rintro rfl; rcases hp with hp | hp; exact hn hp; omega)).trans (h.block i hi hn)⟩
theorem But.below {L : List Nat} {B : Nat} {w w' : World} (h : But L w w') (hb : ∀ b ∈ L, B ≤ b) (hB : B ≤ w.heap.size) : Below B w w' :=
  ⟨h.os, h.tape, h.output, h.size, fun k hk => h.block k (by omega) (fun hm => by have := hb k hm; omega)⟩
theorem But.keep {L : List Nat} {w w' : World} {b : Nat} {o : Obj} (h : But L w w') (hb : w.heap[b]? = some o) (hn : b ∉ L) : w'.heap[b]? = some o := (h.block b (lt_blk hb) hn).trans hb
theorem But.cell {L : List Nat} {w w' : World} {p : Addr} {v : Value} (h : But L w w') (hc : w.cell? p = some v) (hn : p.block ∉ L) : w'.cell? p = some v :=
  (World.cell?_of_block (w := w) (h.block p.block (World.block_lt_of_cell? w p hc) hn)).trans hc

end Go.Proofs.YtejkimhmpnogkaaDoor
