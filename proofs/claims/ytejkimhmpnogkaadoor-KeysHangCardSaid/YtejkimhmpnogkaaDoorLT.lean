/- A region that draws its order, whose operations read and whose calls leave all that stood as it was: one walk in the order of the text. -/
import Derived.Test.YtejkimhmpnogkaaDoorB
namespace Go.Proofs.YtejkimhmpnogkaaDoor
open Go Go.RowKit

/-- A world in which all that stood in w is as it was. -/
structure Later (w : World) where
  w' : World
  h : Below w.heap.size w w'

instance (w : World) : Nonempty (Later w) := ⟨⟨w, Below.refl _ _⟩⟩

variable {P : Program}
theorem wp_region_later {id : Nat} {Q : Exit → Act → World → Prop} {a : Act} {w : World} {l : List Oper} (hm : P.follows .mixedOrders = true) (hB : Region.lexB .any l.toArray = true)
    (h : wpQuiet P l.toArray (fun w' => ∃ x : Later w, w' = x.w') (fun a' => ∀ w', (∃ x : Later w, w' = x.w') → Q .normal a' w') l a) : (Code.region id l.toArray true).wp P Q a w :=
  wp_region_quiet (C := fun w' => ∃ x : Later w, w' = x.w') hm hB ⟨⟨w.drew, (Below.refl _ _).drew⟩, rfl⟩ (by simpa using h)
theorem calls_later {f : FuncId} {args : Array Value} {w : World} {x : Later w} {v : Value} (h : Calls P f args x.w' fun e w' => e = .returned v ∧ Below x.w'.heap.size x.w' w') :
    Calls P f args x.w' fun e w'' => e = .returned v ∧ ∃ y : Later w, w'' = y.w' :=
  h.mono fun _ _ ⟨he, hb⟩ => ⟨he, ⟨⟨_, below_to x.h hb⟩, rfl⟩⟩
theorem later_block {w : World} {b : Nat} {o : Obj} (h : w.heap[b]? = some o) (x : Later w) : x.w'.heap[b]? = some o := (x.h.block b (lt_blk h)).trans h
theorem later_cell {w : World} {p : Addr} {v : Value} (c : w.cell? p = some v) (x : Later w) : x.w'.cell? p = some v := (x.h.cell (p := p) (World.block_lt_of_cell? w p c)).trans c

theorem keepB {w w' : World} {b : Nat} {o : Obj} (hb : Below w.heap.size w w') (h : w.heap[b]? = some o) : w'.heap[b]? = some o := (hb.block b (lt_blk h)).trans h

/-- A load of a whole row. -/
theorem quiet_load {C : World → Prop} {K : Act → Prop} {a : Act} {o : Oper} (ty : TypeId) (x : Operand) (ho : o.op = .load ty x) {p : Value} (hp : a.eval x = p) {v : Value}
    (h : ∀ w, C w → (Instr.loadAt ty p).run P w = .ok v w) (hk : K (a.put o.dst v)) : o.quiet P a C K := by
  refine ⟨v, fun w hw => ?_, hk⟩
  unfold Oper.quietAt execOp
  simp only [ho, hp, Sem.run_bind, Sem.run_pure, Result.andThen_ok, h w hw]
  exact ⟨rfl, rfl⟩

end Go.Proofs.YtejkimhmpnogkaaDoor
