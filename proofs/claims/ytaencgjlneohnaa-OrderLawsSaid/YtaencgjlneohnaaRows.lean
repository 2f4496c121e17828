/-
  No cell of these rows narrows 'for every input' (looked for: loops, veiled, ifaces, maps, wideKeys, modest, calm, conditions, laid).
  DERIVED. THE GIVEN ROWS OF THIS SEAT. 3 by the template 'for every input the law returns true; each argument reads behind the call as it read before'; 0 by the template 'total and deterministic' (their statements: YtaencgjlneohnaaTotals.lean).
  GIVEN WITH THE SEED: the statements are not yours to turn. If you find one false, say at which input.
  Laid BY PROGRAM, IN A SANDBOX (cutbox-rows.mjs): the forced cells as the released guide's own fill.sh prints them over the translation 6445034e8d89175e… (all of the seat's roots in one cut). By AI agents, Wed Nov 11 2026. No macro, syntax, notation, axiom, sorry.
-/
import Derived.Test.YtaencgjlneohnaaChecked
import GoSem.Claim
import GoSem.ClaimJoined
import GoSem.ClaimMapViews
import Derived.JoinedTies
import Derived.KernelRfl
namespace Go.Proofs.Ytaencgjlneohnaa
/- THE CELL 'sum', in the pinned program and in every row, IS THE sha256 OF THE DUMP (.gsa) THAT YtaencgjlneohnaaProg.lean LOADS. Nothing in Lean hashes anything: it is a label: what it is worth is what the hold of that sum in a sandbox is worth. -/
noncomputable def Try.pinned : Pinned := { name := "ytaencgjlneohnaa", sum := "6445034e8d89175e74634c1a2eab44c1b5abd3f98821182325385d0f9bf6e33a", checked := Try.checked }
namespace Rows
def none {H : Type} : Left H := { results := [], args := [] }

/-- 'pharoslaw07.OrderReads': WHATEVER THE INPUT: true; the input reads as it did. -/
def orderReadsSpec : ChangeSpec := { name := "orderReads", fn := fun _ => fun
  | [d] => { results := [.lit (.bool true)], args := [d] }
  | _ => none }
def orderReadsRow : OpenClaim := { program := "ytaencgjlneohnaa", sum := "6445034e8d89175e74634c1a2eab44c1b5abd3f98821182325385d0f9bf6e33a", func := "pharos/pharoslaw07.OrderReads", spec := "orderReads", inPlace := ["math/bits.Sub64", "math/bits.Add64"], apart := false }
def OrderReadsSaid : Prop := orderReadsRow.holds Try.pinned (OpenSpec.ofChange orderReadsSpec)

/-- ITS FALSE NEIGHBOUR: 'it returns false'. Refute it at one input. -/
def orderReadsWrong : ChangeSpec := { name := "orderReads", fn := fun _ => fun
  | [d] => { results := [.lit (.bool false)], args := [d] }
  | _ => none }
def OrderReadsWrongFalsely : Prop := orderReadsRow.holds Try.pinned (OpenSpec.ofChange orderReadsWrong)

/-- 'pharoslaw07.OrderReckons': WHATEVER THE INPUT: true; the input reads as it did. -/
def orderReckonsSpec : ChangeSpec := { name := "orderReckons", fn := fun _ => fun
  | [d1, d2, d3] => { results := [.lit (.bool true)], args := [d1, d2, d3] }
  | _ => none }
def orderReckonsRow : OpenClaim := { program := "ytaencgjlneohnaa", sum := "6445034e8d89175e74634c1a2eab44c1b5abd3f98821182325385d0f9bf6e33a", func := "pharos/pharoslaw07.OrderReckons", spec := "orderReckons", inPlace := ["math/bits.Sub64", "math/bits.Add64"], apart := false }
def OrderReckonsSaid : Prop := orderReckonsRow.holds Try.pinned (OpenSpec.ofChange orderReckonsSpec)

/-- ITS FALSE NEIGHBOUR: 'it returns false'. Refute it at one input. -/
def orderReckonsWrong : ChangeSpec := { name := "orderReckons", fn := fun _ => fun
  | [d1, d2, d3] => { results := [.lit (.bool false)], args := [d1, d2, d3] }
  | _ => none }
def OrderReckonsWrongFalsely : Prop := orderReckonsRow.holds Try.pinned (OpenSpec.ofChange orderReckonsWrong)

/-- 'pharoslaw07.OrderLaws': WHATEVER THE INPUT: true; the input reads as it did. -/
def orderLawsSpec : ChangeSpec := { name := "orderLaws", fn := fun _ => fun
  | [d1, d2, d3] => { results := [.lit (.bool true)], args := [d1, d2, d3] }
  | _ => none }
def orderLawsRow : OpenClaim := { program := "ytaencgjlneohnaa", sum := "6445034e8d89175e74634c1a2eab44c1b5abd3f98821182325385d0f9bf6e33a", func := "pharos/pharoslaw07.OrderLaws", spec := "orderLaws", inPlace := ["math/bits.Sub64", "math/bits.Add64"], apart := false }
def OrderLawsSaid : Prop := orderLawsRow.holds Try.pinned (OpenSpec.ofChange orderLawsSpec)

/-- ITS FALSE NEIGHBOUR: 'it returns false'. Refute it at one input. -/
def orderLawsWrong : ChangeSpec := { name := "orderLaws", fn := fun _ => fun
  | [d1, d2, d3] => { results := [.lit (.bool false)], args := [d1, d2, d3] }
  | _ => none }
def OrderLawsWrongFalsely : Prop := orderLawsRow.holds Try.pinned (OpenSpec.ofChange orderLawsWrong)

/- THE SECOND FORM. 'bulk': how many values and letters a reading holds, each counted each time it is reached (what is shared counts as often as it is met; a slice's spare places count too). A statement '..UptoSaid' is the law's where the arguments, and the package variables that the reading takes, are together of bulk at most 1048576: NARROWER than '..Said'. Prove '..Said' where nothing that the law and all that it calls make is longer than what came in: it says more and counts as full. Else prove '..UptoSaid'. A law counts once. -/
mutual
def uptoBulk {H : Type} : DataW H → Nat
  | .lit (.string bytes) => bytes.length + 1
  | .lit _ => 1
  | .nil => 1
  | .ptr d => uptoBulk d + 1
  | .slice elems spare => uptoBulkAll elems + uptoBulkAll spare + 1
  | .agg parts => uptoBulkAll parts + 1
  | .iface _ d => uptoBulk d + 1
  | .map entries => uptoBulkEntries entries + 1
  | .held _ => 1
def uptoBulkAll {H : Type} : List (DataW H) → Nat
  | [] => 0
  | d :: r => uptoBulk d + uptoBulkAll r
def uptoBulkEntries {H : Type} : List (Lit × DataW H) → Nat
  | [] => 0
  | x :: r => uptoBulkEntry x + uptoBulkEntries r
def uptoBulkEntry {H : Type} : Lit × DataW H → Nat
  | (.string bytes, d) => bytes.length + uptoBulk d + 1
  | (_, d) => uptoBulk d + 1
 end
def uptoSmall : (H : Type) → List (DataW H) → Bool := fun _ ds => decide (uptoBulkAll ds ≤ 1048576)
def OpenSpec.upto (s : _root_.Go.ChangeSpec) : _root_.Go.OpenSpec := { _root_.Go.OpenSpec.ofChange s with cond := some uptoSmall }

/-- 'pharoslaw07.OrderReads', WHERE WHAT IT READS IS OF BULK AT MOST 1048576: true; the input reads as it did. -/
def orderReadsUptoRow : OpenClaim := { program := "ytaencgjlneohnaa", sum := "6445034e8d89175e74634c1a2eab44c1b5abd3f98821182325385d0f9bf6e33a", func := "pharos/pharoslaw07.OrderReads", spec := "orderReads", inPlace := ["math/bits.Sub64", "math/bits.Add64"], apart := false, narrowed := true }
def OrderReadsUptoSaid : Prop := orderReadsUptoRow.holds Try.pinned (OpenSpec.upto orderReadsSpec)

/-- 'pharoslaw07.OrderReckons', WHERE WHAT IT READS IS OF BULK AT MOST 1048576: true; the input reads as it did. -/
def orderReckonsUptoRow : OpenClaim := { program := "ytaencgjlneohnaa", sum := "6445034e8d89175e74634c1a2eab44c1b5abd3f98821182325385d0f9bf6e33a", func := "pharos/pharoslaw07.OrderReckons", spec := "orderReckons", inPlace := ["math/bits.Sub64", "math/bits.Add64"], apart := false, narrowed := true }
def OrderReckonsUptoSaid : Prop := orderReckonsUptoRow.holds Try.pinned (OpenSpec.upto orderReckonsSpec)

/-- 'pharoslaw07.OrderLaws', WHERE WHAT IT READS IS OF BULK AT MOST 1048576: true; the input reads as it did. -/
def orderLawsUptoRow : OpenClaim := { program := "ytaencgjlneohnaa", sum := "6445034e8d89175e74634c1a2eab44c1b5abd3f98821182325385d0f9bf6e33a", func := "pharos/pharoslaw07.OrderLaws", spec := "orderLaws", inPlace := ["math/bits.Sub64", "math/bits.Add64"], apart := false, narrowed := true }
def OrderLawsUptoSaid : Prop := orderLawsUptoRow.holds Try.pinned (OpenSpec.upto orderLawsSpec)

end Rows
end Go.Proofs.Ytaencgjlneohnaa
