/-
  No cell of these rows narrows 'for every input' (looked for: loops, veiled, ifaces, maps, wideKeys, modest, calm, conditions, laid).
  DERIVED. THE GIVEN ROWS OF THIS SEAT. 3 by the template 'for every input the law returns true; each argument reads behind the call as it read before'; 0 by the template 'total and deterministic' (their statements: YtidkbphdihlbaaaTotals.lean).
  GIVEN WITH THE SEED: the statements are not yours to turn. If you find one false, say at which input.
  Laid BY PROGRAM, IN A SANDBOX (cutbox-rows.mjs): the forced cells as the released guide's own fill.sh prints them over the translation 4a4c9a3c0d6a9e3b… (all of the seat's roots in one cut). By AI agents, Wed Nov 11 2026. No macro, syntax, notation, axiom, sorry.
-/
import Derived.Test.YtidkbphdihlbaaaChecked
import GoSem.Claim
import GoSem.ClaimJoined
import GoSem.ClaimMapViews
import Derived.JoinedTies
import Derived.KernelRfl
namespace Go.Proofs.Ytidkbphdihlbaaa
/- THE CELL 'sum', in the pinned program and in every row, IS THE sha256 OF THE DUMP (.gsa) THAT YtidkbphdihlbaaaProg.lean LOADS. Nothing in Lean hashes anything: it is a label: what it is worth is what the hold of that sum in a sandbox is worth. -/
noncomputable def Try.pinned : Pinned := { name := "ytidkbphdihlbaaa", sum := "4a4c9a3c0d6a9e3bef0d1718a3681cd742e31db2b7b24956ace103eebc985b1c", checked := Try.checked }
namespace Rows
def none {H : Type} : Left H := { results := [], args := [] }

/-- 'pharoslaw19.SegBack': WHATEVER THE INPUT: true; the input reads as it did. -/
def segBackSpec : ChangeSpec := { name := "segBack", fn := fun _ => fun
  | [d1, d2, d3, d4, d5] => { results := [.lit (.bool true)], args := [d1, d2, d3, d4, d5] }
  | _ => none }
def segBackRow : OpenClaim := { program := "ytidkbphdihlbaaa", sum := "4a4c9a3c0d6a9e3bef0d1718a3681cd742e31db2b7b24956ace103eebc985b1c", func := "pharos/pharoslaw19.SegBack", spec := "segBack", apart := false }
def SegBackSaid : Prop := segBackRow.holds Try.pinned (OpenSpec.ofChange segBackSpec)

/-- ITS FALSE NEIGHBOUR: 'it returns false'. Refute it at one input. -/
def segBackWrong : ChangeSpec := { name := "segBack", fn := fun _ => fun
  | [d1, d2, d3, d4, d5] => { results := [.lit (.bool false)], args := [d1, d2, d3, d4, d5] }
  | _ => none }
def SegBackWrongFalsely : Prop := segBackRow.holds Try.pinned (OpenSpec.ofChange segBackWrong)

/-- 'pharoslaw19.SegPlaces': WHATEVER THE INPUT: true; the input reads as it did. -/
def segPlacesSpec : ChangeSpec := { name := "segPlaces", fn := fun _ => fun
  | [d1, d2, d3, d4] => { results := [.lit (.bool true)], args := [d1, d2, d3, d4] }
  | _ => none }
def segPlacesRow : OpenClaim := { program := "ytidkbphdihlbaaa", sum := "4a4c9a3c0d6a9e3bef0d1718a3681cd742e31db2b7b24956ace103eebc985b1c", func := "pharos/pharoslaw19.SegPlaces", spec := "segPlaces", apart := false }
def SegPlacesSaid : Prop := segPlacesRow.holds Try.pinned (OpenSpec.ofChange segPlacesSpec)

/-- ITS FALSE NEIGHBOUR: 'it returns false'. Refute it at one input. -/
def segPlacesWrong : ChangeSpec := { name := "segPlaces", fn := fun _ => fun
  | [d1, d2, d3, d4] => { results := [.lit (.bool false)], args := [d1, d2, d3, d4] }
  | _ => none }
def SegPlacesWrongFalsely : Prop := segPlacesRow.holds Try.pinned (OpenSpec.ofChange segPlacesWrong)

/-- 'pharoslaw19.SegOptions': WHATEVER THE INPUT: true; the input reads as it did. -/
def segOptionsSpec : ChangeSpec := { name := "segOptions", fn := fun _ => fun
  | [d1, d2, d3, d4, d5] => { results := [.lit (.bool true)], args := [d1, d2, d3, d4, d5] }
  | _ => none }
def segOptionsRow : OpenClaim := { program := "ytidkbphdihlbaaa", sum := "4a4c9a3c0d6a9e3bef0d1718a3681cd742e31db2b7b24956ace103eebc985b1c", func := "pharos/pharoslaw19.SegOptions", spec := "segOptions", apart := false }
def SegOptionsSaid : Prop := segOptionsRow.holds Try.pinned (OpenSpec.ofChange segOptionsSpec)

/-- ITS FALSE NEIGHBOUR: 'it returns false'. Refute it at one input. -/
def segOptionsWrong : ChangeSpec := { name := "segOptions", fn := fun _ => fun
  | [d1, d2, d3, d4, d5] => { results := [.lit (.bool false)], args := [d1, d2, d3, d4, d5] }
  | _ => none }
def SegOptionsWrongFalsely : Prop := segOptionsRow.holds Try.pinned (OpenSpec.ofChange segOptionsWrong)

/- THE SECOND FORM. 'bulk': how many values and letters a reading holds, each counted each time it is reached (what is shared counts as often as it is met; a slice's spare places count too). A statement '..UptoSaid' is the law's where the arguments, and the package variables that the reading takes, are together of bulk at most 1048576: NARROWER than '..Said'. Prove '..Said' where nothing that the law and all that it calls make is longer than what came in: it says more and counts as full. Else prove '..UptoSaid'. A law counts once. -/
mutual
def uptoBulk {H : Type} : DataW H → Nat
  | .lit (.string bytes) => bytes.length + 1
  | .lit _ => 1
  | .nil => 1
  | .ptr d => uptoBulk d + 1
  | .slice elems spare => uptoBulkAll elems + uptoBulkAll spare + 1
  | .agg parts => uptoBulkAll parts + 1
  | .iface _ d => uptoBulk d + 1
  | .map entries => uptoBulkEntries entries + 1
  | .held _ => 1
def uptoBulkAll {H : Type} : List (DataW H) → Nat
  | [] => 0
  | d :: r => uptoBulk d + uptoBulkAll r
def uptoBulkEntries {H : Type} : List (Lit × DataW H) → Nat
  | [] => 0
  | x :: r => uptoBulkEntry x + uptoBulkEntries r
def uptoBulkEntry {H : Type} : Lit × DataW H → Nat
  | (.string bytes, d) => bytes.length + uptoBulk d + 1
  | (_, d) => uptoBulk d + 1
 end
def uptoSmall : (H : Type) → List (DataW H) → Bool := fun _ ds => decide (uptoBulkAll ds ≤ 1048576)
def OpenSpec.upto (s : _root_.Go.ChangeSpec) : _root_.Go.OpenSpec := { _root_.Go.OpenSpec.ofChange s with cond := some uptoSmall }

/-- 'pharoslaw19.SegBack', WHERE WHAT IT READS IS OF BULK AT MOST 1048576: true; the input reads as it did. -/
def segBackUptoRow : OpenClaim := { program := "ytidkbphdihlbaaa", sum := "4a4c9a3c0d6a9e3bef0d1718a3681cd742e31db2b7b24956ace103eebc985b1c", func := "pharos/pharoslaw19.SegBack", spec := "segBack", apart := false, narrowed := true }
def SegBackUptoSaid : Prop := segBackUptoRow.holds Try.pinned (OpenSpec.upto segBackSpec)

/-- 'pharoslaw19.SegPlaces', WHERE WHAT IT READS IS OF BULK AT MOST 1048576: true; the input reads as it did. -/
def segPlacesUptoRow : OpenClaim := { program := "ytidkbphdihlbaaa", sum := "4a4c9a3c0d6a9e3bef0d1718a3681cd742e31db2b7b24956ace103eebc985b1c", func := "pharos/pharoslaw19.SegPlaces", spec := "segPlaces", apart := false, narrowed := true }
def SegPlacesUptoSaid : Prop := segPlacesUptoRow.holds Try.pinned (OpenSpec.upto segPlacesSpec)

/-- 'pharoslaw19.SegOptions', WHERE WHAT IT READS IS OF BULK AT MOST 1048576: true; the input reads as it did. -/
def segOptionsUptoRow : OpenClaim := { program := "ytidkbphdihlbaaa", sum := "4a4c9a3c0d6a9e3bef0d1718a3681cd742e31db2b7b24956ace103eebc985b1c", func := "pharos/pharoslaw19.SegOptions", spec := "segOptions", apart := false, narrowed := true }
def SegOptionsUptoSaid : Prop := segOptionsUptoRow.holds Try.pinned (OpenSpec.upto segOptionsSpec)

end Rows
end Go.Proofs.Ytidkbphdihlbaaa
