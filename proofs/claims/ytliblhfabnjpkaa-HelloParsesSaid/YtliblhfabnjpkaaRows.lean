/-
  No cell of these rows narrows 'for every input' (looked for: loops, veiled, ifaces, maps, wideKeys, modest, calm, conditions, laid).
  DERIVED. THE GIVEN ROWS OF THIS SEAT. 5 by the template 'for every input the law returns true; each argument reads behind the call as it read before'; 0 by the template 'total and deterministic' (their statements: YtliblhfabnjpkaaTotals.lean).
  GIVEN WITH THE SEED: the statements are not yours to turn. If you find one false, say at which input.
  Laid BY PROGRAM, IN A SANDBOX (cutbox-rows.mjs): the forced cells as the released guide's own fill.sh prints them over the translation 3346b88f58708ad8… (all of the seat's roots in one cut). By AI agents, Wed Nov 11 2026. No macro, syntax, notation, axiom, sorry.
-/
import Derived.Test.YtliblhfabnjpkaaChecked
import GoSem.Claim
import GoSem.ClaimJoined
import GoSem.ClaimMapViews
import Derived.JoinedTies
import Derived.KernelRfl
namespace Go.Proofs.Ytliblhfabnjpkaa
/- THE CELL 'sum', in the pinned program and in every row, IS THE sha256 OF THE DUMP (.gsa) THAT YtliblhfabnjpkaaProg.lean LOADS. Nothing in Lean hashes anything: it is a label: what it is worth is what the hold of that sum in a sandbox is worth. -/
noncomputable def Try.pinned : Pinned := { name := "ytliblhfabnjpkaa", sum := "3346b88f58708ad8d75514189a97bfdc92f43a6c14c095a54a19b8e25dc338d9", checked := Try.checked }
namespace Rows
def none {H : Type} : Left H := { results := [], args := [] }

/-- 'pharoslaw27.HelloFar': WHATEVER THE INPUT: true; the input reads as it did. -/
def helloFarSpec : ChangeSpec := { name := "helloFar", fn := fun _ => fun
  | [d] => { results := [.lit (.bool true)], args := [d] }
  | _ => none }
def helloFarRow : OpenClaim := { program := "ytliblhfabnjpkaa", sum := "3346b88f58708ad8d75514189a97bfdc92f43a6c14c095a54a19b8e25dc338d9", func := "pharos/pharoslaw27.HelloFar", spec := "helloFar", unfollowed := true, recurses := true, apart := false }
def HelloFarSaid : Prop := helloFarRow.holds Try.pinned (OpenSpec.ofChange helloFarSpec)

/-- ITS FALSE NEIGHBOUR: 'it returns false'. Refute it at one input. -/
def helloFarWrong : ChangeSpec := { name := "helloFar", fn := fun _ => fun
  | [d] => { results := [.lit (.bool false)], args := [d] }
  | _ => none }
def HelloFarWrongFalsely : Prop := helloFarRow.holds Try.pinned (OpenSpec.ofChange helloFarWrong)

/-- 'pharoslaw27.HelloParses': WHATEVER THE INPUT: true; the input reads as it did. -/
def helloParsesSpec : ChangeSpec := { name := "helloParses", fn := fun _ => fun
  | [d] => { results := [.lit (.bool true)], args := [d] }
  | _ => none }
def helloParsesRow : OpenClaim := { program := "ytliblhfabnjpkaa", sum := "3346b88f58708ad8d75514189a97bfdc92f43a6c14c095a54a19b8e25dc338d9", func := "pharos/pharoslaw27.HelloParses", spec := "helloParses", unfollowed := true, recurses := true, apart := false }
def HelloParsesSaid : Prop := helloParsesRow.holds Try.pinned (OpenSpec.ofChange helloParsesSpec)

/-- ITS FALSE NEIGHBOUR: 'it returns false'. Refute it at one input. -/
def helloParsesWrong : ChangeSpec := { name := "helloParses", fn := fun _ => fun
  | [d] => { results := [.lit (.bool false)], args := [d] }
  | _ => none }
def HelloParsesWrongFalsely : Prop := helloParsesRow.holds Try.pinned (OpenSpec.ofChange helloParsesWrong)

/-- 'pharoslaw27.HelloReads': WHATEVER THE INPUT: true; the input reads as it did. -/
def helloReadsSpec : ChangeSpec := { name := "helloReads", fn := fun _ => fun
  | [d1, d2, d3] => { results := [.lit (.bool true)], args := [d1, d2, d3] }
  | _ => none }
def helloReadsRow : OpenClaim := { program := "ytliblhfabnjpkaa", sum := "3346b88f58708ad8d75514189a97bfdc92f43a6c14c095a54a19b8e25dc338d9", func := "pharos/pharoslaw27.HelloReads", spec := "helloReads", unfollowed := true, recurses := true, apart := false }
def HelloReadsSaid : Prop := helloReadsRow.holds Try.pinned (OpenSpec.ofChange helloReadsSpec)

/-- ITS FALSE NEIGHBOUR: 'it returns false'. Refute it at one input. -/
def helloReadsWrong : ChangeSpec := { name := "helloReads", fn := fun _ => fun
  | [d1, d2, d3] => { results := [.lit (.bool false)], args := [d1, d2, d3] }
  | _ => none }
def HelloReadsWrongFalsely : Prop := helloReadsRow.holds Try.pinned (OpenSpec.ofChange helloReadsWrong)

/-- 'pharoslaw27.HelloNil': WHATEVER THE INPUT: true; the input reads as it did. -/
def helloNilSpec : ChangeSpec := { name := "helloNil", fn := fun _ => fun
  | [d] => { results := [.lit (.bool true)], args := [d] }
  | _ => none }
def helloNilRow : OpenClaim := { program := "ytliblhfabnjpkaa", sum := "3346b88f58708ad8d75514189a97bfdc92f43a6c14c095a54a19b8e25dc338d9", func := "pharos/pharoslaw27.HelloNil", spec := "helloNil", unfollowed := true, recurses := true, apart := false }
def HelloNilSaid : Prop := helloNilRow.holds Try.pinned (OpenSpec.ofChange helloNilSpec)

/-- ITS FALSE NEIGHBOUR: 'it returns false'. Refute it at one input. -/
def helloNilWrong : ChangeSpec := { name := "helloNil", fn := fun _ => fun
  | [d] => { results := [.lit (.bool false)], args := [d] }
  | _ => none }
def HelloNilWrongFalsely : Prop := helloNilRow.holds Try.pinned (OpenSpec.ofChange helloNilWrong)

/-- 'pharoslaw27.HelloSays': WHATEVER THE INPUT: true; the input reads as it did. -/
def helloSaysSpec : ChangeSpec := { name := "helloSays", fn := fun _ => fun
  | [d1, d2, d3, d4, d5] => { results := [.lit (.bool true)], args := [d1, d2, d3, d4, d5] }
  | _ => none }
def helloSaysRow : OpenClaim := { program := "ytliblhfabnjpkaa", sum := "3346b88f58708ad8d75514189a97bfdc92f43a6c14c095a54a19b8e25dc338d9", func := "pharos/pharoslaw27.HelloSays", spec := "helloSays", unfollowed := true, recurses := true, apart := false }
def HelloSaysSaid : Prop := helloSaysRow.holds Try.pinned (OpenSpec.ofChange helloSaysSpec)

/-- ITS FALSE NEIGHBOUR: 'it returns false'. Refute it at one input. -/
def helloSaysWrong : ChangeSpec := { name := "helloSays", fn := fun _ => fun
  | [d1, d2, d3, d4, d5] => { results := [.lit (.bool false)], args := [d1, d2, d3, d4, d5] }
  | _ => none }
def HelloSaysWrongFalsely : Prop := helloSaysRow.holds Try.pinned (OpenSpec.ofChange helloSaysWrong)

/- THE SECOND FORM. 'bulk': how many values and letters a reading holds, each counted each time it is reached (what is shared counts as often as it is met; a slice's spare places count too). A statement '..UptoSaid' is the law's where the arguments, and the package variables that the reading takes, are together of bulk at most 1048576: NARROWER than '..Said'. Prove '..Said' where nothing that the law and all that it calls make is longer than what came in: it says more and counts as full. Else prove '..UptoSaid'. A law counts once. -/
mutual
def uptoBulk {H : Type} : DataW H → Nat
  | .lit (.string bytes) => bytes.length + 1
  | .lit _ => 1
  | .nil => 1
  | .ptr d => uptoBulk d + 1
  | .slice elems spare => uptoBulkAll elems + uptoBulkAll spare + 1
  | .agg parts => uptoBulkAll parts + 1
  | .iface _ d => uptoBulk d + 1
  | .map entries => uptoBulkEntries entries + 1
  | .held _ => 1
def uptoBulkAll {H : Type} : List (DataW H) → Nat
  | [] => 0
  | d :: r => uptoBulk d + uptoBulkAll r
def uptoBulkEntries {H : Type} : List (Lit × DataW H) → Nat
  | [] => 0
  | x :: r => uptoBulkEntry x + uptoBulkEntries r
def uptoBulkEntry {H : Type} : Lit × DataW H → Nat
  | (.string bytes, d) => bytes.length + uptoBulk d + 1
  | (_, d) => uptoBulk d + 1
 end
def uptoSmall : (H : Type) → List (DataW H) → Bool := fun _ ds => decide (uptoBulkAll ds ≤ 1048576)
def OpenSpec.upto (s : _root_.Go.ChangeSpec) : _root_.Go.OpenSpec := { _root_.Go.OpenSpec.ofChange s with cond := some uptoSmall }

/-- 'pharoslaw27.HelloFar', WHERE WHAT IT READS IS OF BULK AT MOST 1048576: true; the input reads as it did. -/
def helloFarUptoRow : OpenClaim := { program := "ytliblhfabnjpkaa", sum := "3346b88f58708ad8d75514189a97bfdc92f43a6c14c095a54a19b8e25dc338d9", func := "pharos/pharoslaw27.HelloFar", spec := "helloFar", unfollowed := true, recurses := true, apart := false, narrowed := true }
def HelloFarUptoSaid : Prop := helloFarUptoRow.holds Try.pinned (OpenSpec.upto helloFarSpec)

/-- 'pharoslaw27.HelloParses', WHERE WHAT IT READS IS OF BULK AT MOST 1048576: true; the input reads as it did. -/
def helloParsesUptoRow : OpenClaim := { program := "ytliblhfabnjpkaa", sum := "3346b88f58708ad8d75514189a97bfdc92f43a6c14c095a54a19b8e25dc338d9", func := "pharos/pharoslaw27.HelloParses", spec := "helloParses", unfollowed := true, recurses := true, apart := false, narrowed := true }
def HelloParsesUptoSaid : Prop := helloParsesUptoRow.holds Try.pinned (OpenSpec.upto helloParsesSpec)

/-- 'pharoslaw27.HelloReads', WHERE WHAT IT READS IS OF BULK AT MOST 1048576: true; the input reads as it did. -/
def helloReadsUptoRow : OpenClaim := { program := "ytliblhfabnjpkaa", sum := "3346b88f58708ad8d75514189a97bfdc92f43a6c14c095a54a19b8e25dc338d9", func := "pharos/pharoslaw27.HelloReads", spec := "helloReads", unfollowed := true, recurses := true, apart := false, narrowed := true }
def HelloReadsUptoSaid : Prop := helloReadsUptoRow.holds Try.pinned (OpenSpec.upto helloReadsSpec)

/-- 'pharoslaw27.HelloNil', WHERE WHAT IT READS IS OF BULK AT MOST 1048576: true; the input reads as it did. -/
def helloNilUptoRow : OpenClaim := { program := "ytliblhfabnjpkaa", sum := "3346b88f58708ad8d75514189a97bfdc92f43a6c14c095a54a19b8e25dc338d9", func := "pharos/pharoslaw27.HelloNil", spec := "helloNil", unfollowed := true, recurses := true, apart := false, narrowed := true }
def HelloNilUptoSaid : Prop := helloNilUptoRow.holds Try.pinned (OpenSpec.upto helloNilSpec)

/-- 'pharoslaw27.HelloSays', WHERE WHAT IT READS IS OF BULK AT MOST 1048576: true; the input reads as it did. -/
def helloSaysUptoRow : OpenClaim := { program := "ytliblhfabnjpkaa", sum := "3346b88f58708ad8d75514189a97bfdc92f43a6c14c095a54a19b8e25dc338d9", func := "pharos/pharoslaw27.HelloSays", spec := "helloSays", unfollowed := true, recurses := true, apart := false, narrowed := true }
def HelloSaysUptoSaid : Prop := helloSaysUptoRow.holds Try.pinned (OpenSpec.upto helloSaysSpec)

end Rows
end Go.Proofs.Ytliblhfabnjpkaa
