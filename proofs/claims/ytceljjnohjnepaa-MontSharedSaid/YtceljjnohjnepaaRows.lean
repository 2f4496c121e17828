/-
  No cell of these rows narrows 'for every input' (looked for: loops, veiled, ifaces, maps, wideKeys, modest, calm, conditions, laid).
  DERIVED. THE GIVEN ROWS OF THIS SEAT. 8 by the template 'for every input the law returns true; each argument reads behind the call as it read before'; 0 by the template 'total and deterministic' (their statements: YtceljjnohjnepaaTotals.lean).
  GIVEN WITH THE SEED: the statements are not yours to turn. If you find one false, say at which input.
  Laid BY PROGRAM, IN A SANDBOX (cutbox-rows.mjs): the forced cells as the released guide's own fill.sh prints them over the translation 78619482ab58d3b9… (all of the seat's roots in one cut). By AI agents, Wed Nov 11 2026. No macro, syntax, notation, axiom, sorry.
-/
import Derived.Test.YtceljjnohjnepaaChecked
import GoSem.Claim
import GoSem.ClaimJoined
import GoSem.ClaimMapViews
import Derived.JoinedTies
import Derived.KernelRfl
namespace Go.Proofs.Ytceljjnohjnepaa
/- THE CELL 'sum', in the pinned program and in every row, IS THE sha256 OF THE DUMP (.gsa) THAT YtceljjnohjnepaaProg.lean LOADS. Nothing in Lean hashes anything: it is a label: what it is worth is what the hold of that sum in a sandbox is worth. -/
noncomputable def Try.pinned : Pinned := { name := "ytceljjnohjnepaa", sum := "78619482ab58d3b9c3757c8331ddbbf4626af0d7aca9cfc66427b549b1ca94e6", checked := Try.checked }
namespace Rows
def none {H : Type} : Left H := { results := [], args := [] }

/-- 'pharoslaw08.MontShared': WHATEVER THE INPUT: true; the input reads as it did. -/
def montSharedSpec : ChangeSpec := { name := "montShared", fn := fun _ => fun
  | [d1, d2] => { results := [.lit (.bool true)], args := [d1, d2] }
  | _ => none }
def montSharedRow : OpenClaim := { program := "ytceljjnohjnepaa", sum := "78619482ab58d3b9c3757c8331ddbbf4626af0d7aca9cfc66427b549b1ca94e6", func := "pharos/pharoslaw08.MontShared", spec := "montShared", inPlace := ["math/bits.Add64", "math/bits.Sub64"], apart := false }
def MontSharedSaid : Prop := montSharedRow.holds Try.pinned (OpenSpec.ofChange montSharedSpec)

/-- ITS FALSE NEIGHBOUR: 'it returns false'. Refute it at one input. -/
def montSharedWrong : ChangeSpec := { name := "montShared", fn := fun _ => fun
  | [d1, d2] => { results := [.lit (.bool false)], args := [d1, d2] }
  | _ => none }
def MontSharedWrongFalsely : Prop := montSharedRow.holds Try.pinned (OpenSpec.ofChange montSharedWrong)

/-- 'pharoslaw08.MontBoth': WHATEVER THE INPUT: true; the input reads as it did. -/
def montBothSpec : ChangeSpec := { name := "montBoth", fn := fun _ => fun
  | [d1, d2, d3] => { results := [.lit (.bool true)], args := [d1, d2, d3] }
  | _ => none }
def montBothRow : OpenClaim := { program := "ytceljjnohjnepaa", sum := "78619482ab58d3b9c3757c8331ddbbf4626af0d7aca9cfc66427b549b1ca94e6", func := "pharos/pharoslaw08.MontBoth", spec := "montBoth", inPlace := ["math/bits.Add64", "math/bits.Sub64"], apart := false }
def MontBothSaid : Prop := montBothRow.holds Try.pinned (OpenSpec.ofChange montBothSpec)

/-- ITS FALSE NEIGHBOUR: 'it returns false'. Refute it at one input. -/
def montBothWrong : ChangeSpec := { name := "montBoth", fn := fun _ => fun
  | [d1, d2, d3] => { results := [.lit (.bool false)], args := [d1, d2, d3] }
  | _ => none }
def MontBothWrongFalsely : Prop := montBothRow.holds Try.pinned (OpenSpec.ofChange montBothWrong)

/-- 'pharoslaw08.MontKeys': WHATEVER THE INPUT: true; the input reads as it did. -/
def montKeysSpec : ChangeSpec := { name := "montKeys", fn := fun _ => fun
  | [d1, d2, d3] => { results := [.lit (.bool true)], args := [d1, d2, d3] }
  | _ => none }
def montKeysRow : OpenClaim := { program := "ytceljjnohjnepaa", sum := "78619482ab58d3b9c3757c8331ddbbf4626af0d7aca9cfc66427b549b1ca94e6", func := "pharos/pharoslaw08.MontKeys", spec := "montKeys", inPlace := ["math/bits.Add64", "math/bits.Sub64"], apart := false }
def MontKeysSaid : Prop := montKeysRow.holds Try.pinned (OpenSpec.ofChange montKeysSpec)

/-- ITS FALSE NEIGHBOUR: 'it returns false'. Refute it at one input. -/
def montKeysWrong : ChangeSpec := { name := "montKeys", fn := fun _ => fun
  | [d1, d2, d3] => { results := [.lit (.bool false)], args := [d1, d2, d3] }
  | _ => none }
def MontKeysWrongFalsely : Prop := montKeysRow.holds Try.pinned (OpenSpec.ofChange montKeysWrong)

/-- 'pharoslaw09.EdwReads': WHATEVER THE INPUT: true; the input reads as it did. -/
def edwReadsSpec : ChangeSpec := { name := "edwReads", fn := fun _ => fun
  | [d] => { results := [.lit (.bool true)], args := [d] }
  | _ => none }
def edwReadsRow : OpenClaim := { program := "ytceljjnohjnepaa", sum := "78619482ab58d3b9c3757c8331ddbbf4626af0d7aca9cfc66427b549b1ca94e6", func := "pharos/pharoslaw09.EdwReads", spec := "edwReads", inPlace := ["internal/abi.NoEscape", "internal/bytealg.MakeNoZero", "math/bits.Add64", "math/bits.Sub64"], apart := false }
def EdwReadsSaid : Prop := edwReadsRow.holds Try.pinned (OpenSpec.ofChange edwReadsSpec)

/-- ITS FALSE NEIGHBOUR: 'it returns false'. Refute it at one input. -/
def edwReadsWrong : ChangeSpec := { name := "edwReads", fn := fun _ => fun
  | [d] => { results := [.lit (.bool false)], args := [d] }
  | _ => none }
def EdwReadsWrongFalsely : Prop := edwReadsRow.holds Try.pinned (OpenSpec.ofChange edwReadsWrong)

/-- 'pharoslaw09.EdwRows': WHATEVER THE INPUT: true; the input reads as it did. -/
def edwRowsSpec : ChangeSpec := { name := "edwRows", fn := fun _ => fun
  | [d1, d2] => { results := [.lit (.bool true)], args := [d1, d2] }
  | _ => none }
def edwRowsRow : OpenClaim := { program := "ytceljjnohjnepaa", sum := "78619482ab58d3b9c3757c8331ddbbf4626af0d7aca9cfc66427b549b1ca94e6", func := "pharos/pharoslaw09.EdwRows", spec := "edwRows", inPlace := ["math/bits.Add64", "math/bits.Sub64", "internal/abi.NoEscape", "internal/bytealg.MakeNoZero"], apart := false }
def EdwRowsSaid : Prop := edwRowsRow.holds Try.pinned (OpenSpec.ofChange edwRowsSpec)

/-- ITS FALSE NEIGHBOUR: 'it returns false'. Refute it at one input. -/
def edwRowsWrong : ChangeSpec := { name := "edwRows", fn := fun _ => fun
  | [d1, d2] => { results := [.lit (.bool false)], args := [d1, d2] }
  | _ => none }
def EdwRowsWrongFalsely : Prop := edwRowsRow.holds Try.pinned (OpenSpec.ofChange edwRowsWrong)

/-- 'pharoslaw09.EdwReckons': WHATEVER THE INPUT: true; the input reads as it did. -/
def edwReckonsSpec : ChangeSpec := { name := "edwReckons", fn := fun _ => fun
  | [d1, d2, d3, d4] => { results := [.lit (.bool true)], args := [d1, d2, d3, d4] }
  | _ => none }
def edwReckonsRow : OpenClaim := { program := "ytceljjnohjnepaa", sum := "78619482ab58d3b9c3757c8331ddbbf4626af0d7aca9cfc66427b549b1ca94e6", func := "pharos/pharoslaw09.EdwReckons", spec := "edwReckons", inPlace := ["math/bits.Add64", "math/bits.Sub64", "internal/abi.NoEscape", "internal/bytealg.MakeNoZero"], apart := false }
def EdwReckonsSaid : Prop := edwReckonsRow.holds Try.pinned (OpenSpec.ofChange edwReckonsSpec)

/-- ITS FALSE NEIGHBOUR: 'it returns false'. Refute it at one input. -/
def edwReckonsWrong : ChangeSpec := { name := "edwReckons", fn := fun _ => fun
  | [d1, d2, d3, d4] => { results := [.lit (.bool false)], args := [d1, d2, d3, d4] }
  | _ => none }
def EdwReckonsWrongFalsely : Prop := edwReckonsRow.holds Try.pinned (OpenSpec.ofChange edwReckonsWrong)

/-- 'pharoslaw09.EdwNone': WHATEVER THE INPUT: true; the input reads as it did. -/
def edwNoneSpec : ChangeSpec := { name := "edwNone", fn := fun _ => fun
  | [d] => { results := [.lit (.bool true)], args := [d] }
  | _ => none }
def edwNoneRow : OpenClaim := { program := "ytceljjnohjnepaa", sum := "78619482ab58d3b9c3757c8331ddbbf4626af0d7aca9cfc66427b549b1ca94e6", func := "pharos/pharoslaw09.EdwNone", spec := "edwNone", inPlace := ["math/bits.Sub64", "internal/abi.NoEscape", "internal/bytealg.MakeNoZero", "math/bits.Add64"], apart := false }
def EdwNoneSaid : Prop := edwNoneRow.holds Try.pinned (OpenSpec.ofChange edwNoneSpec)

/-- ITS FALSE NEIGHBOUR: 'it returns false'. Refute it at one input. -/
def edwNoneWrong : ChangeSpec := { name := "edwNone", fn := fun _ => fun
  | [d] => { results := [.lit (.bool false)], args := [d] }
  | _ => none }
def EdwNoneWrongFalsely : Prop := edwNoneRow.holds Try.pinned (OpenSpec.ofChange edwNoneWrong)

/-- 'pharoslaw09.EdwLaws': WHATEVER THE INPUT: true; the input reads as it did. -/
def edwLawsSpec : ChangeSpec := { name := "edwLaws", fn := fun _ => fun
  | [d1, d2, d3, d4, d5] => { results := [.lit (.bool true)], args := [d1, d2, d3, d4, d5] }
  | _ => none }
def edwLawsRow : OpenClaim := { program := "ytceljjnohjnepaa", sum := "78619482ab58d3b9c3757c8331ddbbf4626af0d7aca9cfc66427b549b1ca94e6", func := "pharos/pharoslaw09.EdwLaws", spec := "edwLaws", inPlace := ["math/bits.Add64", "math/bits.Sub64", "internal/abi.NoEscape", "internal/bytealg.MakeNoZero"], apart := false }
def EdwLawsSaid : Prop := edwLawsRow.holds Try.pinned (OpenSpec.ofChange edwLawsSpec)

/-- ITS FALSE NEIGHBOUR: 'it returns false'. Refute it at one input. -/
def edwLawsWrong : ChangeSpec := { name := "edwLaws", fn := fun _ => fun
  | [d1, d2, d3, d4, d5] => { results := [.lit (.bool false)], args := [d1, d2, d3, d4, d5] }
  | _ => none }
def EdwLawsWrongFalsely : Prop := edwLawsRow.holds Try.pinned (OpenSpec.ofChange edwLawsWrong)

/- THE SECOND FORM. 'bulk': how many values and letters a reading holds, each counted each time it is reached (what is shared counts as often as it is met; a slice's spare places count too). A statement '..UptoSaid' is the law's where the arguments, and the package variables that the reading takes, are together of bulk at most 1048576: NARROWER than '..Said'. Prove '..Said' where nothing that the law and all that it calls make is longer than what came in: it says more and counts as full. Else prove '..UptoSaid'. A law counts once. -/
mutual
def uptoBulk {H : Type} : DataW H → Nat
  | .lit (.string bytes) => bytes.length + 1
  | .lit _ => 1
  | .nil => 1
  | .ptr d => uptoBulk d + 1
  | .slice elems spare => uptoBulkAll elems + uptoBulkAll spare + 1
  | .agg parts => uptoBulkAll parts + 1
  | .iface _ d => uptoBulk d + 1
  | .map entries => uptoBulkEntries entries + 1
  | .held _ => 1
def uptoBulkAll {H : Type} : List (DataW H) → Nat
  | [] => 0
  | d :: r => uptoBulk d + uptoBulkAll r
def uptoBulkEntries {H : Type} : List (Lit × DataW H) → Nat
  | [] => 0
  | x :: r => uptoBulkEntry x + uptoBulkEntries r
def uptoBulkEntry {H : Type} : Lit × DataW H → Nat
  | (.string bytes, d) => bytes.length + uptoBulk d + 1
  | (_, d) => uptoBulk d + 1
 end
def uptoSmall : (H : Type) → List (DataW H) → Bool := fun _ ds => decide (uptoBulkAll ds ≤ 1048576)
def OpenSpec.upto (s : _root_.Go.ChangeSpec) : _root_.Go.OpenSpec := { _root_.Go.OpenSpec.ofChange s with cond := some uptoSmall }

/-- 'pharoslaw08.MontShared', WHERE WHAT IT READS IS OF BULK AT MOST 1048576: true; the input reads as it did. -/
def montSharedUptoRow : OpenClaim := { program := "ytceljjnohjnepaa", sum := "78619482ab58d3b9c3757c8331ddbbf4626af0d7aca9cfc66427b549b1ca94e6", func := "pharos/pharoslaw08.MontShared", spec := "montShared", inPlace := ["math/bits.Add64", "math/bits.Sub64"], apart := false, narrowed := true }
def MontSharedUptoSaid : Prop := montSharedUptoRow.holds Try.pinned (OpenSpec.upto montSharedSpec)

/-- 'pharoslaw08.MontBoth', WHERE WHAT IT READS IS OF BULK AT MOST 1048576: true; the input reads as it did. -/
def montBothUptoRow : OpenClaim := { program := "ytceljjnohjnepaa", sum := "78619482ab58d3b9c3757c8331ddbbf4626af0d7aca9cfc66427b549b1ca94e6", func := "pharos/pharoslaw08.MontBoth", spec := "montBoth", inPlace := ["math/bits.Add64", "math/bits.Sub64"], apart := false, narrowed := true }
def MontBothUptoSaid : Prop := montBothUptoRow.holds Try.pinned (OpenSpec.upto montBothSpec)

/-- 'pharoslaw08.MontKeys', WHERE WHAT IT READS IS OF BULK AT MOST 1048576: true; the input reads as it did. -/
def montKeysUptoRow : OpenClaim := { program := "ytceljjnohjnepaa", sum := "78619482ab58d3b9c3757c8331ddbbf4626af0d7aca9cfc66427b549b1ca94e6", func := "pharos/pharoslaw08.MontKeys", spec := "montKeys", inPlace := ["math/bits.Add64", "math/bits.Sub64"], apart := false, narrowed := true }
def MontKeysUptoSaid : Prop := montKeysUptoRow.holds Try.pinned (OpenSpec.upto montKeysSpec)

/-- 'pharoslaw09.EdwReads', WHERE WHAT IT READS IS OF BULK AT MOST 1048576: true; the input reads as it did. -/
def edwReadsUptoRow : OpenClaim := { program := "ytceljjnohjnepaa", sum := "78619482ab58d3b9c3757c8331ddbbf4626af0d7aca9cfc66427b549b1ca94e6", func := "pharos/pharoslaw09.EdwReads", spec := "edwReads", inPlace := ["internal/abi.NoEscape", "internal/bytealg.MakeNoZero", "math/bits.Add64", "math/bits.Sub64"], apart := false, narrowed := true }
def EdwReadsUptoSaid : Prop := edwReadsUptoRow.holds Try.pinned (OpenSpec.upto edwReadsSpec)

/-- 'pharoslaw09.EdwRows', WHERE WHAT IT READS IS OF BULK AT MOST 1048576: true; the input reads as it did. -/
def edwRowsUptoRow : OpenClaim := { program := "ytceljjnohjnepaa", sum := "78619482ab58d3b9c3757c8331ddbbf4626af0d7aca9cfc66427b549b1ca94e6", func := "pharos/pharoslaw09.EdwRows", spec := "edwRows", inPlace := ["math/bits.Add64", "math/bits.Sub64", "internal/abi.NoEscape", "internal/bytealg.MakeNoZero"], apart := false, narrowed := true }
def EdwRowsUptoSaid : Prop := edwRowsUptoRow.holds Try.pinned (OpenSpec.upto edwRowsSpec)

/-- 'pharoslaw09.EdwReckons', WHERE WHAT IT READS IS OF BULK AT MOST 1048576: true; the input reads as it did. -/
def edwReckonsUptoRow : OpenClaim := { program := "ytceljjnohjnepaa", sum := "78619482ab58d3b9c3757c8331ddbbf4626af0d7aca9cfc66427b549b1ca94e6", func := "pharos/pharoslaw09.EdwReckons", spec := "edwReckons", inPlace := ["math/bits.Add64", "math/bits.Sub64", "internal/abi.NoEscape", "internal/bytealg.MakeNoZero"], apart := false, narrowed := true }
def EdwReckonsUptoSaid : Prop := edwReckonsUptoRow.holds Try.pinned (OpenSpec.upto edwReckonsSpec)

/-- 'pharoslaw09.EdwNone', WHERE WHAT IT READS IS OF BULK AT MOST 1048576: true; the input reads as it did. -/
def edwNoneUptoRow : OpenClaim := { program := "ytceljjnohjnepaa", sum := "78619482ab58d3b9c3757c8331ddbbf4626af0d7aca9cfc66427b549b1ca94e6", func := "pharos/pharoslaw09.EdwNone", spec := "edwNone", inPlace := ["math/bits.Sub64", "internal/abi.NoEscape", "internal/bytealg.MakeNoZero", "math/bits.Add64"], apart := false, narrowed := true }
def EdwNoneUptoSaid : Prop := edwNoneUptoRow.holds Try.pinned (OpenSpec.upto edwNoneSpec)

/-- 'pharoslaw09.EdwLaws', WHERE WHAT IT READS IS OF BULK AT MOST 1048576: true; the input reads as it did. -/
def edwLawsUptoRow : OpenClaim := { program := "ytceljjnohjnepaa", sum := "78619482ab58d3b9c3757c8331ddbbf4626af0d7aca9cfc66427b549b1ca94e6", func := "pharos/pharoslaw09.EdwLaws", spec := "edwLaws", inPlace := ["math/bits.Add64", "math/bits.Sub64", "internal/abi.NoEscape", "internal/bytealg.MakeNoZero"], apart := false, narrowed := true }
def EdwLawsUptoSaid : Prop := edwLawsUptoRow.holds Try.pinned (OpenSpec.upto edwLawsSpec)

end Rows
end Go.Proofs.Ytceljjnohjnepaa
