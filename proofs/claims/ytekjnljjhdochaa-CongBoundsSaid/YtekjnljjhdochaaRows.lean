/-
  No cell of these rows narrows 'for every input' (looked for: loops, veiled, ifaces, maps, wideKeys, modest, calm, conditions, laid).
  DERIVED. THE GIVEN ROWS OF THIS SEAT. 3 by the template 'for every input the law returns true; each argument reads behind the call as it read before'; 0 by the template 'total and deterministic' (their statements: YtekjnljjhdochaaTotals.lean).
  GIVEN WITH THE SEED: the statements are not yours to turn. If you find one false, say at which input.
  Laid BY PROGRAM, IN A SANDBOX (cutbox-rows.mjs): the forced cells as the released guide's own fill.sh prints them over the translation 5de07e9d7de68e95… (all of the seat's roots in one cut). By AI agents, Wed Nov 11 2026. No macro, syntax, notation, axiom, sorry.
-/
import Derived.Test.YtekjnljjhdochaaChecked
import GoSem.Claim
import GoSem.ClaimJoined
import GoSem.ClaimMapViews
import Derived.JoinedTies
import Derived.KernelRfl
namespace Go.Proofs.Ytekjnljjhdochaa
/- THE CELL 'sum', in the pinned program and in every row, IS THE sha256 OF THE DUMP (.gsa) THAT YtekjnljjhdochaaProg.lean LOADS. Nothing in Lean hashes anything: it is a label: what it is worth is what the hold of that sum in a sandbox is worth. -/
noncomputable def Try.pinned : Pinned := { name := "ytekjnljjhdochaa", sum := "5de07e9d7de68e95b1691f9a6ce1c06c3908d03a2726ef34ef0d953e9b784109", checked := Try.checked }
namespace Rows
def none {H : Type} : Left H := { results := [], args := [] }

/-- 'pharoslaw22.CongPlays': WHATEVER THE INPUT: true; the input reads as it did. -/
def congPlaysSpec : ChangeSpec := { name := "congPlays", fn := fun _ => fun
  | [d1, d2] => { results := [.lit (.bool true)], args := [d1, d2] }
  | _ => none }
def congPlaysRow : OpenClaim := { program := "ytekjnljjhdochaa", sum := "5de07e9d7de68e95b1691f9a6ce1c06c3908d03a2726ef34ef0d953e9b784109", func := "pharos/pharoslaw22.CongPlays", spec := "congPlays", apart := false }
def CongPlaysSaid : Prop := congPlaysRow.holds Try.pinned (OpenSpec.ofChange congPlaysSpec)

/-- ITS FALSE NEIGHBOUR: 'it returns false'. Refute it at one input. -/
def congPlaysWrong : ChangeSpec := { name := "congPlays", fn := fun _ => fun
  | [d1, d2] => { results := [.lit (.bool false)], args := [d1, d2] }
  | _ => none }
def CongPlaysWrongFalsely : Prop := congPlaysRow.holds Try.pinned (OpenSpec.ofChange congPlaysWrong)

/-- 'pharoslaw22.CongBounds': WHATEVER THE INPUT: true; the input reads as it did. -/
def congBoundsSpec : ChangeSpec := { name := "congBounds", fn := fun _ => fun
  | [d1, d2] => { results := [.lit (.bool true)], args := [d1, d2] }
  | _ => none }
def congBoundsRow : OpenClaim := { program := "ytekjnljjhdochaa", sum := "5de07e9d7de68e95b1691f9a6ce1c06c3908d03a2726ef34ef0d953e9b784109", func := "pharos/pharoslaw22.CongBounds", spec := "congBounds", apart := false }
def CongBoundsSaid : Prop := congBoundsRow.holds Try.pinned (OpenSpec.ofChange congBoundsSpec)

/-- ITS FALSE NEIGHBOUR: 'it returns false'. Refute it at one input. -/
def congBoundsWrong : ChangeSpec := { name := "congBounds", fn := fun _ => fun
  | [d1, d2] => { results := [.lit (.bool false)], args := [d1, d2] }
  | _ => none }
def CongBoundsWrongFalsely : Prop := congBoundsRow.holds Try.pinned (OpenSpec.ofChange congBoundsWrong)

/-- 'pharoslaw22.CongNone': WHATEVER THE INPUT: true; the input reads as it did. -/
def congNoneSpec : ChangeSpec := { name := "congNone", fn := fun _ => fun
  | [d1, d2] => { results := [.lit (.bool true)], args := [d1, d2] }
  | _ => none }
def congNoneRow : OpenClaim := { program := "ytekjnljjhdochaa", sum := "5de07e9d7de68e95b1691f9a6ce1c06c3908d03a2726ef34ef0d953e9b784109", func := "pharos/pharoslaw22.CongNone", spec := "congNone", apart := false }
def CongNoneSaid : Prop := congNoneRow.holds Try.pinned (OpenSpec.ofChange congNoneSpec)

/-- ITS FALSE NEIGHBOUR: 'it returns false'. Refute it at one input. -/
def congNoneWrong : ChangeSpec := { name := "congNone", fn := fun _ => fun
  | [d1, d2] => { results := [.lit (.bool false)], args := [d1, d2] }
  | _ => none }
def CongNoneWrongFalsely : Prop := congNoneRow.holds Try.pinned (OpenSpec.ofChange congNoneWrong)

/- THE SECOND FORM. 'bulk': how many values and letters a reading holds, each counted each time it is reached (what is shared counts as often as it is met; a slice's spare places count too). A statement '..UptoSaid' is the law's where the arguments, and the package variables that the reading takes, are together of bulk at most 1048576: NARROWER than '..Said'. Prove '..Said' where nothing that the law and all that it calls make is longer than what came in: it says more and counts as full. Else prove '..UptoSaid'. A law counts once. -/
mutual
def uptoBulk {H : Type} : DataW H → Nat
  | .lit (.string bytes) => bytes.length + 1
  | .lit _ => 1
  | .nil => 1
  | .ptr d => uptoBulk d + 1
  | .slice elems spare => uptoBulkAll elems + uptoBulkAll spare + 1
  | .agg parts => uptoBulkAll parts + 1
  | .iface _ d => uptoBulk d + 1
  | .map entries => uptoBulkEntries entries + 1
  | .held _ => 1
def uptoBulkAll {H : Type} : List (DataW H) → Nat
  | [] => 0
  | d :: r => uptoBulk d + uptoBulkAll r
def uptoBulkEntries {H : Type} : List (Lit × DataW H) → Nat
  | [] => 0
  | x :: r => uptoBulkEntry x + uptoBulkEntries r
def uptoBulkEntry {H : Type} : Lit × DataW H → Nat
  | (.string bytes, d) => bytes.length + uptoBulk d + 1
  | (_, d) => uptoBulk d + 1
 end
def uptoSmall : (H : Type) → List (DataW H) → Bool := fun _ ds => decide (uptoBulkAll ds ≤ 1048576)
def OpenSpec.upto (s : _root_.Go.ChangeSpec) : _root_.Go.OpenSpec := { _root_.Go.OpenSpec.ofChange s with cond := some uptoSmall }

/-- 'pharoslaw22.CongPlays', WHERE WHAT IT READS IS OF BULK AT MOST 1048576: true; the input reads as it did. -/
def congPlaysUptoRow : OpenClaim := { program := "ytekjnljjhdochaa", sum := "5de07e9d7de68e95b1691f9a6ce1c06c3908d03a2726ef34ef0d953e9b784109", func := "pharos/pharoslaw22.CongPlays", spec := "congPlays", apart := false, narrowed := true }
def CongPlaysUptoSaid : Prop := congPlaysUptoRow.holds Try.pinned (OpenSpec.upto congPlaysSpec)

/-- 'pharoslaw22.CongBounds', WHERE WHAT IT READS IS OF BULK AT MOST 1048576: true; the input reads as it did. -/
def congBoundsUptoRow : OpenClaim := { program := "ytekjnljjhdochaa", sum := "5de07e9d7de68e95b1691f9a6ce1c06c3908d03a2726ef34ef0d953e9b784109", func := "pharos/pharoslaw22.CongBounds", spec := "congBounds", apart := false, narrowed := true }
def CongBoundsUptoSaid : Prop := congBoundsUptoRow.holds Try.pinned (OpenSpec.upto congBoundsSpec)

/-- 'pharoslaw22.CongNone', WHERE WHAT IT READS IS OF BULK AT MOST 1048576: true; the input reads as it did. -/
def congNoneUptoRow : OpenClaim := { program := "ytekjnljjhdochaa", sum := "5de07e9d7de68e95b1691f9a6ce1c06c3908d03a2726ef34ef0d953e9b784109", func := "pharos/pharoslaw22.CongNone", spec := "congNone", apart := false, narrowed := true }
def CongNoneUptoSaid : Prop := congNoneUptoRow.holds Try.pinned (OpenSpec.upto congNoneSpec)

end Rows
end Go.Proofs.Ytekjnljjhdochaa
