/-
  NARROWER THAN 'FOR EVERY INPUT', by the rows' own cells (each row's printed sentence says how): SumOfs: laid · SumTags: laid · SumPieces: laid · SumNil: laid · HkdfKeys: laid · HkdfLabels: laid · HkdfBegins: laid · KeysHandshake: laid · KeysMaster: laid · KeysHang: laid.
  DERIVED. THE GIVEN ROWS OF THIS SEAT. 10 by the template 'for every input the law returns true; each argument reads behind the call as it read before'; 0 by the template 'total and deterministic' (their statements: YtejkimhmpnogkaaDoorTotals.lean).
  GIVEN WITH THE SEED: the statements are not yours to turn. If you find one false, say at which input.
  Laid BY PROGRAM, IN A SANDBOX (cutbox-rows.mjs): the forced cells as the released guide's own fill.sh prints them over the translation a377ca0e15bd06e4… (all of the seat's roots in one cut). By AI agents, Wed Nov 11 2026. No macro, syntax, notation, axiom, sorry.
-/
import Derived.Test.YtejkimhmpnogkaaDoorChecked
import GoSem.Claim
import GoSem.ClaimJoined
import GoSem.ClaimMapViews
import Derived.JoinedTies
import Derived.KernelRfl
namespace Go.Proofs.YtejkimhmpnogkaaDoor
/- THE CELL 'sum', in the pinned program and in every row, IS THE sha256 OF THE DUMP (.gsa) THAT YtejkimhmpnogkaaDoorProg.lean LOADS. Nothing in Lean hashes anything: it is a label: what it is worth is what the hold of that sum in a sandbox is worth. -/
noncomputable def Tryd.pinned : Pinned := { name := "ytejkimhmpnogkaadoor", sum := "a377ca0e15bd06e46a0c82c0bab50e71b54c6da4196f3113b9e1f64f6a84f5c5", checked := Tryd.checked }
namespace Rows
def none {H : Type} : Left H := { results := [], args := [] }

/- WHAT THE LISTED PACKAGE-LEVEL VARIABLES READ AS WHEN THE CALL BEGINS. Each datum BY PROGRAM (the guide's laid-datum.mjs) off the statement by which the dump's own 'gosem.cut.vars' lays the variable. In a bare row this is a premise. The card (YtejkimhmpnogkaaDoorCards.lean) ties it to the program's text. -/
def laid_bytes_ErrTooLarge {H : Type} : DataW H := .iface "*errors.errorString" (.ptr (.agg [.lit (.string [98, 121, 116, 101, 115, 46, 66, 117, 102, 102, 101, 114, 58, 32, 116, 111, 111, 32, 108, 97, 114, 103, 101])]))
def laid_pharos_sum_constants {H : Type} : DataW H := .agg [.lit (.int .u32 1116352408), .lit (.int .u32 1899447441), .lit (.int .u32 3049323471), .lit (.int .u32 3921009573), .lit (.int .u32 961987163), .lit (.int .u32 1508970993), .lit (.int .u32 2453635748), .lit (.int .u32 2870763221), .lit (.int .u32 3624381080), .lit (.int .u32 310598401), .lit (.int .u32 607225278), .lit (.int .u32 1426881987), .lit (.int .u32 1925078388), .lit (.int .u32 2162078206), .lit (.int .u32 2614888103), .lit (.int .u32 3248222580), .lit (.int .u32 3835390401), .lit (.int .u32 4022224774), .lit (.int .u32 264347078), .lit (.int .u32 604807628), .lit (.int .u32 770255983), .lit (.int .u32 1249150122), .lit (.int .u32 1555081692), .lit (.int .u32 1996064986), .lit (.int .u32 2554220882), .lit (.int .u32 2821834349), .lit (.int .u32 2952996808), .lit (.int .u32 3210313671), .lit (.int .u32 3336571891), .lit (.int .u32 3584528711), .lit (.int .u32 113926993), .lit (.int .u32 338241895), .lit (.int .u32 666307205), .lit (.int .u32 773529912), .lit (.int .u32 1294757372), .lit (.int .u32 1396182291), .lit (.int .u32 1695183700), .lit (.int .u32 1986661051), .lit (.int .u32 2177026350), .lit (.int .u32 2456956037), .lit (.int .u32 2730485921), .lit (.int .u32 2820302411), .lit (.int .u32 3259730800), .lit (.int .u32 3345764771), .lit (.int .u32 3516065817), .lit (.int .u32 3600352804), .lit (.int .u32 4094571909), .lit (.int .u32 275423344), .lit (.int .u32 430227734), .lit (.int .u32 506948616), .lit (.int .u32 659060556), .lit (.int .u32 883997877), .lit (.int .u32 958139571), .lit (.int .u32 1322822218), .lit (.int .u32 1537002063), .lit (.int .u32 1747873779), .lit (.int .u32 1955562222), .lit (.int .u32 2024104815), .lit (.int .u32 2227730452), .lit (.int .u32 2361852424), .lit (.int .u32 2428436474), .lit (.int .u32 2756734187), .lit (.int .u32 3204031479), .lit (.int .u32 3329325298)]

/-- 'pharoslaw11.SumOfs': WHATEVER THE INPUT: true; the input reads as it did. -/
def sumOfsSpec : ChangeSpec := { name := "sumOfs", fn := fun _ => fun
  | [d] => { results := [.lit (.bool true)], args := [d] }
  | _ => none }
def sumOfsRow : OpenClaim := { program := "ytejkimhmpnogkaadoor", sum := "a377ca0e15bd06e46a0c82c0bab50e71b54c6da4196f3113b9e1f64f6a84f5c5", func := "pharos/pharoslaw11.SumOfs", spec := "sumOfs", inPlace := ["internal/bytealg.MakeNoZero"], unfollowed := true, recurses := true, named := ["bytes.ErrTooLarge", "pharos/sum.constants"], apart := false, laid := [("bytes.ErrTooLarge", laid_bytes_ErrTooLarge), ("pharos/sum.constants", laid_pharos_sum_constants)] }
def SumOfsSaid : Prop := sumOfsRow.holds Tryd.pinned (OpenSpec.ofChange sumOfsSpec)

/-- ITS FALSE NEIGHBOUR: 'it returns false'. Refute it at one input. -/
def sumOfsWrong : ChangeSpec := { name := "sumOfs", fn := fun _ => fun
  | [d] => { results := [.lit (.bool false)], args := [d] }
  | _ => none }
def SumOfsWrongFalsely : Prop := sumOfsRow.holds Tryd.pinned (OpenSpec.ofChange sumOfsWrong)

/-- 'pharoslaw11.SumTags': WHATEVER THE INPUT: true; the input reads as it did. -/
def sumTagsSpec : ChangeSpec := { name := "sumTags", fn := fun _ => fun
  | [d1, d2] => { results := [.lit (.bool true)], args := [d1, d2] }
  | _ => none }
def sumTagsRow : OpenClaim := { program := "ytejkimhmpnogkaadoor", sum := "a377ca0e15bd06e46a0c82c0bab50e71b54c6da4196f3113b9e1f64f6a84f5c5", func := "pharos/pharoslaw11.SumTags", spec := "sumTags", inPlace := ["internal/bytealg.MakeNoZero"], unfollowed := true, recurses := true, named := ["bytes.ErrTooLarge", "pharos/sum.constants"], apart := false, laid := [("bytes.ErrTooLarge", laid_bytes_ErrTooLarge), ("pharos/sum.constants", laid_pharos_sum_constants)] }
def SumTagsSaid : Prop := sumTagsRow.holds Tryd.pinned (OpenSpec.ofChange sumTagsSpec)

/-- ITS FALSE NEIGHBOUR: 'it returns false'. Refute it at one input. -/
def sumTagsWrong : ChangeSpec := { name := "sumTags", fn := fun _ => fun
  | [d1, d2] => { results := [.lit (.bool false)], args := [d1, d2] }
  | _ => none }
def SumTagsWrongFalsely : Prop := sumTagsRow.holds Tryd.pinned (OpenSpec.ofChange sumTagsWrong)

/-- 'pharoslaw11.SumPieces': WHATEVER THE INPUT: true; the input reads as it did. -/
def sumPiecesSpec : ChangeSpec := { name := "sumPieces", fn := fun _ => fun
  | [d1, d2, d3] => { results := [.lit (.bool true)], args := [d1, d2, d3] }
  | _ => none }
def sumPiecesRow : OpenClaim := { program := "ytejkimhmpnogkaadoor", sum := "a377ca0e15bd06e46a0c82c0bab50e71b54c6da4196f3113b9e1f64f6a84f5c5", func := "pharos/pharoslaw11.SumPieces", spec := "sumPieces", inPlace := ["internal/bytealg.MakeNoZero"], unfollowed := true, recurses := true, named := ["bytes.ErrTooLarge", "pharos/sum.constants"], apart := false, laid := [("bytes.ErrTooLarge", laid_bytes_ErrTooLarge), ("pharos/sum.constants", laid_pharos_sum_constants)] }
def SumPiecesSaid : Prop := sumPiecesRow.holds Tryd.pinned (OpenSpec.ofChange sumPiecesSpec)

/-- ITS FALSE NEIGHBOUR: 'it returns false'. Refute it at one input. -/
def sumPiecesWrong : ChangeSpec := { name := "sumPieces", fn := fun _ => fun
  | [d1, d2, d3] => { results := [.lit (.bool false)], args := [d1, d2, d3] }
  | _ => none }
def SumPiecesWrongFalsely : Prop := sumPiecesRow.holds Tryd.pinned (OpenSpec.ofChange sumPiecesWrong)

/-- 'pharoslaw11.SumNil': WHATEVER THE INPUT: true; the input reads as it did. -/
def sumNilSpec : ChangeSpec := { name := "sumNil", fn := fun _ => fun
  | [d] => { results := [.lit (.bool true)], args := [d] }
  | _ => none }
def sumNilRow : OpenClaim := { program := "ytejkimhmpnogkaadoor", sum := "a377ca0e15bd06e46a0c82c0bab50e71b54c6da4196f3113b9e1f64f6a84f5c5", func := "pharos/pharoslaw11.SumNil", spec := "sumNil", inPlace := ["internal/bytealg.MakeNoZero"], unfollowed := true, recurses := true, named := ["bytes.ErrTooLarge", "pharos/sum.constants"], apart := false, laid := [("bytes.ErrTooLarge", laid_bytes_ErrTooLarge), ("pharos/sum.constants", laid_pharos_sum_constants)] }
def SumNilSaid : Prop := sumNilRow.holds Tryd.pinned (OpenSpec.ofChange sumNilSpec)

/-- ITS FALSE NEIGHBOUR: 'it returns false'. Refute it at one input. -/
def sumNilWrong : ChangeSpec := { name := "sumNil", fn := fun _ => fun
  | [d] => { results := [.lit (.bool false)], args := [d] }
  | _ => none }
def SumNilWrongFalsely : Prop := sumNilRow.holds Tryd.pinned (OpenSpec.ofChange sumNilWrong)

/-- 'pharoslaw12.HkdfKeys': WHATEVER THE INPUT: true; the input reads as it did. -/
def hkdfKeysSpec : ChangeSpec := { name := "hkdfKeys", fn := fun _ => fun
  | [d1, d2, d3] => { results := [.lit (.bool true)], args := [d1, d2, d3] }
  | _ => none }
def hkdfKeysRow : OpenClaim := { program := "ytejkimhmpnogkaadoor", sum := "a377ca0e15bd06e46a0c82c0bab50e71b54c6da4196f3113b9e1f64f6a84f5c5", func := "pharos/pharoslaw12.HkdfKeys", spec := "hkdfKeys", inPlace := ["internal/bytealg.MakeNoZero", "internal/abi.NoEscape"], unfollowed := true, recurses := true, named := ["bytes.ErrTooLarge", "pharos/sum.constants"], apart := false, laid := [("bytes.ErrTooLarge", laid_bytes_ErrTooLarge), ("pharos/sum.constants", laid_pharos_sum_constants)] }
def HkdfKeysSaid : Prop := hkdfKeysRow.holds Tryd.pinned (OpenSpec.ofChange hkdfKeysSpec)

/-- ITS FALSE NEIGHBOUR: 'it returns false'. Refute it at one input. -/
def hkdfKeysWrong : ChangeSpec := { name := "hkdfKeys", fn := fun _ => fun
  | [d1, d2, d3] => { results := [.lit (.bool false)], args := [d1, d2, d3] }
  | _ => none }
def HkdfKeysWrongFalsely : Prop := hkdfKeysRow.holds Tryd.pinned (OpenSpec.ofChange hkdfKeysWrong)

/-- 'pharoslaw12.HkdfLabels': WHATEVER THE INPUT: true; the input reads as it did. -/
def hkdfLabelsSpec : ChangeSpec := { name := "hkdfLabels", fn := fun _ => fun
  | [d1, d2, d3, d4] => { results := [.lit (.bool true)], args := [d1, d2, d3, d4] }
  | _ => none }
def hkdfLabelsRow : OpenClaim := { program := "ytejkimhmpnogkaadoor", sum := "a377ca0e15bd06e46a0c82c0bab50e71b54c6da4196f3113b9e1f64f6a84f5c5", func := "pharos/pharoslaw12.HkdfLabels", spec := "hkdfLabels", inPlace := ["internal/bytealg.MakeNoZero", "internal/abi.NoEscape"], unfollowed := true, recurses := true, named := ["bytes.ErrTooLarge", "pharos/sum.constants"], apart := false, laid := [("bytes.ErrTooLarge", laid_bytes_ErrTooLarge), ("pharos/sum.constants", laid_pharos_sum_constants)] }
def HkdfLabelsSaid : Prop := hkdfLabelsRow.holds Tryd.pinned (OpenSpec.ofChange hkdfLabelsSpec)

/-- ITS FALSE NEIGHBOUR: 'it returns false'. Refute it at one input. -/
def hkdfLabelsWrong : ChangeSpec := { name := "hkdfLabels", fn := fun _ => fun
  | [d1, d2, d3, d4] => { results := [.lit (.bool false)], args := [d1, d2, d3, d4] }
  | _ => none }
def HkdfLabelsWrongFalsely : Prop := hkdfLabelsRow.holds Tryd.pinned (OpenSpec.ofChange hkdfLabelsWrong)

/-- 'pharoslaw12.HkdfBegins': WHATEVER THE INPUT: true; the input reads as it did. -/
def hkdfBeginsSpec : ChangeSpec := { name := "hkdfBegins", fn := fun _ => fun
  | [d1, d2, d3, d4] => { results := [.lit (.bool true)], args := [d1, d2, d3, d4] }
  | _ => none }
def hkdfBeginsRow : OpenClaim := { program := "ytejkimhmpnogkaadoor", sum := "a377ca0e15bd06e46a0c82c0bab50e71b54c6da4196f3113b9e1f64f6a84f5c5", func := "pharos/pharoslaw12.HkdfBegins", spec := "hkdfBegins", inPlace := ["internal/bytealg.MakeNoZero", "internal/abi.NoEscape"], unfollowed := true, recurses := true, named := ["bytes.ErrTooLarge", "pharos/sum.constants"], apart := false, laid := [("bytes.ErrTooLarge", laid_bytes_ErrTooLarge), ("pharos/sum.constants", laid_pharos_sum_constants)] }
def HkdfBeginsSaid : Prop := hkdfBeginsRow.holds Tryd.pinned (OpenSpec.ofChange hkdfBeginsSpec)

/-- ITS FALSE NEIGHBOUR: 'it returns false'. Refute it at one input. -/
def hkdfBeginsWrong : ChangeSpec := { name := "hkdfBegins", fn := fun _ => fun
  | [d1, d2, d3, d4] => { results := [.lit (.bool false)], args := [d1, d2, d3, d4] }
  | _ => none }
def HkdfBeginsWrongFalsely : Prop := hkdfBeginsRow.holds Tryd.pinned (OpenSpec.ofChange hkdfBeginsWrong)

/-- 'pharoslaw26.KeysHandshake': WHATEVER THE INPUT: true; the input reads as it did. -/
def keysHandshakeSpec : ChangeSpec := { name := "keysHandshake", fn := fun _ => fun
  | [d1, d2, d3] => { results := [.lit (.bool true)], args := [d1, d2, d3] }
  | _ => none }
def keysHandshakeRow : OpenClaim := { program := "ytejkimhmpnogkaadoor", sum := "a377ca0e15bd06e46a0c82c0bab50e71b54c6da4196f3113b9e1f64f6a84f5c5", func := "pharos/pharoslaw26.KeysHandshake", spec := "keysHandshake", inPlace := ["internal/bytealg.MakeNoZero", "internal/abi.NoEscape"], unfollowed := true, recurses := true, named := ["bytes.ErrTooLarge", "pharos/sum.constants"], apart := false, laid := [("bytes.ErrTooLarge", laid_bytes_ErrTooLarge), ("pharos/sum.constants", laid_pharos_sum_constants)] }
def KeysHandshakeSaid : Prop := keysHandshakeRow.holds Tryd.pinned (OpenSpec.ofChange keysHandshakeSpec)

/-- ITS FALSE NEIGHBOUR: 'it returns false'. Refute it at one input. -/
def keysHandshakeWrong : ChangeSpec := { name := "keysHandshake", fn := fun _ => fun
  | [d1, d2, d3] => { results := [.lit (.bool false)], args := [d1, d2, d3] }
  | _ => none }
def KeysHandshakeWrongFalsely : Prop := keysHandshakeRow.holds Tryd.pinned (OpenSpec.ofChange keysHandshakeWrong)

/-- 'pharoslaw26.KeysMaster': WHATEVER THE INPUT: true; the input reads as it did. -/
def keysMasterSpec : ChangeSpec := { name := "keysMaster", fn := fun _ => fun
  | [d1, d2] => { results := [.lit (.bool true)], args := [d1, d2] }
  | _ => none }
def keysMasterRow : OpenClaim := { program := "ytejkimhmpnogkaadoor", sum := "a377ca0e15bd06e46a0c82c0bab50e71b54c6da4196f3113b9e1f64f6a84f5c5", func := "pharos/pharoslaw26.KeysMaster", spec := "keysMaster", inPlace := ["internal/bytealg.MakeNoZero", "internal/abi.NoEscape"], unfollowed := true, recurses := true, named := ["bytes.ErrTooLarge", "pharos/sum.constants"], apart := false, laid := [("bytes.ErrTooLarge", laid_bytes_ErrTooLarge), ("pharos/sum.constants", laid_pharos_sum_constants)] }
def KeysMasterSaid : Prop := keysMasterRow.holds Tryd.pinned (OpenSpec.ofChange keysMasterSpec)

/-- ITS FALSE NEIGHBOUR: 'it returns false'. Refute it at one input. -/
def keysMasterWrong : ChangeSpec := { name := "keysMaster", fn := fun _ => fun
  | [d1, d2] => { results := [.lit (.bool false)], args := [d1, d2] }
  | _ => none }
def KeysMasterWrongFalsely : Prop := keysMasterRow.holds Tryd.pinned (OpenSpec.ofChange keysMasterWrong)

/-- 'pharoslaw26.KeysHang': WHATEVER THE INPUT: true; the input reads as it did. -/
def keysHangSpec : ChangeSpec := { name := "keysHang", fn := fun _ => fun
  | [d1, d2, d3, d4] => { results := [.lit (.bool true)], args := [d1, d2, d3, d4] }
  | _ => none }
def keysHangRow : OpenClaim := { program := "ytejkimhmpnogkaadoor", sum := "a377ca0e15bd06e46a0c82c0bab50e71b54c6da4196f3113b9e1f64f6a84f5c5", func := "pharos/pharoslaw26.KeysHang", spec := "keysHang", inPlace := ["internal/bytealg.MakeNoZero", "internal/abi.NoEscape"], unfollowed := true, recurses := true, named := ["bytes.ErrTooLarge", "pharos/sum.constants"], apart := false, laid := [("bytes.ErrTooLarge", laid_bytes_ErrTooLarge), ("pharos/sum.constants", laid_pharos_sum_constants)] }
def KeysHangSaid : Prop := keysHangRow.holds Tryd.pinned (OpenSpec.ofChange keysHangSpec)

/-- ITS FALSE NEIGHBOUR: 'it returns false'. Refute it at one input. -/
def keysHangWrong : ChangeSpec := { name := "keysHang", fn := fun _ => fun
  | [d1, d2, d3, d4] => { results := [.lit (.bool false)], args := [d1, d2, d3, d4] }
  | _ => none }
def KeysHangWrongFalsely : Prop := keysHangRow.holds Tryd.pinned (OpenSpec.ofChange keysHangWrong)

/- THE SECOND FORM. 'bulk': how many values and letters a reading holds, each counted each time it is reached (what is shared counts as often as it is met; a slice's spare places count too). A statement '..UptoSaid' is the law's where the arguments, and the package variables that the reading takes, are together of bulk at most 1048576: NARROWER than '..Said'. Prove '..Said' where nothing that the law and all that it calls make is longer than what came in: it says more and counts as full. Else prove '..UptoSaid'. A law counts once. -/
mutual
def uptoBulk {H : Type} : DataW H → Nat
  | .lit (.string bytes) => bytes.length + 1
  | .lit _ => 1
  | .nil => 1
  | .ptr d => uptoBulk d + 1
  | .slice elems spare => uptoBulkAll elems + uptoBulkAll spare + 1
  | .agg parts => uptoBulkAll parts + 1
  | .iface _ d => uptoBulk d + 1
  | .map entries => uptoBulkEntries entries + 1
  | .held _ => 1
def uptoBulkAll {H : Type} : List (DataW H) → Nat
  | [] => 0
  | d :: r => uptoBulk d + uptoBulkAll r
def uptoBulkEntries {H : Type} : List (Lit × DataW H) → Nat
  | [] => 0
  | x :: r => uptoBulkEntry x + uptoBulkEntries r
def uptoBulkEntry {H : Type} : Lit × DataW H → Nat
  | (.string bytes, d) => bytes.length + uptoBulk d + 1
  | (_, d) => uptoBulk d + 1
 end
def uptoSmall : (H : Type) → List (DataW H) → Bool := fun _ ds => decide (uptoBulkAll ds ≤ 1048576)
def OpenSpec.upto (s : _root_.Go.ChangeSpec) : _root_.Go.OpenSpec := { _root_.Go.OpenSpec.ofChange s with cond := some uptoSmall }

/-- 'pharoslaw11.SumOfs', WHERE WHAT IT READS IS OF BULK AT MOST 1048576: true; the input reads as it did. -/
def sumOfsUptoRow : OpenClaim := { program := "ytejkimhmpnogkaadoor", sum := "a377ca0e15bd06e46a0c82c0bab50e71b54c6da4196f3113b9e1f64f6a84f5c5", func := "pharos/pharoslaw11.SumOfs", spec := "sumOfs", inPlace := ["internal/bytealg.MakeNoZero"], unfollowed := true, recurses := true, named := ["bytes.ErrTooLarge", "pharos/sum.constants"], apart := false, laid := [("bytes.ErrTooLarge", laid_bytes_ErrTooLarge), ("pharos/sum.constants", laid_pharos_sum_constants)], narrowed := true }
def SumOfsUptoSaid : Prop := sumOfsUptoRow.holds Tryd.pinned (OpenSpec.upto sumOfsSpec)

/-- 'pharoslaw11.SumTags', WHERE WHAT IT READS IS OF BULK AT MOST 1048576: true; the input reads as it did. -/
def sumTagsUptoRow : OpenClaim := { program := "ytejkimhmpnogkaadoor", sum := "a377ca0e15bd06e46a0c82c0bab50e71b54c6da4196f3113b9e1f64f6a84f5c5", func := "pharos/pharoslaw11.SumTags", spec := "sumTags", inPlace := ["internal/bytealg.MakeNoZero"], unfollowed := true, recurses := true, named := ["bytes.ErrTooLarge", "pharos/sum.constants"], apart := false, laid := [("bytes.ErrTooLarge", laid_bytes_ErrTooLarge), ("pharos/sum.constants", laid_pharos_sum_constants)], narrowed := true }
def SumTagsUptoSaid : Prop := sumTagsUptoRow.holds Tryd.pinned (OpenSpec.upto sumTagsSpec)

/-- 'pharoslaw11.SumPieces', WHERE WHAT IT READS IS OF BULK AT MOST 1048576: true; the input reads as it did. -/
def sumPiecesUptoRow : OpenClaim := { program := "ytejkimhmpnogkaadoor", sum := "a377ca0e15bd06e46a0c82c0bab50e71b54c6da4196f3113b9e1f64f6a84f5c5", func := "pharos/pharoslaw11.SumPieces", spec := "sumPieces", inPlace := ["internal/bytealg.MakeNoZero"], unfollowed := true, recurses := true, named := ["bytes.ErrTooLarge", "pharos/sum.constants"], apart := false, laid := [("bytes.ErrTooLarge", laid_bytes_ErrTooLarge), ("pharos/sum.constants", laid_pharos_sum_constants)], narrowed := true }
def SumPiecesUptoSaid : Prop := sumPiecesUptoRow.holds Tryd.pinned (OpenSpec.upto sumPiecesSpec)

/-- 'pharoslaw11.SumNil', WHERE WHAT IT READS IS OF BULK AT MOST 1048576: true; the input reads as it did. -/
def sumNilUptoRow : OpenClaim := { program := "ytejkimhmpnogkaadoor", sum := "a377ca0e15bd06e46a0c82c0bab50e71b54c6da4196f3113b9e1f64f6a84f5c5", func := "pharos/pharoslaw11.SumNil", spec := "sumNil", inPlace := ["internal/bytealg.MakeNoZero"], unfollowed := true, recurses := true, named := ["bytes.ErrTooLarge", "pharos/sum.constants"], apart := false, laid := [("bytes.ErrTooLarge", laid_bytes_ErrTooLarge), ("pharos/sum.constants", laid_pharos_sum_constants)], narrowed := true }
def SumNilUptoSaid : Prop := sumNilUptoRow.holds Tryd.pinned (OpenSpec.upto sumNilSpec)

/-- 'pharoslaw12.HkdfKeys', WHERE WHAT IT READS IS OF BULK AT MOST 1048576: true; the input reads as it did. -/
def hkdfKeysUptoRow : OpenClaim := { program := "ytejkimhmpnogkaadoor", sum := "a377ca0e15bd06e46a0c82c0bab50e71b54c6da4196f3113b9e1f64f6a84f5c5", func := "pharos/pharoslaw12.HkdfKeys", spec := "hkdfKeys", inPlace := ["internal/bytealg.MakeNoZero", "internal/abi.NoEscape"], unfollowed := true, recurses := true, named := ["bytes.ErrTooLarge", "pharos/sum.constants"], apart := false, laid := [("bytes.ErrTooLarge", laid_bytes_ErrTooLarge), ("pharos/sum.constants", laid_pharos_sum_constants)], narrowed := true }
def HkdfKeysUptoSaid : Prop := hkdfKeysUptoRow.holds Tryd.pinned (OpenSpec.upto hkdfKeysSpec)

/-- 'pharoslaw12.HkdfLabels', WHERE WHAT IT READS IS OF BULK AT MOST 1048576: true; the input reads as it did. -/
def hkdfLabelsUptoRow : OpenClaim := { program := "ytejkimhmpnogkaadoor", sum := "a377ca0e15bd06e46a0c82c0bab50e71b54c6da4196f3113b9e1f64f6a84f5c5", func := "pharos/pharoslaw12.HkdfLabels", spec := "hkdfLabels", inPlace := ["internal/bytealg.MakeNoZero", "internal/abi.NoEscape"], unfollowed := true, recurses := true, named := ["bytes.ErrTooLarge", "pharos/sum.constants"], apart := false, laid := [("bytes.ErrTooLarge", laid_bytes_ErrTooLarge), ("pharos/sum.constants", laid_pharos_sum_constants)], narrowed := true }
def HkdfLabelsUptoSaid : Prop := hkdfLabelsUptoRow.holds Tryd.pinned (OpenSpec.upto hkdfLabelsSpec)

/-- 'pharoslaw12.HkdfBegins', WHERE WHAT IT READS IS OF BULK AT MOST 1048576: true; the input reads as it did. -/
def hkdfBeginsUptoRow : OpenClaim := { program := "ytejkimhmpnogkaadoor", sum := "a377ca0e15bd06e46a0c82c0bab50e71b54c6da4196f3113b9e1f64f6a84f5c5", func := "pharos/pharoslaw12.HkdfBegins", spec := "hkdfBegins", inPlace := ["internal/bytealg.MakeNoZero", "internal/abi.NoEscape"], unfollowed := true, recurses := true, named := ["bytes.ErrTooLarge", "pharos/sum.constants"], apart := false, laid := [("bytes.ErrTooLarge", laid_bytes_ErrTooLarge), ("pharos/sum.constants", laid_pharos_sum_constants)], narrowed := true }
def HkdfBeginsUptoSaid : Prop := hkdfBeginsUptoRow.holds Tryd.pinned (OpenSpec.upto hkdfBeginsSpec)

/-- 'pharoslaw26.KeysHandshake', WHERE WHAT IT READS IS OF BULK AT MOST 1048576: true; the input reads as it did. -/
def keysHandshakeUptoRow : OpenClaim := { program := "ytejkimhmpnogkaadoor", sum := "a377ca0e15bd06e46a0c82c0bab50e71b54c6da4196f3113b9e1f64f6a84f5c5", func := "pharos/pharoslaw26.KeysHandshake", spec := "keysHandshake", inPlace := ["internal/bytealg.MakeNoZero", "internal/abi.NoEscape"], unfollowed := true, recurses := true, named := ["bytes.ErrTooLarge", "pharos/sum.constants"], apart := false, laid := [("bytes.ErrTooLarge", laid_bytes_ErrTooLarge), ("pharos/sum.constants", laid_pharos_sum_constants)], narrowed := true }
def KeysHandshakeUptoSaid : Prop := keysHandshakeUptoRow.holds Tryd.pinned (OpenSpec.upto keysHandshakeSpec)

/-- 'pharoslaw26.KeysMaster', WHERE WHAT IT READS IS OF BULK AT MOST 1048576: true; the input reads as it did. -/
def keysMasterUptoRow : OpenClaim := { program := "ytejkimhmpnogkaadoor", sum := "a377ca0e15bd06e46a0c82c0bab50e71b54c6da4196f3113b9e1f64f6a84f5c5", func := "pharos/pharoslaw26.KeysMaster", spec := "keysMaster", inPlace := ["internal/bytealg.MakeNoZero", "internal/abi.NoEscape"], unfollowed := true, recurses := true, named := ["bytes.ErrTooLarge", "pharos/sum.constants"], apart := false, laid := [("bytes.ErrTooLarge", laid_bytes_ErrTooLarge), ("pharos/sum.constants", laid_pharos_sum_constants)], narrowed := true }
def KeysMasterUptoSaid : Prop := keysMasterUptoRow.holds Tryd.pinned (OpenSpec.upto keysMasterSpec)

/-- 'pharoslaw26.KeysHang', WHERE WHAT IT READS IS OF BULK AT MOST 1048576: true; the input reads as it did. -/
def keysHangUptoRow : OpenClaim := { program := "ytejkimhmpnogkaadoor", sum := "a377ca0e15bd06e46a0c82c0bab50e71b54c6da4196f3113b9e1f64f6a84f5c5", func := "pharos/pharoslaw26.KeysHang", spec := "keysHang", inPlace := ["internal/bytealg.MakeNoZero", "internal/abi.NoEscape"], unfollowed := true, recurses := true, named := ["bytes.ErrTooLarge", "pharos/sum.constants"], apart := false, laid := [("bytes.ErrTooLarge", laid_bytes_ErrTooLarge), ("pharos/sum.constants", laid_pharos_sum_constants)], narrowed := true }
def KeysHangUptoSaid : Prop := keysHangUptoRow.holds Tryd.pinned (OpenSpec.upto keysHangSpec)

end Rows
end Go.Proofs.YtejkimhmpnogkaaDoor
