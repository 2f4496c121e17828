/-
  DERIVED. GIVEN WITH THE SEED: THE CARDS: each row of YtejkimhmpnogkaaDoorRows.lean that lists a variable, with what it lists TIED to the program's text (the seventh form; the later family's looks); each row that meets fmt, with fmt's text TOLD by the authors' own Lean function (tested against real Go, not proved from fmt's source: count such statements apart). THE CARD IS WHAT COUNTS. Prove the row's statement (the work); the ties are given (YtejkimhmpnogkaaDoorTie.lean); close each card by the builder's one call (the guide's Derived/Test/ToyasCard.lean, 'card_holds'). Laid BY PROGRAM, IN A SANDBOX (cutbox-door.mjs). By AI agents, Wed Nov 11 2026. No macro, syntax, notation, axiom, sorry.
-/
import Derived.Test.YtejkimhmpnogkaaDoorRows
import GoSem.ClaimSeven
namespace Go.Proofs.YtejkimhmpnogkaaDoor
namespace Rows

/-- THE TIED CARD OF 'pharoslaw11.SumOfs'. -/
def sumOfsCard : Claim7 := { stood := { row := sumOfsRow, standIns := [], harness := (true, "b9dc7ef74bd6397e0a888f9ec9a75fdf8902176368c109015fa51c1ec4bea322"), looks := false }, kinds := [], alts := [], laidByText := true, laidKinds := [.sentinel, .data], laidTests := true, laidLooks := .later }
def SumOfsCardSaid : Prop := Claim7.holds Tryd.pinned (.plain (OpenSpec.ofChange sumOfsSpec)) sumOfsCard

/-- THE TIED CARD OF 'pharoslaw11.SumTags'. -/
def sumTagsCard : Claim7 := { stood := { row := sumTagsRow, standIns := [], harness := (true, "b9dc7ef74bd6397e0a888f9ec9a75fdf8902176368c109015fa51c1ec4bea322"), looks := false }, kinds := [], alts := [], laidByText := true, laidKinds := [.sentinel, .data], laidTests := true, laidLooks := .later }
def SumTagsCardSaid : Prop := Claim7.holds Tryd.pinned (.plain (OpenSpec.ofChange sumTagsSpec)) sumTagsCard

/-- THE TIED CARD OF 'pharoslaw11.SumPieces'. -/
def sumPiecesCard : Claim7 := { stood := { row := sumPiecesRow, standIns := [], harness := (true, "b9dc7ef74bd6397e0a888f9ec9a75fdf8902176368c109015fa51c1ec4bea322"), looks := false }, kinds := [], alts := [], laidByText := true, laidKinds := [.sentinel, .data], laidTests := true, laidLooks := .later }
def SumPiecesCardSaid : Prop := Claim7.holds Tryd.pinned (.plain (OpenSpec.ofChange sumPiecesSpec)) sumPiecesCard

/-- THE TIED CARD OF 'pharoslaw11.SumNil'. -/
def sumNilCard : Claim7 := { stood := { row := sumNilRow, standIns := [], harness := (true, "b9dc7ef74bd6397e0a888f9ec9a75fdf8902176368c109015fa51c1ec4bea322"), looks := false }, kinds := [], alts := [], laidByText := true, laidKinds := [.sentinel, .data], laidTests := true, laidLooks := .later }
def SumNilCardSaid : Prop := Claim7.holds Tryd.pinned (.plain (OpenSpec.ofChange sumNilSpec)) sumNilCard

/-- THE TIED CARD OF 'pharoslaw12.HkdfKeys'. -/
def hkdfKeysCard : Claim7 := { stood := { row := hkdfKeysRow, standIns := [], harness := (true, "b9dc7ef74bd6397e0a888f9ec9a75fdf8902176368c109015fa51c1ec4bea322"), looks := false }, kinds := [], alts := [], laidByText := true, laidKinds := [.sentinel, .data], laidTests := true, laidLooks := .later }
def HkdfKeysCardSaid : Prop := Claim7.holds Tryd.pinned (.plain (OpenSpec.ofChange hkdfKeysSpec)) hkdfKeysCard

/-- THE TIED CARD OF 'pharoslaw12.HkdfLabels'. -/
def hkdfLabelsCard : Claim7 := { stood := { row := hkdfLabelsRow, standIns := [], harness := (true, "b9dc7ef74bd6397e0a888f9ec9a75fdf8902176368c109015fa51c1ec4bea322"), looks := false }, kinds := [], alts := [], laidByText := true, laidKinds := [.sentinel, .data], laidTests := true, laidLooks := .later }
def HkdfLabelsCardSaid : Prop := Claim7.holds Tryd.pinned (.plain (OpenSpec.ofChange hkdfLabelsSpec)) hkdfLabelsCard

/-- THE TIED CARD OF 'pharoslaw12.HkdfBegins'. -/
def hkdfBeginsCard : Claim7 := { stood := { row := hkdfBeginsRow, standIns := [], harness := (true, "b9dc7ef74bd6397e0a888f9ec9a75fdf8902176368c109015fa51c1ec4bea322"), looks := false }, kinds := [], alts := [], laidByText := true, laidKinds := [.sentinel, .data], laidTests := true, laidLooks := .later }
def HkdfBeginsCardSaid : Prop := Claim7.holds Tryd.pinned (.plain (OpenSpec.ofChange hkdfBeginsSpec)) hkdfBeginsCard

/-- THE TIED CARD OF 'pharoslaw26.KeysHandshake'. -/
def keysHandshakeCard : Claim7 := { stood := { row := keysHandshakeRow, standIns := [], harness := (true, "b9dc7ef74bd6397e0a888f9ec9a75fdf8902176368c109015fa51c1ec4bea322"), looks := false }, kinds := [], alts := [], laidByText := true, laidKinds := [.sentinel, .data], laidTests := true, laidLooks := .later }
def KeysHandshakeCardSaid : Prop := Claim7.holds Tryd.pinned (.plain (OpenSpec.ofChange keysHandshakeSpec)) keysHandshakeCard

/-- THE TIED CARD OF 'pharoslaw26.KeysMaster'. -/
def keysMasterCard : Claim7 := { stood := { row := keysMasterRow, standIns := [], harness := (true, "b9dc7ef74bd6397e0a888f9ec9a75fdf8902176368c109015fa51c1ec4bea322"), looks := false }, kinds := [], alts := [], laidByText := true, laidKinds := [.sentinel, .data], laidTests := true, laidLooks := .later }
def KeysMasterCardSaid : Prop := Claim7.holds Tryd.pinned (.plain (OpenSpec.ofChange keysMasterSpec)) keysMasterCard

/-- THE TIED CARD OF 'pharoslaw26.KeysHang'. -/
def keysHangCard : Claim7 := { stood := { row := keysHangRow, standIns := [], harness := (true, "b9dc7ef74bd6397e0a888f9ec9a75fdf8902176368c109015fa51c1ec4bea322"), looks := false }, kinds := [], alts := [], laidByText := true, laidKinds := [.sentinel, .data], laidTests := true, laidLooks := .later }
def KeysHangCardSaid : Prop := Claim7.holds Tryd.pinned (.plain (OpenSpec.ofChange keysHangSpec)) keysHangCard

/-- THE SECOND FORM's CARD OF 'pharoslaw11.SumOfs'. -/
def sumOfsUptoCard : Claim7 := { stood := { row := sumOfsUptoRow, standIns := [], harness := (true, "b9dc7ef74bd6397e0a888f9ec9a75fdf8902176368c109015fa51c1ec4bea322"), looks := false }, kinds := [], alts := [], laidByText := true, laidKinds := [.sentinel, .data], laidTests := true, laidLooks := .later }
def SumOfsUptoCardSaid : Prop := Claim7.holds Tryd.pinned (.plain (OpenSpec.upto sumOfsSpec)) sumOfsUptoCard

/-- THE SECOND FORM's CARD OF 'pharoslaw11.SumTags'. -/
def sumTagsUptoCard : Claim7 := { stood := { row := sumTagsUptoRow, standIns := [], harness := (true, "b9dc7ef74bd6397e0a888f9ec9a75fdf8902176368c109015fa51c1ec4bea322"), looks := false }, kinds := [], alts := [], laidByText := true, laidKinds := [.sentinel, .data], laidTests := true, laidLooks := .later }
def SumTagsUptoCardSaid : Prop := Claim7.holds Tryd.pinned (.plain (OpenSpec.upto sumTagsSpec)) sumTagsUptoCard

/-- THE SECOND FORM's CARD OF 'pharoslaw11.SumPieces'. -/
def sumPiecesUptoCard : Claim7 := { stood := { row := sumPiecesUptoRow, standIns := [], harness := (true, "b9dc7ef74bd6397e0a888f9ec9a75fdf8902176368c109015fa51c1ec4bea322"), looks := false }, kinds := [], alts := [], laidByText := true, laidKinds := [.sentinel, .data], laidTests := true, laidLooks := .later }
def SumPiecesUptoCardSaid : Prop := Claim7.holds Tryd.pinned (.plain (OpenSpec.upto sumPiecesSpec)) sumPiecesUptoCard

/-- THE SECOND FORM's CARD OF 'pharoslaw11.SumNil'. -/
def sumNilUptoCard : Claim7 := { stood := { row := sumNilUptoRow, standIns := [], harness := (true, "b9dc7ef74bd6397e0a888f9ec9a75fdf8902176368c109015fa51c1ec4bea322"), looks := false }, kinds := [], alts := [], laidByText := true, laidKinds := [.sentinel, .data], laidTests := true, laidLooks := .later }
def SumNilUptoCardSaid : Prop := Claim7.holds Tryd.pinned (.plain (OpenSpec.upto sumNilSpec)) sumNilUptoCard

/-- THE SECOND FORM's CARD OF 'pharoslaw12.HkdfKeys'. -/
def hkdfKeysUptoCard : Claim7 := { stood := { row := hkdfKeysUptoRow, standIns := [], harness := (true, "b9dc7ef74bd6397e0a888f9ec9a75fdf8902176368c109015fa51c1ec4bea322"), looks := false }, kinds := [], alts := [], laidByText := true, laidKinds := [.sentinel, .data], laidTests := true, laidLooks := .later }
def HkdfKeysUptoCardSaid : Prop := Claim7.holds Tryd.pinned (.plain (OpenSpec.upto hkdfKeysSpec)) hkdfKeysUptoCard

/-- THE SECOND FORM's CARD OF 'pharoslaw12.HkdfLabels'. -/
def hkdfLabelsUptoCard : Claim7 := { stood := { row := hkdfLabelsUptoRow, standIns := [], harness := (true, "b9dc7ef74bd6397e0a888f9ec9a75fdf8902176368c109015fa51c1ec4bea322"), looks := false }, kinds := [], alts := [], laidByText := true, laidKinds := [.sentinel, .data], laidTests := true, laidLooks := .later }
def HkdfLabelsUptoCardSaid : Prop := Claim7.holds Tryd.pinned (.plain (OpenSpec.upto hkdfLabelsSpec)) hkdfLabelsUptoCard

/-- THE SECOND FORM's CARD OF 'pharoslaw12.HkdfBegins'. -/
def hkdfBeginsUptoCard : Claim7 := { stood := { row := hkdfBeginsUptoRow, standIns := [], harness := (true, "b9dc7ef74bd6397e0a888f9ec9a75fdf8902176368c109015fa51c1ec4bea322"), looks := false }, kinds := [], alts := [], laidByText := true, laidKinds := [.sentinel, .data], laidTests := true, laidLooks := .later }
def HkdfBeginsUptoCardSaid : Prop := Claim7.holds Tryd.pinned (.plain (OpenSpec.upto hkdfBeginsSpec)) hkdfBeginsUptoCard

/-- THE SECOND FORM's CARD OF 'pharoslaw26.KeysHandshake'. -/
def keysHandshakeUptoCard : Claim7 := { stood := { row := keysHandshakeUptoRow, standIns := [], harness := (true, "b9dc7ef74bd6397e0a888f9ec9a75fdf8902176368c109015fa51c1ec4bea322"), looks := false }, kinds := [], alts := [], laidByText := true, laidKinds := [.sentinel, .data], laidTests := true, laidLooks := .later }
def KeysHandshakeUptoCardSaid : Prop := Claim7.holds Tryd.pinned (.plain (OpenSpec.upto keysHandshakeSpec)) keysHandshakeUptoCard

/-- THE SECOND FORM's CARD OF 'pharoslaw26.KeysMaster'. -/
def keysMasterUptoCard : Claim7 := { stood := { row := keysMasterUptoRow, standIns := [], harness := (true, "b9dc7ef74bd6397e0a888f9ec9a75fdf8902176368c109015fa51c1ec4bea322"), looks := false }, kinds := [], alts := [], laidByText := true, laidKinds := [.sentinel, .data], laidTests := true, laidLooks := .later }
def KeysMasterUptoCardSaid : Prop := Claim7.holds Tryd.pinned (.plain (OpenSpec.upto keysMasterSpec)) keysMasterUptoCard

/-- THE SECOND FORM's CARD OF 'pharoslaw26.KeysHang'. -/
def keysHangUptoCard : Claim7 := { stood := { row := keysHangUptoRow, standIns := [], harness := (true, "b9dc7ef74bd6397e0a888f9ec9a75fdf8902176368c109015fa51c1ec4bea322"), looks := false }, kinds := [], alts := [], laidByText := true, laidKinds := [.sentinel, .data], laidTests := true, laidLooks := .later }
def KeysHangUptoCardSaid : Prop := Claim7.holds Tryd.pinned (.plain (OpenSpec.upto keysHangSpec)) keysHangUptoCard
end Rows
end Go.Proofs.YtejkimhmpnogkaaDoor
