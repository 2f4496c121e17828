/-
  DERIVED. GIVEN WITH THE SEED: THE CARDS: each row of YtjfjbanoikbnoaaDoorRows.lean that lists a variable, with what it lists TIED to the program's text (the seventh form; the later family's looks); each row that meets fmt, with fmt's text TOLD by the authors' own Lean function (tested against real Go, not proved from fmt's source: count such statements apart). THE CARD IS WHAT COUNTS. Prove the row's statement (the work); the ties are given (YtjfjbanoikbnoaaDoorTie.lean); close each card by the builder's one call (the guide's Derived/Test/ToyasCard.lean, 'card_holds'). Laid BY PROGRAM, IN A SANDBOX (cutbox-door.mjs). By AI agents, Wed Nov 11 2026. No macro, syntax, notation, axiom, sorry.
-/
import Derived.Test.YtjfjbanoikbnoaaDoorRows
import GoSem.ClaimSeven
namespace Go.Proofs.YtjfjbanoikbnoaaDoor
namespace Rows

/-- THE TIED CARD OF 'pharoslaw10.ShaOfs'. -/
def shaOfsCard : Claim7 := { stood := { row := shaOfsRow, standIns := [], harness := (true, "4c87542d3c7d12ec8b4089ce3bb98625b39b37860ee619a3f6541b29e8d6ac32"), looks := false }, kinds := [], alts := [], laidByText := true, laidKinds := [.data], laidTests := true, laidLooks := .later }
def ShaOfsCardSaid : Prop := Claim7.holds Tryd.pinned (.plain (OpenSpec.ofChange shaOfsSpec)) shaOfsCard

/-- THE TIED CARD OF 'pharoslaw10.ShaRoots'. -/
def shaRootsCard : Claim7 := { stood := { row := shaRootsRow, standIns := [], harness := (true, "4c87542d3c7d12ec8b4089ce3bb98625b39b37860ee619a3f6541b29e8d6ac32"), looks := false }, kinds := [], alts := [], laidByText := true, laidKinds := [.data], laidTests := true, laidLooks := .later }
def ShaRootsCardSaid : Prop := Claim7.holds Tryd.pinned (.plain (OpenSpec.ofChange shaRootsSpec)) shaRootsCard

/-- THE TIED CARD OF 'pharoslaw10.ShaPieces'. -/
def shaPiecesCard : Claim7 := { stood := { row := shaPiecesRow, standIns := [], harness := (true, "4c87542d3c7d12ec8b4089ce3bb98625b39b37860ee619a3f6541b29e8d6ac32"), looks := false }, kinds := [], alts := [], laidByText := true, laidKinds := [.data], laidTests := true, laidLooks := .later }
def ShaPiecesCardSaid : Prop := Claim7.holds Tryd.pinned (.plain (OpenSpec.ofChange shaPiecesSpec)) shaPiecesCard

/-- THE SECOND FORM's CARD OF 'pharoslaw10.ShaOfs'. -/
def shaOfsUptoCard : Claim7 := { stood := { row := shaOfsUptoRow, standIns := [], harness := (true, "4c87542d3c7d12ec8b4089ce3bb98625b39b37860ee619a3f6541b29e8d6ac32"), looks := false }, kinds := [], alts := [], laidByText := true, laidKinds := [.data], laidTests := true, laidLooks := .later }
def ShaOfsUptoCardSaid : Prop := Claim7.holds Tryd.pinned (.plain (OpenSpec.upto shaOfsSpec)) shaOfsUptoCard

/-- THE SECOND FORM's CARD OF 'pharoslaw10.ShaRoots'. -/
def shaRootsUptoCard : Claim7 := { stood := { row := shaRootsUptoRow, standIns := [], harness := (true, "4c87542d3c7d12ec8b4089ce3bb98625b39b37860ee619a3f6541b29e8d6ac32"), looks := false }, kinds := [], alts := [], laidByText := true, laidKinds := [.data], laidTests := true, laidLooks := .later }
def ShaRootsUptoCardSaid : Prop := Claim7.holds Tryd.pinned (.plain (OpenSpec.upto shaRootsSpec)) shaRootsUptoCard

/-- THE SECOND FORM's CARD OF 'pharoslaw10.ShaPieces'. -/
def shaPiecesUptoCard : Claim7 := { stood := { row := shaPiecesUptoRow, standIns := [], harness := (true, "4c87542d3c7d12ec8b4089ce3bb98625b39b37860ee619a3f6541b29e8d6ac32"), looks := false }, kinds := [], alts := [], laidByText := true, laidKinds := [.data], laidTests := true, laidLooks := .later }
def ShaPiecesUptoCardSaid : Prop := Claim7.holds Tryd.pinned (.plain (OpenSpec.upto shaPiecesSpec)) shaPiecesUptoCard
end Rows
end Go.Proofs.YtjfjbanoikbnoaaDoor
