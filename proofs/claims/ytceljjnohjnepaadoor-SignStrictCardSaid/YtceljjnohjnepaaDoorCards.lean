/-
  DERIVED. GIVEN WITH THE SEED: THE CARDS: each row of YtceljjnohjnepaaDoorRows.lean that lists a variable, with what it lists TIED to the program's text (the seventh form; the later family's looks); each row that meets fmt, with fmt's text TOLD by the authors' own Lean function (tested against real Go, not proved from fmt's source: count such statements apart). THE CARD IS WHAT COUNTS. Prove the row's statement (the work); the ties are given (YtceljjnohjnepaaDoorTie.lean); close each card by the builder's one call (the guide's Derived/Test/ToyasCard.lean, 'card_holds'). Laid BY PROGRAM, IN A SANDBOX (cutbox-door.mjs). By AI agents, Wed Nov 11 2026. No macro, syntax, notation, axiom, sorry.
-/
import Derived.Test.YtceljjnohjnepaaDoorRows
import GoSem.ClaimSeven
namespace Go.Proofs.YtceljjnohjnepaaDoor
namespace Rows

/-- THE TIED CARD OF 'pharoslaw14.SignStrict'. -/
def signStrictCard : Claim7 := { stood := { row := signStrictRow, standIns := [], harness := (true, "b61de1b4aa7f628d44512a69019469d8273d4cf19efc9a61dbd97491a2e99bc5"), looks := false }, kinds := [], alts := [], laidByText := true, laidKinds := [.data], laidTests := true, laidLooks := .later }
def SignStrictCardSaid : Prop := Claim7.holds Tryd.pinned (.plain (OpenSpec.ofChange signStrictSpec)) signStrictCard

/-- THE SECOND FORM's CARD OF 'pharoslaw14.SignStrict'. -/
def signStrictUptoCard : Claim7 := { stood := { row := signStrictUptoRow, standIns := [], harness := (true, "b61de1b4aa7f628d44512a69019469d8273d4cf19efc9a61dbd97491a2e99bc5"), looks := false }, kinds := [], alts := [], laidByText := true, laidKinds := [.data], laidTests := true, laidLooks := .later }
def SignStrictUptoCardSaid : Prop := Claim7.holds Tryd.pinned (.plain (OpenSpec.upto signStrictSpec)) signStrictUptoCard
end Rows
end Go.Proofs.YtceljjnohjnepaaDoor
