/-
  DERIVED. GIVEN WITH THE SEED: THE CARDS: each row of YtfpegbpngbchfaaGreatDoorRows.lean that lists a variable, with what it lists TIED to the program's text (the seventh form; the later family's looks); each row that meets fmt, with fmt's text TOLD by the authors' own Lean function (tested against real Go, not proved from fmt's source: count such statements apart). THE CARD IS WHAT COUNTS. Prove the row's statement (the work); the ties are given (YtfpegbpngbchfaaGreatDoorTie.lean); close each card by the builder's one call (the guide's Derived/Test/ToyasCard.lean, 'card_holds'). Laid BY PROGRAM, IN A SANDBOX (cutbox-door.mjs). By AI agents, Wed Nov 11 2026. No macro, syntax, notation, axiom, sorry.
-/
import Derived.Test.YtfpegbpngbchfaaGreatDoorRows
import GoSem.ClaimSeven
namespace Go.Proofs.YtfpegbpngbchfaaGreatDoor
namespace Rows

/-- THE TIED CARD OF 'brocadelaw35.LegalityCommutes'. -/
def legalityCommutesCard : Claim7 := { stood := { row := legalityCommutesRow, standIns := [], harness := (true, "9d653bcdffc6f886bfa2214762861ac27eb8974a41223d5afa85a98f1d6d0ffc"), looks := false }, kinds := [], alts := [], laidByText := true, laidKinds := [.listed, .data], laidTests := true, laidLooks := .later }
def LegalityCommutesCardSaid : Prop := Claim7.holds Tryz.pinned (.plain (OpenSpec.ofChange legalityCommutesSpec)) legalityCommutesCard

/-- THE SECOND FORM's CARD OF 'brocadelaw35.LegalityCommutes'. -/
def legalityCommutesUptoCard : Claim7 := { stood := { row := legalityCommutesUptoRow, standIns := [], harness := (true, "9d653bcdffc6f886bfa2214762861ac27eb8974a41223d5afa85a98f1d6d0ffc"), looks := false }, kinds := [], alts := [], laidByText := true, laidKinds := [.listed, .data], laidTests := true, laidLooks := .later }
def LegalityCommutesUptoCardSaid : Prop := Claim7.holds Tryz.pinned (.plain (OpenSpec.upto legalityCommutesSpec)) legalityCommutesUptoCard
end Rows
end Go.Proofs.YtfpegbpngbchfaaGreatDoor
