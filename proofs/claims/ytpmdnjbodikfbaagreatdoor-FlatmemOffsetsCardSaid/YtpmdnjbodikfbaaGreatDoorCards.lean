/-
  DERIVED. GIVEN WITH THE SEED: THE CARDS: each row of YtpmdnjbodikfbaaGreatDoorRows.lean that lists a variable, with what it lists TIED to the program's text (the seventh form; the later family's looks); each row that meets fmt, with fmt's text TOLD by the authors' own Lean function (tested against real Go, not proved from fmt's source: count such statements apart). THE CARD IS WHAT COUNTS. Prove the row's statement (the work); the ties are given (YtpmdnjbodikfbaaGreatDoorTie.lean); close each card by the builder's one call (the guide's Derived/Test/ToyasCard.lean, 'card_holds'). Laid BY PROGRAM, IN A SANDBOX (cutbox-door.mjs). By AI agents, Wed Nov 11 2026. No macro, syntax, notation, axiom, sorry.
-/
import Derived.Test.YtpmdnjbodikfbaaGreatDoorRows
import GoSem.ClaimSeven
namespace Go.Proofs.YtpmdnjbodikfbaaGreatDoor
namespace Rows

/-- THE TIED CARD OF 'brocadelaw46.FlatmemOffsets'. -/
def flatmemOffsetsCard : Claim7 := { stood := { row := flatmemOffsetsRow, standIns := [], harness := (true, "333be054e077089b417c4a586e74a300da14284fe10eb5447ace69be2ddc784b"), looks := false }, kinds := [], alts := [], laidByText := true, laidKinds := [.listed, .data], laidTests := true, laidLooks := .later }
def FlatmemOffsetsCardSaid : Prop := Claim7.holds Tryz.pinned (.plain (OpenSpec.ofChange flatmemOffsetsSpec)) flatmemOffsetsCard

/-- THE SECOND FORM's CARD OF 'brocadelaw46.FlatmemOffsets'. -/
def flatmemOffsetsUptoCard : Claim7 := { stood := { row := flatmemOffsetsUptoRow, standIns := [], harness := (true, "333be054e077089b417c4a586e74a300da14284fe10eb5447ace69be2ddc784b"), looks := false }, kinds := [], alts := [], laidByText := true, laidKinds := [.listed, .data], laidTests := true, laidLooks := .later }
def FlatmemOffsetsUptoCardSaid : Prop := Claim7.holds Tryz.pinned (.plain (OpenSpec.upto flatmemOffsetsSpec)) flatmemOffsetsUptoCard
end Rows
end Go.Proofs.YtpmdnjbodikfbaaGreatDoor
