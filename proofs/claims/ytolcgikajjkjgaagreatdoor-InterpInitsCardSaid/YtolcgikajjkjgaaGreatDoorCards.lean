/-
  DERIVED. GIVEN WITH THE SEED: THE CARDS: each row of YtolcgikajjkjgaaGreatDoorRows.lean that lists a variable, with what it lists TIED to the program's text (the seventh form; the later family's looks); each row that meets fmt, with fmt's text TOLD by the authors' own Lean function (tested against real Go, not proved from fmt's source: count such statements apart). THE CARD IS WHAT COUNTS. Prove the row's statement (the work); the ties are given (YtolcgikajjkjgaaGreatDoorTie.lean); close each card by the builder's one call (the guide's Derived/Test/ToyasCard.lean, 'card_holds'). Laid BY PROGRAM, IN A SANDBOX (cutbox-door.mjs). By AI agents, Wed Nov 11 2026. No macro, syntax, notation, axiom, sorry.
-/
import Derived.Test.YtolcgikajjkjgaaGreatDoorRows
import GoSem.ClaimSeven
namespace Go.Proofs.YtolcgikajjkjgaaGreatDoor
namespace Rows

/-- THE TIED CARD OF 'brocadelaw45.AutotuneCosts'. -/
def autotuneCostsCard : Claim7 := { stood := { row := autotuneCostsRow, standIns := [], harness := (true, "e7b776e497e40b0af3a67795bb7d447ef9dce8f2baa0f9e8db909fe05838c071"), looks := false }, kinds := [], alts := [], laidByText := true, laidKinds := [.listed, .data], laidTests := true, laidLooks := .later }
def AutotuneCostsCardSaid : Prop := Claim7.holds Tryz.pinned (.plain (OpenSpec.ofChange autotuneCostsSpec)) autotuneCostsCard

/-- THE TIED CARD OF 'brocadelaw31.InterpInits'. -/
def interpInitsCard : Claim7 := { stood := { row := interpInitsRow, standIns := [], harness := (true, "e7b776e497e40b0af3a67795bb7d447ef9dce8f2baa0f9e8db909fe05838c071"), looks := false }, kinds := [], alts := [], laidByText := true, laidKinds := [.listed, .data], laidTests := true, laidLooks := .later }
def InterpInitsCardSaid : Prop := Claim7.holds Tryz.pinned (.plain (OpenSpec.ofChange interpInitsSpec)) interpInitsCard

/-- THE SECOND FORM's CARD OF 'brocadelaw45.AutotuneCosts'. -/
def autotuneCostsUptoCard : Claim7 := { stood := { row := autotuneCostsUptoRow, standIns := [], harness := (true, "e7b776e497e40b0af3a67795bb7d447ef9dce8f2baa0f9e8db909fe05838c071"), looks := false }, kinds := [], alts := [], laidByText := true, laidKinds := [.listed, .data], laidTests := true, laidLooks := .later }
def AutotuneCostsUptoCardSaid : Prop := Claim7.holds Tryz.pinned (.plain (OpenSpec.upto autotuneCostsSpec)) autotuneCostsUptoCard

/-- THE SECOND FORM's CARD OF 'brocadelaw31.InterpInits'. -/
def interpInitsUptoCard : Claim7 := { stood := { row := interpInitsUptoRow, standIns := [], harness := (true, "e7b776e497e40b0af3a67795bb7d447ef9dce8f2baa0f9e8db909fe05838c071"), looks := false }, kinds := [], alts := [], laidByText := true, laidKinds := [.listed, .data], laidTests := true, laidLooks := .later }
def InterpInitsUptoCardSaid : Prop := Claim7.holds Tryz.pinned (.plain (OpenSpec.upto interpInitsSpec)) interpInitsUptoCard
end Rows
end Go.Proofs.YtolcgikajjkjgaaGreatDoor
