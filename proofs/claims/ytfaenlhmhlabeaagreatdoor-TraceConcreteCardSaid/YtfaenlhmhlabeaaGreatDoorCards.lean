/-
  DERIVED. GIVEN WITH THE SEED: THE CARDS: each row of YtfaenlhmhlabeaaGreatDoorRows.lean that lists a variable, with what it lists TIED to the program's text (the seventh form; the later family's looks); each row that meets fmt, with fmt's text TOLD by the authors' own Lean function (tested against real Go, not proved from fmt's source: count such statements apart). THE CARD IS WHAT COUNTS. Prove the row's statement (the work); the ties are given (YtfaenlhmhlabeaaGreatDoorTie.lean); close each card by the builder's one call (the guide's Derived/Test/ToyasCard.lean, 'card_holds'). Laid BY PROGRAM, IN A SANDBOX (cutbox-door.mjs). By AI agents, Wed Nov 11 2026. No macro, syntax, notation, axiom, sorry.
-/
import Derived.Test.YtfaenlhmhlabeaaGreatDoorRows
import GoSem.ClaimSeven
namespace Go.Proofs.YtfaenlhmhlabeaaGreatDoor
namespace Rows

/-- THE TIED CARD OF 'brocadelaw33.TraceConcrete'. -/
def traceConcreteCard : Claim7 := { stood := { row := traceConcreteRow, standIns := [], harness := (true, "eceefd263df23f057d8e98bd4b294fa95604b859aa6ba0c8e008eb088ab948e5"), looks := false }, kinds := [], alts := [], laidByText := true, laidKinds := [.listed, .data], laidTests := true, laidLooks := .later }
def TraceConcreteCardSaid : Prop := Claim7.holds Tryz.pinned (.plain (OpenSpec.ofChange traceConcreteSpec)) traceConcreteCard

/-- THE TIED CARD OF 'brocadelaw33.TraceRegions'. -/
def traceRegionsCard : Claim7 := { stood := { row := traceRegionsRow, standIns := [], harness := (true, "eceefd263df23f057d8e98bd4b294fa95604b859aa6ba0c8e008eb088ab948e5"), looks := false }, kinds := [], alts := [], laidByText := true, laidKinds := [.listed, .data], laidTests := true, laidLooks := .later }
def TraceRegionsCardSaid : Prop := Claim7.holds Tryz.pinned (.plain (OpenSpec.ofChange traceRegionsSpec)) traceRegionsCard

/-- THE SECOND FORM's CARD OF 'brocadelaw33.TraceConcrete'. -/
def traceConcreteUptoCard : Claim7 := { stood := { row := traceConcreteUptoRow, standIns := [], harness := (true, "eceefd263df23f057d8e98bd4b294fa95604b859aa6ba0c8e008eb088ab948e5"), looks := false }, kinds := [], alts := [], laidByText := true, laidKinds := [.listed, .data], laidTests := true, laidLooks := .later }
def TraceConcreteUptoCardSaid : Prop := Claim7.holds Tryz.pinned (.plain (OpenSpec.upto traceConcreteSpec)) traceConcreteUptoCard

/-- THE SECOND FORM's CARD OF 'brocadelaw33.TraceRegions'. -/
def traceRegionsUptoCard : Claim7 := { stood := { row := traceRegionsUptoRow, standIns := [], harness := (true, "eceefd263df23f057d8e98bd4b294fa95604b859aa6ba0c8e008eb088ab948e5"), looks := false }, kinds := [], alts := [], laidByText := true, laidKinds := [.listed, .data], laidTests := true, laidLooks := .later }
def TraceRegionsUptoCardSaid : Prop := Claim7.holds Tryz.pinned (.plain (OpenSpec.upto traceRegionsSpec)) traceRegionsUptoCard
end Rows
end Go.Proofs.YtfaenlhmhlabeaaGreatDoor
