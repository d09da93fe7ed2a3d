/-
  DERIVED. GIVEN WITH THE SEED: THE CARDS: each row of YtkgphhemcglgnaaGreatDoorRows.lean that lists a variable, with what it lists TIED to the program's text (the seventh form; the later family's looks); each row that meets fmt, with fmt's text TOLD by the authors' own Lean function (tested against real Go, not proved from fmt's source: count such statements apart). THE CARD IS WHAT COUNTS. Prove the row's statement (the work); the ties are given (YtkgphhemcglgnaaGreatDoorTie.lean); close each card by the builder's one call (the guide's Derived/Test/ToyasCard.lean, 'card_holds'). Laid BY PROGRAM, IN A SANDBOX (cutbox-door.mjs). By AI agents, Wed Nov 11 2026. No macro, syntax, notation, axiom, sorry.
-/
import Derived.Test.YtkgphhemcglgnaaGreatDoorRows
import GoSem.ClaimSeven
namespace Go.Proofs.YtkgphhemcglgnaaGreatDoor
namespace Rows

/-- THE TIED CARD OF 'brocadelaw40.BuffersRemoveUnused'. -/
def buffersRemoveUnusedCard : Claim7 := { stood := { row := buffersRemoveUnusedRow, standIns := [], harness := (true, "220fbd8a5ba5e9f04272a9f9d4f892d20933e6e2bcfad22ded9e3ded4a41cff9"), looks := false }, kinds := [], alts := [], laidByText := true, laidKinds := [.listed, .data], laidTests := true, laidLooks := .later }
def BuffersRemoveUnusedCardSaid : Prop := Claim7.holds Tryz.pinned (.plain (OpenSpec.ofChange buffersRemoveUnusedSpec)) buffersRemoveUnusedCard

/-- THE TIED CARD OF 'brocadelaw33.TraceInstances'. -/
def traceInstancesCard : Claim7 := { stood := { row := traceInstancesRow, standIns := [], harness := (true, "220fbd8a5ba5e9f04272a9f9d4f892d20933e6e2bcfad22ded9e3ded4a41cff9"), looks := false }, kinds := [], alts := [], laidByText := true, laidKinds := [.listed, .data], laidTests := true, laidLooks := .later }
def TraceInstancesCardSaid : Prop := Claim7.holds Tryz.pinned (.plain (OpenSpec.ofChange traceInstancesSpec)) traceInstancesCard

/-- THE TIED CARD OF 'brocadelaw33.TraceLimits'. -/
def traceLimitsCard : Claim7 := { stood := { row := traceLimitsRow, standIns := [], harness := (true, "220fbd8a5ba5e9f04272a9f9d4f892d20933e6e2bcfad22ded9e3ded4a41cff9"), looks := false }, kinds := [], alts := [], laidByText := true, laidKinds := [.listed, .data], laidTests := true, laidLooks := .later }
def TraceLimitsCardSaid : Prop := Claim7.holds Tryz.pinned (.plain (OpenSpec.ofChange traceLimitsSpec)) traceLimitsCard

/-- THE TIED CARD OF 'brocadelaw33.TraceOrder'. -/
def traceOrderCard : Claim7 := { stood := { row := traceOrderRow, standIns := [], harness := (true, "220fbd8a5ba5e9f04272a9f9d4f892d20933e6e2bcfad22ded9e3ded4a41cff9"), looks := false }, kinds := [], alts := [], laidByText := true, laidKinds := [.listed, .data], laidTests := true, laidLooks := .later }
def TraceOrderCardSaid : Prop := Claim7.holds Tryz.pinned (.plain (OpenSpec.ofChange traceOrderSpec)) traceOrderCard

/-- THE SECOND FORM's CARD OF 'brocadelaw40.BuffersRemoveUnused'. -/
def buffersRemoveUnusedUptoCard : Claim7 := { stood := { row := buffersRemoveUnusedUptoRow, standIns := [], harness := (true, "220fbd8a5ba5e9f04272a9f9d4f892d20933e6e2bcfad22ded9e3ded4a41cff9"), looks := false }, kinds := [], alts := [], laidByText := true, laidKinds := [.listed, .data], laidTests := true, laidLooks := .later }
def BuffersRemoveUnusedUptoCardSaid : Prop := Claim7.holds Tryz.pinned (.plain (OpenSpec.upto buffersRemoveUnusedSpec)) buffersRemoveUnusedUptoCard

/-- THE SECOND FORM's CARD OF 'brocadelaw33.TraceInstances'. -/
def traceInstancesUptoCard : Claim7 := { stood := { row := traceInstancesUptoRow, standIns := [], harness := (true, "220fbd8a5ba5e9f04272a9f9d4f892d20933e6e2bcfad22ded9e3ded4a41cff9"), looks := false }, kinds := [], alts := [], laidByText := true, laidKinds := [.listed, .data], laidTests := true, laidLooks := .later }
def TraceInstancesUptoCardSaid : Prop := Claim7.holds Tryz.pinned (.plain (OpenSpec.upto traceInstancesSpec)) traceInstancesUptoCard

/-- THE SECOND FORM's CARD OF 'brocadelaw33.TraceLimits'. -/
def traceLimitsUptoCard : Claim7 := { stood := { row := traceLimitsUptoRow, standIns := [], harness := (true, "220fbd8a5ba5e9f04272a9f9d4f892d20933e6e2bcfad22ded9e3ded4a41cff9"), looks := false }, kinds := [], alts := [], laidByText := true, laidKinds := [.listed, .data], laidTests := true, laidLooks := .later }
def TraceLimitsUptoCardSaid : Prop := Claim7.holds Tryz.pinned (.plain (OpenSpec.upto traceLimitsSpec)) traceLimitsUptoCard

/-- THE SECOND FORM's CARD OF 'brocadelaw33.TraceOrder'. -/
def traceOrderUptoCard : Claim7 := { stood := { row := traceOrderUptoRow, standIns := [], harness := (true, "220fbd8a5ba5e9f04272a9f9d4f892d20933e6e2bcfad22ded9e3ded4a41cff9"), looks := false }, kinds := [], alts := [], laidByText := true, laidKinds := [.listed, .data], laidTests := true, laidLooks := .later }
def TraceOrderUptoCardSaid : Prop := Claim7.holds Tryz.pinned (.plain (OpenSpec.upto traceOrderSpec)) traceOrderUptoCard
end Rows
end Go.Proofs.YtkgphhemcglgnaaGreatDoor
