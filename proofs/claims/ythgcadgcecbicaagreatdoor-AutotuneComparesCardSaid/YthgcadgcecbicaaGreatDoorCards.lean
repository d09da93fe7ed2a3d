/-
  DERIVED. GIVEN WITH THE SEED: THE CARDS: each row of YthgcadgcecbicaaGreatDoorRows.lean that lists a variable, with what it lists TIED to the program's text (the seventh form; the later family's looks); each row that meets fmt, with fmt's text TOLD by the authors' own Lean function (tested against real Go, not proved from fmt's source: count such statements apart). THE CARD IS WHAT COUNTS. Prove the row's statement (the work); the ties are given (YthgcadgcecbicaaGreatDoorTie.lean); close each card by the builder's one call (the guide's Derived/Test/ToyasCard.lean, 'card_holds'). Laid BY PROGRAM, IN A SANDBOX (cutbox-door.mjs). By AI agents, Wed Nov 11 2026. No macro, syntax, notation, axiom, sorry.
-/
import Derived.Test.YthgcadgcecbicaaGreatDoorRows
import GoSem.ClaimSeven
namespace Go.Proofs.YthgcadgcecbicaaGreatDoor
namespace Rows

/-- THE TIED CARD OF 'brocadelaw45.AutotuneCosts'. -/
def autotuneCostsCard : Claim7 := { stood := { row := autotuneCostsRow, standIns := [], harness := (true, "8b8d47125db29c17cc83c8e8d9d06d4e49f68cbdfefc67b46d0d0144e5fdb967"), looks := false }, kinds := [], alts := [], laidByText := true, laidKinds := [.listed, .data], laidTests := true, laidLooks := .later }
def AutotuneCostsCardSaid : Prop := Claim7.holds Tryz.pinned (.plain (OpenSpec.ofChange autotuneCostsSpec)) autotuneCostsCard

/-- THE TIED CARD OF 'brocadelaw45.AutotuneCompares'. -/
def autotuneComparesCard : Claim7 := { stood := { row := autotuneComparesRow, standIns := [], harness := (true, "8b8d47125db29c17cc83c8e8d9d06d4e49f68cbdfefc67b46d0d0144e5fdb967"), looks := false }, kinds := [], alts := [], laidByText := true, laidKinds := [.listed, .data], laidTests := true, laidLooks := .later }
def AutotuneComparesCardSaid : Prop := Claim7.holds Tryz.pinned (.plain (OpenSpec.ofChange autotuneComparesSpec)) autotuneComparesCard

/-- THE TIED CARD OF 'brocadelaw40.BuffersInline'. -/
def buffersInlineCard : Claim7 := { stood := { row := buffersInlineRow, standIns := [], harness := (true, "8b8d47125db29c17cc83c8e8d9d06d4e49f68cbdfefc67b46d0d0144e5fdb967"), looks := false }, kinds := [], alts := [], laidByText := true, laidKinds := [.listed, .data], laidTests := true, laidLooks := .later }
def BuffersInlineCardSaid : Prop := Claim7.holds Tryz.pinned (.plain (OpenSpec.ofChange buffersInlineSpec)) buffersInlineCard

/-- THE TIED CARD OF 'brocadelaw40.BuffersRemoveUnused'. -/
def buffersRemoveUnusedCard : Claim7 := { stood := { row := buffersRemoveUnusedRow, standIns := [], harness := (true, "8b8d47125db29c17cc83c8e8d9d06d4e49f68cbdfefc67b46d0d0144e5fdb967"), looks := false }, kinds := [], alts := [], laidByText := true, laidKinds := [.listed, .data], laidTests := true, laidLooks := .later }
def BuffersRemoveUnusedCardSaid : Prop := Claim7.holds Tryz.pinned (.plain (OpenSpec.ofChange buffersRemoveUnusedSpec)) buffersRemoveUnusedCard

/-- THE TIED CARD OF 'brocadelaw40.BuffersIdempotent'. -/
def buffersIdempotentCard : Claim7 := { stood := { row := buffersIdempotentRow, standIns := [], harness := (true, "8b8d47125db29c17cc83c8e8d9d06d4e49f68cbdfefc67b46d0d0144e5fdb967"), looks := false }, kinds := [], alts := [], laidByText := true, laidKinds := [.listed, .data], laidTests := true, laidLooks := .later }
def BuffersIdempotentCardSaid : Prop := Claim7.holds Tryz.pinned (.plain (OpenSpec.ofChange buffersIdempotentSpec)) buffersIdempotentCard

/-- THE SECOND FORM's CARD OF 'brocadelaw45.AutotuneCosts'. -/
def autotuneCostsUptoCard : Claim7 := { stood := { row := autotuneCostsUptoRow, standIns := [], harness := (true, "8b8d47125db29c17cc83c8e8d9d06d4e49f68cbdfefc67b46d0d0144e5fdb967"), looks := false }, kinds := [], alts := [], laidByText := true, laidKinds := [.listed, .data], laidTests := true, laidLooks := .later }
def AutotuneCostsUptoCardSaid : Prop := Claim7.holds Tryz.pinned (.plain (OpenSpec.upto autotuneCostsSpec)) autotuneCostsUptoCard

/-- THE SECOND FORM's CARD OF 'brocadelaw45.AutotuneCompares'. -/
def autotuneComparesUptoCard : Claim7 := { stood := { row := autotuneComparesUptoRow, standIns := [], harness := (true, "8b8d47125db29c17cc83c8e8d9d06d4e49f68cbdfefc67b46d0d0144e5fdb967"), looks := false }, kinds := [], alts := [], laidByText := true, laidKinds := [.listed, .data], laidTests := true, laidLooks := .later }
def AutotuneComparesUptoCardSaid : Prop := Claim7.holds Tryz.pinned (.plain (OpenSpec.upto autotuneComparesSpec)) autotuneComparesUptoCard

/-- THE SECOND FORM's CARD OF 'brocadelaw40.BuffersInline'. -/
def buffersInlineUptoCard : Claim7 := { stood := { row := buffersInlineUptoRow, standIns := [], harness := (true, "8b8d47125db29c17cc83c8e8d9d06d4e49f68cbdfefc67b46d0d0144e5fdb967"), looks := false }, kinds := [], alts := [], laidByText := true, laidKinds := [.listed, .data], laidTests := true, laidLooks := .later }
def BuffersInlineUptoCardSaid : Prop := Claim7.holds Tryz.pinned (.plain (OpenSpec.upto buffersInlineSpec)) buffersInlineUptoCard

/-- THE SECOND FORM's CARD OF 'brocadelaw40.BuffersRemoveUnused'. -/
def buffersRemoveUnusedUptoCard : Claim7 := { stood := { row := buffersRemoveUnusedUptoRow, standIns := [], harness := (true, "8b8d47125db29c17cc83c8e8d9d06d4e49f68cbdfefc67b46d0d0144e5fdb967"), looks := false }, kinds := [], alts := [], laidByText := true, laidKinds := [.listed, .data], laidTests := true, laidLooks := .later }
def BuffersRemoveUnusedUptoCardSaid : Prop := Claim7.holds Tryz.pinned (.plain (OpenSpec.upto buffersRemoveUnusedSpec)) buffersRemoveUnusedUptoCard

/-- THE SECOND FORM's CARD OF 'brocadelaw40.BuffersIdempotent'. -/
def buffersIdempotentUptoCard : Claim7 := { stood := { row := buffersIdempotentUptoRow, standIns := [], harness := (true, "8b8d47125db29c17cc83c8e8d9d06d4e49f68cbdfefc67b46d0d0144e5fdb967"), looks := false }, kinds := [], alts := [], laidByText := true, laidKinds := [.listed, .data], laidTests := true, laidLooks := .later }
def BuffersIdempotentUptoCardSaid : Prop := Claim7.holds Tryz.pinned (.plain (OpenSpec.upto buffersIdempotentSpec)) buffersIdempotentUptoCard
end Rows
end Go.Proofs.YthgcadgcecbicaaGreatDoor
