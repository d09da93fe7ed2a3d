/-
  DERIVED. GIVEN WITH THE SEED: THE CARDS: each row of YtcphiogbjdehhaaDoorRows.lean that lists a variable, with what it lists TIED to the program's text (the seventh form; the later family's looks); each row that meets fmt, with fmt's text TOLD by the authors' own Lean function (tested against real Go, not proved from fmt's source: count such statements apart). THE CARD IS WHAT COUNTS. Prove the row's statement (the work); the ties are given (YtcphiogbjdehhaaDoorTie.lean); close each card by the builder's one call (the guide's Derived/Test/ToyasCard.lean, 'card_holds'). Laid BY PROGRAM, IN A SANDBOX (cutbox-door.mjs). By AI agents, Wed Nov 11 2026. No macro, syntax, notation, axiom, sorry.
-/
import Derived.Test.YtcphiogbjdehhaaDoorRows
import GoSem.ClaimSeven
namespace Go.Proofs.YtcphiogbjdehhaaDoor
namespace Rows

/-- THE TIED CARD OF 'brocadelaw44.ScheduleFormats'. -/
def scheduleFormatsCard : Claim7 := { stood := { row := scheduleFormatsRow, standIns := [], harness := (true, "d5ee46f859a039a550920711a0d99b2d3ecdda386fa2bcaa849d147a094cf879"), looks := false }, kinds := [], alts := [], laidByText := true, laidKinds := [.data, .data, .data, .data, .listed, .data, .pinned], laidTests := true, laidLooks := .later }
def ScheduleFormatsCardSaid : Prop := Claim7.holds Tryd.pinned (.plain (OpenSpec.ofChange scheduleFormatsSpec)) scheduleFormatsCard

/-- THE TIED CARD OF 'brocadelaw44.ScheduleParses'. -/
def scheduleParsesCard : Claim7 := { stood := { row := scheduleParsesRow, standIns := [], harness := (true, "d5ee46f859a039a550920711a0d99b2d3ecdda386fa2bcaa849d147a094cf879"), looks := false }, kinds := [], alts := [], laidByText := true, laidKinds := [.data, .data, .data, .data, .listed, .data, .pinned], laidTests := true, laidLooks := .later }
def ScheduleParsesCardSaid : Prop := Claim7.holds Tryd.pinned (.plain (OpenSpec.ofChange scheduleParsesSpec)) scheduleParsesCard

/-- THE TIED CARD OF 'brocadelaw44.ScheduleRoundTrip'. -/
def scheduleRoundTripCard : Claim7 := { stood := { row := scheduleRoundTripRow, standIns := [], harness := (true, "d5ee46f859a039a550920711a0d99b2d3ecdda386fa2bcaa849d147a094cf879"), looks := false }, kinds := [], alts := [], laidByText := true, laidKinds := [.data, .data, .data, .data, .listed, .data, .pinned], laidTests := true, laidLooks := .later }
def ScheduleRoundTripCardSaid : Prop := Claim7.holds Tryd.pinned (.plain (OpenSpec.ofChange scheduleRoundTripSpec)) scheduleRoundTripCard

/-- THE SECOND FORM's CARD OF 'brocadelaw44.ScheduleFormats'. -/
def scheduleFormatsUptoCard : Claim7 := { stood := { row := scheduleFormatsUptoRow, standIns := [], harness := (true, "d5ee46f859a039a550920711a0d99b2d3ecdda386fa2bcaa849d147a094cf879"), looks := false }, kinds := [], alts := [], laidByText := true, laidKinds := [.data, .data, .data, .data, .listed, .data, .pinned], laidTests := true, laidLooks := .later }
def ScheduleFormatsUptoCardSaid : Prop := Claim7.holds Tryd.pinned (.plain (OpenSpec.upto scheduleFormatsSpec)) scheduleFormatsUptoCard

/-- THE SECOND FORM's CARD OF 'brocadelaw44.ScheduleParses'. -/
def scheduleParsesUptoCard : Claim7 := { stood := { row := scheduleParsesUptoRow, standIns := [], harness := (true, "d5ee46f859a039a550920711a0d99b2d3ecdda386fa2bcaa849d147a094cf879"), looks := false }, kinds := [], alts := [], laidByText := true, laidKinds := [.data, .data, .data, .data, .listed, .data, .pinned], laidTests := true, laidLooks := .later }
def ScheduleParsesUptoCardSaid : Prop := Claim7.holds Tryd.pinned (.plain (OpenSpec.upto scheduleParsesSpec)) scheduleParsesUptoCard

/-- THE SECOND FORM's CARD OF 'brocadelaw44.ScheduleRoundTrip'. -/
def scheduleRoundTripUptoCard : Claim7 := { stood := { row := scheduleRoundTripUptoRow, standIns := [], harness := (true, "d5ee46f859a039a550920711a0d99b2d3ecdda386fa2bcaa849d147a094cf879"), looks := false }, kinds := [], alts := [], laidByText := true, laidKinds := [.data, .data, .data, .data, .listed, .data, .pinned], laidTests := true, laidLooks := .later }
def ScheduleRoundTripUptoCardSaid : Prop := Claim7.holds Tryd.pinned (.plain (OpenSpec.upto scheduleRoundTripSpec)) scheduleRoundTripUptoCard
end Rows
end Go.Proofs.YtcphiogbjdehhaaDoor
