/-
  DERIVED. GIVEN WITH THE SEED: THE CARDS: each row of YtdjopfagccildaaGreatDoorRows.lean that lists a variable, with what it lists TIED to the program's text (the seventh form; the later family's looks); each row that meets fmt, with fmt's text TOLD by the authors' own Lean function (tested against real Go, not proved from fmt's source: count such statements apart). THE CARD IS WHAT COUNTS. Prove the row's statement (the work); the ties are given (YtdjopfagccildaaGreatDoorTie.lean); close each card by the builder's one call (the guide's Derived/Test/ToyasCard.lean, 'card_holds'). Laid BY PROGRAM, IN A SANDBOX (cutbox-door.mjs). By AI agents, Wed Nov 11 2026. No macro, syntax, notation, axiom, sorry.
-/
import Derived.Test.YtdjopfagccildaaGreatDoorRows
import GoSem.ClaimSeven
namespace Go.Proofs.YtdjopfagccildaaGreatDoor
namespace Rows

/-- THE TIED CARD OF 'jitlaw1.EventsFollowed'. -/
def eventsFollowedCard : Claim7 := { stood := { row := eventsFollowedRow, standIns := [], harness := (true, "3705f65c26d2d3cc5dc86247093ac5ce60aa799f92602ce4ac8f62e45673dde4"), looks := false }, kinds := [], alts := [], laidByText := true, laidKinds := [.data, .pinned], laidTests := true, laidLooks := .later }
def EventsFollowedCardSaid : Prop := Claim7.holds Tryz.pinned (.plain (OpenSpec.ofChange eventsFollowedSpec)) eventsFollowedCard

/-- THE TIED CARD OF 'jitlaw1.EventsTold'. -/
def eventsToldCard : Claim7 := { stood := { row := eventsToldRow, standIns := [], harness := (true, "3705f65c26d2d3cc5dc86247093ac5ce60aa799f92602ce4ac8f62e45673dde4"), looks := false }, kinds := [], alts := [], laidByText := true, laidKinds := [.data, .pinned], laidTests := true, laidLooks := .later }
def EventsToldCardSaid : Prop := Claim7.holds Tryz.pinned (.plain (OpenSpec.ofChange eventsToldSpec)) eventsToldCard

/-- THE TIED CARD OF 'jitlaw1.PromisesKept'. -/
def promisesKeptCard : Claim7 := { stood := { row := promisesKeptRow, standIns := [], harness := (true, "3705f65c26d2d3cc5dc86247093ac5ce60aa799f92602ce4ac8f62e45673dde4"), looks := false }, kinds := [], alts := [], laidByText := true, laidKinds := [.data, .data, .data, .data, .pinned], laidTests := true, laidLooks := .later }
def PromisesKeptCardSaid : Prop := Claim7.holds Tryz.pinned (.plain (OpenSpec.ofChange promisesKeptSpec)) promisesKeptCard

/-- THE SECOND FORM's CARD OF 'jitlaw1.EventsFollowed'. -/
def eventsFollowedUptoCard : Claim7 := { stood := { row := eventsFollowedUptoRow, standIns := [], harness := (true, "3705f65c26d2d3cc5dc86247093ac5ce60aa799f92602ce4ac8f62e45673dde4"), looks := false }, kinds := [], alts := [], laidByText := true, laidKinds := [.data, .pinned], laidTests := true, laidLooks := .later }
def EventsFollowedUptoCardSaid : Prop := Claim7.holds Tryz.pinned (.plain (OpenSpec.upto eventsFollowedSpec)) eventsFollowedUptoCard

/-- THE SECOND FORM's CARD OF 'jitlaw1.EventsTold'. -/
def eventsToldUptoCard : Claim7 := { stood := { row := eventsToldUptoRow, standIns := [], harness := (true, "3705f65c26d2d3cc5dc86247093ac5ce60aa799f92602ce4ac8f62e45673dde4"), looks := false }, kinds := [], alts := [], laidByText := true, laidKinds := [.data, .pinned], laidTests := true, laidLooks := .later }
def EventsToldUptoCardSaid : Prop := Claim7.holds Tryz.pinned (.plain (OpenSpec.upto eventsToldSpec)) eventsToldUptoCard

/-- THE SECOND FORM's CARD OF 'jitlaw1.PromisesKept'. -/
def promisesKeptUptoCard : Claim7 := { stood := { row := promisesKeptUptoRow, standIns := [], harness := (true, "3705f65c26d2d3cc5dc86247093ac5ce60aa799f92602ce4ac8f62e45673dde4"), looks := false }, kinds := [], alts := [], laidByText := true, laidKinds := [.data, .data, .data, .data, .pinned], laidTests := true, laidLooks := .later }
def PromisesKeptUptoCardSaid : Prop := Claim7.holds Tryz.pinned (.plain (OpenSpec.upto promisesKeptSpec)) promisesKeptUptoCard
end Rows
end Go.Proofs.YtdjopfagccildaaGreatDoor
