/-
  DERIVED. GIVEN WITH THE SEED: THE CARDS: each row of YtbjbeddjaajdaaaGreatDoorRows.lean that lists a variable, with what it lists TIED to the program's text (the seventh form; the later family's looks); each row that meets fmt, with fmt's text TOLD by the authors' own Lean function (tested against real Go, not proved from fmt's source: count such statements apart). THE CARD IS WHAT COUNTS. Prove the row's statement (the work); the ties are given (YtbjbeddjaajdaaaGreatDoorTie.lean); close each card by the builder's one call (the guide's Derived/Test/ToyasCard.lean, 'card_holds'). Laid BY PROGRAM, IN A SANDBOX (cutbox-door.mjs). By AI agents, Wed Nov 11 2026. No macro, syntax, notation, axiom, sorry.
-/
import Derived.Test.YtbjbeddjaajdaaaGreatDoorRows
import GoSem.ClaimSeven
namespace Go.Proofs.YtbjbeddjaajdaaaGreatDoor
namespace Rows

/-- THE TIED CARD OF 'jitlaw1.PointsSnap'. -/
def pointsSnapCard : Claim7 := { stood := { row := pointsSnapRow, standIns := [], harness := (true, "421b6ad473a6f57382d0e9c0109bc0b88c019b402e8957917f7a2d0a57397918"), looks := true }, kinds := [], alts := [], laidByText := true, laidKinds := [.data, .data, .data, .data, .pinned], laidTests := true, laidLooks := .later }
def PointsSnapCardSaid : Prop := Claim7.holds Tryz.pinned (.plain (OpenSpec.ofChange pointsSnapSpec)) pointsSnapCard

/-- THE TIED CARD OF 'jittop.TopChosenReach'. -/
def topChosenReachCard : Claim7 := { stood := { row := topChosenReachRow, standIns := [], harness := (true, "421b6ad473a6f57382d0e9c0109bc0b88c019b402e8957917f7a2d0a57397918"), looks := true }, kinds := [], alts := [], laidByText := true, laidKinds := [.data, .data, .data, .data, .pinned], laidTests := true, laidLooks := .later }
def TopChosenReachCardSaid : Prop := Claim7.holds Tryz.pinned (.plain (OpenSpec.ofChange topChosenReachSpec)) topChosenReachCard

/-- THE TIED CARD OF 'jitkeep1.RoadsStay'. -/
def roadsStayCard : Claim7 := { stood := { row := roadsStayRow, standIns := [], harness := (true, "421b6ad473a6f57382d0e9c0109bc0b88c019b402e8957917f7a2d0a57397918"), looks := true }, kinds := [], alts := [], laidByText := true, laidKinds := [.data, .data, .data, .data, .pinned], laidTests := true, laidLooks := .later }
def RoadsStayCardSaid : Prop := Claim7.holds Tryz.pinned (.plain (OpenSpec.ofChange roadsStaySpec)) roadsStayCard

/-- THE SECOND FORM's CARD OF 'jitlaw1.PointsSnap'. -/
def pointsSnapUptoCard : Claim7 := { stood := { row := pointsSnapUptoRow, standIns := [], harness := (true, "421b6ad473a6f57382d0e9c0109bc0b88c019b402e8957917f7a2d0a57397918"), looks := true }, kinds := [], alts := [], laidByText := true, laidKinds := [.data, .data, .data, .data, .pinned], laidTests := true, laidLooks := .later }
def PointsSnapUptoCardSaid : Prop := Claim7.holds Tryz.pinned (.plain (OpenSpec.upto pointsSnapSpec)) pointsSnapUptoCard

/-- THE SECOND FORM's CARD OF 'jittop.TopChosenReach'. -/
def topChosenReachUptoCard : Claim7 := { stood := { row := topChosenReachUptoRow, standIns := [], harness := (true, "421b6ad473a6f57382d0e9c0109bc0b88c019b402e8957917f7a2d0a57397918"), looks := true }, kinds := [], alts := [], laidByText := true, laidKinds := [.data, .data, .data, .data, .pinned], laidTests := true, laidLooks := .later }
def TopChosenReachUptoCardSaid : Prop := Claim7.holds Tryz.pinned (.plain (OpenSpec.upto topChosenReachSpec)) topChosenReachUptoCard

/-- THE SECOND FORM's CARD OF 'jitkeep1.RoadsStay'. -/
def roadsStayUptoCard : Claim7 := { stood := { row := roadsStayUptoRow, standIns := [], harness := (true, "421b6ad473a6f57382d0e9c0109bc0b88c019b402e8957917f7a2d0a57397918"), looks := true }, kinds := [], alts := [], laidByText := true, laidKinds := [.data, .data, .data, .data, .pinned], laidTests := true, laidLooks := .later }
def RoadsStayUptoCardSaid : Prop := Claim7.holds Tryz.pinned (.plain (OpenSpec.upto roadsStaySpec)) roadsStayUptoCard
end Rows
end Go.Proofs.YtbjbeddjaajdaaaGreatDoor
