/-
  DERIVED. GIVEN WITH THE SEED: THE CARDS: each row of YtepbamacebjopaaGreatDoorRows.lean that lists a variable, with what it lists TIED to the program's text (the seventh form; the later family's looks); each row that meets fmt, with fmt's text TOLD by the authors' own Lean function (tested against real Go, not proved from fmt's source: count such statements apart). THE CARD IS WHAT COUNTS. Prove the row's statement (the work); the ties are given (YtepbamacebjopaaGreatDoorTie.lean); close each card by the builder's one call (the guide's Derived/Test/ToyasCard.lean, 'card_holds'). Laid BY PROGRAM, IN A SANDBOX (cutbox-door.mjs). By AI agents, Wed Nov 11 2026. No macro, syntax, notation, axiom, sorry.
-/
import Derived.Test.YtepbamacebjopaaGreatDoorRows
import GoSem.ClaimSeven
namespace Go.Proofs.YtepbamacebjopaaGreatDoor
namespace Rows

/-- THE TIED CARD OF 'jitlaw1.PointsSnap'. -/
def pointsSnapCard : Claim7 := { stood := { row := pointsSnapRow, standIns := [], harness := (true, "5f709cd5675ff5f2e3458c863f2099a309739e81f3a42511a503a0ccd4049a8b"), looks := false }, kinds := [], alts := [], laidByText := true, laidKinds := [.data, .data, .data, .data, .pinned], laidTests := true, laidLooks := .later }
def PointsSnapCardSaid : Prop := Claim7.holds Tryz.pinned (.plain (OpenSpec.ofChange pointsSnapSpec)) pointsSnapCard

/-- THE SECOND FORM's CARD OF 'jitlaw1.PointsSnap'. -/
def pointsSnapUptoCard : Claim7 := { stood := { row := pointsSnapUptoRow, standIns := [], harness := (true, "5f709cd5675ff5f2e3458c863f2099a309739e81f3a42511a503a0ccd4049a8b"), looks := false }, kinds := [], alts := [], laidByText := true, laidKinds := [.data, .data, .data, .data, .pinned], laidTests := true, laidLooks := .later }
def PointsSnapUptoCardSaid : Prop := Claim7.holds Tryz.pinned (.plain (OpenSpec.upto pointsSnapSpec)) pointsSnapUptoCard
end Rows
end Go.Proofs.YtepbamacebjopaaGreatDoor
