/-
  DERIVED. GIVEN WITH THE SEED: THE CARDS: each row of YtdnmcpojjndjbaaGreatDoorRows.lean that lists a variable, with what it lists TIED to the program's text (the seventh form; the later family's looks); each row that meets fmt, with fmt's text TOLD by the authors' own Lean function (tested against real Go, not proved from fmt's source: count such statements apart). THE CARD IS WHAT COUNTS. Prove the row's statement (the work); the ties are given (YtdnmcpojjndjbaaGreatDoorTie.lean); close each card by the builder's one call (the guide's Derived/Test/ToyasCard.lean, 'card_holds'). Laid BY PROGRAM, IN A SANDBOX (cutbox-door.mjs). By AI agents, Wed Nov 11 2026. No macro, syntax, notation, axiom, sorry.
-/
import Derived.Test.YtdnmcpojjndjbaaGreatDoorRows
import GoSem.ClaimSeven
namespace Go.Proofs.YtdnmcpojjndjbaaGreatDoor
namespace Rows

/-- THE TIED CARD OF 'jitlaw1.RidesPriced'. -/
def ridesPricedCard : Claim7 := { stood := { row := ridesPricedRow, standIns := [], harness := (true, "d822060fab61bf17b4ce066ea3085b485500e80ef33d1da936e6815ce98a598d"), looks := false }, kinds := [], alts := [], laidByText := true, laidKinds := [.data, .data, .data, .data, .pinned], laidTests := true, laidLooks := .later }
def RidesPricedCardSaid : Prop := Claim7.holds Tryz.pinned (.plain (OpenSpec.ofChange ridesPricedSpec)) ridesPricedCard

/-- THE SECOND FORM's CARD OF 'jitlaw1.RidesPriced'. -/
def ridesPricedUptoCard : Claim7 := { stood := { row := ridesPricedUptoRow, standIns := [], harness := (true, "d822060fab61bf17b4ce066ea3085b485500e80ef33d1da936e6815ce98a598d"), looks := false }, kinds := [], alts := [], laidByText := true, laidKinds := [.data, .data, .data, .data, .pinned], laidTests := true, laidLooks := .later }
def RidesPricedUptoCardSaid : Prop := Claim7.holds Tryz.pinned (.plain (OpenSpec.upto ridesPricedSpec)) ridesPricedUptoCard
end Rows
end Go.Proofs.YtdnmcpojjndjbaaGreatDoor
