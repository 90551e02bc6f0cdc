/-
  DERIVED. GIVEN WITH THE SEED: THE CARDS: each row of YtjhmgkoghapocaaDoorRows.lean that lists a variable, with what it lists TIED to the program's text (the seventh form; the later family's looks); each row that meets fmt, with fmt's text TOLD by the authors' own Lean function (tested against real Go, not proved from fmt's source: count such statements apart). THE CARD IS WHAT COUNTS. Prove the row's statement (the work); the ties are given (YtjhmgkoghapocaaDoorTie.lean); close each card by the builder's one call (the guide's Derived/Test/ToyasCard.lean, 'card_holds'). Laid BY PROGRAM, IN A SANDBOX (cutbox-door.mjs). By AI agents, Wed Nov 11 2026. No macro, syntax, notation, axiom, sorry.
-/
import Derived.Test.YtjhmgkoghapocaaDoorRows
import GoSem.ClaimSeven
namespace Go.Proofs.YtjhmgkoghapocaaDoor
namespace Rows

/-- THE TIED CARD OF 'jitlaw1.CostsFair'. -/
def costsFairCard : Claim7 := { stood := { row := costsFairRow, standIns := [], harness := (true, "faf96409c08606672764d3ba88a08657ba52886e020088291fd47dcb136653f3"), looks := false }, kinds := [], alts := [], laidByText := true, laidKinds := [.data, .pinned], laidTests := true, laidLooks := .later }
def CostsFairCardSaid : Prop := Claim7.holds Tryd.pinned (.plain (OpenSpec.ofChange costsFairSpec)) costsFairCard

/-- THE TIED CARD OF 'jitlaw1.ZonesCrossed'. -/
def zonesCrossedCard : Claim7 := { stood := { row := zonesCrossedRow, standIns := [], harness := (true, "faf96409c08606672764d3ba88a08657ba52886e020088291fd47dcb136653f3"), looks := false }, kinds := [], alts := [], laidByText := true, laidKinds := [.data, .pinned], laidTests := true, laidLooks := .later }
def ZonesCrossedCardSaid : Prop := Claim7.holds Tryd.pinned (.plain (OpenSpec.ofChange zonesCrossedSpec)) zonesCrossedCard

/-- THE TIED CARD OF 'jitlaw1.CostsDivided'. -/
def costsDividedCard : Claim7 := { stood := { row := costsDividedRow, standIns := [], harness := (true, "faf96409c08606672764d3ba88a08657ba52886e020088291fd47dcb136653f3"), looks := false }, kinds := [], alts := [], laidByText := true, laidKinds := [.data, .pinned], laidTests := true, laidLooks := .later }
def CostsDividedCardSaid : Prop := Claim7.holds Tryd.pinned (.plain (OpenSpec.ofChange costsDividedSpec)) costsDividedCard

/-- THE SECOND FORM's CARD OF 'jitlaw1.CostsFair'. -/
def costsFairUptoCard : Claim7 := { stood := { row := costsFairUptoRow, standIns := [], harness := (true, "faf96409c08606672764d3ba88a08657ba52886e020088291fd47dcb136653f3"), looks := false }, kinds := [], alts := [], laidByText := true, laidKinds := [.data, .pinned], laidTests := true, laidLooks := .later }
def CostsFairUptoCardSaid : Prop := Claim7.holds Tryd.pinned (.plain (OpenSpec.upto costsFairSpec)) costsFairUptoCard

/-- THE SECOND FORM's CARD OF 'jitlaw1.ZonesCrossed'. -/
def zonesCrossedUptoCard : Claim7 := { stood := { row := zonesCrossedUptoRow, standIns := [], harness := (true, "faf96409c08606672764d3ba88a08657ba52886e020088291fd47dcb136653f3"), looks := false }, kinds := [], alts := [], laidByText := true, laidKinds := [.data, .pinned], laidTests := true, laidLooks := .later }
def ZonesCrossedUptoCardSaid : Prop := Claim7.holds Tryd.pinned (.plain (OpenSpec.upto zonesCrossedSpec)) zonesCrossedUptoCard

/-- THE SECOND FORM's CARD OF 'jitlaw1.CostsDivided'. -/
def costsDividedUptoCard : Claim7 := { stood := { row := costsDividedUptoRow, standIns := [], harness := (true, "faf96409c08606672764d3ba88a08657ba52886e020088291fd47dcb136653f3"), looks := false }, kinds := [], alts := [], laidByText := true, laidKinds := [.data, .pinned], laidTests := true, laidLooks := .later }
def CostsDividedUptoCardSaid : Prop := Claim7.holds Tryd.pinned (.plain (OpenSpec.upto costsDividedSpec)) costsDividedUptoCard
end Rows
end Go.Proofs.YtjhmgkoghapocaaDoor
