/-
  DERIVED. GIVEN WITH THE SEED: THE CARDS: each row of YtklgknepamebdaaGreatDoorRows.lean that lists a variable, with what it lists TIED to the program's text (the seventh form; the later family's looks); each row that meets fmt, with fmt's text TOLD by the authors' own Lean function (tested against real Go, not proved from fmt's source: count such statements apart). THE CARD IS WHAT COUNTS. Prove the row's statement (the work); the ties are given (YtklgknepamebdaaGreatDoorTie.lean); close each card by the builder's one call (the guide's Derived/Test/ToyasCard.lean, 'card_holds'). Laid BY PROGRAM, IN A SANDBOX (cutbox-door.mjs). By AI agents, Wed Nov 11 2026. No macro, syntax, notation, axiom, sorry.
-/
import Derived.Test.YtklgknepamebdaaGreatDoorRows
import GoSem.ClaimSeven
namespace Go.Proofs.YtklgknepamebdaaGreatDoor
namespace Rows

/-- THE TIED CARD OF 'jitlaw1.SitesChosen'. -/
def sitesChosenCard : Claim7 := { stood := { row := sitesChosenRow, standIns := [], harness := (true, "4c50fa83947229e31a998ca3c275ed0ec231469ec9f028448f43e14b91363349"), looks := true }, kinds := [], alts := [], laidByText := true, laidKinds := [.data, .data, .data, .data, .pinned], laidTests := true, laidLooks := .later }
def SitesChosenCardSaid : Prop := Claim7.holds Tryz.pinned (.plain (OpenSpec.ofChange sitesChosenSpec)) sitesChosenCard

/-- THE TIED CARD OF 'jitlaw1.WaysAreFastest'. -/
def waysAreFastestCard : Claim7 := { stood := { row := waysAreFastestRow, standIns := [], harness := (true, "4c50fa83947229e31a998ca3c275ed0ec231469ec9f028448f43e14b91363349"), looks := true }, kinds := [], alts := [], laidByText := true, laidKinds := [.data, .data, .data, .data, .pinned], laidTests := true, laidLooks := .later }
def WaysAreFastestCardSaid : Prop := Claim7.holds Tryz.pinned (.plain (OpenSpec.ofChange waysAreFastestSpec)) waysAreFastestCard

/-- THE TIED CARD OF 'jitlaw1.NodesReached'. -/
def nodesReachedCard : Claim7 := { stood := { row := nodesReachedRow, standIns := [], harness := (true, "4c50fa83947229e31a998ca3c275ed0ec231469ec9f028448f43e14b91363349"), looks := true }, kinds := [], alts := [], laidByText := true, laidKinds := [.data, .data, .data, .data, .pinned], laidTests := true, laidLooks := .later }
def NodesReachedCardSaid : Prop := Claim7.holds Tryz.pinned (.plain (OpenSpec.ofChange nodesReachedSpec)) nodesReachedCard

/-- THE TIED CARD OF 'jitlaw1.PointsSnap'. -/
def pointsSnapCard : Claim7 := { stood := { row := pointsSnapRow, standIns := [], harness := (true, "4c50fa83947229e31a998ca3c275ed0ec231469ec9f028448f43e14b91363349"), looks := true }, kinds := [], alts := [], laidByText := true, laidKinds := [.data, .data, .data, .data, .pinned], laidTests := true, laidLooks := .later }
def PointsSnapCardSaid : Prop := Claim7.holds Tryz.pinned (.plain (OpenSpec.ofChange pointsSnapSpec)) pointsSnapCard

/-- THE SECOND FORM's CARD OF 'jitlaw1.SitesChosen'. -/
def sitesChosenUptoCard : Claim7 := { stood := { row := sitesChosenUptoRow, standIns := [], harness := (true, "4c50fa83947229e31a998ca3c275ed0ec231469ec9f028448f43e14b91363349"), looks := true }, kinds := [], alts := [], laidByText := true, laidKinds := [.data, .data, .data, .data, .pinned], laidTests := true, laidLooks := .later }
def SitesChosenUptoCardSaid : Prop := Claim7.holds Tryz.pinned (.plain (OpenSpec.upto sitesChosenSpec)) sitesChosenUptoCard

/-- THE SECOND FORM's CARD OF 'jitlaw1.WaysAreFastest'. -/
def waysAreFastestUptoCard : Claim7 := { stood := { row := waysAreFastestUptoRow, standIns := [], harness := (true, "4c50fa83947229e31a998ca3c275ed0ec231469ec9f028448f43e14b91363349"), looks := true }, kinds := [], alts := [], laidByText := true, laidKinds := [.data, .data, .data, .data, .pinned], laidTests := true, laidLooks := .later }
def WaysAreFastestUptoCardSaid : Prop := Claim7.holds Tryz.pinned (.plain (OpenSpec.upto waysAreFastestSpec)) waysAreFastestUptoCard

/-- THE SECOND FORM's CARD OF 'jitlaw1.NodesReached'. -/
def nodesReachedUptoCard : Claim7 := { stood := { row := nodesReachedUptoRow, standIns := [], harness := (true, "4c50fa83947229e31a998ca3c275ed0ec231469ec9f028448f43e14b91363349"), looks := true }, kinds := [], alts := [], laidByText := true, laidKinds := [.data, .data, .data, .data, .pinned], laidTests := true, laidLooks := .later }
def NodesReachedUptoCardSaid : Prop := Claim7.holds Tryz.pinned (.plain (OpenSpec.upto nodesReachedSpec)) nodesReachedUptoCard

/-- THE SECOND FORM's CARD OF 'jitlaw1.PointsSnap'. -/
def pointsSnapUptoCard : Claim7 := { stood := { row := pointsSnapUptoRow, standIns := [], harness := (true, "4c50fa83947229e31a998ca3c275ed0ec231469ec9f028448f43e14b91363349"), looks := true }, kinds := [], alts := [], laidByText := true, laidKinds := [.data, .data, .data, .data, .pinned], laidTests := true, laidLooks := .later }
def PointsSnapUptoCardSaid : Prop := Claim7.holds Tryz.pinned (.plain (OpenSpec.upto pointsSnapSpec)) pointsSnapUptoCard
end Rows
end Go.Proofs.YtklgknepamebdaaGreatDoor
