/-
  DERIVED. GIVEN WITH THE SEED: THE CARDS: each row of YtmpnilliichpfaaGreatDoorRows.lean that lists a variable, with what it lists TIED to the program's text (the seventh form; the later family's looks); each row that meets fmt, with fmt's text TOLD by the authors' own Lean function (tested against real Go, not proved from fmt's source: count such statements apart). THE CARD IS WHAT COUNTS. Prove the row's statement (the work); the ties are given (YtmpnilliichpfaaGreatDoorTie.lean); close each card by the builder's one call (the guide's Derived/Test/ToyasCard.lean, 'card_holds'). Laid BY PROGRAM, IN A SANDBOX (cutbox-door.mjs). By AI agents, Wed Nov 11 2026. No macro, syntax, notation, axiom, sorry.
-/
import Derived.Test.YtmpnilliichpfaaGreatDoorRows
import GoSem.ClaimSeven
namespace Go.Proofs.YtmpnilliichpfaaGreatDoor
namespace Rows

/-- THE TIED CARD OF 'jitlaw1.SitesChosen'. -/
def sitesChosenCard : Claim7 := { stood := { row := sitesChosenRow, standIns := [], harness := (true, "d23f5c462a428ebded7811b0e883df7a038c4d9a888bebcba81a2bb5d6d3f1bc"), looks := true }, kinds := [], alts := [], laidByText := true, laidKinds := [.data, .data, .data, .data, .pinned], laidTests := true, laidLooks := .later }
def SitesChosenCardSaid : Prop := Claim7.holds Tryz.pinned (.plain (OpenSpec.ofChange sitesChosenSpec)) sitesChosenCard

/-- THE TIED CARD OF 'jitlaw1.PointsSnap'. -/
def pointsSnapCard : Claim7 := { stood := { row := pointsSnapRow, standIns := [], harness := (true, "d23f5c462a428ebded7811b0e883df7a038c4d9a888bebcba81a2bb5d6d3f1bc"), looks := true }, kinds := [], alts := [], laidByText := true, laidKinds := [.data, .data, .data, .data, .pinned], laidTests := true, laidLooks := .later }
def PointsSnapCardSaid : Prop := Claim7.holds Tryz.pinned (.plain (OpenSpec.ofChange pointsSnapSpec)) pointsSnapCard

/-- THE TIED CARD OF 'jitkeep1.LaterIsNotEarlier'. -/
def laterIsNotEarlierCard : Claim7 := { stood := { row := laterIsNotEarlierRow, standIns := [], harness := (true, "d23f5c462a428ebded7811b0e883df7a038c4d9a888bebcba81a2bb5d6d3f1bc"), looks := true }, kinds := [], alts := [], laidByText := true, laidKinds := [.data, .data, .data, .data, .pinned], laidTests := true, laidLooks := .later }
def LaterIsNotEarlierCardSaid : Prop := Claim7.holds Tryz.pinned (.plain (OpenSpec.ofChange laterIsNotEarlierSpec)) laterIsNotEarlierCard

/-- THE TIED CARD OF 'jitkeep1.ReachIsFastest'. -/
def reachIsFastestCard : Claim7 := { stood := { row := reachIsFastestRow, standIns := [], harness := (true, "d23f5c462a428ebded7811b0e883df7a038c4d9a888bebcba81a2bb5d6d3f1bc"), looks := true }, kinds := [], alts := [], laidByText := true, laidKinds := [.data, .data, .data, .data, .pinned], laidTests := true, laidLooks := .later }
def ReachIsFastestCardSaid : Prop := Claim7.holds Tryz.pinned (.plain (OpenSpec.ofChange reachIsFastestSpec)) reachIsFastestCard

/-- THE TIED CARD OF 'jitkeep1.WaysCanBeWalked'. -/
def waysCanBeWalkedCard : Claim7 := { stood := { row := waysCanBeWalkedRow, standIns := [], harness := (true, "d23f5c462a428ebded7811b0e883df7a038c4d9a888bebcba81a2bb5d6d3f1bc"), looks := true }, kinds := [], alts := [], laidByText := true, laidKinds := [.data, .data, .data, .data, .pinned], laidTests := true, laidLooks := .later }
def WaysCanBeWalkedCardSaid : Prop := Claim7.holds Tryz.pinned (.plain (OpenSpec.ofChange waysCanBeWalkedSpec)) waysCanBeWalkedCard

/-- THE TIED CARD OF 'jitkeep1.MoreSitesCoverMore'. -/
def moreSitesCoverMoreCard : Claim7 := { stood := { row := moreSitesCoverMoreRow, standIns := [], harness := (true, "d23f5c462a428ebded7811b0e883df7a038c4d9a888bebcba81a2bb5d6d3f1bc"), looks := true }, kinds := [], alts := [], laidByText := true, laidKinds := [.data, .data, .data, .data, .pinned], laidTests := true, laidLooks := .later }
def MoreSitesCoverMoreCardSaid : Prop := Claim7.holds Tryz.pinned (.plain (OpenSpec.ofChange moreSitesCoverMoreSpec)) moreSitesCoverMoreCard

/-- THE TIED CARD OF 'jitkeep1.RoadsStay'. -/
def roadsStayCard : Claim7 := { stood := { row := roadsStayRow, standIns := [], harness := (true, "d23f5c462a428ebded7811b0e883df7a038c4d9a888bebcba81a2bb5d6d3f1bc"), looks := true }, kinds := [], alts := [], laidByText := true, laidKinds := [.data, .data, .data, .data, .pinned], laidTests := true, laidLooks := .later }
def RoadsStayCardSaid : Prop := Claim7.holds Tryz.pinned (.plain (OpenSpec.ofChange roadsStaySpec)) roadsStayCard

/-- THE TIED CARD OF 'jitkeep1.NeededIsNeeded'. -/
def neededIsNeededCard : Claim7 := { stood := { row := neededIsNeededRow, standIns := [], harness := (true, "d23f5c462a428ebded7811b0e883df7a038c4d9a888bebcba81a2bb5d6d3f1bc"), looks := true }, kinds := [], alts := [], laidByText := true, laidKinds := [.data, .data, .data, .data, .pinned], laidTests := true, laidLooks := .later }
def NeededIsNeededCardSaid : Prop := Claim7.holds Tryz.pinned (.plain (OpenSpec.ofChange neededIsNeededSpec)) neededIsNeededCard

/-- THE SECOND FORM's CARD OF 'jitlaw1.SitesChosen'. -/
def sitesChosenUptoCard : Claim7 := { stood := { row := sitesChosenUptoRow, standIns := [], harness := (true, "d23f5c462a428ebded7811b0e883df7a038c4d9a888bebcba81a2bb5d6d3f1bc"), looks := true }, kinds := [], alts := [], laidByText := true, laidKinds := [.data, .data, .data, .data, .pinned], laidTests := true, laidLooks := .later }
def SitesChosenUptoCardSaid : Prop := Claim7.holds Tryz.pinned (.plain (OpenSpec.upto sitesChosenSpec)) sitesChosenUptoCard

/-- THE SECOND FORM's CARD OF 'jitlaw1.PointsSnap'. -/
def pointsSnapUptoCard : Claim7 := { stood := { row := pointsSnapUptoRow, standIns := [], harness := (true, "d23f5c462a428ebded7811b0e883df7a038c4d9a888bebcba81a2bb5d6d3f1bc"), looks := true }, kinds := [], alts := [], laidByText := true, laidKinds := [.data, .data, .data, .data, .pinned], laidTests := true, laidLooks := .later }
def PointsSnapUptoCardSaid : Prop := Claim7.holds Tryz.pinned (.plain (OpenSpec.upto pointsSnapSpec)) pointsSnapUptoCard

/-- THE SECOND FORM's CARD OF 'jitkeep1.LaterIsNotEarlier'. -/
def laterIsNotEarlierUptoCard : Claim7 := { stood := { row := laterIsNotEarlierUptoRow, standIns := [], harness := (true, "d23f5c462a428ebded7811b0e883df7a038c4d9a888bebcba81a2bb5d6d3f1bc"), looks := true }, kinds := [], alts := [], laidByText := true, laidKinds := [.data, .data, .data, .data, .pinned], laidTests := true, laidLooks := .later }
def LaterIsNotEarlierUptoCardSaid : Prop := Claim7.holds Tryz.pinned (.plain (OpenSpec.upto laterIsNotEarlierSpec)) laterIsNotEarlierUptoCard

/-- THE SECOND FORM's CARD OF 'jitkeep1.ReachIsFastest'. -/
def reachIsFastestUptoCard : Claim7 := { stood := { row := reachIsFastestUptoRow, standIns := [], harness := (true, "d23f5c462a428ebded7811b0e883df7a038c4d9a888bebcba81a2bb5d6d3f1bc"), looks := true }, kinds := [], alts := [], laidByText := true, laidKinds := [.data, .data, .data, .data, .pinned], laidTests := true, laidLooks := .later }
def ReachIsFastestUptoCardSaid : Prop := Claim7.holds Tryz.pinned (.plain (OpenSpec.upto reachIsFastestSpec)) reachIsFastestUptoCard

/-- THE SECOND FORM's CARD OF 'jitkeep1.WaysCanBeWalked'. -/
def waysCanBeWalkedUptoCard : Claim7 := { stood := { row := waysCanBeWalkedUptoRow, standIns := [], harness := (true, "d23f5c462a428ebded7811b0e883df7a038c4d9a888bebcba81a2bb5d6d3f1bc"), looks := true }, kinds := [], alts := [], laidByText := true, laidKinds := [.data, .data, .data, .data, .pinned], laidTests := true, laidLooks := .later }
def WaysCanBeWalkedUptoCardSaid : Prop := Claim7.holds Tryz.pinned (.plain (OpenSpec.upto waysCanBeWalkedSpec)) waysCanBeWalkedUptoCard

/-- THE SECOND FORM's CARD OF 'jitkeep1.MoreSitesCoverMore'. -/
def moreSitesCoverMoreUptoCard : Claim7 := { stood := { row := moreSitesCoverMoreUptoRow, standIns := [], harness := (true, "d23f5c462a428ebded7811b0e883df7a038c4d9a888bebcba81a2bb5d6d3f1bc"), looks := true }, kinds := [], alts := [], laidByText := true, laidKinds := [.data, .data, .data, .data, .pinned], laidTests := true, laidLooks := .later }
def MoreSitesCoverMoreUptoCardSaid : Prop := Claim7.holds Tryz.pinned (.plain (OpenSpec.upto moreSitesCoverMoreSpec)) moreSitesCoverMoreUptoCard

/-- THE SECOND FORM's CARD OF 'jitkeep1.RoadsStay'. -/
def roadsStayUptoCard : Claim7 := { stood := { row := roadsStayUptoRow, standIns := [], harness := (true, "d23f5c462a428ebded7811b0e883df7a038c4d9a888bebcba81a2bb5d6d3f1bc"), looks := true }, kinds := [], alts := [], laidByText := true, laidKinds := [.data, .data, .data, .data, .pinned], laidTests := true, laidLooks := .later }
def RoadsStayUptoCardSaid : Prop := Claim7.holds Tryz.pinned (.plain (OpenSpec.upto roadsStaySpec)) roadsStayUptoCard

/-- THE SECOND FORM's CARD OF 'jitkeep1.NeededIsNeeded'. -/
def neededIsNeededUptoCard : Claim7 := { stood := { row := neededIsNeededUptoRow, standIns := [], harness := (true, "d23f5c462a428ebded7811b0e883df7a038c4d9a888bebcba81a2bb5d6d3f1bc"), looks := true }, kinds := [], alts := [], laidByText := true, laidKinds := [.data, .data, .data, .data, .pinned], laidTests := true, laidLooks := .later }
def NeededIsNeededUptoCardSaid : Prop := Claim7.holds Tryz.pinned (.plain (OpenSpec.upto neededIsNeededSpec)) neededIsNeededUptoCard
end Rows
end Go.Proofs.YtmpnilliichpfaaGreatDoor
