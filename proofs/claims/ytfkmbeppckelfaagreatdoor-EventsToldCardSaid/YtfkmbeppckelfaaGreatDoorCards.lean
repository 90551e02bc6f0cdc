/-
  DERIVED. GIVEN WITH THE SEED: THE CARDS: each row of YtfkmbeppckelfaaGreatDoorRows.lean that lists a variable, with what it lists TIED to the program's text (the seventh form; the later family's looks); each row that meets fmt, with fmt's text TOLD by the authors' own Lean function (tested against real Go, not proved from fmt's source: count such statements apart). THE CARD IS WHAT COUNTS. Prove the row's statement (the work); the ties are given (YtfkmbeppckelfaaGreatDoorTie.lean); close each card by the builder's one call (the guide's Derived/Test/ToyasCard.lean, 'card_holds'). Laid BY PROGRAM, IN A SANDBOX (cutbox-door.mjs). By AI agents, Wed Nov 11 2026. No macro, syntax, notation, axiom, sorry.
-/
import Derived.Test.YtfkmbeppckelfaaGreatDoorRows
import GoSem.ClaimSeven
namespace Go.Proofs.YtfkmbeppckelfaaGreatDoor
namespace Rows

/-- THE TIED CARD OF 'jitlaw1.EventsTold'. -/
def eventsToldCard : Claim7 := { stood := { row := eventsToldRow, standIns := [], harness := (true, "5b8a5d4e371dcc709c2e2d5bf7bd3076443f09f7cd6d6a4dbdb66b62c4520543"), looks := false }, kinds := [], alts := [], laidByText := true, laidKinds := [.data, .pinned], laidTests := true, laidLooks := .later }
def EventsToldCardSaid : Prop := Claim7.holds Tryz.pinned (.plain (OpenSpec.ofChange eventsToldSpec)) eventsToldCard

/-- THE TIED CARD OF 'jitkeep1.NobodyIsInTwoCars'. -/
def nobodyIsInTwoCarsCard : Claim7 := { stood := { row := nobodyIsInTwoCarsRow, standIns := [], harness := (true, "5b8a5d4e371dcc709c2e2d5bf7bd3076443f09f7cd6d6a4dbdb66b62c4520543"), looks := false }, kinds := [], alts := [], laidByText := true, laidKinds := [.data, .pinned], laidTests := true, laidLooks := .later }
def NobodyIsInTwoCarsCardSaid : Prop := Claim7.holds Tryz.pinned (.plain (OpenSpec.ofChange nobodyIsInTwoCarsSpec)) nobodyIsInTwoCarsCard

/-- THE TIED CARD OF 'jitkeep1.TakenBackIsNothing'. -/
def takenBackIsNothingCard : Claim7 := { stood := { row := takenBackIsNothingRow, standIns := [], harness := (true, "5b8a5d4e371dcc709c2e2d5bf7bd3076443f09f7cd6d6a4dbdb66b62c4520543"), looks := false }, kinds := [], alts := [], laidByText := true, laidKinds := [.data, .pinned], laidTests := true, laidLooks := .later }
def TakenBackIsNothingCardSaid : Prop := Claim7.holds Tryz.pinned (.plain (OpenSpec.ofChange takenBackIsNothingSpec)) takenBackIsNothingCard

/-- THE TIED CARD OF 'jitkeep1.WrittenIsFollowed'. -/
def writtenIsFollowedCard : Claim7 := { stood := { row := writtenIsFollowedRow, standIns := [], harness := (true, "5b8a5d4e371dcc709c2e2d5bf7bd3076443f09f7cd6d6a4dbdb66b62c4520543"), looks := false }, kinds := [], alts := [], laidByText := true, laidKinds := [.data, .pinned], laidTests := true, laidLooks := .later }
def WrittenIsFollowedCardSaid : Prop := Claim7.holds Tryz.pinned (.plain (OpenSpec.ofChange writtenIsFollowedSpec)) writtenIsFollowedCard

/-- THE TIED CARD OF 'jitkeep1.SourcesAgree'. -/
def sourcesAgreeCard : Claim7 := { stood := { row := sourcesAgreeRow, standIns := [], harness := (true, "5b8a5d4e371dcc709c2e2d5bf7bd3076443f09f7cd6d6a4dbdb66b62c4520543"), looks := false }, kinds := [], alts := [], laidByText := true, laidKinds := [.data, .pinned], laidTests := true, laidLooks := .later }
def SourcesAgreeCardSaid : Prop := Claim7.holds Tryz.pinned (.plain (OpenSpec.ofChange sourcesAgreeSpec)) sourcesAgreeCard

/-- THE SECOND FORM's CARD OF 'jitlaw1.EventsTold'. -/
def eventsToldUptoCard : Claim7 := { stood := { row := eventsToldUptoRow, standIns := [], harness := (true, "5b8a5d4e371dcc709c2e2d5bf7bd3076443f09f7cd6d6a4dbdb66b62c4520543"), looks := false }, kinds := [], alts := [], laidByText := true, laidKinds := [.data, .pinned], laidTests := true, laidLooks := .later }
def EventsToldUptoCardSaid : Prop := Claim7.holds Tryz.pinned (.plain (OpenSpec.upto eventsToldSpec)) eventsToldUptoCard

/-- THE SECOND FORM's CARD OF 'jitkeep1.NobodyIsInTwoCars'. -/
def nobodyIsInTwoCarsUptoCard : Claim7 := { stood := { row := nobodyIsInTwoCarsUptoRow, standIns := [], harness := (true, "5b8a5d4e371dcc709c2e2d5bf7bd3076443f09f7cd6d6a4dbdb66b62c4520543"), looks := false }, kinds := [], alts := [], laidByText := true, laidKinds := [.data, .pinned], laidTests := true, laidLooks := .later }
def NobodyIsInTwoCarsUptoCardSaid : Prop := Claim7.holds Tryz.pinned (.plain (OpenSpec.upto nobodyIsInTwoCarsSpec)) nobodyIsInTwoCarsUptoCard

/-- THE SECOND FORM's CARD OF 'jitkeep1.TakenBackIsNothing'. -/
def takenBackIsNothingUptoCard : Claim7 := { stood := { row := takenBackIsNothingUptoRow, standIns := [], harness := (true, "5b8a5d4e371dcc709c2e2d5bf7bd3076443f09f7cd6d6a4dbdb66b62c4520543"), looks := false }, kinds := [], alts := [], laidByText := true, laidKinds := [.data, .pinned], laidTests := true, laidLooks := .later }
def TakenBackIsNothingUptoCardSaid : Prop := Claim7.holds Tryz.pinned (.plain (OpenSpec.upto takenBackIsNothingSpec)) takenBackIsNothingUptoCard

/-- THE SECOND FORM's CARD OF 'jitkeep1.WrittenIsFollowed'. -/
def writtenIsFollowedUptoCard : Claim7 := { stood := { row := writtenIsFollowedUptoRow, standIns := [], harness := (true, "5b8a5d4e371dcc709c2e2d5bf7bd3076443f09f7cd6d6a4dbdb66b62c4520543"), looks := false }, kinds := [], alts := [], laidByText := true, laidKinds := [.data, .pinned], laidTests := true, laidLooks := .later }
def WrittenIsFollowedUptoCardSaid : Prop := Claim7.holds Tryz.pinned (.plain (OpenSpec.upto writtenIsFollowedSpec)) writtenIsFollowedUptoCard

/-- THE SECOND FORM's CARD OF 'jitkeep1.SourcesAgree'. -/
def sourcesAgreeUptoCard : Claim7 := { stood := { row := sourcesAgreeUptoRow, standIns := [], harness := (true, "5b8a5d4e371dcc709c2e2d5bf7bd3076443f09f7cd6d6a4dbdb66b62c4520543"), looks := false }, kinds := [], alts := [], laidByText := true, laidKinds := [.data, .pinned], laidTests := true, laidLooks := .later }
def SourcesAgreeUptoCardSaid : Prop := Claim7.holds Tryz.pinned (.plain (OpenSpec.upto sourcesAgreeSpec)) sourcesAgreeUptoCard
end Rows
end Go.Proofs.YtfkmbeppckelfaaGreatDoor
