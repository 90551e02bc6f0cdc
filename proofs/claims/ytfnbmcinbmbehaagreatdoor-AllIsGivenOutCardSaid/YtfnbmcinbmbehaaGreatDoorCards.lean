/-
  DERIVED. GIVEN WITH THE SEED: THE CARDS: each row of YtfnbmcinbmbehaaGreatDoorRows.lean that lists a variable, with what it lists TIED to the program's text (the seventh form; the later family's looks); each row that meets fmt, with fmt's text TOLD by the authors' own Lean function (tested against real Go, not proved from fmt's source: count such statements apart). THE CARD IS WHAT COUNTS. Prove the row's statement (the work); the ties are given (YtfnbmcinbmbehaaGreatDoorTie.lean); close each card by the builder's one call (the guide's Derived/Test/ToyasCard.lean, 'card_holds'). Laid BY PROGRAM, IN A SANDBOX (cutbox-door.mjs). By AI agents, Wed Nov 11 2026. No macro, syntax, notation, axiom, sorry.
-/
import Derived.Test.YtfnbmcinbmbehaaGreatDoorRows
import GoSem.ClaimSeven
namespace Go.Proofs.YtfnbmcinbmbehaaGreatDoor
namespace Rows

/-- THE TIED CARD OF 'jitkeep1.AllIsGivenOut'. -/
def allIsGivenOutCard : Claim7 := { stood := { row := allIsGivenOutRow, standIns := [], harness := (true, "2b6f102d5f3eba15a262491cda6e5366a53c7224ffc83663c9692c3c90c4aa4b"), looks := false }, kinds := [], alts := [], laidByText := true, laidKinds := [.data, .pinned], laidTests := true, laidLooks := .later }
def AllIsGivenOutCardSaid : Prop := Claim7.holds Tryz.pinned (.plain (OpenSpec.ofChange allIsGivenOutSpec)) allIsGivenOutCard

/-- THE SECOND FORM's CARD OF 'jitkeep1.AllIsGivenOut'. -/
def allIsGivenOutUptoCard : Claim7 := { stood := { row := allIsGivenOutUptoRow, standIns := [], harness := (true, "2b6f102d5f3eba15a262491cda6e5366a53c7224ffc83663c9692c3c90c4aa4b"), looks := false }, kinds := [], alts := [], laidByText := true, laidKinds := [.data, .pinned], laidTests := true, laidLooks := .later }
def AllIsGivenOutUptoCardSaid : Prop := Claim7.holds Tryz.pinned (.plain (OpenSpec.upto allIsGivenOutSpec)) allIsGivenOutUptoCard
end Rows
end Go.Proofs.YtfnbmcinbmbehaaGreatDoor
