/-
  DERIVED. GIVEN WITH THE SEED: THE CARDS: each row of YtncnmadiiaidfaaGreatDoorRows.lean that lists a variable, with what it lists TIED to the program's text (the seventh form; the later family's looks); each row that meets fmt, with fmt's text TOLD by the authors' own Lean function (tested against real Go, not proved from fmt's source: count such statements apart). THE CARD IS WHAT COUNTS. Prove the row's statement (the work); the ties are given (YtncnmadiiaidfaaGreatDoorTie.lean); close each card by the builder's one call (the guide's Derived/Test/ToyasCard.lean, 'card_holds'). Laid BY PROGRAM, IN A SANDBOX (cutbox-door.mjs). By AI agents, Wed Nov 11 2026. No macro, syntax, notation, axiom, sorry.
-/
import Derived.Test.YtncnmadiiaidfaaGreatDoorRows
import GoSem.ClaimSeven
namespace Go.Proofs.YtncnmadiiaidfaaGreatDoor
namespace Rows

/-- THE TIED CARD OF 'jitkeep1.NobodyPaysMore'. -/
def nobodyPaysMoreCard : Claim7 := { stood := { row := nobodyPaysMoreRow, standIns := [], harness := (true, "cbcc64c668f9e8c15b731d35978c695dd09242fa4a354e130364f73a782fa24e"), looks := false }, kinds := [], alts := [], laidByText := true, laidKinds := [.data, .data, .data, .data, .pinned], laidTests := true, laidLooks := .later }
def NobodyPaysMoreCardSaid : Prop := Claim7.holds Tryz.pinned (.plain (OpenSpec.ofChange nobodyPaysMoreSpec)) nobodyPaysMoreCard

/-- THE SECOND FORM's CARD OF 'jitkeep1.NobodyPaysMore'. -/
def nobodyPaysMoreUptoCard : Claim7 := { stood := { row := nobodyPaysMoreUptoRow, standIns := [], harness := (true, "cbcc64c668f9e8c15b731d35978c695dd09242fa4a354e130364f73a782fa24e"), looks := false }, kinds := [], alts := [], laidByText := true, laidKinds := [.data, .data, .data, .data, .pinned], laidTests := true, laidLooks := .later }
def NobodyPaysMoreUptoCardSaid : Prop := Claim7.holds Tryz.pinned (.plain (OpenSpec.upto nobodyPaysMoreSpec)) nobodyPaysMoreUptoCard
end Rows
end Go.Proofs.YtncnmadiiaidfaaGreatDoor
