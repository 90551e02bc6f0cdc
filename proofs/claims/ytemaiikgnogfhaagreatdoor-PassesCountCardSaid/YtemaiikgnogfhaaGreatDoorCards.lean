/-
  DERIVED. GIVEN WITH THE SEED: THE CARDS: each row of YtemaiikgnogfhaaGreatDoorRows.lean that lists a variable, with what it lists TIED to the program's text (the seventh form; the later family's looks); each row that meets fmt, with fmt's text TOLD by the authors' own Lean function (tested against real Go, not proved from fmt's source: count such statements apart). THE CARD IS WHAT COUNTS. Prove the row's statement (the work); the ties are given (YtemaiikgnogfhaaGreatDoorTie.lean); close each card by the builder's one call (the guide's Derived/Test/ToyasCard.lean, 'card_holds'). Laid BY PROGRAM, IN A SANDBOX (cutbox-door.mjs). By AI agents, Wed Nov 11 2026. No macro, syntax, notation, axiom, sorry.
-/
import Derived.Test.YtemaiikgnogfhaaGreatDoorRows
import GoSem.ClaimSeven
namespace Go.Proofs.YtemaiikgnogfhaaGreatDoor
namespace Rows

/-- THE TIED CARD OF 'jitlaw1.PassesCount'. -/
def passesCountCard : Claim7 := { stood := { row := passesCountRow, standIns := [], harness := (true, "3c7e4aa0e5ab1a733c03a766f626d39a82b1a02f7c6f97a32384fd20e87125a4"), looks := false }, kinds := [], alts := [], laidByText := true, laidKinds := [.data, .data, .data, .data, .pinned], laidTests := true, laidLooks := .later }
def PassesCountCardSaid : Prop := Claim7.holds Tryz.pinned (.plain (OpenSpec.ofChange passesCountSpec)) passesCountCard

/-- THE SECOND FORM's CARD OF 'jitlaw1.PassesCount'. -/
def passesCountUptoCard : Claim7 := { stood := { row := passesCountUptoRow, standIns := [], harness := (true, "3c7e4aa0e5ab1a733c03a766f626d39a82b1a02f7c6f97a32384fd20e87125a4"), looks := false }, kinds := [], alts := [], laidByText := true, laidKinds := [.data, .data, .data, .data, .pinned], laidTests := true, laidLooks := .later }
def PassesCountUptoCardSaid : Prop := Claim7.holds Tryz.pinned (.plain (OpenSpec.upto passesCountSpec)) passesCountUptoCard
end Rows
end Go.Proofs.YtemaiikgnogfhaaGreatDoor
