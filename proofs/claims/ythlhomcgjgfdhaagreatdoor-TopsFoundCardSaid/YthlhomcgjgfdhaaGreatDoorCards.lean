/-
  DERIVED. GIVEN WITH THE SEED: THE CARDS: each row of YthlhomcgjgfdhaaGreatDoorRows.lean that lists a variable, with what it lists TIED to the program's text (the seventh form; the later family's looks); each row that meets fmt, with fmt's text TOLD by the authors' own Lean function (tested against real Go, not proved from fmt's source: count such statements apart). THE CARD IS WHAT COUNTS. Prove the row's statement (the work); the ties are given (YthlhomcgjgfdhaaGreatDoorTie.lean); close each card by the builder's one call (the guide's Derived/Test/ToyasCard.lean, 'card_holds'). Laid BY PROGRAM, IN A SANDBOX (cutbox-door.mjs). By AI agents, Wed Nov 11 2026. No macro, syntax, notation, axiom, sorry.
-/
import Derived.Test.YthlhomcgjgfdhaaGreatDoorRows
import GoSem.ClaimSeven
namespace Go.Proofs.YthlhomcgjgfdhaaGreatDoor
namespace Rows

/-- THE TIED CARD OF 'jitlaw1.TopsFound'. -/
def topsFoundCard : Claim7 := { stood := { row := topsFoundRow, standIns := [], harness := (true, "dd1a17c9364a00a261a1df10f854671abe943b4b99fa7410a735c3ac538c0c98"), looks := true }, kinds := [], alts := [], laidByText := true, laidKinds := [.data, .data, .data, .data, .sentinel, .sentinel, .pinned], laidTests := true, laidLooks := .later }
def TopsFoundCardSaid : Prop := Claim7.holds Tryz.pinned (.plain (OpenSpec.ofChange topsFoundSpec)) topsFoundCard

/-- THE TIED CARD OF 'jitlaw1.TripTexts'. -/
def tripTextsCard : Claim7 := { stood := { row := tripTextsRow, standIns := [], harness := (true, "dd1a17c9364a00a261a1df10f854671abe943b4b99fa7410a735c3ac538c0c98"), looks := true }, kinds := [], alts := [], laidByText := true, laidKinds := [.data, .data, .data, .data, .sentinel, .sentinel, .pinned], laidTests := true, laidLooks := .later }
def TripTextsCardSaid : Prop := Claim7.holds Tryz.pinned (.plain (OpenSpec.ofChange tripTextsSpec)) tripTextsCard

/-- THE TIED CARD OF 'jitkeep1.TripsComeBack'. -/
def tripsComeBackCard : Claim7 := { stood := { row := tripsComeBackRow, standIns := [], harness := (true, "dd1a17c9364a00a261a1df10f854671abe943b4b99fa7410a735c3ac538c0c98"), looks := true }, kinds := [], alts := [], laidByText := true, laidKinds := [.data, .data, .data, .data, .sentinel, .sentinel, .pinned], laidTests := true, laidLooks := .later }
def TripsComeBackCardSaid : Prop := Claim7.holds Tryz.pinned (.plain (OpenSpec.ofChange tripsComeBackSpec)) tripsComeBackCard

/-- THE SECOND FORM's CARD OF 'jitlaw1.TopsFound'. -/
def topsFoundUptoCard : Claim7 := { stood := { row := topsFoundUptoRow, standIns := [], harness := (true, "dd1a17c9364a00a261a1df10f854671abe943b4b99fa7410a735c3ac538c0c98"), looks := true }, kinds := [], alts := [], laidByText := true, laidKinds := [.data, .data, .data, .data, .sentinel, .sentinel, .pinned], laidTests := true, laidLooks := .later }
def TopsFoundUptoCardSaid : Prop := Claim7.holds Tryz.pinned (.plain (OpenSpec.upto topsFoundSpec)) topsFoundUptoCard

/-- THE SECOND FORM's CARD OF 'jitlaw1.TripTexts'. -/
def tripTextsUptoCard : Claim7 := { stood := { row := tripTextsUptoRow, standIns := [], harness := (true, "dd1a17c9364a00a261a1df10f854671abe943b4b99fa7410a735c3ac538c0c98"), looks := true }, kinds := [], alts := [], laidByText := true, laidKinds := [.data, .data, .data, .data, .sentinel, .sentinel, .pinned], laidTests := true, laidLooks := .later }
def TripTextsUptoCardSaid : Prop := Claim7.holds Tryz.pinned (.plain (OpenSpec.upto tripTextsSpec)) tripTextsUptoCard

/-- THE SECOND FORM's CARD OF 'jitkeep1.TripsComeBack'. -/
def tripsComeBackUptoCard : Claim7 := { stood := { row := tripsComeBackUptoRow, standIns := [], harness := (true, "dd1a17c9364a00a261a1df10f854671abe943b4b99fa7410a735c3ac538c0c98"), looks := true }, kinds := [], alts := [], laidByText := true, laidKinds := [.data, .data, .data, .data, .sentinel, .sentinel, .pinned], laidTests := true, laidLooks := .later }
def TripsComeBackUptoCardSaid : Prop := Claim7.holds Tryz.pinned (.plain (OpenSpec.upto tripsComeBackSpec)) tripsComeBackUptoCard
end Rows
end Go.Proofs.YthlhomcgjgfdhaaGreatDoor
