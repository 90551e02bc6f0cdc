/-
  NARROWER THAN 'FOR EVERY INPUT', by the rows' own cells (each row's printed sentence says how): EventsTold: laid · NobodyIsInTwoCars: laid · TakenBackIsNothing: laid · WrittenIsFollowed: laid · SourcesAgree: laid.
  DERIVED. THE GIVEN ROWS OF THIS SEAT. 5 by the template 'for every input the law returns true; each argument reads behind the call as it read before'; 0 by the template 'total and deterministic' (their statements: YtfkmbeppckelfaaGreatDoorTotals.lean).
  GIVEN WITH THE SEED: the statements are not yours to turn. If you find one false, say at which input.
  Laid BY PROGRAM, IN A SANDBOX (cutbox-rows.mjs): the forced cells as the released guide's own fill.sh prints them over the translation 4541ba326861d4ad… (all of the seat's roots in one cut). By AI agents, Wed Nov 11 2026. No macro, syntax, notation, axiom, sorry.
-/
import Derived.Test.YtfkmbeppckelfaaGreatDoorChecked
import GoSem.PinnedTables
import GoSem.Claim
import GoSem.ClaimJoined
import GoSem.ClaimMapViews
import Derived.JoinedTies
import Derived.KernelRfl
namespace Go.Proofs.YtfkmbeppckelfaaGreatDoor
/- THE CELL 'sum', in the pinned program and in every row, IS THE sha256 OF THE DUMP (.gsa) THAT YtfkmbeppckelfaaGreatDoorProg.lean LOADS. Nothing in Lean hashes anything: it is a label: what it is worth is what the hold of that sum in a sandbox is worth. -/
noncomputable def Tryz.pinned : Pinned := { name := "ytfkmbeppckelfaagreatdoor", sum := "4541ba326861d4adf40d7444c81f1d40ffd84c9fbb48b82d81ca2d040a93bfa2", checked := Tryz.checked }
namespace Rows
def none {H : Type} : Left H := { results := [], args := [] }

/- WHAT THE LISTED PACKAGE-LEVEL VARIABLES READ AS WHEN THE CALL BEGINS. Each datum BY PROGRAM (the guide's laid-datum.mjs) off the statement by which the dump's own 'gosem.cut.vars' lays the variable. In a bare row this is a premise. The card (YtfkmbeppckelfaaGreatDoorCards.lean) ties it to the program's text. -/
def laid_unicode_utf8_acceptRanges {H : Type} : DataW H := .agg [.agg [.lit (.int .u8 128), .lit (.int .u8 191)], .agg [.lit (.int .u8 160), .lit (.int .u8 191)], .agg [.lit (.int .u8 128), .lit (.int .u8 159)], .agg [.lit (.int .u8 144), .lit (.int .u8 191)], .agg [.lit (.int .u8 128), .lit (.int .u8 143)], .agg [.lit (.int .u8 0), .lit (.int .u8 0)], .agg [.lit (.int .u8 0), .lit (.int .u8 0)], .agg [.lit (.int .u8 0), .lit (.int .u8 0)], .agg [.lit (.int .u8 0), .lit (.int .u8 0)], .agg [.lit (.int .u8 0), .lit (.int .u8 0)], .agg [.lit (.int .u8 0), .lit (.int .u8 0)], .agg [.lit (.int .u8 0), .lit (.int .u8 0)], .agg [.lit (.int .u8 0), .lit (.int .u8 0)], .agg [.lit (.int .u8 0), .lit (.int .u8 0)], .agg [.lit (.int .u8 0), .lit (.int .u8 0)], .agg [.lit (.int .u8 0), .lit (.int .u8 0)]]
/-- One of Go's own tables, pinned by name: the form's constant. -/
def laid_unicode_utf8_first : DataW Unit := Go.Pinned.utf8First

/-- 'jitlaw1.EventsTold': WHATEVER THE INPUT: true; the input reads as it did. -/
def eventsToldSpec : ChangeSpec := { name := "eventsTold", fn := fun _ => fun
  | [d] => { results := [.lit (.bool true)], args := [d] }
  | _ => none }
def eventsToldRow : OpenClaim := { program := "ytfkmbeppckelfaagreatdoor", sum := "4541ba326861d4adf40d7444c81f1d40ffd84c9fbb48b82d81ca2d040a93bfa2", func := "jitney/jitlaw1.EventsTold", spec := "eventsTold", inPlace := ["internal/bytealg.IndexByteString", "internal/bytealg.IndexString", "internal/bytealg.abigen_runtime_cmpstring"], unfollowed := true, recurses := true, named := ["unicode/utf8.first", "unicode/utf8.acceptRanges", "internal/bytealg.MaxLen"], plainKeys := false, apart := false, laid := [("unicode/utf8.acceptRanges", laid_unicode_utf8_acceptRanges), ("unicode/utf8.first", laid_unicode_utf8_first)] }
def EventsToldSaid : Prop := eventsToldRow.holds Tryz.pinned (OpenSpec.ofChange eventsToldSpec)

/-- ITS FALSE NEIGHBOUR: 'it returns false'. Refute it at one input. -/
def eventsToldWrong : ChangeSpec := { name := "eventsTold", fn := fun _ => fun
  | [d] => { results := [.lit (.bool false)], args := [d] }
  | _ => none }
def EventsToldWrongFalsely : Prop := eventsToldRow.holds Tryz.pinned (OpenSpec.ofChange eventsToldWrong)

/-- 'jitkeep1.NobodyIsInTwoCars': WHATEVER THE INPUT: true; the input reads as it did. -/
def nobodyIsInTwoCarsSpec : ChangeSpec := { name := "nobodyIsInTwoCars", fn := fun _ => fun
  | [d] => { results := [.lit (.bool true)], args := [d] }
  | _ => none }
def nobodyIsInTwoCarsRow : OpenClaim := { program := "ytfkmbeppckelfaagreatdoor", sum := "4541ba326861d4adf40d7444c81f1d40ffd84c9fbb48b82d81ca2d040a93bfa2", func := "jitney/jitkeep1.NobodyIsInTwoCars", spec := "nobodyIsInTwoCars", inPlace := ["internal/bytealg.IndexByteString", "internal/bytealg.IndexString", "internal/bytealg.abigen_runtime_cmpstring"], unfollowed := true, recurses := true, named := ["unicode/utf8.first", "unicode/utf8.acceptRanges", "math/bits.divideError", "math/bits.overflowError", "internal/bytealg.MaxLen"], plainKeys := false, apart := false, laid := [("unicode/utf8.acceptRanges", laid_unicode_utf8_acceptRanges), ("unicode/utf8.first", laid_unicode_utf8_first)] }
def NobodyIsInTwoCarsSaid : Prop := nobodyIsInTwoCarsRow.holds Tryz.pinned (OpenSpec.ofChange nobodyIsInTwoCarsSpec)

/-- ITS FALSE NEIGHBOUR: 'it returns false'. Refute it at one input. -/
def nobodyIsInTwoCarsWrong : ChangeSpec := { name := "nobodyIsInTwoCars", fn := fun _ => fun
  | [d] => { results := [.lit (.bool false)], args := [d] }
  | _ => none }
def NobodyIsInTwoCarsWrongFalsely : Prop := nobodyIsInTwoCarsRow.holds Tryz.pinned (OpenSpec.ofChange nobodyIsInTwoCarsWrong)

/-- 'jitkeep1.TakenBackIsNothing': WHATEVER THE INPUT: true; the input reads as it did. -/
def takenBackIsNothingSpec : ChangeSpec := { name := "takenBackIsNothing", fn := fun _ => fun
  | [d] => { results := [.lit (.bool true)], args := [d] }
  | _ => none }
def takenBackIsNothingRow : OpenClaim := { program := "ytfkmbeppckelfaagreatdoor", sum := "4541ba326861d4adf40d7444c81f1d40ffd84c9fbb48b82d81ca2d040a93bfa2", func := "jitney/jitkeep1.TakenBackIsNothing", spec := "takenBackIsNothing", inPlace := ["internal/bytealg.IndexByteString", "internal/bytealg.IndexString", "internal/bytealg.abigen_runtime_cmpstring"], unfollowed := true, recurses := true, named := ["unicode/utf8.first", "unicode/utf8.acceptRanges", "math/bits.divideError", "math/bits.overflowError", "internal/bytealg.MaxLen"], plainKeys := false, apart := false, laid := [("unicode/utf8.acceptRanges", laid_unicode_utf8_acceptRanges), ("unicode/utf8.first", laid_unicode_utf8_first)] }
def TakenBackIsNothingSaid : Prop := takenBackIsNothingRow.holds Tryz.pinned (OpenSpec.ofChange takenBackIsNothingSpec)

/-- ITS FALSE NEIGHBOUR: 'it returns false'. Refute it at one input. -/
def takenBackIsNothingWrong : ChangeSpec := { name := "takenBackIsNothing", fn := fun _ => fun
  | [d] => { results := [.lit (.bool false)], args := [d] }
  | _ => none }
def TakenBackIsNothingWrongFalsely : Prop := takenBackIsNothingRow.holds Tryz.pinned (OpenSpec.ofChange takenBackIsNothingWrong)

/-- 'jitkeep1.WrittenIsFollowed': WHATEVER THE INPUT: true; the input reads as it did. -/
def writtenIsFollowedSpec : ChangeSpec := { name := "writtenIsFollowed", fn := fun _ => fun
  | [d] => { results := [.lit (.bool true)], args := [d] }
  | _ => none }
def writtenIsFollowedRow : OpenClaim := { program := "ytfkmbeppckelfaagreatdoor", sum := "4541ba326861d4adf40d7444c81f1d40ffd84c9fbb48b82d81ca2d040a93bfa2", func := "jitney/jitkeep1.WrittenIsFollowed", spec := "writtenIsFollowed", inPlace := ["internal/bytealg.IndexByteString", "internal/bytealg.IndexString", "internal/bytealg.abigen_runtime_cmpstring"], unfollowed := true, recurses := true, named := ["unicode/utf8.first", "unicode/utf8.acceptRanges", "math/bits.divideError", "math/bits.overflowError", "internal/bytealg.MaxLen"], plainKeys := false, apart := false, laid := [("unicode/utf8.acceptRanges", laid_unicode_utf8_acceptRanges), ("unicode/utf8.first", laid_unicode_utf8_first)] }
def WrittenIsFollowedSaid : Prop := writtenIsFollowedRow.holds Tryz.pinned (OpenSpec.ofChange writtenIsFollowedSpec)

/-- ITS FALSE NEIGHBOUR: 'it returns false'. Refute it at one input. -/
def writtenIsFollowedWrong : ChangeSpec := { name := "writtenIsFollowed", fn := fun _ => fun
  | [d] => { results := [.lit (.bool false)], args := [d] }
  | _ => none }
def WrittenIsFollowedWrongFalsely : Prop := writtenIsFollowedRow.holds Tryz.pinned (OpenSpec.ofChange writtenIsFollowedWrong)

/-- 'jitkeep1.SourcesAgree': WHATEVER THE INPUT: true; the input reads as it did. -/
def sourcesAgreeSpec : ChangeSpec := { name := "sourcesAgree", fn := fun _ => fun
  | [d] => { results := [.lit (.bool true)], args := [d] }
  | _ => none }
def sourcesAgreeRow : OpenClaim := { program := "ytfkmbeppckelfaagreatdoor", sum := "4541ba326861d4adf40d7444c81f1d40ffd84c9fbb48b82d81ca2d040a93bfa2", func := "jitney/jitkeep1.SourcesAgree", spec := "sourcesAgree", inPlace := ["internal/bytealg.IndexByteString", "internal/bytealg.IndexString", "internal/bytealg.abigen_runtime_cmpstring"], unfollowed := true, recurses := true, named := ["unicode/utf8.first", "unicode/utf8.acceptRanges", "math/bits.divideError", "math/bits.overflowError", "internal/bytealg.MaxLen"], plainKeys := false, apart := false, laid := [("unicode/utf8.acceptRanges", laid_unicode_utf8_acceptRanges), ("unicode/utf8.first", laid_unicode_utf8_first)] }
def SourcesAgreeSaid : Prop := sourcesAgreeRow.holds Tryz.pinned (OpenSpec.ofChange sourcesAgreeSpec)

/-- ITS FALSE NEIGHBOUR: 'it returns false'. Refute it at one input. -/
def sourcesAgreeWrong : ChangeSpec := { name := "sourcesAgree", fn := fun _ => fun
  | [d] => { results := [.lit (.bool false)], args := [d] }
  | _ => none }
def SourcesAgreeWrongFalsely : Prop := sourcesAgreeRow.holds Tryz.pinned (OpenSpec.ofChange sourcesAgreeWrong)

/- THE SECOND FORM. 'bulk': how many values and letters a reading holds, each counted each time it is reached (what is shared counts as often as it is met; a slice's spare places count too). A statement '..UptoSaid' is the law's where the arguments, and the package variables that the reading takes, are together of bulk at most 1048576: NARROWER than '..Said'. Prove '..Said' where nothing that the law and all that it calls make is longer than what came in: it says more and counts as full. Else prove '..UptoSaid'. A law counts once. -/
mutual
def uptoBulk {H : Type} : DataW H → Nat
  | .lit (.string bytes) => bytes.length + 1
  | .lit _ => 1
  | .nil => 1
  | .ptr d => uptoBulk d + 1
  | .slice elems spare => uptoBulkAll elems + uptoBulkAll spare + 1
  | .agg parts => uptoBulkAll parts + 1
  | .iface _ d => uptoBulk d + 1
  | .map entries => uptoBulkEntries entries + 1
  | .held _ => 1
def uptoBulkAll {H : Type} : List (DataW H) → Nat
  | [] => 0
  | d :: r => uptoBulk d + uptoBulkAll r
def uptoBulkEntries {H : Type} : List (Lit × DataW H) → Nat
  | [] => 0
  | x :: r => uptoBulkEntry x + uptoBulkEntries r
def uptoBulkEntry {H : Type} : Lit × DataW H → Nat
  | (.string bytes, d) => bytes.length + uptoBulk d + 1
  | (_, d) => uptoBulk d + 1
 end
def uptoSmall : (H : Type) → List (DataW H) → Bool := fun _ ds => decide (uptoBulkAll ds ≤ 1048576)
def OpenSpec.upto (s : _root_.Go.ChangeSpec) : _root_.Go.OpenSpec := { _root_.Go.OpenSpec.ofChange s with cond := some uptoSmall }

/-- 'jitlaw1.EventsTold', WHERE WHAT IT READS IS OF BULK AT MOST 1048576: true; the input reads as it did. -/
def eventsToldUptoRow : OpenClaim := { program := "ytfkmbeppckelfaagreatdoor", sum := "4541ba326861d4adf40d7444c81f1d40ffd84c9fbb48b82d81ca2d040a93bfa2", func := "jitney/jitlaw1.EventsTold", spec := "eventsTold", inPlace := ["internal/bytealg.IndexByteString", "internal/bytealg.IndexString", "internal/bytealg.abigen_runtime_cmpstring"], unfollowed := true, recurses := true, named := ["unicode/utf8.first", "unicode/utf8.acceptRanges", "internal/bytealg.MaxLen"], plainKeys := false, apart := false, laid := [("unicode/utf8.acceptRanges", laid_unicode_utf8_acceptRanges), ("unicode/utf8.first", laid_unicode_utf8_first)], narrowed := true }
def EventsToldUptoSaid : Prop := eventsToldUptoRow.holds Tryz.pinned (OpenSpec.upto eventsToldSpec)

/-- 'jitkeep1.NobodyIsInTwoCars', WHERE WHAT IT READS IS OF BULK AT MOST 1048576: true; the input reads as it did. -/
def nobodyIsInTwoCarsUptoRow : OpenClaim := { program := "ytfkmbeppckelfaagreatdoor", sum := "4541ba326861d4adf40d7444c81f1d40ffd84c9fbb48b82d81ca2d040a93bfa2", func := "jitney/jitkeep1.NobodyIsInTwoCars", spec := "nobodyIsInTwoCars", inPlace := ["internal/bytealg.IndexByteString", "internal/bytealg.IndexString", "internal/bytealg.abigen_runtime_cmpstring"], unfollowed := true, recurses := true, named := ["unicode/utf8.first", "unicode/utf8.acceptRanges", "math/bits.divideError", "math/bits.overflowError", "internal/bytealg.MaxLen"], plainKeys := false, apart := false, laid := [("unicode/utf8.acceptRanges", laid_unicode_utf8_acceptRanges), ("unicode/utf8.first", laid_unicode_utf8_first)], narrowed := true }
def NobodyIsInTwoCarsUptoSaid : Prop := nobodyIsInTwoCarsUptoRow.holds Tryz.pinned (OpenSpec.upto nobodyIsInTwoCarsSpec)

/-- 'jitkeep1.TakenBackIsNothing', WHERE WHAT IT READS IS OF BULK AT MOST 1048576: true; the input reads as it did. -/
def takenBackIsNothingUptoRow : OpenClaim := { program := "ytfkmbeppckelfaagreatdoor", sum := "4541ba326861d4adf40d7444c81f1d40ffd84c9fbb48b82d81ca2d040a93bfa2", func := "jitney/jitkeep1.TakenBackIsNothing", spec := "takenBackIsNothing", inPlace := ["internal/bytealg.IndexByteString", "internal/bytealg.IndexString", "internal/bytealg.abigen_runtime_cmpstring"], unfollowed := true, recurses := true, named := ["unicode/utf8.first", "unicode/utf8.acceptRanges", "math/bits.divideError", "math/bits.overflowError", "internal/bytealg.MaxLen"], plainKeys := false, apart := false, laid := [("unicode/utf8.acceptRanges", laid_unicode_utf8_acceptRanges), ("unicode/utf8.first", laid_unicode_utf8_first)], narrowed := true }
def TakenBackIsNothingUptoSaid : Prop := takenBackIsNothingUptoRow.holds Tryz.pinned (OpenSpec.upto takenBackIsNothingSpec)

/-- 'jitkeep1.WrittenIsFollowed', WHERE WHAT IT READS IS OF BULK AT MOST 1048576: true; the input reads as it did. -/
def writtenIsFollowedUptoRow : OpenClaim := { program := "ytfkmbeppckelfaagreatdoor", sum := "4541ba326861d4adf40d7444c81f1d40ffd84c9fbb48b82d81ca2d040a93bfa2", func := "jitney/jitkeep1.WrittenIsFollowed", spec := "writtenIsFollowed", inPlace := ["internal/bytealg.IndexByteString", "internal/bytealg.IndexString", "internal/bytealg.abigen_runtime_cmpstring"], unfollowed := true, recurses := true, named := ["unicode/utf8.first", "unicode/utf8.acceptRanges", "math/bits.divideError", "math/bits.overflowError", "internal/bytealg.MaxLen"], plainKeys := false, apart := false, laid := [("unicode/utf8.acceptRanges", laid_unicode_utf8_acceptRanges), ("unicode/utf8.first", laid_unicode_utf8_first)], narrowed := true }
def WrittenIsFollowedUptoSaid : Prop := writtenIsFollowedUptoRow.holds Tryz.pinned (OpenSpec.upto writtenIsFollowedSpec)

/-- 'jitkeep1.SourcesAgree', WHERE WHAT IT READS IS OF BULK AT MOST 1048576: true; the input reads as it did. -/
def sourcesAgreeUptoRow : OpenClaim := { program := "ytfkmbeppckelfaagreatdoor", sum := "4541ba326861d4adf40d7444c81f1d40ffd84c9fbb48b82d81ca2d040a93bfa2", func := "jitney/jitkeep1.SourcesAgree", spec := "sourcesAgree", inPlace := ["internal/bytealg.IndexByteString", "internal/bytealg.IndexString", "internal/bytealg.abigen_runtime_cmpstring"], unfollowed := true, recurses := true, named := ["unicode/utf8.first", "unicode/utf8.acceptRanges", "math/bits.divideError", "math/bits.overflowError", "internal/bytealg.MaxLen"], plainKeys := false, apart := false, laid := [("unicode/utf8.acceptRanges", laid_unicode_utf8_acceptRanges), ("unicode/utf8.first", laid_unicode_utf8_first)], narrowed := true }
def SourcesAgreeUptoSaid : Prop := sourcesAgreeUptoRow.holds Tryz.pinned (OpenSpec.upto sourcesAgreeSpec)

end Rows
end Go.Proofs.YtfkmbeppckelfaaGreatDoor
