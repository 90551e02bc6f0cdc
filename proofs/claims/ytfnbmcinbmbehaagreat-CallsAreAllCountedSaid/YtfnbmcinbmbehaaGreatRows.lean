/-
  No cell of these rows narrows 'for every input' (looked for: loops, veiled, ifaces, maps, wideKeys, modest, calm, conditions, laid).
  DERIVED. THE GIVEN ROWS OF THIS SEAT. 2 by the template 'for every input the law returns true; each argument reads behind the call as it read before'; 0 by the template 'total and deterministic' (their statements: YtfnbmcinbmbehaaGreatTotals.lean).
  GIVEN WITH THE SEED: the statements are not yours to turn. If you find one false, say at which input.
  Laid BY PROGRAM, IN A SANDBOX (cutbox-rows.mjs): the forced cells as the released guide's own fill.sh prints them over the translation 6683b15857859b90… (all of the seat's roots in one cut). By AI agents, Wed Nov 11 2026. No macro, syntax, notation, axiom, sorry.
-/
import Derived.Test.YtfnbmcinbmbehaaGreatChecked
import GoSem.Claim
import GoSem.ClaimJoined
import GoSem.ClaimMapViews
import Derived.JoinedTies
import Derived.KernelRfl
namespace Go.Proofs.YtfnbmcinbmbehaaGreat
/- THE CELL 'sum', in the pinned program and in every row, IS THE sha256 OF THE DUMP (.gsa) THAT YtfnbmcinbmbehaaGreatProg.lean LOADS. Nothing in Lean hashes anything: it is a label: what it is worth is what the hold of that sum in a sandbox is worth. -/
noncomputable def Tryz.pinned : Pinned := { name := "ytfnbmcinbmbehaagreat", sum := "6683b15857859b90320a052185e00055a31815fab3e5209d0003dcda5f44e68b", checked := Tryz.checked }
namespace Rows
def none {H : Type} : Left H := { results := [], args := [] }

/-- 'jitkeep1.EqualsPayEqual': WHATEVER THE INPUT: true; the input reads as it did. -/
def equalsPayEqualSpec : ChangeSpec := { name := "equalsPayEqual", fn := fun _ => fun
  | [d] => { results := [.lit (.bool true)], args := [d] }
  | _ => none }
def equalsPayEqualRow : OpenClaim := { program := "ytfnbmcinbmbehaagreat", sum := "6683b15857859b90320a052185e00055a31815fab3e5209d0003dcda5f44e68b", func := "jitney/jitkeep1.EqualsPayEqual", spec := "equalsPayEqual", inPlace := ["internal/bytealg.abigen_runtime_cmpstring"], unfollowed := true, recurses := true, named := ["math/bits.divideError", "math/bits.overflowError"], plainKeys := false, apart := false }
def EqualsPayEqualSaid : Prop := equalsPayEqualRow.holds Tryz.pinned (OpenSpec.ofChange equalsPayEqualSpec)

/-- ITS FALSE NEIGHBOUR: 'it returns false'. Refute it at one input. -/
def equalsPayEqualWrong : ChangeSpec := { name := "equalsPayEqual", fn := fun _ => fun
  | [d] => { results := [.lit (.bool false)], args := [d] }
  | _ => none }
def EqualsPayEqualWrongFalsely : Prop := equalsPayEqualRow.holds Tryz.pinned (OpenSpec.ofChange equalsPayEqualWrong)

/-- 'jitkeep1.CallsAreAllCounted': WHATEVER THE INPUT: true; the input reads as it did. -/
def callsAreAllCountedSpec : ChangeSpec := { name := "callsAreAllCounted", fn := fun _ => fun
  | [d] => { results := [.lit (.bool true)], args := [d] }
  | _ => none }
def callsAreAllCountedRow : OpenClaim := { program := "ytfnbmcinbmbehaagreat", sum := "6683b15857859b90320a052185e00055a31815fab3e5209d0003dcda5f44e68b", func := "jitney/jitkeep1.CallsAreAllCounted", spec := "callsAreAllCounted", inPlace := ["internal/bytealg.abigen_runtime_cmpstring"], unfollowed := true, recurses := true, named := ["math/bits.divideError", "math/bits.overflowError"], plainKeys := false, apart := false }
def CallsAreAllCountedSaid : Prop := callsAreAllCountedRow.holds Tryz.pinned (OpenSpec.ofChange callsAreAllCountedSpec)

/-- ITS FALSE NEIGHBOUR: 'it returns false'. Refute it at one input. -/
def callsAreAllCountedWrong : ChangeSpec := { name := "callsAreAllCounted", fn := fun _ => fun
  | [d] => { results := [.lit (.bool false)], args := [d] }
  | _ => none }
def CallsAreAllCountedWrongFalsely : Prop := callsAreAllCountedRow.holds Tryz.pinned (OpenSpec.ofChange callsAreAllCountedWrong)

/- THE SECOND FORM. 'bulk': how many values and letters a reading holds, each counted each time it is reached (what is shared counts as often as it is met; a slice's spare places count too). A statement '..UptoSaid' is the law's where the arguments, and the package variables that the reading takes, are together of bulk at most 1048576: NARROWER than '..Said'. Prove '..Said' where nothing that the law and all that it calls make is longer than what came in: it says more and counts as full. Else prove '..UptoSaid'. A law counts once. -/
mutual
def uptoBulk {H : Type} : DataW H → Nat
  | .lit (.string bytes) => bytes.length + 1
  | .lit _ => 1
  | .nil => 1
  | .ptr d => uptoBulk d + 1
  | .slice elems spare => uptoBulkAll elems + uptoBulkAll spare + 1
  | .agg parts => uptoBulkAll parts + 1
  | .iface _ d => uptoBulk d + 1
  | .map entries => uptoBulkEntries entries + 1
  | .held _ => 1
def uptoBulkAll {H : Type} : List (DataW H) → Nat
  | [] => 0
  | d :: r => uptoBulk d + uptoBulkAll r
def uptoBulkEntries {H : Type} : List (Lit × DataW H) → Nat
  | [] => 0
  | x :: r => uptoBulkEntry x + uptoBulkEntries r
def uptoBulkEntry {H : Type} : Lit × DataW H → Nat
  | (.string bytes, d) => bytes.length + uptoBulk d + 1
  | (_, d) => uptoBulk d + 1
 end
def uptoSmall : (H : Type) → List (DataW H) → Bool := fun _ ds => decide (uptoBulkAll ds ≤ 1048576)
def OpenSpec.upto (s : _root_.Go.ChangeSpec) : _root_.Go.OpenSpec := { _root_.Go.OpenSpec.ofChange s with cond := some uptoSmall }

/-- 'jitkeep1.EqualsPayEqual', WHERE WHAT IT READS IS OF BULK AT MOST 1048576: true; the input reads as it did. -/
def equalsPayEqualUptoRow : OpenClaim := { program := "ytfnbmcinbmbehaagreat", sum := "6683b15857859b90320a052185e00055a31815fab3e5209d0003dcda5f44e68b", func := "jitney/jitkeep1.EqualsPayEqual", spec := "equalsPayEqual", inPlace := ["internal/bytealg.abigen_runtime_cmpstring"], unfollowed := true, recurses := true, named := ["math/bits.divideError", "math/bits.overflowError"], plainKeys := false, apart := false, narrowed := true }
def EqualsPayEqualUptoSaid : Prop := equalsPayEqualUptoRow.holds Tryz.pinned (OpenSpec.upto equalsPayEqualSpec)

/-- 'jitkeep1.CallsAreAllCounted', WHERE WHAT IT READS IS OF BULK AT MOST 1048576: true; the input reads as it did. -/
def callsAreAllCountedUptoRow : OpenClaim := { program := "ytfnbmcinbmbehaagreat", sum := "6683b15857859b90320a052185e00055a31815fab3e5209d0003dcda5f44e68b", func := "jitney/jitkeep1.CallsAreAllCounted", spec := "callsAreAllCounted", inPlace := ["internal/bytealg.abigen_runtime_cmpstring"], unfollowed := true, recurses := true, named := ["math/bits.divideError", "math/bits.overflowError"], plainKeys := false, apart := false, narrowed := true }
def CallsAreAllCountedUptoSaid : Prop := callsAreAllCountedUptoRow.holds Tryz.pinned (OpenSpec.upto callsAreAllCountedSpec)

end Rows
end Go.Proofs.YtfnbmcinbmbehaaGreat
