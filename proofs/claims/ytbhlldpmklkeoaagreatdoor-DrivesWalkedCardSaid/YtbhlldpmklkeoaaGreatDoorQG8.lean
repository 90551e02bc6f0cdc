/- strings.Compare. -/
import Derived.Test.YtbhlldpmklkeoaaGreatDoorQSumK
import Derived.Test.YtbhlldpmklkeoaaGreatDoorQG1
import Derived.Test.YtbhlldpmklkeoaaGreatDoorQShelfC
import Derived.Shelf.Small.Strs
import Derived.Test.YtbhlldpmklkeoaaGreatDoorQG4
namespace Go.Proofs.YtbhlldpmklkeoaaGreatDoor
open Go.RowKit Go.Shelf Go.Proofs

theorem w_CompareS (a b : ByteArray) (w : World) : Calls Tryz.prog 59 #[.string a, .string b] w fun e w' => e = .returned (.int .i64 (cmpS a b)) ∧ w = w' :=
  (Any.strings_Compare Tryz.compareStr a b w).mono fun _ _ ⟨h1, h2⟩ => ⟨h1, h2.symm⟩
end Go.Proofs.YtbhlldpmklkeoaaGreatDoor
/- slices.ContainsFunc over numbers and dues, slices.EqualFunc of keys and dues: each for every function value that answers plainly. -/
namespace Go.Proofs.YtbhlldpmklkeoaaGreatDoor
open Go.RowKit

def Enters (g : Nat) : Prop := ∀ args w, (callFunc g args).run Tryz.prog w = .ok (.enter g args) w

theorem eqS_iff (s t : ByteArray) : (s.toList == t.toList) = decide (s = t) := by
  rw [Bool.eq_iff_iff, beq_iff_eq, decide_eq_true_eq, Lib.toList_data, Lib.toList_data]
  constructor
  · intro h
    rcases s with ⟨⟨s⟩⟩
    rcases t with ⟨⟨t⟩⟩
    simp at h
    rw [h]
  · rintro rfl; rfl

/-- Cents told of a due. -/
def badD (d : Due) : Bool := outB d.cents (-maxCt) maxCt
theorem keys_step {l : List ByteArray} {ds : List Due} {k : Nat} (hl : l.length = ds.length) (hk : k < l.length) (h : l.take k = (ds.take k).map (·.key)) (he : l[k] = (ds[k]'(by omega)).key) : l.take (k + 1) = (ds.take (k + 1)).map (·.key) := by
  rw [List.take_succ_eq_append_getElem hk, List.take_succ_eq_append_getElem (by omega), List.map_append, h, he]; rfl
theorem keys_not {l : List ByteArray} {ds : List Due} {k : Nat} (hl : l.length = ds.length) (hk : k < l.length) (he : ¬ l[k] = (ds[k]'(by omega)).key) : ¬ l = ds.map (·.key) := by
  intro h
  apply he
  have : l[k]? = (ds.map (·.key))[k]? := by rw [← h]
  rw [List.getElem?_eq_getElem hk, List.getElem?_map, List.getElem?_eq_getElem (by omega)] at this
  simpa using this
end Go.Proofs.YtbhlldpmklkeoaaGreatDoor
