/- Plain functions: what is wrong with keys, parts, costs, dues, steps; gains, refunds. -/
import Derived.Test.YtjhmgkoghapocaaDoorSpec
import Derived.Test.YtjhmgkoghapocaaDoorKeyS
import Derived.Test.YtjhmgkoghapocaaDoorDivS
import Derived.Laws.Cover1
namespace Go.Proofs.YtjhmgkoghapocaaDoor

def maxCt : Int := 1000000000
def strLe (a b : ByteArray) : Bool := Op.bytesLess a.toList b.toList || a.toList == b.toList
/-- A key that stands behind another one. -/
def strF (p : Option ByteArray) (s : ByteArray) : Int := if keyB s then (match p with | some q => if strLe s q then 7 else 0 | none => 0) else 5
def risF (l : List ByteArray) : Int := chk strF none l
def keysF (l : List ByteArray) : Int := if 10 < l.length then 2 else risF l
def centB (n : Int) : Bool := outB n 0 maxCt
def partsF (cents : Int) (parts : List Int) : Int :=
  if centB cents then 1 else if 1000 < parts.length then 2 else if parts.any centB then 1 else if sumL parts = 0 then 8 else 0
def fairF (rides : List ByteArray) (costs : List Int) : Int :=
  if keysF rides = 0 then (if costs.length = 2 ^ rides.length then (if costs.getD 0 0 ≠ 0 ∨ costs.any centB = true then 1 else 0) else 3) else keysF rides
structure Due where
  key : ByteArray
  cents : Int
instance : Inhabited Due := ⟨⟨default, 0⟩⟩
def encDue (d : Due) : List Value := [.string d.key, .int .i64 d.cents]
def encS (s : ByteArray) : List Value := [.string s]
/-- A whole shared fairly. -/
def FairR (rides : List ByteArray) (costs : List Int) (ds : List Due) : Prop :=
  ∃ zs, Handed (costs.getD (2 ^ rides.length - 1) 0) (numsF rides.length costs (2 ^ rides.length)) (factN rides.length : Nat) zs ∧ ds = List.zipWith Due.mk rides zs
theorem FairR.unique {rides : List ByteArray} {costs : List Int} {ds ds' : List Due} (h : FairR rides costs ds) (h' : FairR rides costs ds') : ds = ds' := by
  obtain ⟨zs, h1, rfl⟩ := h
  obtain ⟨zs', h2, rfl⟩ := h'
  rw [h1.unique h2]
def duesF (rides : List ByteArray) (ds : List Due) : Int :=
  if rides = ds.map (·.key) then (if ds.any (fun d => outB d.cents (-maxCt) maxCt) then 1 else 0) else 3
/-- Those of a group. -/
def whoTo (rides : List ByteArray) (g : Nat) : Nat → List ByteArray
  | 0 => []
  | k + 1 => if bitN g k = 1 then whoTo rides g k ++ [rides.getD k default] else whoTo rides g k
def sumG (cs : List Int) (g : Nat) : Nat → Int
  | 0 => 0
  | k + 1 => if bitN g k = 1 then sumG cs g k + cs.getD k 0 else sumG cs g k
/-- The first group that would pay less alone. -/
def gainL (rides : List ByteArray) (cs costs : List Int) : List Nat → List ByteArray
  | [] => []
  | g :: gs => if costs.getD g 0 < sumG cs g rides.length then whoTo rides g rides.length else gainL rides cs costs gs
structure Frac where
  num : Int
  den : Int
instance : Inhabited Frac := ⟨⟨0, 0⟩⟩
def encFrac (d : Frac) : List Value := [.int .i64 d.num, .int .i64 d.den]
def endMs : Int := 345686400000
def stepF (p : Option Frac) (s : Frac) : Int :=
  if outB s.num 1 endMs || outB s.den 0 100 then 1 else (match p with | some q => if s.num ≤ q.num ∨ s.den < q.den then 7 else 0 | none => 0)
def refF (due late : Int) (steps : List Frac) : Int :=
  if centB due || outB late 0 endMs then 1 else if 20 < steps.length then 2 else chk stepF none steps
def refPart (late : Int) : List Frac → Int → Int
  | [], d => d
  | s :: l, d => refPart late l (if s.num ≤ late then s.den else d)
def refI (due late : Int) (steps : List Frac) : Int := due * refPart late steps 0 / 100
end Go.Proofs.YtjhmgkoghapocaaDoor
