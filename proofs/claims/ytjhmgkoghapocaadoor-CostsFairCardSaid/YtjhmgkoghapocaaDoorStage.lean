/- The rest of a function's code from a region on. Of no program. -/
import Derived.WalkKit
namespace Go.Proofs.YtjhmgkoghapocaaDoor
open Go

/-- The first region's number. -/
def firstReg : Code → Option Nat
  | .region n _ _ => some n
  | .seq a _ => firstReg a
  | .scope c => firstReg c
  | .block _ c => firstReg c
  | .loop c => firstReg c
  | _ => none
def isReg (r : Nat) (c : Code) : Bool := match firstReg c with | some n => Nat.beq n r | none => false
/-- What follows from the statement on that begins with region r. -/
def fromReg (r : Nat) : Code → Code
  | .seq a b => bif isReg r a then .seq a b else fromReg r b
  | .scope c => fromReg r c
  | .block _ c => fromReg r c
  | c => c
end Go.Proofs.YtjhmgkoghapocaaDoor
