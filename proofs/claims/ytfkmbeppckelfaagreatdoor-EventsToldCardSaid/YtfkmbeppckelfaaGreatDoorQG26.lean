/- The rest of a function's code from a region on. Of no program. -/
import Derived.WalkKit
import Derived.Test.YtfkmbeppckelfaaGreatDoorQG22
import Derived.Test.YtfkmbeppckelfaaGreatDoorQG2
import Derived.Deep.RegionHeld3
import Derived.Deep.RegionWith
import Derived.Deep.DeepCutAuto
import Derived.RegionTactic
namespace Go.Proofs.YtfkmbeppckelfaaGreatDoor
open Go

/-- The first region's number. -/
def firstReg : Code → Option Nat
  | .region n _ _ => some n
  | .seq a _ => firstReg a
  | .scope c => firstReg c
  | .block _ c => firstReg c
  | .loop c => firstReg c
  | _ => none
def isReg (r : Nat) (c : Code) : Bool := match firstReg c with | some n => Nat.beq n r | none => false
/-- What follows from the statement on that begins with region r. -/
def fromReg (r : Nat) : Code → Code
  | .seq a b => bif isReg r a then .seq a b else fromReg r b
  | .scope c => fromReg r c
  | .block _ c => fromReg r c
  | c => c
end Go.Proofs.YtfkmbeppckelfaaGreatDoor
/- An event that is right by itself: the program's check. -/
namespace Go.Proofs.YtfkmbeppckelfaaGreatDoor
open Go.RowKit

def usesO : Obj := .cells #[.string ⟨#[98, 111, 111, 107]⟩, .bool true, .bool false, .bool false, .bool true, .bool false, .string ⟨#[97, 115, 115, 105, 103, 110]⟩, .bool true, .bool true, .bool false, .bool false, .bool false, .string ⟨#[111, 110]⟩, .bool true, .bool true, .bool true, .bool false, .bool false, .string ⟨#[111, 102, 102]⟩, .bool true, .bool true, .bool true, .bool false, .bool false, .string ⟨#[99, 97, 110, 99, 101, 108]⟩, .bool true, .bool false, .bool false, .bool false, .bool false, .string ⟨#[97, 98, 115, 101, 110, 116]⟩, .bool true, .bool false, .bool false, .bool false, .bool false, .string ⟨#[112, 97, 115, 115]⟩, .bool false, .bool true, .bool true, .bool false, .bool false, .string ⟨#[98, 114, 111, 107, 101, 110]⟩, .bool false, .bool true, .bool false, .bool false, .bool false, .string ⟨#[117, 110, 100, 111]⟩, .bool false, .bool false, .bool false, .bool false, .bool true] 146
theorem w_usesO (W : World) : Calls Tryz.prog 87 #[] W fun e W' => e = .returned (.slice (some ⟨W.heap.size, 0, none⟩) 9 9) ∧ W.alloc usesO = W' := by
  go_enter Tryz.func87, Tryz.ntmps87
  go_wp2
  go_ret
  exact ⟨rfl, rfl⟩
/-- What a kind uses lies in a variable. -/
def UseMd (r c n p u : Bool) (wa : World) (v3 : Value) (wx : World) : Prop :=
  ∃ q : Nat, v3 = .pointer (some ⟨q, 0, none⟩) ∧ wa.heap.size ≤ q ∧ q < wx.heap.size ∧ wx.cell? ⟨q, 1, none⟩ = some (.bool r) ∧ wx.cell? ⟨q, 2, none⟩ = some (.bool c) ∧ wx.cell? ⟨q, 3, none⟩ = some (.bool n) ∧ wx.cell? ⟨q, 4, none⟩ = some (.bool p) ∧ wx.cell? ⟨q, 5, none⟩ = some (.bool u) ∧ Nx wa wx
/-- An event is without what its kind does not use. -/
def leanB (x : Ev) : Bool := decide (x = leanE x)
theorem evF_eq (x : Ev) : evF x = if keyB x.source = false then 5 else if outB x.no 1 3000 = true then 1 else if momB x.at_ = false then 1 else if outB x.kind 1 9 = true then 4
    else if uRide x.kind = true ∧ keyB x.ride = false then 5 else if uCar x.kind = true ∧ keyB x.car = false then 5 else if uNode x.kind = true ∧ keyB x.node = false then 5 else if uUndo x.kind = true ∧ keyB x.from_ = false then 5
    else if uBook x.kind = true ∧ outB x.up x.at_ lastMo = true then 1 else if uBook x.kind = true ∧ outB x.down x.up lastMo = true then 1 else if uUndo x.kind = true ∧ outB x.number 1 3000 = true then 1
    else if leanB x = true then 0 else 3 := by
  unfold evF leanB
  cases keyB x.source <;> cases outB x.no 1 3000 <;> cases momB x.at_ <;> cases outB x.kind 1 9 <;> simp
  cases uRide x.kind <;> cases keyB x.ride <;> cases uCar x.kind <;> cases keyB x.car <;> cases uNode x.kind <;> cases keyB x.node <;> cases uUndo x.kind <;> cases keyB x.from_ <;> simp
  all_goals (cases uBook x.kind <;> cases outB x.up x.at_ lastMo <;> cases outB x.down x.up lastMo <;> simp)
  all_goals (cases outB x.number 1 3000 <;> simp)
set_option maxRecDepth 100000 in
set_option maxHeartbeats 4000000 in
theorem w_evF0 (so : ByteArray) (no at_ ki : Int) (ri ca nd : ByteArray) (up dn : Int) (fo : ByteArray) (nu : Int) (w : World) (hok : okEv ⟨so, no, at_, ki, ri, ca, nd, up, dn, fo, nu⟩) (hbad : keyB so = false ∨ outB no 1 3000 = true ∨ momB at_ = false ∨ outB ki 1 9 = true) :
    Calls Tryz.prog 44 #[.agg #[.string so, .int .i64 no, .int .i64 at_, .int .i64 ki, .string ri, .string ca, .string nd, .int .i64 up, .int .i64 dn, .string fo, .int .i64 nu]] w fun e w' => e = .returned (.int .i64 (evF ⟨so, no, at_, ki, ri, ca, nd, up, dn, fo, nu⟩)) ∧ Nx w w' := by
  have z1 : so.size ≤ 1000 := hok.source
  have hev := hide (evF_eq ⟨so, no, at_, ki, ri, ca, nd, up, dn, fo, nu⟩)
  simp only at hev
  generalize evF ⟨so, no, at_, ki, ri, ca, nd, up, dn, fo, nu⟩ = ev at hev ⊢
  obtain ⟨wa, hwa⟩ : ∃ wa, wa = w.alloc (.cells #[.string so, .int .i64 no, .int .i64 at_, .int .i64 ki, .string ri, .string ca, .string nd, .int .i64 up, .int .i64 dn, .string fo, .int .i64 nu] 31 (0, 0)) := ⟨_, rfl⟩
  have hna : Nx w wa := hwa ▸ (Nx.refl w).alloc _
  obtain ⟨bx, hbx⟩ : ∃ bx, bx = w.heap.size := ⟨_, rfl⟩
  have hb1 : wa.heap[bx]? = some (.cells #[.string so, .int .i64 no, .int .i64 at_, .int .i64 ki, .string ri, .string ca, .string nd, .int .i64 up, .int .i64 dn, .string fo, .int .i64 nu] 31 (0, 0)) := by rw [hwa, hbx]; exact heap_alloc_new w _
  have a0 : wa.cell? ⟨bx, 0, none⟩ = some (.string so) := cell_of_row wa _ 0 _ _ _ hb1
  have a1 : wa.cell? ⟨bx, 1, none⟩ = some (.int .i64 no) := cell_of_row wa _ 1 _ _ _ hb1
  have a2 : wa.cell? ⟨bx, 2, none⟩ = some (.int .i64 at_) := cell_of_row wa _ 2 _ _ _ hb1
  have a3 : wa.cell? ⟨bx, 3, none⟩ = some (.int .i64 ki) := cell_of_row wa _ 3 _ _ _ hb1
  have HNA := hide hna
  clear hb1 hna hok
  cases h1 : keyB so with
  | false =>
    have hv := hide (show ev = 5 by rw [hev.out]; simp [h1])
    clear hbad
    go_enter Tryz.func44, Tryz.ntmps44
    go_upto_region 1 with fail
    rw [← hwa, ← hbx]
    clear hwa hbx
    go_wp2_with (first
        | (go_at_call 84; refine (w_Key _ _ (by first | assumption | omega)).mono ?_; rintro e w' ⟨rfl, rfl⟩)
        | (go_at_call 86; refine (w_Moment _ _).mono ?_; rintro e w' ⟨rfl, rfl⟩)
        | (go_at_call 85; refine (w_Out _ _ _ _).mono ?_; rintro e w' ⟨rfl, rfl⟩))
    go_ret
    exact ⟨by rw [hv.out] <;> rfl, HNA.out⟩
  | true =>
  cases h2 : outB no 1 3000 with
  | true =>
    have hv := hide (show ev = 1 by rw [hev.out]; simp [h1, h2])
    clear hbad
    go_enter Tryz.func44, Tryz.ntmps44
    go_upto_region 1 with fail
    rw [← hwa, ← hbx]
    clear hwa hbx
    go_wp2_with (first
        | (go_at_call 84; refine (w_Key _ _ (by first | assumption | omega)).mono ?_; rintro e w' ⟨rfl, rfl⟩)
        | (go_at_call 86; refine (w_Moment _ _).mono ?_; rintro e w' ⟨rfl, rfl⟩)
        | (go_at_call 85; refine (w_Out _ _ _ _).mono ?_; rintro e w' ⟨rfl, rfl⟩))
    go_ret
    exact ⟨by rw [hv.out] <;> rfl, HNA.out⟩
  | false =>
  cases h3 : momB at_ with
  | false =>
    have hv := hide (show ev = 1 by rw [hev.out]; simp [h1, h2, h3])
    clear hbad
    go_enter Tryz.func44, Tryz.ntmps44
    go_upto_region 1 with fail
    rw [← hwa, ← hbx]
    clear hwa hbx
    go_wp2_with (first
        | (go_at_call 84; refine (w_Key _ _ (by first | assumption | omega)).mono ?_; rintro e w' ⟨rfl, rfl⟩)
        | (go_at_call 86; refine (w_Moment _ _).mono ?_; rintro e w' ⟨rfl, rfl⟩)
        | (go_at_call 85; refine (w_Out _ _ _ _).mono ?_; rintro e w' ⟨rfl, rfl⟩))
    go_ret
    exact ⟨by rw [hv.out] <;> rfl, HNA.out⟩
  | true =>
    have h4 : outB ki 1 9 = true := by simpa [h1, h2, h3] using hbad
    have hv := hide (show ev = 4 by rw [hev.out]; simp [h1, h2, h3, h4])
    clear hbad
    go_enter Tryz.func44, Tryz.ntmps44
    go_upto_region 1 with fail
    rw [← hwa, ← hbx]
    clear hwa hbx
    go_wp2_with (first
        | (go_at_call 84; refine (w_Key _ _ (by first | assumption | omega)).mono ?_; rintro e w' ⟨rfl, rfl⟩)
        | (go_at_call 86; refine (w_Moment _ _).mono ?_; rintro e w' ⟨rfl, rfl⟩)
        | (go_at_call 85; refine (w_Out _ _ _ _).mono ?_; rintro e w' ⟨rfl, rfl⟩))
    go_ret
    exact ⟨by rw [hv.out] <;> rfl, HNA.out⟩
end Go.Proofs.YtfkmbeppckelfaaGreatDoor
