/- An event that is right by itself: the program's check. -/
import Derived.Test.YthlhomcgjgfdhaaGreatDoorQG36
import Derived.Test.YthlhomcgjgfdhaaGreatDoorQG19
import Derived.Test.YthlhomcgjgfdhaaGreatDoorQG8
import Derived.Deep.RegionHeld3
import Derived.Deep.RegionWith
import Derived.Deep.DeepCutAuto
import Derived.RegionTactic
namespace Go.Proofs.YthlhomcgjgfdhaaGreatDoor
open Go.RowKit

def usesObj : Obj := .cells #[.string ⟨#[98, 111, 111, 107]⟩, .bool true, .bool false, .bool false, .bool true, .bool false, .string ⟨#[97, 115, 115, 105, 103, 110]⟩, .bool true, .bool true, .bool false, .bool false, .bool false, .string ⟨#[111, 110]⟩, .bool true, .bool true, .bool true, .bool false, .bool false, .string ⟨#[111, 102, 102]⟩, .bool true, .bool true, .bool true, .bool false, .bool false, .string ⟨#[99, 97, 110, 99, 101, 108]⟩, .bool true, .bool false, .bool false, .bool false, .bool false, .string ⟨#[97, 98, 115, 101, 110, 116]⟩, .bool true, .bool false, .bool false, .bool false, .bool false, .string ⟨#[112, 97, 115, 115]⟩, .bool false, .bool true, .bool true, .bool false, .bool false, .string ⟨#[98, 114, 111, 107, 101, 110]⟩, .bool false, .bool true, .bool false, .bool false, .bool false, .string ⟨#[117, 110, 100, 111]⟩, .bool false, .bool false, .bool false, .bool false, .bool true] 291
theorem uses_cell (W : World) (n : Nat) (hn : n = W.heap.size) : (W.alloc usesObj).cell? ⟨n, 0, none⟩ = some (.string bookB) ∧ (W.alloc usesObj).cell? ⟨n, 1, none⟩ = some (.bool true) ∧ (W.alloc usesObj).cell? ⟨n, 2, none⟩ = some (.bool false) ∧ (W.alloc usesObj).cell? ⟨n, 3, none⟩ = some (.bool false) ∧ (W.alloc usesObj).cell? ⟨n, 4, none⟩ = some (.bool true) ∧ (W.alloc usesObj).cell? ⟨n, 5, none⟩ = some (.bool false) := by
  subst hn
  unfold usesObj
  exact ⟨by go_simp; rfl, by go_simp, by go_simp, by go_simp, by go_simp, by go_simp⟩
theorem w_uses (W : World) : Calls Tryz.prog 241 #[] W fun e w' => e = .returned (.slice (some ⟨W.heap.size, 0, none⟩) 9 9) ∧ W.alloc usesObj = w' := by
  go_enter Tryz.func241, Tryz.ntmps241
  go_wp2
  go_ret
  exact ⟨rfl, rfl⟩
/-- What a booking uses lies in a variable. -/
def UseMid (wa : World) (v3 : Value) (wx : World) : Prop :=
  ∃ p : Nat, v3 = .pointer (some ⟨p, 0, none⟩) ∧ wa.heap.size ≤ p ∧ p < wx.heap.size ∧ wx.cell? ⟨p, 1, none⟩ = some (.bool true) ∧ wx.cell? ⟨p, 2, none⟩ = some (.bool false) ∧ wx.cell? ⟨p, 3, none⟩ = some (.bool false) ∧ wx.cell? ⟨p, 4, none⟩ = some (.bool true) ∧ wx.cell? ⟨p, 5, none⟩ = some (.bool false) ∧ Nx wa wx
set_option maxRecDepth 100000 in
set_option maxHeartbeats 4000000 in
theorem w_eventFaultEx (w : World) : Calls Tryz.prog 203 #[.agg exEv] w fun e w' => e = .returned (.int .i64 0) ∧ Nx w w' := by
  have hks : keyB sS = true := by decide
  have hkr : keyB sR = true := by decide
  have hm0 : momB 0 = true := by decide
  have o1 : outB 1 1 3000 = false := by decide
  have o2 : outB 1 1 9 = false := by decide
  unfold exEv
  go_enter Tryz.func203, Tryz.ntmps203
  go_upto_region 7 with (first
    | (go_at_call 104; refine (w_Key _ _ (by decide)).mono ?_; rintro e w' ⟨rfl, rfl⟩)
    | (go_at_call 115; refine (w_Moment _ _).mono ?_; rintro e w' ⟨rfl, rfl⟩)
    | (go_at_call 49; refine (w_Out _ _ _ _).mono ?_; rintro e w' ⟨rfl, rfl⟩))
  obtain ⟨wa, hwa⟩ : ∃ wa, wa = w.alloc (.cells #[.string sS, .int .i64 1, .int .i64 0, .int .i64 1, .string sR, .string ⟨#[]⟩, .string ⟨#[]⟩, .int .i64 5, .int .i64 9, .string ⟨#[]⟩, .int .i64 0] 130) := ⟨_, rfl⟩
  have hna : Nx w wa := hwa ▸ (Nx.refl w).alloc _
  have hgw : w.heap.size < wa.heap.size := by rw [hwa]; simp
  have b0 : wa.cell? ⟨w.heap.size, 0, none⟩ = some (.string sS) := by rw [hwa]; go_simp
  have b1 : wa.cell? ⟨w.heap.size, 1, none⟩ = some (.int .i64 1) := by rw [hwa]; go_simp
  have b2 : wa.cell? ⟨w.heap.size, 2, none⟩ = some (.int .i64 0) := by rw [hwa]; go_simp
  have b3 : wa.cell? ⟨w.heap.size, 3, none⟩ = some (.int .i64 1) := by rw [hwa]; go_simp
  have b4 : wa.cell? ⟨w.heap.size, 4, none⟩ = some (.string sR) := by rw [hwa]; go_simp
  have b5 : wa.cell? ⟨w.heap.size, 5, none⟩ = some (.string ⟨#[]⟩) := by rw [hwa]; go_simp
  have b6 : wa.cell? ⟨w.heap.size, 6, none⟩ = some (.string ⟨#[]⟩) := by rw [hwa]; go_simp
  have b7 : wa.cell? ⟨w.heap.size, 7, none⟩ = some (.int .i64 5) := by rw [hwa]; go_simp
  have b8 : wa.cell? ⟨w.heap.size, 8, none⟩ = some (.int .i64 9) := by rw [hwa]; go_simp
  have b9 : wa.cell? ⟨w.heap.size, 9, none⟩ = some (.string ⟨#[]⟩) := by rw [hwa]; go_simp
  have b10 : wa.cell? ⟨w.heap.size, 10, none⟩ = some (.int .i64 0) := by rw [hwa]; go_simp
  rw [← hwa]
  have HWA := hide hwa
  clear hwa
  obtain ⟨g0, hg0⟩ : ∃ g0, g0 = w.heap.size := ⟨_, rfl⟩
  rw [← hg0] at hgw b0 b1 b2 b3 b4 b5 b6 b7 b8 b9 b10 ⊢
  have HG0 := hide hg0
  clear hg0
  go_cut [3] (fun v3 wx => UseMid wa v3 wx)
  case first =>
    obtain ⟨U, hU⟩ : ∃ U, U = usesObj := ⟨_, rfl⟩
    have hUc := uses_cell
    have hUw := w_uses
    rw [← hU] at hUc hUw
    have U0 := fun W n hn => (hUc W n hn).1
    have U1 := fun W n hn => (hUc W n hn).2.1
    have U2 := fun W n hn => (hUc W n hn).2.2.1
    have U3 := fun W n hn => (hUc W n hn).2.2.2.1
    have U4 := fun W n hn => (hUc W n hn).2.2.2.2.1
    have U5 := fun W n hn => (hUc W n hn).2.2.2.2.2
    have HU := hide hUw
    clear hUc hUw hU
    have hg1a : g0 < wa.heap.size + 1 := by omega
    have hg1b : g0 < wa.heap.size + 1 + 1 := by omega
    go_region_with (first
        | (go_at_call 241; refine (HU.out _).mono ?_; rintro e w3 ⟨rfl, rfl⟩))
    all_goals (go_wp2; go_meet)
    all_goals exact ⟨_, rfl, by first | exact Nat.le_refl _ | exact Nat.le_succ _, by simp <;> omega, by go_simp, by go_simp, by go_simp, by go_simp, by go_simp, (by repeat (first | with_reducible exact Nx.refl _ | with_reducible refine Nx.alloc ?_ _ | with_reducible refine Nx.drew ?_))⟩
  case rest =>
    obtain ⟨p, rfl, hp1, hp2, q1, q2, q3, q4, q5, hnx⟩ := hcut
    have c0 := nx_cell hnx hgw b0
    have c1 := nx_cell hnx hgw b1
    have c2 := nx_cell hnx hgw b2
    have c3 := nx_cell hnx hgw b3
    have c4 := nx_cell hnx hgw b4
    have c5 := nx_cell hnx hgw b5
    have c6 := nx_cell hnx hgw b6
    have c7 := nx_cell hnx hgw b7
    have c8 := nx_cell hnx hgw b8
    have c9 := nx_cell hnx hgw b9
    have c10 := nx_cell hnx hgw b10
    have hgx := Nat.lt_of_lt_of_le hgw hnx.sz
    clear b0 b1 b2 b3 b4 b5 b6 b7 b8 b9 b10
    go_upto_region 16 with fail
    go_cut [] (fun wx => wx = (wc.alloc (.cells #[.string sS, .int .i64 1, .int .i64 0, .int .i64 1, .string sR, .string ⟨#[]⟩, .string ⟨#[]⟩, .int .i64 5, .int .i64 9, .string ⟨#[]⟩, .int .i64 0] 130)).drew)
    case first =>
      go_region
      all_goals (go_wp2; go_meet)
      all_goals first | rfl | exact hcut
    case rest =>
      subst hcut
      go_wp2_with (first
        | (go_at_call 104; refine (w_Key _ _ (by decide)).mono ?_; rintro e w' ⟨rfl, rfl⟩)
        | (go_at_call 49; refine (w_Out _ _ _ _).mono ?_; rintro e w' ⟨rfl, rfl⟩))
      go_ret
      exact ⟨rfl, ((hna.trans hnx).alloc _).drew⟩
end Go.Proofs.YthlhomcgjgfdhaaGreatDoor
