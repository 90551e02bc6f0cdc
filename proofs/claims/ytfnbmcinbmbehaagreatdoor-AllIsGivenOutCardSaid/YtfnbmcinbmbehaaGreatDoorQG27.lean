/- Two strings, sorted already: the sort lets them be. -/
import Derived.Test.YtfnbmcinbmbehaaGreatDoorQG3
import Derived.Test.YtfnbmcinbmbehaaGreatDoorQShelfL
import Derived.Test.YtfnbmcinbmbehaaGreatDoorQG19
import Derived.Test.YtfnbmcinbmbehaaGreatDoorQG5
import Derived.Test.YtfnbmcinbmbehaaGreatDoorQG0
import Derived.Test.YtfnbmcinbmbehaaGreatDoorQRoadC
namespace Go.Proofs.YtfnbmcinbmbehaaGreatDoor
open Go.RowKit Go.Proofs Go.Shelf

def sX : ByteArray := ⟨#[120]⟩
def sY : ByteArray := ⟨#[121]⟩
theorem w_isNaNS (a : ByteArray) (w : World) : Calls Tryz.prog 156 #[.string a] w fun e w' => e = .returned (.bool false) ∧ w = w' := by
  go_enter Tryz.func156, Tryz.ntmps156
  go_wp2
  go_ret
  exact ⟨rfl, rfl⟩
theorem w_LessYX (w : World) : Calls Tryz.prog 118 #[.string sY, .string sX] w fun e w' => e = .returned (.bool false) ∧ w = w' := by
  have t1 : Op.bytesLess sY.toList sX.toList = false := by rw [Lib.toList_data, Lib.toList_data]; decide
  go_enter Tryz.func118, Tryz.ntmps118
  go_wp2_with (go_at_call 156; refine (w_isNaNS _ _).mono ?_; rintro e w' ⟨rfl, rfl⟩)
  go_ret
  exact ⟨rfl, rfl⟩
set_option maxRecDepth 100000 in
set_option maxHeartbeats 1000000 in
theorem w_insXY (g c : Nat) (w : World) (h0 : w.cell? ⟨g, 0, none⟩ = some (.string sX)) (h1 : w.cell? ⟨g, 1, none⟩ = some (.string sY)) :
    Calls Tryz.prog 112 #[.slice (some ⟨g, 0, none⟩) 2 c, .int .i64 0, .int .i64 2] w fun e w' => e = .returned (.tuple #[]) ∧ Nx w w' := by
  go_enter Tryz.func112, Tryz.ntmps112
  go_wp2_with fail
  refine wp_loop_rounds 2 ?_
  rw [rounds_succ]
  go_wp2_with fail
  refine wp_loop_rounds 2 ?_
  rw [rounds_succ]
  go_wp2_with fail
  go_quiet ((go_at_call 118; exact Calls.quiet_of_same (flipc (w_LessYX _))))
  go_wp2_with fail
  rw [rounds_succ]
  go_wp2_with fail
  go_end0
  exact ⟨rfl, (Nx.refl _).drewN _⟩
set_option maxRecDepth 100000 in
set_option maxHeartbeats 1000000 in
theorem w_pdqXY (g c : Nat) (z : Int) (w : World) (h0 : w.cell? ⟨g, 0, none⟩ = some (.string sX)) (h1 : w.cell? ⟨g, 1, none⟩ = some (.string sY)) :
    Calls Tryz.prog 77 #[.slice (some ⟨g, 0, none⟩) 2 c, .int .i64 0, .int .i64 2, .int .i64 z] w fun e w' => e = .returned (.tuple #[]) ∧ Nx w w' := by
  go_enter Tryz.func77, Tryz.ntmps77
  go_wp2_with fail
  refine wp_loop_rounds 1 ?_
  rw [rounds_succ]
  go_wp2_with (go_at_call 112; refine (w_insXY g c w h0 h1).mono ?_; rintro e w1 ⟨rfl, hn1⟩)
  exact bodyPost_ret (results_none (by rfl) _ _ _) rfl ⟨rfl, hn1⟩
theorem w_Len (x : Int) (w : World) (h0 : 0 ≤ x) (h1 : x ≤ 1000000) : Calls Tryz.prog 73 #[.int .u64 x] w fun e w' => ∃ z : Int, e = .returned (.int .i64 z) ∧ w = w' :=
  (Any.bits_Len Tryz.bitsLen x w h0 (by omega)).mono fun _ _ ⟨h1, h2⟩ => ⟨_, h1, h2.symm⟩
theorem w_SortXY (g c : Nat) (w : World) (h0 : w.cell? ⟨g, 0, none⟩ = some (.string sX)) (h1 : w.cell? ⟨g, 1, none⟩ = some (.string sY)) :
    Calls Tryz.prog 55 #[.slice (some ⟨g, 0, none⟩) 2 c] w fun e w' => e = .returned (.tuple #[]) ∧ Nx w w' := by
  go_enter Tryz.func55, Tryz.ntmps55
  go_wp2_with (first
    | (go_at_call 73; refine (w_Len _ _ (by omega) (by omega)).mono ?_; rintro e w' ⟨z, rfl, rfl⟩)
    | (go_at_call 77; refine (w_pdqXY g c _ w h0 h1).mono ?_; rintro e w1 ⟨rfl, hn1⟩))
  go_end0
  exact ⟨rfl, hn1⟩
end Go.Proofs.YtfnbmcinbmbehaaGreatDoor
/- The walks of the smallest functions of numbers. -/
namespace Go.Proofs.YtfnbmcinbmbehaaGreatDoor
open Go.RowKit

theorem w_Moment (n : Int) (w : World) : Calls Tryz.prog 58 #[.int .i64 n] w fun e w' => e = .returned (.bool (momB n)) ∧ w = w' := by
  have H := hide (show outB n 0 345686399999 = outB n 0 lastMo from rfl)
  go_enter Tryz.func58, Tryz.ntmps58
  go_wp2_with (go_at_call 22; rw [show (345686399999 : Int) = lastMo from rfl]; refine (w_Out _ _ _ _).mono ?_; rintro e w' ⟨rfl, rfl⟩)
  go_ret
  exact ⟨ret_bool (by unfold momB; rfl), rfl⟩

theorem w_isPoint (x y : Int) (w : World) : Calls Tryz.prog 64 #[.int .i64 x, .int .i64 y] w fun e w' => e = .returned (.bool (isPtB x y)) ∧ w = w' := by
  go_enter Tryz.func64, Tryz.ntmps64
  cases h1 : outB x (-10000) 10000 <;> cases h2 : outB y (-10000) 10000
  all_goals
    go_wp2_with (go_at_call 22; refine (w_Out _ _ _ _).mono ?_; rintro e w' ⟨rfl, rfl⟩)
    go_ret
    exact ⟨ret_bool (by unfold isPtB; simp [h1, h2]), rfl⟩

end Go.Proofs.YtfnbmcinbmbehaaGreatDoor
/- road.TimeOn at an example. -/
namespace Go.Proofs.YtfnbmcinbmbehaaGreatDoor
open Go.RowKit

def sA : ByteArray := ⟨#[97]⟩
def exNodes : List Node := [⟨sX, 0, 0⟩, ⟨sY, 0, 0⟩]
def exKnots : List Knot := [⟨0, 100⟩, ⟨1000, 600⟩]
theorem ex_time : timeI exKnots 500 = 350 := by decide
theorem ex_knots : knotsF exKnots = 0 := by decide
theorem ex_key : keyB sA = true ∧ keyB sX = true ∧ keyB sY = true := by decide
theorem ex_le : strLe sY sX = false := by unfold strLe; rw [Lib.toList_data, Lib.toList_data]; decide
theorem ex_nodes : nodesF exNodes = 0 := by
  unfold nodesF exNodes
  rw [if_neg (by decide)]
  have h1 : nodeF none ⟨sX, 0, 0⟩ = 0 := by unfold nodeF; rw [ex_key.2.1]; decide
  have h2 : nodeF (some ⟨sX, 0, 0⟩) ⟨sY, 0, 0⟩ = 0 := by unfold nodeF; rw [ex_key.2.2]; simp only [ex_le]; decide
  simp only [chk, h1, h2, if_pos]
theorem ex_sort : SortN exNodes := by
  unfold SortN exNodes ltS
  simp [sX, sY]
  decide
theorem ex_at : nodeI exNodes sX = 0 ∧ nodeI exNodes sY = 1 := by decide
theorem ex_ne : (sX.toList == sY.toList) = false := by rw [Lib.toList_data, Lib.toList_data]; decide
theorem ex_small : SmallN exNodes := by
  intro s hs
  simp [exNodes] at hs
  rcases hs with rfl | rfl <;> decide
theorem el_Node : ElemOf Tryz.prog 101 103 3 32 := ElemOf.mk' (z := .agg #[.string ByteArray.empty, .int .i64 0, .int .i64 0]) Tryz.underlying101 (by kernel_rfl) rfl

set_option maxRecDepth 100000 in
set_option maxHeartbeats 1000000 in
theorem w_CompXY (g c : Nat) (w : World) (h0 : w.cell? ⟨g, 0, none⟩ = some (.string sX)) (h1 : w.cell? ⟨g, 1, none⟩ = some (.string sY)) :
    Calls Tryz.prog 56 #[.slice (some ⟨g, 0, none⟩) 2 c] w fun e w' => e = .returned (.slice (some ⟨g, 0, none⟩) 2 c) ∧ Nx w w' := by
  have hne : (sY.toList == sX.toList) = false := by rw [Lib.toList_data, Lib.toList_data]; decide
  go_enter Tryz.func56, Tryz.ntmps56
  go_wp2_with fail
  refine wp_loop_rounds 2 ?_
  rw [rounds_succ]
  go_wp2_with fail
  go_quiet (fail)
  go_wp2_with fail
  rw [rounds_succ]
  go_wp2_with fail
  go_ret
  exact ⟨rfl, (Nx.refl _).drewN _⟩

set_option maxRecDepth 100000 in
set_option maxHeartbeats 2000000 in
theorem w_TimeOnEx (lo : Nat) (B : Option Addr) (cb : Nat) (w : World) (hK : Rd w lo B 2 encKnot exKnots) :
    Calls Tryz.prog 35 #[.agg #[.string sA, .string sX, .string sY, .int .i64 5, .slice B 2 cb], .int .i64 500] w fun e w' => e = .returned (.tuple #[.int .i64 350, .int .i64 0]) ∧ Nx w w' := by
  have hm5 : momB 500 = true := by decide
  obtain ⟨wa, hwa⟩ : ∃ wa, wa = w.alloc (.cells #[.string sA, .string sX, .string sY, .int .i64 5, .slice B 2 cb] 69) := ⟨_, rfl⟩
  have hna : Nx w wa := hwa ▸ (Nx.refl w).alloc _
  have hgw : w.heap.size < wa.heap.size := by rw [hwa]; simp
  have b0 : wa.cell? ⟨w.heap.size, 0, none⟩ = some (.string sA) := by rw [hwa]; go_simp
  have b1 : wa.cell? ⟨w.heap.size, 1, none⟩ = some (.string sX) := by rw [hwa]; go_simp
  have b2 : wa.cell? ⟨w.heap.size, 2, none⟩ = some (.string sY) := by rw [hwa]; go_simp
  have b3 : wa.cell? ⟨w.heap.size, 3, none⟩ = some (.int .i64 5) := by rw [hwa]; go_simp
  have b4 : wa.cell? ⟨w.heap.size, 4, none⟩ = some (.slice B 2 cb) := by rw [hwa]; go_simp
  have HK := hide (fun W (hx : Nx wa W) => (hK.nx hna).nx hx)
  clear hK
  go_enter Tryz.func35, Tryz.ntmps35
  go_wp2_with fail
  rw [← hwa]
  obtain ⟨wb, hwb⟩ : ∃ wb, wb = wa.alloc (.cells #[.string sX, .string sY] 9) := ⟨_, rfl⟩
  rw [← hwb]
  have hsa : wa.heap.size = w.heap.size + 1 := by rw [hwa]; simp
  have hnb : Nx wa wb := hwb ▸ (Nx.refl wa).alloc _
  have hgb : w.heap.size + 1 < wb.heap.size := by rw [hwb]; simp; omega
  have k0 : wb.cell? ⟨w.heap.size + 1, 0, none⟩ = some (.string sX) := by rw [hwb]; exact World.cell?_alloc_at (hn := hsa.symm) ..
  have k1 : wb.cell? ⟨w.heap.size + 1, 1, none⟩ = some (.string sY) := by rw [hwb]; exact World.cell?_alloc_at (hn := hsa.symm) ..
  have HWA := hide hwa
  have HWB := hide hwb
  clear hwa hwb hsa
  obtain ⟨g1, hg1⟩ : ∃ g1, g1 = w.heap.size + 1 := ⟨_, rfl⟩
  rw [← hg1] at hgb k0 k1 ⊢
  clear hg1
  obtain ⟨g0, hg0⟩ : ∃ g0, g0 = w.heap.size := ⟨_, rfl⟩
  rw [← hg0] at hgw b0 b1 b2 b3 b4 ⊢
  clear hg0
  refine (w_SortXY _ _ _ k0 k1).mono ?_
  rintro e w1 ⟨rfl, hn1⟩
  have k2 := nx_cell hn1 hgb k0
  have k3 := nx_cell hn1 hgb k1
  have hgc := Nat.lt_of_lt_of_le hgb hn1.sz
  go_wp2_with fail
  refine (w_CompXY _ _ _ k2 k3).mono ?_
  rintro e w2 ⟨rfl, hn2⟩
  have k4 := nx_cell hn2 hgc k2
  have k5 := nx_cell hn2 hgc k3
  have hgd := Nat.lt_of_lt_of_le hgc hn2.sz
  have hx2 : Nx wa w2 := (hnb.trans hn1).trans hn2
  have hown0 : (w2.alloc (.cells #[.string sX, .int .i64 0, .int .i64 0] 103)).ownsRow w2.heap.size 103 3 (.slice none 0 0) ([] : List Node).length (([] : List Node).flatMap encNode) := World.ownsRow_nil _ _ _ _
  have HO0 := hide hown0
  clear hown0 k0 k1 k2 k3
  go_wp2_with fail
  refine wp_loop_rounds 3 ?_
  rw [rounds_succ]
  go_wp2_with (at_builtin; refine wpApp rfl _ _ _ rfl el_Node encNode encNode_len encNode_one (by omega) (by omega) w2.heap.size _ [] rfl HO0.out _ ⟨sX, 0, 0⟩ _ rfl (hnew rfl) rfl (by simp) (by simp) ?_; intro v3 w3 hown3 hg3)
  have hx3 : Nx w2 w3 := ((Nx.refl w2).alloc _).grown hg3 (own_blk_lt HO0.out)
  have k6 := nx_cell hx3 hgd k4
  have k7 := nx_cell hx3 hgd k5
  have HO3 := hide hown3
  clear hown3
  rw [rounds_succ]
  go_wp2_with (at_builtin; refine wpApp rfl _ _ _ rfl el_Node encNode encNode_len encNode_one (by omega) (by omega) w2.heap.size _ ([] ++ [⟨sX, 0, 0⟩]) rfl (HO3.out.alloc _) _ ⟨sY, 0, 0⟩ _ rfl (hnew rfl) rfl (by simp) (by have := hx3.sz; simp; omega) ?_; intro v4 w4 hown4 hg4)
  have hx4 : Nx w2 w4 := (hx3.alloc _).grown hg4 (own_blk_lt HO3.out)
  obtain ⟨A4, c4, ev, hR4, _⟩ := Rd.of_own encNode_len rfl hown4
  have ha4 : Nx wa w4 := hx2.trans hx4
  have d0 := nx_cell ha4 hgw b0
  have d1 := nx_cell ha4 hgw b1
  have d2 := nx_cell ha4 hgw b2
  have d3 := nx_cell ha4 hgw b3
  have d4 := nx_cell ha4 hgw b4
  have HR4 := hide hR4
  obtain rfl := ev
  clear hown4 hR4 k4 k5 k6 k7
  rw [rounds_succ]
  go_wp2_with fail
  have hx5 := (Nx.refl w4).alloc (.cells #[.string sA, .string sX, .string sY, .int .i64 5, .slice B 2 cb] 69)
  refine (w_CheckRoads1 w2.heap.size lo w4.heap.size 1 cb A4 B c4 exNodes exKnots sA sX sY 5 _ (HR4.out.nx hx5) ex_small (by decide) ex_nodes ex_sort (hnew rfl) (HK.out _ (ha4.trans hx5)) (by decide) ex_knots ex_key.1 (by decide) (by rw [ex_at.1]; decide) (by rw [ex_at.2]; decide) ex_ne (by decide)).mono ?_
  rintro e w5 ⟨rfl, hn5⟩
  have ha5 : Nx wa w5 := (ha4.trans hx5).trans hn5
  have e4 := nx_cell ha5 hgw b4
  go_wp2_with (first
    | (go_at_call 58; refine (w_Moment _ _).mono ?_; rintro e w' ⟨rfl, rfl⟩)
    | (go_at_call 59; refine (w_TimeD g0 lo B cb exKnots 500 _ e4 (Nat.lt_of_lt_of_le hgw ha5.sz) (HK.out _ ha5) (knotsF_chk ex_knots) (by omega)).mono ?_; rintro e w6 ⟨rfl, hn6⟩))
  go_ret2
  exact ⟨by rw [ex_time]; rfl, (hna.trans ha5).trans hn6⟩
end Go.Proofs.YtfnbmcinbmbehaaGreatDoor
/- An event for example. -/
namespace Go.Proofs.YtfnbmcinbmbehaaGreatDoor
open Go.RowKit

def sS : ByteArray := ⟨#[115]⟩
def sR : ByteArray := ⟨#[114]⟩
def exEv : Array Value := #[.string sS, .int .i64 1, .int .i64 0, .int .i64 1, .string sR, .string ⟨#[]⟩, .string ⟨#[]⟩, .int .i64 5, .int .i64 9, .string ⟨#[]⟩, .int .i64 0]
def bookB : ByteArray := ⟨#[98, 111, 111, 107]⟩
end Go.Proofs.YtfnbmcinbmbehaaGreatDoor
