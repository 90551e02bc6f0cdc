/- Roads of one arc that are right: the program's check. -/
import Derived.Test.YtfkmbeppckelfaaGreatDoorQG39
import Derived.Test.YtfkmbeppckelfaaGreatDoorQG45
import Derived.Test.YtfkmbeppckelfaaGreatDoorQRoadT
import Derived.Test.YtfkmbeppckelfaaGreatDoorQG1
import Derived.Test.YtfkmbeppckelfaaGreatDoorQShelfL
import Derived.Test.YtfkmbeppckelfaaGreatDoorQG5
import Derived.Deep.QuietTactic
import Derived.BigQuiet
import Derived.Deep.RegionHeld3
import Derived.StillTailTactics
import Derived.Laws.StructEq
namespace Go.Proofs.YtfkmbeppckelfaaGreatDoor
open Go.RowKit

set_option maxRecDepth 100000 in
set_option maxHeartbeats 2000000 in
theorem w_CheckRoads1 (lo lo' ga ca cb : Nat) (A B : Option Addr) (c : Nat) (l : List Node) (ks : List Knot) (key from_ to_ : ByteArray) (long : Int) (w : World)
    (hR : Rd w lo A 3 encNode l) (hS : SmallN l) (hl : l.length ≤ 500) (hn0 : nodesF l = 0) (hso : SortN l)
    (hga : w.heap[ga]? = some (.cells #[.string key, .string from_, .string to_, .int .i64 long, .slice B ks.length cb] 124 (0, 0))) (hK : Rd w lo' B 2 encKnot ks) (hkl : ks.length ≤ 48) (hk0 : knotsF ks = 0)
    (hkey : keyB key = true) (hks : key.size ≤ 1000000) (hfr : 0 ≤ nodeI l from_) (hto : 0 ≤ nodeI l to_) (hne : (from_.toList == to_.toList) = false) (hlo : outB long 1 1000000 = false) :
    Calls Tryz.prog 105 #[.agg #[.slice A l.length c, .slice (some ⟨ga, 0, none⟩) 1 ca, .slice none 0 0]] w fun e w' => e = .returned (.int .i64 0) ∧ Nx w w' := by
  obtain ⟨wa, hwa⟩ : ∃ wa, wa = w.alloc (.cells #[.slice A l.length c, .slice (some ⟨ga, 0, none⟩) 1 ca, .slice none 0 0] 172) := ⟨_, rfl⟩
  have hna : Nx w wa := hwa ▸ (Nx.refl w).alloc _
  have hgw : w.heap.size < wa.heap.size := by rw [hwa]; simp
  have b0 : wa.cell? ⟨w.heap.size, 0, none⟩ = some (.slice A l.length c) := by rw [hwa]; go_simp
  have b1 : wa.cell? ⟨w.heap.size, 1, none⟩ = some (.slice (some ⟨ga, 0, none⟩) 1 ca) := by rw [hwa]; go_simp
  have b2 : wa.cell? ⟨w.heap.size, 2, none⟩ = some (.slice none 0 0) := by rw [hwa]; go_simp
  have hgl : ga < w.heap.size := (Array.getElem?_eq_some_iff.1 hga).1
  have hgl' : ga < wa.heap.size := Nat.lt_of_lt_of_le hgl hna.sz
  have a0 := nx_cell hna hgl (cell_of_row w ga 0 _ _ _ hga)
  have a1 := nx_cell hna hgl (cell_of_row w ga 1 _ _ _ hga)
  have a2 := nx_cell hna hgl (cell_of_row w ga 2 _ _ _ hga)
  have a3 := nx_cell hna hgl (cell_of_row w ga 3 _ _ _ hga)
  have a4 := nx_cell hna hgl (cell_of_row w ga 4 _ _ _ hga)
  simp at a0 a1 a2 a3 a4
  have HNF := hide (w_nodesFaultR lo A c l wa (hR.nx hna) hS (by omega))
  rw [hn0] at HNF
  have HND := hide (fun s W (hx : Nx wa W) => w_nodeR w.heap.size lo A c l s W (nx_cell hx hgw b0) ((hR.nx hna).nx hx) (by omega) hso)
  have HKF := hide (fun W (hx : Nx wa W) => w_knotsFaultR lo' B cb ks W ((hK.nx hna).nx hx) (by omega))
  rw [hk0] at HKF
  have tf : decide (nodeI l from_ < 0) = false := by simpa using hfr
  have tt : decide (nodeI l to_ < 0) = false := by simpa using hto
  clear hR hS hn0 hso hga hK hk0
  generalize l.length = n at *
  generalize ks.length = m at *
  go_enter Tryz.func105, Tryz.ntmps105
  go_wp2_with fail
  rw [← hwa]
  refine HNF.out.mono ?_
  rintro e w1 ⟨rfl, hn1⟩
  have HWA := hide hwa
  clear hwa
  have A0 := nx_cell hn1 hgl' a0
  have A1 := nx_cell hn1 hgl' a1
  have A2 := nx_cell hn1 hgl' a2
  have A3 := nx_cell hn1 hgl' a3
  have A4 := nx_cell hn1 hgl' a4
  have B1 := nx_cell hn1 hgw b1
  have B2 := nx_cell hn1 hgw b2
  clear a0 a1 a2 a3 a4
  go_wp2_with fail
  refine wp_loop_rounds 2 ?_
  rw [rounds_succ]
  go_wp2_with (go_at_call 84; refine (w_Key _ _ hks).mono ?_; rintro e w' ⟨rfl, rfl⟩)
  go_quiet (fail)
  obtain ⟨w2, hw2⟩ : ∃ w2, w2 = (w1.alloc (.cells #[.string key, .string from_, .string to_, .int .i64 long, .slice B m cb] 124)).drewN nq := ⟨_, rfl⟩
  have hx2 : Nx w1 w2 := hw2 ▸ ((Nx.refl w1).alloc _).drewN _
  have hs2 : w1.heap.size < w2.heap.size := by rw [hw2]; simp
  have d1 : w2.cell? ⟨w1.heap.size, 1, none⟩ = some (.string from_) := by rw [hw2]; go_simp
  have d2 : w2.cell? ⟨w1.heap.size, 2, none⟩ = some (.string to_) := by rw [hw2]; go_simp
  have d3 : w2.cell? ⟨w1.heap.size, 3, none⟩ = some (.int .i64 long) := by rw [hw2]; go_simp
  have d4 : w2.cell? ⟨w1.heap.size, 4, none⟩ = some (.slice B m cb) := by rw [hw2]; go_simp
  rw [← hw2]
  have HW2 := hide hw2
  clear hw2 A0 A1 A2 A3 A4
  go_wp2_with fail
  refine (HND.out from_ _ (hn1.trans hx2)).mono ?_
  rintro e w3 ⟨rfl, hn3⟩
  have e1 := nx_cell hn3 hs2 d1
  have e2 := nx_cell hn3 hs2 d2
  have e3 := nx_cell hn3 hs2 d3
  have e4 := nx_cell hn3 hs2 d4
  have hs3 := Nat.lt_of_lt_of_le hs2 hn3.sz
  go_wp2_with fail
  refine (HND.out to_ _ ((hn1.trans hx2).trans hn3)).mono ?_
  rintro e w4 ⟨rfl, hn4⟩
  have f1 := nx_cell hn4 hs3 e1
  have f2 := nx_cell hn4 hs3 e2
  have f3 := nx_cell hn4 hs3 e3
  have f4 := nx_cell hn4 hs3 e4
  go_wp2_with (go_at_call 85; refine (w_Out _ _ _ _).mono ?_; rintro e w' ⟨rfl, rfl⟩)
  refine (HKF.out _ (((hn1.trans hx2).trans hn3).trans hn4)).mono ?_
  rintro e w5 ⟨rfl, hn5⟩
  have hx5 := (((hx2.trans hn3).trans hn4).trans hn5)
  have g2 := nx_cell hx5 (Nat.lt_of_lt_of_le hgw hn1.sz) B2
  go_wp2_with fail
  rw [rounds_succ]
  go_wp2_with fail
  refine wp_loop_rounds 1 ?_
  rw [rounds_succ]
  go_wp2_with fail
  go_ret
  exact ⟨rfl, (hna.trans hn1).trans hx5⟩
end Go.Proofs.YtfkmbeppckelfaaGreatDoor
/- Two strings, sorted already: the sort lets them be. -/
namespace Go.Proofs.YtfkmbeppckelfaaGreatDoor
open Go.RowKit Go.Proofs Go.Shelf

def sX : ByteArray := ⟨#[120]⟩
def sY : ByteArray := ⟨#[121]⟩
theorem w_isNaNS (a : ByteArray) (w : World) : Calls Tryz.prog 225 #[.string a] w fun e w' => e = .returned (.bool false) ∧ w = w' := by
  go_enter Tryz.func225, Tryz.ntmps225
  go_wp2
  go_ret
  exact ⟨rfl, rfl⟩
theorem w_LessYX (w : World) : Calls Tryz.prog 192 #[.string sY, .string sX] w fun e w' => e = .returned (.bool false) ∧ w = w' := by
  have t1 : Op.bytesLess sY.toList sX.toList = false := by rw [Lib.toList_data, Lib.toList_data]; decide
  go_enter Tryz.func192, Tryz.ntmps192
  go_wp2_with (go_at_call 225; refine (w_isNaNS _ _).mono ?_; rintro e w' ⟨rfl, rfl⟩)
  go_ret
  exact ⟨rfl, rfl⟩
set_option maxRecDepth 100000 in
set_option maxHeartbeats 1000000 in
theorem w_insXY (g c : Nat) (w : World) (h0 : w.cell? ⟨g, 0, none⟩ = some (.string sX)) (h1 : w.cell? ⟨g, 1, none⟩ = some (.string sY)) :
    Calls Tryz.prog 186 #[.slice (some ⟨g, 0, none⟩) 2 c, .int .i64 0, .int .i64 2] w fun e w' => e = .returned (.tuple #[]) ∧ Nx w w' := by
  go_enter Tryz.func186, Tryz.ntmps186
  go_wp2_with fail
  refine wp_loop_rounds 2 ?_
  rw [rounds_succ]
  go_wp2_with fail
  refine wp_loop_rounds 2 ?_
  rw [rounds_succ]
  go_wp2_with fail
  go_quiet ((go_at_call 192; exact Calls.quiet_of_same (flipc (w_LessYX _))))
  go_wp2_with fail
  rw [rounds_succ]
  go_wp2_with fail
  go_end0
  exact ⟨rfl, (Nx.refl _).drewN _⟩
set_option maxRecDepth 100000 in
set_option maxHeartbeats 1000000 in
theorem w_pdqXY (g c : Nat) (z : Int) (w : World) (h0 : w.cell? ⟨g, 0, none⟩ = some (.string sX)) (h1 : w.cell? ⟨g, 1, none⟩ = some (.string sY)) :
    Calls Tryz.prog 144 #[.slice (some ⟨g, 0, none⟩) 2 c, .int .i64 0, .int .i64 2, .int .i64 z] w fun e w' => e = .returned (.tuple #[]) ∧ Nx w w' := by
  go_enter Tryz.func144, Tryz.ntmps144
  go_wp2_with fail
  refine wp_loop_rounds 1 ?_
  rw [rounds_succ]
  go_wp2_with (go_at_call 186; refine (w_insXY g c w h0 h1).mono ?_; rintro e w1 ⟨rfl, hn1⟩)
  exact bodyPost_ret (results_none (by rfl) _ _ _) rfl ⟨rfl, hn1⟩
theorem w_Len (x : Int) (w : World) (h0 : 0 ≤ x) (h1 : x ≤ 1000000) : Calls Tryz.prog 89 #[.int .u64 x] w fun e w' => ∃ z : Int, e = .returned (.int .i64 z) ∧ w = w' :=
  (Any.bits_Len Tryz.bitsLen x w h0 (by omega)).mono fun _ _ ⟨h1, h2⟩ => ⟨_, h1, h2.symm⟩
theorem w_SortXY (g c : Nat) (w : World) (h0 : w.cell? ⟨g, 0, none⟩ = some (.string sX)) (h1 : w.cell? ⟨g, 1, none⟩ = some (.string sY)) :
    Calls Tryz.prog 101 #[.slice (some ⟨g, 0, none⟩) 2 c] w fun e w' => e = .returned (.tuple #[]) ∧ Nx w w' := by
  go_enter Tryz.func101, Tryz.ntmps101
  go_wp2_with (first
    | (go_at_call 89; refine (w_Len _ _ (by omega) (by omega)).mono ?_; rintro e w' ⟨z, rfl, rfl⟩)
    | (go_at_call 144; refine (w_pdqXY g c _ w h0 h1).mono ?_; rintro e w1 ⟨rfl, hn1⟩))
  go_end0
  exact ⟨rfl, hn1⟩
end Go.Proofs.YtfkmbeppckelfaaGreatDoor
/- road.TimeOn at an example. -/
namespace Go.Proofs.YtfkmbeppckelfaaGreatDoor
open Go.RowKit

def sA : ByteArray := ⟨#[97]⟩
def exNodes : List Node := [⟨sX, 0, 0⟩, ⟨sY, 0, 0⟩]
def exKnots : List Knot := [⟨0, 100⟩, ⟨1000, 600⟩]
theorem ex_time : timeI exKnots 500 = 350 := by decide
theorem ex_knots : knotsF exKnots = 0 := by decide
theorem ex_key : keyB sA = true ∧ keyB sX = true ∧ keyB sY = true := by decide
theorem ex_le : strLe sY sX = false := by unfold strLe; rw [Lib.toList_data, Lib.toList_data]; decide
theorem ex_nodes : nodesF exNodes = 0 := by
  unfold nodesF exNodes
  rw [if_neg (by decide)]
  have h1 : nodeF none ⟨sX, 0, 0⟩ = 0 := by unfold nodeF; rw [ex_key.2.1]; decide
  have h2 : nodeF (some ⟨sX, 0, 0⟩) ⟨sY, 0, 0⟩ = 0 := by unfold nodeF; rw [ex_key.2.2]; simp only [ex_le]; decide
  simp only [chk, h1, h2, if_pos]
theorem ex_sort : SortN exNodes := by
  unfold SortN exNodes ltS
  simp [sX, sY]
  decide
theorem ex_at : nodeI exNodes sX = 0 ∧ nodeI exNodes sY = 1 := by decide
theorem ex_ne : (sX.toList == sY.toList) = false := by rw [Lib.toList_data, Lib.toList_data]; decide
theorem ex_small : SmallN exNodes := by
  intro s hs
  simp [exNodes] at hs
  rcases hs with rfl | rfl <;> decide
theorem el_Node : ElemOf Tryz.prog 164 167 3 32 := ElemOf.mk' (z := .agg #[.string ByteArray.empty, .int .i64 0, .int .i64 0]) Tryz.underlying164 (by kernel_rfl) rfl

set_option maxRecDepth 100000 in
set_option maxHeartbeats 1000000 in
theorem w_CompXY (g c : Nat) (w : World) (h0 : w.cell? ⟨g, 0, none⟩ = some (.string sX)) (h1 : w.cell? ⟨g, 1, none⟩ = some (.string sY)) :
    Calls Tryz.prog 104 #[.slice (some ⟨g, 0, none⟩) 2 c] w fun e w' => e = .returned (.slice (some ⟨g, 0, none⟩) 2 c) ∧ Nx w w' := by
  have hne : (sY.toList == sX.toList) = false := by rw [Lib.toList_data, Lib.toList_data]; decide
  go_enter Tryz.func104, Tryz.ntmps104
  go_wp2_with fail
  refine wp_loop_rounds 2 ?_
  rw [rounds_succ]
  go_wp2_with fail
  go_quiet (fail)
  go_wp2_with fail
  rw [rounds_succ]
  go_wp2_with fail
  go_ret
  exact ⟨rfl, (Nx.refl _).drewN _⟩

set_option maxRecDepth 100000 in
set_option maxHeartbeats 2000000 in
theorem w_TimeOnEx (lo : Nat) (B : Option Addr) (cb : Nat) (w : World) (hK : Rd w lo B 2 encKnot exKnots) :
    Calls Tryz.prog 66 #[.agg #[.string sA, .string sX, .string sY, .int .i64 5, .slice B 2 cb], .int .i64 500] w fun e w' => e = .returned (.tuple #[.int .i64 350, .int .i64 0]) ∧ Nx w w' := by
  have hm5 : momB 500 = true := by decide
  obtain ⟨wa, hwa⟩ : ∃ wa, wa = w.alloc (.cells #[.string sA, .string sX, .string sY, .int .i64 5, .slice B 2 cb] 124) := ⟨_, rfl⟩
  have hna : Nx w wa := hwa ▸ (Nx.refl w).alloc _
  have hgw : w.heap.size < wa.heap.size := by rw [hwa]; simp
  have b0 : wa.cell? ⟨w.heap.size, 0, none⟩ = some (.string sA) := by rw [hwa]; go_simp
  have b1 : wa.cell? ⟨w.heap.size, 1, none⟩ = some (.string sX) := by rw [hwa]; go_simp
  have b2 : wa.cell? ⟨w.heap.size, 2, none⟩ = some (.string sY) := by rw [hwa]; go_simp
  have b3 : wa.cell? ⟨w.heap.size, 3, none⟩ = some (.int .i64 5) := by rw [hwa]; go_simp
  have b4 : wa.cell? ⟨w.heap.size, 4, none⟩ = some (.slice B 2 cb) := by rw [hwa]; go_simp
  have HK := hide (fun W (hx : Nx wa W) => (hK.nx hna).nx hx)
  clear hK
  go_enter Tryz.func66, Tryz.ntmps66
  go_wp2_with fail
  rw [← hwa]
  obtain ⟨wb, hwb⟩ : ∃ wb, wb = wa.alloc (.cells #[.string sX, .string sY] 9) := ⟨_, rfl⟩
  rw [← hwb]
  have hsa : wa.heap.size = w.heap.size + 1 := by rw [hwa]; simp
  have hnb : Nx wa wb := hwb ▸ (Nx.refl wa).alloc _
  have hgb : w.heap.size + 1 < wb.heap.size := by rw [hwb]; simp; omega
  have k0 : wb.cell? ⟨w.heap.size + 1, 0, none⟩ = some (.string sX) := by rw [hwb]; exact World.cell?_alloc_at (hn := hsa.symm) ..
  have k1 : wb.cell? ⟨w.heap.size + 1, 1, none⟩ = some (.string sY) := by rw [hwb]; exact World.cell?_alloc_at (hn := hsa.symm) ..
  have HWA := hide hwa
  have HWB := hide hwb
  clear hwa hwb hsa
  obtain ⟨g1, hg1⟩ : ∃ g1, g1 = w.heap.size + 1 := ⟨_, rfl⟩
  rw [← hg1] at hgb k0 k1 ⊢
  clear hg1
  obtain ⟨g0, hg0⟩ : ∃ g0, g0 = w.heap.size := ⟨_, rfl⟩
  rw [← hg0] at hgw b0 b1 b2 b3 b4 ⊢
  clear hg0
  refine (w_SortXY _ _ _ k0 k1).mono ?_
  rintro e w1 ⟨rfl, hn1⟩
  have k2 := nx_cell hn1 hgb k0
  have k3 := nx_cell hn1 hgb k1
  have hgc := Nat.lt_of_lt_of_le hgb hn1.sz
  go_wp2_with fail
  refine (w_CompXY _ _ _ k2 k3).mono ?_
  rintro e w2 ⟨rfl, hn2⟩
  have k4 := nx_cell hn2 hgc k2
  have k5 := nx_cell hn2 hgc k3
  have hgd := Nat.lt_of_lt_of_le hgc hn2.sz
  have hx2 : Nx wa w2 := (hnb.trans hn1).trans hn2
  have hown0 : (w2.alloc (.cells #[.string sX, .int .i64 0, .int .i64 0] 167)).ownsRow w2.heap.size 167 3 (.slice none 0 0) ([] : List Node).length (([] : List Node).flatMap encNode) := World.ownsRow_nil _ _ _ _
  have HO0 := hide hown0
  clear hown0 k0 k1 k2 k3
  go_wp2_with fail
  refine wp_loop_rounds 3 ?_
  rw [rounds_succ]
  go_wp2_with (at_builtin; refine wpApp rfl _ _ _ rfl el_Node encNode encNode_len encNode_one (by omega) (by omega) w2.heap.size _ [] rfl HO0.out _ ⟨sX, 0, 0⟩ _ rfl (hnew rfl) rfl (by simp) (by simp) ?_; intro v3 w3 hown3 hg3)
  have hx3 : Nx w2 w3 := ((Nx.refl w2).alloc _).grown hg3 (own_blk_lt HO0.out)
  have k6 := nx_cell hx3 hgd k4
  have k7 := nx_cell hx3 hgd k5
  have HO3 := hide hown3
  clear hown3
  rw [rounds_succ]
  go_wp2_with (at_builtin; refine wpApp rfl _ _ _ rfl el_Node encNode encNode_len encNode_one (by omega) (by omega) w2.heap.size _ ([] ++ [⟨sX, 0, 0⟩]) rfl (HO3.out.alloc _) _ ⟨sY, 0, 0⟩ _ rfl (hnew rfl) rfl (by simp) (by have := hx3.sz; simp; omega) ?_; intro v4 w4 hown4 hg4)
  have hx4 : Nx w2 w4 := (hx3.alloc _).grown hg4 (own_blk_lt HO3.out)
  obtain ⟨A4, c4, ev, hR4, _⟩ := Rd.of_own encNode_len rfl hown4
  have ha4 : Nx wa w4 := hx2.trans hx4
  have d0 := nx_cell ha4 hgw b0
  have d1 := nx_cell ha4 hgw b1
  have d2 := nx_cell ha4 hgw b2
  have d3 := nx_cell ha4 hgw b3
  have d4 := nx_cell ha4 hgw b4
  have HR4 := hide hR4
  obtain rfl := ev
  clear hown4 hR4 k4 k5 k6 k7
  rw [rounds_succ]
  go_wp2_with fail
  have hx5 := (Nx.refl w4).alloc (.cells #[.string sA, .string sX, .string sY, .int .i64 5, .slice B 2 cb] 124)
  refine (w_CheckRoads1 w2.heap.size lo w4.heap.size 1 cb A4 B c4 exNodes exKnots sA sX sY 5 _ (HR4.out.nx hx5) ex_small (by decide) ex_nodes ex_sort (hnew rfl) (HK.out _ (ha4.trans hx5)) (by decide) ex_knots ex_key.1 (by decide) (by rw [ex_at.1]; decide) (by rw [ex_at.2]; decide) ex_ne (by decide)).mono ?_
  rintro e w5 ⟨rfl, hn5⟩
  have ha5 : Nx wa w5 := (ha4.trans hx5).trans hn5
  have e4 := nx_cell ha5 hgw b4
  go_wp2_with (first
    | (go_at_call 86; refine (w_Moment _ _).mono ?_; rintro e w' ⟨rfl, rfl⟩)
    | (go_at_call 106; refine (w_TimeD g0 lo B cb exKnots 500 _ e4 (Nat.lt_of_lt_of_le hgw ha5.sz) (HK.out _ ha5) (knotsF_chk ex_knots) (by omega)).mono ?_; rintro e w6 ⟨rfl, hn6⟩))
  go_ret2
  exact ⟨by rw [ex_time]; rfl, (hna.trans ha5).trans hn6⟩
end Go.Proofs.YtfkmbeppckelfaaGreatDoor
/- An event for example. -/
namespace Go.Proofs.YtfkmbeppckelfaaGreatDoor
open Go.RowKit

def sS : ByteArray := ⟨#[115]⟩
def sR : ByteArray := ⟨#[114]⟩
def exEv : Array Value := #[.string sS, .int .i64 1, .int .i64 0, .int .i64 1, .string sR, .string ⟨#[]⟩, .string ⟨#[]⟩, .int .i64 5, .int .i64 9, .string ⟨#[]⟩, .int .i64 0]
def bookB : ByteArray := ⟨#[98, 111, 111, 107]⟩
end Go.Proofs.YtfkmbeppckelfaaGreatDoor
/- One event: the program's check of events. -/
namespace Go.Proofs.YtfkmbeppckelfaaGreatDoor
open Go.RowKit Go.Maps

/-- The event by itself is right. -/
def EvRight : Prop := ∀ W : World, Calls Tryz.prog 44 #[.agg exEv] W fun e w' => e = .returned (.int .i64 0) ∧ Nx W w'
set_option maxRecDepth 100000 in
set_option maxHeartbeats 4000000 in
theorem w_CheckEventsEx (hEF : EvRight) (g c : Nat) (w : World) (hg : w.heap[g]? = some (.cells exEv 31 (0, 0))) :
    Calls Tryz.prog 17 #[.slice (some ⟨g, 0, none⟩) 1 c] w fun e w' => e = .returned (.int .i64 0) ∧ Nx w w' := by
  have hgl : g < w.heap.size := (Array.getElem?_eq_some_iff.1 hg).1
  have a0 := cell_of_row w g 0 _ _ _ hg
  have a1 := cell_of_row w g 1 _ _ _ hg
  have a2 := cell_of_row w g 2 _ _ _ hg
  have a3 := cell_of_row w g 3 _ _ _ hg
  have a4 := cell_of_row w g 4 _ _ _ hg
  have a5 := cell_of_row w g 5 _ _ _ hg
  have a6 := cell_of_row w g 6 _ _ _ hg
  have a7 := cell_of_row w g 7 _ _ _ hg
  have a8 := cell_of_row w g 8 _ _ _ hg
  have a9 := cell_of_row w g 9 _ _ _ hg
  have a10 := cell_of_row w g 10 _ _ _ hg
  simp [exEv] at a0 a1 a2 a3 a4 a5 a6 a7 a8 a9 a10
  have hmm := @run_makeMap Tryz.prog
  have HEF := hide hEF
  unfold EvRight exEv at HEF
  clear hEF
  clear hg
  go_enter Tryz.func17, Tryz.ntmps17
  go_wp2_with fail
  clear hmm
  have hM0 : MpSI (w.alloc (.map #[] 0)) w.heap.size 0 (fun _ => none) := MgI.made w
  have HM0 := hide hM0
  clear hM0
  refine wp_loop_rounds 2 ?_
  rw [rounds_succ]
  go_wp2_with fail
  refine (HEF.out _).mono ?_
  rintro e w1 ⟨rfl, hn1⟩
  have hx1 : Nx (w.alloc (.map #[] 0)) w1 := ((Nx.refl _).alloc _).trans hn1
  have HM1 := hide (HM0.out.nx hx1)
  have hs1 : w.heap.size + 1 < w1.heap.size := by have := hn1.sz; simp at this; omega
  have d0 : w1.cell? ⟨w.heap.size + 1, 0, none⟩ = some (.string sS) := nx_cell hn1 (by simp) (show ((w.alloc (.map #[] 0)).alloc (.cells #[.string sS, .int .i64 1, .int .i64 0, .int .i64 1, .string sR, .string ⟨#[]⟩, .string ⟨#[]⟩, .int .i64 5, .int .i64 9, .string ⟨#[]⟩, .int .i64 0] 31)).cell? ⟨w.heap.size + 1, 0, none⟩ = some (.string sS) by go_simp)
  have d1 : w1.cell? ⟨w.heap.size + 1, 1, none⟩ = some (.int .i64 1) := nx_cell hn1 (by simp) (show ((w.alloc (.map #[] 0)).alloc (.cells #[.string sS, .int .i64 1, .int .i64 0, .int .i64 1, .string sR, .string ⟨#[]⟩, .string ⟨#[]⟩, .int .i64 5, .int .i64 9, .string ⟨#[]⟩, .int .i64 0] 31)).cell? ⟨w.heap.size + 1, 1, none⟩ = some (.int .i64 1) by go_simp)
  clear a0 a1 a2 a3 a4 a5 a6 a7 a8 a9 a10 HM0 HEF
  go_wp2_with fail
  go_quiet (fail)
  have hds : domS sS := by unfold domS; decide
  have hM2 := HM1.out.nx ((Nx.refl w1).drewN nq)
  go_wp2_with (first
    | (at_lookup; refine wpMgLook _ rfl _ _ _ rfl intE law_strE Tryz.underlying62 (by decide) (zeroIntE _) w.heap.size 0 _ rfl hM2 sS rfl hds _ (keyS_mk Tryz.underlying9 hds) ?_)
    | (at_mapUpdate; refine wpMgPut _ rfl _ _ _ _ rfl intE law_strE strV_inj Tryz.underlying62 w.heap.size 0 _ rfl hM2 (by decide) sS rfl hds _ (keyS_mk Tryz.underlying9 hds) 1 rfl (by decide) ?_; intro w2 hM3 hg2))
  obtain ⟨D3, ho3, _⟩ := hM3
  have hsz := ho3.size_le
  rw [rounds_succ]
  go_wp2_with (at_len; refine wpList_len_own _ rfl _ _ rfl 9 3 Tryz.underlying62 _ w.heap.size _ D3 rfl ho3 ?_)
  go_ret
  exact ⟨rfl, Nx.of_gr ((Gr.of_nx ((((Nx.refl w).alloc _).trans hx1).drewN _)).trans hg2) (Nat.le_refl _)⟩

theorem w_momentFaultEx (hEF : EvRight) (g c : Nat) (w : World) (hg : w.heap[g]? = some (.cells exEv 31 (0, 0))) :
    Calls Tryz.prog 58 #[.slice (some ⟨g, 0, none⟩) 1 c, .int .i64 3] w fun e w' => e = .returned (.int .i64 0) ∧ Nx w w' := by
  have HC := hide (w_CheckEventsEx hEF g c w hg)
  have hm3 : momB 3 = true := by decide
  clear hg
  go_enter Tryz.func58, Tryz.ntmps58
  go_wp2_with (first
    | (go_at_call 17; refine HC.out.mono ?_; rintro e w1 ⟨rfl, hn1⟩)
    | (go_at_call 86; refine (w_Moment _ _).mono ?_; rintro e w' ⟨rfl, rfl⟩))
  go_ret
  exact ⟨rfl, hn1⟩
end Go.Proofs.YtfkmbeppckelfaaGreatDoor
/- One event followed. -/
namespace Go.Proofs.YtfkmbeppckelfaaGreatDoor
open Go.RowKit Go.Maps

def exName : EvName := ⟨sS, 1⟩
set_option maxRecDepth 100000 in
set_option maxHeartbeats 4000000 in
theorem w_byNameEx (g c : Nat) (w : World) (hg : w.heap[g]? = some (.cells exEv 31 (0, 0))) :
    Calls Tryz.prog 47 #[.slice (some ⟨g, 0, none⟩) 1 c] w fun e w' => ∃ b : Nat, e = .returned (.map (some b)) ∧ w.heap.size ≤ b ∧ MpNI w' b 1 (fun k => if k = exName then some 0 else none) ∧ Nx w w' := by
  have a0 := cell_of_row w g 0 _ _ _ hg
  have a1 := cell_of_row w g 1 _ _ _ hg
  have a2 := cell_of_row w g 2 _ _ _ hg
  have a3 := cell_of_row w g 3 _ _ _ hg
  have a4 := cell_of_row w g 4 _ _ _ hg
  have a5 := cell_of_row w g 5 _ _ _ hg
  have a6 := cell_of_row w g 6 _ _ _ hg
  have a7 := cell_of_row w g 7 _ _ _ hg
  have a8 := cell_of_row w g 8 _ _ _ hg
  have a9 := cell_of_row w g 9 _ _ _ hg
  have a10 := cell_of_row w g 10 _ _ _ hg
  simp [exEv] at a0 a1 a2 a3 a4 a5 a6 a7 a8 a9 a10
  have hgl : g < w.heap.size := (Array.getElem?_eq_some_iff.1 hg).1
  have hmm := @run_makeMap Tryz.prog
  have hdn : domName exName := ⟨by decide, by decide⟩
  obtain ⟨kl, hkey⟩ := key_name exName hdn
  clear hg
  go_enter Tryz.func47, Tryz.ntmps47
  go_wp2_with fail
  clear hmm
  have hM0 : MpNI (w.alloc (.map #[] 0)) w.heap.size 0 (fun _ => none) := MgI.made w
  refine wp_loop_rounds 2 ?_
  rw [rounds_succ]
  go_wp2_with (at_mapUpdate; refine wpMgPut _ rfl _ _ _ _ rfl intE law_name ekName_inj Tryz.underlying79 w.heap.size 0 _ rfl (hM0.nx ((Nx.refl _).alloc _)) (by decide) exName rfl hdn _ hkey 0 rfl (by decide) ?_; intro w2 hM3 hg2)
  rw [rounds_succ]
  go_wp2_with fail
  go_ret
  exact ⟨_, rfl, Nat.le_refl _, hM3, Nx.of_gr ((Gr.of_nx (((Nx.refl w).alloc _).alloc _)).trans hg2) (Nat.le_refl _)⟩

theorem nx_heap {w w' : World} {p : Nat} {o : Obj} (hn : Nx w w') (h : w.heap[p]? = some o) : w'.heap[p]? = some o := (hn.block p (Array.getElem?_eq_some_iff.1 h).1).trans h
def exSt : Array Value := #[.string sR, .string ⟨#[]⟩, .int .i64 1, .int .i64 5, .int .i64 9, .int .i64 0, .int .i64 0]
/-- A booking, followed. -/
def Booked (rb : Nat) (w : World) (e : Ending) (w' : World) : Prop :=
  ∃ (A : Option Addr) (c p : Nat), e = .returned (.tuple #[.slice A 1 c, .int .i64 0]) ∧ w.heap.size ≤ p ∧ p ≠ rb ∧ w'.heap[p]? = some (.cells exSt 59 (0, 0)) ∧ MpSP w' rb 1 (fun k => if k = sR then some (some p) else none) ∧ Gr rb w w'
set_option maxRecDepth 100000 in
set_option maxHeartbeats 4000000 in
theorem w_stepEx (d rb nb : Nat) (w : World) (hdr : d ≠ rb) (hd : w.cell? ⟨d, 1, none⟩ = some (.map (some rb))) (hM : MpSP w rb 0 (fun _ => none)) :
    Calls Tryz.prog 90 #[.pointer (some ⟨d, 0, none⟩), .int .i64 0, .agg exEv, .map (some nb)] w (Booked rb w) := by
  have hdl : d < w.heap.size := World.block_lt_of_cell? w _ hd
  have hrl := hM.lt
  obtain ⟨wa, hwa⟩ : ∃ wa, wa = w.alloc (.cells #[.string sS, .int .i64 1, .int .i64 0, .int .i64 1, .string sR, .string ⟨#[]⟩, .string ⟨#[]⟩, .int .i64 5, .int .i64 9, .string ⟨#[]⟩, .int .i64 0] 31) := ⟨_, rfl⟩
  have hna : Nx w wa := hwa ▸ (Nx.refl w).alloc _
  have hgw : w.heap.size < wa.heap.size := by rw [hwa]; simp
  have hda := nx_cell hna hdl hd
  have hMa := hM.nx hna
  have hds : domS sR := by unfold domS; decide
  have hlk : ∀ n, (Instr.lookup 86 (.map (some rb)) (.string sR) false).run Tryz.prog (wa.drewN n) = .ok (.pointer none) (wa.drewN n) := fun n =>
    ((hMa.nx ((Nx.refl wa).drewN n)).look (z := (none : Option Nat)) elemPtr law_strE Tryz.underlying86 trivial (zeroPtrE _) hds (keyS_mk Tryz.underlying9 hds)).1
  unfold exEv
  go_enter Tryz.func90, Tryz.ntmps90
  go_wp2_with fail
  rw [← hwa]
  have b4 : wa.cell? ⟨w.heap.size, 4, none⟩ = some (.string sR) := by rw [hwa]; go_simp
  have b7 : wa.cell? ⟨w.heap.size, 7, none⟩ = some (.int .i64 5) := by rw [hwa]; go_simp
  have b8 : wa.cell? ⟨w.heap.size, 8, none⟩ = some (.int .i64 9) := by rw [hwa]; go_simp
  have HWA := hide hwa
  clear hwa
  have hlk0 := hlk 0
  have hlk1 := hlk 1
  go_quiet (fail)
  clear hlk hlk0 hlk1
  obtain ⟨wq, hwq⟩ : ∃ wq, wq = wa.drewN nq := ⟨_, rfl⟩
  have hnq : Nx wa wq := hwq ▸ (Nx.refl wa).drewN _
  rw [← hwq]
  have hgw' : w.heap.size < wq.heap.size := Nat.lt_of_lt_of_le hgw hnq.sz
  have hdq := nx_cell hnq (Nat.lt_of_lt_of_le hdl hna.sz) hda
  have c4 := nx_cell hnq hgw b4
  have c7 := nx_cell hnq hgw b7
  have c8 := nx_cell hnq hgw b8
  have hdq' : d < wq.heap.size := Nat.lt_of_lt_of_le hdl (hna.trans hnq).sz
  have hMq := (hMa.nx hnq).nx (((Nx.refl wq).alloc (.cells #[.string sR, .string ⟨#[]⟩, .int .i64 1, .int .i64 5, .int .i64 9, .int .i64 0, .int .i64 0] 59)).drew)
  obtain ⟨w3, hup, hM3, hg3⟩ := hMq.upd elemPtr law_strE strV_inj Tryz.underlying86 (by decide) hds (keyS_mk Tryz.underlying9 hds) (some wq.heap.size) trivial
  have HM3 := hide hM3
  have hup' : (Instr.mapUpdate 86 (.map (some rb)) (.string sR) (.pointer (some ⟨wq.heap.size, 0, none⟩))).run Tryz.prog (wq.alloc (.cells #[.string sR, .string ⟨#[]⟩, .int .i64 1, .int .i64 5, .int .i64 9, .int .i64 0, .int .i64 0] 59)).drew = .ok () w3 := hup
  clear hup hM3 hwq hMa hMq hM hda b4 b7 b8
  have hrb : rb ≠ w.heap.size := by omega
  have hrq : rb ≠ wq.heap.size := by omega
  have f4 : w3.cell? ⟨w.heap.size, 4, none⟩ = some (.string sR) := World.grownBy.cell hg3 (nx_cell (((Nx.refl wq).alloc _).drew) hgw' c4) (by simp; omega)
  have f1 : w3.cell? ⟨d, 1, none⟩ = some (.map (some rb)) := World.grownBy.cell hg3 (nx_cell (((Nx.refl wq).alloc _).drew) hdq' hdq) (by simp; omega)
  have f7 : w3.cell? ⟨w.heap.size, 7, none⟩ = some (.int .i64 5) := World.grownBy.cell hg3 (nx_cell (((Nx.refl wq).alloc _).drew) hgw' c7) (by simp; omega)
  have f8 : w3.cell? ⟨w.heap.size, 8, none⟩ = some (.int .i64 9) := World.grownBy.cell hg3 (nx_cell (((Nx.refl wq).alloc _).drew) hgw' c8) (by simp; omega)
  have HF := hide (And.intro f1 (And.intro f4 (And.intro f7 f8)))
  clear f1 f4 f7 f8
  go_wp2_with fail
  go_region_held3 (fun w' => w'.cell? ⟨d, 1, none⟩ = some (.map (some rb)) ∧ w'.cell? ⟨w.heap.size, 4, none⟩ = some (.string sR) ∧ w'.cell? ⟨w.heap.size, 7, none⟩ = some (.int .i64 5) ∧ w'.cell? ⟨w.heap.size, 8, none⟩ = some (.int .i64 9))
    (first | exact HF.out | go_keep)
    (fail)
  obtain ⟨f1, f4, f7, f8⟩ := HF.out
  have hp : w3.heap[wq.heap.size]? = some (.cells exSt 59 (0, 0)) := (hg3.block wq.heap.size (by simp) (by intro e; injection e with e; omega)).trans (heap_alloc_new wq _)
  have hgr : Gr rb w w3 := ((Gr.of_nx (((hna.trans hnq).alloc _).drew)).trans hg3)
  have hpl : w.heap.size ≤ wq.heap.size := by omega
  go_wp2_with fail
  go_ret2
  exact ⟨_, _, wq.heap.size, rfl, hpl, by omega, nx_heap ((Nx.refl w3).alloc _) hp, HM3.out.nx ((Nx.refl w3).alloc _), hgr.alloc _⟩
end Go.Proofs.YtfkmbeppckelfaaGreatDoor
/- One event followed: the day. -/
namespace Go.Proofs.YtfkmbeppckelfaaGreatDoor
open Go.RowKit Go.Maps

/-- The day behind one booking. -/
def DayEx (w : World) (e : Ending) (w' : World) : Prop :=
  ∃ (d rb p : Nat), e = .returned (.pointer (some ⟨d, 0, none⟩)) ∧ w'.cell? ⟨d, 1, none⟩ = some (.map (some rb)) ∧ w.heap.size ≤ p ∧ p ≠ rb ∧ w.heap.size ≤ rb ∧ w'.heap[p]? = some (.cells exSt 59 (0, 0)) ∧ MpSP w' rb 1 (fun k => if k = sR then some (some p) else none) ∧ Nx w w'
set_option maxRecDepth 100000 in
set_option maxHeartbeats 4000000 in
theorem w_followEx (g c : Nat) (w : World) (hg : w.heap[g]? = some (.cells exEv 31 (0, 0))) :
    Calls Tryz.prog 49 #[.slice (some ⟨g, 0, none⟩) 1 c, .int .i64 3, .nilFunc] w (DayEx w) := by
  have hgl : g < w.heap.size := (Array.getElem?_eq_some_iff.1 hg).1
  have hmm := @run_makeMap Tryz.prog
  have hnf : ∀ w, (binOp .neq 90 .nilFunc .nilFunc).run Tryz.prog w = .ok (.bool false) w := fun w => by kernel_rfl
  have hne : ¬ (⟨⟨#[]⟩, 0⟩ : EvName) = exName := by decide
  have HG := hide hg
  clear hg
  go_enter Tryz.func49, Tryz.ntmps49
  go_wp2_with fail
  obtain ⟨w5, hw5⟩ : ∃ w5, w5 = ((((w.alloc (.map #[] 0)).alloc (.map #[] 0)).alloc (.map #[] 0)).alloc (.map #[] 0)).alloc (.cells #[.slice (some ⟨g, 0, none⟩) 1 c, .map (some w.heap.size), .map (some (w.heap.size + 1)), .slice none 0 0, .map (some (w.heap.size + 1 + 1)), .map (some (w.heap.size + 1 + 1 + 1)), .nilFunc] 92) := ⟨_, rfl⟩
  have hx5 : Nx w w5 := hw5 ▸ (((((Nx.refl w).alloc _).alloc _).alloc _).alloc _).alloc _
  have hM5 : MpSP w5 w.heap.size 0 (fun _ => none) := by
    rw [hw5]; exact (MgI.made w).nx (((((Nx.refl _).alloc _).alloc _).alloc _).alloc _)
  have hG5 : MpII w5 (w.heap.size + 1 + 1) 0 (fun _ => none) := by
    have h : MpII (((w.alloc (.map #[] 0)).alloc (.map #[] 0)).alloc (.map #[] 0)) ((w.alloc (.map #[] 0)).alloc (.map #[] 0)).heap.size 0 (fun _ => none) := MgI.made ((w.alloc (.map #[] 0)).alloc (.map #[] 0))
    rw [show ((w.alloc (.map #[] 0)).alloc (.map #[] 0)).heap.size = w.heap.size + 1 + 1 by simp] at h
    rw [hw5]; exact h.nx (((Nx.refl _).alloc _).alloc _)
  have hd5 : w.heap.size + 1 + 1 + 1 + 1 < w5.heap.size := by rw [hw5]; simp
  have y1 : w5.cell? ⟨w.heap.size + 1 + 1 + 1 + 1, 1, none⟩ = some (.map (some w.heap.size)) := by rw [hw5]; go_simp
  have y4 : w5.cell? ⟨w.heap.size + 1 + 1 + 1 + 1, 4, none⟩ = some (.map (some (w.heap.size + 1 + 1))) := by rw [hw5]; go_simp
  have y6 : w5.cell? ⟨w.heap.size + 1 + 1 + 1 + 1, 6, none⟩ = some .nilFunc := by rw [hw5]; go_simp
  have hg5 := nx_heap hx5 HG.out
  rw [← hw5]
  clear hw5
  obtain ⟨rb, hrb⟩ : ∃ rb, rb = w.heap.size := ⟨_, rfl⟩
  rw [← hrb] at hM5 hG5 hd5 y1 y4 y6 ⊢
  refine (w_byNameEx g c w5 hg5).mono ?_
  rintro e w6 ⟨nb, rfl, hnb, hN6, hn6⟩
  have hM6 := hM5.nx hn6
  have hG6 := hG5.nx hn6
  have z1 := nx_cell hn6 hd5 y1
  have z4 := nx_cell hn6 hd5 y4
  have z6 := nx_cell hn6 hd5 y6
  have hd6 := Nat.lt_of_lt_of_le hd5 hn6.sz
  have hg6 := nx_heap hn6 hg5
  have hgl6 : g < w6.heap.size := (Array.getElem?_eq_some_iff.1 hg6).1
  have a0 := cell_of_row w6 g 0 _ _ _ hg6
  have a1 := cell_of_row w6 g 1 _ _ _ hg6
  have a2 := cell_of_row w6 g 2 _ _ _ hg6
  have a3 := cell_of_row w6 g 3 _ _ _ hg6
  have a4 := cell_of_row w6 g 4 _ _ _ hg6
  have a5 := cell_of_row w6 g 5 _ _ _ hg6
  have a6 := cell_of_row w6 g 6 _ _ _ hg6
  have a7 := cell_of_row w6 g 7 _ _ _ hg6
  have a8 := cell_of_row w6 g 8 _ _ _ hg6
  have a9 := cell_of_row w6 g 9 _ _ _ hg6
  have a10 := cell_of_row w6 g 10 _ _ _ hg6
  simp [exEv] at a0 a1 a2 a3 a4 a5 a6 a7 a8 a9 a10
  have HRB := hide hrb
  have HG5 := hide hg5
  have HG6 := hide hg6
  have hdn : domName ⟨⟨#[]⟩, 0⟩ := ⟨by decide, by decide⟩
  obtain ⟨kl, hkey⟩ := key_name ⟨⟨#[]⟩, 0⟩ hdn
  clear hmm hrb hM5 hG5 y1 y4 y6 hg5 hg6
  go_wp2_with fail
  refine wp_loop_rounds 2 ?_
  rw [rounds_succ]
  go_wp2_with (at_lookup; refine wpMgLookOk _ rfl _ _ _ rfl intE law_name Tryz.underlying79 (z := (0 : Int)) (by decide) (zeroIntE _) nb 1 _ rfl (hN6.nx ((Nx.refl _).alloc _)) ⟨⟨#[]⟩, 0⟩ rfl hdn _ hkey ?_)
  rw [rounds_succ]
  go_wp2_with fail
  refine wp_loop_rounds 2 ?_
  rw [rounds_succ]
  have hn8 : Nx w6 ((w6.alloc (.cells #[.string sS, .int .i64 1, .int .i64 0, .int .i64 1, .string sR, .string ⟨#[]⟩, .string ⟨#[]⟩, .int .i64 5, .int .i64 9, .string ⟨#[]⟩, .int .i64 0] 31)).alloc (.cells #[.string sS, .int .i64 1, .int .i64 0, .int .i64 1, .string sR, .string ⟨#[]⟩, .string ⟨#[]⟩, .int .i64 5, .int .i64 9, .string ⟨#[]⟩, .int .i64 0] 31)) := ((Nx.refl w6).alloc _).alloc _
  have k1 := nx_cell hn8 hd6 z1
  have k4 := nx_cell hn8 hd6 z4
  have k6 := nx_cell hn8 hd6 z6
  have hst := w_stepEx (rb + 1 + 1 + 1 + 1) rb nb _ (by omega) k1 (hM6.nx hn8)
  have HST := hide hst
  have HK6 := hide k6
  clear k1 k6 hst
  have hdi : domI 0 := by unfold domI; decide
  go_wp2_with (at_lookup; refine wpMgLookOk _ rfl _ _ _ rfl intE law_intE Tryz.underlying88 (z := (0 : Int)) (by decide) (zeroIntE _) (rb + 1 + 1) 0 _ rfl (hG6.nx (((Nx.refl _).alloc _).alloc _)) 0 rfl hdi _ (key_int hdi) ?_)
  have hst := HST.out
  unfold exEv at hst
  refine hst.mono ?_
  rintro e w9 ⟨A9, c9, p, rfl, hp1, hp2, hp3, hM9, hg9⟩
  have m6 : w9.cell? ⟨rb + 1 + 1 + 1 + 1, 6, none⟩ = some .nilFunc := World.grownBy.cell hg9 HK6.out (by simp; omega)
  have m1 : w9.cell? ⟨rb + 1 + 1 + 1 + 1, 1, none⟩ = some (.map (some rb)) := World.grownBy.cell hg9 (nx_cell hn8 hd6 z1) (by simp; omega)
  have hend : Nx w w9 := Nx.of_gr (((Gr.of_nx ((hx5.trans hn6).trans hn8))).trans hg9) (by rw [HRB.out]; exact Nat.le_refl _)
  have hpw : w.heap.size ≤ p := Nat.le_trans ((hx5.trans hn6).trans hn8).sz hp1
  clear hst HST HK6 k4 a0 a1 a2 a3 a4 a5 a6 a7 a8 a9 a10 z1 z4 z6
  go_wp2_with fail
  rw [rounds_succ]
  go_wp2_with fail
  go_ret
  exact ⟨_, rb, p, rfl, m1, hpw, hp2, by rw [HRB.out]; exact Nat.le_refl _, hp3, hM9, hend⟩
end Go.Proofs.YtfkmbeppckelfaaGreatDoor
/- The rides behind one booking. -/
namespace Go.Proofs.YtfkmbeppckelfaaGreatDoor
open Go.RowKit Go.Maps

theorem hMD_has {P : Program} {K : TypeId} {κ V : Type} {ek : κ → Value} {dom : κ → Prop} {dv : V → DataW Unit} {D : DataW Unit} {f : κ → Option V} (h : MgD P K ek dom dv D f) {k : κ} (hd : dom k) {l : Lit} (hkey : keyOf P K (ek k) = some l) : Maps.has D l = (f k).isSome := h.has_ hd hkey
theorem hA5' {w : World} {base : Nat} {e : TypeId} {c : Nat} (A : Option Addr) (h : ∀ a, A = some a → ∃ g, a = ⟨g, 0, none⟩ ∧ base ≤ g ∧ g < w.heap.size) {L : List Value} (ho : w.ownsRow base e 7 (.slice A 1 c) 1 L) : ∃ g, A = some ⟨g, 0, none⟩ ∧ base ≤ g ∧ g < w.heap.size := by
  rcases ho.2 with ⟨hv, h0⟩ | ⟨g, cap, cur, hv, _⟩
  · cases h0
  · injection hv with h1 _ _
    obtain ⟨g', e1, e2⟩ := h _ h1
    exact ⟨g', by rw [h1, e1], e2⟩
theorem el_State : ElemOf Tryz.prog 48 59 7 72 := ElemOf.mk' (z := .agg #[.string ByteArray.empty, .string ByteArray.empty, .int .i64 0, .int .i64 0, .int .i64 0, .int .i64 0, .int .i64 0]) Tryz.underlying48 (by kernel_rfl) rfl
def encSt (_ : Unit) : List Value := exSt.toList
theorem encSt_len (x : Unit) : (encSt x).length = 7 := rfl
theorem encSt_one (x : Unit) : ∀ v ∈ encSt x, v.oneCell' = true := by
  intro v hv; simp [encSt, exSt] at hv; rcases hv with rfl | rfl | rfl | rfl | rfl | rfl <;> rfl
set_option maxRecDepth 100000 in
set_option maxHeartbeats 1000000 in
theorem w_insSt (g c : Nat) (fv : Value) (w : World) :
    Calls Tryz.prog 134 #[.slice (some ⟨g, 0, none⟩) 1 c, .int .i64 0, .int .i64 1, fv] w fun e w' => e = .returned (.tuple #[]) ∧ w = w' := by
  go_enter Tryz.func134, Tryz.ntmps134
  go_wp2_with fail
  refine wp_loop_rounds 1 ?_
  rw [rounds_succ]
  go_wp2_with fail
  go_end0
  exact ⟨rfl, rfl⟩
set_option maxRecDepth 100000 in
set_option maxHeartbeats 1000000 in
theorem w_pdqSt (g c : Nat) (z : Int) (fv : Value) (w : World) :
    Calls Tryz.prog 98 #[.slice (some ⟨g, 0, none⟩) 1 c, .int .i64 0, .int .i64 1, .int .i64 z, fv] w fun e w' => e = .returned (.tuple #[]) ∧ w = w' := by
  go_enter Tryz.func98, Tryz.ntmps98
  go_wp2_with fail
  refine wp_loop_rounds 1 ?_
  rw [rounds_succ]
  go_wp2_with (go_at_call 134; refine (w_insSt g c fv w).mono ?_; rintro e w1 ⟨rfl, rfl⟩)
  exact bodyPost_ret (results_none (by rfl) _ _ _) rfl ⟨rfl, rfl⟩
theorem w_SortSt (g c : Nat) (fv : Value) (w : World) :
    Calls Tryz.prog 59 #[.slice (some ⟨g, 0, none⟩) 1 c, fv] w fun e w' => e = .returned (.tuple #[]) ∧ w = w' := by
  go_enter Tryz.func59, Tryz.ntmps59
  go_wp2_with (first
    | (go_at_call 89; refine (w_Len _ _ (by omega) (by omega)).mono ?_; rintro e w' ⟨z, rfl, rfl⟩)
    | (go_at_call 98; refine (w_pdqSt g c _ fv _).mono ?_; rintro e w1 ⟨rfl, rfl⟩))
  go_end0
  exact ⟨rfl, rfl⟩

set_option maxRecDepth 100000 in
set_option maxHeartbeats 4000000 in
theorem w_RidesEx (hEF : EvRight) (g c : Nat) (w : World) (hg : w.heap[g]? = some (.cells exEv 31 (0, 0))) :
    Calls Tryz.prog 28 #[.slice (some ⟨g, 0, none⟩) 1 c, .int .i64 3] w fun e w' => ∃ (A : Option Addr) (cc : Nat), e = .returned (.tuple #[.slice A 1 cc, .int .i64 0]) ∧ Nx w w' := by
  have HMF := hide (w_momentFaultEx hEF g c w hg)
  have HG := hide hg
  clear hg
  go_enter Tryz.func28, Tryz.ntmps28
  go_wp2_with fail
  refine HMF.out.mono ?_
  rintro e w1 ⟨rfl, hn1⟩
  have HFO := hide (w_followEx g c w1 (nx_heap hn1 HG.out))
  go_wp2_with fail
  refine HFO.out.mono ?_
  rintro e w2 ⟨d, rb, p, rfl, hd, hp1, hp2, hrb, hp3, hM, hn2⟩
  obtain ⟨D, hown, hMD⟩ := hM
  have hds : domS sR := by unfold domS; decide
  have hkl := keyS_mk (P := Tryz.prog) Tryz.underlying9 hds
  have hhas : Maps.has D (litS sR) = true := by rw [hMD.has_ hds hkl]; simp
  have hHAS := hide hhas
  have HMD := hide hMD
  clear hhas hMD
  go_wp2_with (at_range; refine wpList_range_own _ rfl _ _ rfl 9 105 law_strE Tryz.underlying86 _ rb 1 _ rfl hown ?_; intro w3 hrg3 hg3 hs3)
  go_frame
  have hx3 : Nx w2 w3 := (Nx.refl w2).grown hg3 (fun j hj => by cases hj)
  have hown0 : ∀ W : World, W.ownsRow (w2.heap.size + 1) 59 7 (.slice none 0 0) ([] : List Unit).length (([] : List Unit).flatMap encSt) := fun W => World.ownsRow_nil _ _ _ _
  have HO0 := hide hown0
  have HS3 := hide hs3
  clear hs3 hown0
  refine wp_loop_rounds 2 ?_
  rw [rounds_succ]
  go_wp2_with (at_next; refine wpList_next_ranges _ rfl _ rfl 9 law_strE ptrElem Value.string ptrV (fun key kl hkey => (by obtain ⟨x, rfl, _⟩ := keyS_inv Tryz.underlying9 hkey; exact ⟨x, rfl⟩)) (fun v y hv => (by obtain ⟨q, _, h, _⟩ := elemPtr.inv v y.1 y.2 hv; exact ⟨q, h⟩)) rb w2.heap.size 1 _ _ _ rfl hrg3 ?_ ?_)
  · intro _ hl0
    exact absurd (hl0 (litS sR)) (by rw [hHAS.out]; simp)
  · intro k c kl y ps w4 cnt4 hkey hlk hRv hat hrg4 hlt4 hg4 hs4 hen
    obtain ⟨k0, ek, hdk, rfl⟩ := keyS_inv Tryz.underlying9 hkey
    obtain rfl := strV_inj _ _ ek
    have hfs : (if k = sR then some (some p) else none : Option (Option Nat)).isSome = true := by
      rw [← hMD_has HMD.out hdk (keyS_mk Tryz.underlying9 hdk)]; exact hlk
    have hk : k = sR := by
      by_cases e : k = sR
      · exact e
      · rw [if_neg e] at hfs; cases hfs
    subst hk
    have hc : c = some p := by
      obtain ⟨q, _, e1, e2⟩ := elemPtr.inv _ _ _ hRv
      have e3 := HMD.out.at_ sR (litS sR) hds hkl (.lit (.bool true))
      rw [hat] at e3
      simp at e3
      rw [e2] at e3
      have e4 := elemPtr.inj _ _ e3
      subst e4
      cases c with
      | none => cases e1
      | some q2 => simp [ptrV] at e1; rw [e1]
    subst hc
    have hpl : p < w2.heap.size := (Array.getElem?_eq_some_iff.1 hp3).1
    have hrl : rb < w2.heap.size := hown.lt
    have hp4 : w4.heap[p]? = some (.cells exSt 59 (0, 0)) := (hg4.block p (Nat.lt_of_lt_of_le hpl hx3.sz) (by intro e; injection e with e; omega)).trans (nx_heap hx3 hp3)
    have b0 := cell_of_row w4 p 0 _ _ _ hp4
    have b1 := cell_of_row w4 p 1 _ _ _ hp4
    have b2 := cell_of_row w4 p 2 _ _ _ hp4
    have b3 := cell_of_row w4 p 3 _ _ _ hp4
    have b4 := cell_of_row w4 p 4 _ _ _ hp4
    have b5 := cell_of_row w4 p 5 _ _ _ hp4
    have b6 := cell_of_row w4 p 6 _ _ _ hp4
    simp [exSt] at b0 b1 b2 b3 b4 b5 b6
    have hsz4 : w2.heap.size < w4.heap.size := by rw [hs4, HS3.out]; omega
    have hen' : (Instr.entry (.pointer (some ⟨w2.heap.size, 0, none⟩))).run Tryz.prog w4 = .ok (.tuple #[.string sR, .pointer (some ⟨p, 0, none⟩)]) w4 := hen
    have hx4 : Nx w2 w4 := hx3.grown hg4 (fun j hj => by injection hj with hj; omega)
    clear hen hp4 hs4 hRv hat
    go_wp2_with (at_builtin; refine wpApp rfl _ _ _ rfl el_State encSt encSt_len encSt_one (by omega) (by omega) (w2.heap.size + 1) _ [] rfl (HO0.out _) _ () _ rfl (hnew rfl) rfl (by simp) (by simp; omega) ?_; intro v5 w5 hown5 hg5)
    have hrg5 := (hrg4.alloc (.cells exSt 59)).kept hg5 (fun e => by cases e) (fun e => by cases e)
    have hx5 : Nx w2 w5 := (hx4.alloc _).grown hg5 (fun j hj => by cases hj)
    obtain ⟨A5, c5, ev, _, hA5⟩ := Rd.of_own encSt_len rfl hown5
    obtain rfl := ev
    have HL := hide hlk
    clear hlk hlt4 b0 b1 b2 b3 b4 b5 b6
    rw [rounds_succ]
    go_wp2_with (at_next; refine wpList_next_ranges _ rfl _ rfl 9 law_strE ptrElem Value.string ptrV (fun key kl hkey => (by obtain ⟨x, rfl, _⟩ := keyS_inv Tryz.underlying9 hkey; exact ⟨x, rfl⟩)) (fun v y hv => (by obtain ⟨q, _, h, _⟩ := elemPtr.inv v y.1 y.2 hv; exact ⟨q, h⟩)) rb w2.heap.size 1 _ _ _ rfl hrg5 ?_ ?_)
    · intro _ hl0
      obtain ⟨g5, hg5e, _, _⟩ := hA5' A5 hA5 hown5
      subst hg5e
      go_wp2_with (go_at_call 59; refine (w_SortSt g5 c5 _ _).mono ?_; rintro e w6 ⟨rfl, rfl⟩)
      go_ret2
      exact ⟨_, _, rfl, (hn1.trans hn2).trans hx5⟩
    · intro k c kl y' ps' w6 cnt6 hkey6 hlk6 hsk6 _ _ _ _ _ _ _
      exfalso
      obtain ⟨k0, ek, hdk6, rfl⟩ := keyS_inv Tryz.underlying9 hkey6
      obtain rfl := strV_inj _ _ ek
      have hfs : (if k = sR then some (some p) else none : Option (Option Nat)).isSome = true := by
        rw [← hMD_has HMD.out hdk6 (keyS_mk Tryz.underlying9 hdk6)]; exact hlk6
      have hk : k = sR := by
        by_cases e : k = sR
        · exact e
        · rw [if_neg e] at hfs; cases hfs
      rw [hk, sameS_self] at hsk6
      cases hsk6
end Go.Proofs.YtfkmbeppckelfaaGreatDoor
/- Structs by value, small loops over lists. -/
namespace Go.Proofs.YtfkmbeppckelfaaGreatDoor
open Go.RowKit

theorem w_CellOf_yes (x y size : Int) (w : World) (h1 : isPtB x y = true) (h2 : outB size 1 10000 = false) :
    Calls Tryz.prog 68 #[.int .i64 x, .int .i64 y, .int .i64 size] w fun e w' => e = .returned (.tuple #[.agg #[.int .i64 (x / size), .int .i64 (y / size)], .int .i64 0]) ∧ Nx w w' := by
  have g1 := isPtB_true.1 h1
  have g2 := outB_false.1 h2
  go_enter Tryz.func68, Tryz.ntmps68
  go_wp2_with (first | (go_at_call 108; refine (w_isPoint _ _ _).mono ?_; rintro e w' ⟨rfl, rfl⟩) | (go_at_call 85; refine (w_Out _ _ _ _).mono ?_; rintro e w' ⟨rfl, rfl⟩) | (go_at_call 109; refine (w_Down _ _ _ (by omega) (by omega)).mono ?_; rintro e w' ⟨rfl, rfl⟩))
  exact bodyPost_ret (v := .tuple #[.agg #[.int .i64 (x / size), .int .i64 (y / size)], .int .i64 0]) (by simp [results, Tryz.results68, go_sem]) rfl ⟨rfl, (Nx.refl _).alloc _⟩

end Go.Proofs.YtfkmbeppckelfaaGreatDoor
/- '==' and '!=' on structs. -/
namespace Go.Proofs.YtfkmbeppckelfaaGreatDoor
open Go.RowKit

theorem sin_Cell (d : Nat) (x y a b : Int) (w : World) : (Op.equalIn (d + 2) 127 (.agg #[.int .i64 x, .int .i64 y]) (.agg #[.int .i64 a, .int .i64 b])).run Tryz.prog w = .ok (x == a && y == b) w := by
  have u3 := Tryz.underlying3
  have a3 := Tryz.isAgg3
  have z3 := Tryz.sizeOf3
  have hS : Tryz.prog.underlying 127 = some (.struct (Tryz.prog.fieldsOf 127)) := by kernel_rfl
  have hp : Tryz.prog.stoodInHeld 127 = false := by kernel_rfl
  rw [run_equalIn_agg w (d + 1) 127 _ _ hS hp]
  simp only [Program.fieldsOf, Tryz.underlying127]
  go_simp
  by_cases h1 : x = a <;> by_cases h2 : y = b <;> simp [h1, h2]
theorem neq_Cell (x y a b : Int) (w : World) : (binOp .neq 127 (.agg #[.int .i64 x, .int .i64 y]) (.agg #[.int .i64 a, .int .i64 b])).run Tryz.prog w = .ok (.bool (!(x == a && y == b))) w := by
  rw [run_neq_struct, show (10000 : Nat) = 9998 + 2 from rfl, sin_Cell]; rfl
theorem eql_Cell (x y a b : Int) (w : World) : (binOp .eql 127 (.agg #[.int .i64 x, .int .i64 y]) (.agg #[.int .i64 a, .int .i64 b])).run Tryz.prog w = .ok (.bool (x == a && y == b)) w := by
  rw [run_eql_struct, show (10000 : Nat) = 9998 + 2 from rfl, sin_Cell]; rfl
end Go.Proofs.YtfkmbeppckelfaaGreatDoor
