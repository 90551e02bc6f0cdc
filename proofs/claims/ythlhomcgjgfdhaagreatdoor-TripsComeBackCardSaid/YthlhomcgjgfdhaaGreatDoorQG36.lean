/- Roads of one arc that are right: the program's check. -/
import Derived.Test.YthlhomcgjgfdhaaGreatDoorQG32
import Derived.Test.YthlhomcgjgfdhaaGreatDoorQRoadF
import Derived.Test.YthlhomcgjgfdhaaGreatDoorQRoadT
import Derived.Test.YthlhomcgjgfdhaaGreatDoorQG8
import Derived.Test.YthlhomcgjgfdhaaGreatDoorQShelfL
import Derived.Test.YthlhomcgjgfdhaaGreatDoorQG19
import Derived.Maps.Keyed
import Derived.DeepKeys4
import Derived.KernelRfl
import Derived.Test.YthlhomcgjgfdhaaGreatDoorQG0
import Derived.Maps.Own
import Derived.Maps.OwnOps
import Derived.Maps.OwnSet
import Derived.Maps.Views
import Derived.Maps.RangeWalk
namespace Go.Proofs.YthlhomcgjgfdhaaGreatDoor
open Go.RowKit

set_option maxRecDepth 100000 in
set_option maxHeartbeats 2000000 in
theorem w_CheckRoads1 (lo lo' ga ca cb : Nat) (A B : Option Addr) (c : Nat) (l : List Node) (ks : List Knot) (key from_ to_ : ByteArray) (long : Int) (w : World)
    (hR : Rd w lo A 3 encNode l) (hS : SmallN l) (hl : l.length ≤ 500) (hn0 : nodesF l = 0) (hso : SortN l)
    (hga : w.heap[ga]? = some (.cells #[.string key, .string from_, .string to_, .int .i64 long, .slice B ks.length cb] 125 (0, 0))) (hK : Rd w lo' B 2 encKnot ks) (hkl : ks.length ≤ 48) (hk0 : knotsF ks = 0)
    (hkey : keyB key = true) (hks : key.size ≤ 1000000) (hfr : 0 ≤ nodeI l from_) (hto : 0 ≤ nodeI l to_) (hne : (from_.toList == to_.toList) = false) (hlo : outB long 1 1000000 = false) :
    Calls Tryz.prog 114 #[.agg #[.slice A l.length c, .slice (some ⟨ga, 0, none⟩) 1 ca, .slice none 0 0]] w fun e w' => e = .returned (.int .i64 0) ∧ Nx w w' := by
  obtain ⟨wa, hwa⟩ : ∃ wa, wa = w.alloc (.cells #[.slice A l.length c, .slice (some ⟨ga, 0, none⟩) 1 ca, .slice none 0 0] 161) := ⟨_, rfl⟩
  have hna : Nx w wa := hwa ▸ (Nx.refl w).alloc _
  have hgw : w.heap.size < wa.heap.size := by rw [hwa]; simp
  have b0 : wa.cell? ⟨w.heap.size, 0, none⟩ = some (.slice A l.length c) := by rw [hwa]; go_simp
  have b1 : wa.cell? ⟨w.heap.size, 1, none⟩ = some (.slice (some ⟨ga, 0, none⟩) 1 ca) := by rw [hwa]; go_simp
  have b2 : wa.cell? ⟨w.heap.size, 2, none⟩ = some (.slice none 0 0) := by rw [hwa]; go_simp
  have hgl : ga < w.heap.size := (Array.getElem?_eq_some_iff.1 hga).1
  have hgl' : ga < wa.heap.size := Nat.lt_of_lt_of_le hgl hna.sz
  have a0 := nx_cell hna hgl (cell_of_row w ga 0 _ _ _ hga)
  have a1 := nx_cell hna hgl (cell_of_row w ga 1 _ _ _ hga)
  have a2 := nx_cell hna hgl (cell_of_row w ga 2 _ _ _ hga)
  have a3 := nx_cell hna hgl (cell_of_row w ga 3 _ _ _ hga)
  have a4 := nx_cell hna hgl (cell_of_row w ga 4 _ _ _ hga)
  simp at a0 a1 a2 a3 a4
  have HNF := hide (w_nodesFaultR lo A c l wa (hR.nx hna) hS (by omega))
  rw [hn0] at HNF
  have HND := hide (fun s W (hx : Nx wa W) => w_nodeR w.heap.size lo A c l s W (nx_cell hx hgw b0) ((hR.nx hna).nx hx) (by omega) hso)
  have HKF := hide (fun W (hx : Nx wa W) => w_knotsFaultR lo' B cb ks W ((hK.nx hna).nx hx) (by omega))
  rw [hk0] at HKF
  have tf : decide (nodeI l from_ < 0) = false := by simpa using hfr
  have tt : decide (nodeI l to_ < 0) = false := by simpa using hto
  clear hR hS hn0 hso hga hK hk0
  generalize l.length = n at *
  generalize ks.length = m at *
  go_enter Tryz.func114, Tryz.ntmps114
  go_wp2_with fail
  rw [← hwa]
  refine HNF.out.mono ?_
  rintro e w1 ⟨rfl, hn1⟩
  have HWA := hide hwa
  clear hwa
  have A0 := nx_cell hn1 hgl' a0
  have A1 := nx_cell hn1 hgl' a1
  have A2 := nx_cell hn1 hgl' a2
  have A3 := nx_cell hn1 hgl' a3
  have A4 := nx_cell hn1 hgl' a4
  have B1 := nx_cell hn1 hgw b1
  have B2 := nx_cell hn1 hgw b2
  clear a0 a1 a2 a3 a4
  go_wp2_with fail
  refine wp_loop_rounds 2 ?_
  rw [rounds_succ]
  go_wp2_with (go_at_call 104; refine (w_Key _ _ hks).mono ?_; rintro e w' ⟨rfl, rfl⟩)
  go_quiet (fail)
  obtain ⟨w2, hw2⟩ : ∃ w2, w2 = (w1.alloc (.cells #[.string key, .string from_, .string to_, .int .i64 long, .slice B m cb] 125)).drewN nq := ⟨_, rfl⟩
  have hx2 : Nx w1 w2 := hw2 ▸ ((Nx.refl w1).alloc _).drewN _
  have hs2 : w1.heap.size < w2.heap.size := by rw [hw2]; simp
  have d1 : w2.cell? ⟨w1.heap.size, 1, none⟩ = some (.string from_) := by rw [hw2]; go_simp
  have d2 : w2.cell? ⟨w1.heap.size, 2, none⟩ = some (.string to_) := by rw [hw2]; go_simp
  have d3 : w2.cell? ⟨w1.heap.size, 3, none⟩ = some (.int .i64 long) := by rw [hw2]; go_simp
  have d4 : w2.cell? ⟨w1.heap.size, 4, none⟩ = some (.slice B m cb) := by rw [hw2]; go_simp
  rw [← hw2]
  have HW2 := hide hw2
  clear hw2 A0 A1 A2 A3 A4
  go_wp2_with fail
  refine (HND.out from_ _ (hn1.trans hx2)).mono ?_
  rintro e w3 ⟨rfl, hn3⟩
  have e1 := nx_cell hn3 hs2 d1
  have e2 := nx_cell hn3 hs2 d2
  have e3 := nx_cell hn3 hs2 d3
  have e4 := nx_cell hn3 hs2 d4
  have hs3 := Nat.lt_of_lt_of_le hs2 hn3.sz
  go_wp2_with fail
  refine (HND.out to_ _ ((hn1.trans hx2).trans hn3)).mono ?_
  rintro e w4 ⟨rfl, hn4⟩
  have f1 := nx_cell hn4 hs3 e1
  have f2 := nx_cell hn4 hs3 e2
  have f3 := nx_cell hn4 hs3 e3
  have f4 := nx_cell hn4 hs3 e4
  go_wp2_with (go_at_call 49; refine (w_Out _ _ _ _).mono ?_; rintro e w' ⟨rfl, rfl⟩)
  refine (HKF.out _ (((hn1.trans hx2).trans hn3).trans hn4)).mono ?_
  rintro e w5 ⟨rfl, hn5⟩
  have hx5 := (((hx2.trans hn3).trans hn4).trans hn5)
  have g2 := nx_cell hx5 (Nat.lt_of_lt_of_le hgw hn1.sz) B2
  go_wp2_with fail
  rw [rounds_succ]
  go_wp2_with fail
  refine wp_loop_rounds 1 ?_
  rw [rounds_succ]
  go_wp2_with fail
  go_ret
  exact ⟨rfl, (hna.trans hn1).trans hx5⟩
end Go.Proofs.YthlhomcgjgfdhaaGreatDoor
/- Two strings, sorted already: the sort lets them be. -/
namespace Go.Proofs.YthlhomcgjgfdhaaGreatDoor
open Go.RowKit Go.Proofs Go.Shelf

def sX : ByteArray := ⟨#[120]⟩
def sY : ByteArray := ⟨#[121]⟩
theorem w_isNaNS (a : ByteArray) (w : World) : Calls Tryz.prog 240 #[.string a] w fun e w' => e = .returned (.bool false) ∧ w = w' := by
  go_enter Tryz.func240, Tryz.ntmps240
  go_wp2
  go_ret
  exact ⟨rfl, rfl⟩
theorem w_LessYX (w : World) : Calls Tryz.prog 193 #[.string sY, .string sX] w fun e w' => e = .returned (.bool false) ∧ w = w' := by
  have t1 : Op.bytesLess sY.toList sX.toList = false := by rw [Lib.toList_data, Lib.toList_data]; decide
  go_enter Tryz.func193, Tryz.ntmps193
  go_wp2_with (go_at_call 240; refine (w_isNaNS _ _).mono ?_; rintro e w' ⟨rfl, rfl⟩)
  go_ret
  exact ⟨rfl, rfl⟩
set_option maxRecDepth 100000 in
set_option maxHeartbeats 1000000 in
theorem w_insXY (g c : Nat) (w : World) (h0 : w.cell? ⟨g, 0, none⟩ = some (.string sX)) (h1 : w.cell? ⟨g, 1, none⟩ = some (.string sY)) :
    Calls Tryz.prog 187 #[.slice (some ⟨g, 0, none⟩) 2 c, .int .i64 0, .int .i64 2] w fun e w' => e = .returned (.tuple #[]) ∧ Nx w w' := by
  go_enter Tryz.func187, Tryz.ntmps187
  go_wp2_with fail
  refine wp_loop_rounds 2 ?_
  rw [rounds_succ]
  go_wp2_with fail
  refine wp_loop_rounds 2 ?_
  rw [rounds_succ]
  go_wp2_with fail
  go_quiet ((go_at_call 193; exact Calls.quiet_of_same (flipc (w_LessYX _))))
  go_wp2_with fail
  rw [rounds_succ]
  go_wp2_with fail
  go_end0
  exact ⟨rfl, (Nx.refl _).drewN _⟩
set_option maxRecDepth 100000 in
set_option maxHeartbeats 1000000 in
theorem w_pdqXY (g c : Nat) (z : Int) (w : World) (h0 : w.cell? ⟨g, 0, none⟩ = some (.string sX)) (h1 : w.cell? ⟨g, 1, none⟩ = some (.string sY)) :
    Calls Tryz.prog 152 #[.slice (some ⟨g, 0, none⟩) 2 c, .int .i64 0, .int .i64 2, .int .i64 z] w fun e w' => e = .returned (.tuple #[]) ∧ Nx w w' := by
  go_enter Tryz.func152, Tryz.ntmps152
  go_wp2_with fail
  refine wp_loop_rounds 1 ?_
  rw [rounds_succ]
  go_wp2_with (go_at_call 187; refine (w_insXY g c w h0 h1).mono ?_; rintro e w1 ⟨rfl, hn1⟩)
  exact bodyPost_ret (results_none (by rfl) _ _ _) rfl ⟨rfl, hn1⟩
theorem w_Len (x : Int) (w : World) (h0 : 0 ≤ x) (h1 : x ≤ 1000000) : Calls Tryz.prog 153 #[.int .u64 x] w fun e w' => ∃ z : Int, e = .returned (.int .i64 z) ∧ w = w' :=
  (Any.bits_Len Tryz.bitsLen x w h0 (by omega)).mono fun _ _ ⟨h1, h2⟩ => ⟨_, h1, h2.symm⟩
theorem w_SortXY (g c : Nat) (w : World) (h0 : w.cell? ⟨g, 0, none⟩ = some (.string sX)) (h1 : w.cell? ⟨g, 1, none⟩ = some (.string sY)) :
    Calls Tryz.prog 112 #[.slice (some ⟨g, 0, none⟩) 2 c] w fun e w' => e = .returned (.tuple #[]) ∧ Nx w w' := by
  go_enter Tryz.func112, Tryz.ntmps112
  go_wp2_with (first
    | (go_at_call 153; refine (w_Len _ _ (by omega) (by omega)).mono ?_; rintro e w' ⟨z, rfl, rfl⟩)
    | (go_at_call 152; refine (w_pdqXY g c _ w h0 h1).mono ?_; rintro e w1 ⟨rfl, hn1⟩))
  go_end0
  exact ⟨rfl, hn1⟩
end Go.Proofs.YthlhomcgjgfdhaaGreatDoor
/- road.TimeOn at an example. -/
namespace Go.Proofs.YthlhomcgjgfdhaaGreatDoor
open Go.RowKit

def sA : ByteArray := ⟨#[97]⟩
def exNodes : List Node := [⟨sX, 0, 0⟩, ⟨sY, 0, 0⟩]
def exKnots : List Knot := [⟨0, 100⟩, ⟨1000, 600⟩]
theorem ex_time : timeI exKnots 500 = 350 := by decide
theorem ex_knots : knotsF exKnots = 0 := by decide
theorem ex_key : keyB sA = true ∧ keyB sX = true ∧ keyB sY = true := by decide
theorem ex_le : strLe sY sX = false := by unfold strLe; rw [Lib.toList_data, Lib.toList_data]; decide
theorem ex_nodes : nodesF exNodes = 0 := by
  unfold nodesF exNodes
  rw [if_neg (by decide)]
  have h1 : nodeF none ⟨sX, 0, 0⟩ = 0 := by unfold nodeF; rw [ex_key.2.1]; decide
  have h2 : nodeF (some ⟨sX, 0, 0⟩) ⟨sY, 0, 0⟩ = 0 := by unfold nodeF; rw [ex_key.2.2]; simp only [ex_le]; decide
  simp only [chk, h1, h2, if_pos]
theorem ex_sort : SortN exNodes := by
  unfold SortN exNodes ltS
  simp [sX, sY]
  decide
theorem ex_at : nodeI exNodes sX = 0 ∧ nodeI exNodes sY = 1 := by decide
theorem ex_ne : (sX.toList == sY.toList) = false := by rw [Lib.toList_data, Lib.toList_data]; decide
theorem ex_small : SmallN exNodes := by
  intro s hs
  simp [exNodes] at hs
  rcases hs with rfl | rfl <;> decide
theorem el_Node : ElemOf Tryz.prog 153 156 3 32 := ElemOf.mk' (z := .agg #[.string ByteArray.empty, .int .i64 0, .int .i64 0]) Tryz.underlying153 (by kernel_rfl) rfl

set_option maxRecDepth 100000 in
set_option maxHeartbeats 1000000 in
theorem w_CompXY (g c : Nat) (w : World) (h0 : w.cell? ⟨g, 0, none⟩ = some (.string sX)) (h1 : w.cell? ⟨g, 1, none⟩ = some (.string sY)) :
    Calls Tryz.prog 113 #[.slice (some ⟨g, 0, none⟩) 2 c] w fun e w' => e = .returned (.slice (some ⟨g, 0, none⟩) 2 c) ∧ Nx w w' := by
  have hne : (sY.toList == sX.toList) = false := by rw [Lib.toList_data, Lib.toList_data]; decide
  go_enter Tryz.func113, Tryz.ntmps113
  go_wp2_with fail
  refine wp_loop_rounds 2 ?_
  rw [rounds_succ]
  go_wp2_with fail
  go_quiet (fail)
  go_wp2_with fail
  rw [rounds_succ]
  go_wp2_with fail
  go_ret
  exact ⟨rfl, (Nx.refl _).drewN _⟩

set_option maxRecDepth 100000 in
set_option maxHeartbeats 2000000 in
theorem w_TimeOnEx (lo : Nat) (B : Option Addr) (cb : Nat) (w : World) (hK : Rd w lo B 2 encKnot exKnots) :
    Calls Tryz.prog 83 #[.agg #[.string sA, .string sX, .string sY, .int .i64 5, .slice B 2 cb], .int .i64 500] w fun e w' => e = .returned (.tuple #[.int .i64 350, .int .i64 0]) ∧ Nx w w' := by
  have hm5 : momB 500 = true := by decide
  obtain ⟨wa, hwa⟩ : ∃ wa, wa = w.alloc (.cells #[.string sA, .string sX, .string sY, .int .i64 5, .slice B 2 cb] 125) := ⟨_, rfl⟩
  have hna : Nx w wa := hwa ▸ (Nx.refl w).alloc _
  have hgw : w.heap.size < wa.heap.size := by rw [hwa]; simp
  have b0 : wa.cell? ⟨w.heap.size, 0, none⟩ = some (.string sA) := by rw [hwa]; go_simp
  have b1 : wa.cell? ⟨w.heap.size, 1, none⟩ = some (.string sX) := by rw [hwa]; go_simp
  have b2 : wa.cell? ⟨w.heap.size, 2, none⟩ = some (.string sY) := by rw [hwa]; go_simp
  have b3 : wa.cell? ⟨w.heap.size, 3, none⟩ = some (.int .i64 5) := by rw [hwa]; go_simp
  have b4 : wa.cell? ⟨w.heap.size, 4, none⟩ = some (.slice B 2 cb) := by rw [hwa]; go_simp
  have HK := hide (fun W (hx : Nx wa W) => (hK.nx hna).nx hx)
  clear hK
  go_enter Tryz.func83, Tryz.ntmps83
  go_wp2_with fail
  rw [← hwa]
  obtain ⟨wb, hwb⟩ : ∃ wb, wb = wa.alloc (.cells #[.string sX, .string sY] 9) := ⟨_, rfl⟩
  rw [← hwb]
  have hsa : wa.heap.size = w.heap.size + 1 := by rw [hwa]; simp
  have hnb : Nx wa wb := hwb ▸ (Nx.refl wa).alloc _
  have hgb : w.heap.size + 1 < wb.heap.size := by rw [hwb]; simp; omega
  have k0 : wb.cell? ⟨w.heap.size + 1, 0, none⟩ = some (.string sX) := by rw [hwb]; exact World.cell?_alloc_at (hn := hsa.symm) ..
  have k1 : wb.cell? ⟨w.heap.size + 1, 1, none⟩ = some (.string sY) := by rw [hwb]; exact World.cell?_alloc_at (hn := hsa.symm) ..
  have HWA := hide hwa
  have HWB := hide hwb
  clear hwa hwb hsa
  obtain ⟨g1, hg1⟩ : ∃ g1, g1 = w.heap.size + 1 := ⟨_, rfl⟩
  rw [← hg1] at hgb k0 k1 ⊢
  clear hg1
  obtain ⟨g0, hg0⟩ : ∃ g0, g0 = w.heap.size := ⟨_, rfl⟩
  rw [← hg0] at hgw b0 b1 b2 b3 b4 ⊢
  clear hg0
  refine (w_SortXY _ _ _ k0 k1).mono ?_
  rintro e w1 ⟨rfl, hn1⟩
  have k2 := nx_cell hn1 hgb k0
  have k3 := nx_cell hn1 hgb k1
  have hgc := Nat.lt_of_lt_of_le hgb hn1.sz
  go_wp2_with fail
  refine (w_CompXY _ _ _ k2 k3).mono ?_
  rintro e w2 ⟨rfl, hn2⟩
  have k4 := nx_cell hn2 hgc k2
  have k5 := nx_cell hn2 hgc k3
  have hgd := Nat.lt_of_lt_of_le hgc hn2.sz
  have hx2 : Nx wa w2 := (hnb.trans hn1).trans hn2
  have hown0 : (w2.alloc (.cells #[.string sX, .int .i64 0, .int .i64 0] 156)).ownsRow w2.heap.size 156 3 (.slice none 0 0) ([] : List Node).length (([] : List Node).flatMap encNode) := World.ownsRow_nil _ _ _ _
  have HO0 := hide hown0
  clear hown0 k0 k1 k2 k3
  go_wp2_with fail
  refine wp_loop_rounds 3 ?_
  rw [rounds_succ]
  go_wp2_with (at_builtin; refine wpApp rfl _ _ _ rfl el_Node encNode encNode_len encNode_one (by omega) (by omega) w2.heap.size _ [] rfl HO0.out _ ⟨sX, 0, 0⟩ _ rfl (hnew rfl) rfl (by simp) (by simp) ?_; intro v3 w3 hown3 hg3)
  have hx3 : Nx w2 w3 := ((Nx.refl w2).alloc _).grown hg3 (own_blk_lt HO0.out)
  have k6 := nx_cell hx3 hgd k4
  have k7 := nx_cell hx3 hgd k5
  have HO3 := hide hown3
  clear hown3
  rw [rounds_succ]
  go_wp2_with (at_builtin; refine wpApp rfl _ _ _ rfl el_Node encNode encNode_len encNode_one (by omega) (by omega) w2.heap.size _ ([] ++ [⟨sX, 0, 0⟩]) rfl (HO3.out.alloc _) _ ⟨sY, 0, 0⟩ _ rfl (hnew rfl) rfl (by simp) (by have := hx3.sz; simp; omega) ?_; intro v4 w4 hown4 hg4)
  have hx4 : Nx w2 w4 := (hx3.alloc _).grown hg4 (own_blk_lt HO3.out)
  obtain ⟨A4, c4, ev, hR4, _⟩ := Rd.of_own encNode_len rfl hown4
  have ha4 : Nx wa w4 := hx2.trans hx4
  have d0 := nx_cell ha4 hgw b0
  have d1 := nx_cell ha4 hgw b1
  have d2 := nx_cell ha4 hgw b2
  have d3 := nx_cell ha4 hgw b3
  have d4 := nx_cell ha4 hgw b4
  have HR4 := hide hR4
  obtain rfl := ev
  clear hown4 hR4 k4 k5 k6 k7
  rw [rounds_succ]
  go_wp2_with fail
  have hx5 := (Nx.refl w4).alloc (.cells #[.string sA, .string sX, .string sY, .int .i64 5, .slice B 2 cb] 125)
  refine (w_CheckRoads1 w2.heap.size lo w4.heap.size 1 cb A4 B c4 exNodes exKnots sA sX sY 5 _ (HR4.out.nx hx5) ex_small (by decide) ex_nodes ex_sort (hnew rfl) (HK.out _ (ha4.trans hx5)) (by decide) ex_knots ex_key.1 (by decide) (by rw [ex_at.1]; decide) (by rw [ex_at.2]; decide) ex_ne (by decide)).mono ?_
  rintro e w5 ⟨rfl, hn5⟩
  have ha5 : Nx wa w5 := (ha4.trans hx5).trans hn5
  have e4 := nx_cell ha5 hgw b4
  go_wp2_with (first
    | (go_at_call 115; refine (w_Moment _ _).mono ?_; rintro e w' ⟨rfl, rfl⟩)
    | (go_at_call 116; refine (w_TimeD g0 lo B cb exKnots 500 _ e4 (Nat.lt_of_lt_of_le hgw ha5.sz) (HK.out _ ha5) (knotsF_chk ex_knots) (by omega)).mono ?_; rintro e w6 ⟨rfl, hn6⟩))
  go_ret2
  exact ⟨by rw [ex_time]; rfl, (hna.trans ha5).trans hn6⟩
end Go.Proofs.YthlhomcgjgfdhaaGreatDoor
/- An event for example. -/
namespace Go.Proofs.YthlhomcgjgfdhaaGreatDoor
open Go.RowKit

def sS : ByteArray := ⟨#[115]⟩
def sR : ByteArray := ⟨#[114]⟩
def exEv : Array Value := #[.string sS, .int .i64 1, .int .i64 0, .int .i64 1, .string sR, .string ⟨#[]⟩, .string ⟨#[]⟩, .int .i64 5, .int .i64 9, .string ⟨#[]⟩, .int .i64 0]
def bookB : ByteArray := ⟨#[98, 111, 111, 107]⟩
end Go.Proofs.YthlhomcgjgfdhaaGreatDoor
/- Maps: the keys. -/
namespace Go.Proofs.YthlhomcgjgfdhaaGreatDoor
open Go.RowKit Go.Maps

theorem tySize : Tryz.prog.types.size = 330 := by kernel_rfl
theorem laidOut : laidOutB Tryz.prog = true := by kernel_rfl
theorem cells_int : Tryz.prog.cellsOf 3 = 1 := by kernel_rfl

theorem lits_int (d : Nat) (x : Int) (hx : (Lit.int .i64 x).wf = true) : Tryz.prog.keyLits (d + 1) 3 [.int .i64 x] = some [.int .i64 x] := by
  unfold Program.keyLits; rw [Tryz.underlying3]; simp [hx]
end Go.Proofs.YthlhomcgjgfdhaaGreatDoor
/- A map whose elements are of any kind, said of a plain function; pointers to blocks as elements. Of no program. -/
namespace Go.Proofs.YthlhomcgjgfdhaaGreatDoor
open Go.RowKit Go.Maps

/-- R reads the values 'ev v', and no others as what they read as. -/
structure ElemR {V : Type} (R : Value → Option (DataW Unit × List MemPlace)) (ev : V → Value) (dv : V → DataW Unit) (okv : V → Prop) : Prop where
  make : ∀ v, okv v → ∃ ps, R (ev v) = some (dv v, ps)
  inv : ∀ x d ps, R x = some (d, ps) → ∃ v, okv v ∧ x = ev v ∧ d = dv v
  inj : ∀ a b, dv a = dv b → a = b

theorem elemInt {P : Program} {E : TypeId} (he : P.underlying E = some (.int .i64)) : ElemR (plainElem P E) (Value.int .i64) (fun z => .lit (.int .i64 z)) (fun z => (Lit.int .i64 z).wf = true) where
  make z h := ⟨[], plainElem_int he h⟩
  inv x d ps h := by
    obtain ⟨a, rfl, e, hw⟩ := plainElem_int_inv he h
    injection e with e1 e2
    exact ⟨a, hw, rfl, e1⟩
  inj a b h := by injection h with h; injection h
/-- A pointer to a block's head, or nil. -/
def ptrV : Option Nat → Value
  | none => .pointer none
  | some b => .pointer (some ⟨b, 0, none⟩)
def ptrD : Option Nat → DataW Unit
  | none => .lit (.bool false)
  | some b => .lit (.int .i64 (b : Int))
def ptrElem : Value → Option (DataW Unit × List MemPlace)
  | .pointer none => some (.lit (.bool false), [])
  | .pointer (some ⟨b, 0, none⟩) => some (.lit (.int .i64 (b : Int)), [])
  | _ => none
theorem elemPtr : ElemR ptrElem ptrV ptrD (fun _ => True) where
  make v _ := by cases v <;> exact ⟨[], rfl⟩
  inv x d ps h := by
    unfold ptrElem at h
    split at h
    · injection h with h; injection h with h1 h2; exact ⟨none, trivial, rfl, h1.symm⟩
    · rename_i b
      injection h with h; injection h with h1 h2; exact ⟨some b, trivial, rfl, h1.symm⟩
    · cases h
  inj a b h := by
    cases a <;> cases b <;> simp [ptrD] at h <;> first | rfl | (congr 1; omega)

section
variable {κ V : Type} {P : Program} {K : TypeId} {ek : κ → Value} {dom : κ → Prop} {R : Value → Option (DataW Unit × List MemPlace)} {ev : V → Value} {dv : V → DataW Unit} {okv : V → Prop}

structure MgD (P : Program) (K : TypeId) (ek : κ → Value) (dom : κ → Prop) (dv : V → DataW Unit) (D : DataW Unit) (f : κ → Option V) : Prop where
  isMap : IsMap D
  at_ : ∀ k l, dom k → keyOf P K (ek k) = some l → ∀ z, D.atKey l z = (match f k with | some v => dv v | none => z)
  keys : ∀ l, has D l = true → ∃ k, dom k ∧ keyOf P K (ek k) = some l
  dm : ∀ k, (f k).isSome = true → dom k
/-- Block b is a map that holds f k at key k, if it has the key at all. -/
def MgI (P : Program) (K : TypeId) (ek : κ → Value) (dom : κ → Prop) (R : Value → Option (DataW Unit × List MemPlace)) (dv : V → DataW Unit) (w : World) (b n : Nat) (f : κ → Option V) : Prop :=
  ∃ D : DataW Unit, w.ownsMap P K R b n D ∧ MgD P K ek dom dv D f
theorem MgI.lt {w : World} {b n : Nat} {f : κ → Option V} (h : MgI P K ek dom R dv w b n f) : b < w.heap.size := by
  obtain ⟨D, h1, _⟩ := h; exact h1.lt
theorem MgI.grown {w w' : World} {b n : Nat} {row : Option Nat} {f : κ → Option V} (h : MgI P K ek dom R dv w b n f) (hg : w.grownBy w' row) (hne : some b ≠ row) : MgI P K ek dom R dv w' b n f := by
  obtain ⟨D, h1, h2⟩ := h
  exact ⟨D, h1.kept hg hne, h2⟩
theorem MgI.nx {w w' : World} {b n : Nat} {f : κ → Option V} (h : MgI P K ek dom R dv w b n f) (hn : Nx w w') : MgI P K ek dom R dv w' b n f := h.grown (hn.gr none) (by simp)
theorem MgI.gr {w w' : World} {b n s : Nat} {f : κ → Option V} (h : MgI P K ek dom R dv w b n f) (hn : Gr s w w') (hs : b ≠ s) : MgI P K ek dom R dv w' b n f := h.grown (row := some s) hn (by simpa using hs)
theorem MgI.mono {w : World} {b n n' : Nat} {f : κ → Option V} (h : MgI P K ek dom R dv w b n f) (hn : n ≤ n') : MgI P K ek dom R dv w b n' f := by
  obtain ⟨D, h1, h2⟩ := h; exact ⟨D, h1.mono hn, h2⟩
theorem MgI.made (w : World) : MgI P K ek dom R dv (w.alloc (.map #[] 0)) w.heap.size 0 (fun _ : κ => (none : Option V)) :=
  ⟨.map [], World.ownsMap_made w P K _, isMap_empty, fun _ _ _ _ _ => rfl, fun l h => (by simp [has_eq] at h), fun k h => by cases h⟩
theorem MgD.has_ {D : DataW Unit} {f : κ → Option V} (h : MgD P K ek dom dv D f) {k : κ} (hd : dom k) {l : Lit} (hkey : keyOf P K (ek k) = some l) : has D l = (f k).isSome := by
  have e := h.at_ k l hd hkey
  cases hf : f k with
  | none => rw [hf] at e; exact has_false_of_atKey e
  | some v => rw [hf] at e; exact has_true_of_atKey e
/-- 'm[k]'. -/
theorem MgI.look (ER : ElemR R ev dv okv) {w : World} {b n : Nat} {f : κ → Option V} {t E : TypeId} (h : MgI P K ek dom R dv w b n f) (KL : Keyed P K) (ht : P.underlying t = some (.map K E)) {z : V} (hzo : okv z) (hz : (zeroValue E).run P w = .ok (ev z) w)
    {k : κ} (hd : dom k) {l : Lit} (hkey : keyOf P K (ek k) = some l) : (Instr.lookup t (.map (some b)) (ek k) false).run P w = .ok (ev ((f k).getD z)) w ∧ okv ((f k).getD z) := by
  obtain ⟨D, h1, h2⟩ := h
  obtain ⟨ps0, hzd⟩ := ER.make z hzo
  obtain ⟨v, ps, hrun, hv⟩ := h1.lookup KL ht hz hzd hkey
  obtain ⟨v', ho, rfl, e1⟩ := ER.inv _ _ _ hv
  have e := h2.at_ k l hd hkey (dv z)
  have e2 : v' = (f k).getD z := by
    rw [e1] at e
    cases hf : f k with
    | none => rw [hf] at e; exact ER.inj _ _ e
    | some u => rw [hf] at e; exact ER.inj _ _ e
  subst e2
  exact ⟨hrun, ho⟩
/-- 'v, is := m[k]'. -/
theorem MgI.look_ok (ER : ElemR R ev dv okv) {w : World} {b n : Nat} {f : κ → Option V} {t E : TypeId} (h : MgI P K ek dom R dv w b n f) (KL : Keyed P K) (ht : P.underlying t = some (.map K E)) {z : V} (hzo : okv z) (hz : (zeroValue E).run P w = .ok (ev z) w)
    {k : κ} (hd : dom k) {l : Lit} (hkey : keyOf P K (ek k) = some l) : (Instr.lookup t (.map (some b)) (ek k) true).run P w = .ok (.tuple #[ev ((f k).getD z), .bool (f k).isSome]) w ∧ okv ((f k).getD z) := by
  obtain ⟨D, h1, h2⟩ := h
  obtain ⟨ps0, hzd⟩ := ER.make z hzo
  obtain ⟨v, ps, hrun, hv⟩ := h1.look_ok KL ht hz hzd hkey
  obtain ⟨v', ho, rfl, e1⟩ := ER.inv _ _ _ hv
  have e := h2.at_ k l hd hkey (dv z)
  have e2 : v' = (f k).getD z := by
    rw [e1] at e
    cases hf : f k with
    | none => rw [hf] at e; exact ER.inj _ _ e
    | some u => rw [hf] at e; exact ER.inj _ _ e
  subst e2
  rw [h2.has_ hd hkey] at hrun
  exact ⟨hrun, ho⟩
theorem MgD.put [DecidableEq κ] {D : DataW Unit} {f : κ → Option V} (h : MgD P K ek dom dv D f) (KL : Keyed P K) (hinj : ∀ a b : κ, ek a = ek b → a = b) {k : κ} (hd : dom k) {l : Lit} (hkey : keyOf P K (ek k) = some l) (v : V) :
    MgD P K ek dom dv (D.put l (dv v)) (fun k' => if k' = k then some v else f k') where
  isMap := h.isMap.put _ _
  at_ k' l' hd' hk' z := by
    by_cases e : k' = k
    · subst e
      rw [hkey] at hk'; injection hk' with hk'; subst hk'
      rw [if_pos rfl]
      exact atKey_put_same h.isMap (KL.key hkey) _ _
    · rw [if_neg e]
      have hne : l' ≠ l := fun e1 => by subst e1; exact e (hinj _ _ (KL.inj hk' hkey))
      rw [atKey_put_other hne]
      exact h.at_ k' l' hd' hk' z
  keys l' hl' := by
    by_cases e : l' = l
    · subst e; exact ⟨k, hd, hkey⟩
    · rw [has_put_other e] at hl'; exact h.keys l' hl'
  dm k' hk' := by
    by_cases e : k' = k
    · subst e; exact hd
    · rw [if_neg e] at hk'; exact h.dm k' hk'
/-- 'm[k] = v'. -/
theorem MgI.upd [DecidableEq κ] (ER : ElemR R ev dv okv) {w : World} {b n : Nat} {f : κ → Option V} {t E : TypeId} (h : MgI P K ek dom R dv w b n f) (KL : Keyed P K) (hinj : ∀ a b : κ, ek a = ek b → a = b) (ht : P.underlying t = some (.map K E)) (hn : n < maxLen)
    {k : κ} (hd : dom k) {l : Lit} (hkey : keyOf P K (ek k) = some l) (v : V) (hv : okv v) :
    ∃ w', (Instr.mapUpdate t (.map (some b)) (ek k) (ev v)).run P w = .ok () w' ∧ MgI P K ek dom R dv w' b (n + 1) (fun k' => if k' = k then some v else f k') ∧ Gr b w w' := by
  obtain ⟨D, h1, h2⟩ := h
  obtain ⟨ps, hR⟩ := ER.make v hv
  obtain ⟨w', hr, ho, hg⟩ := h1.update KL ht hn hkey hR
  exact ⟨w', hr, ⟨_, ho, h2.put KL hinj hd hkey v⟩, hg⟩
/-- 'm[k]' at the operation. -/
theorem wpMgLook (w : World) {ops : Array Oper} {rest : List Oper} {o : Oper} {a : Act} {Q : Exit → Act → World → Prop}
    (hg : o.guard = none) (m x : Operand) (t : TypeId) (hop : o.op = Op.lookup t m x false) (ER : ElemR R ev dv okv) {E : TypeId}
    (KL : Keyed P K) (ht : P.underlying t = some (.map K E)) {z : V} (hzo : okv z) (hz : (zeroValue E).run P w = .ok (ev z) w) (b n : Nat) (f : κ → Option V)
    (hm : a.eval m = .map (some b)) (hown : MgI P K ek dom R dv w b n f) (k : κ) (hx : a.eval x = ek k) (hd : dom k) (l : Lit) (hkey : keyOf P K (ek k) = some l)
    (hK : wpList P ops Q rest (a.put o.dst (ev ((f k).getD z))) w) :
    wpList P ops Q (o :: rest) a w := by
  refine wpList_plain hg fun K' hK' => ?_
  obtain ⟨hrun, hwf⟩ := hown.look ER KL ht hzo hz hd hkey
  unfold Oper.wp
  simp [execOp, hop, hm, hx, hrun, Result.andThen]
  exact hK' _ _ hK
/-- 'v, is := m[k]' at the operation. -/
theorem wpMgLookOk (w : World) {ops : Array Oper} {rest : List Oper} {o : Oper} {a : Act} {Q : Exit → Act → World → Prop}
    (hg : o.guard = none) (m x : Operand) (t : TypeId) (hop : o.op = Op.lookup t m x true) (ER : ElemR R ev dv okv) {E : TypeId}
    (KL : Keyed P K) (ht : P.underlying t = some (.map K E)) {z : V} (hzo : okv z) (hz : (zeroValue E).run P w = .ok (ev z) w) (b n : Nat) (f : κ → Option V)
    (hm : a.eval m = .map (some b)) (hown : MgI P K ek dom R dv w b n f) (k : κ) (hx : a.eval x = ek k) (hd : dom k) (l : Lit) (hkey : keyOf P K (ek k) = some l)
    (hK : wpList P ops Q rest (a.put o.dst (.tuple #[ev ((f k).getD z), .bool (f k).isSome])) w) :
    wpList P ops Q (o :: rest) a w := by
  refine wpList_plain hg fun K' hK' => ?_
  obtain ⟨hrun, hwf⟩ := hown.look_ok ER KL ht hzo hz hd hkey
  unfold Oper.wp
  simp [execOp, hop, hm, hx, hrun, Result.andThen]
  exact hK' _ _ hK
/-- 'm[k] = v' at the operation. -/
theorem wpMgPut [DecidableEq κ] (w : World) {ops : Array Oper} {rest : List Oper} {o : Oper} {a : Act} {Q : Exit → Act → World → Prop}
    (hg : o.guard = none) (m x v : Operand) (t : TypeId) (hop : o.op = Op.mapUpdate t m x v) (ER : ElemR R ev dv okv) {E : TypeId}
    (KL : Keyed P K) (hinj : ∀ a b : κ, ek a = ek b → a = b) (ht : P.underlying t = some (.map K E)) (b n : Nat) (f : κ → Option V)
    (hm : a.eval m = .map (some b)) (hown : MgI P K ek dom R dv w b n f) (hn : n < maxLen) (k : κ) (hx : a.eval x = ek k) (hd : dom k) (l : Lit) (hkey : keyOf P K (ek k) = some l)
    (z : V) (hz : a.eval v = ev z) (hwf : okv z)
    (hK : ∀ w', MgI P K ek dom R dv w' b (n + 1) (fun k' => if k' = k then some z else f k') → Gr b w w' → wpList P ops Q rest (a.put o.dst undef) w') :
    wpList P ops Q (o :: rest) a w := by
  refine wpList_plain hg fun K' hK' => ?_
  obtain ⟨w', hrun, r1, r2⟩ := hown.upd ER KL hinj ht hn hd hkey z hwf
  unfold Oper.wp
  simp [execOp, hop, hm, hx, hz, hrun, Result.andThen]
  exact hK' _ _ (hK w' r1 r2)
/-- The number of entries: no more than n. -/
theorem MgI.size {w : World} {b n : Nat} {f : κ → Option V} (h : MgI P K ek dom R dv w b n f) {t E : TypeId} (ht : P.underlying t = some (.map K E)) (ty : TypeId) : ∃ m : Nat, m ≤ n ∧ (Builtin.len_ #[t] ty #[.map (some b)]).run P w = .ok (.int .i64 (m : Int)) w := by
  obtain ⟨D, h1, h2⟩ := h
  refine ⟨Maps.size D, ?_, by simpa using h1.len ht ty⟩
  obtain ⟨es, clock, _, _, h3, rfl⟩ := h1
  rw [size_eq, length_sorted]; simpa using h3
end
end Go.Proofs.YthlhomcgjgfdhaaGreatDoor
/- Events: the maps that follow them; the keys. -/
namespace Go.Proofs.YthlhomcgjgfdhaaGreatDoor
open Go.RowKit Go.Maps

theorem law_strE : Keyed Tryz.prog 9 := string_keyed Tryz.underlying9
theorem law_intE : Keyed Tryz.prog 3 := int_keyed Tryz.underlying3
theorem law_name : Keyed Tryz.prog 224 := Keyed.of_law (deep_law_laid laidOut (m := 5) (by omega) (k := 224) (by rw [tySize]; decide) (by kernel_rfl) (by kernel_rfl))
theorem kt_name : Tryz.prog.keyType 224 = true := by kernel_rfl
theorem cells_name : Tryz.prog.cellsOf 224 = 2 := by kernel_rfl
theorem cells_str : Tryz.prog.cellsOf 9 = 1 := by kernel_rfl
theorem lits_str (d : Nat) (s : ByteArray) (hs : s.size ≤ maxLen) : Tryz.prog.keyLits (d + 1) 9 [.string s] = some [.string s.data.toList] := by
  unfold Program.keyLits; rw [Tryz.underlying9]; simp [hs]
theorem lits_name (d : Nat) (s : ByteArray) (n : Int) (hs : s.size ≤ maxLen) (hn : (Lit.int .i64 n).wf = true) : Tryz.prog.keyLits (d + 2) 224 [.string s, .int .i64 n] = some [.string s.data.toList, .int .i64 n] := by
  unfold Program.keyLits; rw [Tryz.underlying224]; simp [cells_name, cells_str, cells_int, lits_str _ _ hs, lits_int _ _ hn]
/-- The name of an event. -/
structure EvName where
  source : ByteArray
  no : Int
deriving DecidableEq
def ekName (k : EvName) : Value := .agg #[.string k.source, .int .i64 k.no]
theorem ekName_inj (a b : EvName) (h : ekName a = ekName b) : a = b := by
  cases a; cases b; simp [ekName] at h; simp [h]
def domName (k : EvName) : Prop := k.source.size ≤ maxLen ∧ (Lit.int .i64 k.no).wf = true
theorem key_name (k : EvName) (h : domName k) : ∃ l, keyOf Tryz.prog 224 (ekName k) = some l := by
  refine ⟨.string (keyBytes [.string k.source.data.toList, .int .i64 k.no]), ?_⟩
  unfold keyOf ekName
  rw [Tryz.underlying224, kt_name, tySize]
  have e := lits_name 329 k.source k.no h.1 h.2
  simp [Value.formed, Tryz.underlying224, cells_name, Value.cells, e]
theorem zeroIntE (w : World) : (zeroValue 3).run Tryz.prog w = .ok (.int .i64 0) w := by kernel_rfl
theorem zeroPtrE (w : World) : (zeroValue 175).run Tryz.prog w = .ok (.pointer none) w := by kernel_rfl
abbrev intE : ElemR (plainElem Tryz.prog 3) (Value.int .i64) (fun z => .lit (.int .i64 z)) (fun z => (Lit.int .i64 z).wf = true) := elemInt Tryz.underlying3
/-- A map from strings to numbers. -/
abbrev MpSI (w : World) (b n : Nat) (f : ByteArray → Option Int) : Prop := MgI Tryz.prog 9 Value.string domS (plainElem Tryz.prog 3) (fun z : Int => (.lit (.int .i64 z) : DataW Unit)) w b n f
/-- .. to variables. -/
abbrev MpSP (w : World) (b n : Nat) (f : ByteArray → Option (Option Nat)) : Prop := MgI Tryz.prog 9 Value.string domS ptrElem ptrD w b n f
def domI (z : Int) : Prop := (Lit.int .i64 z).wf = true
theorem key_int {z : Int} (h : domI z) : keyOf Tryz.prog 3 (.int .i64 z) = some (.int .i64 z) := keyOf_int_mk Tryz.underlying3 h
abbrev MpII (w : World) (b n : Nat) (f : Int → Option Int) : Prop := MgI Tryz.prog 3 (Value.int .i64) domI (plainElem Tryz.prog 3) (fun z : Int => (.lit (.int .i64 z) : DataW Unit)) w b n f
abbrev MpNI (w : World) (b n : Nat) (f : EvName → Option Int) : Prop := MgI Tryz.prog 224 ekName domName (plainElem Tryz.prog 3) (fun z : Int => (.lit (.int .i64 z) : DataW Unit)) w b n f
end Go.Proofs.YthlhomcgjgfdhaaGreatDoor
