/- Roads of one arc that are right: the program's check. -/
import Derived.Test.YtfnbmcinbmbehaaGreatDoorQG22
import Derived.Test.YtfnbmcinbmbehaaGreatDoorQG23
import Derived.Test.YtfnbmcinbmbehaaGreatDoorQRoadT
namespace Go.Proofs.YtfnbmcinbmbehaaGreatDoor
open Go.RowKit

set_option maxRecDepth 100000 in
set_option maxHeartbeats 2000000 in
theorem w_CheckRoads1 (lo lo' ga ca cb : Nat) (A B : Option Addr) (c : Nat) (l : List Node) (ks : List Knot) (key from_ to_ : ByteArray) (long : Int) (w : World)
    (hR : Rd w lo A 3 encNode l) (hS : SmallN l) (hl : l.length ≤ 500) (hn0 : nodesF l = 0) (hso : SortN l)
    (hga : w.heap[ga]? = some (.cells #[.string key, .string from_, .string to_, .int .i64 long, .slice B ks.length cb] 69 (0, 0))) (hK : Rd w lo' B 2 encKnot ks) (hkl : ks.length ≤ 48) (hk0 : knotsF ks = 0)
    (hkey : keyB key = true) (hks : key.size ≤ 1000000) (hfr : 0 ≤ nodeI l from_) (hto : 0 ≤ nodeI l to_) (hne : (from_.toList == to_.toList) = false) (hlo : outB long 1 1000000 = false) :
    Calls Tryz.prog 57 #[.agg #[.slice A l.length c, .slice (some ⟨ga, 0, none⟩) 1 ca, .slice none 0 0]] w fun e w' => e = .returned (.int .i64 0) ∧ Nx w w' := by
  obtain ⟨wa, hwa⟩ : ∃ wa, wa = w.alloc (.cells #[.slice A l.length c, .slice (some ⟨ga, 0, none⟩) 1 ca, .slice none 0 0] 108) := ⟨_, rfl⟩
  have hna : Nx w wa := hwa ▸ (Nx.refl w).alloc _
  have hgw : w.heap.size < wa.heap.size := by rw [hwa]; simp
  have b0 : wa.cell? ⟨w.heap.size, 0, none⟩ = some (.slice A l.length c) := by rw [hwa]; go_simp
  have b1 : wa.cell? ⟨w.heap.size, 1, none⟩ = some (.slice (some ⟨ga, 0, none⟩) 1 ca) := by rw [hwa]; go_simp
  have b2 : wa.cell? ⟨w.heap.size, 2, none⟩ = some (.slice none 0 0) := by rw [hwa]; go_simp
  have hgl : ga < w.heap.size := (Array.getElem?_eq_some_iff.1 hga).1
  have hgl' : ga < wa.heap.size := Nat.lt_of_lt_of_le hgl hna.sz
  have a0 := nx_cell hna hgl (cell_of_row w ga 0 _ _ _ hga)
  have a1 := nx_cell hna hgl (cell_of_row w ga 1 _ _ _ hga)
  have a2 := nx_cell hna hgl (cell_of_row w ga 2 _ _ _ hga)
  have a3 := nx_cell hna hgl (cell_of_row w ga 3 _ _ _ hga)
  have a4 := nx_cell hna hgl (cell_of_row w ga 4 _ _ _ hga)
  simp at a0 a1 a2 a3 a4
  have HNF := hide (w_nodesFaultR lo A c l wa (hR.nx hna) hS (by omega))
  rw [hn0] at HNF
  have HND := hide (fun s W (hx : Nx wa W) => w_nodeR w.heap.size lo A c l s W (nx_cell hx hgw b0) ((hR.nx hna).nx hx) (by omega) hso)
  have HKF := hide (fun W (hx : Nx wa W) => w_knotsFaultR lo' B cb ks W ((hK.nx hna).nx hx) (by omega))
  rw [hk0] at HKF
  have tf : decide (nodeI l from_ < 0) = false := by simpa using hfr
  have tt : decide (nodeI l to_ < 0) = false := by simpa using hto
  clear hR hS hn0 hso hga hK hk0
  generalize l.length = n at *
  generalize ks.length = m at *
  go_enter Tryz.func57, Tryz.ntmps57
  go_wp2_with fail
  rw [← hwa]
  refine HNF.out.mono ?_
  rintro e w1 ⟨rfl, hn1⟩
  have HWA := hide hwa
  clear hwa
  have A0 := nx_cell hn1 hgl' a0
  have A1 := nx_cell hn1 hgl' a1
  have A2 := nx_cell hn1 hgl' a2
  have A3 := nx_cell hn1 hgl' a3
  have A4 := nx_cell hn1 hgl' a4
  have B1 := nx_cell hn1 hgw b1
  have B2 := nx_cell hn1 hgw b2
  clear a0 a1 a2 a3 a4
  go_wp2_with fail
  refine wp_loop_rounds 2 ?_
  rw [rounds_succ]
  go_wp2_with (go_at_call 70; refine (w_Key _ _ hks).mono ?_; rintro e w' ⟨rfl, rfl⟩)
  go_quiet (fail)
  obtain ⟨w2, hw2⟩ : ∃ w2, w2 = (w1.alloc (.cells #[.string key, .string from_, .string to_, .int .i64 long, .slice B m cb] 69)).drewN nq := ⟨_, rfl⟩
  have hx2 : Nx w1 w2 := hw2 ▸ ((Nx.refl w1).alloc _).drewN _
  have hs2 : w1.heap.size < w2.heap.size := by rw [hw2]; simp
  have d1 : w2.cell? ⟨w1.heap.size, 1, none⟩ = some (.string from_) := by rw [hw2]; go_simp
  have d2 : w2.cell? ⟨w1.heap.size, 2, none⟩ = some (.string to_) := by rw [hw2]; go_simp
  have d3 : w2.cell? ⟨w1.heap.size, 3, none⟩ = some (.int .i64 long) := by rw [hw2]; go_simp
  have d4 : w2.cell? ⟨w1.heap.size, 4, none⟩ = some (.slice B m cb) := by rw [hw2]; go_simp
  rw [← hw2]
  have HW2 := hide hw2
  clear hw2 A0 A1 A2 A3 A4
  go_wp2_with fail
  refine (HND.out from_ _ (hn1.trans hx2)).mono ?_
  rintro e w3 ⟨rfl, hn3⟩
  have e1 := nx_cell hn3 hs2 d1
  have e2 := nx_cell hn3 hs2 d2
  have e3 := nx_cell hn3 hs2 d3
  have e4 := nx_cell hn3 hs2 d4
  have hs3 := Nat.lt_of_lt_of_le hs2 hn3.sz
  go_wp2_with fail
  refine (HND.out to_ _ ((hn1.trans hx2).trans hn3)).mono ?_
  rintro e w4 ⟨rfl, hn4⟩
  have f1 := nx_cell hn4 hs3 e1
  have f2 := nx_cell hn4 hs3 e2
  have f3 := nx_cell hn4 hs3 e3
  have f4 := nx_cell hn4 hs3 e4
  go_wp2_with (go_at_call 22; refine (w_Out _ _ _ _).mono ?_; rintro e w' ⟨rfl, rfl⟩)
  refine (HKF.out _ (((hn1.trans hx2).trans hn3).trans hn4)).mono ?_
  rintro e w5 ⟨rfl, hn5⟩
  have hx5 := (((hx2.trans hn3).trans hn4).trans hn5)
  have g2 := nx_cell hx5 (Nat.lt_of_lt_of_le hgw hn1.sz) B2
  go_wp2_with fail
  rw [rounds_succ]
  go_wp2_with fail
  refine wp_loop_rounds 1 ?_
  rw [rounds_succ]
  go_wp2_with fail
  go_ret
  exact ⟨rfl, (hna.trans hn1).trans hx5⟩
end Go.Proofs.YtfnbmcinbmbehaaGreatDoor
