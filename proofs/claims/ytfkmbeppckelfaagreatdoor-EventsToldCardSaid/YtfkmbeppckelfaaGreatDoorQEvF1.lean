/- An event that is right by itself: the check at one kind. -/
import Derived.Test.YtfkmbeppckelfaaGreatDoorQG26
namespace Go.Proofs.YtfkmbeppckelfaaGreatDoor
open Go.RowKit

set_option maxRecDepth 100000 in
set_option maxHeartbeats 4000000 in
theorem w_evF1 (so : ByteArray) (no at_ : Int) (ri ca nd : ByteArray) (up dn : Int) (fo : ByteArray) (nu : Int) (w : World) (hok : okEv ⟨so, no, at_, 1, ri, ca, nd, up, dn, fo, nu⟩) (h1 : keyB so = true) (h2 : outB no 1 3000 = false) (h3 : momB at_ = true) :
    Calls Tryz.prog 44 #[.agg #[.string so, .int .i64 no, .int .i64 at_, .int .i64 1, .string ri, .string ca, .string nd, .int .i64 up, .int .i64 dn, .string fo, .int .i64 nu]] w fun e w' => e = .returned (.int .i64 (evF ⟨so, no, at_, 1, ri, ca, nd, up, dn, fo, nu⟩)) ∧ Nx w w' := by
  have z1 : so.size ≤ 1000 := hok.source
  have z2 : ri.size ≤ 1000 := hok.ride
  have z3 : ca.size ≤ 1000 := hok.car
  have z4 : nd.size ≤ 1000 := hok.node
  have z5 : fo.size ≤ 1000 := hok.from_
  have o2 : outB 1 1 9 = false := by decide
  have hev := hide (evF_eq ⟨so, no, at_, 1, ri, ca, nd, up, dn, fo, nu⟩)
  have hlb : ∀ w, (binOp .neq 31 (.agg #[.string so, .int .i64 no, .int .i64 at_, .int .i64 1, .string ri, .string ca, .string nd, .int .i64 up, .int .i64 dn, .string fo, .int .i64 nu]) (.agg #[.string so, .int .i64 no, .int .i64 at_, .int .i64 1, .string ri, .string ⟨#[]⟩, .string ⟨#[]⟩, .int .i64 up, .int .i64 dn, .string ⟨#[]⟩, .int .i64 0])).run Tryz.prog w = .ok (.bool (!leanB ⟨so, no, at_, 1, ri, ca, nd, up, dn, fo, nu⟩)) w := fun w => by
    rw [neq_Ev]; rfl
  have hu1 : uRide 1 = true := by decide
  have hu2 : uCar 1 = false := by decide
  have hu3 : uNode 1 = false := by decide
  have hu4 : uBook 1 = true := by decide
  have hu5 : uUndo 1 = false := by decide
  simp only [hu1, hu2, hu3, hu4, hu5, o2] at hev
  generalize evF ⟨so, no, at_, 1, ri, ca, nd, up, dn, fo, nu⟩ = ev at hev ⊢
  generalize leanB ⟨so, no, at_, 1, ri, ca, nd, up, dn, fo, nu⟩ = lb at hev hlb
  obtain ⟨wa, hwa⟩ : ∃ wa, wa = w.alloc (.cells #[.string so, .int .i64 no, .int .i64 at_, .int .i64 1, .string ri, .string ca, .string nd, .int .i64 up, .int .i64 dn, .string fo, .int .i64 nu] 31 (0, 0)) := ⟨_, rfl⟩
  have hna : Nx w wa := hwa ▸ (Nx.refl w).alloc _
  obtain ⟨bx, hbx⟩ : ∃ bx, bx = w.heap.size := ⟨_, rfl⟩
  have hb1 : wa.heap[bx]? = some (.cells #[.string so, .int .i64 no, .int .i64 at_, .int .i64 1, .string ri, .string ca, .string nd, .int .i64 up, .int .i64 dn, .string fo, .int .i64 nu] 31 (0, 0)) := by rw [hwa, hbx]; exact heap_alloc_new w _
  have hgw : bx < wa.heap.size := (Array.getElem?_eq_some_iff.1 hb1).1
  have a0 : wa.cell? ⟨bx, 0, none⟩ = some (.string so) := cell_of_row wa _ 0 _ _ _ hb1
  have a1 : wa.cell? ⟨bx, 1, none⟩ = some (.int .i64 no) := cell_of_row wa _ 1 _ _ _ hb1
  have a2 : wa.cell? ⟨bx, 2, none⟩ = some (.int .i64 at_) := cell_of_row wa _ 2 _ _ _ hb1
  have a3 : wa.cell? ⟨bx, 3, none⟩ = some (.int .i64 1) := cell_of_row wa _ 3 _ _ _ hb1
  have a4 : wa.cell? ⟨bx, 4, none⟩ = some (.string ri) := cell_of_row wa _ 4 _ _ _ hb1
  have a5 : wa.cell? ⟨bx, 5, none⟩ = some (.string ca) := cell_of_row wa _ 5 _ _ _ hb1
  have a6 : wa.cell? ⟨bx, 6, none⟩ = some (.string nd) := cell_of_row wa _ 6 _ _ _ hb1
  have a7 : wa.cell? ⟨bx, 7, none⟩ = some (.int .i64 up) := cell_of_row wa _ 7 _ _ _ hb1
  have a8 : wa.cell? ⟨bx, 8, none⟩ = some (.int .i64 dn) := cell_of_row wa _ 8 _ _ _ hb1
  have a9 : wa.cell? ⟨bx, 9, none⟩ = some (.string fo) := cell_of_row wa _ 9 _ _ _ hb1
  have a10 : wa.cell? ⟨bx, 10, none⟩ = some (.int .i64 nu) := cell_of_row wa _ 10 _ _ _ hb1
  have HNA := hide hna
  have HOK := hide hok
  clear hb1 hna hok hu1 hu2 hu3 hu4 hu5
  simp only [h1, h2, h3] at hev
  go_enter Tryz.func44, Tryz.ntmps44
  go_upto_region 1 with fail
  rw [← hwa, ← hbx]
  clear hwa hbx
  go_upto_region 7 with (first
    | (go_at_call 84; refine (w_Key _ _ (by first | assumption | omega)).mono ?_; rintro e w' ⟨rfl, rfl⟩)
    | (go_at_call 86; refine (w_Moment _ _).mono ?_; rintro e w' ⟨rfl, rfl⟩)
    | (go_at_call 85; refine (w_Out _ _ _ _).mono ?_; rintro e w' ⟨rfl, rfl⟩))
  clear h1 h2 h3 o2
  go_cut [3] (fun v3 wx => UseMd true false false true false wa v3 wx)
  case first =>
    obtain ⟨U, hU⟩ : ∃ U, U = usesO := ⟨_, rfl⟩
    have hUw := w_usesO
    rw [← hU] at hUw
    have U0 : ∀ (W : World) (n : Nat), n = W.heap.size → (W.alloc U).cell? ⟨n, 0, none⟩ = some (.string ⟨#[98, 111, 111, 107]⟩) := fun W n hn => by subst hn; rw [hU]; unfold usesO; go_simp <;> rfl
    have U1 : ∀ (W : World) (n : Nat), n = W.heap.size → (W.alloc U).cell? ⟨n, 1, none⟩ = some (.bool true) := fun W n hn => by subst hn; rw [hU]; unfold usesO; go_simp
    have U2 : ∀ (W : World) (n : Nat), n = W.heap.size → (W.alloc U).cell? ⟨n, 2, none⟩ = some (.bool false) := fun W n hn => by subst hn; rw [hU]; unfold usesO; go_simp
    have U3 : ∀ (W : World) (n : Nat), n = W.heap.size → (W.alloc U).cell? ⟨n, 3, none⟩ = some (.bool false) := fun W n hn => by subst hn; rw [hU]; unfold usesO; go_simp
    have U4 : ∀ (W : World) (n : Nat), n = W.heap.size → (W.alloc U).cell? ⟨n, 4, none⟩ = some (.bool true) := fun W n hn => by subst hn; rw [hU]; unfold usesO; go_simp
    have U5 : ∀ (W : World) (n : Nat), n = W.heap.size → (W.alloc U).cell? ⟨n, 5, none⟩ = some (.bool false) := fun W n hn => by subst hn; rw [hU]; unfold usesO; go_simp
    have HU := hide hUw
    clear hUw hU
    have hg1a : bx < wa.heap.size + 1 := by omega
    have hg1b : bx < wa.heap.size + 1 + 1 := by omega
    go_region_with (first
        | (go_at_call 87; refine (HU.out _).mono ?_; rintro e w3 ⟨rfl, rfl⟩))
    all_goals (go_wp2; go_meet)
    all_goals exact ⟨_, rfl, by first | exact Nat.le_refl _ | exact Nat.le_succ _, by simp <;> omega, by go_simp, by go_simp, by go_simp, by go_simp, by go_simp, (by repeat (first | with_reducible exact Nx.refl _ | with_reducible refine Nx.alloc ?_ _ | with_reducible refine Nx.drew ?_))⟩
  case rest =>
    obtain ⟨q, rfl, hq1, hq2, q1, q2, q3, q4, q5, hnx⟩ := hcut
    have c0 := nx_cell hnx hgw a0
    have c1 := nx_cell hnx hgw a1
    have c2 := nx_cell hnx hgw a2
    have c3 := nx_cell hnx hgw a3
    have c4 := nx_cell hnx hgw a4
    have c5 := nx_cell hnx hgw a5
    have c6 := nx_cell hnx hgw a6
    have c7 := nx_cell hnx hgw a7
    have c8 := nx_cell hnx hgw a8
    have c9 := nx_cell hnx hgw a9
    have c10 := nx_cell hnx hgw a10
    have hgx := Nat.lt_of_lt_of_le hgw hnx.sz
    have HNX := hide hnx
    clear a0 a1 a2 a3 a4 a5 a6 a7 a8 a9 a10 hnx
    cases g0 : keyB ri with
    | false =>
      have hv := hide (show ev = 5 by rw [hev.out]; simp [g0])
      go_upto_region 16 with fail
      go_cut [] (fun wx => wx = (wc.alloc (.cells #[.string so, .int .i64 no, .int .i64 at_, .int .i64 1, .string ri, .string ⟨#[]⟩, .string ⟨#[]⟩, .int .i64 up, .int .i64 dn, .string ⟨#[]⟩, .int .i64 0] 31)).drew)
      case first =>
        go_region
        all_goals (go_wp2; go_meet)
        all_goals first | rfl | exact hcut
      case rest =>
        subst hcut
        go_wp2_with (first
            | (go_at_call 84; refine (w_Key _ _ (by first | assumption | omega)).mono ?_; rintro e w' ⟨rfl, rfl⟩)
            | (go_at_call 86; refine (w_Moment _ _).mono ?_; rintro e w' ⟨rfl, rfl⟩)
            | (go_at_call 85; refine (w_Out _ _ _ _).mono ?_; rintro e w' ⟨rfl, rfl⟩))
        go_ret
        exact ⟨by rw [hv.out] <;> rfl, HNA.out.trans (((HNX.out).alloc _).drew)⟩
    | true =>
    cases g1 : outB up at_ 345686399999 with
    | true =>
      have hv := hide (show ev = 1 by rw [hev.out]; simp [lastMo, g0, g1])
      go_upto_region 16 with fail
      go_cut [] (fun wx => wx = (wc.alloc (.cells #[.string so, .int .i64 no, .int .i64 at_, .int .i64 1, .string ri, .string ⟨#[]⟩, .string ⟨#[]⟩, .int .i64 up, .int .i64 dn, .string ⟨#[]⟩, .int .i64 0] 31)).drew)
      case first =>
        go_region
        all_goals (go_wp2; go_meet)
        all_goals first | rfl | exact hcut
      case rest =>
        subst hcut
        go_wp2_with (first
            | (go_at_call 84; refine (w_Key _ _ (by first | assumption | omega)).mono ?_; rintro e w' ⟨rfl, rfl⟩)
            | (go_at_call 86; refine (w_Moment _ _).mono ?_; rintro e w' ⟨rfl, rfl⟩)
            | (go_at_call 85; refine (w_Out _ _ _ _).mono ?_; rintro e w' ⟨rfl, rfl⟩))
        go_ret
        exact ⟨by rw [hv.out] <;> rfl, HNA.out.trans (((HNX.out).alloc _).drew)⟩
    | false =>
    cases g2 : outB dn up 345686399999 with
    | true =>
      have hv := hide (show ev = 1 by rw [hev.out]; simp [lastMo, g0, g1, g2])
      go_upto_region 16 with fail
      go_cut [] (fun wx => wx = (wc.alloc (.cells #[.string so, .int .i64 no, .int .i64 at_, .int .i64 1, .string ri, .string ⟨#[]⟩, .string ⟨#[]⟩, .int .i64 up, .int .i64 dn, .string ⟨#[]⟩, .int .i64 0] 31)).drew)
      case first =>
        go_region
        all_goals (go_wp2; go_meet)
        all_goals first | rfl | exact hcut
      case rest =>
        subst hcut
        go_wp2_with (first
            | (go_at_call 84; refine (w_Key _ _ (by first | assumption | omega)).mono ?_; rintro e w' ⟨rfl, rfl⟩)
            | (go_at_call 86; refine (w_Moment _ _).mono ?_; rintro e w' ⟨rfl, rfl⟩)
            | (go_at_call 85; refine (w_Out _ _ _ _).mono ?_; rintro e w' ⟨rfl, rfl⟩))
        go_ret
        exact ⟨by rw [hv.out] <;> rfl, HNA.out.trans (((HNX.out).alloc _).drew)⟩
    | false =>
    cases lb with
    | false =>
      have hv := hide (show ev = 3 by rw [hev.out]; simp [lastMo, g0, g1, g2])
      go_upto_region 16 with fail
      go_cut [] (fun wx => wx = (wc.alloc (.cells #[.string so, .int .i64 no, .int .i64 at_, .int .i64 1, .string ri, .string ⟨#[]⟩, .string ⟨#[]⟩, .int .i64 up, .int .i64 dn, .string ⟨#[]⟩, .int .i64 0] 31)).drew)
      case first =>
        go_region
        all_goals (go_wp2; go_meet)
        all_goals first | rfl | exact hcut
      case rest =>
        subst hcut
        go_wp2_with (first
            | (go_at_call 84; refine (w_Key _ _ (by first | assumption | omega)).mono ?_; rintro e w' ⟨rfl, rfl⟩)
            | (go_at_call 86; refine (w_Moment _ _).mono ?_; rintro e w' ⟨rfl, rfl⟩)
            | (go_at_call 85; refine (w_Out _ _ _ _).mono ?_; rintro e w' ⟨rfl, rfl⟩))
        go_ret
        exact ⟨by rw [hv.out] <;> rfl, HNA.out.trans (((HNX.out).alloc _).drew)⟩
    | true =>
      have hv := hide (show ev = 0 by rw [hev.out]; simp [lastMo, g0, g1, g2])
      go_upto_region 16 with fail
      go_cut [] (fun wx => wx = (wc.alloc (.cells #[.string so, .int .i64 no, .int .i64 at_, .int .i64 1, .string ri, .string ⟨#[]⟩, .string ⟨#[]⟩, .int .i64 up, .int .i64 dn, .string ⟨#[]⟩, .int .i64 0] 31)).drew)
      case first =>
        go_region
        all_goals (go_wp2; go_meet)
        all_goals first | rfl | exact hcut
      case rest =>
        subst hcut
        go_wp2_with (first
            | (go_at_call 84; refine (w_Key _ _ (by first | assumption | omega)).mono ?_; rintro e w' ⟨rfl, rfl⟩)
            | (go_at_call 86; refine (w_Moment _ _).mono ?_; rintro e w' ⟨rfl, rfl⟩)
            | (go_at_call 85; refine (w_Out _ _ _ _).mono ?_; rintro e w' ⟨rfl, rfl⟩))
        go_ret
        exact ⟨by rw [hv.out] <;> rfl, HNA.out.trans (((HNX.out).alloc _).drew)⟩
end Go.Proofs.YtfkmbeppckelfaaGreatDoor
