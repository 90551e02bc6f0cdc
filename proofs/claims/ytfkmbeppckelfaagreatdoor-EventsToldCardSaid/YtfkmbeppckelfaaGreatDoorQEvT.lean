/- An event followed: bookings, passes, breaks. -/
import Derived.Test.YtfkmbeppckelfaaGreatDoorQEvB
namespace Go.Proofs.YtfkmbeppckelfaaGreatDoor
open Go.RowKit Go.Maps

set_option maxRecDepth 100000 in
set_option maxHeartbeats 4000000 in
theorem w_step1 (d lo rb cb N : Nat) (D : DayP) (fr fc : ByteArray → Option (Option Nat)) (fm : ByteArray → Nat) (so : ByteArray) (no at_ i : Int) (ri ca nd : ByteArray) (up dn : Int) (fo : ByteArray) (nu : Int) (nb : Value) (w : World)
    (h : DayW w lo rb cb N D fr fc fm) (h1 : w.cell? ⟨d, 1, none⟩ = some (.map (some rb))) (hd : d < lo) (_ : d ≠ cb) (_ : d ≠ rb) (hk : domS ri) (hN : N < 60000) :
    Calls Tryz.prog 90 #[.pointer (some ⟨d, 0, none⟩), .int .i64 i, .agg #[.string so, .int .i64 no, .int .i64 at_, .int .i64 1, .string ri, .string ca, .string nd, .int .i64 up, .int .i64 dn, .string fo, .int .i64 nu], nb] w (RideOut lo rb cb N (stepP D ⟨so, no, at_, 1, ri, ca, nd, up, dn, fo, nu⟩) w) := by
  have hsz := h.sz
  have hcl := h.clo
  have hrl := h.rlo
  obtain ⟨bx, hbx⟩ : ∃ bx, bx = w.heap.size := ⟨_, rfl⟩
  obtain ⟨w1, hw1⟩ : ∃ w1, w1 = w.alloc (.cells #[.string so, .int .i64 no, .int .i64 at_, .int .i64 1, .string ri, .string ca, .string nd, .int .i64 up, .int .i64 dn, .string fo, .int .i64 nu] 31 (0, 0)) := ⟨_, rfl⟩
  have hn1 : Nx w w1 := hw1 ▸ (Nx.refl w).alloc _
  have hD1 := h.nx hn1
  have hb1 : w1.heap[bx]? = some (.cells #[.string so, .int .i64 no, .int .i64 at_, .int .i64 1, .string ri, .string ca, .string nd, .int .i64 up, .int .i64 dn, .string fo, .int .i64 nu] 31 (0, 0)) := by rw [hw1, hbx]; exact heap_alloc_new w _
  have a3 : w1.cell? ⟨bx, 3, none⟩ = some (.int .i64 1) := cell_of_row w1 _ 3 _ _ _ hb1
  have a4 : w1.cell? ⟨bx, 4, none⟩ = some (.string ri) := cell_of_row w1 _ 4 _ _ _ hb1
  have a7 : w1.cell? ⟨bx, 7, none⟩ = some (.int .i64 up) := cell_of_row w1 _ 7 _ _ _ hb1
  have a8 : w1.cell? ⟨bx, 8, none⟩ = some (.int .i64 dn) := cell_of_row w1 _ 8 _ _ _ hb1
  have hd1 : w1.cell? ⟨d, 1, none⟩ = some (.map (some rb)) := nx_cell hn1 (by omega) h1
  have HF1 := hide (Fr2.nx (rb := rb) (cb := cb) hn1 hsz)
  have hl := fun n => look_ride (hD1.rides.map.nx ((Nx.refl w1).drewN n)) hk
  cases hs : D.rides ri with
  | some s =>
    obtain ⟨p, hp, hlp, hpo⟩ := hD1.rides.at_ ri s hs
    rw [hp] at hl
    simp only [Option.getD_some, ptrV] at hl
    have hr := hide (show stepP D ⟨so, no, at_, 1, ri, ca, nd, up, dn, fo, nu⟩ = (D, 6) by simp [stepP, hs])
    have HD1 := hide hD1
    have HB1 := hide hb1
    clear h hD1 hb1 h1 hs hpo hp
    go_enter Tryz.func90, Tryz.ntmps90
    go_upto_region 1 with fail
    rw [← hw1, ← hbx]
    clear hw1 hbx
    go_upto_region 19 with fail
    go_quiet (fail)
    go_wp2_with fail
    go_ret2
    exact RideOut.of hr.out rfl ⟨fr, fc, fm, (HD1.out.nx ((Nx.refl _).drewN _)).mono (by omega)⟩ (HF1.out.trans (Fr2.nx ((Nx.refl _).drewN _) HD1.out.sz))
  | none =>
    rw [hD1.rides.non ri hs] at hl
    simp only [Option.getD_none, ptrV] at hl
    have hr := hide (show stepP D ⟨so, no, at_, 1, ri, ca, nd, up, dn, fo, nu⟩ = (setR D ri ⟨ri, eB, 1, up, dn, 0, 0⟩, 0) by simp [stepP, hs])
    have HD1 := hide hD1
    have HB1 := hide hb1
    have HS := hide hs
    clear h hD1 hb1 h1 hs
    go_enter Tryz.func90, Tryz.ntmps90
    go_upto_region 1 with fail
    rw [← hw1, ← hbx]
    clear hw1 hbx
    go_upto_region 19 with fail
    go_quiet (fail)
    go_upto_region 21 with fail
    obtain ⟨w2, hw2⟩ : ∃ w2, w2 = w1.drewN nq := ⟨_, rfl⟩
    rw [← hw2]
    have hn2 : Nx w1 w2 := hw2 ▸ (Nx.refl w1).drewN _
    have HD2 := hide (HD1.out.nx hn2)
    have hb2 := (hn2.block _ (Array.getElem?_eq_some_iff.1 HB1.out).1).trans HB1.out
    have hbl : bx < w2.heap.size := (Array.getElem?_eq_some_iff.1 hb2).1
    have hdl : d < w2.heap.size := by have := HD2.out.sz; omega
    have b4 : w2.cell? ⟨bx, 4, none⟩ = some (.string ri) := cell_of_row w2 _ 4 _ _ _ hb2
    have b7 : w2.cell? ⟨bx, 7, none⟩ = some (.int .i64 up) := cell_of_row w2 _ 7 _ _ _ hb2
    have b8 : w2.cell? ⟨bx, 8, none⟩ = some (.int .i64 dn) := cell_of_row w2 _ 8 _ _ _ hb2
    have hd2 : w2.cell? ⟨d, 1, none⟩ = some (.map (some rb)) := nx_cell hn2 (by have := HD1.out.sz; omega) hd1
    have HF2 := hide (HF1.out.trans (Fr2.nx hn2 HD1.out.sz))
    obtain ⟨w3, hw3⟩ : ∃ w3, w3 = (w2.alloc (.cells #[.string ri, .string ⟨#[]⟩, .int .i64 1, .int .i64 up, .int .i64 dn, .int .i64 0, .int .i64 0] 59 (0, 0))).drew := ⟨_, rfl⟩
    have hn3 : Nx w2 w3 := hw3 ▸ ((Nx.refl w2).alloc _).drew
    have hpo3 : w3.heap[w2.heap.size]? = some (staO ⟨ri, eB, 1, up, dn, 0, 0⟩) := by rw [hw3]; exact heap_alloc_new w2 _
    have HD3 := hide (HD2.out.nx hn3)
    have hkey := keyS_mk (P := Tryz.prog) Tryz.underlying9 hk
    obtain ⟨w4, hrun, hM4, hg4⟩ := HD3.out.rides.map.upd elemPtr law_strE strV_inj Tryz.underlying86 (by unfold maxLen; omega) hk hkey (some w2.heap.size) trivial
    have hpn : ∀ j q, fr j = some (some q) → q ≠ w2.heap.size := by
      intro j q hj e
      cases hcj : D.rides j with
      | none => rw [HD2.out.rides.non j hcj] at hj; cases hj
      | some s =>
        obtain ⟨q', a, _, b⟩ := HD2.out.rides.at_ j s hcj
        rw [hj] at a; injection a with a; injection a with a; subst a
        have := (Array.getElem?_eq_some_iff.1 b).1
        omega
    have HD4 := hide (HD3.out.book HS.out (by have := HD2.out.sz; omega) hpo3 hpn hg4 hM4)
    obtain ⟨es, cl, hmo⟩ := mg_obj HD3.out.rides.map
    have HF4 := hide ((HF2.out.trans (Fr2.nx hn3 HD2.out.sz)).trans (Fr2.grMap hg4 (.inl rfl) HD3.out.sz hmo))
    have hb4 := HF4.out
    have hbx4 := (Fr2.trans (Fr2.nx hn3 HD2.out.sz) (Fr2.grMap hg4 (.inl rfl) HD3.out.sz hmo) : Fr2 lo rb cb w2 w4).cells _ _ _ _ hb2 (by decide) (by decide)
    have c4 : w4.cell? ⟨bx, 4, none⟩ = some (.string ri) := cell_of_row w4 _ 4 _ _ _ hbx4
    simp only [ptrV] at hrun
    rw [hw3] at hrun
    clear hw2 hw3 hn2 hb2 hn3 hpo3 hpn hg4 hM4 hmo hb4 hbx4 hl a3 a4 a7 a8 hd1 hkey
    go_region
    all_goals (go_wp2_with fail)
    all_goals go_ret2
    exact RideOut.of hr.out rfl ⟨_, fc, fm, (HD4.out.nx ((Nx.refl w4).alloc _)).mono (by omega)⟩ (HF4.out.trans (Fr2.nx ((Nx.refl w4).alloc _) HD4.out.sz))
set_option maxRecDepth 100000 in
set_option maxHeartbeats 4000000 in
theorem w_step7 (d lo rb cb N : Nat) (D : DayP) (fr fc : ByteArray → Option (Option Nat)) (fm : ByteArray → Nat) (so : ByteArray) (no at_ i : Int) (ri ca nd : ByteArray) (up dn : Int) (fo : ByteArray) (nu : Int) (nb : Value) (w : World)
    (h : DayW w lo rb cb N D fr fc fm) (h1 : w.cell? ⟨d, 1, none⟩ = some (.map (some rb))) (h2 : w.cell? ⟨d, 2, none⟩ = some (.map (some cb))) (hd : d < lo) (hdc : d ≠ cb) (_ : d ≠ rb) (hk : domS ca) (hN : N < 50000) :
    Calls Tryz.prog 90 #[.pointer (some ⟨d, 0, none⟩), .int .i64 i, .agg #[.string so, .int .i64 no, .int .i64 at_, .int .i64 7, .string ri, .string ca, .string nd, .int .i64 up, .int .i64 dn, .string fo, .int .i64 nu], nb] w (RideOut lo rb cb N (stepP D ⟨so, no, at_, 7, ri, ca, nd, up, dn, fo, nu⟩) w) := by
  have hsz := h.sz
  have hcl := h.clo
  have hrl := h.rlo
  obtain ⟨bx, hbx⟩ : ∃ bx, bx = w.heap.size := ⟨_, rfl⟩
  obtain ⟨w1, hw1⟩ : ∃ w1, w1 = w.alloc (.cells #[.string so, .int .i64 no, .int .i64 at_, .int .i64 7, .string ri, .string ca, .string nd, .int .i64 up, .int .i64 dn, .string fo, .int .i64 nu] 31 (0, 0)) := ⟨_, rfl⟩
  have hn1 : Nx w w1 := hw1 ▸ (Nx.refl w).alloc _
  have hD1 := h.nx hn1
  have hb1 : w1.heap[bx]? = some (.cells #[.string so, .int .i64 no, .int .i64 at_, .int .i64 7, .string ri, .string ca, .string nd, .int .i64 up, .int .i64 dn, .string fo, .int .i64 nu] 31 (0, 0)) := by rw [hw1, hbx]; exact heap_alloc_new w _
  have a0 : w1.cell? ⟨bx, 0, none⟩ = some (.string so) := cell_of_row w1 _ 0 _ _ _ hb1
  have a1 : w1.cell? ⟨bx, 1, none⟩ = some (.int .i64 no) := cell_of_row w1 _ 1 _ _ _ hb1
  have a2 : w1.cell? ⟨bx, 2, none⟩ = some (.int .i64 at_) := cell_of_row w1 _ 2 _ _ _ hb1
  have a3 : w1.cell? ⟨bx, 3, none⟩ = some (.int .i64 7) := cell_of_row w1 _ 3 _ _ _ hb1
  have a4 : w1.cell? ⟨bx, 4, none⟩ = some (.string ri) := cell_of_row w1 _ 4 _ _ _ hb1
  have a5 : w1.cell? ⟨bx, 5, none⟩ = some (.string ca) := cell_of_row w1 _ 5 _ _ _ hb1
  have a6 : w1.cell? ⟨bx, 6, none⟩ = some (.string nd) := cell_of_row w1 _ 6 _ _ _ hb1
  have a7 : w1.cell? ⟨bx, 7, none⟩ = some (.int .i64 up) := cell_of_row w1 _ 7 _ _ _ hb1
  have a8 : w1.cell? ⟨bx, 8, none⟩ = some (.int .i64 dn) := cell_of_row w1 _ 8 _ _ _ hb1
  have a9 : w1.cell? ⟨bx, 9, none⟩ = some (.string fo) := cell_of_row w1 _ 9 _ _ _ hb1
  have a10 : w1.cell? ⟨bx, 10, none⟩ = some (.int .i64 nu) := cell_of_row w1 _ 10 _ _ _ hb1
  have hd1 : w1.cell? ⟨d, 1, none⟩ = some (.map (some rb)) := nx_cell hn1 (by omega) h1
  have hd2 : w1.cell? ⟨d, 2, none⟩ = some (.map (some cb)) := nx_cell hn1 (by omega) h2
  have HF1 := hide (Fr2.nx (rb := rb) (cb := cb) hn1 hsz)
  have HD1 := hide hD1
  have hbb : brokenP D ca = true ∨ brokenP D ca = false := by cases brokenP D ca <;> simp
  have HBR := hide (w_broken d lo rb cb N D fr fc fm ca w1 hD1 hd2 hk)
  have HWA := hide (w_was d lo rb cb N D fr fc fm ⟨so, no, at_, 7, ri, ca, nd, up, dn, fo, nu⟩ w1 hD1 hd2 hd hdc hk (by omega))
  unfold evA at HWA
  simp only at HWA
  clear h hD1 hb1 h1 h2
  rcases hbb with hbb | hbb
  · have hr := hide (show stepP D ⟨so, no, at_, 7, ri, ca, nd, up, dn, fo, nu⟩ = (D, 16) by simp [stepP, hbb])
    rw [hbb] at HBR
    clear hbb
    go_enter Tryz.func90, Tryz.ntmps90
    go_upto_region 1 with fail
    rw [← hw1, ← hbx]
    clear hw1 hbx
    go_wp2_with (go_at_call 128; refine HBR.out.mono ?_; rintro e w3 ⟨rfl, rfl⟩)
    go_ret2
    exact RideOut.of hr.out rfl ⟨fr, fc, fm, HD1.out.mono (by omega)⟩ HF1.out
  · have hr := hide (show stepP D ⟨so, no, at_, 7, ri, ca, nd, up, dn, fo, nu⟩ = (wasP D ⟨so, no, at_, 7, ri, ca, nd, up, dn, fo, nu⟩, 0) by simp [stepP, hbb])
    rw [hbb] at HBR
    clear hbb
    go_enter Tryz.func90, Tryz.ntmps90
    go_upto_region 1 with fail
    rw [← hw1, ← hbx]
    clear hw1 hbx
    go_wp2_with (first
      | (go_at_call 128; refine HBR.out.mono ?_; rintro e w3 ⟨rfl, rfl⟩)
      | (go_at_call 129; refine HWA.out.mono ?_; rintro e w4 ⟨rfl, hD4, hF4⟩; (have HD4 := hide hD4); (have HF4 := hide hF4); clear hD4 hF4))
    go_ret2
    obtain ⟨fc4, fm4, hD4⟩ := HD4.out
    exact RideOut.of hr.out rfl ⟨fr, fc4, fm4, hD4.mono (by omega)⟩ (HF1.out.trans HF4.out)
set_option maxRecDepth 100000 in
set_option maxHeartbeats 4000000 in
theorem w_step8 (d lo rb cb N : Nat) (D : DayP) (fr fc : ByteArray → Option (Option Nat)) (fm : ByteArray → Nat) (so : ByteArray) (no at_ i : Int) (ri ca nd : ByteArray) (up dn : Int) (fo : ByteArray) (nu : Int) (nb : Value) (w : World)
    (h : DayW w lo rb cb N D fr fc fm) (h1 : w.cell? ⟨d, 1, none⟩ = some (.map (some rb))) (h2 : w.cell? ⟨d, 2, none⟩ = some (.map (some cb))) (hd : d < lo) (hdc : d ≠ cb) (hdr : d ≠ rb) (hk : domS ca) (hN : N < 50000) :
    Calls Tryz.prog 90 #[.pointer (some ⟨d, 0, none⟩), .int .i64 i, .agg #[.string so, .int .i64 no, .int .i64 at_, .int .i64 8, .string ri, .string ca, .string nd, .int .i64 up, .int .i64 dn, .string fo, .int .i64 nu], nb] w (RideOut lo rb cb N (stepP D ⟨so, no, at_, 8, ri, ca, nd, up, dn, fo, nu⟩) w) := by
  have hsz := h.sz
  have hcl := h.clo
  have hrl := h.rlo
  obtain ⟨bx, hbx⟩ : ∃ bx, bx = w.heap.size := ⟨_, rfl⟩
  obtain ⟨w1, hw1⟩ : ∃ w1, w1 = w.alloc (.cells #[.string so, .int .i64 no, .int .i64 at_, .int .i64 8, .string ri, .string ca, .string nd, .int .i64 up, .int .i64 dn, .string fo, .int .i64 nu] 31 (0, 0)) := ⟨_, rfl⟩
  have hn1 : Nx w w1 := hw1 ▸ (Nx.refl w).alloc _
  have hD1 := h.nx hn1
  have hb1 : w1.heap[bx]? = some (.cells #[.string so, .int .i64 no, .int .i64 at_, .int .i64 8, .string ri, .string ca, .string nd, .int .i64 up, .int .i64 dn, .string fo, .int .i64 nu] 31 (0, 0)) := by rw [hw1, hbx]; exact heap_alloc_new w _
  have a0 : w1.cell? ⟨bx, 0, none⟩ = some (.string so) := cell_of_row w1 _ 0 _ _ _ hb1
  have a1 : w1.cell? ⟨bx, 1, none⟩ = some (.int .i64 no) := cell_of_row w1 _ 1 _ _ _ hb1
  have a2 : w1.cell? ⟨bx, 2, none⟩ = some (.int .i64 at_) := cell_of_row w1 _ 2 _ _ _ hb1
  have a3 : w1.cell? ⟨bx, 3, none⟩ = some (.int .i64 8) := cell_of_row w1 _ 3 _ _ _ hb1
  have a4 : w1.cell? ⟨bx, 4, none⟩ = some (.string ri) := cell_of_row w1 _ 4 _ _ _ hb1
  have a5 : w1.cell? ⟨bx, 5, none⟩ = some (.string ca) := cell_of_row w1 _ 5 _ _ _ hb1
  have a6 : w1.cell? ⟨bx, 6, none⟩ = some (.string nd) := cell_of_row w1 _ 6 _ _ _ hb1
  have a7 : w1.cell? ⟨bx, 7, none⟩ = some (.int .i64 up) := cell_of_row w1 _ 7 _ _ _ hb1
  have a8 : w1.cell? ⟨bx, 8, none⟩ = some (.int .i64 dn) := cell_of_row w1 _ 8 _ _ _ hb1
  have a9 : w1.cell? ⟨bx, 9, none⟩ = some (.string fo) := cell_of_row w1 _ 9 _ _ _ hb1
  have a10 : w1.cell? ⟨bx, 10, none⟩ = some (.int .i64 nu) := cell_of_row w1 _ 10 _ _ _ hb1
  have hd1 : w1.cell? ⟨d, 1, none⟩ = some (.map (some rb)) := nx_cell hn1 (by omega) h1
  have hd2 : w1.cell? ⟨d, 2, none⟩ = some (.map (some cb)) := nx_cell hn1 (by omega) h2
  have HF1 := hide (Fr2.nx (rb := rb) (cb := cb) hn1 hsz)
  have HBK := hide (w_breaks d lo rb cb N D fr fc fm so no at_ 8 ri ca nd up dn fo nu w1 hD1 hd1 hd2 hd hdc hdr hk (by omega))
  have hr := hide (show stepP D ⟨so, no, at_, 8, ri, ca, nd, up, dn, fo, nu⟩ = breaksP D ⟨so, no, at_, 8, ri, ca, nd, up, dn, fo, nu⟩ by simp [stepP])
  clear h hD1 hb1 h1 h2
  go_enter Tryz.func90, Tryz.ntmps90
  go_upto_region 1 with fail
  rw [← hw1, ← hbx]
  clear hw1 hbx
  go_wp2_with (go_at_call 130; refine HBK.out.mono ?_; rintro e w3 ⟨A, n, c, rfl, hD4, hF4⟩; (have HD4 := hide hD4); (have HF4 := hide hF4); clear hD4 hF4)
  go_ret2
  exact RideOut.of hr.out rfl HD4.out (HF1.out.trans HF4.out)
set_option maxRecDepth 100000 in
set_option maxHeartbeats 4000000 in
theorem w_step2 (d lo rb cb N : Nat) (D : DayP) (fr fc : ByteArray → Option (Option Nat)) (fm : ByteArray → Nat) (so : ByteArray) (no at_ i : Int) (ri ca nd : ByteArray) (up dn : Int) (fo : ByteArray) (nu : Int) (nb : Value) (w : World)
    (h : DayW w lo rb cb N D fr fc fm) (h1 : w.cell? ⟨d, 1, none⟩ = some (.map (some rb))) (h2 : w.cell? ⟨d, 2, none⟩ = some (.map (some cb))) (hd : d < lo) (hdc : d ≠ cb) (hdr : d ≠ rb) (hkr : domS ri) (hk : domS ca) (hN : N < 50000) :
    Calls Tryz.prog 90 #[.pointer (some ⟨d, 0, none⟩), .int .i64 i, .agg #[.string so, .int .i64 no, .int .i64 at_, .int .i64 2, .string ri, .string ca, .string nd, .int .i64 up, .int .i64 dn, .string fo, .int .i64 nu], nb] w (RideOut lo rb cb N (stepP D ⟨so, no, at_, 2, ri, ca, nd, up, dn, fo, nu⟩) w) := by
  have hsz := h.sz
  have hcl := h.clo
  have hrl := h.rlo
  obtain ⟨bx, hbx⟩ : ∃ bx, bx = w.heap.size := ⟨_, rfl⟩
  obtain ⟨w1, hw1⟩ : ∃ w1, w1 = w.alloc (.cells #[.string so, .int .i64 no, .int .i64 at_, .int .i64 2, .string ri, .string ca, .string nd, .int .i64 up, .int .i64 dn, .string fo, .int .i64 nu] 31 (0, 0)) := ⟨_, rfl⟩
  have hn1 : Nx w w1 := hw1 ▸ (Nx.refl w).alloc _
  have hD1 := h.nx hn1
  have hb1 : w1.heap[bx]? = some (.cells #[.string so, .int .i64 no, .int .i64 at_, .int .i64 2, .string ri, .string ca, .string nd, .int .i64 up, .int .i64 dn, .string fo, .int .i64 nu] 31 (0, 0)) := by rw [hw1, hbx]; exact heap_alloc_new w _
  have a0 : w1.cell? ⟨bx, 0, none⟩ = some (.string so) := cell_of_row w1 _ 0 _ _ _ hb1
  have a1 : w1.cell? ⟨bx, 1, none⟩ = some (.int .i64 no) := cell_of_row w1 _ 1 _ _ _ hb1
  have a2 : w1.cell? ⟨bx, 2, none⟩ = some (.int .i64 at_) := cell_of_row w1 _ 2 _ _ _ hb1
  have a3 : w1.cell? ⟨bx, 3, none⟩ = some (.int .i64 2) := cell_of_row w1 _ 3 _ _ _ hb1
  have a4 : w1.cell? ⟨bx, 4, none⟩ = some (.string ri) := cell_of_row w1 _ 4 _ _ _ hb1
  have a5 : w1.cell? ⟨bx, 5, none⟩ = some (.string ca) := cell_of_row w1 _ 5 _ _ _ hb1
  have a6 : w1.cell? ⟨bx, 6, none⟩ = some (.string nd) := cell_of_row w1 _ 6 _ _ _ hb1
  have a7 : w1.cell? ⟨bx, 7, none⟩ = some (.int .i64 up) := cell_of_row w1 _ 7 _ _ _ hb1
  have a8 : w1.cell? ⟨bx, 8, none⟩ = some (.int .i64 dn) := cell_of_row w1 _ 8 _ _ _ hb1
  have a9 : w1.cell? ⟨bx, 9, none⟩ = some (.string fo) := cell_of_row w1 _ 9 _ _ _ hb1
  have a10 : w1.cell? ⟨bx, 10, none⟩ = some (.int .i64 nu) := cell_of_row w1 _ 10 _ _ _ hb1
  have hd1 : w1.cell? ⟨d, 1, none⟩ = some (.map (some rb)) := nx_cell hn1 (by omega) h1
  have hd2 : w1.cell? ⟨d, 2, none⟩ = some (.map (some cb)) := nx_cell hn1 (by omega) h2
  have HF1 := hide (Fr2.nx (rb := rb) (cb := cb) hn1 hsz)
  have hl := fun n => look_ride (hD1.rides.map.nx ((Nx.refl w1).drewN n)) hkr
  cases hs : D.rides ri with
  | none =>
    rw [hD1.rides.non ri hs] at hl
    simp only [Option.getD_none, ptrV] at hl
    have hr := hide (show stepP D ⟨so, no, at_, 2, ri, ca, nd, up, dn, fo, nu⟩ = (D, 8) by simp [stepP, hs])
    have HD1 := hide hD1
    clear h hD1 hb1 h1 h2 hs
    go_enter Tryz.func90, Tryz.ntmps90
    go_upto_region 1 with fail
    rw [← hw1, ← hbx]
    clear hw1 hbx
    go_upto_region 23 with fail
    go_quiet (fail)
    go_wp2_with fail
    go_ret2
    exact RideOut.of hr.out rfl ⟨fr, fc, fm, (HD1.out.nx ((Nx.refl _).drewN _)).mono (by omega)⟩ (HF1.out.trans (Fr2.nx ((Nx.refl _).drewN _) HD1.out.sz))
  | some s =>
    obtain ⟨p, hp, hlp, hpo⟩ := hD1.rides.at_ ri s hs
    rw [hp] at hl
    simp only [Option.getD_some, ptrV] at hl
    have hr := hide (show stepP D ⟨so, no, at_, 2, ri, ca, nd, up, dn, fo, nu⟩ = rideP D s ⟨so, no, at_, 2, ri, ca, nd, up, dn, fo, nu⟩ by simp [stepP, hs])
    have HRI := hide (fun n => w_ride2 d lo rb cb N p D fr fc fm so no at_ ri ca nd up dn fo nu s (w1.drewN n) (hD1.nx ((Nx.refl _).drewN n)) (nx_cell ((Nx.refl _).drewN n) (by have := hD1.sz; omega) hd2) hd hdc hdr hs hp hkr hk (by omega))
    have HD1 := hide hD1
    clear h hD1 hb1 h1 h2 hs hpo hp
    go_enter Tryz.func90, Tryz.ntmps90
    go_upto_region 1 with fail
    rw [← hw1, ← hbx]
    clear hw1 hbx
    go_upto_region 23 with fail
    go_quiet (fail)
    go_wp2_with (go_at_call 131; refine (HRI.out _).mono ?_; rintro e w3 ⟨A, n, c, rfl, hD4, hF4⟩; (have HD4 := hide hD4); (have HF4 := hide hF4); clear hD4 hF4)
    go_ret2
    exact RideOut.of hr.out rfl HD4.out ((HF1.out.trans (Fr2.nx ((Nx.refl _).drewN _) HD1.out.sz)).trans HF4.out)
set_option maxRecDepth 100000 in
set_option maxHeartbeats 4000000 in
theorem w_step3 (d lo rb cb N : Nat) (D : DayP) (fr fc : ByteArray → Option (Option Nat)) (fm : ByteArray → Nat) (so : ByteArray) (no at_ i : Int) (ri ca nd : ByteArray) (up dn : Int) (fo : ByteArray) (nu : Int) (nb : Value) (w : World)
    (h : DayW w lo rb cb N D fr fc fm) (h1 : w.cell? ⟨d, 1, none⟩ = some (.map (some rb))) (h2 : w.cell? ⟨d, 2, none⟩ = some (.map (some cb))) (hd : d < lo) (hdc : d ≠ cb) (hdr : d ≠ rb) (hkr : domS ri) (hk : domS ca) (hN : N < 50000) :
    Calls Tryz.prog 90 #[.pointer (some ⟨d, 0, none⟩), .int .i64 i, .agg #[.string so, .int .i64 no, .int .i64 at_, .int .i64 3, .string ri, .string ca, .string nd, .int .i64 up, .int .i64 dn, .string fo, .int .i64 nu], nb] w (RideOut lo rb cb N (stepP D ⟨so, no, at_, 3, ri, ca, nd, up, dn, fo, nu⟩) w) := by
  have hsz := h.sz
  have hcl := h.clo
  have hrl := h.rlo
  obtain ⟨bx, hbx⟩ : ∃ bx, bx = w.heap.size := ⟨_, rfl⟩
  obtain ⟨w1, hw1⟩ : ∃ w1, w1 = w.alloc (.cells #[.string so, .int .i64 no, .int .i64 at_, .int .i64 3, .string ri, .string ca, .string nd, .int .i64 up, .int .i64 dn, .string fo, .int .i64 nu] 31 (0, 0)) := ⟨_, rfl⟩
  have hn1 : Nx w w1 := hw1 ▸ (Nx.refl w).alloc _
  have hD1 := h.nx hn1
  have hb1 : w1.heap[bx]? = some (.cells #[.string so, .int .i64 no, .int .i64 at_, .int .i64 3, .string ri, .string ca, .string nd, .int .i64 up, .int .i64 dn, .string fo, .int .i64 nu] 31 (0, 0)) := by rw [hw1, hbx]; exact heap_alloc_new w _
  have a0 : w1.cell? ⟨bx, 0, none⟩ = some (.string so) := cell_of_row w1 _ 0 _ _ _ hb1
  have a1 : w1.cell? ⟨bx, 1, none⟩ = some (.int .i64 no) := cell_of_row w1 _ 1 _ _ _ hb1
  have a2 : w1.cell? ⟨bx, 2, none⟩ = some (.int .i64 at_) := cell_of_row w1 _ 2 _ _ _ hb1
  have a3 : w1.cell? ⟨bx, 3, none⟩ = some (.int .i64 3) := cell_of_row w1 _ 3 _ _ _ hb1
  have a4 : w1.cell? ⟨bx, 4, none⟩ = some (.string ri) := cell_of_row w1 _ 4 _ _ _ hb1
  have a5 : w1.cell? ⟨bx, 5, none⟩ = some (.string ca) := cell_of_row w1 _ 5 _ _ _ hb1
  have a6 : w1.cell? ⟨bx, 6, none⟩ = some (.string nd) := cell_of_row w1 _ 6 _ _ _ hb1
  have a7 : w1.cell? ⟨bx, 7, none⟩ = some (.int .i64 up) := cell_of_row w1 _ 7 _ _ _ hb1
  have a8 : w1.cell? ⟨bx, 8, none⟩ = some (.int .i64 dn) := cell_of_row w1 _ 8 _ _ _ hb1
  have a9 : w1.cell? ⟨bx, 9, none⟩ = some (.string fo) := cell_of_row w1 _ 9 _ _ _ hb1
  have a10 : w1.cell? ⟨bx, 10, none⟩ = some (.int .i64 nu) := cell_of_row w1 _ 10 _ _ _ hb1
  have hd1 : w1.cell? ⟨d, 1, none⟩ = some (.map (some rb)) := nx_cell hn1 (by omega) h1
  have hd2 : w1.cell? ⟨d, 2, none⟩ = some (.map (some cb)) := nx_cell hn1 (by omega) h2
  have HF1 := hide (Fr2.nx (rb := rb) (cb := cb) hn1 hsz)
  have hl := fun n => look_ride (hD1.rides.map.nx ((Nx.refl w1).drewN n)) hkr
  cases hs : D.rides ri with
  | none =>
    rw [hD1.rides.non ri hs] at hl
    simp only [Option.getD_none, ptrV] at hl
    have hr := hide (show stepP D ⟨so, no, at_, 3, ri, ca, nd, up, dn, fo, nu⟩ = (D, 8) by simp [stepP, hs])
    have HD1 := hide hD1
    clear h hD1 hb1 h1 h2 hs
    go_enter Tryz.func90, Tryz.ntmps90
    go_upto_region 1 with fail
    rw [← hw1, ← hbx]
    clear hw1 hbx
    go_upto_region 23 with fail
    go_quiet (fail)
    go_wp2_with fail
    go_ret2
    exact RideOut.of hr.out rfl ⟨fr, fc, fm, (HD1.out.nx ((Nx.refl _).drewN _)).mono (by omega)⟩ (HF1.out.trans (Fr2.nx ((Nx.refl _).drewN _) HD1.out.sz))
  | some s =>
    obtain ⟨p, hp, hlp, hpo⟩ := hD1.rides.at_ ri s hs
    rw [hp] at hl
    simp only [Option.getD_some, ptrV] at hl
    have hr := hide (show stepP D ⟨so, no, at_, 3, ri, ca, nd, up, dn, fo, nu⟩ = rideP D s ⟨so, no, at_, 3, ri, ca, nd, up, dn, fo, nu⟩ by simp [stepP, hs])
    have HRI := hide (fun n => w_ride3 d lo rb cb N p D fr fc fm so no at_ ri ca nd up dn fo nu s (w1.drewN n) (hD1.nx ((Nx.refl _).drewN n)) (nx_cell ((Nx.refl _).drewN n) (by have := hD1.sz; omega) hd2) hd hdc hdr hs hp hkr hk (by omega))
    have HD1 := hide hD1
    clear h hD1 hb1 h1 h2 hs hpo hp
    go_enter Tryz.func90, Tryz.ntmps90
    go_upto_region 1 with fail
    rw [← hw1, ← hbx]
    clear hw1 hbx
    go_upto_region 23 with fail
    go_quiet (fail)
    go_wp2_with (go_at_call 131; refine (HRI.out _).mono ?_; rintro e w3 ⟨A, n, c, rfl, hD4, hF4⟩; (have HD4 := hide hD4); (have HF4 := hide hF4); clear hD4 hF4)
    go_ret2
    exact RideOut.of hr.out rfl HD4.out ((HF1.out.trans (Fr2.nx ((Nx.refl _).drewN _) HD1.out.sz)).trans HF4.out)
set_option maxRecDepth 100000 in
set_option maxHeartbeats 4000000 in
theorem w_step4 (d lo rb cb N : Nat) (D : DayP) (fr fc : ByteArray → Option (Option Nat)) (fm : ByteArray → Nat) (so : ByteArray) (no at_ i : Int) (ri ca nd : ByteArray) (up dn : Int) (fo : ByteArray) (nu : Int) (nb : Value) (w : World)
    (h : DayW w lo rb cb N D fr fc fm) (h1 : w.cell? ⟨d, 1, none⟩ = some (.map (some rb))) (h2 : w.cell? ⟨d, 2, none⟩ = some (.map (some cb))) (hd : d < lo) (hdc : d ≠ cb) (hdr : d ≠ rb) (hkr : domS ri) (hk : domS ca) (hN : N < 50000) :
    Calls Tryz.prog 90 #[.pointer (some ⟨d, 0, none⟩), .int .i64 i, .agg #[.string so, .int .i64 no, .int .i64 at_, .int .i64 4, .string ri, .string ca, .string nd, .int .i64 up, .int .i64 dn, .string fo, .int .i64 nu], nb] w (RideOut lo rb cb N (stepP D ⟨so, no, at_, 4, ri, ca, nd, up, dn, fo, nu⟩) w) := by
  have hsz := h.sz
  have hcl := h.clo
  have hrl := h.rlo
  obtain ⟨bx, hbx⟩ : ∃ bx, bx = w.heap.size := ⟨_, rfl⟩
  obtain ⟨w1, hw1⟩ : ∃ w1, w1 = w.alloc (.cells #[.string so, .int .i64 no, .int .i64 at_, .int .i64 4, .string ri, .string ca, .string nd, .int .i64 up, .int .i64 dn, .string fo, .int .i64 nu] 31 (0, 0)) := ⟨_, rfl⟩
  have hn1 : Nx w w1 := hw1 ▸ (Nx.refl w).alloc _
  have hD1 := h.nx hn1
  have hb1 : w1.heap[bx]? = some (.cells #[.string so, .int .i64 no, .int .i64 at_, .int .i64 4, .string ri, .string ca, .string nd, .int .i64 up, .int .i64 dn, .string fo, .int .i64 nu] 31 (0, 0)) := by rw [hw1, hbx]; exact heap_alloc_new w _
  have a0 : w1.cell? ⟨bx, 0, none⟩ = some (.string so) := cell_of_row w1 _ 0 _ _ _ hb1
  have a1 : w1.cell? ⟨bx, 1, none⟩ = some (.int .i64 no) := cell_of_row w1 _ 1 _ _ _ hb1
  have a2 : w1.cell? ⟨bx, 2, none⟩ = some (.int .i64 at_) := cell_of_row w1 _ 2 _ _ _ hb1
  have a3 : w1.cell? ⟨bx, 3, none⟩ = some (.int .i64 4) := cell_of_row w1 _ 3 _ _ _ hb1
  have a4 : w1.cell? ⟨bx, 4, none⟩ = some (.string ri) := cell_of_row w1 _ 4 _ _ _ hb1
  have a5 : w1.cell? ⟨bx, 5, none⟩ = some (.string ca) := cell_of_row w1 _ 5 _ _ _ hb1
  have a6 : w1.cell? ⟨bx, 6, none⟩ = some (.string nd) := cell_of_row w1 _ 6 _ _ _ hb1
  have a7 : w1.cell? ⟨bx, 7, none⟩ = some (.int .i64 up) := cell_of_row w1 _ 7 _ _ _ hb1
  have a8 : w1.cell? ⟨bx, 8, none⟩ = some (.int .i64 dn) := cell_of_row w1 _ 8 _ _ _ hb1
  have a9 : w1.cell? ⟨bx, 9, none⟩ = some (.string fo) := cell_of_row w1 _ 9 _ _ _ hb1
  have a10 : w1.cell? ⟨bx, 10, none⟩ = some (.int .i64 nu) := cell_of_row w1 _ 10 _ _ _ hb1
  have hd1 : w1.cell? ⟨d, 1, none⟩ = some (.map (some rb)) := nx_cell hn1 (by omega) h1
  have hd2 : w1.cell? ⟨d, 2, none⟩ = some (.map (some cb)) := nx_cell hn1 (by omega) h2
  have HF1 := hide (Fr2.nx (rb := rb) (cb := cb) hn1 hsz)
  have hl := fun n => look_ride (hD1.rides.map.nx ((Nx.refl w1).drewN n)) hkr
  cases hs : D.rides ri with
  | none =>
    rw [hD1.rides.non ri hs] at hl
    simp only [Option.getD_none, ptrV] at hl
    have hr := hide (show stepP D ⟨so, no, at_, 4, ri, ca, nd, up, dn, fo, nu⟩ = (D, 8) by simp [stepP, hs])
    have HD1 := hide hD1
    clear h hD1 hb1 h1 h2 hs
    go_enter Tryz.func90, Tryz.ntmps90
    go_upto_region 1 with fail
    rw [← hw1, ← hbx]
    clear hw1 hbx
    go_upto_region 23 with fail
    go_quiet (fail)
    go_wp2_with fail
    go_ret2
    exact RideOut.of hr.out rfl ⟨fr, fc, fm, (HD1.out.nx ((Nx.refl _).drewN _)).mono (by omega)⟩ (HF1.out.trans (Fr2.nx ((Nx.refl _).drewN _) HD1.out.sz))
  | some s =>
    obtain ⟨p, hp, hlp, hpo⟩ := hD1.rides.at_ ri s hs
    rw [hp] at hl
    simp only [Option.getD_some, ptrV] at hl
    have hr := hide (show stepP D ⟨so, no, at_, 4, ri, ca, nd, up, dn, fo, nu⟩ = rideP D s ⟨so, no, at_, 4, ri, ca, nd, up, dn, fo, nu⟩ by simp [stepP, hs])
    have HRI := hide (fun n => w_ride4 d lo rb cb N p D fr fc fm so no at_ ri ca nd up dn fo nu s (w1.drewN n) (hD1.nx ((Nx.refl _).drewN n)) (nx_cell ((Nx.refl _).drewN n) (by have := hD1.sz; omega) hd2) hd hdc hdr hs hp hkr hk (by omega))
    have HD1 := hide hD1
    clear h hD1 hb1 h1 h2 hs hpo hp
    go_enter Tryz.func90, Tryz.ntmps90
    go_upto_region 1 with fail
    rw [← hw1, ← hbx]
    clear hw1 hbx
    go_upto_region 23 with fail
    go_quiet (fail)
    go_wp2_with (go_at_call 131; refine (HRI.out _).mono ?_; rintro e w3 ⟨A, n, c, rfl, hD4, hF4⟩; (have HD4 := hide hD4); (have HF4 := hide hF4); clear hD4 hF4)
    go_ret2
    exact RideOut.of hr.out rfl HD4.out ((HF1.out.trans (Fr2.nx ((Nx.refl _).drewN _) HD1.out.sz)).trans HF4.out)
set_option maxRecDepth 100000 in
set_option maxHeartbeats 4000000 in
theorem w_step5 (d lo rb cb N : Nat) (D : DayP) (fr fc : ByteArray → Option (Option Nat)) (fm : ByteArray → Nat) (so : ByteArray) (no at_ i : Int) (ri ca nd : ByteArray) (up dn : Int) (fo : ByteArray) (nu : Int) (nb : Value) (w : World)
    (h : DayW w lo rb cb N D fr fc fm) (h1 : w.cell? ⟨d, 1, none⟩ = some (.map (some rb))) (h2 : w.cell? ⟨d, 2, none⟩ = some (.map (some cb))) (hd : d < lo) (hdc : d ≠ cb) (hdr : d ≠ rb) (hkr : domS ri) (hk : domS ca) (hN : N < 50000) :
    Calls Tryz.prog 90 #[.pointer (some ⟨d, 0, none⟩), .int .i64 i, .agg #[.string so, .int .i64 no, .int .i64 at_, .int .i64 5, .string ri, .string ca, .string nd, .int .i64 up, .int .i64 dn, .string fo, .int .i64 nu], nb] w (RideOut lo rb cb N (stepP D ⟨so, no, at_, 5, ri, ca, nd, up, dn, fo, nu⟩) w) := by
  have hsz := h.sz
  have hcl := h.clo
  have hrl := h.rlo
  obtain ⟨bx, hbx⟩ : ∃ bx, bx = w.heap.size := ⟨_, rfl⟩
  obtain ⟨w1, hw1⟩ : ∃ w1, w1 = w.alloc (.cells #[.string so, .int .i64 no, .int .i64 at_, .int .i64 5, .string ri, .string ca, .string nd, .int .i64 up, .int .i64 dn, .string fo, .int .i64 nu] 31 (0, 0)) := ⟨_, rfl⟩
  have hn1 : Nx w w1 := hw1 ▸ (Nx.refl w).alloc _
  have hD1 := h.nx hn1
  have hb1 : w1.heap[bx]? = some (.cells #[.string so, .int .i64 no, .int .i64 at_, .int .i64 5, .string ri, .string ca, .string nd, .int .i64 up, .int .i64 dn, .string fo, .int .i64 nu] 31 (0, 0)) := by rw [hw1, hbx]; exact heap_alloc_new w _
  have a0 : w1.cell? ⟨bx, 0, none⟩ = some (.string so) := cell_of_row w1 _ 0 _ _ _ hb1
  have a1 : w1.cell? ⟨bx, 1, none⟩ = some (.int .i64 no) := cell_of_row w1 _ 1 _ _ _ hb1
  have a2 : w1.cell? ⟨bx, 2, none⟩ = some (.int .i64 at_) := cell_of_row w1 _ 2 _ _ _ hb1
  have a3 : w1.cell? ⟨bx, 3, none⟩ = some (.int .i64 5) := cell_of_row w1 _ 3 _ _ _ hb1
  have a4 : w1.cell? ⟨bx, 4, none⟩ = some (.string ri) := cell_of_row w1 _ 4 _ _ _ hb1
  have a5 : w1.cell? ⟨bx, 5, none⟩ = some (.string ca) := cell_of_row w1 _ 5 _ _ _ hb1
  have a6 : w1.cell? ⟨bx, 6, none⟩ = some (.string nd) := cell_of_row w1 _ 6 _ _ _ hb1
  have a7 : w1.cell? ⟨bx, 7, none⟩ = some (.int .i64 up) := cell_of_row w1 _ 7 _ _ _ hb1
  have a8 : w1.cell? ⟨bx, 8, none⟩ = some (.int .i64 dn) := cell_of_row w1 _ 8 _ _ _ hb1
  have a9 : w1.cell? ⟨bx, 9, none⟩ = some (.string fo) := cell_of_row w1 _ 9 _ _ _ hb1
  have a10 : w1.cell? ⟨bx, 10, none⟩ = some (.int .i64 nu) := cell_of_row w1 _ 10 _ _ _ hb1
  have hd1 : w1.cell? ⟨d, 1, none⟩ = some (.map (some rb)) := nx_cell hn1 (by omega) h1
  have hd2 : w1.cell? ⟨d, 2, none⟩ = some (.map (some cb)) := nx_cell hn1 (by omega) h2
  have HF1 := hide (Fr2.nx (rb := rb) (cb := cb) hn1 hsz)
  have hl := fun n => look_ride (hD1.rides.map.nx ((Nx.refl w1).drewN n)) hkr
  cases hs : D.rides ri with
  | none =>
    rw [hD1.rides.non ri hs] at hl
    simp only [Option.getD_none, ptrV] at hl
    have hr := hide (show stepP D ⟨so, no, at_, 5, ri, ca, nd, up, dn, fo, nu⟩ = (D, 8) by simp [stepP, hs])
    have HD1 := hide hD1
    clear h hD1 hb1 h1 h2 hs
    go_enter Tryz.func90, Tryz.ntmps90
    go_upto_region 1 with fail
    rw [← hw1, ← hbx]
    clear hw1 hbx
    go_upto_region 23 with fail
    go_quiet (fail)
    go_wp2_with fail
    go_ret2
    exact RideOut.of hr.out rfl ⟨fr, fc, fm, (HD1.out.nx ((Nx.refl _).drewN _)).mono (by omega)⟩ (HF1.out.trans (Fr2.nx ((Nx.refl _).drewN _) HD1.out.sz))
  | some s =>
    obtain ⟨p, hp, hlp, hpo⟩ := hD1.rides.at_ ri s hs
    rw [hp] at hl
    simp only [Option.getD_some, ptrV] at hl
    have hr := hide (show stepP D ⟨so, no, at_, 5, ri, ca, nd, up, dn, fo, nu⟩ = rideP D s ⟨so, no, at_, 5, ri, ca, nd, up, dn, fo, nu⟩ by simp [stepP, hs])
    have HRI := hide (fun n => w_ride5 d lo rb cb N p D fr fc fm so no at_ ri ca nd up dn fo nu s (w1.drewN n) (hD1.nx ((Nx.refl _).drewN n)) (nx_cell ((Nx.refl _).drewN n) (by have := hD1.sz; omega) hd2) hd hdc hdr hs hp hkr hk (by omega))
    have HD1 := hide hD1
    clear h hD1 hb1 h1 h2 hs hpo hp
    go_enter Tryz.func90, Tryz.ntmps90
    go_upto_region 1 with fail
    rw [← hw1, ← hbx]
    clear hw1 hbx
    go_upto_region 23 with fail
    go_quiet (fail)
    go_wp2_with (go_at_call 131; refine (HRI.out _).mono ?_; rintro e w3 ⟨A, n, c, rfl, hD4, hF4⟩; (have HD4 := hide hD4); (have HF4 := hide hF4); clear hD4 hF4)
    go_ret2
    exact RideOut.of hr.out rfl HD4.out ((HF1.out.trans (Fr2.nx ((Nx.refl _).drewN _) HD1.out.sz)).trans HF4.out)
set_option maxRecDepth 100000 in
set_option maxHeartbeats 4000000 in
theorem w_step6 (d lo rb cb N : Nat) (D : DayP) (fr fc : ByteArray → Option (Option Nat)) (fm : ByteArray → Nat) (so : ByteArray) (no at_ i : Int) (ri ca nd : ByteArray) (up dn : Int) (fo : ByteArray) (nu : Int) (nb : Value) (w : World)
    (h : DayW w lo rb cb N D fr fc fm) (h1 : w.cell? ⟨d, 1, none⟩ = some (.map (some rb))) (h2 : w.cell? ⟨d, 2, none⟩ = some (.map (some cb))) (hd : d < lo) (hdc : d ≠ cb) (hdr : d ≠ rb) (hkr : domS ri) (hk : domS ca) (hN : N < 50000) :
    Calls Tryz.prog 90 #[.pointer (some ⟨d, 0, none⟩), .int .i64 i, .agg #[.string so, .int .i64 no, .int .i64 at_, .int .i64 6, .string ri, .string ca, .string nd, .int .i64 up, .int .i64 dn, .string fo, .int .i64 nu], nb] w (RideOut lo rb cb N (stepP D ⟨so, no, at_, 6, ri, ca, nd, up, dn, fo, nu⟩) w) := by
  have hsz := h.sz
  have hcl := h.clo
  have hrl := h.rlo
  obtain ⟨bx, hbx⟩ : ∃ bx, bx = w.heap.size := ⟨_, rfl⟩
  obtain ⟨w1, hw1⟩ : ∃ w1, w1 = w.alloc (.cells #[.string so, .int .i64 no, .int .i64 at_, .int .i64 6, .string ri, .string ca, .string nd, .int .i64 up, .int .i64 dn, .string fo, .int .i64 nu] 31 (0, 0)) := ⟨_, rfl⟩
  have hn1 : Nx w w1 := hw1 ▸ (Nx.refl w).alloc _
  have hD1 := h.nx hn1
  have hb1 : w1.heap[bx]? = some (.cells #[.string so, .int .i64 no, .int .i64 at_, .int .i64 6, .string ri, .string ca, .string nd, .int .i64 up, .int .i64 dn, .string fo, .int .i64 nu] 31 (0, 0)) := by rw [hw1, hbx]; exact heap_alloc_new w _
  have a0 : w1.cell? ⟨bx, 0, none⟩ = some (.string so) := cell_of_row w1 _ 0 _ _ _ hb1
  have a1 : w1.cell? ⟨bx, 1, none⟩ = some (.int .i64 no) := cell_of_row w1 _ 1 _ _ _ hb1
  have a2 : w1.cell? ⟨bx, 2, none⟩ = some (.int .i64 at_) := cell_of_row w1 _ 2 _ _ _ hb1
  have a3 : w1.cell? ⟨bx, 3, none⟩ = some (.int .i64 6) := cell_of_row w1 _ 3 _ _ _ hb1
  have a4 : w1.cell? ⟨bx, 4, none⟩ = some (.string ri) := cell_of_row w1 _ 4 _ _ _ hb1
  have a5 : w1.cell? ⟨bx, 5, none⟩ = some (.string ca) := cell_of_row w1 _ 5 _ _ _ hb1
  have a6 : w1.cell? ⟨bx, 6, none⟩ = some (.string nd) := cell_of_row w1 _ 6 _ _ _ hb1
  have a7 : w1.cell? ⟨bx, 7, none⟩ = some (.int .i64 up) := cell_of_row w1 _ 7 _ _ _ hb1
  have a8 : w1.cell? ⟨bx, 8, none⟩ = some (.int .i64 dn) := cell_of_row w1 _ 8 _ _ _ hb1
  have a9 : w1.cell? ⟨bx, 9, none⟩ = some (.string fo) := cell_of_row w1 _ 9 _ _ _ hb1
  have a10 : w1.cell? ⟨bx, 10, none⟩ = some (.int .i64 nu) := cell_of_row w1 _ 10 _ _ _ hb1
  have hd1 : w1.cell? ⟨d, 1, none⟩ = some (.map (some rb)) := nx_cell hn1 (by omega) h1
  have hd2 : w1.cell? ⟨d, 2, none⟩ = some (.map (some cb)) := nx_cell hn1 (by omega) h2
  have HF1 := hide (Fr2.nx (rb := rb) (cb := cb) hn1 hsz)
  have hl := fun n => look_ride (hD1.rides.map.nx ((Nx.refl w1).drewN n)) hkr
  cases hs : D.rides ri with
  | none =>
    rw [hD1.rides.non ri hs] at hl
    simp only [Option.getD_none, ptrV] at hl
    have hr := hide (show stepP D ⟨so, no, at_, 6, ri, ca, nd, up, dn, fo, nu⟩ = (D, 8) by simp [stepP, hs])
    have HD1 := hide hD1
    clear h hD1 hb1 h1 h2 hs
    go_enter Tryz.func90, Tryz.ntmps90
    go_upto_region 1 with fail
    rw [← hw1, ← hbx]
    clear hw1 hbx
    go_upto_region 23 with fail
    go_quiet (fail)
    go_wp2_with fail
    go_ret2
    exact RideOut.of hr.out rfl ⟨fr, fc, fm, (HD1.out.nx ((Nx.refl _).drewN _)).mono (by omega)⟩ (HF1.out.trans (Fr2.nx ((Nx.refl _).drewN _) HD1.out.sz))
  | some s =>
    obtain ⟨p, hp, hlp, hpo⟩ := hD1.rides.at_ ri s hs
    rw [hp] at hl
    simp only [Option.getD_some, ptrV] at hl
    have hr := hide (show stepP D ⟨so, no, at_, 6, ri, ca, nd, up, dn, fo, nu⟩ = rideP D s ⟨so, no, at_, 6, ri, ca, nd, up, dn, fo, nu⟩ by simp [stepP, hs])
    have HRI := hide (fun n => w_ride6 d lo rb cb N p D fr fc fm so no at_ ri ca nd up dn fo nu s (w1.drewN n) (hD1.nx ((Nx.refl _).drewN n)) (nx_cell ((Nx.refl _).drewN n) (by have := hD1.sz; omega) hd2) hd hdc hdr hs hp hkr hk (by omega))
    have HD1 := hide hD1
    clear h hD1 hb1 h1 h2 hs hpo hp
    go_enter Tryz.func90, Tryz.ntmps90
    go_upto_region 1 with fail
    rw [← hw1, ← hbx]
    clear hw1 hbx
    go_upto_region 23 with fail
    go_quiet (fail)
    go_wp2_with (go_at_call 131; refine (HRI.out _).mono ?_; rintro e w3 ⟨A, n, c, rfl, hD4, hF4⟩; (have HD4 := hide hD4); (have HF4 := hide hF4); clear hD4 hF4)
    go_ret2
    exact RideOut.of hr.out rfl HD4.out ((HF1.out.trans (Fr2.nx ((Nx.refl _).drewN _) HD1.out.sz)).trans HF4.out)
end Go.Proofs.YtfkmbeppckelfaaGreatDoor
