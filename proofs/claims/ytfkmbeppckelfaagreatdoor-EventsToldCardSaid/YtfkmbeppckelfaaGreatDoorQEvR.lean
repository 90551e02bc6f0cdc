/- An event of a ride followed. -/
import Derived.Test.YtfkmbeppckelfaaGreatDoorQG2
namespace Go.Proofs.YtfkmbeppckelfaaGreatDoor
open Go.RowKit Go.Maps

/-- What a step answers, and the day behind it. -/
def RideOut (lo rb cb N : Nat) (r : DayP × Int) (w : World) (e : Ending) (w' : World) : Prop :=
  ∃ (A : Option Addr) (n c : Nat), e = .returned (.tuple #[.slice A n c, .int .i64 r.2]) ∧ (∃ fr' fc' fm', DayW w' lo rb cb (N + 3) r.1 fr' fc' fm') ∧ Fr2 lo rb cb w w'
theorem RideOut.of {lo rb cb N : Nat} {r r' : DayP × Int} {w w' : World} {e : Ending} {A : Option Addr} {n c : Nat} (hr : r = r') (he : e = .returned (.tuple #[.slice A n c, .int .i64 r'.2])) (hD : ∃ fr' fc' fm', DayW w' lo rb cb (N + 3) r'.1 fr' fc' fm') (hF : Fr2 lo rb cb w w') : RideOut lo rb cb N r w e w' := by
  subst hr; exact ⟨A, n, c, he, hD, hF⟩
theorem w_carIs (d cb n p : Nat) (fc : ByteArray → Option (Option Nat)) (key : ByteArray) (w : World) (h : MpSP w cb n fc) (hp : fc key = some (some p)) (h2 : w.cell? ⟨d, 2, none⟩ = some (.map (some cb))) (hk : domS key) :
    Calls Tryz.prog 182 #[.pointer (some ⟨d, 0, none⟩), .string key] w fun e w' => e = .returned (.pointer (some ⟨p, 0, none⟩)) ∧ w' = w := by
  have hl := look_car h hk
  rw [hp] at hl
  simp only [Option.getD_some, ptrV] at hl
  have H := hide h
  clear h hp
  go_enter Tryz.func182, Tryz.ntmps182
  go_wp2_with fail
  go_ret
  exact ⟨rfl, rfl⟩
theorem setR_at (D : DayP) (k : ByteArray) (s : St) : (setR D k s).rides k = some s := updF_same _ _ _
theorem cell_same {w w' : World} {i o : Nat} (h : w'.heap[i]? = w.heap[i]?) : w'.cell? ⟨i, o, none⟩ = w.cell? ⟨i, o, none⟩ := by
  unfold World.cell?
  simp only [h]
/-- What a step of a ride holds: the day, the event's box, the ride's block. -/
structure RideF (w W : World) (lo rb cb N d p bx : Nat) (D : DayP) (fr fc : ByteArray → Option (Option Nat)) (fm : ByteArray → Nat) (x : Ev) (s : St) : Prop where
  day : DayW W lo rb cb N D fr fc fm
  box : W.heap[bx]? = some (.cells (evA x) 31 (0, 0))
  st : W.heap[p]? = some (staO s)
  d2 : W.cell? ⟨d, 2, none⟩ = some (.map (some cb))
  fr2 : Fr2 lo rb cb w W
section
variable {w W W' : World} {lo rb cb N d p bx : Nat} {D : DayP} {fr fc : ByteArray → Option (Option Nat)} {fm : ByteArray → Nat} {x : Ev} {s : St}
theorem RideF.nx (h : RideF w W lo rb cb N d p bx D fr fc fm x s) (hd : d < lo) (hn : Nx W W') : RideF w W' lo rb cb N d p bx D fr fc fm x s :=
  ⟨h.day.nx hn, (hn.block _ (Array.getElem?_eq_some_iff.1 h.box).1).trans h.box, (hn.block _ (Array.getElem?_eq_some_iff.1 h.st).1).trans h.st, nx_cell hn (Nat.lt_of_lt_of_le hd h.day.sz) h.d2, h.fr2.trans (Fr2.nx hn h.day.sz)⟩
theorem RideF.ne (h : RideF w W lo rb cb N d p bx D fr fc fm x s) : bx ≠ p := by
  intro e; subst e
  have h1 := h.box
  rw [h.st] at h1; injection h1 with h1; unfold staO at h1; injection h1 with _ h1 _; revert h1; decide
theorem RideF.put (h : RideF w W lo rb cb N d p bx D fr fc fm x s) {k : ByteArray} {s0 s' : St} (hd : d < lo) (hlp : lo ≤ p) (hs : D.rides k = some s0) (hp : fr k = some (some p)) (hg : Gr p W W') (hw : W'.heap[p]? = some (staO s')) : RideF w W' lo rb cb N d p bx (setR D k s') fr fc fm x s' :=
  ⟨h.day.stPut hs hp hg hw, gr_at hg h.box h.ne, hw, World.grownBy.cell hg h.d2 (by simp; omega), h.fr2.trans (Fr2.grSta hg hlp h.day.sz h.st)⟩
theorem RideF.start (hD : DayW w lo rb cb N D fr fc fm) {k : ByteArray} (hd : d < lo) (h2 : w.cell? ⟨d, 2, none⟩ = some (.map (some cb))) (hs : D.rides k = some s) (hp : fr k = some (some p)) (o : Obj) :
    RideF w ((w.alloc (.cells (evA x) 31 (0, 0))).alloc o) lo rb cb N d p w.heap.size D fr fc fm x s := by
  have hn : Nx w ((w.alloc (.cells (evA x) 31 (0, 0))).alloc o) := ((Nx.refl w).alloc _).alloc _
  obtain ⟨p', a, _, hpo⟩ := (hD.nx hn).rides.at_ k s hs
  rw [hp] at a; injection a with a; injection a with a; subst a
  exact ⟨hD.nx hn, (((Nx.refl _).alloc _).block _ (by simp)).trans (heap_alloc_new w _), hpo, nx_cell hn (Nat.lt_of_lt_of_le hd hD.sz) h2, Fr2.nx hn hD.sz⟩
theorem RideF.evs (h : RideF w W lo rb cb N d p bx D fr fc fm x s) : W.cell? ⟨bx, 2, none⟩ = some (.int .i64 x.at_) ∧ W.cell? ⟨bx, 3, none⟩ = some (.int .i64 x.kind) ∧ W.cell? ⟨bx, 4, none⟩ = some (.string x.ride) ∧ W.cell? ⟨bx, 5, none⟩ = some (.string x.car) :=
  ⟨cell_of_row W _ 2 _ _ _ h.box, cell_of_row W _ 3 _ _ _ h.box, cell_of_row W _ 4 _ _ _ h.box, cell_of_row W _ 5 _ _ _ h.box⟩
theorem RideF.all (h : RideF w W lo rb cb N d p bx D fr fc fm x s) : W.cell? ⟨bx, 0, none⟩ = some (.string x.source) ∧ W.cell? ⟨bx, 1, none⟩ = some (.int .i64 x.no) ∧ W.cell? ⟨bx, 6, none⟩ = some (.string x.node) ∧ W.cell? ⟨bx, 7, none⟩ = some (.int .i64 x.up) ∧ W.cell? ⟨bx, 8, none⟩ = some (.int .i64 x.down) ∧ W.cell? ⟨bx, 9, none⟩ = some (.string x.from_) ∧ W.cell? ⟨bx, 10, none⟩ = some (.int .i64 x.number) :=
  ⟨cell_of_row W _ 0 _ _ _ h.box, cell_of_row W _ 1 _ _ _ h.box, cell_of_row W _ 6 _ _ _ h.box, cell_of_row W _ 7 _ _ _ h.box, cell_of_row W _ 8 _ _ _ h.box, cell_of_row W _ 9 _ _ _ h.box, cell_of_row W _ 10 _ _ _ h.box⟩
theorem RideF.was (h : RideF w W lo rb cb N d p bx D fr fc fm x s) (hd : d < lo) (hdc : d ≠ cb) (hdr : d ≠ rb) {k : ByteArray} {N' : Nat} {D' : DayP} {fc' : ByteArray → Option (Option Nat)} {fm' : ByteArray → Nat} {s' : St} (hD : DayW W' lo rb cb N' D' fr fc' fm') (hF : Fr2 lo rb cb W W') (hs : D'.rides k = some s') (hp : fr k = some (some p)) :
    RideF w W' lo rb cb N' d p bx D' fr fc' fm' x s' := by
  obtain ⟨p', a, _, hpo⟩ := hD.rides.at_ k s' hs
  rw [hp] at a; injection a with a; injection a with a; subst a
  exact ⟨hD, hF.cells _ _ _ _ h.box (by decide) (by decide), hpo, (cell_same (hF.block d hd hdr hdc)).trans h.d2, h.fr2.trans hF⟩
theorem RideF.frz (h : RideF w W lo rb cb N d p bx D fr fc fm x s) : W.frozen? ⟨p, 1, none⟩ = false ∧ W.frozen? ⟨p, 2, none⟩ = false ∧ W.frozen? ⟨p, 5, none⟩ = false ∧ W.frozen? ⟨p, 6, none⟩ = false := by
  simp [World.frozen?, h.st, staO]
end
set_option maxRecDepth 100000 in
set_option maxHeartbeats 4000000 in
theorem w_ride2 (d lo rb cb N p : Nat) (D : DayP) (fr fc : ByteArray → Option (Option Nat)) (fm : ByteArray → Nat) (so : ByteArray) (no at_ : Int) (ri ca nd : ByteArray) (up dn : Int) (fo : ByteArray) (nu : Int) (s : St) (w : World)
    (h : DayW w lo rb cb N D fr fc fm) (h2 : w.cell? ⟨d, 2, none⟩ = some (.map (some cb))) (hd : d < lo) (hdc : d ≠ cb) (_ : d ≠ rb) (hs : D.rides ri = some s) (hp : fr ri = some (some p)) (hkr : domS ri) (hk : domS ca) (hN : N < 90000) :
    Calls Tryz.prog 131 #[.pointer (some ⟨d, 0, none⟩), .pointer (some ⟨p, 0, none⟩), .agg #[.string so, .int .i64 no, .int .i64 at_, .int .i64 2, .string ri, .string ca, .string nd, .int .i64 up, .int .i64 dn, .string fo, .int .i64 nu]] w (RideOut lo rb cb N (rideP D s ⟨so, no, at_, 2, ri, ca, nd, up, dn, fo, nu⟩) w) := by
  obtain ⟨p', a, hlp, hpo⟩ := h.rides.at_ ri s hs
  rw [hp] at a; injection a with a; injection a with a; subst a
  have hsz := h.sz
  have hcl := h.clo
  have hrl := h.rlo
  obtain ⟨rid, car, how, sup, sdn, son, soff⟩ := s
  have H2 := hide (RideF.start (x := ⟨so, no, at_, 2, ri, ca, nd, up, dn, fo, nu⟩) h hd h2 hs hp (.cells #[.string ri] 9 (0, 0)))
  obtain ⟨bx, hbx⟩ : ∃ bx, bx = w.heap.size := ⟨_, rfl⟩
  obtain ⟨w2, hw2⟩ : ∃ w2, w2 = ((w.alloc (.cells (evA ⟨so, no, at_, 2, ri, ca, nd, up, dn, fo, nu⟩) 31 (0, 0))).alloc (.cells #[.string ri] 9 (0, 0))) := ⟨_, rfl⟩
  rw [← hw2, ← hbx] at H2
  unfold evA at hw2
  simp only at hw2
  have HBR := hide (w_broken d lo rb cb N D fr fc fm ca w2 H2.out.day H2.out.d2 hk)
  obtain ⟨a2, a3, a4, a5⟩ := H2.out.evs
  have d2 := H2.out.d2
  have b1 := (sta_cells H2.out.st).2.1
  have b2 := (sta_cells H2.out.st).2.2.1
  have b5 := (sta_cells H2.out.st).2.2.2.2.2.1
  have b6 := (sta_cells H2.out.st).2.2.2.2.2.2
  have ne := H2.out.ne
  obtain ⟨e1, e2, e5, e6⟩ := H2.out.frz
  simp only at a2 a3 a4 a5 b1 b2 b5 b6
  have HS := hide hs
  have HP := hide hp
  have HKR := hide hkr
  have HBN := hide hbx
  clear h hpo hs hp h2 hkr
  go_enter Tryz.func131, Tryz.ntmps131
  go_upto_region 2 with fail
  rw [← hw2, ← hbx]
  clear hw2 hbx
  have hq : (how = 1 ∨ how = 2) ∨ ((how == 1) = false ∧ (how == 2) = false) := by simp; omega
  rcases hq with hq | ⟨hq1, hq2⟩
  · have hbb : brokenP D ca = true ∨ brokenP D ca = false := by cases brokenP D ca <;> simp
    rcases hbb with hbb | hbb
    · rw [hbb] at HBR
      have hr := hide (show rideP D ⟨rid, car, how, sup, sdn, son, soff⟩ ⟨so, no, at_, 2, ri, ca, nd, up, dn, fo, nu⟩ = (D, 16) by simp [rideP, hbb, hq])
      clear hbb
      rcases hq with rfl | rfl
      all_goals
        go_wp2_with (go_at_call 128; refine HBR.out.mono ?_; rintro e w3 ⟨rfl, rfl⟩)
        go_ret2
        exact RideOut.of hr.out rfl ⟨fr, fc, fm, H2.out.day.mono (by omega)⟩ H2.out.fr2
    · rw [hbb] at HBR
      have hr := hide (show rideP D ⟨rid, car, how, sup, sdn, son, soff⟩ ⟨so, no, at_, 2, ri, ca, nd, up, dn, fo, nu⟩ = (setC (setR D ri ⟨rid, ca, 2, sup, sdn, son, soff⟩) ca (carP D ca), 0) by simp [rideP, hbb, hq])
      clear hbb
      have te : (car.toList == ca.toList) = true ∨ (car.toList == ca.toList) = false := by rw [eqS_iff]; by_cases h : car = ca <;> simp [h]
      rcases te with te | te <;> rcases hq with rfl | rfl
      all_goals
        go_upto_region 9 with (go_at_call 128; refine HBR.out.mono ?_; rintro e w3 ⟨rfl, rfl⟩)
        go_quiet (fail)
        obtain ⟨w3, hw3⟩ : ∃ w3, w3 = w2.drewN nq := ⟨_, rfl⟩
        have H3 := hide (H2.out.nx hd (hw3 ▸ (Nx.refl w2).drewN _))
        rw [← hw3]
        clear hw3
        obtain ⟨ca2, ca3, ca4, ca5⟩ := H3.out.evs
        have cd2 := H3.out.d2
        have cb1 := (sta_cells H3.out.st).2.1
        have cb2 := (sta_cells H3.out.st).2.2.1
        have cb5 := (sta_cells H3.out.st).2.2.2.2.2.1
        have cb6 := (sta_cells H3.out.st).2.2.2.2.2.2
        have cne := H3.out.ne
        obtain ⟨ce1, ce2, ce5, ce6⟩ := H3.out.frz
        simp only at ca2 ca3 ca4 ca5 cb1 cb2 cb5 cb6
        clear a2 a3 a4 a5 d2 b1 b2 b5 b6 ne e1 e2 e5 e6
        obtain ⟨w5, hw5⟩ : ∃ w5, w5 = ((w3.setCell ⟨p, 2, none⟩ (.int .i64 2)).setCell ⟨p, 1, none⟩ (.string ca)).drew := ⟨_, rfl⟩
        have H5 := hide (H3.out.put (s' := ⟨rid, ca, 2, sup, sdn, son, soff⟩) hd hlp HS.out HP.out (hw5 ▸ (((Gr.refl p _).setS (.inl rfl) _).setS (.inl rfl) _).drew) (by rw [hw5]; exact heap_set (heap_set H3.out.st)))
        have HCA := hide (w_car d lo rb cb N _ fr fc fm ca w5 H5.out.day H5.out.d2 hd hdc hk (by omega))
        obtain ⟨es, cl, hcm⟩ := mg_obj H5.out.day.cars.map
        have HCM := hide hcm
        clear hcm
        have HW5 := hide hw5
        clear hw5
        go_wp2_with fail
        go_region
        all_goals (go_wp2_with fail)
        all_goals rw [← HW5.out]
        all_goals refine HCA.out.mono ?_
        all_goals rintro e w6 ⟨p6, fc6, fm6, rfl, hD6, _, _, hF6⟩
        all_goals (have HD6 := hide hD6)
        all_goals clear hD6
        all_goals (go_wp2_with fail)
        all_goals go_ret2
        all_goals exact RideOut.of hr.out rfl ⟨fr, fc6, fm6, HD6.out.mono (by omega)⟩ (H5.out.fr2.trans (Fr2.grMap hF6 (.inr (.inl rfl)) H5.out.day.sz HCM.out))
  · have hq1' : ¬ how = 1 := by simpa using hq1
    have hq2' : ¬ how = 2 := by simpa using hq2
    have hr := hide (show rideP D ⟨rid, car, how, sup, sdn, son, soff⟩ ⟨so, no, at_, 2, ri, ca, nd, up, dn, fo, nu⟩ = (D, 11) by simp [rideP, hq1', hq2'])
    clear hq1' hq2'
    go_wp2_with fail
    go_ret2
    exact RideOut.of hr.out rfl ⟨fr, fc, fm, H2.out.day.mono (by omega)⟩ H2.out.fr2
set_option maxRecDepth 100000 in
set_option maxHeartbeats 4000000 in
theorem w_ride3 (d lo rb cb N p : Nat) (D : DayP) (fr fc : ByteArray → Option (Option Nat)) (fm : ByteArray → Nat) (so : ByteArray) (no at_ : Int) (ri ca nd : ByteArray) (up dn : Int) (fo : ByteArray) (nu : Int) (s : St) (w : World)
    (h : DayW w lo rb cb N D fr fc fm) (h2 : w.cell? ⟨d, 2, none⟩ = some (.map (some cb))) (hd : d < lo) (hdc : d ≠ cb) (hdr : d ≠ rb) (hs : D.rides ri = some s) (hp : fr ri = some (some p)) (hkr : domS ri) (hk : domS ca) (hN : N < 90000) :
    Calls Tryz.prog 131 #[.pointer (some ⟨d, 0, none⟩), .pointer (some ⟨p, 0, none⟩), .agg #[.string so, .int .i64 no, .int .i64 at_, .int .i64 3, .string ri, .string ca, .string nd, .int .i64 up, .int .i64 dn, .string fo, .int .i64 nu]] w (RideOut lo rb cb N (rideP D s ⟨so, no, at_, 3, ri, ca, nd, up, dn, fo, nu⟩) w) := by
  obtain ⟨p', a, hlp, hpo⟩ := h.rides.at_ ri s hs
  rw [hp] at a; injection a with a; injection a with a; subst a
  have hsz := h.sz
  have hcl := h.clo
  have hrl := h.rlo
  obtain ⟨rid, car, how, sup, sdn, son, soff⟩ := s
  have H2 := hide (RideF.start (x := ⟨so, no, at_, 3, ri, ca, nd, up, dn, fo, nu⟩) h hd h2 hs hp (.cells #[.string ri] 9 (0, 0)))
  obtain ⟨bx, hbx⟩ : ∃ bx, bx = w.heap.size := ⟨_, rfl⟩
  obtain ⟨w2, hw2⟩ : ∃ w2, w2 = ((w.alloc (.cells (evA ⟨so, no, at_, 3, ri, ca, nd, up, dn, fo, nu⟩) 31 (0, 0))).alloc (.cells #[.string ri] 9 (0, 0))) := ⟨_, rfl⟩
  rw [← hw2, ← hbx] at H2
  unfold evA at hw2
  simp only at hw2
  have HBR := hide (w_broken d lo rb cb N D fr fc fm ca w2 H2.out.day H2.out.d2 hk)
  obtain ⟨a2, a3, a4, a5⟩ := H2.out.evs
  have d2 := H2.out.d2
  have b1 := (sta_cells H2.out.st).2.1
  have b2 := (sta_cells H2.out.st).2.2.1
  have b5 := (sta_cells H2.out.st).2.2.2.2.2.1
  have b6 := (sta_cells H2.out.st).2.2.2.2.2.2
  have ne := H2.out.ne
  obtain ⟨e1, e2, e5, e6⟩ := H2.out.frz
  simp only at a2 a3 a4 a5 b1 b2 b5 b6
  have HS := hide hs
  have HP := hide hp
  have HKR := hide hkr
  have HBN := hide hbx
  clear h hpo hs hp h2 hkr
  go_enter Tryz.func131, Tryz.ntmps131
  go_upto_region 2 with fail
  rw [← hw2, ← hbx]
  clear hw2 hbx
  have hq : how = 2 ∨ ((how == 2) = false ∧ (how != 2) = true) := by simp; omega
  rcases hq with rfl | ⟨hq1, hq2⟩
  · have te : car = ca ∨ car ≠ ca := Decidable.em _
    rcases te with te | te
    · have hbb : brokenP D ca = true ∨ brokenP D ca = false := by cases brokenP D ca <;> simp
      rcases hbb with hbb | hbb
      · have HBB := hide hbb
        have hr := hide (show rideP D ⟨rid, car, 2, sup, sdn, son, soff⟩ ⟨so, no, at_, 3, ri, ca, nd, up, dn, fo, nu⟩ = (D, 16) by simp [rideP, hbb, te])
        have te : (car.toList == ca.toList) = true := by rw [eqS_iff]; exact decide_eq_true te
        clear hbb
        go_upto_region 16 with fail
        go_quiet (fail)
        obtain ⟨w3, hw3⟩ : ∃ w3, w3 = w2.drewN nq := ⟨_, rfl⟩
        have H3 := hide (H2.out.nx hd (hw3 ▸ (Nx.refl w2).drewN _))
        rw [← hw3]
        clear hw3
        obtain ⟨ca2, ca3, ca4, ca5⟩ := H3.out.evs
        have cd2 := H3.out.d2
        have cb1 := (sta_cells H3.out.st).2.1
        have cb2 := (sta_cells H3.out.st).2.2.1
        have cb5 := (sta_cells H3.out.st).2.2.2.2.2.1
        have cb6 := (sta_cells H3.out.st).2.2.2.2.2.2
        have cne := H3.out.ne
        obtain ⟨ce1, ce2, ce5, ce6⟩ := H3.out.frz
        simp only at ca2 ca3 ca4 ca5 cb1 cb2 cb5 cb6
        clear a2 a3 a4 a5 d2 b1 b2 b5 b6 ne e1 e2 e5 e6
        have HBR3 := hide (w_broken d lo rb cb N D fr fc fm ca w3 H3.out.day H3.out.d2 hk)
        rw [HBB.out] at HBR3
        go_wp2_with (go_at_call 128; refine HBR3.out.mono ?_; rintro e w4 ⟨rfl, rfl⟩)
        all_goals go_ret2
        all_goals exact RideOut.of hr.out rfl ⟨fr, fc, fm, H3.out.day.mono (by omega)⟩ H3.out.fr2
      · have HBB := hide hbb
        have hr := hide (show rideP D ⟨rid, car, 2, sup, sdn, son, soff⟩ ⟨so, no, at_, 3, ri, ca, nd, up, dn, fo, nu⟩ = (setC (setR D ri ⟨rid, car, 3, sup, sdn, at_, soff⟩) ca { carP D ca with node := nd, at_ := at_, on := updF (carP D ca).on ri true }, 0) by simp [rideP, hbb, te])
        have te : (car.toList == ca.toList) = true := by rw [eqS_iff]; exact decide_eq_true te
        clear hbb
        go_upto_region 16 with fail
        go_quiet (fail)
        obtain ⟨w3, hw3⟩ : ∃ w3, w3 = w2.drewN nq := ⟨_, rfl⟩
        have H3 := hide (H2.out.nx hd (hw3 ▸ (Nx.refl w2).drewN _))
        rw [← hw3]
        clear hw3
        obtain ⟨ca2, ca3, ca4, ca5⟩ := H3.out.evs
        have cd2 := H3.out.d2
        have cb1 := (sta_cells H3.out.st).2.1
        have cb2 := (sta_cells H3.out.st).2.2.1
        have cb5 := (sta_cells H3.out.st).2.2.2.2.2.1
        have cb6 := (sta_cells H3.out.st).2.2.2.2.2.2
        have cne := H3.out.ne
        obtain ⟨ce1, ce2, ce5, ce6⟩ := H3.out.frz
        simp only at ca2 ca3 ca4 ca5 cb1 cb2 cb5 cb6
        clear a2 a3 a4 a5 d2 b1 b2 b5 b6 ne e1 e2 e5 e6
        have HBR3 := hide (w_broken d lo rb cb N D fr fc fm ca w3 H3.out.day H3.out.d2 hk)
        rw [HBB.out] at HBR3
        obtain ⟨w5, hw5⟩ : ∃ w5, w5 = ((w3.setCell ⟨p, 2, none⟩ (.int .i64 3)).setCell ⟨p, 5, none⟩ (.int .i64 at_)).drew := ⟨_, rfl⟩
        have H5 := hide (H3.out.put (s' := ⟨rid, car, 3, sup, sdn, at_, soff⟩) hd hlp HS.out HP.out (hw5 ▸ (((Gr.refl p _).setS (.inl rfl) _).setS (.inl rfl) _).drew) (by rw [hw5]; exact heap_set (heap_set H3.out.st)))
        have HWA := hide (w_was d lo rb cb N _ fr fc fm ⟨so, no, at_, 3, ri, ca, nd, up, dn, fo, nu⟩ w5 H5.out.day H5.out.d2 hd hdc hk (by omega))
        unfold evA at HWA
        simp only at HWA
        have HW5 := hide hw5
        clear hw5
        go_upto_region 20 with (go_at_call 128; refine HBR3.out.mono ?_; rintro e w4 ⟨rfl, rfl⟩)
        go_region
        rw [← HW5.out]
        obtain ⟨z0, z1, z6, z7, z8, z9, z10⟩ := H5.out.all
        obtain ⟨ga2, ga3, ga4, ga5⟩ := H5.out.evs
        have gd2 := H5.out.d2
        have gb1 := (sta_cells H5.out.st).2.1
        have gb2 := (sta_cells H5.out.st).2.2.1
        have gb5 := (sta_cells H5.out.st).2.2.2.2.2.1
        have gb6 := (sta_cells H5.out.st).2.2.2.2.2.2
        have gne := H5.out.ne
        obtain ⟨ge1, ge2, ge5, ge6⟩ := H5.out.frz
        simp only at ga2 ga3 ga4 ga5 gb1 gb2 gb5 gb6
        simp only at z0 z1 z6 z7 z8 z9 z10
        clear ca2 ca3 ca4 ca5 cd2 cb1 cb2 cb5 cb6 cne ce1 ce2 ce5 ce6
        go_wp2_with fail
        refine HWA.out.mono ?_
        rintro e w6 ⟨rfl, ⟨fc6, fm6, hD6⟩, hF6⟩
        have H6 := hide (H5.out.was (k := ri) hd hdc hdr hD6 hF6 (setR_at _ _ _) HP.out)
        obtain ⟨ka2, ka3, ka4, ka5⟩ := H6.out.evs
        have kd2 := H6.out.d2
        have kb1 := (sta_cells H6.out.st).2.1
        have kb2 := (sta_cells H6.out.st).2.2.1
        have kb5 := (sta_cells H6.out.st).2.2.2.2.2.1
        have kb6 := (sta_cells H6.out.st).2.2.2.2.2.2
        have kne := H6.out.ne
        obtain ⟨ke1, ke2, ke5, ke6⟩ := H6.out.frz
        simp only at ka2 ka3 ka4 ka5 kb1 kb2 kb5 kb6
        clear hD6 hF6 z0 z1 z6 z7 z8 z9 z10 ga2 ga3 ga4 ga5 gd2 gb1 gb2 gb5 gb6 gne ge1 ge2 ge5 ge6
        obtain ⟨p6, hp6, hlp6, hpo6, hlm6, hmb6⟩ := H6.out.day.cars.at_ ca _ (setC_at _ _ _)
        have HCI := hide (w_carIs d cb _ p6 fc6 ca w6.drew (H6.out.day.cars.map.nx (Nx.refl _).drew) hp6 (by rw [World.cell?_drew]; exact H6.out.d2) hk)
        have kc3 := (crw_cells hpo6).2.2.2
        have HMB := hide (hmb6.nx (Nx.refl _).drew)
        have HP6 := hide hpo6
        have HH6 := hide hp6
        have hkl := keyS_mk (P := Tryz.prog) Tryz.underlying9 HKR.out
        clear hmb6 hpo6 hp6
        go_upto_region 22 with fail
        refine wp_region_still_tail 9 (by kernel_rfl) (by kernel_rfl) ?_
        simp only [List.take_succ_cons, List.take_zero, List.drop_succ_cons, List.drop_zero]
        still_step
        still_step
        still_step
        still_call HCI.out
        repeat still_step
        try refine wpStill_nil ?_
        change wpList _ _ _ _ _ w6.drew
        go_wp2_with (at_mapUpdate; refine wpMgPut _ rfl _ _ _ _ rfl boolE law_strE strV_inj Tryz.underlying97 (fm6 ca) (N + 1) _ rfl HMB.out (by unfold maxLen; omega) ri rfl HKR.out _ hkl true rfl trivial ?_; intro w7 hM7 hg7)
        all_goals go_ret2
        have hnd : Nx w6 w6.drew := (Nx.refl _).drew
        have HD7 := (H6.out.day.nx hnd).crOn (setC_at _ _ _) hg7 hM7
        unfold wasP at HD7
        rw [setC_setC] at HD7
        exact RideOut.of hr.out rfl ⟨fr, fc6, fm6, HD7.mono (by omega)⟩ ((H6.out.fr2.trans (Fr2.nx hnd H6.out.day.sz)).trans (Fr2.grMap hg7 (.inr (.inr hlm6)) H6.out.day.sz (mg_obj HMB.out).choose_spec.choose_spec))
    · have hte := hide te
      have hr := hide (show rideP D ⟨rid, car, 2, sup, sdn, son, soff⟩ ⟨so, no, at_, 3, ri, ca, nd, up, dn, fo, nu⟩ = (D, 13) by simp [rideP, te])
      have te : (car.toList == ca.toList) = false := by rw [eqS_iff]; exact decide_eq_false te
      go_upto_region 16 with fail
      go_quiet (fail)
      obtain ⟨w3, hw3⟩ : ∃ w3, w3 = w2.drewN nq := ⟨_, rfl⟩
      have H3 := hide (H2.out.nx hd (hw3 ▸ (Nx.refl w2).drewN _))
      rw [← hw3]
      clear hw3
      obtain ⟨ca2, ca3, ca4, ca5⟩ := H3.out.evs
      have cd2 := H3.out.d2
      have cb1 := (sta_cells H3.out.st).2.1
      have cb2 := (sta_cells H3.out.st).2.2.1
      have cb5 := (sta_cells H3.out.st).2.2.2.2.2.1
      have cb6 := (sta_cells H3.out.st).2.2.2.2.2.2
      have cne := H3.out.ne
      obtain ⟨ce1, ce2, ce5, ce6⟩ := H3.out.frz
      simp only at ca2 ca3 ca4 ca5 cb1 cb2 cb5 cb6
      clear a2 a3 a4 a5 d2 b1 b2 b5 b6 ne e1 e2 e5 e6
      go_wp2_with fail
      all_goals go_ret2
      all_goals exact RideOut.of hr.out rfl ⟨fr, fc, fm, H3.out.day.mono (by omega)⟩ H3.out.fr2
  · have hq1' : ¬ how = 2 := by simpa using hq1
    have hr := hide (show rideP D ⟨rid, car, how, sup, sdn, son, soff⟩ ⟨so, no, at_, 3, ri, ca, nd, up, dn, fo, nu⟩ = (D, 11) by simp [rideP, hq1'])
    clear hq1'
    go_wp2_with fail
    all_goals go_ret2
    all_goals exact RideOut.of hr.out rfl ⟨fr, fc, fm, H2.out.day.mono (by omega)⟩ H2.out.fr2
set_option maxRecDepth 100000 in
set_option maxHeartbeats 4000000 in
theorem w_ride4 (d lo rb cb N p : Nat) (D : DayP) (fr fc : ByteArray → Option (Option Nat)) (fm : ByteArray → Nat) (so : ByteArray) (no at_ : Int) (ri ca nd : ByteArray) (up dn : Int) (fo : ByteArray) (nu : Int) (s : St) (w : World)
    (h : DayW w lo rb cb N D fr fc fm) (h2 : w.cell? ⟨d, 2, none⟩ = some (.map (some cb))) (hd : d < lo) (hdc : d ≠ cb) (hdr : d ≠ rb) (hs : D.rides ri = some s) (hp : fr ri = some (some p)) (hkr : domS ri) (hk : domS ca) (hN : N < 90000) :
    Calls Tryz.prog 131 #[.pointer (some ⟨d, 0, none⟩), .pointer (some ⟨p, 0, none⟩), .agg #[.string so, .int .i64 no, .int .i64 at_, .int .i64 4, .string ri, .string ca, .string nd, .int .i64 up, .int .i64 dn, .string fo, .int .i64 nu]] w (RideOut lo rb cb N (rideP D s ⟨so, no, at_, 4, ri, ca, nd, up, dn, fo, nu⟩) w) := by
  obtain ⟨p', a, hlp, hpo⟩ := h.rides.at_ ri s hs
  rw [hp] at a; injection a with a; injection a with a; subst a
  have hsz := h.sz
  have hcl := h.clo
  have hrl := h.rlo
  obtain ⟨rid, car, how, sup, sdn, son, soff⟩ := s
  have H2 := hide (RideF.start (x := ⟨so, no, at_, 4, ri, ca, nd, up, dn, fo, nu⟩) h hd h2 hs hp (.cells #[.string ri] 9 (0, 0)))
  obtain ⟨bx, hbx⟩ : ∃ bx, bx = w.heap.size := ⟨_, rfl⟩
  obtain ⟨w2, hw2⟩ : ∃ w2, w2 = ((w.alloc (.cells (evA ⟨so, no, at_, 4, ri, ca, nd, up, dn, fo, nu⟩) 31 (0, 0))).alloc (.cells #[.string ri] 9 (0, 0))) := ⟨_, rfl⟩
  rw [← hw2, ← hbx] at H2
  unfold evA at hw2
  simp only at hw2
  have HBR := hide (w_broken d lo rb cb N D fr fc fm ca w2 H2.out.day H2.out.d2 hk)
  obtain ⟨a2, a3, a4, a5⟩ := H2.out.evs
  have d2 := H2.out.d2
  have b1 := (sta_cells H2.out.st).2.1
  have b2 := (sta_cells H2.out.st).2.2.1
  have b5 := (sta_cells H2.out.st).2.2.2.2.2.1
  have b6 := (sta_cells H2.out.st).2.2.2.2.2.2
  have ne := H2.out.ne
  obtain ⟨e1, e2, e5, e6⟩ := H2.out.frz
  simp only at a2 a3 a4 a5 b1 b2 b5 b6
  have HS := hide hs
  have HP := hide hp
  have HKR := hide hkr
  have HBN := hide hbx
  clear h hpo hs hp h2 hkr
  go_enter Tryz.func131, Tryz.ntmps131
  go_upto_region 2 with fail
  rw [← hw2, ← hbx]
  clear hw2 hbx
  have hq : how = 3 ∨ ((how == 3) = false ∧ (how != 3) = true) := by simp; omega
  rcases hq with rfl | ⟨hq1, hq2⟩
  · have te : car = ca ∨ car ≠ ca := Decidable.em _
    rcases te with te | te
    · have hte := hide te
      have hr := hide (show rideP D ⟨rid, car, 3, sup, sdn, son, soff⟩ ⟨so, no, at_, 4, ri, ca, nd, up, dn, fo, nu⟩ = (setC (setR D ri ⟨rid, car, 4, sup, sdn, son, at_⟩) ca { carP D ca with node := nd, at_ := at_, on := fun id => if id = ri then none else (carP D ca).on id }, 0) by simp [rideP, te])
      have te : (car.toList == ca.toList) = true := by rw [eqS_iff]; exact decide_eq_true te
      go_upto_region 26 with fail
      go_quiet (fail)
      obtain ⟨w3, hw3⟩ : ∃ w3, w3 = w2.drewN nq := ⟨_, rfl⟩
      have H3 := hide (H2.out.nx hd (hw3 ▸ (Nx.refl w2).drewN _))
      rw [← hw3]
      clear hw3
      obtain ⟨ca2, ca3, ca4, ca5⟩ := H3.out.evs
      have cd2 := H3.out.d2
      have cb1 := (sta_cells H3.out.st).2.1
      have cb2 := (sta_cells H3.out.st).2.2.1
      have cb5 := (sta_cells H3.out.st).2.2.2.2.2.1
      have cb6 := (sta_cells H3.out.st).2.2.2.2.2.2
      have cne := H3.out.ne
      obtain ⟨ce1, ce2, ce5, ce6⟩ := H3.out.frz
      simp only at ca2 ca3 ca4 ca5 cb1 cb2 cb5 cb6
      clear a2 a3 a4 a5 d2 b1 b2 b5 b6 ne e1 e2 e5 e6
      obtain ⟨w5, hw5⟩ : ∃ w5, w5 = ((w3.setCell ⟨p, 2, none⟩ (.int .i64 4)).setCell ⟨p, 6, none⟩ (.int .i64 at_)).drew := ⟨_, rfl⟩
      have H5 := hide (H3.out.put (s' := ⟨rid, car, 4, sup, sdn, son, at_⟩) hd hlp HS.out HP.out (hw5 ▸ (((Gr.refl p _).setS (.inl rfl) _).setS (.inl rfl) _).drew) (by rw [hw5]; exact heap_set (heap_set H3.out.st)))
      have HWA := hide (w_was d lo rb cb N _ fr fc fm ⟨so, no, at_, 4, ri, ca, nd, up, dn, fo, nu⟩ w5 H5.out.day H5.out.d2 hd hdc hk (by omega))
      unfold evA at HWA
      simp only at HWA
      have HW5 := hide hw5
      clear hw5
      go_upto_region 28 with fail
      go_region
      rw [← HW5.out]
      obtain ⟨z0, z1, z6, z7, z8, z9, z10⟩ := H5.out.all
      obtain ⟨ga2, ga3, ga4, ga5⟩ := H5.out.evs
      have gd2 := H5.out.d2
      have gb1 := (sta_cells H5.out.st).2.1
      have gb2 := (sta_cells H5.out.st).2.2.1
      have gb5 := (sta_cells H5.out.st).2.2.2.2.2.1
      have gb6 := (sta_cells H5.out.st).2.2.2.2.2.2
      have gne := H5.out.ne
      obtain ⟨ge1, ge2, ge5, ge6⟩ := H5.out.frz
      simp only at ga2 ga3 ga4 ga5 gb1 gb2 gb5 gb6
      simp only at z0 z1 z6 z7 z8 z9 z10
      clear ca2 ca3 ca4 ca5 cd2 cb1 cb2 cb5 cb6 cne ce1 ce2 ce5 ce6
      go_wp2_with fail
      refine HWA.out.mono ?_
      rintro e w6 ⟨rfl, ⟨fc6, fm6, hD6⟩, hF6⟩
      have H6 := hide (H5.out.was (k := ri) hd hdc hdr hD6 hF6 (setR_at _ _ _) HP.out)
      obtain ⟨ka2, ka3, ka4, ka5⟩ := H6.out.evs
      have kd2 := H6.out.d2
      have kb1 := (sta_cells H6.out.st).2.1
      have kb2 := (sta_cells H6.out.st).2.2.1
      have kb5 := (sta_cells H6.out.st).2.2.2.2.2.1
      have kb6 := (sta_cells H6.out.st).2.2.2.2.2.2
      have kne := H6.out.ne
      obtain ⟨ke1, ke2, ke5, ke6⟩ := H6.out.frz
      simp only at ka2 ka3 ka4 ka5 kb1 kb2 kb5 kb6
      clear hD6 hF6 z0 z1 z6 z7 z8 z9 z10 ga2 ga3 ga4 ga5 gd2 gb1 gb2 gb5 gb6 gne ge1 ge2 ge5 ge6
      obtain ⟨p6, hp6, hlp6, hpo6, hlm6, hmb6⟩ := H6.out.day.cars.at_ ca _ (setC_at _ _ _)
      have HCI := hide (w_carIs d cb _ p6 fc6 ca w6.drew (H6.out.day.cars.map.nx (Nx.refl _).drew) hp6 (by rw [World.cell?_drew]; exact H6.out.d2) hk)
      have kc3 := (crw_cells hpo6).2.2.2
      have HMB := hide (hmb6.nx (Nx.refl _).drew)
      have HP6 := hide hpo6
      have HH6 := hide hp6
      have hkl := keyS_mk (P := Tryz.prog) Tryz.underlying9 HKR.out
      clear hmb6 hpo6 hp6
      go_upto_region 30 with fail
      refine wp_region_still_tail 9 (by kernel_rfl) (by kernel_rfl) ?_
      simp only [List.take_succ_cons, List.take_zero, List.drop_succ_cons, List.drop_zero]
      still_step
      still_step
      still_step
      still_call HCI.out
      repeat still_step
      try refine wpStill_nil ?_
      change wpList _ _ _ _ _ w6.drew
      go_wp2_with (at_delete; refine wpMgDel _ rfl _ _ _ _ rfl law_strE strV_inj Tryz.underlying97 (fm6 ca) (N + 1) _ rfl HMB.out ri rfl _ hkl ?_; intro w7 hM7 hg7)
      all_goals go_ret2
      have hnd : Nx w6 w6.drew := (Nx.refl _).drew
      have HD7 := (H6.out.day.nx hnd).crOn (setC_at _ _ _) hg7 (hM7.mono (Nat.le_succ _))
      unfold wasP at HD7
      rw [setC_setC] at HD7
      exact RideOut.of hr.out rfl ⟨fr, fc6, fm6, HD7.mono (by omega)⟩ ((H6.out.fr2.trans (Fr2.nx hnd H6.out.day.sz)).trans (Fr2.grMap hg7 (.inr (.inr hlm6)) H6.out.day.sz (mg_obj HMB.out).choose_spec.choose_spec))
    · have hte := hide te
      have hr := hide (show rideP D ⟨rid, car, 3, sup, sdn, son, soff⟩ ⟨so, no, at_, 4, ri, ca, nd, up, dn, fo, nu⟩ = (D, 13) by simp [rideP, te])
      have te : (car.toList == ca.toList) = false := by rw [eqS_iff]; exact decide_eq_false te
      go_upto_region 26 with fail
      go_quiet (fail)
      obtain ⟨w3, hw3⟩ : ∃ w3, w3 = w2.drewN nq := ⟨_, rfl⟩
      have H3 := hide (H2.out.nx hd (hw3 ▸ (Nx.refl w2).drewN _))
      rw [← hw3]
      clear hw3
      obtain ⟨ca2, ca3, ca4, ca5⟩ := H3.out.evs
      have cd2 := H3.out.d2
      have cb1 := (sta_cells H3.out.st).2.1
      have cb2 := (sta_cells H3.out.st).2.2.1
      have cb5 := (sta_cells H3.out.st).2.2.2.2.2.1
      have cb6 := (sta_cells H3.out.st).2.2.2.2.2.2
      have cne := H3.out.ne
      obtain ⟨ce1, ce2, ce5, ce6⟩ := H3.out.frz
      simp only at ca2 ca3 ca4 ca5 cb1 cb2 cb5 cb6
      clear a2 a3 a4 a5 d2 b1 b2 b5 b6 ne e1 e2 e5 e6
      go_wp2_with fail
      all_goals go_ret2
      all_goals exact RideOut.of hr.out rfl ⟨fr, fc, fm, H3.out.day.mono (by omega)⟩ H3.out.fr2
  · have hq1' : ¬ how = 3 := by simpa using hq1
    have hr := hide (show rideP D ⟨rid, car, how, sup, sdn, son, soff⟩ ⟨so, no, at_, 4, ri, ca, nd, up, dn, fo, nu⟩ = (D, 11) by simp [rideP, hq1'])
    clear hq1'
    go_wp2_with fail
    all_goals go_ret2
    all_goals exact RideOut.of hr.out rfl ⟨fr, fc, fm, H2.out.day.mono (by omega)⟩ H2.out.fr2
set_option maxRecDepth 100000 in
set_option maxHeartbeats 4000000 in
theorem w_ride5 (d lo rb cb N p : Nat) (D : DayP) (fr fc : ByteArray → Option (Option Nat)) (fm : ByteArray → Nat) (so : ByteArray) (no at_ : Int) (ri ca nd : ByteArray) (up dn : Int) (fo : ByteArray) (nu : Int) (s : St) (w : World)
    (h : DayW w lo rb cb N D fr fc fm) (h2 : w.cell? ⟨d, 2, none⟩ = some (.map (some cb))) (hd : d < lo) (_ : d ≠ cb) (_ : d ≠ rb) (hs : D.rides ri = some s) (hp : fr ri = some (some p)) (hkr : domS ri) (hk : domS ca) (_ : N < 90000) :
    Calls Tryz.prog 131 #[.pointer (some ⟨d, 0, none⟩), .pointer (some ⟨p, 0, none⟩), .agg #[.string so, .int .i64 no, .int .i64 at_, .int .i64 5, .string ri, .string ca, .string nd, .int .i64 up, .int .i64 dn, .string fo, .int .i64 nu]] w (RideOut lo rb cb N (rideP D s ⟨so, no, at_, 5, ri, ca, nd, up, dn, fo, nu⟩) w) := by
  obtain ⟨p', a, hlp, hpo⟩ := h.rides.at_ ri s hs
  rw [hp] at a; injection a with a; injection a with a; subst a
  have hsz := h.sz
  have hcl := h.clo
  have hrl := h.rlo
  obtain ⟨rid, car, how, sup, sdn, son, soff⟩ := s
  have H2 := hide (RideF.start (x := ⟨so, no, at_, 5, ri, ca, nd, up, dn, fo, nu⟩) h hd h2 hs hp (.cells #[.string ri] 9 (0, 0)))
  obtain ⟨bx, hbx⟩ : ∃ bx, bx = w.heap.size := ⟨_, rfl⟩
  obtain ⟨w2, hw2⟩ : ∃ w2, w2 = ((w.alloc (.cells (evA ⟨so, no, at_, 5, ri, ca, nd, up, dn, fo, nu⟩) 31 (0, 0))).alloc (.cells #[.string ri] 9 (0, 0))) := ⟨_, rfl⟩
  rw [← hw2, ← hbx] at H2
  unfold evA at hw2
  simp only at hw2
  have HBR := hide (w_broken d lo rb cb N D fr fc fm ca w2 H2.out.day H2.out.d2 hk)
  obtain ⟨a2, a3, a4, a5⟩ := H2.out.evs
  have d2 := H2.out.d2
  have b1 := (sta_cells H2.out.st).2.1
  have b2 := (sta_cells H2.out.st).2.2.1
  have b5 := (sta_cells H2.out.st).2.2.2.2.2.1
  have b6 := (sta_cells H2.out.st).2.2.2.2.2.2
  have ne := H2.out.ne
  obtain ⟨e1, e2, e5, e6⟩ := H2.out.frz
  simp only at a2 a3 a4 a5 b1 b2 b5 b6
  have HS := hide hs
  have HP := hide hp
  have HKR := hide hkr
  have HBN := hide hbx
  clear h hpo hs hp h2 hkr
  go_enter Tryz.func131, Tryz.ntmps131
  go_upto_region 2 with fail
  rw [← hw2, ← hbx]
  clear hw2 hbx
  have hq : (how = 1 ∨ how = 2) ∨ ((how == 1) = false ∧ (how == 2) = false) := by simp; omega
  rcases hq with hq | ⟨hq1, hq2⟩
  · have hr := hide (show rideP D ⟨rid, car, how, sup, sdn, son, soff⟩ ⟨so, no, at_, 5, ri, ca, nd, up, dn, fo, nu⟩ = (setR D ri ⟨rid, car, 5, sup, sdn, son, soff⟩, 0) by simp [rideP, hq])
    rcases hq with rfl | rfl
    all_goals
      obtain ⟨w5, hw5⟩ : ∃ w5, w5 = w2.setCell ⟨p, 2, none⟩ (.int .i64 5) := ⟨_, rfl⟩
      have H5 := hide (H2.out.put (s' := ⟨rid, car, 5, sup, sdn, son, soff⟩) hd hlp HS.out HP.out (hw5 ▸ (Gr.refl p _).setS (.inl rfl) _) (by rw [hw5]; exact heap_set H2.out.st))
      subst hw5
      go_wp2_with fail
      go_ret2
      exact RideOut.of hr.out rfl ⟨fr, fc, fm, H5.out.day.mono (by omega)⟩ H5.out.fr2
  · have hq1' : ¬ how = 1 := by simpa using hq1
    have hq2' : ¬ how = 2 := by simpa using hq2
    have hr := hide (show rideP D ⟨rid, car, how, sup, sdn, son, soff⟩ ⟨so, no, at_, 5, ri, ca, nd, up, dn, fo, nu⟩ = (D, 11) by simp [rideP, hq1', hq2'])
    clear hq1' hq2'
    go_wp2_with fail
    all_goals go_ret2
    all_goals exact RideOut.of hr.out rfl ⟨fr, fc, fm, H2.out.day.mono (by omega)⟩ H2.out.fr2
set_option maxRecDepth 100000 in
set_option maxHeartbeats 4000000 in
theorem w_ride6 (d lo rb cb N p : Nat) (D : DayP) (fr fc : ByteArray → Option (Option Nat)) (fm : ByteArray → Nat) (so : ByteArray) (no at_ : Int) (ri ca nd : ByteArray) (up dn : Int) (fo : ByteArray) (nu : Int) (s : St) (w : World)
    (h : DayW w lo rb cb N D fr fc fm) (h2 : w.cell? ⟨d, 2, none⟩ = some (.map (some cb))) (hd : d < lo) (_ : d ≠ cb) (_ : d ≠ rb) (hs : D.rides ri = some s) (hp : fr ri = some (some p)) (hkr : domS ri) (hk : domS ca) (_ : N < 90000) :
    Calls Tryz.prog 131 #[.pointer (some ⟨d, 0, none⟩), .pointer (some ⟨p, 0, none⟩), .agg #[.string so, .int .i64 no, .int .i64 at_, .int .i64 6, .string ri, .string ca, .string nd, .int .i64 up, .int .i64 dn, .string fo, .int .i64 nu]] w (RideOut lo rb cb N (rideP D s ⟨so, no, at_, 6, ri, ca, nd, up, dn, fo, nu⟩) w) := by
  obtain ⟨p', a, hlp, hpo⟩ := h.rides.at_ ri s hs
  rw [hp] at a; injection a with a; injection a with a; subst a
  have hsz := h.sz
  have hcl := h.clo
  have hrl := h.rlo
  obtain ⟨rid, car, how, sup, sdn, son, soff⟩ := s
  have H2 := hide (RideF.start (x := ⟨so, no, at_, 6, ri, ca, nd, up, dn, fo, nu⟩) h hd h2 hs hp (.cells #[.string ri] 9 (0, 0)))
  obtain ⟨bx, hbx⟩ : ∃ bx, bx = w.heap.size := ⟨_, rfl⟩
  obtain ⟨w2, hw2⟩ : ∃ w2, w2 = ((w.alloc (.cells (evA ⟨so, no, at_, 6, ri, ca, nd, up, dn, fo, nu⟩) 31 (0, 0))).alloc (.cells #[.string ri] 9 (0, 0))) := ⟨_, rfl⟩
  rw [← hw2, ← hbx] at H2
  unfold evA at hw2
  simp only at hw2
  have HBR := hide (w_broken d lo rb cb N D fr fc fm ca w2 H2.out.day H2.out.d2 hk)
  obtain ⟨a2, a3, a4, a5⟩ := H2.out.evs
  have d2 := H2.out.d2
  have b1 := (sta_cells H2.out.st).2.1
  have b2 := (sta_cells H2.out.st).2.2.1
  have b5 := (sta_cells H2.out.st).2.2.2.2.2.1
  have b6 := (sta_cells H2.out.st).2.2.2.2.2.2
  have ne := H2.out.ne
  obtain ⟨e1, e2, e5, e6⟩ := H2.out.frz
  simp only at a2 a3 a4 a5 b1 b2 b5 b6
  have HS := hide hs
  have HP := hide hp
  have HKR := hide hkr
  have HBN := hide hbx
  clear h hpo hs hp h2 hkr
  go_enter Tryz.func131, Tryz.ntmps131
  go_upto_region 2 with fail
  rw [← hw2, ← hbx]
  clear hw2 hbx
  have hq : how = 2 ∨ ((how == 2) = false ∧ (how != 2) = true) := by simp; omega
  rcases hq with hq | ⟨hq1, hq2⟩
  · have hr := hide (show rideP D ⟨rid, car, how, sup, sdn, son, soff⟩ ⟨so, no, at_, 6, ri, ca, nd, up, dn, fo, nu⟩ = (setR D ri ⟨rid, car, 6, sup, sdn, son, soff⟩, 0) by simp [rideP, hq])
    subst hq
    all_goals
      obtain ⟨w5, hw5⟩ : ∃ w5, w5 = w2.setCell ⟨p, 2, none⟩ (.int .i64 6) := ⟨_, rfl⟩
      have H5 := hide (H2.out.put (s' := ⟨rid, car, 6, sup, sdn, son, soff⟩) hd hlp HS.out HP.out (hw5 ▸ (Gr.refl p _).setS (.inl rfl) _) (by rw [hw5]; exact heap_set H2.out.st))
      subst hw5
      go_wp2_with fail
      go_ret2
      exact RideOut.of hr.out rfl ⟨fr, fc, fm, H5.out.day.mono (by omega)⟩ H5.out.fr2
  · have hq1' : ¬ how = 2 := by simpa using hq1
    have hr := hide (show rideP D ⟨rid, car, how, sup, sdn, son, soff⟩ ⟨so, no, at_, 6, ri, ca, nd, up, dn, fo, nu⟩ = (D, 11) by simp [rideP, hq1'])
    clear hq1'
    go_wp2_with fail
    all_goals go_ret2
    all_goals exact RideOut.of hr.out rfl ⟨fr, fc, fm, H2.out.day.mono (by omega)⟩ H2.out.fr2
end Go.Proofs.YtfkmbeppckelfaaGreatDoor
