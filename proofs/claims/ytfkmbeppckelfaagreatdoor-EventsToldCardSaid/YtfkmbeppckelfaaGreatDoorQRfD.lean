/- The reference follows an event that is not refused. -/
import Derived.Test.YtfkmbeppckelfaaGreatDoorQRfY
namespace Go.Proofs.YtfkmbeppckelfaaGreatDoor
open Go.RowKit Go.Maps

/-- How a ride is behind an event, in its cells. -/
def StaAt (p : Nat) (s : St) (w1 wx : World) : Prop :=
  wx.cell? ⟨p, 0, none⟩ = some (.string s.ride) ∧ wx.cell? ⟨p, 1, none⟩ = some (.string s.car) ∧ wx.cell? ⟨p, 2, none⟩ = some (.int .i64 s.how) ∧ wx.cell? ⟨p, 3, none⟩ = some (.int .i64 s.up) ∧ wx.cell? ⟨p, 4, none⟩ = some (.int .i64 s.down) ∧ wx.cell? ⟨p, 5, none⟩ = some (.int .i64 s.on) ∧ wx.cell? ⟨p, 6, none⟩ = some (.int .i64 s.off) ∧ p < wx.heap.size ∧ (∀ i, wx.frozen? ⟨p, i, none⟩ = false) ∧ Nx w1 wx
theorem frz_drew {w : World} {p : Nat} (h : ∀ j, w.frozen? ⟨p, j, none⟩ = false) : ∀ j, w.drew.frozen? ⟨p, j, none⟩ = false := fun j => h j
theorem frz_set {w : World} {p i : Nat} {u : Value} (h : ∀ j, w.frozen? ⟨p, j, none⟩ = false) : ∀ j, (w.setCell ⟨p, i, none⟩ u).frozen? ⟨p, j, none⟩ = false := fun j => by
  have := h j
  go_simp <;> exact this
theorem range_elem {P : Program} {K : TypeId} {V : Type} {R : Value → Option (DataW Unit × List MemPlace)} {ev : V → Value} {dv : V → DataW Unit} {okv : V → Prop} (ER : ElemR R ev dv okv) {Dt : DataW Unit} {f : ByteArray → Option V} (h : MgD P K Value.string domS dv Dt f) {k : ByteArray} (hd : domS k) (hkey : keyOf P K (.string k) = some (litS k)) {c : V} (hok : okv c) {y : DataW Unit} {ps : List MemPlace} (hR : R (ev c) = some (y, ps)) (hat : ∀ zd, Dt.atKey (litS k) zd = y) : f k = some c := by
  have e3 := h.at_ k (litS k) hd hkey
  obtain ⟨ps', e4⟩ := ER.make c hok
  rw [e4] at hR
  injection hR with hR; injection hR with hR _
  subst hR
  cases hf : f k with
  | none =>
    rw [hf] at e3
    have h1 := (e3 (.lit (.bool true))).symm.trans (hat _)
    have h2 := (e3 (.lit (.bool false))).symm.trans (hat _)
    exact absurd (h1.trans h2.symm) (by simp)
  | some v =>
    rw [hf] at e3
    have h1 := (e3 (.lit (.bool true))).symm.trans (hat _)
    rw [ER.inj _ _ h1]
/-- Behind the switch: the ride's cells, and what is known. -/
structure DoMid (d rb cb bb N p : Nat) (D8 : DayR) (s : St) (w1 wx : World) : Prop where
  c0 : wx.cell? ⟨p, 0, none⟩ = some (.string s.ride)
  c1 : wx.cell? ⟨p, 1, none⟩ = some (.string s.car)
  c2 : wx.cell? ⟨p, 2, none⟩ = some (.int .i64 s.how)
  c3 : wx.cell? ⟨p, 3, none⟩ = some (.int .i64 s.up)
  c4 : wx.cell? ⟨p, 4, none⟩ = some (.int .i64 s.down)
  c5 : wx.cell? ⟨p, 5, none⟩ = some (.int .i64 s.on)
  c6 : wx.cell? ⟨p, 6, none⟩ = some (.int .i64 s.off)
  lt : p < wx.heap.size
  day : DayRW wx d rb cb bb (N + 1) D8
  fr : FrR rb cb bb w1 wx
theorem mid_of {d rb cb bb N p : Nat} {D D8 : DayR} {s : St} {w1 wx : World} (h : DayRW w1 d rb cb bb N D) (e : D8 = D) (hs : StaAt p s w1 wx) : DoMid d rb cb bb N p D8 s w1 wx := by
  obtain ⟨c0, c1, c2, c3, c4, c5, c6, hl, _, hn⟩ := hs
  subst e
  exact ⟨c0, c1, c2, c3, c4, c5, c6, hl, (h.nx hn).mono (Nat.le_succ _), FrR.nx hn⟩
/-- The day behind the switch. -/
def day8 (D : DayR) (e : Ev) : DayR := if e.kind = 8 then { rides := fun k => (D.rides k).map (freed e.car), cars := D.cars, broken := updF D.broken e.car true } else D
theorem doR_8 (D : DayR) (e : Ev) : doR D e = { rides := if e.ride = eB then (day8 D e).rides else updF (day8 D e).rides e.ride (rideR ((D.rides e.ride).getD st0) e), cars := if e.car = eB then D.cars else updF D.cars e.car (if e.node = eB then (D.cars e.car).getD (eB, 0) else (e.node, e.at_)), broken := (day8 D e).broken } := by
  unfold doR day8
  by_cases h : e.kind = 8 <;> simp [h]
theorem day8_cars (D : DayR) (e : Ev) : (day8 D e).cars = D.cars := by unfold day8; split <;> rfl
theorem emp_iff (s : ByteArray) : s.toList.isEmpty = decide (s = eB) := by
  rw [Lib.toList_data, Bool.eq_iff_iff, decide_eq_true_eq]
  constructor
  · intro h
    have h2 : s.data.toList = [] := by simpa using h
    exact data_inj h2
  · rintro rfl; rfl
/-- Where a car was, in its cells. -/
def WhAt (p : Nat) (z : Wh) (w1 wx : World) : Prop :=
  wx.cell? ⟨p, 0, none⟩ = some (.string z.car) ∧ wx.cell? ⟨p, 1, none⟩ = some (.string z.node) ∧ wx.cell? ⟨p, 2, none⟩ = some (.int .i64 z.at_) ∧ wx.cell? ⟨p, 3, none⟩ = some (.bool false) ∧ wx.cell? ⟨p, 4, none⟩ = some (.slice none 0 0) ∧ p < wx.heap.size ∧ (∀ i, wx.frozen? ⟨p, i, none⟩ = false) ∧ Nx w1 wx
theorem wh_cells {w : World} {p : Nat} {z : Wh} (h : w.heap[p]? = some (.cells #[.string z.car, .string z.node, .int .i64 z.at_, .bool false, .slice none 0 0] 57 (0, 0))) : w.cell? ⟨p, 0, none⟩ = some (.string z.car) ∧ w.cell? ⟨p, 1, none⟩ = some (.string z.node) ∧ w.cell? ⟨p, 2, none⟩ = some (.int .i64 z.at_) ∧ w.cell? ⟨p, 3, none⟩ = some (.bool false) ∧ w.cell? ⟨p, 4, none⟩ = some (.slice none 0 0) :=
  ⟨cell_of_row w p 0 _ _ _ h, cell_of_row w p 1 _ _ _ h, cell_of_row w p 2 _ _ _ h, cell_of_row w p 3 _ _ _ h, cell_of_row w p 4 _ _ _ h⟩
theorem carsF_put (D : DayR) (ca : ByteArray) (z : ByteArray × Int) : carsF { D with cars := updF D.cars ca z } = fun k' => if k' = ca then some ⟨ca, z.1, z.2⟩ else carsF D k' := by
  funext k
  unfold carsF updF
  simp only
  by_cases e : k = ca
  · rw [if_pos e, if_pos e, e]; rfl
  · rw [if_neg e, if_neg e]
theorem carsF_get (D : DayR) (ca : ByteArray) : ∃ c, (carsF D ca).getD wh0 = ⟨c, ((D.cars ca).getD (eB, 0)).1, ((D.cars ca).getD (eB, 0)).2⟩ := by
  unfold carsF
  cases D.cars ca with
  | none => exact ⟨eB, rfl⟩
  | some z => exact ⟨ca, rfl⟩
set_option maxRecDepth 100000 in
set_option maxHeartbeats 2000000 in
theorem w_do (d rb cb bb N : Nat) (D : DayR) (so : ByteArray) (no at_ ki : Int) (ri ca nd : ByteArray) (up dn : Int) (fo : ByteArray) (nu : Int) (w : World) (h : DayRW w d rb cb bb N D) (hok : okEv ⟨so, no, at_, ki, ri, ca, nd, up, dn, fo, nu⟩) (hN : N ≤ 60000) :
    Calls Tryz.prog 96 #[.pointer (some ⟨d, 0, none⟩), .agg #[.string so, .int .i64 no, .int .i64 at_, .int .i64 ki, .string ri, .string ca, .string nd, .int .i64 up, .int .i64 dn, .string fo, .int .i64 nu]] w fun e w' => e = .returned (.tuple #[]) ∧ DayRW w' d rb cb bb (N + 3) (doR D ⟨so, no, at_, ki, ri, ca, nd, up, dn, fo, nu⟩) ∧ FrR rb cb bb w w' := by
  have hkr := domS_1000 hok.ride
  have hkc := domS_1000 hok.car
  simp only at hkr hkc
  obtain ⟨w1, hw1⟩ : ∃ w1, w1 = w.alloc (.cells #[.string so, .int .i64 no, .int .i64 at_, .int .i64 ki, .string ri, .string ca, .string nd, .int .i64 up, .int .i64 dn, .string fo, .int .i64 nu] 31 (0, 0)) := ⟨_, rfl⟩
  obtain ⟨bx, hbx⟩ : ∃ bx, bx = w.heap.size := ⟨_, rfl⟩
  have hn1 : Nx w w1 := hw1 ▸ (Nx.refl w).alloc _
  have hb1 : w1.heap[bx]? = some (.cells #[.string so, .int .i64 no, .int .i64 at_, .int .i64 ki, .string ri, .string ca, .string nd, .int .i64 up, .int .i64 dn, .string fo, .int .i64 nu] 31 (0, 0)) := by rw [hw1, hbx]; exact heap_alloc_new w _
  have hD1 := h.nx hn1
  have hl1 := look_stR (hD1.rides.nx (Nx.refl w1).drew) hkr
  have hl2 := look_stR (hD1.rides.nx ((Nx.refl w1).alloc (.cells #[.string ⟨#[]⟩, .string ⟨#[]⟩, .int .i64 0, .int .i64 0, .int .i64 0, .int .i64 0, .int .i64 0] 59 (0, 0))).drew) hkr
  obtain ⟨d0, d1, d2⟩ := dayR_cells hD1.blk
  have hdl := (Array.getElem?_eq_some_iff.1 hD1.blk).1
  have hbl := (Array.getElem?_eq_some_iff.1 hb1).1
  have a2 : w1.cell? ⟨bx, 2, none⟩ = some (.int .i64 at_) := cell_of_row w1 _ 2 _ _ _ hb1
  have a3 : w1.cell? ⟨bx, 3, none⟩ = some (.int .i64 ki) := cell_of_row w1 _ 3 _ _ _ hb1
  have a4 : w1.cell? ⟨bx, 4, none⟩ = some (.string ri) := cell_of_row w1 _ 4 _ _ _ hb1
  have a5 : w1.cell? ⟨bx, 5, none⟩ = some (.string ca) := cell_of_row w1 _ 5 _ _ _ hb1
  have a7 : w1.cell? ⟨bx, 7, none⟩ = some (.int .i64 up) := cell_of_row w1 _ 7 _ _ _ hb1
  have a8 : w1.cell? ⟨bx, 8, none⟩ = some (.int .i64 dn) := cell_of_row w1 _ 8 _ _ _ hb1
  obtain ⟨s, hs⟩ : ∃ s, s = (D.rides ri).getD st0 := ⟨_, rfl⟩
  rw [← hs] at hl1 hl2
  have HS := hide hs
  have HD1 := hide hD1
  have HB1 := hide hb1
  have HN1 := hide hn1
  have HOK := hide hok
  obtain ⟨rid, car, how, sup, sdn, son, soff⟩ := s
  unfold stV staV at hl1 hl2
  simp only at hl1 hl2
  clear h hD1 hb1 hn1 hs hok
  go_enter Tryz.func96, Tryz.ntmps96
  go_upto_region 1 with fail
  rw [← hw1, ← hbx]
  clear hw1 hbx
  go_cut [4] (fun v4 wx => v4 = .pointer (some ⟨w1.heap.size, 0, none⟩) ∧ StaAt w1.heap.size ⟨rid, car, how, sup, sdn, son, soff⟩ w1 wx)
  case first =>
    go_region
    all_goals (go_wp2; go_meet)
    all_goals
      obtain ⟨c0, c1, c2, c3, c4, c5, c6⟩ := sta_cells (heap_alloc_new w1 (staO ⟨rid, car, how, sup, sdn, son, soff⟩))
      exact ⟨rfl, c0, c1, c2, c3, c4, c5, c6, by simp, fun i => by go_simp <;> rfl, ((Nx.refl w1).alloc _).drew⟩
  case rest =>
    obtain ⟨rfl, hcut⟩ := hcut
    obtain ⟨p, hp⟩ : ∃ p, p = w1.heap.size := ⟨_, rfl⟩
    rw [← hp] at hcut ⊢
    have HP := hide hp
    obtain ⟨s0, s1, s2, s3, s4, s5, s6, hpl, hfz, hnc⟩ := hcut
    obtain ⟨w2, hw2⟩ : ∃ w2, w2 = wc := ⟨_, rfl⟩
    rw [← hw2] at s0 s1 s2 s3 s4 s5 s6 hpl hfz hnc ⊢
    have b2 := nx_cell hnc hbl a2
    have b3 := nx_cell hnc hbl a3
    have b4 := nx_cell hnc hbl a4
    have b5 := nx_cell hnc hbl a5
    have b7 := nx_cell hnc hbl a7
    have b8 := nx_cell hnc hbl a8
    have hbl2 : bx < w2.heap.size := Nat.lt_of_lt_of_le hbl hnc.sz
    have HNC := hide hnc
    clear hw2 hnc hl1 hl2 a2 a3 a4 a5 a7 a8 d0 d1 d2 hp
    refine ‹∀ (a : Act) (w_1 : World), Code.wp _ _ _ a w_1 → _› _ _ ?_
    obtain ⟨r, hr⟩ : ∃ r, r = rideR ⟨rid, car, how, sup, sdn, son, soff⟩ ⟨so, no, at_, ki, ri, ca, nd, up, dn, fo, nu⟩ := ⟨_, rfl⟩
    have HR := hide hr
    clear hr
    refine wp_seq_k ?_
    intro Kt hKt
    go_cut [] (fun wx => DoMid d rb cb bb N p (day8 D ⟨so, no, at_, ki, ri, ca, nd, up, dn, fo, nu⟩) r w1 wx)
    case first =>
      go_upto_region 3 with fail
      have hpw : w1.heap.size ≤ p := by have := HP.out; omega
      cases k1 : (ki == 1) with
      | true =>
        have hr := HR.out
        have hk : ki = 1 := by simpa using k1
        simp [rideR, hk] at hr
        have HD8 := hide (show day8 D ⟨so, no, at_, ki, ri, ca, nd, up, dn, fo, nu⟩ = D by simp [day8, hk])
        clear hk
        go_wp2_with fail
        all_goals go_meet
        all_goals (subst hr; refine mid_of HD1.out HD8.out ?_; simp only [StaAt, eB]; exact ⟨by first | (go_simp; done) | (with_reducible assumption), by first | (go_simp; done) | (with_reducible assumption), by first | (go_simp; done) | (with_reducible assumption), by first | (go_simp; done) | (with_reducible assumption), by first | (go_simp; done) | (with_reducible assumption), by first | (go_simp; done) | (with_reducible assumption), by first | (go_simp; done) | (with_reducible assumption), by first | with_reducible exact hpl | (simp; exact hpl), by repeat (first | with_reducible exact hfz | with_reducible apply frz_set | with_reducible apply frz_drew), by repeat (first | with_reducible exact HNC.out | with_reducible refine Nx.drew ?_ | with_reducible refine Nx.setg ?_ hpw _)⟩)
      | false =>
      cases k2 : (ki == 2) with
      | true =>
        have hr := HR.out
        have hk : ki = 2 := by simpa using k2
        simp [rideR, hk] at hr
        have HD8 := hide (show day8 D ⟨so, no, at_, ki, ri, ca, nd, up, dn, fo, nu⟩ = D by simp [day8, hk])
        clear hk
        go_upto_region 6 with fail
        go_region
        all_goals (go_wp2; go_meet)
        all_goals (subst hr; refine mid_of HD1.out HD8.out ?_; simp only [StaAt]; exact ⟨by first | (go_simp; done) | (with_reducible assumption), by first | (go_simp; done) | (with_reducible assumption), by first | (go_simp; done) | (with_reducible assumption), by first | (go_simp; done) | (with_reducible assumption), by first | (go_simp; done) | (with_reducible assumption), by first | (go_simp; done) | (with_reducible assumption), by first | (go_simp; done) | (with_reducible assumption), by first | with_reducible exact hpl | (simp; exact hpl), by repeat (first | with_reducible exact hfz | with_reducible apply frz_set | with_reducible apply frz_drew), by repeat (first | with_reducible exact HNC.out | with_reducible refine Nx.drew ?_ | with_reducible refine Nx.setg ?_ hpw _)⟩)
      | false =>
      cases k3 : (ki == 3) with
      | true =>
        have hr := HR.out
        have hk : ki = 3 := by simpa using k3
        simp [rideR, hk] at hr
        have HD8 := hide (show day8 D ⟨so, no, at_, ki, ri, ca, nd, up, dn, fo, nu⟩ = D by simp [day8, hk])
        clear hk
        go_upto_region 8 with fail
        go_region
        all_goals (go_wp2; go_meet)
        all_goals (subst hr; refine mid_of HD1.out HD8.out ?_; simp only [StaAt]; exact ⟨by first | (go_simp; done) | (with_reducible assumption), by first | (go_simp; done) | (with_reducible assumption), by first | (go_simp; done) | (with_reducible assumption), by first | (go_simp; done) | (with_reducible assumption), by first | (go_simp; done) | (with_reducible assumption), by first | (go_simp; done) | (with_reducible assumption), by first | (go_simp; done) | (with_reducible assumption), by first | with_reducible exact hpl | (simp; exact hpl), by repeat (first | with_reducible exact hfz | with_reducible apply frz_set | with_reducible apply frz_drew), by repeat (first | with_reducible exact HNC.out | with_reducible refine Nx.drew ?_ | with_reducible refine Nx.setg ?_ hpw _)⟩)
      | false =>
      cases k4 : (ki == 4) with
      | true =>
        have hr := HR.out
        have hk : ki = 4 := by simpa using k4
        simp [rideR, hk] at hr
        have HD8 := hide (show day8 D ⟨so, no, at_, ki, ri, ca, nd, up, dn, fo, nu⟩ = D by simp [day8, hk])
        clear hk
        go_upto_region 10 with fail
        go_region
        all_goals (go_wp2; go_meet)
        all_goals (subst hr; refine mid_of HD1.out HD8.out ?_; simp only [StaAt]; exact ⟨by first | (go_simp; done) | (with_reducible assumption), by first | (go_simp; done) | (with_reducible assumption), by first | (go_simp; done) | (with_reducible assumption), by first | (go_simp; done) | (with_reducible assumption), by first | (go_simp; done) | (with_reducible assumption), by first | (go_simp; done) | (with_reducible assumption), by first | (go_simp; done) | (with_reducible assumption), by first | with_reducible exact hpl | (simp; exact hpl), by repeat (first | with_reducible exact hfz | with_reducible apply frz_set | with_reducible apply frz_drew), by repeat (first | with_reducible exact HNC.out | with_reducible refine Nx.drew ?_ | with_reducible refine Nx.setg ?_ hpw _)⟩)
      | false =>
      cases k5 : (ki == 5) with
      | true =>
        have hr := HR.out
        have hk : ki = 5 := by simpa using k5
        simp [rideR, hk] at hr
        have HD8 := hide (show day8 D ⟨so, no, at_, ki, ri, ca, nd, up, dn, fo, nu⟩ = D by simp [day8, hk])
        clear hk
        go_wp2_with fail
        all_goals go_meet
        all_goals (subst hr; refine mid_of HD1.out HD8.out ?_; simp only [StaAt]; exact ⟨by first | (go_simp; done) | (with_reducible assumption), by first | (go_simp; done) | (with_reducible assumption), by first | (go_simp; done) | (with_reducible assumption), by first | (go_simp; done) | (with_reducible assumption), by first | (go_simp; done) | (with_reducible assumption), by first | (go_simp; done) | (with_reducible assumption), by first | (go_simp; done) | (with_reducible assumption), by first | with_reducible exact hpl | (simp; exact hpl), by repeat (first | with_reducible exact hfz | with_reducible apply frz_set | with_reducible apply frz_drew), by repeat (first | with_reducible exact HNC.out | with_reducible refine Nx.drew ?_ | with_reducible refine Nx.setg ?_ hpw _)⟩)
      | false =>
      cases k6 : (ki == 6) with
      | true =>
        have hr := HR.out
        have hk : ki = 6 := by simpa using k6
        simp [rideR, hk] at hr
        have HD8 := hide (show day8 D ⟨so, no, at_, ki, ri, ca, nd, up, dn, fo, nu⟩ = D by simp [day8, hk])
        clear hk
        go_wp2_with fail
        all_goals go_meet
        all_goals (subst hr; refine mid_of HD1.out HD8.out ?_; simp only [StaAt]; exact ⟨by first | (go_simp; done) | (with_reducible assumption), by first | (go_simp; done) | (with_reducible assumption), by first | (go_simp; done) | (with_reducible assumption), by first | (go_simp; done) | (with_reducible assumption), by first | (go_simp; done) | (with_reducible assumption), by first | (go_simp; done) | (with_reducible assumption), by first | (go_simp; done) | (with_reducible assumption), by first | with_reducible exact hpl | (simp; exact hpl), by repeat (first | with_reducible exact hfz | with_reducible apply frz_set | with_reducible apply frz_drew), by repeat (first | with_reducible exact HNC.out | with_reducible refine Nx.drew ?_ | with_reducible refine Nx.setg ?_ hpw _)⟩)
      | false =>
      have hr := HR.out
      simp only [beq_eq_false_iff_ne, ne_eq] at k1 k2 k3 k4 k5 k6
      simp [rideR, k1, k2, k3, k4, k5, k6] at hr
      have m1 : (ki == 1) = false := by simpa using k1
      have m2 : (ki == 2) = false := by simpa using k2
      have m3 : (ki == 3) = false := by simpa using k3
      have m4 : (ki == 4) = false := by simpa using k4
      have m5 : (ki == 5) = false := by simpa using k5
      have m6 : (ki == 6) = false := by simpa using k6
      cases k8 : (ki == 8) with
      | false =>
        have HD8 := hide (show day8 D ⟨so, no, at_, ki, ri, ca, nd, up, dn, fo, nu⟩ = D by
          have : ki ≠ 8 := by simpa using k8
          simp [day8, this])
        go_wp2_with fail
        all_goals go_meet
        all_goals (subst hr; refine mid_of HD1.out HD8.out ?_; simp only [StaAt]; exact ⟨by first | (go_simp; done) | (with_reducible assumption), by first | (go_simp; done) | (with_reducible assumption), by first | (go_simp; done) | (with_reducible assumption), by first | (go_simp; done) | (with_reducible assumption), by first | (go_simp; done) | (with_reducible assumption), by first | (go_simp; done) | (with_reducible assumption), by first | (go_simp; done) | (with_reducible assumption), by first | with_reducible exact hpl | (simp; exact hpl), by repeat (first | with_reducible exact hfz | with_reducible apply frz_set | with_reducible apply frz_drew), by repeat (first | with_reducible exact HNC.out | with_reducible refine Nx.drew ?_ | with_reducible refine Nx.setg ?_ hpw _)⟩)
      | true =>
        have h8 : ki = 8 := by simpa using k8
        have hd8 := hide (show day8 D ⟨so, no, at_, ki, ri, ca, nd, up, dn, fo, nu⟩ = { rides := fun k => (D.rides k).map (freed ca), cars := D.cars, broken := updF D.broken ca true } by simp [day8, h8])
        clear h8
        have hD2 := HD1.out.nx HNC.out
        have HD2 := hide hD2
        have HRR := hide hr
        clear hr
        have hkey := keyS_mk (P := Tryz.prog) Tryz.underlying9 hkc
        obtain ⟨w4, hrun, hM4, hg4⟩ := (hD2.brk.nx (Nx.refl w2).drew).upd boolE law_strE strV_inj Tryz.underlying97 (by unfold maxLen; omega) hkc hkey true trivial
        obtain ⟨e0, e1, e2⟩ := dayR_cells hD2.blk
        have hdl2 := (Array.getElem?_eq_some_iff.1 hD2.blk).1
        have hgb : Gr bb w2 w4 := (Gr.of_nx (Nx.refl w2).drew).trans hg4
        obtain ⟨es, cl, hbo⟩ := mg_obj hD2.brk
        have hdb : d ≠ bb := fun e => by have := hD2.blk; rw [e, hbo] at this; cases this
        have hblk4 := gr_at hgb hD2.blk hdb
        have hrid4 := hD2.rides.gr hgb HD1.out.n2
        have hcar4 := hD2.cars.gr hgb HD1.out.n3
        have hfr4 : FrR rb cb bb w1 w4 := (FrR.nx HNC.out).trans (FrR.gr hgb (.inr (.inr rfl)))
        have hbx1 := HB1.out
        have hpb : p ≠ bb := fun e => by
          have h1 := hD2.brk.lt
          have h2 := HD1.out.brk.lt
          have := HP.out
          omega
        have hbxb : bx ≠ bb := fun e => by
          have h1 := HB1.out
          have h2 := HD1.out.brk
          obtain ⟨es, cl, hbo⟩ := mg_obj h2
          rw [e, hbo] at h1; cases h1
        have hbx4 := gr_at hgb ((HNC.out.block _ hbl).trans HB1.out) hbxb
        have hcell : ∀ i v, w2.cell? ⟨p, i, none⟩ = some v → w4.cell? ⟨p, i, none⟩ = some v := fun i v hc => World.grownBy.cell (row := some bb) hgb hc (by simpa using hpb)
        have hpl4 : p < w4.heap.size := Nat.lt_of_lt_of_le hpl hgb.sz
        have hp4 := hide (And.intro (hcell 0 _ s0) (And.intro (hcell 1 _ s1) (And.intro (hcell 2 _ s2) (And.intro (hcell 3 _ s3) (And.intro (hcell 4 _ s4) (And.intro (hcell 5 _ s5) (hcell 6 _ s6)))))))
        obtain ⟨Dt, hown, hMD⟩ := hrid4
        have hall : ∀ k, (D.rides k).isSome = true → Maps.has Dt (litS k) = true := fun k hk => by
          have hdk := hMD.dm k hk
          rw [hMD.has_ hdk (keyS_mk Tryz.underlying9 hdk)]; exact hk
        have HALL := hide hall
        have HMD := hide hMD
        have HC4 := hide hcar4
        have HM4 := hide hM4
        have HF4 := hide hfr4
        have HBX4 := hide hbx4
        have HBLK4 := hide hblk4
        have f0 := (dayR_cells hblk4).1
        have hdl4 := (Array.getElem?_eq_some_iff.1 hblk4).1
        have hrdne := mg_ne HD1.out.rides HD1.out.blk
        have hcdne := mg_ne HD1.out.cars HD1.out.blk
        have hrxne := mg_ne HD1.out.rides HB1.out
        have hcxne := mg_ne HD1.out.cars HB1.out
        have hrlt := HD1.out.rides.lt
        have hclt := HD1.out.cars.lt
        have HPZ := hide (show p ≠ rb ∧ p ≠ cb ∧ p ≠ bb from ⟨by omega, by omega, hpb⟩)
        have HXZ := hide (show bx ≠ rb ∧ bx ≠ cb ∧ bx ≠ bb from ⟨hrxne.symm, hcxne.symm, hbxb⟩)
        have HDZ := hide (show d ≠ rb ∧ d ≠ cb ∧ d ≠ bb from ⟨hrdne.symm, hcdne.symm, hdb⟩)
        clear hrdne hcdne hrxne hcxne hrlt hclt
        have HHO := hide hown
        clear hD2 hg4 hgb hbo hdb hblk4 hcar4 hfr4 hbx1 hpb hbxb hbx4 hcell hall hMD hM4
        go_upto_region 16 with fail
        go_region
        all_goals (go_wp2_with (first | (at_range; refine wpList_range_own _ rfl _ _ rfl 9 59 law_strE Tryz.underlying154 _ rb N _ rfl hown ?_; intro w5 hrg5 hg5 hs5)))
        try go_frame
        go_loopw [5, 6] (fun _ _ wr => ∃ (left : Lit → Bool) (cnt : Nat) (Dt : DataW Unit), wr.ranges Tryz.prog 9 stElem rb w4.heap.size N Dt left cnt ∧ MgD Tryz.prog 9 Value.string domS stD Dt (brkF left D.rides ca) ∧
            MpSC wr cb N (carsF D) ∧ MpKB wr bb (N + 1) (fun k' => if k' = ca then some true else D.broken k') ∧ FrR rb cb bb w4 wr) (fun _ _ wr => wr.rangeLeft rb w4.heap.size)
        case atStart =>
          have hn45 : Nx w4 w5 := (Nx.refl w4).grown hg5 (fun k h => by cases h)
          exact ⟨_, _, Dt, hrg5, by rw [brk_all D.rides ca HALL.out]; exact HMD.out, HC4.out.nx hn45, HM4.out.nx hn45, FrR.nx hn45⟩
        case round =>
          obtain ⟨left, cnt, Dx, hrg, hMD, hcar, hbrk, hF⟩ := hrel
          have HMX := hide hMD
          have HCX := hide hcar
          have HBX := hide hbrk
          have HFX := hide hF
          have HRG := hide hrg
          clear hMD hcar hbrk hF
          go_wp2_with (first
            | (at_next; refine wpList_next_ranges _ rfl _ rfl 9 law_strE stElem Value.string stV (fun key kl hkey => (by obtain ⟨x, rfl, _⟩ := keyS_inv Tryz.underlying9 hkey; exact ⟨x, rfl⟩)) (fun v y hv => (by obtain ⟨q, _, h, _⟩ := elemSt.inv v y.1 y.2 hv; exact ⟨q, h⟩)) rb w4.heap.size N _ _ _ rfl hrg ?_ ?_))
          · intro hc0 hl0
            have HL0 := hide hl0
            have hF := HFX.out
            have hpz := HPZ.out
            have hcc := hp4.out
            have hsame := fun i => cell_same (o := i) (hF.block p hpl4 hpz.1 hpz.2.1 hpz.2.2)
            have hblk := (hF.block d hdl4 HDZ.out.1 HDZ.out.2.1 HDZ.out.2.2).trans HBLK4.out
            have HMID := hide (show DoMid d rb cb bb N p (day8 D ⟨so, no, at_, ki, ri, ca, nd, up, dn, fo, nu⟩) r w1 wr by
              rw [hd8.out, HRR.out]
              have hMD := HMX.out
              rw [brk_none D.rides ca HL0.out] at hMD
              exact ⟨(hsame 0).trans hcc.1, (hsame 1).trans hcc.2.1, (hsame 2).trans hcc.2.2.1, (hsame 3).trans hcc.2.2.2.1, (hsame 4).trans hcc.2.2.2.2.1, (hsame 5).trans hcc.2.2.2.2.2.1, (hsame 6).trans hcc.2.2.2.2.2.2, Nat.lt_of_lt_of_le hpl4 hF.size,
                ⟨hblk, MgI.mono (n := N) ⟨Dx, HRG.out.owns, hMD⟩ (Nat.le_succ _), HCX.out.mono (Nat.le_succ _), HBX.out, HD1.out.n1, HD1.out.n2, HD1.out.n3⟩, HF4.out.trans hF⟩)
            clear hF hpz hcc hsame hblk hl0
            go_wp2_with fail
            go_meet
            exact HMID.out
          · intro k c kl y ps w6 cnt6 hkey hlk hRv hat hrg6 hlt6 hg6 hs6 hen
            obtain ⟨k0, ek, hdk, rfl⟩ := keyS_inv Tryz.underlying9 hkey
            obtain rfl := strV_inj _ _ ek
            have hfk := range_elem elemSt HMX.out hdk hkey trivial hRv hat
            have hDk : D.rides k = some c := by unfold brkF at hfk; rw [if_pos hlk] at hfk; exact hfk
            have hstep := brk_step (left := left) (ca := ca) hDk
            have hth : Maps.has Dx (litS k) = true := by rw [HMX.out.has_ hdk hkey, hfk]; rfl
            have hF6 := HFX.out.newer hg6 (fun p hp => by injection hp with hp; omega)
            have e0 : w6.cell? ⟨d, 0, none⟩ = some (.map (some rb)) := (cell_same (hF6.block d hdl4 HDZ.out.1 HDZ.out.2.1 HDZ.out.2.2)).trans f0
            have a5 : w6.cell? ⟨bx, 5, none⟩ = some (.string ca) := cell_of_row w6 _ 5 _ _ _ ((hF6.block bx (Array.getElem?_eq_some_iff.1 HBX4.out).1 HXZ.out.1 HXZ.out.2.1 HXZ.out.2.2).trans HBX4.out)
            have hbl6 : bx < w6.heap.size := Nat.lt_of_lt_of_le (Array.getElem?_eq_some_iff.1 HBX4.out).1 hF6.size
            have hdl6 : d < w6.heap.size := Nat.lt_of_lt_of_le hdl4 hF6.size
            have hrl6 := hrg6.lt
            have hrbl : rb < w6.heap.size := hrg6.owns.lt
            have hcar6 := HCX.out.gr hg6 (by have := HC4.out.lt; omega)
            have hbrk6 := HBX.out.gr hg6 (by have := HM4.out.lt; omega)
            have hrb4 : rb < w4.heap.size := HHO.out.lt
            obtain ⟨rid', car', how', up', dn', on', off'⟩ := c
            simp only [stV, staV] at hen
            obtain ⟨q, hq⟩ : ∃ q, q = w6.heap.size := ⟨_, rfl⟩
            obtain ⟨w7, hw7⟩ : ∃ w7, w7 = w6.alloc (.cells #[.string rid', .string car', .int .i64 how', .int .i64 up', .int .i64 dn', .int .i64 on', .int .i64 off'] 59 (0, 0)) := ⟨_, rfl⟩
            have hn7 : Nx w6 w7 := hw7 ▸ (Nx.refl w6).alloc _
            have hq7 : w7.heap[q]? = some (staO ⟨rid', car', how', up', dn', on', off'⟩) := by rw [hw7, hq]; exact heap_alloc_new w6 _
            obtain ⟨g0, g1, g2, g3, g4, g5, g6⟩ := sta_cells hq7
            simp only at g0 g1 g2 g3 g4 g5 g6
            have hql := (Array.getElem?_eq_some_iff.1 hq7).1
            have z1 : w7.frozen? ⟨q, 1, none⟩ = false := by simp [World.frozen?, hq7, staO]
            have z2 : w7.frozen? ⟨q, 2, none⟩ = false := by simp [World.frozen?, hq7, staO]
            have e7 := nx_cell hn7 hdl6 e0
            have a7' := nx_cell hn7 hbl6 a5
            have hbl7 := Nat.lt_of_lt_of_le hbl6 hn7.sz
            have hdl7 := Nat.lt_of_lt_of_le hdl6 hn7.sz
            have hqg : w6.heap.size ≤ q := by omega
            have HQ7 := hide hq7
            have HN7 := hide hn7
            have HF6 := hide hF6
            have HST := hide hstep
            have HTH := hide hth
            have HFK := hide hfk
            have HR6 := hide hrg6
            have HC6 := hide hcar6
            have HB6 := hide hbrk6
            have HKY := hide hkey
            have HQQ := hide hq
            have HLT := hide (And.intro hrl6 (And.intro hrbl (And.intro hrb4 hlt6)))
            clear hF6 hstep hth hfk hDk hrg6 hcar6 hbrk6 hkey hn7 hq7 hRv hat hlk hg6 hs6 hrl6 hrbl hrb4 hlt6 hrg
            go_upto_region 20 with fail
            rw [← hw7, ← hq]
            have HE0 := hide e0
            clear hw7 hq e0 a5 hen
            have hq2 : (how' = 2 ∧ car' = ca) ∨ ¬ (how' = 2 ∧ car' = ca) := Decidable.em _
            rcases hq2 with ⟨hh, hce⟩ | hq2
            · have te : (car'.toList == ca.toList) = true := by rw [eqS_iff]; exact decide_eq_true hce
              have th : (how' == 2) = true := by simpa using hh
              have hfr := hide (show freed ca ⟨rid', car', how', up', dn', on', off'⟩ = ⟨rid', eB, 1, up', dn', on', off'⟩ by simp [freed, hce, hh])
              clear hce hh
              go_upto_region 22 with fail
              obtain ⟨w8, hw8⟩ : ∃ w8, w8 = (w7.setCell ⟨q, 2, none⟩ (.int .i64 1)).setCell ⟨q, 1, none⟩ (.string ⟨#[]⟩) := ⟨_, rfl⟩
              rw [← hw8]
              have hn8 : Nx w6 w8 := hw8 ▸ (HN7.out.setCell hqg _).setCell hqg _
              have hq8 : w8.heap[q]? = some (staO ⟨rid', eB, 1, up', dn', on', off'⟩) := by rw [hw8]; exact heap_set (heap_set HQ7.out)
              obtain ⟨j0, j1, j2, j3, j4, j5, j6⟩ := sta_cells hq8
              simp only [eB] at j0 j1 j2 j3 j4 j5 j6
              have hql8 := (Array.getElem?_eq_some_iff.1 hq8).1
              have e8 := nx_cell hn8 hdl6 HE0.out
              have hdl8 := Nat.lt_of_lt_of_le hdl6 hn8.sz
              obtain ⟨w9, hrun, hrg9, hturn⟩ := ranges_store (HR6.out.kept (hn8.drew.gr none) (by simp) (by simp)) law_strE Tryz.underlying154 (by unfold maxLen; omega) HKY.out (show stElem (stV ⟨rid', eB, 1, up', dn', on', off'⟩) = some (stD ⟨rid', eB, 1, up', dn', on', off'⟩, []) from rfl) HTH.out
              have hMD9 := HMX.out.put law_strE strV_inj hdk HKY.out ⟨rid', eB, 1, up', dn', on', off'⟩
              have hg9 : Gr rb w8.drew w9 := hturn.grown
              simp only [stV, staV, eB] at hrun
              have HR9 := hide hrg9
              have HM9 := hide hMD9
              have HG9 := hide hg9
              have HN8 := hide hn8.drew
              clear hrg9 hMD9 hg9 hturn hn8 hq8 hw8 g0 g1 g2 g3 g4 g5 g6 z1 z2 e7 a7'
              go_region
              all_goals (go_wp2_with fail)
              all_goals go_roundw
              case rel =>
                refine ⟨_, cnt6, _, HR9.out, ?_, (HC6.out.nx HN8.out).gr HG9.out HD1.out.n1.symm, (HB6.out.nx HN8.out).gr HG9.out HD1.out.n2.symm, (HF6.out.trans (FrR.nx HN8.out)).trans (FrR.gr HG9.out (.inl rfl))⟩
                rw [HST.out, hfr.out]
                exact HM9.out
              case measure => rw [HR9.out.left_eq, HRG.out.left_eq]; exact HLT.out.2.2.2
            · have hfr := hide (show freed ca ⟨rid', car', how', up', dn', on', off'⟩ = ⟨rid', car', how', up', dn', on', off'⟩ by simp only [freed]; rw [if_neg hq2])
              have hbr : (car'.toList == ca.toList) = false ∨ ((car'.toList == ca.toList) = true ∧ (how' == 2) = false) := by
                by_cases e : car' = ca
                · right; refine ⟨by rw [eqS_iff]; exact decide_eq_true e, ?_⟩
                  have : how' ≠ 2 := fun e2 => hq2 ⟨e2, e⟩
                  simpa using this
                · left; rw [eqS_iff]; exact decide_eq_false e
              clear hq2
              rcases hbr with hbr | ⟨hbr, hbr2⟩
              all_goals
                go_wp2_with fail
                go_roundw
                case rel =>
                  refine ⟨_, cnt6, Dx, HR6.out.kept (HN7.out.gr none) (by simp) (by simp), ?_, HC6.out.nx HN7.out, HB6.out.nx HN7.out, HF6.out.trans (FrR.nx HN7.out)⟩
                  rw [HST.out, hfr.out, updF_self HFK.out]
                  exact HMX.out
                case measure => rw [(HR6.out.kept (HN7.out.gr none) (by simp) (by simp)).left_eq, HRG.out.left_eq]; exact HLT.out.2.2.2
    case rest =>
      refine hKt _ _ ?_
      obtain ⟨w3, hw3⟩ : ∃ w3, w3 = wc := ⟨_, rfl⟩
      rw [← hw3] at hcut ⊢
      clear hw3 hKt s0 s1 s2 s3 s4 s5 s6 hfz b2 b3 b4 b5 b7 b8
      obtain ⟨s0, s1, s2, s3, s4, s5, s6, hpl3, hday, hfr⟩ := hcut
      have hrxne := mg_ne HD1.out.rides HB1.out
      have hcxne := mg_ne HD1.out.cars HB1.out
      have hbxne := mg_ne HD1.out.brk HB1.out
      have hbx3 := (hfr.block bx hbl hrxne.symm hcxne.symm hbxne.symm).trans HB1.out
      have b2 : w3.cell? ⟨bx, 2, none⟩ = some (.int .i64 at_) := cell_of_row w3 _ 2 _ _ _ hbx3
      have b4 : w3.cell? ⟨bx, 4, none⟩ = some (.string ri) := cell_of_row w3 _ 4 _ _ _ hbx3
      have b5 : w3.cell? ⟨bx, 5, none⟩ = some (.string ca) := cell_of_row w3 _ 5 _ _ _ hbx3
      have b6 : w3.cell? ⟨bx, 6, none⟩ = some (.string nd) := cell_of_row w3 _ 6 _ _ _ hbx3
      have hbl3 := (Array.getElem?_eq_some_iff.1 hbx3).1
      obtain ⟨d0, d1, d2⟩ := dayR_cells hday.blk
      have hdl3 := (Array.getElem?_eq_some_iff.1 hday.blk).1
      have HXZ := hide (show bx ≠ rb ∧ bx ≠ cb ∧ bx ≠ bb from ⟨hrxne.symm, hcxne.symm, hbxne.symm⟩)
      have HDO := hide (doR_8 D ⟨so, no, at_, ki, ri, ca, nd, up, dn, fo, nu⟩)
      have h8c := day8_cars D ⟨so, no, at_, ki, ri, ca, nd, up, dn, fo, nu⟩
      obtain ⟨D8, hD8⟩ : ∃ D8, D8 = day8 D ⟨so, no, at_, ki, ri, ca, nd, up, dn, fo, nu⟩ := ⟨_, rfl⟩
      rw [← hD8] at HDO hday h8c
      simp only at HDO
      rw [← HS.out, ← HR.out, ← h8c] at HDO
      obtain ⟨rr, rcar, rhow, rup, rdn, ron, roff⟩ := r
      simp only at s0 s1 s2 s3 s4 s5 s6
      have HDAY := hide hday
      have HFR := hide ((FrR.nx (rb := rb) (cb := cb) (bb := bb) HN1.out).trans hfr)
      have HBX3 := hide hbx3
      have hkeyr := keyS_mk (P := Tryz.prog) Tryz.underlying9 hkr
      have hkeyc := keyS_mk (P := Tryz.prog) Tryz.underlying9 hkc
      obtain ⟨D4, hD4⟩ : ∃ D4 : DayR, D4 = ⟨if ri = eB then D8.rides else updF D8.rides ri ⟨rr, rcar, rhow, rup, rdn, ron, roff⟩, D8.cars, D8.broken⟩ := ⟨_, rfl⟩
      have HD4 := hide hD4
      clear hrxne hcxne hbxne hday hfr hbx3 hD8 h8c hD4 b6
      refine wp_seq_k ?_
      intro Kt hKt
      go_cut [] (fun wx => DayRW wx d rb cb bb (N + 2) D4 ∧ FrR rb cb bb w3 wx)
      case first =>
        by_cases hre : ri = eB
        · have te : ri.toList.isEmpty = true := by rw [emp_iff]; exact decide_eq_true hre
          have HQ := hide hre
          clear hre
          go_wp2_with fail
          all_goals go_meet
          all_goals
            refine ⟨?_, FrR.refl _ _ _ _⟩
            rw [HD4.out, if_pos HQ.out]
            exact HDAY.out.mono (Nat.le_succ _)
        · have te : ri.toList.isEmpty = false := by rw [emp_iff]; exact decide_eq_false hre
          have HQ := hide hre
          clear hre
          obtain ⟨w4, hrun, hM4, hg4⟩ := (HDAY.out.rides.nx (Nx.refl w3).drew).upd elemSt law_strE strV_inj Tryz.underlying154 (by unfold maxLen; omega) hkr hkeyr ⟨rr, rcar, rhow, rup, rdn, ron, roff⟩ trivial
          simp only [stV, staV] at hrun
          have hgb : Gr rb w3 w4 := (Gr.of_nx (Nx.refl w3).drew).trans hg4
          have hdr := mg_ne HDAY.out.rides HDAY.out.blk
          have HOUT := hide (show DayRW w4 d rb cb bb (N + 2) D4 ∧ FrR rb cb bb w3 w4 by
            rw [HD4.out, if_neg HQ.out]
            exact ⟨⟨gr_at hgb HDAY.out.blk hdr.symm, hM4, (HDAY.out.cars.gr hgb HDAY.out.n1.symm).mono (Nat.le_succ _), (HDAY.out.brk.gr hgb HDAY.out.n2.symm).mono (Nat.le_succ _), HDAY.out.n1, HDAY.out.n2, HDAY.out.n3⟩, FrR.gr hgb (.inl rfl)⟩)
          clear hM4 hg4 hgb hdr
          go_upto_region 24 with fail
          go_region
          all_goals (go_wp2_with fail)
          all_goals go_meet
          all_goals exact HOUT.out
      case rest =>
        refine hKt _ _ ?_
        obtain ⟨hday4, hfr4⟩ := hcut
        obtain ⟨w4, hw4⟩ : ∃ w4, w4 = wc := ⟨_, rfl⟩
        rw [← hw4] at hday4 hfr4 ⊢
        clear hw4 hKt s0 s1 s2 s3 s4 s5 s6
        have hbx4 := (hfr4.block bx hbl3 HXZ.out.1 HXZ.out.2.1 HXZ.out.2.2).trans HBX3.out
        have c2 : w4.cell? ⟨bx, 2, none⟩ = some (.int .i64 at_) := cell_of_row w4 _ 2 _ _ _ hbx4
        have c5 : w4.cell? ⟨bx, 5, none⟩ = some (.string ca) := cell_of_row w4 _ 5 _ _ _ hbx4
        have c6 : w4.cell? ⟨bx, 6, none⟩ = some (.string nd) := cell_of_row w4 _ 6 _ _ _ hbx4
        have hbl4 := (Array.getElem?_eq_some_iff.1 hbx4).1
        obtain ⟨d0, d1, d2⟩ := dayR_cells hday4.blk
        have hdl4 := (Array.getElem?_eq_some_iff.1 hday4.blk).1
        have HDAY4 := hide hday4
        have HFR4 := hide (HFR.out.trans hfr4)
        have HBX4 := hide hbx4
        clear hbx4 b2 b4 b5 hfr4
        by_cases hce : ca = eB
        · have te : ca.toList.isEmpty = true := by rw [emp_iff]; exact decide_eq_true hce
          have HQ := hide hce
          have HOUT := hide (show DayRW w4 d rb cb bb (N + 2) (doR D ⟨so, no, at_, ki, ri, ca, nd, up, dn, fo, nu⟩) by
            rw [HDO.out, if_pos HQ.out]
            have := HDAY4.out
            rw [HD4.out] at this
            exact this)
          clear hce hday4
          go_wp2_with fail
          go_end0
          exact ⟨rfl, HOUT.out.mono (Nat.le_succ _), HFR4.out⟩
        · have te : ca.toList.isEmpty = false := by rw [emp_iff]; exact decide_eq_false hce
          have HQ := hide hce
          clear hce
          obtain ⟨cc, hcc⟩ := carsF_get D4 ca
          obtain ⟨zn, hzn⟩ : ∃ zn, zn = ((D4.cars ca).getD (eB, 0)).1 := ⟨_, rfl⟩
          obtain ⟨za, hza⟩ : ∃ za, za = ((D4.cars ca).getD (eB, 0)).2 := ⟨_, rfl⟩
          rw [← hzn, ← hza] at hcc
          have hl1 := look_whR (hday4.cars.nx (Nx.refl w4).drew) hkc
          have hl2 := look_whR (hday4.cars.nx ((Nx.refl w4).alloc (.cells #[.string ⟨#[]⟩, .string ⟨#[]⟩, .int .i64 0, .bool false, .slice none 0 0] 57 (0, 0))).drew) hkc
          rw [hcc] at hl1 hl2
          simp only [whV] at hl1 hl2
          have HZN := hide hzn
          have HZA := hide hza
          clear hday4 hzn hza hcc
          go_upto_region 26 with fail
          go_cut [7] (fun v7 wx => v7 = .pointer (some ⟨w4.heap.size, 0, none⟩) ∧ WhAt w4.heap.size ⟨cc, zn, za⟩ w4 wx)
          case first =>
            go_region
            all_goals (go_wp2; go_meet)
            all_goals
              obtain ⟨x0, x1, x2, x3, x4⟩ := wh_cells (z := ⟨cc, zn, za⟩) (heap_alloc_new w4 _)
              exact ⟨rfl, x0, x1, x2, x3, x4, by simp, fun i => by go_simp <;> rfl, ((Nx.refl w4).alloc _).drew⟩
          case rest =>
            obtain ⟨rfl, x0, x1, x2, x3, x4, xl, xf, xn⟩ := hcut
            obtain ⟨q, hq⟩ : ∃ q, q = w4.heap.size := ⟨_, rfl⟩
            rw [← hq] at x0 x1 x2 x3 x4 xl xf ⊢
            have hqg : w4.heap.size ≤ q := by omega
            obtain ⟨w5, hw5⟩ : ∃ w5, w5 = wc := ⟨_, rfl⟩
            rw [← hw5] at x0 x1 x2 x3 x4 xl xf xn ⊢
            clear hw5 hq hl1 hl2 te
            simp only at x0 x1 x2
            have e2 := nx_cell xn hbl4 c2
            have e5 := nx_cell xn hbl4 c5
            have e6 := nx_cell xn hbl4 c6
            have hbl5 := Nat.lt_of_lt_of_le hbl4 xn.sz
            have HXN := hide xn
            refine ‹∀ (a : Act) (w_1 : World), Code.wp _ _ _ a w_1 → _› _ _ ?_
            obtain ⟨n', hn'⟩ : ∃ n', n' = if nd = eB then zn else nd := ⟨_, rfl⟩
            obtain ⟨a', ha'⟩ : ∃ a', a' = if nd = eB then za else at_ := ⟨_, rfl⟩
            have HN' := hide hn'
            have HA' := hide ha'
            clear hn' ha' xn c2 c5 c6
            go_upto_region 28 with fail
            obtain ⟨w6, hw6⟩ : ∃ w6, w6 = w5.setCell ⟨q, 0, none⟩ (.string ca) := ⟨_, rfl⟩
            rw [← hw6]
            have hbq : bx ≠ q := by omega
            have hfz6 : ∀ i, w6.frozen? ⟨q, i, none⟩ = false := by rw [hw6]; exact frz_set xf
            have hxl6 : q < w6.heap.size := by rw [hw6]; simpa [World.setCell] using xl
            have hn6 : Nx w4 w6 := by rw [hw6]; exact HXN.out.setCell hqg _
            have y0 : w6.cell? ⟨q, 0, none⟩ = some (.string ca) := by rw [hw6]; exact World.cell?_setCell_same' _ _ _ (by rw [x0]; rfl)
            have y1 : w6.cell? ⟨q, 1, none⟩ = some (.string zn) := by rw [hw6]; go_simp <;> exact x1
            have y2 : w6.cell? ⟨q, 2, none⟩ = some (.int .i64 za) := by rw [hw6]; go_simp <;> exact x2
            have y3 : w6.cell? ⟨q, 3, none⟩ = some (.bool false) := by rw [hw6]; go_simp <;> exact x3
            have y4 : w6.cell? ⟨q, 4, none⟩ = some (.slice none 0 0) := by rw [hw6]; go_simp <;> exact x4
            have f2 : w6.cell? ⟨bx, 2, none⟩ = some (.int .i64 at_) := by rw [hw6]; exact (cell_set hbq).trans e2
            have f5 : w6.cell? ⟨bx, 5, none⟩ = some (.string ca) := by rw [hw6]; exact (cell_set hbq).trans e5
            have f6 : w6.cell? ⟨bx, 6, none⟩ = some (.string nd) := by rw [hw6]; exact (cell_set hbq).trans e6
            have hbl6 : bx < w6.heap.size := by rw [hw6]; simpa [World.setCell] using hbl5
            have HN6 := hide hn6
            clear hw6 x0 x1 x2 x3 x4 xl xf e2 e5 e6 hbl5 hn6
            obtain ⟨nb, hnb⟩ : ∃ nb, nd.toList.isEmpty = nb := ⟨_, rfl⟩
            have HNB := hide hnb
            go_upto_if 111 with fail
            clear hnb
            go_cut [] (fun wx => WhAt q ⟨ca, n', a'⟩ w4 wx)
            case first =>
              cases nb with
              | true =>
                have hne : nd = eB := of_decide_eq_true (by rw [← emp_iff]; exact HNB.out)
                have HQN := hide hne
                clear hne
                go_wp2_with fail
                all_goals go_meet
                all_goals
                  rw [HN'.out, HA'.out, if_pos HQN.out, if_pos HQN.out]
                  exact ⟨y0, y1, y2, y3, y4, hxl6, hfz6, HN6.out⟩
              | false =>
                have hne : nd ≠ eB := of_decide_eq_false (by rw [← emp_iff]; exact HNB.out)
                have HQN := hide hne
                clear hne
                go_upto_region 29 with fail
                go_region
                all_goals (go_wp2; go_meet)
                all_goals
                  rw [HN'.out, HA'.out, if_neg HQN.out, if_neg HQN.out]
                  simp only [WhAt]
                  exact ⟨by first | (go_simp; done) | (with_reducible assumption), by first | (go_simp; done) | (with_reducible assumption), by first | (go_simp; done) | (with_reducible assumption), by first | (go_simp; done) | (with_reducible assumption), by first | (go_simp; done) | (with_reducible assumption), by first | with_reducible exact hxl6 | (simp; exact hxl6), by repeat (first | with_reducible exact hfz6 | with_reducible apply frz_set | with_reducible apply frz_drew), by repeat (first | with_reducible exact HN6.out | with_reducible refine Nx.drew ?_ | with_reducible refine Nx.setg ?_ hqg _)⟩
            case rest =>
              obtain ⟨w7, hw7⟩ : ∃ w7, w7 = wc := ⟨_, rfl⟩
              rw [← hw7] at hcut ⊢
              clear hw7 y0 y1 y2 y3 y4 f2 f5 f6 hfz6 hxl6
              obtain ⟨y0, y1, y2, y3, y4, hyl, _, hn7⟩ := hcut
              simp only at y0 y1 y2
              have hbx7 := (hn7.block _ hbl4).trans HBX4.out
              have g5 : w7.cell? ⟨bx, 5, none⟩ = some (.string ca) := cell_of_row w7 _ 5 _ _ _ hbx7
              have hbl7 := (Array.getElem?_eq_some_iff.1 hbx7).1
              have hday7 := HDAY4.out.nx hn7
              obtain ⟨z0, z1, z2⟩ := dayR_cells hday7.blk
              have hdl7 := (Array.getElem?_eq_some_iff.1 hday7.blk).1
              obtain ⟨w8, hrun, hM8, hg8⟩ := (hday7.cars.nx (Nx.refl w7).drew).upd elemWh law_strE strV_inj Tryz.underlying155 (by unfold maxLen; omega) hkc hkeyc ⟨ca, n', a'⟩ trivial
              simp only [whV] at hrun
              have hgb : Gr cb w7 w8 := (Gr.of_nx (Nx.refl w7).drew).trans hg8
              have hdc := mg_ne hday7.cars hday7.blk
              refine ‹∀ (a : Act) (w_1 : World), Code.wp _ _ _ a w_1 → _› _ _ ?_
              have HOUT := hide (show DayRW w8 d rb cb bb (N + 3) (doR D ⟨so, no, at_, ki, ri, ca, nd, up, dn, fo, nu⟩) by
                rw [HDO.out, if_neg HQ.out]
                have hz : D8.cars = D4.cars := by rw [HD4.out]
                have hp : (if nd = eB then (D8.cars ca).getD (eB, 0) else (nd, at_)) = (n', a') := by
                  rw [HN'.out, HA'.out, hz, HZN.out, HZA.out]
                  by_cases h : nd = eB
                  · rw [if_pos h, if_pos h, if_pos h]
                  · rw [if_neg h, if_neg h, if_neg h]
                rw [hp, hz]
                have hc := carsF_put D4 ca (n', a')
                have hb := (hday7.brk.gr hgb hday7.n3.symm).mono (Nat.le_succ _)
                have hr := (hday7.rides.gr hgb hday7.n1).mono (Nat.le_succ _)
                rw [HD4.out] at hb hr
                exact ⟨gr_at hgb hday7.blk hdc.symm, hr, by rw [HD4.out] at hc hM8 ⊢; exact (hc ▸ hM8 : _), hb, hday7.n1, hday7.n2, hday7.n3⟩)
              have HFO := hide ((HFR4.out.trans (FrR.nx hn7)).trans (FrR.gr hgb (.inr (.inl rfl))))
              clear hbx7 hday7 hM8 hg8 hgb hdc hn7
              go_upto_region 30 with fail
              go_region
              all_goals (go_wp2_with fail)
              all_goals go_end0
              exact ⟨rfl, HOUT.out, HFO.out⟩
end Go.Proofs.YtfkmbeppckelfaaGreatDoor
