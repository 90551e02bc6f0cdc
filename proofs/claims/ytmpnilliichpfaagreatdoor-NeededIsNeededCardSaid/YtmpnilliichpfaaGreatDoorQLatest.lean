/- When one leaves at the latest: the program. -/
import Derived.Test.YtmpnilliichpfaaGreatDoorQG46
import Derived.Test.YtmpnilliichpfaaGreatDoorQG21
import Derived.Deep.DeepCutAuto
namespace Go.Proofs.YtmpnilliichpfaaGreatDoor
open Go.RowKit

theorem arr_test (x y by_ : Int) (hy : y = if x < 0 then endT else x) (hb : by_ < endT) : (decide (0 ≤ x) && decide (x ≤ by_)) = decide (y ≤ by_) := by
  subst hy
  by_cases h : x < 0
  · rw [if_pos h, decide_eq_false (show ¬ 0 ≤ x by omega), decide_eq_false (show ¬ endT ≤ by_ by omega)]; rfl
  · rw [if_neg h, decide_eq_true (show 0 ≤ x by omega)]; rfl
set_option maxRecDepth 100000 in
set_option maxHeartbeats 4000000 in
theorem w_inTime (w : World) (p q r s bm i j : Nat) (ad by_ : Int) (g0 lo : Nat) (A B C : Option Addr) (ca cb cc : Nat) (M : MapA) (ns : List Node) (rs : List Arc) (bs : List Ban)
    (hp : w.cell? ⟨p, 0, none⟩ = some (.pointer (some ⟨bm, 0, none⟩))) (hq : w.cell? ⟨q, 0, none⟩ = some (.int .i64 (i : Int))) (hr : w.cell? ⟨r, 0, none⟩ = some (.int .i64 (j : Int))) (hs : w.cell? ⟨s, 0, none⟩ = some (.int .i64 by_))
    (hM : MapR w bm g0 lo A B C ca cb cc M ns rs bs) (hC : chk (arcF ns) none rs = 0) (hi : i < ns.length) (hj : j < ns.length) (ha : 0 ≤ ad ∧ ad ≤ 345686399999) (hb : by_ ≤ 345686399999) :
    Calls Tryz.prog 133 #[.int .i64 ad, .pointer (some ⟨p, 0, none⟩), .pointer (some ⟨q, 0, none⟩), .pointer (some ⟨r, 0, none⟩), .pointer (some ⟨s, 0, none⟩)] w fun e w' => e = .returned (.bool (decide (arrG (gphOf ns rs bs) i j ad ≤ by_))) ∧ Nx w w' := by
  have lp := World.block_lt_of_cell? w _ hp
  have lq := World.block_lt_of_cell? w _ hq
  have lr := World.block_lt_of_cell? w _ hr
  have ls := World.block_lt_of_cell? w _ hs
  have HW := hide (fun W (hx : Nx w W) => (⟨nx_cell hx lp hp, nx_cell hx lq hq, nx_cell hx lr hr, nx_cell hx ls hs⟩ : W.cell? ⟨p, 0, none⟩ = some (.pointer (some ⟨bm, 0, none⟩)) ∧ W.cell? ⟨q, 0, none⟩ = some (.int .i64 (i : Int)) ∧ W.cell? ⟨r, 0, none⟩ = some (.int .i64 (j : Int)) ∧ W.cell? ⟨s, 0, none⟩ = some (.int .i64 by_)))
  have HSE := hide (fun W (hx : Nx w W) => w_Search W bm i ad g0 lo A B C ca cb cc M ns rs bs (hM.nx hx) hC hi ha)
  have HT := hide (arr_test _ (arrG (gphOf ns rs bs) i j ad) by_ (show arrG (gphOf ns rs bs) i j ad = if gi (searchG (gphOf ns rs bs) i ad).first j < 0 then endT else gi (searchG (gphOf ns rs bs) i ad).first j from rfl) (by unfold endT; omega))
  generalize searchG (gphOf ns rs bs) i ad = R at *
  generalize decide (arrG (gphOf ns rs bs) i j ad ≤ by_) = V at *
  generalize hnn : ns.length = nn at *
  generalize rs.length = m at *
  clear hM hC hi hnn
  have i1 : (0 : Int) ≤ (j : Int) := by omega
  have i2 : (j : Int) < (nn : Int) := by omega
  clear hp hq hr hs
  go_enter Tryz.func133, Tryz.ntmps133
  go_upto_region 1 with fail
  go_cut [7] (fun v wx => v = .int .i64 (gi R.first j) ∧ Nx w wx)
  case first =>
    refine wp_region_held_drew (S := fun w' => w'.cell? ⟨p, 0, none⟩ = some (.pointer (some ⟨bm, 0, none⟩)) ∧ w'.cell? ⟨q, 0, none⟩ = some (.int .i64 (i : Int)) ∧ w'.cell? ⟨r, 0, none⟩ = some (.int .i64 (j : Int)) ∧ w'.cell? ⟨s, 0, none⟩ = some (.int .i64 by_)) (by kernel_rfl) ?_ (fun hHeld => ?_)
    · exact HW.out _ (Nx.refl _).drew
    refine wpAnyH_take (i := 0) (oi := ⟨some 8, _, _, _, _, _⟩) (v := ?_) rfl (by kernel_rfl) (by kernel_rfl) (by kernel_rfl) (fun _ _ _ h => h) (Or.inl ⟨by rfl, ?_⟩) (by assumption) ?_
    rotate_left 1
    · intro w hSw
      (try dsimp only at hSw)
      go_simp
      try with_reducible rfl
    try simp only [Act.put, List.setIfInBounds_toArray, List.set_cons_zero, List.set_cons_succ]
    refine wpAnyH_take (i := 1) (oi := ⟨some 9, _, _, _, _, _⟩) (v := ?_) rfl (by kernel_rfl) (by kernel_rfl) (by kernel_rfl) (fun _ _ _ h => h) (Or.inl ⟨by rfl, ?_⟩) (by assumption) ?_
    rotate_left 1
    · intro w hSw
      (try dsimp only at hSw)
      go_simp
      try with_reducible rfl
    try simp only [Act.put, List.setIfInBounds_toArray, List.set_cons_zero, List.set_cons_succ]
    refine wpAnyH_take (i := 2) (oi := ⟨some 10, _, _, _, _, _⟩) (v := ?_) rfl (by kernel_rfl) (by kernel_rfl) (by kernel_rfl) (fun _ _ _ h => h) (Or.inl ⟨by rfl, ?_⟩) (by assumption) ?_
    rotate_left 1
    · intro w hSw
      (try dsimp only at hSw)
      go_simp
      try with_reducible rfl
    try simp only [Act.put, List.setIfInBounds_toArray, List.set_cons_zero, List.set_cons_succ]
    refine wpAnyH_take (i := 7) (oi := ⟨some 15, _, _, _, _, _⟩) (v := ?_) rfl (by kernel_rfl) (by kernel_rfl) (by kernel_rfl) (fun _ _ _ h => h) (Or.inl ⟨by rfl, ?_⟩) (by assumption) ?_
    rotate_left 1
    · intro w hSw
      (try dsimp only at hSw)
      go_simp
      try with_reducible rfl
    try simp only [Act.put, List.setIfInBounds_toArray, List.set_cons_zero, List.set_cons_succ]
    refine wpAnyH_ready (rs := [3]) (by kernel_rfl) (by simp) ?_
    refine AllReadyH.cons rfl (fun K hK => ?_) AllReadyH.nil
    go_simp
    go_at_call 122
    refine (HSE.out _ (Nx.refl w).drew).mono ?_
    rintro e w2 ⟨a, rfl, hSM⟩
    go_simp
    have hTR := hSM.tree
    have hn2 : Nx w w2 := (Nx.refl w).drew.trans hSM.nx
    have t3 : w2.cell? ⟨a.T, 3, none⟩ = some (.slice (some ⟨a.gF, 0, none⟩) nn nn) := (cell_of_row w2 _ 3 _ _ _ hTR.hT).trans rfl
    have x0 := intRow_cell hTR.hF (i := j) (by rw [hTR.lF]; exact hj)
    have hTl := lt_of_heap hTR.hT
    have hFl := lt_of_heap hTR.hF
    clear hSM hTR
    refine hK.out _ _ (HW.out _ hn2) (fun _ => ?_)
    clear hK K hHeld
    refine wpAnyH_more (S' := fun w' => (w'.cell? ⟨a.T, 3, none⟩ = some (.slice (some ⟨a.gF, 0, none⟩) nn nn) ∧ w'.cell? ⟨a.gF, j, none⟩ = some (.int .i64 (gi R.first j))) ∧ w'.cell? ⟨p, 0, none⟩ = some (.pointer (some ⟨bm, 0, none⟩)) ∧ w'.cell? ⟨q, 0, none⟩ = some (.int .i64 (i : Int)) ∧ w'.cell? ⟨r, 0, none⟩ = some (.int .i64 (j : Int)) ∧ w'.cell? ⟨s, 0, none⟩ = some (.int .i64 by_)) (fun _ h => h.2) _ _ _ _ ?_
    have hHeld := (⟨⟨t3, x0⟩, HW.out _ hn2⟩ : (w2.cell? ⟨a.T, 3, none⟩ = some (.slice (some ⟨a.gF, 0, none⟩) nn nn) ∧ w2.cell? ⟨a.gF, j, none⟩ = some (.int .i64 (gi R.first j))) ∧ _)
    generalize gi R.first j = z at *
    refine wpAnyH_take (i := 4) (oi := ⟨some 12, _, _, _, _, _⟩) (v := ?_) rfl (by kernel_rfl) (by kernel_rfl) (by kernel_rfl) (fun _ _ _ h => h) (Or.inl ⟨by rfl, ?_⟩) (by assumption) ?_
    rotate_left 1
    · intro w hSw
      (try dsimp only at hSw)
      go_simp
      try with_reducible rfl
    try simp only [Act.put, List.setIfInBounds_toArray, List.set_cons_zero, List.set_cons_succ]
    refine wpAnyH_take (i := 5) (oi := ⟨some 13, _, _, _, _, _⟩) (v := ?_) rfl (by kernel_rfl) (by kernel_rfl) (by kernel_rfl) (fun _ _ _ h => h) (Or.inl ⟨by rfl, ?_⟩) (by assumption) ?_
    rotate_left 1
    · intro w hSw
      (try dsimp only at hSw)
      go_simp
      try with_reducible rfl
    try simp only [Act.put, List.setIfInBounds_toArray, List.set_cons_zero, List.set_cons_succ]
    refine wpAnyH_take (i := 6) (oi := ⟨some 14, _, _, _, _, _⟩) (v := ?_) rfl (by kernel_rfl) (by kernel_rfl) (by kernel_rfl) (fun _ _ _ h => h) (Or.inl ⟨by rfl, ?_⟩) (by assumption) ?_
    rotate_left 1
    · intro w hSw
      (try dsimp only at hSw)
      go_simp
      try with_reducible rfl
    try simp only [Act.put, List.setIfInBounds_toArray, List.set_cons_zero, List.set_cons_succ]
    refine wpAnyH_take (i := 8) (oi := ⟨some 16, _, _, _, _, _⟩) (v := ?_) rfl (by kernel_rfl) (by kernel_rfl) (by kernel_rfl) (fun _ _ _ h => h) (Or.inl ⟨by rfl, ?_⟩) (by assumption) ?_
    rotate_left 1
    · intro w hSw
      (try dsimp only at hSw)
      go_simp
      try with_reducible rfl
    try simp only [Act.put, List.setIfInBounds_toArray, List.set_cons_zero, List.set_cons_succ]
    refine wpAnyH_take (i := 9) (oi := ⟨some 17, _, _, _, _, _⟩) (v := ?_) rfl (by kernel_rfl) (by kernel_rfl) (by kernel_rfl) (fun _ _ _ h => h) (Or.inl ⟨by rfl, ?_⟩) (by assumption) ?_
    rotate_left 1
    · intro w hSw
      (try dsimp only at hSw)
      go_simp
      try with_reducible rfl
    try simp only [Act.put, List.setIfInBounds_toArray, List.set_cons_zero, List.set_cons_succ]
    refine wpAnyH_take (i := 10) (oi := ⟨some 7, _, _, _, _, _⟩) (v := ?_) rfl (by kernel_rfl) (by kernel_rfl) (by kernel_rfl) (fun _ _ _ h => h) (Or.inl ⟨by rfl, ?_⟩) (by assumption) ?_
    rotate_left 1
    · intro w hSw
      (try dsimp only at hSw)
      go_simp
      try with_reducible rfl
    try simp only [Act.put, List.setIfInBounds_toArray, List.set_cons_zero, List.set_cons_succ]
    refine wpAnyH_done (by kernel_rfl) ?_ _
    go_wp2
    go_meet
    exact ⟨rfl, hn2⟩
  case rest =>
    obtain ⟨rfl, hx⟩ := hcut
    obtain ⟨_, _, _, c3⟩ := HW.out _ hx
    generalize gi R.first j = z at *
    have HTT := HT.out
    by_cases h1 : 0 ≤ z
    · have e1 : decide (0 ≤ z) = true := decide_eq_true h1
      by_cases h2 : z ≤ by_
      · have e2 : decide (z ≤ by_) = true := decide_eq_true h2
        rw [e1, e2] at HTT
        subst HTT
        clear h1 h2
        go_wp2_with fail
        go_ret
        exact ⟨rfl, hx⟩
      · have e2 : decide (z ≤ by_) = false := decide_eq_false h2
        rw [e1, e2] at HTT
        subst HTT
        clear h1 h2
        go_wp2_with fail
        go_ret
        exact ⟨rfl, hx⟩
    · have e1 : decide (0 ≤ z) = false := decide_eq_false h1
      rw [e1] at HTT
      subst HTT
      clear h1
      go_wp2_with fail
      go_ret
      exact ⟨rfl, hx⟩
set_option maxRecDepth 100000 in
set_option maxHeartbeats 4000000 in
theorem w_LatestBad (lo : Nat) (A B C : Option Addr) (ca cb cc : Nat) (ns : List Node) (rs : List Arc) (bs : List Ban) (f t : ByteArray) (by_ : Int) (w : World)
    (hN : Rd w lo A 3 encNode ns) (hA : RdArcs w lo B rs) (hB : Rd w lo C 2 encBan bs) (hnl : ns.length ≤ 400) (hal : rs.length ≤ 400) (hbl : bs.length ≤ 400)
    (hS : SmallN ns) (hE : endsF ns rs bs f t by_ ≠ 0) :
    Calls Tryz.prog 60 #[.agg #[.slice A ns.length ca, .slice B rs.length cb, .slice C bs.length cc], .string f, .string t, .int .i64 by_] w fun e w' => e = .returned (.tuple #[.agg #[.slice none 0 0, .int .i64 0, .int .i64 0], .bool false, .int .i64 (endsF ns rs bs f t by_)]) ∧ Nx w w' := by
  obtain ⟨wa, hwa⟩ : ∃ wa, wa = w.alloc (.cells #[.slice A ns.length ca, .slice B rs.length cb, .slice C bs.length cc] 30) := ⟨_, rfl⟩
  obtain ⟨wb, hwb⟩ : ∃ wb, wb = wa.alloc (.cells #[.int .i64 by_] 3) := ⟨_, rfl⟩
  have hna : Nx w wa := hwa ▸ (Nx.refl w).alloc _
  have hnb : Nx wa wb := hwb ▸ (Nx.refl wa).alloc _
  have hab := hna.trans hnb
  have hgw : w.heap.size < wa.heap.size := by rw [hwa]; simp
  have hgb : wa.heap.size < wb.heap.size := by rw [hwb]; simp
  have b0 : wa.cell? ⟨w.heap.size, 0, none⟩ = some (.slice A ns.length ca) := by rw [hwa]; go_simp
  have b1 : wa.cell? ⟨w.heap.size, 1, none⟩ = some (.slice B rs.length cb) := by rw [hwa]; go_simp
  have b2 : wa.cell? ⟨w.heap.size, 2, none⟩ = some (.slice C bs.length cc) := by rw [hwa]; go_simp
  have s0 : wb.cell? ⟨wa.heap.size, 0, none⟩ = some (.int .i64 by_) := by rw [hwb]; go_simp
  have hBox : BoxR wb w.heap.size lo A B C ca cb cc ns rs bs := ⟨nx_cell hnb hgw b0, nx_cell hnb hgw b1, nx_cell hnb hgw b2, by omega, hN.nx hab, hA.nx hab, hB.nx hab, hnl, hal, hbl⟩
  have HEN := hide (fun W (hx : Nx wb W) => w_EndsBad w.heap.size lo A B C ca cb cc ns rs bs f t by_ W (hBox.nx hx) hS hE)
  have HS0 := hide (fun W (hx : Nx wb W) => nx_cell hx hgb s0)
  clear hBox b0 b1 b2 s0 hN hA hB
  generalize endsF ns rs bs f t by_ = E at *
  have tE : (E == 0) = false := by simpa using hE
  have tE2 : (E != 0) = true := by simpa using hE
  clear hE
  have E1 := hide (show w.heap.size + 1 = wa.heap.size by rw [hwa]; simp)
  have E2 := hide (show wa.heap.size + 1 = wb.heap.size by rw [hwb]; simp)
  have HWA := hide hwa
  have HWB := hide hwb
  clear hwa hwb
  have hsz : w.heap.size ≤ wb.heap.size := hab.sz
  go_enter Tryz.func60, Tryz.ntmps60
  go_upto_region 1 with fail
  rw [E1.out, E2.out]
  rw [← HWA.out]
  rw [← HWB.out]
  generalize hgs : wa.heap.size = gs at *
  generalize hgx : wb.heap.size = gx at *
  obtain ⟨wy, hwy⟩ : ∃ wy, wy = wb.alloc (.cells #[.slice none 0 0, .int .i64 0, .int .i64 0] 90) := ⟨_, rfl⟩
  have hnc : Nx wb wy := hwy ▸ (Nx.refl wb).alloc _
  have hBc : wy.heap[gx]? = some (.cells #[.slice none 0 0, .int .i64 0, .int .i64 0] 90 (0, 0)) := by rw [hwy]; exact hnew hgx.symm
  rw [← hwy]
  have HWY := hide hwy
  have HBC := hide hBc
  clear hwy hBc
  have c7 := HS0.out wy hnc
  go_cut [14] (fun v wx => v = .int .i64 E ∧ Nx wy wx)
  case first =>
    go_wp2_with fail
    refine (HEN.out wy hnc).mono ?_
    rintro e w1 ⟨rfl, hn1⟩
    have HN1 := hide hn1
    clear c7 hn1
    go_wp2_with fail
    go_meet
    refine ⟨rfl, HN1.out.trans ?_⟩
    repeat (first | exact Nx.refl _ | refine Nx.alloc ?_ _ | refine Nx.setCell ?_ (by simp; try omega) _)
  case rest =>
    obtain ⟨rfl, hx⟩ := hcut
    have hNx := hab.trans (hnc.trans hx)
    have b8 := (hx.block gx (lt_of_heap HBC.out)).trans HBC.out
    have q0 : wc.cell? ⟨gx, 0, none⟩ = some (.slice none 0 0) := (cell_of_row wc _ 0 _ _ _ b8).trans rfl
    have q1 : wc.cell? ⟨gx, 1, none⟩ = some (.int .i64 0) := (cell_of_row wc _ 1 _ _ _ b8).trans rfl
    have q2 : wc.cell? ⟨gx, 2, none⟩ = some (.int .i64 0) := (cell_of_row wc _ 2 _ _ _ b8).trans rfl
    have f0 := frozen_blkQ (j := 0) b8
    have f1 := frozen_blkQ (j := 1) b8
    have f2 := frozen_blkQ (j := 2) b8
    have hx8 := lt_of_heap b8
    have HNN := hide hNx
    clear hx hNx b8 c7
    go_wp2_with fail
    have s1 := Gr.setS (Gr.of_nx (s := gx) HNN.out) (p := ⟨gx, 0, none⟩) (Or.inl rfl) (.slice none 0 0)
    have s2 := Gr.setS s1 (p := ⟨gx, 1, none⟩) (Or.inl rfl) (.int .i64 0)
    have s3 := Gr.setS s2 (p := ⟨gx, 2, none⟩) (Or.inl rfl) (.int .i64 0)
    have hW := Nx.of_gr s3 hsz
    exact bodyPost_ret (v := .tuple #[.agg #[.slice none 0 0, .int .i64 0, .int .i64 0], .bool false, .int .i64 E]) (by simp [results, Tryz.results60, go_sem, q0, q1, q2]) rfl ⟨rfl, hW⟩
def WayRes (w : World) (x : WayA) (e : Ending) (w' : World) : Prop := ∃ (Z : Option Addr) (c : Nat), e = .returned (.tuple #[.agg #[.slice Z x.keys.length c, .int .i64 x.lv, .int .i64 x.ar], .bool x.is, .int .i64 x.fault]) ∧ Rd w' w.heap.size Z 1 encS x.keys ∧ Nx w w'
set_option maxRecDepth 100000 in
set_option maxHeartbeats 8000000 in
theorem w_LatestGood (lo : Nat) (A B C : Option Addr) (ca cb cc : Nat) (ns : List Node) (rs : List Arc) (bs : List Ban) (f t : ByteArray) (by_ : Int) (w : World)
    (hN : Rd w lo A 3 encNode ns) (hA : RdArcs w lo B rs) (hB : Rd w lo C 2 encBan bs) (hnl : ns.length ≤ 400) (hal : rs.length ≤ 400) (hbl : bs.length ≤ 400)
    (hS : SmallN ns) (hE : endsF ns rs bs f t by_ = 0) (hOK : NewOk ns rs bs) :
    Calls Tryz.prog 60 #[.agg #[.slice A ns.length ca, .slice B rs.length cb, .slice C bs.length cc], .string f, .string t, .int .i64 by_] w fun e w' => ∃ x, LateIs ns rs bs f t by_ x ∧ WayRes w x e w' := by
  obtain ⟨o1, o2, o3, o4⟩ := endsF_ok hE
  have hb := momB_true.1 o4
  have hil : nodeN ns f < ns.length := nodeN_lt o2
  have hjl : nodeN ns t < ns.length := nodeN_lt o3
  have hi : nodeI ns f = ((nodeN ns f : Nat) : Int) := by unfold nodeN; omega
  have hj : nodeI ns t = ((nodeN ns t : Nat) : Int) := by unfold nodeN; omega
  have hC := (roads_ok o1).2.1
  obtain ⟨wa, hwa⟩ : ∃ wa, wa = w.alloc (.cells #[.slice A ns.length ca, .slice B rs.length cb, .slice C bs.length cc] 30) := ⟨_, rfl⟩
  obtain ⟨wb, hwb⟩ : ∃ wb, wb = wa.alloc (.cells #[.int .i64 by_] 3) := ⟨_, rfl⟩
  have hna : Nx w wa := hwa ▸ (Nx.refl w).alloc _
  have hnb : Nx wa wb := hwb ▸ (Nx.refl wa).alloc _
  have hab := hna.trans hnb
  have hgw : w.heap.size < wa.heap.size := by rw [hwa]; simp
  have hgb : wa.heap.size < wb.heap.size := by rw [hwb]; simp
  have b0 : wa.cell? ⟨w.heap.size, 0, none⟩ = some (.slice A ns.length ca) := by rw [hwa]; go_simp
  have b1 : wa.cell? ⟨w.heap.size, 1, none⟩ = some (.slice B rs.length cb) := by rw [hwa]; go_simp
  have b2 : wa.cell? ⟨w.heap.size, 2, none⟩ = some (.slice C bs.length cc) := by rw [hwa]; go_simp
  have s0 : wb.cell? ⟨wa.heap.size, 0, none⟩ = some (.int .i64 by_) := by rw [hwb]; go_simp
  have hBox : BoxR wb w.heap.size lo A B C ca cb cc ns rs bs := ⟨nx_cell hnb hgw b0, nx_cell hnb hgw b1, nx_cell hnb hgw b2, by omega, hN.nx hab, hA.nx hab, hB.nx hab, hnl, hal, hbl⟩
  have HEN := hide (fun W (hx : Nx wb W) => w_Ends w.heap.size lo A B C ca cb cc ns rs bs f t by_ (nodeN ns f) (nodeN ns t) W (hBox.nx hx) hS o1 hOK hi hj o4)
  have HS0 := hide (fun W (hx : Nx wb W) => nx_cell hx hgb s0)
  have HC := hide hC
  have HNO := hide (fun h => LateIs.none (ns := ns) (rs := rs) (bs := bs) (f := f) (t := t) (by_ := by_) hE h)
  have HYES := hide (fun L h0 hL l hc hl => LateIs.way (ns := ns) (rs := rs) (bs := bs) (f := f) (t := t) (by_ := by_) hE L h0 hL l hc hl)
  have HWAY := hide (fun L (h0 : 0 ≤ L) hz => way_of (ns := ns) (rs := rs) (bs := bs) (f := f) (t := t) (ad := L) hC hal o2 o3 h0 hz)
  have HARR := hide (fun L (h0 : 0 ≤ L) he => arr_le (ns := ns) (rs := rs) (bs := bs) (f := f) (t := t) (ad := L) hC o2 o3 h0 he)
  have HAL := hide hal
  clear hBox b0 b1 b2 s0 hN hA hB hE hOK o1 o2 o3 o4 hi hj hC
  generalize nodeN ns f = i at *
  generalize nodeN ns t = j at *
  have E1 := hide (show w.heap.size + 1 = wa.heap.size by rw [hwa]; simp)
  have E2 := hide (show wa.heap.size + 1 = wb.heap.size by rw [hwb]; simp)
  have HWA := hide hwa
  have HWB := hide hwb
  clear hwa hwb
  go_enter Tryz.func60, Tryz.ntmps60
  go_upto_region 1 with fail
  rw [E1.out, E2.out]
  rw [← HWA.out]
  rw [← HWB.out]
  obtain ⟨wy, hwy⟩ : ∃ wy, wy = wb.alloc (.cells #[.slice none 0 0, .int .i64 0, .int .i64 0] 90) := ⟨_, rfl⟩
  have hnc : Nx wb wy := hwy ▸ (Nx.refl wb).alloc _
  have hBc : wy.heap[wb.heap.size]? = some (.cells #[.slice none 0 0, .int .i64 0, .int .i64 0] 90 (0, 0)) := by rw [hwy]; exact hnew rfl
  rw [← hwy]
  have HWC := hide hwy
  have HBC := hide hBc
  clear hwy hBc
  generalize w.heap.size = g0 at *
  generalize hgs : wa.heap.size = gs at *
  generalize hgx : wb.heap.size = gx at *
  have c7 := HS0.out wy hnc
  go_cut [11, 12, 13, 14] (fun vp vq vr v14 wx => ∃ (bm p q r : Nat) (M : MapA), vp = .pointer (some ⟨p, 0, none⟩) ∧ vq = .pointer (some ⟨q, 0, none⟩) ∧ vr = .pointer (some ⟨r, 0, none⟩) ∧ v14 = .int .i64 0 ∧
      wx.cell? ⟨p, 0, none⟩ = some (.pointer (some ⟨bm, 0, none⟩)) ∧ wx.cell? ⟨q, 0, none⟩ = some (.int .i64 (i : Int)) ∧ wx.cell? ⟨r, 0, none⟩ = some (.int .i64 (j : Int)) ∧ MapR wx bm g0 lo A B C ca cb cc M ns rs bs ∧ Nx wy wx)
  case first =>
    go_wp2_with fail
    refine (HEN.out wy hnc).mono ?_
    rintro e w1 ⟨bm, M, rfl, hbm, hM, hn1⟩
    have HM := hide hM
    clear hM hbm c7
    go_wp2_with fail
    go_meet
    have x1 := (Nx.refl w1).alloc (.cells #[Value.pointer none] 126)
    refine ⟨bm, w1.heap.size, _, _, M, rfl, rfl, rfl, rfl, ?_, ?_, ?_, HM.out.nx ?_, hn1.trans ?_⟩
    · go_simp
    · go_simp
    · go_simp
    · repeat (first | exact Nx.refl _ | refine Nx.alloc ?_ _ | refine Nx.setCell ?_ (by simp; try omega) _)
    · repeat (first | exact Nx.refl _ | refine Nx.alloc ?_ _ | refine Nx.setCell ?_ (by simp; try omega) _)
  case rest =>
    obtain ⟨bm, p, q, r, M, rfl, rfl, rfl, rfl, hp, hq, hr, hM, hn1⟩ := hcut
    clear c7
    have hn1b := hnc.trans hn1
    have hs := HS0.out wc hn1b
    have lp := World.block_lt_of_cell? wc _ hp
    have lq := World.block_lt_of_cell? wc _ hq
    have lr := World.block_lt_of_cell? wc _ hr
    have ls := World.block_lt_of_cell? wc _ hs
    have HBX := hide ((hn1.block gx (lt_of_heap HBC.out)).trans HBC.out)
    have hsz : w.heap.size ≤ gx := by have := hab.sz; omega
    have HNW := hide (hab.trans hn1b)
    have HIT := hide (fun ad W (hx : Nx wc W) ha => w_inTime W p q r gs bm i j ad by_ g0 lo A B C ca cb cc M ns rs bs (nx_cell hx lp hp) (nx_cell hx lq hq) (nx_cell hx lr hr) (nx_cell hx ls hs) (hM.nx hx) HC.out hil hjl ha hb.2)
    have HELD0 := hide (fun W (hx : Nx wc W) => (⟨nx_cell hx lp hp, nx_cell hx lq hq, nx_cell hx lr hr⟩ : W.cell? ⟨p, 0, none⟩ = some (.pointer (some ⟨bm, 0, none⟩)) ∧ W.cell? ⟨q, 0, none⟩ = some (.int .i64 (i : Int)) ∧ W.cell? ⟨r, 0, none⟩ = some (.int .i64 (j : Int))))
    have HM0 := hide (fun W (hx : Nx wc W) => hM.nx hx)
    clear HBC hp hq hr hM lp lq lr hn1 hn1b hnc hna hnb hab hgw hgb HEN HS0 HWA HWB HWC hgs hgx
    by_cases h0 : arrG (gphOf ns rs bs) i j 0 ≤ by_
    · have hI := HIT.out 0 wc (Nx.refl _) (by omega)
      rw [decide_eq_true h0] at hI
      have HI := hide hI
      have H0 := hide h0
      clear hI h0
      go_wp2_with fail
      refine HI.out.mono ?_
      rintro e w3 ⟨rfl, hn3⟩
      have c7 := nx_cell hn3 ls hs
      have k1 : IntKind.i64.wrap (by_ + 1) = by_ + 1 := IntWalk.i64_in _ (by omega)
      clear HI
      go_wp2_with fail
      go_quiet (fail)
      have HN3Q := hide hn3
      clear hn3 c7 k1
      go_wp2
      go_loopw [16, 17] (fun vl vh wr => ∃ l h : Int, vl = .int .i64 l ∧ vh = .int .i64 h ∧ 0 ≤ l ∧ l < h ∧ h ≤ by_ + 1 ∧ arrG (gphOf ns rs bs) i j l ≤ by_ ∧ (h ≤ by_ → by_ < arrG (gphOf ns rs bs) i j h) ∧ Nx wc wr) (fun vl vh _ => (intOf vh - intOf vl).toNat)
      case atStart => exact ⟨0, by_ + 1, rfl, rfl, by omega, by omega, by omega, H0.out, fun h => absurd h (by omega), HN3Q.out.drewN _⟩
      case round =>
        obtain ⟨l, h, rfl, rfl, h1, h2, h3, hl, hh, hn⟩ := hrel
        have HL := hide hl
        have HH := hide hh
        clear hl hh HN3Q
        have k2 : IntKind.i64.wrap (h - l) = h - l := IntWalk.i64_in _ (by omega)
        by_cases hlt : 1 < h - l
        · have k3 : IntKind.i64.wrap (l + h) = l + h := IntWalk.i64_in _ (by omega)
          obtain ⟨mid, hmid⟩ : ∃ mid, mid = (l + h) / 2 := ⟨_, rfl⟩
          have hm1 : l < mid ∧ mid < h := by omega
          have q3 : (l + h).tdiv 2 = mid := by rw [Int.tdiv_eq_ediv_of_nonneg (by omega)]; exact hmid.symm
          have hI := HIT.out mid wr hn (by omega)
          have tl : decide (h - l > 1) = true := decide_eq_true hlt
          clear hmid
          by_cases hle : arrG (gphOf ns rs bs) i j mid ≤ by_
          · rw [decide_eq_true hle] at hI
            have HI := hide hI
            have HLE := hide hle
            clear hI hle hlt
            go_wp2_with fail
            refine HI.out.mono ?_
            rintro e w4 ⟨rfl, hn4⟩
            go_wp2_with fail
            go_roundw
            case rel => exact ⟨mid, h, rfl, rfl, by omega, by omega, h3, HLE.out, HH.out, hn.trans hn4⟩
            case measure => simp [intOf]; omega
          · rw [decide_eq_false hle] at hI
            have HI := hide hI
            have HLE := hide hle
            clear hI hle hlt
            go_wp2_with fail
            refine HI.out.mono ?_
            rintro e w4 ⟨rfl, hn4⟩
            go_wp2_with fail
            go_roundw
            case rel => exact ⟨l, mid, rfl, rfl, by omega, by omega, by omega, HL.out, fun _ => by first | exact HLE.out | exact Int.not_le.1 HLE.out, hn.trans hn4⟩
            case measure => simp [intOf]; omega
        · have tl : decide (h - l > 1) = false := decide_eq_false hlt
          obtain rfl : h = l + 1 := by omega
          have HLO := hide (show LeaveOk (gphOf ns rs bs) i j by_ l from ⟨by omega, by omega, fun _ => HL.out, fun hh => Int.not_le.2 (HH.out (by omega))⟩)
          have hz : 0 ≤ gi (searchG (gphOf ns rs bs) i l).first j ∧ arrG (gphOf ns rs bs) i j l = gi (searchG (gphOf ns rs bs) i l).first j := by
            rcases HARR.out l h1 (by unfold endT; omega) with ⟨_, e⟩ | ⟨e, e', _⟩
            · have := HL.out; rw [e] at this; unfold endT at this; omega
            · exact ⟨e, e'⟩
          obtain ⟨ch, hch, hcl, _⟩ := HWAY.out l h1 hz.1
          have HZ := hide hz.1
          have HCH := hide hch
          have HCL := hide (show ch.length ≤ 400 by have := HAL.out; omega)
          have HRES := hide (HYES.out l h1 HLO.out ch hch hcl)
          have HX3 := hide ((hn.block gx (lt_of_heap HBX.out)).trans HBX.out)
          have HN3 := hide (HNW.out.trans hn)
          obtain ⟨W, hW⟩ : ∃ W, W = wr := ⟨_, rfl⟩
          subst hW
          have HELD := hide (fun W2 (hx : Nx W W2) => HELD0.out W2 (hn.trans hx))
          have HM := hide (fun W2 (hx : Nx W W2) => HM0.out W2 (hn.trans hx))
          have HSE := hide (fun W2 (hx : Nx W W2) => w_Search W2 bm i l g0 lo A B C ca cb cc M ns rs bs (HM.out W2 hx) HC.out hil (by omega))
          clear hz hch hcl HLO HL HH hlt hn HIT HELD0 HM0 HYES HNO HWAY HARR HNW HBX
          generalize hnn : ns.length = nn at *
          go_upto_region 13 with fail
          go_cut [19, 20] (fun v19 v20 wx => ∃ (P : Nat) (Z : Option Addr) (c : Nat), v19 = .pointer (some ⟨P, 0, none⟩) ∧ v20 = .bool true ∧ wx.heap[P]? = some (.cells #[.slice Z (keysOf rs ch.reverse).length c, .int .i64 l, .int .i64 (gi (searchG (gphOf ns rs bs) i l).first j)] 90 (0, 0)) ∧ Rd wx W.heap.size Z 1 encS (keysOf rs ch.reverse) ∧ Nx W wx)
          case first =>
            obtain ⟨R, hR⟩ : ∃ R, R = searchG (gphOf ns rs bs) i l := ⟨_, rfl⟩
            rw [← hR] at HZ HCH HSE
            try rw [← hR]
            obtain ⟨z, hzz⟩ : ∃ z, z = gi R.first j := ⟨_, rfl⟩
            refine wp_region_held_drew (S := fun w' => w'.cell? ⟨p, 0, none⟩ = some (.pointer (some ⟨bm, 0, none⟩)) ∧ w'.cell? ⟨q, 0, none⟩ = some (.int .i64 (i : Int)) ∧ w'.cell? ⟨r, 0, none⟩ = some (.int .i64 (j : Int))) (by kernel_rfl) ?_ (fun hHeld => ?_)
            · exact HELD.out _ (Nx.refl _).drew
            refine wpAnyH_take (i := 0) (oi := ⟨some 55, _, _, _, _, _⟩) (v := ?_) rfl (by kernel_rfl) (by kernel_rfl) (by kernel_rfl) (fun _ _ _ h => h) (Or.inl ⟨by rfl, ?_⟩) (by assumption) ?_
            rotate_left 1
            · intro w hSw
              (try dsimp only at hSw)
              go_simp
              try with_reducible rfl
            try simp only [Act.put, List.setIfInBounds_toArray, List.set_cons_zero, List.set_cons_succ]
            refine wpAnyH_take (i := 1) (oi := ⟨some 56, _, _, _, _, _⟩) (v := ?_) rfl (by kernel_rfl) (by kernel_rfl) (by kernel_rfl) (fun _ _ _ h => h) (Or.inl ⟨by rfl, ?_⟩) (by assumption) ?_
            rotate_left 1
            · intro w hSw
              (try dsimp only at hSw)
              go_simp
              try with_reducible rfl
            try simp only [Act.put, List.setIfInBounds_toArray, List.set_cons_zero, List.set_cons_succ]
            refine wpAnyH_take (i := 2) (oi := ⟨some 57, _, _, _, _, _⟩) (v := ?_) rfl (by kernel_rfl) (by kernel_rfl) (by kernel_rfl) (fun _ _ _ h => h) (Or.inl ⟨by rfl, ?_⟩) (by assumption) ?_
            rotate_left 1
            · intro w hSw
              (try dsimp only at hSw)
              go_simp
              try with_reducible rfl
            try simp only [Act.put, List.setIfInBounds_toArray, List.set_cons_zero, List.set_cons_succ]
            refine wpAnyH_take (i := 4) (oi := ⟨some 59, _, _, _, _, _⟩) (v := ?_) rfl (by kernel_rfl) (by kernel_rfl) (by kernel_rfl) (fun _ _ _ h => h) (Or.inl ⟨by rfl, ?_⟩) (by assumption) ?_
            rotate_left 1
            · intro w hSw
              (try dsimp only at hSw)
              go_simp
              try with_reducible rfl
            try simp only [Act.put, List.setIfInBounds_toArray, List.set_cons_zero, List.set_cons_succ]
            refine wpAnyH_ready (rs := [3, 9]) (by kernel_rfl) (by simp) ?_
            refine AllReadyH.cons rfl (fun K hK => ?_) ?_
            · go_simp
              go_at_call 122
              refine (HSE.out _ (by repeat (first | assumption | exact Nx.refl _ | refine Nx.drew ?_ | refine Nx.alloc ?_ _ | refine Nx.setCell ?_ hPl _))).mono ?_
              rintro e w2 ⟨a, rfl, hSM⟩
              go_simp
              have h2 : Nx W w2 := Nx.trans (by repeat (first | assumption | exact Nx.refl _ | refine Nx.drew ?_ | refine Nx.alloc ?_ _ | refine Nx.setCell ?_ hPl _)) hSM.nx
              have HTR := hide hSM.tree
              clear hSM
              refine hK.out _ _ (HELD.out _ h2) (fun hHeld => ?_)
              clear hK K
              try simp only [Act.put, List.setIfInBounds_toArray, List.set_cons_zero, List.set_cons_succ]
              refine wpAnyH_ready (rs := [5, 9]) (by kernel_rfl) (by simp) ?_
              refine AllReadyH.cons rfl (fun K hK => ?_) ?_
              · go_simp
                go_at_call 123
                refine (w_WayYes _ a bm g0 lo i nn j l _ A B C ca cb cc M ns rs bs ch HTR.out (HM.out _ (by repeat (first | assumption | exact Nx.refl _ | refine Nx.drew ?_ | refine Nx.alloc ?_ _ | refine Nx.setCell ?_ hPl _))) hjl HZ.out HCH.out HCL.out).mono ?_
                rintro e w4 ⟨Z, c, rfl, rdZ, hn4⟩
                go_simp
                have h4 : Nx W w4 := Nx.trans (by repeat (first | assumption | exact Nx.refl _ | refine Nx.drew ?_ | refine Nx.alloc ?_ _ | refine Nx.setCell ?_ hPl _)) hn4
                refine hK.out _ _ (HELD.out _ h4) (fun hHeld => ?_)
                clear hK K
                try simp only [Act.put, List.setIfInBounds_toArray, List.set_cons_zero, List.set_cons_succ]
                refine wpAnyH_take (i := 6) (oi := ⟨some 54, _, _, _, _, _⟩) (v := ?_) rfl (by kernel_rfl) (by kernel_rfl) (by kernel_rfl) (fun _ _ _ h => h) (Or.inl ⟨by rfl, ?_⟩) (by assumption) ?_
                rotate_left 1
                · intro w hSw
                  (try dsimp only at hSw)
                  go_simp
                  try with_reducible rfl
                try simp only [Act.put, List.setIfInBounds_toArray, List.set_cons_zero, List.set_cons_succ]
                refine wpAnyH_take (i := 7) (oi := ⟨some 61, _, _, _, _, _⟩) (v := ?_) rfl (by kernel_rfl) (by kernel_rfl) (by kernel_rfl) (fun _ _ _ h => h) (Or.inl ⟨by rfl, ?_⟩) (by assumption) ?_
                rotate_left 1
                · intro w hSw
                  (try dsimp only at hSw)
                  go_simp
                  try with_reducible rfl
                try simp only [Act.put, List.setIfInBounds_toArray, List.set_cons_zero, List.set_cons_succ]
                refine wpAnyH_take (i := 8) (oi := ⟨some 62, _, _, _, _, _⟩) (v := ?_) rfl (by kernel_rfl) (by kernel_rfl) (by kernel_rfl) (fun _ _ _ h => h) (Or.inl ⟨by rfl, ?_⟩) (by assumption) ?_
                rotate_left 1
                · intro w hSw
                  (try dsimp only at hSw)
                  go_simp
                  try with_reducible rfl
                try simp only [Act.put, List.setIfInBounds_toArray, List.set_cons_zero, List.set_cons_succ]
                refine wpAnyH_ready (rs := [9]) (by kernel_rfl) (by simp) ?_
                refine AllReadyH.cons rfl (fun K hK => ?_) ?_
                · go_simp
                  refine hK.out _ _ (HELD.out _ (by repeat (first | assumption | exact Nx.refl _ | refine Nx.drew ?_ | refine Nx.alloc ?_ _ | refine Nx.setCell ?_ hPl _))) (fun hHeld => ?_)
                  clear hK K
                  try simp only [Act.put, List.setIfInBounds_toArray, List.set_cons_zero, List.set_cons_succ]
                  refine wpAnyH_ready (rs := [10]) (by kernel_rfl) (by simp) ?_
                  refine AllReadyH.cons rfl (fun K hK => ?_) ?_
                  · go_simp
                    refine hK.out _ _ (HELD.out _ (h4.alloc _)) (fun hHeld => ?_)
                    clear hK K
                    try simp only [Act.put, List.setIfInBounds_toArray, List.set_cons_zero, List.set_cons_succ]
                    refine wpAnyH_take (i := 11) (oi := ⟨some 20, _, _, _, _, _⟩) (v := ?_) rfl (by kernel_rfl) (by kernel_rfl) (by kernel_rfl) (fun _ _ _ h => h) (Or.inl ⟨by rfl, ?_⟩) (by assumption) ?_
                    rotate_left 1
                    · intro w hSw
                      (try dsimp only at hSw)
                      go_simp
                      try with_reducible rfl
                    try simp only [Act.put, List.setIfInBounds_toArray, List.set_cons_zero, List.set_cons_succ]
                    refine wpAnyH_done (by kernel_rfl) ?_ _
                    go_wp2
                    go_meet
                    exact ⟨_, Z, c, rfl, rfl, hnew rfl, (rdZ.nx ((Nx.refl w4).alloc _)).low h2.sz, h4.alloc _⟩
                  exact AllReadyH.nil
                exact AllReadyH.nil
              refine AllReadyH.cons rfl (fun K hK => ?_) ?_
              · go_simp
                obtain ⟨P, hP⟩ : ∃ P, P = w2.heap.size := ⟨_, rfl⟩
                have hPl : W.heap.size ≤ P := by rw [hP]; exact Nx.sz (by repeat (first | assumption | exact Nx.refl _ | refine Nx.drew ?_ | refine Nx.alloc ?_ _ | refine Nx.setCell ?_ hPl _))
                have HP8 := hide hP
                rw [← hP]
                clear hP
                refine hK.out _ _ (HELD.out _ (by repeat (first | assumption | exact Nx.refl _ | refine Nx.drew ?_ | refine Nx.alloc ?_ _ | refine Nx.setCell ?_ hPl _))) (fun hHeld => ?_)
                clear hK K
                try simp only [Act.put, List.setIfInBounds_toArray, List.set_cons_zero, List.set_cons_succ]
                refine wpAnyH_ready (rs := [5]) (by kernel_rfl) (by simp) ?_
                refine AllReadyH.cons rfl (fun K hK => ?_) ?_
                · go_simp
                  go_at_call 123
                  refine (w_WayYes _ a bm g0 lo i nn j l _ A B C ca cb cc M ns rs bs ch (HTR.out.nx (by repeat (first | assumption | exact Nx.refl _ | refine Nx.drew ?_ | refine Nx.alloc ?_ _ | refine Nx.setCell ?_ hPl _))) (HM.out _ (by repeat (first | assumption | exact Nx.refl _ | refine Nx.drew ?_ | refine Nx.alloc ?_ _ | refine Nx.setCell ?_ hPl _))) hjl HZ.out HCH.out HCL.out).mono ?_
                  rintro e w4 ⟨Z, c, rfl, rdZ, hn4⟩
                  go_simp
                  have h4 : Nx W w4 := Nx.trans (by repeat (first | assumption | exact Nx.refl _ | refine Nx.drew ?_ | refine Nx.alloc ?_ _ | refine Nx.setCell ?_ hPl _)) hn4
                  have b8 : w4.heap[P]? = some (.cells #[.slice none 0 0, .int .i64 0, .int .i64 0] 90 (0, 0)) := (hn4.block P (by have := HP8.out; simp; omega)).trans (hnew HP8.out)
                  have hP4 : P < (w2.alloc (.cells #[.slice none 0 0, .int .i64 0, .int .i64 0] 90)).heap.size := by have := HP8.out; simp; omega
                  refine hK.out _ _ (HELD.out _ h4) (fun hHeld => ?_)
                  clear hK K
                  try simp only [Act.put, List.setIfInBounds_toArray, List.set_cons_zero, List.set_cons_succ]
                  refine wpAnyH_take (i := 6) (oi := ⟨some 54, _, _, _, _, _⟩) (v := ?_) rfl (by kernel_rfl) (by kernel_rfl) (by kernel_rfl) (fun _ _ _ h => h) (Or.inl ⟨by rfl, ?_⟩) (by assumption) ?_
                  rotate_left 1
                  · intro w hSw
                    (try dsimp only at hSw)
                    go_simp
                    try with_reducible rfl
                  try simp only [Act.put, List.setIfInBounds_toArray, List.set_cons_zero, List.set_cons_succ]
                  refine wpAnyH_take (i := 7) (oi := ⟨some 61, _, _, _, _, _⟩) (v := ?_) rfl (by kernel_rfl) (by kernel_rfl) (by kernel_rfl) (fun _ _ _ h => h) (Or.inl ⟨by rfl, ?_⟩) (by assumption) ?_
                  rotate_left 1
                  · intro w hSw
                    (try dsimp only at hSw)
                    go_simp
                    try with_reducible rfl
                  try simp only [Act.put, List.setIfInBounds_toArray, List.set_cons_zero, List.set_cons_succ]
                  refine wpAnyH_take (i := 8) (oi := ⟨some 62, _, _, _, _, _⟩) (v := ?_) rfl (by kernel_rfl) (by kernel_rfl) (by kernel_rfl) (fun _ _ _ h => h) (Or.inl ⟨by rfl, ?_⟩) (by assumption) ?_
                  rotate_left 1
                  · intro w hSw
                    (try dsimp only at hSw)
                    go_simp
                    try with_reducible rfl
                  try simp only [Act.put, List.setIfInBounds_toArray, List.set_cons_zero, List.set_cons_succ]
                  refine wpAnyH_ready (rs := [10]) (by kernel_rfl) (by simp) ?_
                  refine AllReadyH.cons rfl (fun K hK => ?_) ?_
                  have q0 : w4.cell? ⟨P, 0, none⟩ = some (.slice none 0 0) := (cell_of_row _ _ 0 _ _ _ b8).trans rfl
                  have q1 : w4.cell? ⟨P, 1, none⟩ = some (.int .i64 0) := (cell_of_row _ _ 1 _ _ _ b8).trans rfl
                  have q2 : w4.cell? ⟨P, 2, none⟩ = some (.int .i64 0) := (cell_of_row _ _ 2 _ _ _ b8).trans rfl
                  have f0 := frozen_blkQ (j := 0) b8
                  have f1 := frozen_blkQ (j := 1) b8
                  have f2 := frozen_blkQ (j := 2) b8
                  have hPx := lt_of_heap b8
                  · go_simp
                    refine hK.out _ _ (HELD.out _ (by repeat (first | assumption | exact Nx.refl _ | refine Nx.drew ?_ | refine Nx.alloc ?_ _ | refine Nx.setCell ?_ hPl _))) (fun hHeld => ?_)
                    clear hK K
                    try simp only [Act.put, List.setIfInBounds_toArray, List.set_cons_zero, List.set_cons_succ]
                    refine wpAnyH_take (i := 11) (oi := ⟨some 20, _, _, _, _, _⟩) (v := ?_) rfl (by kernel_rfl) (by kernel_rfl) (by kernel_rfl) (fun _ _ _ h => h) (Or.inl ⟨by rfl, ?_⟩) (by assumption) ?_
                    rotate_left 1
                    · intro w hSw
                      (try dsimp only at hSw)
                      go_simp
                      try with_reducible rfl
                    try simp only [Act.put, List.setIfInBounds_toArray, List.set_cons_zero, List.set_cons_succ]
                    refine wpAnyH_done (by kernel_rfl) ?_ _
                    go_wp2
                    go_meet
                    have s1 := Gr.setS (Gr.refl P w4) (p := ⟨P, 0, none⟩) (Or.inl rfl) (.slice Z (keysOf rs ch.reverse).length c)
                    have s2 := Gr.setS s1 (p := ⟨P, 1, none⟩) (Or.inl rfl) (.int .i64 l)
                    have s3 := Gr.setS s2 (p := ⟨P, 2, none⟩) (Or.inl rfl) (.int .i64 (gi R.first j))
                    rw [hR] at s3
                    have hRR := Rd.gr rdZ s3 hP4
                    exact ⟨P, Z, c, rfl, rfl, heap_set (heap_set (heap_set b8)), hRR.low (Nx.sz (by repeat (first | assumption | exact Nx.refl _ | refine Nx.drew ?_ | refine Nx.alloc ?_ _ | refine Nx.setCell ?_ hPl _))), (by repeat (first | assumption | exact Nx.refl _ | refine Nx.drew ?_ | refine Nx.alloc ?_ _ | refine Nx.setCell ?_ hPl _))⟩
                  exact AllReadyH.nil
                exact AllReadyH.nil
              exact AllReadyH.nil
            refine AllReadyH.cons rfl (fun K hK => ?_) ?_
            · go_simp
              obtain ⟨P, hP⟩ : ∃ P, P = W.heap.size := ⟨_, rfl⟩
              have hPl : W.heap.size ≤ P := by rw [hP]; exact Nx.sz (by repeat (first | assumption | exact Nx.refl _ | refine Nx.drew ?_ | refine Nx.alloc ?_ _ | refine Nx.setCell ?_ hPl _))
              have HP8 := hide hP
              rw [← hP]
              clear hP
              refine hK.out _ _ (HELD.out _ (by repeat (first | assumption | exact Nx.refl _ | refine Nx.drew ?_ | refine Nx.alloc ?_ _ | refine Nx.setCell ?_ hPl _))) (fun hHeld => ?_)
              clear hK K
              try simp only [Act.put, List.setIfInBounds_toArray, List.set_cons_zero, List.set_cons_succ]
              refine wpAnyH_ready (rs := [3]) (by kernel_rfl) (by simp) ?_
              refine AllReadyH.cons rfl (fun K hK => ?_) ?_
              · go_simp
                go_at_call 122
                refine (HSE.out _ (by repeat (first | assumption | exact Nx.refl _ | refine Nx.drew ?_ | refine Nx.alloc ?_ _ | refine Nx.setCell ?_ hPl _))).mono ?_
                rintro e w2 ⟨a, rfl, hSM⟩
                go_simp
                have h2 : Nx W w2 := Nx.trans (by repeat (first | assumption | exact Nx.refl _ | refine Nx.drew ?_ | refine Nx.alloc ?_ _ | refine Nx.setCell ?_ hPl _)) hSM.nx
                have hP2 : P < w2.heap.size := by have h := hSM.nx.sz; have := HP8.out; simp at h; omega
                have b8 : w2.heap[P]? = some (.cells #[.slice none 0 0, .int .i64 0, .int .i64 0] 90 (0, 0)) := (hSM.nx.block P (by have := HP8.out; simp; omega)).trans (hnew HP8.out)
                have HTR := hide hSM.tree
                clear hSM
                refine hK.out _ _ (HELD.out _ h2) (fun hHeld => ?_)
                clear hK K
                try simp only [Act.put, List.setIfInBounds_toArray, List.set_cons_zero, List.set_cons_succ]
                refine wpAnyH_ready (rs := [5]) (by kernel_rfl) (by simp) ?_
                refine AllReadyH.cons rfl (fun K hK => ?_) ?_
                · go_simp
                  go_at_call 123
                  refine (w_WayYes _ a bm g0 lo i nn j l _ A B C ca cb cc M ns rs bs ch HTR.out (HM.out _ (by repeat (first | assumption | exact Nx.refl _ | refine Nx.drew ?_ | refine Nx.alloc ?_ _ | refine Nx.setCell ?_ hPl _))) hjl HZ.out HCH.out HCL.out).mono ?_
                  rintro e w4 ⟨Z, c, rfl, rdZ, hn4⟩
                  go_simp
                  have h4 : Nx W w4 := Nx.trans (by repeat (first | assumption | exact Nx.refl _ | refine Nx.drew ?_ | refine Nx.alloc ?_ _ | refine Nx.setCell ?_ hPl _)) hn4
                  have b8 := (hn4.block P (lt_of_heap b8)).trans b8
                  have hP4 := hP2
                  refine hK.out _ _ (HELD.out _ h4) (fun hHeld => ?_)
                  clear hK K
                  try simp only [Act.put, List.setIfInBounds_toArray, List.set_cons_zero, List.set_cons_succ]
                  refine wpAnyH_take (i := 6) (oi := ⟨some 54, _, _, _, _, _⟩) (v := ?_) rfl (by kernel_rfl) (by kernel_rfl) (by kernel_rfl) (fun _ _ _ h => h) (Or.inl ⟨by rfl, ?_⟩) (by assumption) ?_
                  rotate_left 1
                  · intro w hSw
                    (try dsimp only at hSw)
                    go_simp
                    try with_reducible rfl
                  try simp only [Act.put, List.setIfInBounds_toArray, List.set_cons_zero, List.set_cons_succ]
                  refine wpAnyH_take (i := 7) (oi := ⟨some 61, _, _, _, _, _⟩) (v := ?_) rfl (by kernel_rfl) (by kernel_rfl) (by kernel_rfl) (fun _ _ _ h => h) (Or.inl ⟨by rfl, ?_⟩) (by assumption) ?_
                  rotate_left 1
                  · intro w hSw
                    (try dsimp only at hSw)
                    go_simp
                    try with_reducible rfl
                  try simp only [Act.put, List.setIfInBounds_toArray, List.set_cons_zero, List.set_cons_succ]
                  refine wpAnyH_take (i := 8) (oi := ⟨some 62, _, _, _, _, _⟩) (v := ?_) rfl (by kernel_rfl) (by kernel_rfl) (by kernel_rfl) (fun _ _ _ h => h) (Or.inl ⟨by rfl, ?_⟩) (by assumption) ?_
                  rotate_left 1
                  · intro w hSw
                    (try dsimp only at hSw)
                    go_simp
                    try with_reducible rfl
                  try simp only [Act.put, List.setIfInBounds_toArray, List.set_cons_zero, List.set_cons_succ]
                  refine wpAnyH_ready (rs := [10]) (by kernel_rfl) (by simp) ?_
                  refine AllReadyH.cons rfl (fun K hK => ?_) ?_
                  have q0 : w4.cell? ⟨P, 0, none⟩ = some (.slice none 0 0) := (cell_of_row _ _ 0 _ _ _ b8).trans rfl
                  have q1 : w4.cell? ⟨P, 1, none⟩ = some (.int .i64 0) := (cell_of_row _ _ 1 _ _ _ b8).trans rfl
                  have q2 : w4.cell? ⟨P, 2, none⟩ = some (.int .i64 0) := (cell_of_row _ _ 2 _ _ _ b8).trans rfl
                  have f0 := frozen_blkQ (j := 0) b8
                  have f1 := frozen_blkQ (j := 1) b8
                  have f2 := frozen_blkQ (j := 2) b8
                  have hPx := lt_of_heap b8
                  · go_simp
                    refine hK.out _ _ (HELD.out _ (by repeat (first | assumption | exact Nx.refl _ | refine Nx.drew ?_ | refine Nx.alloc ?_ _ | refine Nx.setCell ?_ hPl _))) (fun hHeld => ?_)
                    clear hK K
                    try simp only [Act.put, List.setIfInBounds_toArray, List.set_cons_zero, List.set_cons_succ]
                    refine wpAnyH_take (i := 11) (oi := ⟨some 20, _, _, _, _, _⟩) (v := ?_) rfl (by kernel_rfl) (by kernel_rfl) (by kernel_rfl) (fun _ _ _ h => h) (Or.inl ⟨by rfl, ?_⟩) (by assumption) ?_
                    rotate_left 1
                    · intro w hSw
                      (try dsimp only at hSw)
                      go_simp
                      try with_reducible rfl
                    try simp only [Act.put, List.setIfInBounds_toArray, List.set_cons_zero, List.set_cons_succ]
                    refine wpAnyH_done (by kernel_rfl) ?_ _
                    go_wp2
                    go_meet
                    have s1 := Gr.setS (Gr.refl P w4) (p := ⟨P, 0, none⟩) (Or.inl rfl) (.slice Z (keysOf rs ch.reverse).length c)
                    have s2 := Gr.setS s1 (p := ⟨P, 1, none⟩) (Or.inl rfl) (.int .i64 l)
                    have s3 := Gr.setS s2 (p := ⟨P, 2, none⟩) (Or.inl rfl) (.int .i64 (gi R.first j))
                    rw [hR] at s3
                    have hRR := Rd.gr rdZ s3 hP4
                    exact ⟨P, Z, c, rfl, rfl, heap_set (heap_set (heap_set b8)), hRR.low (Nx.sz (by repeat (first | assumption | exact Nx.refl _ | refine Nx.drew ?_ | refine Nx.alloc ?_ _ | refine Nx.setCell ?_ hPl _))), (by repeat (first | assumption | exact Nx.refl _ | refine Nx.drew ?_ | refine Nx.alloc ?_ _ | refine Nx.setCell ?_ hPl _))⟩
                  exact AllReadyH.nil
                exact AllReadyH.nil
              exact AllReadyH.nil
            exact AllReadyH.nil
          case rest =>
            obtain ⟨P, Z, c, rfl, rfl, hP, hRZ, hn9⟩ := hcut
            have HRZ := hide hRZ
            have HP := hide hP
            have hZ := gi (searchG (gphOf ns rs bs) i l).first j
            generalize gi (searchG (gphOf ns rs bs) i l).first j = z at *
            generalize hks : keysOf rs ch.reverse = ks at *
            have HN9 := hide hn9
            have b8 := (hn9.block gx (lt_of_heap HX3.out)).trans HX3.out
            have q0 : wc.cell? ⟨gx, 0, none⟩ = some (.slice none 0 0) := (cell_of_row wc _ 0 _ _ _ b8).trans rfl
            have q1 : wc.cell? ⟨gx, 1, none⟩ = some (.int .i64 0) := (cell_of_row wc _ 1 _ _ _ b8).trans rfl
            have q2 : wc.cell? ⟨gx, 2, none⟩ = some (.int .i64 0) := (cell_of_row wc _ 2 _ _ _ b8).trans rfl
            have f0 := frozen_blkQ (j := 0) b8
            have f1 := frozen_blkQ (j := 1) b8
            have f2 := frozen_blkQ (j := 2) b8
            have p0 : wc.cell? ⟨P, 0, none⟩ = some (.slice Z ks.length c) := (cell_of_row wc _ 0 _ _ _ hP).trans rfl
            have p1 : wc.cell? ⟨P, 1, none⟩ = some (.int .i64 l) := (cell_of_row wc _ 1 _ _ _ hP).trans rfl
            have p2 : wc.cell? ⟨P, 2, none⟩ = some (.int .i64 z) := (cell_of_row wc _ 2 _ _ _ hP).trans rfl
            have hx8 := lt_of_heap b8
            have hlo2 : gx < W.heap.size := lt_of_heap HX3.out
            clear hn9 hRZ hP b8
            go_wp2_with fail
            have s1 := Gr.setS (Gr.refl gx wc) (p := ⟨gx, 0, none⟩) (Or.inl rfl) (.slice Z ks.length c)
            have s2 := Gr.setS s1 (p := ⟨gx, 1, none⟩) (Or.inl rfl) (.int .i64 l)
            have s3 := Gr.setS s2 (p := ⟨gx, 2, none⟩) (Or.inl rfl) (.int .i64 z)
            have hWW := Nx.of_gr ((Gr.of_nx (s := gx) (HN3.out.trans HN9.out)).trans s3) hsz
            have hR := Rd.low (Rd.gr HRZ.out s3 hlo2) (HN3.out.sz)
            exact bodyPost_ret (v := .tuple #[.agg #[.slice Z ks.length c, .int .i64 l, .int .i64 z], .bool true, .int .i64 0]) (by simp [results, Tryz.results60, go_sem, q0, q1, q2]) rfl ⟨_, HRES.out, Z, c, rfl, hR, hWW⟩
    · have hI := HIT.out 0 wc (Nx.refl _) (by omega)
      rw [decide_eq_false h0] at hI
      have HI := hide hI
      have H0 := hide h0
      clear hI h0
      go_wp2_with fail
      refine HI.out.mono ?_
      rintro e w3 ⟨rfl, hn3⟩
      have b8 := (hn3.block gx (lt_of_heap HBX.out)).trans HBX.out
      have q0 : w3.cell? ⟨gx, 0, none⟩ = some (.slice none 0 0) := (cell_of_row w3 _ 0 _ _ _ b8).trans rfl
      have q1 : w3.cell? ⟨gx, 1, none⟩ = some (.int .i64 0) := (cell_of_row w3 _ 1 _ _ _ b8).trans rfl
      have q2 : w3.cell? ⟨gx, 2, none⟩ = some (.int .i64 0) := (cell_of_row w3 _ 2 _ _ _ b8).trans rfl
      have f0 := frozen_blkQ (j := 0) b8
      have f1 := frozen_blkQ (j := 1) b8
      have f2 := frozen_blkQ (j := 2) b8
      have hx8 := lt_of_heap b8
      have HNN := hide (HNW.out.trans hn3)
      clear hn3 b8 HI
      go_wp2_with fail
      have s1 := Gr.setS (Gr.of_nx (s := gx) HNN.out) (p := ⟨gx, 0, none⟩) (Or.inl rfl) (.slice none 0 0)
      have s2 := Gr.setS s1 (p := ⟨gx, 1, none⟩) (Or.inl rfl) (.int .i64 0)
      have s3 := Gr.setS s2 (p := ⟨gx, 2, none⟩) (Or.inl rfl) (.int .i64 0)
      have hW := Nx.of_gr s3 hsz
      exact bodyPost_ret (v := .tuple #[.agg #[.slice none 0 0, .int .i64 0, .int .i64 0], .bool false, .int .i64 0]) (by simp [results, Tryz.results60, go_sem, q0, q1, q2]) rfl ⟨_, HNO.out (by first | exact H0.out | exact Int.not_le.2 H0.out | exact Int.not_le.1 H0.out), none, 0, rfl, Rd.nil, hW⟩
end Go.Proofs.YtmpnilliichpfaaGreatDoor
