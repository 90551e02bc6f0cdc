/- jitkeep1.WaysCanBeWalked returns true. -/
import Derived.Test.YtmpnilliichpfaaGreatDoorQRdsR
import Derived.Test.YtmpnilliichpfaaGreatDoorQG32
import Derived.Test.YtmpnilliichpfaaGreatDoorQG48
import Derived.Test.YtmpnilliichpfaaGreatDoorQG21
import Derived.Test.YtmpnilliichpfaaGreatDoorQWalkR
import Derived.Test.YtmpnilliichpfaaGreatDoorQReady
import Derived.Deep.DeepCutAuto
namespace Go.Proofs.YtmpnilliichpfaaGreatDoor
open Go.RowKit

set_option maxRecDepth 100000 in
set_option maxHeartbeats 8000000 in
theorem w_lawWW (A : Option Addr) (n c : Nat) (w : World) (hn : n ≤ 9223372036854775807)
    (hL : 0 < n → ∃ b off, A = some ⟨b, off, none⟩ ∧ b < w.heap.size ∧ ∀ j, j < n → ∃ z : Int, w.cell? ⟨b, off + j, none⟩ = some (.int .i64 z) ∧ -9223372036854775808 ≤ z ∧ z ≤ 9223372036854775807) :
    Calls Tryz.prog 7 #[.slice A n c] w (TrueNx w) := by
  have hS0 : Str (w.alloc (.cells #[.slice A n c, .int .i64 0] 25)) w.heap.size 0 := str_new A n c w hn hL
  clear hL
  go_enter Tryz.func7, Tryz.ntmps7
  go_wp2_with fail
  refine (w_RightRoads _ 0 _ hS0 (by omega)).mono ?_
  rintro e w1 ⟨vN, vA, vB, ns, rs, bs, rfl, hown, hn0, hn5, hr10, hb101, hg1, hS1⟩
  have hsz : (w.alloc (.cells #[.slice A n c, .int .i64 0] 25)).heap.size = w.heap.size + 1 := by simp
  rw [hsz] at hown
  have hz1 := hg1.sz
  rw [hsz] at hz1
  have hg01 : Gr w.heap.size w w1 := (Gr.of_nx ((Nx.refl w).alloc _)).trans hg1
  clear hg1 hS0
  have hsmN := hown.smN
  obtain ⟨B0, B1, B2, ca, cb, cc, e1, e2, e3, hRN, hRA, hRB⟩ := hown.rd
  subst e1 e2 e3
  clear hown
  obtain ⟨w2, hw2⟩ : ∃ w2, w2 = w1.alloc (.cells #[.slice B0 ns.length ca, .slice B1 rs.length cb, .slice B2 bs.length cc] 30) := ⟨_, rfl⟩
  have hn2 : Nx w1 w2 := hw2 ▸ (Nx.refl w1).alloc _
  have hs2 : w1.heap.size < w2.heap.size := by rw [hw2]; simp
  have b0 : w2.cell? ⟨w1.heap.size, 0, none⟩ = some (.slice B0 ns.length ca) := by rw [hw2]; go_simp
  have b1 : w2.cell? ⟨w1.heap.size, 1, none⟩ = some (.slice B1 rs.length cb) := by rw [hw2]; go_simp
  have b2 : w2.cell? ⟨w1.heap.size, 2, none⟩ = some (.slice B2 bs.length cc) := by rw [hw2]; go_simp
  have hg02 := hg01.then_nx hn2
  have hS2 := hS1.nx hn2
  obtain ⟨nb, noff, eN, hnlo, hnb, hnbr, hnc⟩ := (hRN.nx hn2).open_ (Nx.refl w2) hn0
  subst eN
  have nk : ∀ j, j < ns.length → w2.cell? ⟨nb, noff + j * 3, none⟩ = some (.string (ns.getD j default).key) := fun j hj => by
    rw [List.getD_eq_getElem?_getD, List.getElem?_eq_getElem hj]
    exact hnc j hj 0 _ rfl
  clear hnc
  have HRN := hide (hRN.nx hn2)
  have HRA := hide (hRA.nx hn2)
  have HRB := hide (hRB.nx hn2)
  have HSN := hide hsmN
  clear hRN hRA hRB hsmN hg01 hS1
  go_upto_region 3 with fail
  rw [← hw2]
  have HW2 := hide hw2
  clear hw2
  have hgs : w.heap.size < w1.heap.size := by omega
  generalize w1.heap.size = g at *
  have hlos : w.heap.size < w.heap.size + 1 := by omega
  have HRD := hide (fun W (hg : Gr w.heap.size w2 W) => (⟨HRN.out.gr hg hlos, ⟨HRA.out.1.gr hg hlos, fun x hx => ⟨(HRA.out.2 x hx).1.gr hg hlos, (HRA.out.2 x hx).2⟩⟩, HRB.out.gr hg hlos⟩ : Rd W (w.heap.size + 1) (some ⟨nb, noff, none⟩) 3 encNode ns ∧ RdArcs W (w.heap.size + 1) B1 rs ∧ Rd W (w.heap.size + 1) B2 2 encBan bs))
  have HBX := hide (fun W (hg : Gr w.heap.size w2 W) => (⟨World.grownBy.cell (row := some w.heap.size) hg b0 (by simp; omega), World.grownBy.cell (row := some w.heap.size) hg b1 (by simp; omega), World.grownBy.cell (row := some w.heap.size) hg b2 (by simp; omega)⟩ : W.cell? ⟨g, 0, none⟩ = some (.slice (some ⟨nb, noff, none⟩) ns.length ca) ∧ W.cell? ⟨g, 1, none⟩ = some (.slice B1 rs.length cb) ∧ W.cell? ⟨g, 2, none⟩ = some (.slice B2 bs.length cc)))
  have HNK := hide (fun W (hg : Gr w.heap.size w2 W) j (hj : j < ns.length) => (World.grownBy.cell (row := some w.heap.size) hg (nk j hj) (by simp; omega) : W.cell? ⟨nb, noff + j * 3, none⟩ = some (.string (ns.getD j default).key)))
  have hlow2 : w.heap.size + 1 ≤ w2.heap.size := by omega
  clear HRN HRA HRB b0 b1 b2 nk
  have HS2 := hide hS2
  clear hS2
  go_cut [5, 6] (fun vf va wx => ∃ (ad : Int) (K : Nat), vf = .string (ns.getD 0 default).key ∧ va = .int .i64 ad ∧ 0 ≤ ad ∧ ad ≤ 19999 ∧ Gr w.heap.size w2 wx ∧ Str wx w.heap.size K ∧ K < 100000)
  case first =>
    generalize hnn : ns.length = nn at *
    generalize rs.length = nr at *
    generalize bs.length = nbb at *
    have HN0 := hide hn0
    have HN00 := hide (fun W (hg : Gr w.heap.size w2 W) => (by simpa using HNK.out W hg 0 hn0 : W.cell? ⟨nb, noff, none⟩ = some (.string (ns.getD 0 default).key)))
    clear hn5 hnn
    refine wp_region_held_drew (S := fun w' => w'.cell? ⟨g, 0, none⟩ = some (.slice (some ⟨nb, noff, none⟩) nn ca) ∧ w'.cell? ⟨nb, noff, none⟩ = some (.string (ns.getD 0 default).key)) (by kernel_rfl) ?_ (fun hHeld => ?_)
    · exact ⟨(HBX.out _ (Gr.refl _ _).drew).1, HN00.out _ (Gr.refl _ _).drew⟩
    have hgC := (Gr.refl w.heap.size w2).drew
    have hSC := HS2.out.nx (Nx.refl w2).drew
    refine wpAnyH_take (i := 0) (oi := ⟨some 22, _, _, _, _, _⟩) (v := ?_) rfl (by kernel_rfl) (by kernel_rfl) (by kernel_rfl) (fun _ _ _ h => h) (Or.inl ⟨by rfl, ?_⟩) (by assumption) ?_
    rotate_left 1
    · intro w hSw
      (try dsimp only at hSw)
      go_simp
      try with_reducible rfl
    try simp only [Act.put, List.setIfInBounds_toArray, List.set_cons_zero, List.set_cons_succ]
    refine wpAnyH_take (i := 1) (oi := ⟨some 23, _, _, _, _, _⟩) (v := ?_) rfl (by kernel_rfl) (by kernel_rfl) (by kernel_rfl) (fun _ _ _ h => h) (Or.inl ⟨by rfl, ?_⟩) (by assumption) ?_
    rotate_left 1
    · intro w hSw
      (try dsimp only at hSw)
      go_simp
      try with_reducible rfl
    try simp only [Act.put, List.setIfInBounds_toArray, List.set_cons_zero, List.set_cons_succ]
    refine wpAnyH_take (i := 2) (oi := ⟨some 24, _, _, _, _, _⟩) (v := ?_) rfl (by kernel_rfl) (by kernel_rfl) (by kernel_rfl) (fun _ _ _ h => h) (Or.inl ⟨by rfl, ?_⟩) (by assumption) ?_
    rotate_left 1
    · intro w hSw
      (try dsimp only at hSw)
      go_simp
      try with_reducible rfl
    try simp only [Act.put, List.setIfInBounds_toArray, List.set_cons_zero, List.set_cons_succ]
    refine wpAnyH_take (i := 3) (oi := ⟨some 25, _, _, _, _, _⟩) (v := ?_) rfl (by kernel_rfl) (by kernel_rfl) (by kernel_rfl) (fun _ _ _ h => h) (Or.inl ⟨by rfl, ?_⟩) (by assumption) ?_
    rotate_left 1
    · intro w hSw
      (try dsimp only at hSw)
      go_simp
      try with_reducible rfl
    try simp only [Act.put, List.setIfInBounds_toArray, List.set_cons_zero, List.set_cons_succ]
    refine wpAnyH_take (i := 4) (oi := ⟨some 26, _, _, _, _, _⟩) (v := ?_) rfl (by kernel_rfl) (by kernel_rfl) (by kernel_rfl) (fun _ _ _ h => h) (Or.inl ⟨by rfl, ?_⟩) (by assumption) ?_
    rotate_left 1
    · intro w hSw
      (try dsimp only at hSw)
      go_simp
      try with_reducible rfl
    try simp only [Act.put, List.setIfInBounds_toArray, List.set_cons_zero, List.set_cons_succ]
    refine wpAnyH_take (i := 5) (oi := ⟨some 27, _, _, _, _, _⟩) (v := ?_) rfl (by kernel_rfl) (by kernel_rfl) (by kernel_rfl) (fun _ _ _ h => h) (Or.inl ⟨by rfl, ?_⟩) (by assumption) ?_
    rotate_left 1
    · intro w hSw
      (try dsimp only at hSw)
      go_simp
      try with_reducible rfl
    try simp only [Act.put, List.setIfInBounds_toArray, List.set_cons_zero, List.set_cons_succ]
    refine wpAnyH_ready (rs := [6]) (by kernel_rfl) (by simp) ?_
    refine AllReadyH.cons rfl (fun K hK => ?_) AllReadyH.nil
    go_simp
    go_at_call 48
    refine (w_Next 20000 _ _ _ hSC (by omega) (by omega)).mono ?_
    rintro e w4 ⟨ad, ha0, ha1, rfl, hg3, hS4⟩
    replace hgC := hgC.trans hg3
    go_simp
    refine hK.out _ _ (⟨(HBX.out _ hgC).1, HN00.out _ hgC⟩) (fun hHeld => ?_)
    clear hK K hg3 hSC
    try simp only [Act.put, List.setIfInBounds_toArray, List.set_cons_zero, List.set_cons_succ]
    refine wpAnyH_take (i := 7) (oi := ⟨some 5, _, _, _, _, _⟩) (v := ?_) rfl (by kernel_rfl) (by kernel_rfl) (by kernel_rfl) (fun _ _ _ h => h) (Or.inl ⟨by rfl, ?_⟩) (by assumption) ?_
    rotate_left 1
    · intro w hSw
      (try dsimp only at hSw)
      go_simp
      try with_reducible rfl
    try simp only [Act.put, List.setIfInBounds_toArray, List.set_cons_zero, List.set_cons_succ]
    refine wpAnyH_take (i := 8) (oi := ⟨some 6, _, _, _, _, _⟩) (v := ?_) rfl (by kernel_rfl) (by kernel_rfl) (by kernel_rfl) (fun _ _ _ h => h) (Or.inl ⟨by rfl, ?_⟩) (by assumption) ?_
    rotate_left 1
    · intro w hSw
      (try dsimp only at hSw)
      go_simp
      try with_reducible rfl
    try simp only [Act.put, List.setIfInBounds_toArray, List.set_cons_zero, List.set_cons_succ]
    refine wpAnyH_done (by kernel_rfl) ?_ _
    go_wp2
    go_meet
    exact ⟨ad, _, rfl, rfl, ha0, by omega, hgC, hS4, by omega⟩
  case rest =>
    obtain ⟨ad, K, rfl, rfl, ha0, ha1, hg5, hS5, hKb⟩ := hcut
    obtain ⟨w5, hw5⟩ : ∃ w5, w5 = wc := ⟨_, rfl⟩
    subst hw5
    clear HS2 HNK
    have hma : momB ad = true := momB_true.2 ⟨ha0, by omega⟩
    have HDR := hide (w_Drive w.heap.size K (w.heap.size + 1) (some ⟨nb, noff, none⟩) B1 B2 ns.length bs.length ca cb cc rs (ns.getD 0 default).key w5 hS5 (by omega) (HRD.out w5 hg5).2.1.1 (by omega) hlos)
    obtain ⟨c0, c1, c2⟩ := HBX.out w5 hg5
    have HSF := hide (fun (hR : roadsF ns rs bs = 0) => node_has hR hn0)
    have HG02 := hide hg02
    have HN5 := hide hn5
    generalize (ns.getD 0 default).key = sf at *
    generalize hnl : ns.length = nn at *
    generalize hrl : rs.length = nr at *
    generalize hbl : bs.length = nbb at *
    have HNL := hide hnl
    have HRL := hide hrl
    have HBL := hide hbl
    clear hnl hrl hbl hn0 hn5 hg02
    go_wp2_with fail
    refine HDR.out.mono ?_
    rintro e w6 ⟨D, cd, l, rfl, hl6, hD, hg6', _⟩
    have hg6 := hg5.trans hg6'
    clear HDR c0 c1 c2 hS5 hg6' hg5
    have HT := hide (fun W (hx : Nx w6 W) => Nx.of_gr (HG02.out.trans (hg6.then_nx hx)) (Nat.le_refl _))
    have HR5 := hide (fun W (hx : Nx w6 W) => HRD.out W (hg6.then_nx hx))
    have HB5 := hide (fun W (hx : Nx w6 W) => HBX.out W (hg6.then_nx hx))
    have hsz5 : w.heap.size + 1 ≤ w6.heap.size := Nat.le_trans hlow2 hg6.sz
    have HRF := hide (fun W (hx : Nx w6 W) => w_RoadsFault (w.heap.size + 1) (w.heap.size + 1) (w.heap.size + 1) (some ⟨nb, noff, none⟩) B1 B2 ca cb cc ns rs bs W (HR5.out W hx).1 HSN.out (by have := HN5.out; have := HNL.out; omega) (HR5.out W hx).2.1 (by have := HRL.out; omega) (HR5.out W hx).2.2 (by have := HBL.out; omega))
    have HCF := hide (fun W (hx : Nx w6 W) => w_WalkFault (w.heap.size + 1) (some ⟨nb, noff, none⟩) B1 B2 nn ca cb cc rs bs sf w5.heap.size D cd l W (HR5.out W hx).2.1 (by have := HRL.out; omega) (HR5.out W hx).2.2 (by have := HBL.out; omega) (hD.nx hx) (by omega))
    have HWK := hide (fun lo2 D' cd' l' a W (hx : Nx w6 W) hR hl => w_Walk (w.heap.size + 1) (some ⟨nb, noff, none⟩) B1 B2 ca cb cc ns rs bs lo2 D' cd' l' sf a W (HR5.out W hx).1 HSN.out (by have := HN5.out; have := HNL.out; omega) (HR5.out W hx).2.1 (by have := HRL.out; omega) (HR5.out W hx).2.2 (by have := HBL.out; omega) hR hl)
    have HW1 := hide (fun W (hx : Nx w6 W) => HWK.out w5.heap.size D cd l ad W hx (hD.nx hx) (by omega))
    have HFA := hide (fun (hR : roadsF ns rs bs = 0) (t : ByteArray) (ht : 0 ≤ nodeI ns t) => fast_right (w.heap.size + 1) (some ⟨nb, noff, none⟩) B1 B2 ca cb cc ns rs bs sf t ad (fun W => Nx w6 W) (fun W hx => ⟨Nat.le_trans hsz5 hx.sz, (HR5.out W hx).1, (HR5.out W hx).2.1, (HR5.out W hx).2.2⟩) (by have := HN5.out; have := HNL.out; omega) (by have := HRL.out; omega) (by have := HBL.out; omega) HSN.out hR (HSF.out hR) ht hma)
    have HLA := hide (fun (hR : roadsF ns rs bs = 0) (t : ByteArray) (ht : 0 ≤ nodeI ns t) (T : Int) (hm : momB T = true) W (hx : Nx w6 W) => late_right (w.heap.size + 1) (some ⟨nb, noff, none⟩) B1 B2 ca cb cc ns rs bs sf t T W (HR5.out W hx).1 (HR5.out W hx).2.1 (HR5.out W hx).2.2 (by have := HN5.out; have := HNL.out; omega) (by have := HRL.out; omega) (by have := HBL.out; omega) HSN.out hR (HSF.out hR) ht hm)
    have HAT := hide (fun (s : ByteArray) W (hx : Nx w6 W) => w_ArcAt (w.heap.size + 1) (some ⟨nb, noff, none⟩) B1 B2 nn nbb ca cb cc rs s W (HR5.out W hx).2.1.1 (by have := HRL.out; omega))
    rw [HNL.out, HRL.out, HBL.out] at HRF HWK HW1 HFA HLA
    rw [HRL.out, HBL.out] at HCF
    rw [HRL.out] at HAT
    have HRR := hide (fun W (hx : Nx w6 W) => (HR5.out W hx).2.1.1)
    have HDD := hide (fun W (hx : Nx w6 W) => hD.nx hx)
    have HMA := hide hma
    have HL6 := hide hl6
    clear HRD HBX HR5 hsz5 hgs hz1 hn2 HW2 hlow2 hs2 hnb hnbr hg6 hD HSN hl6 hma hlos hnlo
    generalize hRFe : roadsF ns rs bs = RF at *
    generalize hCFe : chainF rs bs sf none l = CF at *
    generalize hll : l.length = n at *
    have HRFE := hide hRFe
    have HCFE := hide hCFe
    have HLL := hide hll
    clear hRFe hCFe hll
    obtain ⟨c0, c1, c2⟩ := HB5.out w6 (Nx.refl _)
    by_cases hbad : RF = 0 ∧ CF = 0 ∧ 0 < n
    · obtain ⟨rfl, rfl, hn0⟩ := hbad
      have tn : ((n : Int) == 0) = false := by simp; omega
      replace HSF := hide (HSF.out rfl)
      replace HFA := hide (HFA.out rfl)
      replace HLA := hide (HLA.out rfl)
      go_upto_region 7 with (first
        | (go_at_call 20; refine (HRF.out w6 (Nx.refl _)).mono ?_; rintro e w7 ⟨rfl, hn7⟩; (obtain ⟨d0, d1, d2⟩ := HB5.out w7 hn7))
        | (go_at_call 57; refine (HCF.out w7 hn7).mono ?_; rintro e w8 ⟨rfl, hn8⟩; (obtain ⟨e0, e1, e2⟩ := HB5.out w8 (hn7.trans hn8))))
      go_wp2_with fail
      refine (HW1.out w8 (hn7.trans hn8)).mono ?_
      rintro e w9 ⟨Zt, ct, rfl, hRt, hn9⟩
      have h9 := (hn7.trans hn8).trans hn9
      clear c0 c1 c2 d0 d1 d2 e0 e1 e2 hn7 hn8 hn9 HRF HCF HW1 tn
      rcases walk_cases (ad := ad) HRFE.out HSF.out HMA.out HCFE.out with ⟨hw1, hw2, hw3⟩ | ⟨ts, hw1, hw2, hw3, hw4⟩
      · rw [hw2, hw3]
        clear hRt
        go_wp2_with (go_at_call 49; refine (w_ready _).mono ?_; rintro e w12 ⟨rfl, hn12⟩)
        go_ret
        exact ⟨rfl, HT.out _ (h9.trans hn12)⟩
      · rw [hw2, hw3]
        rw [hw3] at hRt
        obtain ⟨m, hm⟩ : ∃ m, n = m + 1 := ⟨n - 1, by omega⟩
        obtain ⟨N1, hN1⟩ : ∃ N1, N1 = n + 1 := ⟨_, rfl⟩
        have hlt1 : (ad :: ts).length = N1 := by rw [List.length_cons, hw4, HLL.out, hN1]
        rw [hlt1]
        obtain ⟨T, hT⟩ : ∃ T, T = (ad :: ts).getD l.length 0 := ⟨_, rfl⟩
        obtain ⟨s, hs⟩ : ∃ s, s = l.getD (l.length - 1) default := ⟨_, rfl⟩
        obtain ⟨a1, a2, a3, a4, a5, a6⟩ := ways_fast HRFE.out HSF.out HMA.out (by rw [HLL.out]; exact hn0) HCFE.out hw1 hT hs
        obtain ⟨L, hLO, hLA, hLP⟩ := ways_late HRFE.out HSF.out a2 ha0 a5 a6 a4
        have hFA := HFA.out _ a2
        have HLT := hide (fun W (hx : Nx w6 W) => HLA.out _ a2 T a3 W hx)
        obtain ⟨k1, n1, lv1, ar1, is1, hk1, hk1', hFA1, hi1, _, hy1⟩ := hFA
        have hi1' : is1 = true := by rw [hi1]; exact decide_eq_true (by omega)
        subst hi1'
        obtain ⟨hv1, hr1, hwo⟩ := hy1 rfl
        obtain ⟨g1, g2, g3⟩ := way_walk hwo HRFE.out HSF.out (by rw [hv1]; exact HMA.out)
        have hle : ar1 ≤ T := by rw [hr1]; exact a4
        obtain ⟨ai, hai⟩ : ∃ ai : Nat, arcI rs s = (ai : Int) := ⟨(arcI rs s).toNat, by omega⟩
        have hto : arcAt rs s = rs.getD ai default := by unfold arcAt; rw [hai]; rfl
        have hail : ai < nr := by
          have := (arc_there a1).1
          rw [hai] at this
          have h2 := HRL.out
          omega
        -- cells
        obtain ⟨tb, toff, rfl, _, htb, _, htc⟩ := hRt.open_ (Nx.refl _) (by rw [hlt1, hN1]; omega)
        have xT : w9.cell? ⟨tb, toff + n, none⟩ = some (.int .i64 T) := by
          have h := htc n (by rw [hlt1, hN1]; omega) 0 _ rfl
          rw [hT, HLL.out, List.getD_eq_getElem?_getD, List.getElem?_eq_getElem (by rw [hlt1, hN1]; omega)]
          simpa using h
        obtain ⟨db, doff, rfl, _, _, hdb, hdc⟩ := (HDD.out w9 h9).open_ (Nx.refl _) (by rw [HLL.out]; exact hn0)
        have xD : w9.cell? ⟨db, doff + m, none⟩ = some (.string s) := by
          have h := hdc m (by rw [HLL.out]; omega) 0 _ rfl
          rw [hs, HLL.out, show n - 1 = m by omega, List.getD_eq_getElem?_getD, List.getElem?_eq_getElem (by rw [HLL.out]; omega)]
          simpa using h
        obtain ⟨ab, aoff, rfl, _, _, hab, hac⟩ := (HRR.out w9 h9).open_ (Nx.refl _) (by have := HRL.out; omega)
        have xA : w9.cell? ⟨ab, aoff + ai * 5 + 2, none⟩ = some (.string (arcAt rs s).to_) := by
          have hl : ai < rs.length := by have := HRL.out; omega
          have h := hac ai hl 2 _ rfl
          rw [hto, List.getD_eq_getElem?_getD, List.getElem?_eq_getElem hl]
          exact h
        have HX9 := hide (fun W (hx : Nx w9 W) => (⟨nx_cell hx hdb xD, nx_cell hx hab xA, nx_cell hx htb xT⟩ : W.cell? ⟨db, doff + m, none⟩ = some (.string s) ∧ W.cell? ⟨ab, aoff + ai * 5 + 2, none⟩ = some (.string (arcAt rs s).to_) ∧ W.cell? ⟨tb, toff + n, none⟩ = some (.int .i64 T)))
        have HAT := hide (fun W hx => hai ▸ HAT.out s W hx)
        have HFA1 := hide hFA1
        have HLO := hide hLO
        have HL0 := hide (show 0 ≤ L by omega)
        have HLAD := hide hLA
        have HLP := hide hLP
        have HLE := hide hle
        have HW2K := hide (fun Z cz W (hx : Nx w6 W) (hR : Rd W 0 Z 1 encS k1) => HWK.out 0 Z cz k1 ad W hx hR (by have := HRL.out; omega))
        rw [hk1] at HW2K
        rw [hv1] at HFA1
        rw [hv1] at g1 g2 g3
        rw [hk1] at g2 g3
        rw [g1, g2] at HW2K
        have HG3 := hide g3
        have HG2 := hide g2
        have HAIL := hide hail
        have HH9 := hide h9
        have HHA := hide ha0
        obtain ⟨N2, hN2⟩ : ∃ N2, N2 = n1 + 1 := ⟨_, rfl⟩
        rw [← hN2] at HW2K
        have W1 : IntKind.i64.wrap ((n : Int) + 1) = (N1 : Int) := by rw [hN1, show ((n + 1 : Nat) : Int) = (n : Int) + 1 by omega]; exact IntWalk.i64_in _ (by have := HL6.out; have := HLL.out; omega)
        have W2 : IntKind.i64.wrap ((N1 : Int) - 1) = (n : Int) := by rw [hN1, show ((n + 1 : Nat) : Int) - 1 = (n : Int) by omega]; exact IntWalk.i64_in _ (by have := HL6.out; have := HLL.out; omega)
        have W3 : IntKind.i64.wrap ((n : Int) - 1) = (m : Int) := by rw [hm, show ((m + 1 : Nat) : Int) - 1 = (m : Int) by omega]; exact IntWalk.i64_in _ (by have := HL6.out; have := HLL.out; omega)
        have W4 : IntKind.i64.wrap ((N2 : Int) - 1) = (n1 : Int) := by rw [hN2, show ((n1 + 1 : Nat) : Int) - 1 = (n1 : Int) by omega]; exact IntWalk.i64_in _ (by have := HRL.out; have := hk1'; omega)
        have l1 : n < N1 := by omega
        have l2 : m < n := by omega
        have l3 : n1 < N2 := by omega
        have HWL := hide ((⟨W1, W2, W3, W4, l1, l2, l3⟩ : IntKind.i64.wrap ((n : Int) + 1) = (N1 : Int) ∧ IntKind.i64.wrap ((N1 : Int) - 1) = (n : Int) ∧ IntKind.i64.wrap ((n : Int) - 1) = (m : Int) ∧ IntKind.i64.wrap ((N2 : Int) - 1) = (n1 : Int) ∧ n < N1 ∧ m < n ∧ n1 < N2))
        have HN2 := hide hN2
        clear hN1 hN2 hm W2 W3 W4 l1 l2 l3 a1 a2 a3 a4 a5 a6 hi1 hy1 hwo hv1 hr1 hle hai hto hlt1 htc hdc hac xT xD xA hFA1 hLO hLA hLP hk1 hk1' g1 g2 g3 hT hs hw1 hw2 hw3 hw4 htb hdb hab hRt HLA HFA HWK HRR HDD HMA h9 hail ha0 ha1 hn0
        generalize (arcAt rs s).to_ = st at *
        go_upto_region 10 with fail
        clear W1
        go_cut [10] (fun v wx => v = .string st ∧ Nx w9 wx)
        case first =>
          obtain ⟨_, _, W3, _, _, l2, _⟩ := HWL.out
          have hail := HAIL.out
          have HH := hide (fun W (hx : Nx w9 W) => (⟨(HX9.out W hx).1, (HX9.out W hx).2.1, HB5.out W (HH9.out.trans hx)⟩ : (W.cell? ⟨db, doff + m, none⟩ = some (.string s) ∧ W.cell? ⟨ab, aoff + ai * 5 + 2, none⟩ = some (.string st) ∧ W.cell? ⟨g, 0, none⟩ = some (.slice (some ⟨nb, noff, none⟩) nn ca) ∧ W.cell? ⟨g, 1, none⟩ = some (.slice (some ⟨ab, aoff, none⟩) nr cb) ∧ W.cell? ⟨g, 2, none⟩ = some (.slice B2 nbb cc))))
          refine wp_region_held_drew (S := fun w' => w'.cell? ⟨db, doff + m, none⟩ = some (.string s) ∧ w'.cell? ⟨ab, aoff + ai * 5 + 2, none⟩ = some (.string st) ∧ w'.cell? ⟨g, 0, none⟩ = some (.slice (some ⟨nb, noff, none⟩) nn ca) ∧ w'.cell? ⟨g, 1, none⟩ = some (.slice (some ⟨ab, aoff, none⟩) nr cb) ∧ w'.cell? ⟨g, 2, none⟩ = some (.slice B2 nbb cc)) (by kernel_rfl) ?_ (fun hHeld => ?_)
          · exact HH.out _ (Nx.refl _).drew
          refine wpAnyH_take (i := 0) (oi := ⟨some 72, _, _, _, _, _⟩) (v := ?_) rfl (by kernel_rfl) (by kernel_rfl) (by kernel_rfl) (fun _ _ _ h => h) (Or.inl ⟨by rfl, ?_⟩) (by assumption) ?_
          rotate_left 1
          · intro w hSw
            (try dsimp only at hSw)
            go_simp
            try with_reducible rfl
          try simp only [Act.put, List.setIfInBounds_toArray, List.set_cons_zero, List.set_cons_succ]
          refine wpAnyH_take (i := 1) (oi := ⟨some 73, _, _, _, _, _⟩) (v := ?_) rfl (by kernel_rfl) (by kernel_rfl) (by kernel_rfl) (fun _ _ _ h => h) (Or.inl ⟨by rfl, ?_⟩) (by assumption) ?_
          rotate_left 1
          · intro w hSw
            (try dsimp only at hSw)
            go_simp
            try with_reducible rfl
          try simp only [Act.put, List.setIfInBounds_toArray, List.set_cons_zero, List.set_cons_succ]
          refine wpAnyH_take (i := 2) (oi := ⟨some 74, _, _, _, _, _⟩) (v := ?_) rfl (by kernel_rfl) (by kernel_rfl) (by kernel_rfl) (fun _ _ _ h => h) (Or.inl ⟨by rfl, ?_⟩) (by assumption) ?_
          rotate_left 1
          · intro w hSw
            (try dsimp only at hSw)
            go_simp
            try with_reducible rfl
          try simp only [Act.put, List.setIfInBounds_toArray, List.set_cons_zero, List.set_cons_succ]
          refine wpAnyH_take (i := 3) (oi := ⟨some 75, _, _, _, _, _⟩) (v := ?_) rfl (by kernel_rfl) (by kernel_rfl) (by kernel_rfl) (fun _ _ _ h => h) (Or.inl ⟨by rfl, ?_⟩) (by assumption) ?_
          rotate_left 1
          · intro w hSw
            (try dsimp only at hSw)
            go_simp
            try with_reducible rfl
          try simp only [Act.put, List.setIfInBounds_toArray, List.set_cons_zero, List.set_cons_succ]
          refine wpAnyH_take (i := 4) (oi := ⟨some 76, _, _, _, _, _⟩) (v := ?_) rfl (by kernel_rfl) (by kernel_rfl) (by kernel_rfl) (fun _ _ _ h => h) (Or.inl ⟨by rfl, ?_⟩) (by assumption) ?_
          rotate_left 1
          · intro w hSw
            (try dsimp only at hSw)
            go_simp
            try with_reducible rfl
          try simp only [Act.put, List.setIfInBounds_toArray, List.set_cons_zero, List.set_cons_succ]
          refine wpAnyH_take (i := 5) (oi := ⟨some 77, _, _, _, _, _⟩) (v := ?_) rfl (by kernel_rfl) (by kernel_rfl) (by kernel_rfl) (fun _ _ _ h => h) (Or.inl ⟨by rfl, ?_⟩) (by assumption) ?_
          rotate_left 1
          · intro w hSw
            (try dsimp only at hSw)
            go_simp
            try with_reducible rfl
          try simp only [Act.put, List.setIfInBounds_toArray, List.set_cons_zero, List.set_cons_succ]
          refine wpAnyH_take (i := 6) (oi := ⟨some 78, _, _, _, _, _⟩) (v := ?_) rfl (by kernel_rfl) (by kernel_rfl) (by kernel_rfl) (fun _ _ _ h => h) (Or.inl ⟨by rfl, ?_⟩) (by assumption) ?_
          rotate_left 1
          · intro w hSw
            (try dsimp only at hSw)
            go_simp
            try with_reducible rfl
          try simp only [Act.put, List.setIfInBounds_toArray, List.set_cons_zero, List.set_cons_succ]
          refine wpAnyH_take (i := 7) (oi := ⟨some 79, _, _, _, _, _⟩) (v := ?_) rfl (by kernel_rfl) (by kernel_rfl) (by kernel_rfl) (fun _ _ _ h => h) (Or.inl ⟨by rfl, ?_⟩) (by assumption) ?_
          rotate_left 1
          · intro w hSw
            (try dsimp only at hSw)
            go_simp
            try with_reducible rfl
          try simp only [Act.put, List.setIfInBounds_toArray, List.set_cons_zero, List.set_cons_succ]
          refine wpAnyH_take (i := 8) (oi := ⟨some 80, _, _, _, _, _⟩) (v := ?_) rfl (by kernel_rfl) (by kernel_rfl) (by kernel_rfl) (fun _ _ _ h => h) (Or.inl ⟨by rfl, ?_⟩) (by assumption) ?_
          rotate_left 1
          · intro w hSw
            (try dsimp only at hSw)
            go_simp
            try with_reducible rfl
          try simp only [Act.put, List.setIfInBounds_toArray, List.set_cons_zero, List.set_cons_succ]
          refine wpAnyH_ready (rs := [9]) (by kernel_rfl) (by simp) ?_
          refine AllReadyH.cons rfl (fun K hK => ?_) AllReadyH.nil
          go_simp
          go_at_call 59
          refine (HAT.out _ (HH9.out.trans (Nx.refl _).drew)).mono ?_
          rintro e w10 ⟨rfl, hn10⟩
          have h10 := (Nx.refl w9).drew.trans hn10
          go_simp
          refine hK.out _ _ (HH.out _ h10) (fun hHeld => ?_)
          clear hK K
          try simp only [Act.put, List.setIfInBounds_toArray, List.set_cons_zero, List.set_cons_succ]
          refine wpAnyH_take (i := 10) (oi := ⟨some 82, _, _, _, _, _⟩) (v := ?_) rfl (by kernel_rfl) (by kernel_rfl) (by kernel_rfl) (fun _ _ _ h => h) (Or.inl ⟨by rfl, ?_⟩) (by assumption) ?_
          rotate_left 1
          · intro w hSw
            (try dsimp only at hSw)
            go_simp
            try with_reducible rfl
          try simp only [Act.put, List.setIfInBounds_toArray, List.set_cons_zero, List.set_cons_succ]
          refine wpAnyH_take (i := 11) (oi := ⟨some 83, _, _, _, _, _⟩) (v := ?_) rfl (by kernel_rfl) (by kernel_rfl) (by kernel_rfl) (fun _ _ _ h => h) (Or.inl ⟨by rfl, ?_⟩) (by assumption) ?_
          rotate_left 1
          · intro w hSw
            (try dsimp only at hSw)
            go_simp
            try with_reducible rfl
          try simp only [Act.put, List.setIfInBounds_toArray, List.set_cons_zero, List.set_cons_succ]
          refine wpAnyH_take (i := 12) (oi := ⟨some 84, _, _, _, _, _⟩) (v := ?_) rfl (by kernel_rfl) (by kernel_rfl) (by kernel_rfl) (fun _ _ _ h => h) (Or.inl ⟨by rfl, ?_⟩) (by assumption) ?_
          rotate_left 1
          · intro w hSw
            (try dsimp only at hSw)
            go_simp
            try with_reducible rfl
          try simp only [Act.put, List.setIfInBounds_toArray, List.set_cons_zero, List.set_cons_succ]
          refine wpAnyH_take (i := 13) (oi := ⟨some 10, _, _, _, _, _⟩) (v := ?_) rfl (by kernel_rfl) (by kernel_rfl) (by kernel_rfl) (fun _ _ _ h => h) (Or.inl ⟨by rfl, ?_⟩) (by assumption) ?_
          rotate_left 1
          · intro w hSw
            (try dsimp only at hSw)
            go_simp
            try with_reducible rfl
          try simp only [Act.put, List.setIfInBounds_toArray, List.set_cons_zero, List.set_cons_succ]
          refine wpAnyH_done (by kernel_rfl) ?_ _
          go_wp2
          go_meet
          exact ⟨rfl, h10⟩
        case rest =>
          obtain ⟨rfl, hx9⟩ := hcut
          obtain ⟨w10, hw10⟩ : ∃ w10, w10 = wc := ⟨_, rfl⟩
          subst hw10
          have h10 := HH9.out.trans hx9
          obtain ⟨c0, c1, c2⟩ := HB5.out w10 h10
          go_wp2_with fail
          refine (HFA1.out w10 h10).mono ?_
          rintro e w11 ⟨Z, cz, rfl, hZ, hn11⟩
          obtain ⟨w12, hw12⟩ : ∃ w12, w12 = w11.alloc (.cells #[.slice Z n1 cz, .int .i64 ad, .int .i64 ar1] 90) := ⟨_, rfl⟩
          have hn112 : Nx w11 w12 := hw12 ▸ (Nx.refl w11).alloc _
          have hp12 : w11.heap.size < w12.heap.size := by rw [hw12]; simp
          have p0 : w12.cell? ⟨w11.heap.size, 0, none⟩ = some (.slice Z n1 cz) := by rw [hw12]; go_simp
          have p1 : w12.cell? ⟨w11.heap.size, 1, none⟩ = some (.int .i64 ad) := by rw [hw12]; go_simp
          have p2 : w12.cell? ⟨w11.heap.size, 2, none⟩ = some (.int .i64 ar1) := by rw [hw12]; go_simp
          have HPX := hide (fun W (hx : Nx w12 W) => (⟨nx_cell hx hp12 p0, nx_cell hx hp12 p1, nx_cell hx hp12 p2⟩ : W.cell? ⟨w11.heap.size, 0, none⟩ = some (.slice Z n1 cz) ∧ W.cell? ⟨w11.heap.size, 1, none⟩ = some (.int .i64 ad) ∧ W.cell? ⟨w11.heap.size, 2, none⟩ = some (.int .i64 ar1)))
          have h912 := (hx9.trans hn11).trans hn112
          have hZ12 := hZ.nx hn112
          have HW12 := hide hw12
          clear c0 c1 c2 hw12 p0 p1 p2 hp12 hn11 hn112 hZ hx9 h10
          go_upto_region 12 with fail
          rw [← HW12.out]
          clear HW12
          generalize w11.heap.size = p at *
          go_cut [110] (fun v wx => v = .bool false ∧ Nx w12 wx)
          case first =>
            obtain ⟨_, W2, _, _, l1, _, _⟩ := HWL.out
            have tle : decide (ar1 > T) = false := decide_eq_false (by have := HLE.out; omega)
            refine wp_region_held_drew (S := fun w' => w'.cell? ⟨p, 2, none⟩ = some (.int .i64 ar1) ∧ w'.cell? ⟨tb, toff + n, none⟩ = some (.int .i64 T)) (by kernel_rfl) ?_ (fun hHeld => ?_)
            · exact ⟨(HPX.out _ (Nx.refl _).drew).2.2, (HX9.out _ h912.drew).2.2⟩
            refine wpAnyH_take (i := 0) (oi := ⟨some 94, _, _, _, _, _⟩) (v := ?_) rfl (by kernel_rfl) (by kernel_rfl) (by kernel_rfl) (fun _ _ _ h => h) (Or.inl ⟨by rfl, ?_⟩) (by assumption) ?_
            rotate_left 1
            · intro w hSw
              (try dsimp only at hSw)
              go_simp
              try with_reducible rfl
            try simp only [Act.put, List.setIfInBounds_toArray, List.set_cons_zero, List.set_cons_succ]
            refine wpAnyH_take (i := 1) (oi := ⟨some 95, _, _, _, _, _⟩) (v := ?_) rfl (by kernel_rfl) (by kernel_rfl) (by kernel_rfl) (fun _ _ _ h => h) (Or.inl ⟨by rfl, ?_⟩) (by assumption) ?_
            rotate_left 1
            · intro w hSw
              (try dsimp only at hSw)
              go_simp
              try with_reducible rfl
            try simp only [Act.put, List.setIfInBounds_toArray, List.set_cons_zero, List.set_cons_succ]
            refine wpAnyH_take (i := 2) (oi := ⟨some 96, _, _, _, _, _⟩) (v := ?_) rfl (by kernel_rfl) (by kernel_rfl) (by kernel_rfl) (fun _ _ _ h => h) (Or.inl ⟨by rfl, ?_⟩) (by assumption) ?_
            rotate_left 1
            · intro w hSw
              (try dsimp only at hSw)
              go_simp
              try with_reducible rfl
            try simp only [Act.put, List.setIfInBounds_toArray, List.set_cons_zero, List.set_cons_succ]
            refine wpAnyH_take (i := 3) (oi := ⟨some 97, _, _, _, _, _⟩) (v := ?_) rfl (by kernel_rfl) (by kernel_rfl) (by kernel_rfl) (fun _ _ _ h => h) (Or.inl ⟨by rfl, ?_⟩) (by assumption) ?_
            rotate_left 1
            · intro w hSw
              (try dsimp only at hSw)
              go_simp
              try with_reducible rfl
            try simp only [Act.put, List.setIfInBounds_toArray, List.set_cons_zero, List.set_cons_succ]
            refine wpAnyH_take (i := 4) (oi := ⟨some 98, _, _, _, _, _⟩) (v := ?_) rfl (by kernel_rfl) (by kernel_rfl) (by kernel_rfl) (fun _ _ _ h => h) (Or.inl ⟨by rfl, ?_⟩) (by assumption) ?_
            rotate_left 1
            · intro w hSw
              (try dsimp only at hSw)
              go_simp
              try with_reducible rfl
            try simp only [Act.put, List.setIfInBounds_toArray, List.set_cons_zero, List.set_cons_succ]
            refine wpAnyH_take (i := 5) (oi := ⟨some 99, _, _, _, _, _⟩) (v := ?_) rfl (by kernel_rfl) (by kernel_rfl) (by kernel_rfl) (fun _ _ _ h => h) (Or.inl ⟨by rfl, ?_⟩) (by assumption) ?_
            rotate_left 1
            · intro w hSw
              (try dsimp only at hSw)
              go_simp
              try with_reducible rfl
            try simp only [Act.put, List.setIfInBounds_toArray, List.set_cons_zero, List.set_cons_succ]
            refine wpAnyH_take (i := 6) (oi := ⟨some 100, _, _, _, _, _⟩) (v := ?_) rfl (by kernel_rfl) (by kernel_rfl) (by kernel_rfl) (fun _ _ _ h => h) (Or.inl ⟨by rfl, ?_⟩) (by assumption) ?_
            rotate_left 1
            · intro w hSw
              (try dsimp only at hSw)
              go_simp
              try with_reducible rfl
            try simp only [Act.put, List.setIfInBounds_toArray, List.set_cons_zero, List.set_cons_succ]
            refine wpAnyH_take (i := 7) (oi := ⟨some 101, _, _, _, _, _⟩) (v := ?_) rfl (by kernel_rfl) (by kernel_rfl) (by kernel_rfl) (fun _ _ _ h => h) (Or.inl ⟨by rfl, ?_⟩) (by assumption) ?_
            rotate_left 1
            · intro w hSw
              (try dsimp only at hSw)
              go_simp
              try with_reducible rfl
            try simp only [Act.put, List.setIfInBounds_toArray, List.set_cons_zero, List.set_cons_succ]
            refine wpAnyH_take (i := 8) (oi := ⟨some 102, _, _, _, _, _⟩) (v := ?_) rfl (by kernel_rfl) (by kernel_rfl) (by kernel_rfl) (fun _ _ _ h => h) (Or.inl ⟨by rfl, ?_⟩) (by assumption) ?_
            rotate_left 1
            · intro w hSw
              (try dsimp only at hSw)
              go_simp
              try with_reducible rfl
            try simp only [Act.put, List.setIfInBounds_toArray, List.set_cons_zero, List.set_cons_succ]
            refine wpAnyH_take (i := 9) (oi := ⟨some 103, _, _, _, _, _⟩) (v := ?_) rfl (by kernel_rfl) (by kernel_rfl) (by kernel_rfl) (fun _ _ _ h => h) (Or.inl ⟨by rfl, ?_⟩) (by assumption) ?_
            rotate_left 1
            · intro w hSw
              (try dsimp only at hSw)
              go_simp
              try with_reducible rfl
            try simp only [Act.put, List.setIfInBounds_toArray, List.set_cons_zero, List.set_cons_succ]
            refine wpAnyH_take (i := 10) (oi := ⟨some 104, _, _, _, _, _⟩) (v := ?_) rfl (by kernel_rfl) (by kernel_rfl) (by kernel_rfl) (fun _ _ _ h => h) (Or.inl ⟨by rfl, ?_⟩) (by assumption) ?_
            rotate_left 1
            · intro w hSw
              (try dsimp only at hSw)
              go_simp
              try with_reducible rfl
            try simp only [Act.put, List.setIfInBounds_toArray, List.set_cons_zero, List.set_cons_succ]
            refine wpAnyH_take (i := 11) (oi := ⟨some 105, _, _, _, _, _⟩) (v := ?_) rfl (by kernel_rfl) (by kernel_rfl) (by kernel_rfl) (fun _ _ _ h => h) (Or.inl ⟨by rfl, ?_⟩) (by assumption) ?_
            rotate_left 1
            · intro w hSw
              (try dsimp only at hSw)
              go_simp
              try with_reducible rfl
            try simp only [Act.put, List.setIfInBounds_toArray, List.set_cons_zero, List.set_cons_succ]
            refine wpAnyH_take (i := 12) (oi := ⟨some 106, _, _, _, _, _⟩) (v := ?_) rfl (by kernel_rfl) (by kernel_rfl) (by kernel_rfl) (fun _ _ _ h => h) (Or.inl ⟨by rfl, ?_⟩) (by assumption) ?_
            rotate_left 1
            · intro w hSw
              (try dsimp only at hSw)
              go_simp
              try with_reducible rfl
            try simp only [Act.put, List.setIfInBounds_toArray, List.set_cons_zero, List.set_cons_succ]
            refine wpAnyH_take (i := 13) (oi := ⟨some 107, _, _, _, _, _⟩) (v := ?_) rfl (by kernel_rfl) (by kernel_rfl) (by kernel_rfl) (fun _ _ _ h => h) (Or.inl ⟨by rfl, ?_⟩) (by assumption) ?_
            rotate_left 1
            · intro w hSw
              (try dsimp only at hSw)
              go_simp
              try with_reducible rfl
            try simp only [Act.put, List.setIfInBounds_toArray, List.set_cons_zero, List.set_cons_succ]
            refine wpAnyH_take (i := 14) (oi := ⟨some 108, _, _, _, _, _⟩) (v := ?_) rfl (by kernel_rfl) (by kernel_rfl) (by kernel_rfl) (fun _ _ _ h => h) (Or.inl ⟨by rfl, ?_⟩) (by assumption) ?_
            rotate_left 1
            · intro w hSw
              (try dsimp only at hSw)
              go_simp
              try with_reducible rfl
            try simp only [Act.put, List.setIfInBounds_toArray, List.set_cons_zero, List.set_cons_succ]
            refine wpAnyH_take (i := 15) (oi := ⟨some 109, _, _, _, _, _⟩) (v := ?_) rfl (by kernel_rfl) (by kernel_rfl) (by kernel_rfl) (fun _ _ _ h => h) (Or.inl ⟨by rfl, ?_⟩) (by assumption) ?_
            rotate_left 1
            · intro w hSw
              (try dsimp only at hSw)
              go_simp
              try with_reducible rfl
            try simp only [Act.put, List.setIfInBounds_toArray, List.set_cons_zero, List.set_cons_succ]
            refine wpAnyH_take (i := 16) (oi := ⟨some 110, _, _, _, _, _⟩) (v := ?_) rfl (by kernel_rfl) (by kernel_rfl) (by kernel_rfl) (fun _ _ _ h => h) (Or.inl ⟨by rfl, ?_⟩) (by assumption) ?_
            rotate_left 1
            · intro w hSw
              (try dsimp only at hSw)
              go_simp
              try with_reducible rfl
            try simp only [Act.put, List.setIfInBounds_toArray, List.set_cons_zero, List.set_cons_succ]
            refine wpAnyH_done (by kernel_rfl) ?_ _
            go_wp2
            go_meet
            exact ⟨rfl, (Nx.refl _).drew⟩
          case rest =>
            obtain ⟨rfl, hx12⟩ := hcut
            obtain ⟨w13, hw13⟩ : ∃ w13, w13 = wc := ⟨_, rfl⟩
            subst hw13
            obtain ⟨p0, p1, p2⟩ := HPX.out w13 hx12
            have h913 := h912.trans hx12
            obtain ⟨c0, c1, c2⟩ := HB5.out w13 (HH9.out.trans h913)
            go_wp2_with fail
            refine (HW2K.out Z cz w13 (HH9.out.trans h913) (hZ12.nx hx12)).mono ?_
            rintro e w14 ⟨Zv, cv, rfl, hV, hn14⟩
            have hVl := HG2.out
            obtain ⟨vb, voff, rfl, _, hvb, _, hvc⟩ := hV.open_ (Nx.refl _) (by rw [hVl]; omega)
            have xV : w14.cell? ⟨vb, voff + n1, none⟩ = some (.int .i64 ar1) := by
              have h := hvc n1 (by rw [hVl]; omega) 0 _ rfl
              have h3 := HG3.out
              rw [List.getD_eq_getElem?_getD, List.getElem?_eq_getElem (by rw [hVl]; omega)] at h3
              rw [← h3]
              simpa using h
            have h914 := h913.trans hn14
            have h1214 := hx12.trans hn14
            have HXV := hide (fun W (hx : Nx w14 W) => (nx_cell hx hvb xV : W.cell? ⟨vb, voff + n1, none⟩ = some (.int .i64 ar1)))
            clear p0 p1 p2 c0 c1 c2 hV hvb hvc xV hVl hZ12 h912 hx12 h913 hn14 HG2 HG3 HW2K HFA1 HAT
            go_upto_region 15 with fail
            obtain ⟨wz, hwz⟩ : ∃ wz, wz = w14 := ⟨_, rfl⟩
            subst hwz
            obtain ⟨w12b, hw12b⟩ : ∃ w12b, w12b = w12 := ⟨_, rfl⟩
            subst hw12b
            have HHB := hide (fun W (hx : Nx wz W) => (⟨(HB5.out W ((HH9.out.trans h914).trans hx)).1, (HB5.out W ((HH9.out.trans h914).trans hx)).2.1, (HB5.out W ((HH9.out.trans h914).trans hx)).2.2, (HX9.out W (h914.trans hx)).2.2⟩ : W.cell? ⟨g, 0, none⟩ = some (.slice (some ⟨nb, noff, none⟩) nn ca) ∧ W.cell? ⟨g, 1, none⟩ = some (.slice (some ⟨ab, aoff, none⟩) nr cb) ∧ W.cell? ⟨g, 2, none⟩ = some (.slice B2 nbb cc) ∧ W.cell? ⟨tb, toff + n, none⟩ = some (.int .i64 T)))
            have HLT := hide (fun W (hx : Nx wz W) => HLT.out W ((HH9.out.trans h914).trans hx))
            go_cut [14, 15, 16] (fun v14 v15 v16 wx => ∃ (Pq : Nat) (Z3 : Option Addr) (n3 c3 : Nat) (lv3 ar3 : Int), v14 = .pointer (some ⟨Pq, 0, none⟩) ∧ v15 = .bool true ∧ v16 = .int .i64 0 ∧ wx.heap[Pq]? = some (.cells #[.slice Z3 n3 c3, .int .i64 lv3, .int .i64 ar3] 90 (0, 0)) ∧ ad ≤ lv3 ∧ ar3 ≤ T ∧ Nx wz wx)
            case first =>
              obtain ⟨_, W2, _, _, l1, _, _⟩ := HWL.out
              have h12 := Nx.refl wz
              refine wp_region_held_drew (S := fun w' => w'.cell? ⟨g, 0, none⟩ = some (.slice (some ⟨nb, noff, none⟩) nn ca) ∧ w'.cell? ⟨g, 1, none⟩ = some (.slice (some ⟨ab, aoff, none⟩) nr cb) ∧ w'.cell? ⟨g, 2, none⟩ = some (.slice B2 nbb cc) ∧ w'.cell? ⟨tb, toff + n, none⟩ = some (.int .i64 T)) (by kernel_rfl) ?_ (fun hHeld => ?_)
              · exact HHB.out _ h12.drew
              refine wpAnyH_take (i := 0) (oi := ⟨some 122, _, _, _, _, _⟩) (v := ?_) rfl (by kernel_rfl) (by kernel_rfl) (by kernel_rfl) (fun _ _ _ h => h) (Or.inl ⟨by rfl, ?_⟩) (by assumption) ?_
              rotate_left 1
              · intro w hSw
                (try dsimp only at hSw)
                go_simp
                try with_reducible rfl
              try simp only [Act.put, List.setIfInBounds_toArray, List.set_cons_zero, List.set_cons_succ]
              refine wpAnyH_take (i := 1) (oi := ⟨some 123, _, _, _, _, _⟩) (v := ?_) rfl (by kernel_rfl) (by kernel_rfl) (by kernel_rfl) (fun _ _ _ h => h) (Or.inl ⟨by rfl, ?_⟩) (by assumption) ?_
              rotate_left 1
              · intro w hSw
                (try dsimp only at hSw)
                go_simp
                try with_reducible rfl
              try simp only [Act.put, List.setIfInBounds_toArray, List.set_cons_zero, List.set_cons_succ]
              refine wpAnyH_take (i := 2) (oi := ⟨some 124, _, _, _, _, _⟩) (v := ?_) rfl (by kernel_rfl) (by kernel_rfl) (by kernel_rfl) (fun _ _ _ h => h) (Or.inl ⟨by rfl, ?_⟩) (by assumption) ?_
              rotate_left 1
              · intro w hSw
                (try dsimp only at hSw)
                go_simp
                try with_reducible rfl
              try simp only [Act.put, List.setIfInBounds_toArray, List.set_cons_zero, List.set_cons_succ]
              refine wpAnyH_take (i := 3) (oi := ⟨some 125, _, _, _, _, _⟩) (v := ?_) rfl (by kernel_rfl) (by kernel_rfl) (by kernel_rfl) (fun _ _ _ h => h) (Or.inl ⟨by rfl, ?_⟩) (by assumption) ?_
              rotate_left 1
              · intro w hSw
                (try dsimp only at hSw)
                go_simp
                try with_reducible rfl
              try simp only [Act.put, List.setIfInBounds_toArray, List.set_cons_zero, List.set_cons_succ]
              refine wpAnyH_take (i := 4) (oi := ⟨some 126, _, _, _, _, _⟩) (v := ?_) rfl (by kernel_rfl) (by kernel_rfl) (by kernel_rfl) (fun _ _ _ h => h) (Or.inl ⟨by rfl, ?_⟩) (by assumption) ?_
              rotate_left 1
              · intro w hSw
                (try dsimp only at hSw)
                go_simp
                try with_reducible rfl
              try simp only [Act.put, List.setIfInBounds_toArray, List.set_cons_zero, List.set_cons_succ]
              refine wpAnyH_take (i := 5) (oi := ⟨some 127, _, _, _, _, _⟩) (v := ?_) rfl (by kernel_rfl) (by kernel_rfl) (by kernel_rfl) (fun _ _ _ h => h) (Or.inl ⟨by rfl, ?_⟩) (by assumption) ?_
              rotate_left 1
              · intro w hSw
                (try dsimp only at hSw)
                go_simp
                try with_reducible rfl
              try simp only [Act.put, List.setIfInBounds_toArray, List.set_cons_zero, List.set_cons_succ]
              refine wpAnyH_take (i := 6) (oi := ⟨some 128, _, _, _, _, _⟩) (v := ?_) rfl (by kernel_rfl) (by kernel_rfl) (by kernel_rfl) (fun _ _ _ h => h) (Or.inl ⟨by rfl, ?_⟩) (by assumption) ?_
              rotate_left 1
              · intro w hSw
                (try dsimp only at hSw)
                go_simp
                try with_reducible rfl
              try simp only [Act.put, List.setIfInBounds_toArray, List.set_cons_zero, List.set_cons_succ]
              refine wpAnyH_take (i := 7) (oi := ⟨some 129, _, _, _, _, _⟩) (v := ?_) rfl (by kernel_rfl) (by kernel_rfl) (by kernel_rfl) (fun _ _ _ h => h) (Or.inl ⟨by rfl, ?_⟩) (by assumption) ?_
              rotate_left 1
              · intro w hSw
                (try dsimp only at hSw)
                go_simp
                try with_reducible rfl
              try simp only [Act.put, List.setIfInBounds_toArray, List.set_cons_zero, List.set_cons_succ]
              refine wpAnyH_take (i := 8) (oi := ⟨some 130, _, _, _, _, _⟩) (v := ?_) rfl (by kernel_rfl) (by kernel_rfl) (by kernel_rfl) (fun _ _ _ h => h) (Or.inl ⟨by rfl, ?_⟩) (by assumption) ?_
              rotate_left 1
              · intro w hSw
                (try dsimp only at hSw)
                go_simp
                try with_reducible rfl
              try simp only [Act.put, List.setIfInBounds_toArray, List.set_cons_zero, List.set_cons_succ]
              refine wpAnyH_ready (rs := [9, 14]) (by kernel_rfl) (by simp) ?_
              refine AllReadyH.cons rfl (fun K hK => ?_) ?_
              · go_simp
                go_at_call 60
                refine (HLT.out _ (h12.drew)).mono ?_
                rintro e w15 ⟨k3, n3, lv3, ar3, is3, Z3, c3, _, _, rfl, _, hn15, hL3⟩
                have hq3 : is3 = true ∧ ad ≤ lv3 ∧ ar3 ≤ T := by
                  obtain ⟨hi, hy⟩ := hL3 L HLO.out
                  have hi' : is3 = true := by rw [hi]; exact decide_eq_true HL0.out
                  obtain ⟨a, _, _, b, _⟩ := hy hi'
                  exact ⟨hi', by rw [a]; exact HLAD.out, by rw [b]; exact HLP.out⟩
                obtain ⟨hi3, hv3, ha3⟩ := hq3
                subst hi3
                have HV3 := hide hv3
                have HA3 := hide ha3
                clear hL3 hv3 ha3
                have h15 := h12.drew.trans hn15
                go_simp
                refine hK.out _ _ (HHB.out _ h15) (fun hHeld => ?_)
                clear hK K
                try simp only [Act.put, List.setIfInBounds_toArray, List.set_cons_zero, List.set_cons_succ]
                refine wpAnyH_take (i := 10) (oi := ⟨some 121, _, _, _, _, _⟩) (v := ?_) rfl (by kernel_rfl) (by kernel_rfl) (by kernel_rfl) (fun _ _ _ h => h) (Or.inl ⟨by rfl, ?_⟩) (by assumption) ?_
                rotate_left 1
                · intro w hSw
                  (try dsimp only at hSw)
                  go_simp
                  try with_reducible rfl
                try simp only [Act.put, List.setIfInBounds_toArray, List.set_cons_zero, List.set_cons_succ]
                refine wpAnyH_take (i := 11) (oi := ⟨some 132, _, _, _, _, _⟩) (v := ?_) rfl (by kernel_rfl) (by kernel_rfl) (by kernel_rfl) (fun _ _ _ h => h) (Or.inl ⟨by rfl, ?_⟩) (by assumption) ?_
                rotate_left 1
                · intro w hSw
                  (try dsimp only at hSw)
                  go_simp
                  try with_reducible rfl
                try simp only [Act.put, List.setIfInBounds_toArray, List.set_cons_zero, List.set_cons_succ]
                refine wpAnyH_take (i := 12) (oi := ⟨some 133, _, _, _, _, _⟩) (v := ?_) rfl (by kernel_rfl) (by kernel_rfl) (by kernel_rfl) (fun _ _ _ h => h) (Or.inl ⟨by rfl, ?_⟩) (by assumption) ?_
                rotate_left 1
                · intro w hSw
                  (try dsimp only at hSw)
                  go_simp
                  try with_reducible rfl
                try simp only [Act.put, List.setIfInBounds_toArray, List.set_cons_zero, List.set_cons_succ]
                refine wpAnyH_take (i := 13) (oi := ⟨some 134, _, _, _, _, _⟩) (v := ?_) rfl (by kernel_rfl) (by kernel_rfl) (by kernel_rfl) (fun _ _ _ h => h) (Or.inl ⟨by rfl, ?_⟩) (by assumption) ?_
                rotate_left 1
                · intro w hSw
                  (try dsimp only at hSw)
                  go_simp
                  try with_reducible rfl
                try simp only [Act.put, List.setIfInBounds_toArray, List.set_cons_zero, List.set_cons_succ]
                refine wpAnyH_ready (rs := [14]) (by kernel_rfl) (by simp) ?_
                refine AllReadyH.cons rfl (fun K hK => ?_) AllReadyH.nil
                · go_simp
                  obtain ⟨Pq, hPq⟩ : ∃ Pq, Pq = w15.heap.size := ⟨_, rfl⟩
                  have HPq := hide hPq
                  rw [← hPq]
                  clear hPq
                  refine hK.out _ _ (HHB.out _ (h15.alloc _)) (fun hHeld => ?_)
                  clear hK K
                  try simp only [Act.put, List.setIfInBounds_toArray, List.set_cons_zero, List.set_cons_succ]
                  obtain ⟨WQ, hWQ⟩ : ∃ WQ, WQ = w15.alloc (.cells #[.slice none 0 0, .int .i64 0, .int .i64 0] 90) := ⟨_, rfl⟩
                  have b8 : WQ.heap[Pq]? = some (.cells #[.slice none 0 0, .int .i64 0, .int .i64 0] 90 (0, 0)) := by rw [hWQ]; exact hnew HPq.out
                  have hQ : Nx wz WQ := hWQ ▸ h15.alloc _
                  have hPl : wz.heap.size ≤ Pq := by rw [HPq.out]; exact h15.sz
                  rw [← hWQ]
                  rw [← hWQ] at hHeld
                  clear hWQ
                  have q0 : WQ.cell? ⟨Pq, 0, none⟩ = some (.slice none 0 0) := (cell_of_row _ _ 0 _ _ _ b8).trans rfl
                  have q1 : WQ.cell? ⟨Pq, 1, none⟩ = some (.int .i64 0) := (cell_of_row _ _ 1 _ _ _ b8).trans rfl
                  have q2 : WQ.cell? ⟨Pq, 2, none⟩ = some (.int .i64 0) := (cell_of_row _ _ 2 _ _ _ b8).trans rfl
                  have f0 := frozen_blkQ (j := 0) b8
                  have f1 := frozen_blkQ (j := 1) b8
                  have f2 := frozen_blkQ (j := 2) b8
                  have hPx := lt_of_heap b8
                  refine wpAnyH_ready (rs := [15]) (by kernel_rfl) (by simp) ?_
                  refine AllReadyH.cons rfl (fun K hK => ?_) AllReadyH.nil
                  go_simp
                  have s1 := Nx.setCell hQ (p := ⟨Pq, 0, none⟩) hPl (.slice Z3 n3 c3)
                  have s2 := Nx.setCell s1 (p := ⟨Pq, 1, none⟩) hPl (.int .i64 lv3)
                  have s3 := Nx.setCell s2 (p := ⟨Pq, 2, none⟩) hPl (.int .i64 ar3)
                  refine hK.out _ _ (HHB.out _ s3) (fun hHeld => ?_)
                  clear hK K
                  try simp only [Act.put, List.setIfInBounds_toArray, List.set_cons_zero, List.set_cons_succ]
                  refine wpAnyH_take (i := 16) (oi := ⟨some 15, _, _, _, _, _⟩) (v := ?_) rfl (by kernel_rfl) (by kernel_rfl) (by kernel_rfl) (fun _ _ _ h => h) (Or.inl ⟨by rfl, ?_⟩) (by assumption) ?_
                  rotate_left 1
                  · intro w hSw
                    (try dsimp only at hSw)
                    go_simp
                    try with_reducible rfl
                  try simp only [Act.put, List.setIfInBounds_toArray, List.set_cons_zero, List.set_cons_succ]
                  refine wpAnyH_take (i := 17) (oi := ⟨some 16, _, _, _, _, _⟩) (v := ?_) rfl (by kernel_rfl) (by kernel_rfl) (by kernel_rfl) (fun _ _ _ h => h) (Or.inl ⟨by rfl, ?_⟩) (by assumption) ?_
                  rotate_left 1
                  · intro w hSw
                    (try dsimp only at hSw)
                    go_simp
                    try with_reducible rfl
                  try simp only [Act.put, List.setIfInBounds_toArray, List.set_cons_zero, List.set_cons_succ]
                  refine wpAnyH_done (by kernel_rfl) ?_ _
                  go_wp2
                  go_meet
                  exact ⟨Pq, Z3, n3, c3, lv3, ar3, rfl, rfl, rfl, heap_set (heap_set (heap_set b8)), HV3.out, HA3.out, s3⟩
              refine AllReadyH.cons rfl (fun K hK => ?_) AllReadyH.nil
              · go_simp
                obtain ⟨Pq, hPq⟩ : ∃ Pq, Pq = wz.heap.size := ⟨_, rfl⟩
                have HPq := hide hPq
                rw [← hPq]
                clear hPq
                refine hK.out _ _ (HHB.out _ (h12.drew.alloc _)) (fun hHeld => ?_)
                clear hK K
                try simp only [Act.put, List.setIfInBounds_toArray, List.set_cons_zero, List.set_cons_succ]
                have hPl : wz.heap.size ≤ Pq := by rw [HPq.out]; exact h12.drew.sz
                refine wpAnyH_ready (rs := [9]) (by kernel_rfl) (by simp) ?_
                refine AllReadyH.cons rfl (fun K hK => ?_) AllReadyH.nil
                · go_simp
                  go_at_call 60
                  refine (HLT.out _ ((h12.drew.alloc _))).mono ?_
                  rintro e w15 ⟨k3, n3, lv3, ar3, is3, Z3, c3, _, _, rfl, _, hn15, hL3⟩
                  have hq3 : is3 = true ∧ ad ≤ lv3 ∧ ar3 ≤ T := by
                    obtain ⟨hi, hy⟩ := hL3 L HLO.out
                    have hi' : is3 = true := by rw [hi]; exact decide_eq_true HL0.out
                    obtain ⟨a, _, _, b, _⟩ := hy hi'
                    exact ⟨hi', by rw [a]; exact HLAD.out, by rw [b]; exact HLP.out⟩
                  obtain ⟨hi3, hv3, ha3⟩ := hq3
                  subst hi3
                  have HV3 := hide hv3
                  have HA3 := hide ha3
                  clear hL3 hv3 ha3
                  have h15 := (h12.drew.alloc _).trans hn15
                  have b8 : w15.heap[Pq]? = some (.cells #[.slice none 0 0, .int .i64 0, .int .i64 0] 90 (0, 0)) := (hn15.block Pq (by have := HPq.out; simp; omega)).trans (hnew HPq.out)
                  go_simp
                  refine hK.out _ _ (HHB.out _ h15) (fun hHeld => ?_)
                  clear hK K
                  try simp only [Act.put, List.setIfInBounds_toArray, List.set_cons_zero, List.set_cons_succ]
                  refine wpAnyH_take (i := 10) (oi := ⟨some 121, _, _, _, _, _⟩) (v := ?_) rfl (by kernel_rfl) (by kernel_rfl) (by kernel_rfl) (fun _ _ _ h => h) (Or.inl ⟨by rfl, ?_⟩) (by assumption) ?_
                  rotate_left 1
                  · intro w hSw
                    (try dsimp only at hSw)
                    go_simp
                    try with_reducible rfl
                  try simp only [Act.put, List.setIfInBounds_toArray, List.set_cons_zero, List.set_cons_succ]
                  refine wpAnyH_take (i := 11) (oi := ⟨some 132, _, _, _, _, _⟩) (v := ?_) rfl (by kernel_rfl) (by kernel_rfl) (by kernel_rfl) (fun _ _ _ h => h) (Or.inl ⟨by rfl, ?_⟩) (by assumption) ?_
                  rotate_left 1
                  · intro w hSw
                    (try dsimp only at hSw)
                    go_simp
                    try with_reducible rfl
                  try simp only [Act.put, List.setIfInBounds_toArray, List.set_cons_zero, List.set_cons_succ]
                  refine wpAnyH_take (i := 12) (oi := ⟨some 133, _, _, _, _, _⟩) (v := ?_) rfl (by kernel_rfl) (by kernel_rfl) (by kernel_rfl) (fun _ _ _ h => h) (Or.inl ⟨by rfl, ?_⟩) (by assumption) ?_
                  rotate_left 1
                  · intro w hSw
                    (try dsimp only at hSw)
                    go_simp
                    try with_reducible rfl
                  try simp only [Act.put, List.setIfInBounds_toArray, List.set_cons_zero, List.set_cons_succ]
                  refine wpAnyH_take (i := 13) (oi := ⟨some 134, _, _, _, _, _⟩) (v := ?_) rfl (by kernel_rfl) (by kernel_rfl) (by kernel_rfl) (fun _ _ _ h => h) (Or.inl ⟨by rfl, ?_⟩) (by assumption) ?_
                  rotate_left 1
                  · intro w hSw
                    (try dsimp only at hSw)
                    go_simp
                    try with_reducible rfl
                  try simp only [Act.put, List.setIfInBounds_toArray, List.set_cons_zero, List.set_cons_succ]
                  obtain ⟨WQ, hWQ⟩ : ∃ WQ, WQ = w15 := ⟨_, rfl⟩
                  subst hWQ
                  have hQ : Nx wz WQ := h15
                  have q0 : WQ.cell? ⟨Pq, 0, none⟩ = some (.slice none 0 0) := (cell_of_row _ _ 0 _ _ _ b8).trans rfl
                  have q1 : WQ.cell? ⟨Pq, 1, none⟩ = some (.int .i64 0) := (cell_of_row _ _ 1 _ _ _ b8).trans rfl
                  have q2 : WQ.cell? ⟨Pq, 2, none⟩ = some (.int .i64 0) := (cell_of_row _ _ 2 _ _ _ b8).trans rfl
                  have f0 := frozen_blkQ (j := 0) b8
                  have f1 := frozen_blkQ (j := 1) b8
                  have f2 := frozen_blkQ (j := 2) b8
                  have hPx := lt_of_heap b8
                  refine wpAnyH_ready (rs := [15]) (by kernel_rfl) (by simp) ?_
                  refine AllReadyH.cons rfl (fun K hK => ?_) AllReadyH.nil
                  go_simp
                  have s1 := Nx.setCell hQ (p := ⟨Pq, 0, none⟩) hPl (.slice Z3 n3 c3)
                  have s2 := Nx.setCell s1 (p := ⟨Pq, 1, none⟩) hPl (.int .i64 lv3)
                  have s3 := Nx.setCell s2 (p := ⟨Pq, 2, none⟩) hPl (.int .i64 ar3)
                  refine hK.out _ _ (HHB.out _ s3) (fun hHeld => ?_)
                  clear hK K
                  try simp only [Act.put, List.setIfInBounds_toArray, List.set_cons_zero, List.set_cons_succ]
                  refine wpAnyH_take (i := 16) (oi := ⟨some 15, _, _, _, _, _⟩) (v := ?_) rfl (by kernel_rfl) (by kernel_rfl) (by kernel_rfl) (fun _ _ _ h => h) (Or.inl ⟨by rfl, ?_⟩) (by assumption) ?_
                  rotate_left 1
                  · intro w hSw
                    (try dsimp only at hSw)
                    go_simp
                    try with_reducible rfl
                  try simp only [Act.put, List.setIfInBounds_toArray, List.set_cons_zero, List.set_cons_succ]
                  refine wpAnyH_take (i := 17) (oi := ⟨some 16, _, _, _, _, _⟩) (v := ?_) rfl (by kernel_rfl) (by kernel_rfl) (by kernel_rfl) (fun _ _ _ h => h) (Or.inl ⟨by rfl, ?_⟩) (by assumption) ?_
                  rotate_left 1
                  · intro w hSw
                    (try dsimp only at hSw)
                    go_simp
                    try with_reducible rfl
                  try simp only [Act.put, List.setIfInBounds_toArray, List.set_cons_zero, List.set_cons_succ]
                  refine wpAnyH_done (by kernel_rfl) ?_ _
                  go_wp2
                  go_meet
                  exact ⟨Pq, Z3, n3, c3, lv3, ar3, rfl, rfl, rfl, heap_set (heap_set (heap_set b8)), HV3.out, HA3.out, s3⟩
            case rest =>
              obtain ⟨Pq, Z3, n3, c3, lv3, ar3, rfl, rfl, rfl, b8, hl3, ha3, hx14⟩ := hcut
              obtain ⟨w15, hw15⟩ : ∃ w15, w15 = wc := ⟨_, rfl⟩
              subst hw15
              obtain ⟨_, W2, _, W4, l1, _, l3⟩ := HWL.out
              have tge : decide (lv3 ≥ ad) = true := decide_eq_true hl3
              have tle : decide (ar3 ≤ T) = true := decide_eq_true ha3
              have q1 : w15.cell? ⟨Pq, 1, none⟩ = some (.int .i64 lv3) := (cell_of_row w15 _ 1 _ _ _ b8).trans rfl
              have q2 : w15.cell? ⟨Pq, 2, none⟩ = some (.int .i64 ar3) := (cell_of_row w15 _ 2 _ _ _ b8).trans rfl
              have hPx := lt_of_heap b8
              have HS16 := hide (fun W (hx : Nx w15 W) => (⟨(HPX.out W ((h1214.trans hx14).trans hx)).2.2, HXV.out W (hx14.trans hx), nx_cell hx hPx q1, nx_cell hx hPx q2, (HX9.out W ((h914.trans hx14).trans hx)).2.2⟩ : W.cell? ⟨p, 2, none⟩ = some (.int .i64 ar1) ∧ W.cell? ⟨vb, voff + n1, none⟩ = some (.int .i64 ar1) ∧ W.cell? ⟨Pq, 1, none⟩ = some (.int .i64 lv3) ∧ W.cell? ⟨Pq, 2, none⟩ = some (.int .i64 ar3) ∧ W.cell? ⟨tb, toff + n, none⟩ = some (.int .i64 T)))
              have HEND := hide ((HH9.out.trans h914).trans hx14)
              clear q1 q2 b8 hl3 ha3 h914 h1214 hx14 hPx
              go_upto_region 16 with fail
              refine wp_region_held_drew (S := fun w' => w'.cell? ⟨p, 2, none⟩ = some (.int .i64 ar1) ∧ w'.cell? ⟨vb, voff + n1, none⟩ = some (.int .i64 ar1) ∧ w'.cell? ⟨Pq, 1, none⟩ = some (.int .i64 lv3) ∧ w'.cell? ⟨Pq, 2, none⟩ = some (.int .i64 ar3) ∧ w'.cell? ⟨tb, toff + n, none⟩ = some (.int .i64 T)) (by kernel_rfl) ?_ (fun hHeld => ?_)
              · exact HS16.out _ (Nx.refl _).drew
              refine wpAnyH_take (i := 0) (oi := ⟨some 135, _, _, _, _, _⟩) (v := ?_) rfl (by kernel_rfl) (by kernel_rfl) (by kernel_rfl) (fun _ _ _ h => h) (Or.inl ⟨by rfl, ?_⟩) (by assumption) ?_
              rotate_left 1
              · intro w hSw
                (try dsimp only at hSw)
                go_simp
                try with_reducible rfl
              try simp only [Act.put, List.setIfInBounds_toArray, List.set_cons_zero, List.set_cons_succ]
              refine wpAnyH_take (i := 1) (oi := ⟨some 136, _, _, _, _, _⟩) (v := ?_) rfl (by kernel_rfl) (by kernel_rfl) (by kernel_rfl) (fun _ _ _ h => h) (Or.inl ⟨by rfl, ?_⟩) (by assumption) ?_
              rotate_left 1
              · intro w hSw
                (try dsimp only at hSw)
                go_simp
                try with_reducible rfl
              try simp only [Act.put, List.setIfInBounds_toArray, List.set_cons_zero, List.set_cons_succ]
              refine wpAnyH_take (i := 2) (oi := ⟨some 137, _, _, _, _, _⟩) (v := ?_) rfl (by kernel_rfl) (by kernel_rfl) (by kernel_rfl) (fun _ _ _ h => h) (Or.inl ⟨by rfl, ?_⟩) (by assumption) ?_
              rotate_left 1
              · intro w hSw
                (try dsimp only at hSw)
                go_simp
                try with_reducible rfl
              try simp only [Act.put, List.setIfInBounds_toArray, List.set_cons_zero, List.set_cons_succ]
              refine wpAnyH_take (i := 3) (oi := ⟨some 138, _, _, _, _, _⟩) (v := ?_) rfl (by kernel_rfl) (by kernel_rfl) (by kernel_rfl) (fun _ _ _ h => h) (Or.inl ⟨by rfl, ?_⟩) (by assumption) ?_
              rotate_left 1
              · intro w hSw
                (try dsimp only at hSw)
                go_simp
                try with_reducible rfl
              try simp only [Act.put, List.setIfInBounds_toArray, List.set_cons_zero, List.set_cons_succ]
              refine wpAnyH_take (i := 4) (oi := ⟨some 139, _, _, _, _, _⟩) (v := ?_) rfl (by kernel_rfl) (by kernel_rfl) (by kernel_rfl) (fun _ _ _ h => h) (Or.inl ⟨by rfl, ?_⟩) (by assumption) ?_
              rotate_left 1
              · intro w hSw
                (try dsimp only at hSw)
                go_simp
                try with_reducible rfl
              try simp only [Act.put, List.setIfInBounds_toArray, List.set_cons_zero, List.set_cons_succ]
              refine wpAnyH_take (i := 5) (oi := ⟨some 140, _, _, _, _, _⟩) (v := ?_) rfl (by kernel_rfl) (by kernel_rfl) (by kernel_rfl) (fun _ _ _ h => h) (Or.inl ⟨by rfl, ?_⟩) (by assumption) ?_
              rotate_left 1
              · intro w hSw
                (try dsimp only at hSw)
                go_simp
                try with_reducible rfl
              try simp only [Act.put, List.setIfInBounds_toArray, List.set_cons_zero, List.set_cons_succ]
              refine wpAnyH_take (i := 6) (oi := ⟨some 141, _, _, _, _, _⟩) (v := ?_) rfl (by kernel_rfl) (by kernel_rfl) (by kernel_rfl) (fun _ _ _ h => h) (Or.inl ⟨by rfl, ?_⟩) (by assumption) ?_
              rotate_left 1
              · intro w hSw
                (try dsimp only at hSw)
                go_simp
                try with_reducible rfl
              try simp only [Act.put, List.setIfInBounds_toArray, List.set_cons_zero, List.set_cons_succ]
              refine wpAnyH_take (i := 7) (oi := ⟨some 142, _, _, _, _, _⟩) (v := ?_) rfl (by kernel_rfl) (by kernel_rfl) (by kernel_rfl) (fun _ _ _ h => h) (Or.inl ⟨by rfl, ?_⟩) (by assumption) ?_
              rotate_left 1
              · intro w hSw
                (try dsimp only at hSw)
                go_simp
                try with_reducible rfl
              try simp only [Act.put, List.setIfInBounds_toArray, List.set_cons_zero, List.set_cons_succ]
              refine wpAnyH_take (i := 8) (oi := ⟨some 143, _, _, _, _, _⟩) (v := ?_) rfl (by kernel_rfl) (by kernel_rfl) (by kernel_rfl) (fun _ _ _ h => h) (Or.inl ⟨by rfl, ?_⟩) (by assumption) ?_
              rotate_left 1
              · intro w hSw
                (try dsimp only at hSw)
                go_simp
                try with_reducible rfl
              try simp only [Act.put, List.setIfInBounds_toArray, List.set_cons_zero, List.set_cons_succ]
              refine wpAnyH_take (i := 9) (oi := ⟨some 144, _, _, _, _, _⟩) (v := ?_) rfl (by kernel_rfl) (by kernel_rfl) (by kernel_rfl) (fun _ _ _ h => h) (Or.inl ⟨by rfl, ?_⟩) (by assumption) ?_
              rotate_left 1
              · intro w hSw
                (try dsimp only at hSw)
                go_simp
                try with_reducible rfl
              try simp only [Act.put, List.setIfInBounds_toArray, List.set_cons_zero, List.set_cons_succ]
              refine wpAnyH_take (i := 10) (oi := ⟨some 145, _, _, _, _, _⟩) (v := ?_) rfl (by kernel_rfl) (by kernel_rfl) (by kernel_rfl) (fun _ _ _ h => h) (Or.inl ⟨by rfl, ?_⟩) (by assumption) ?_
              rotate_left 1
              · intro w hSw
                (try dsimp only at hSw)
                go_simp
                try with_reducible rfl
              try simp only [Act.put, List.setIfInBounds_toArray, List.set_cons_zero, List.set_cons_succ]
              refine wpAnyH_take (i := 11) (oi := ⟨some 146, _, _, _, _, _⟩) (v := ?_) rfl (by kernel_rfl) (by kernel_rfl) (by kernel_rfl) (fun _ _ _ h => h) (Or.inl ⟨by rfl, ?_⟩) (by assumption) ?_
              rotate_left 1
              · intro w hSw
                (try dsimp only at hSw)
                go_simp
                try with_reducible rfl
              try simp only [Act.put, List.setIfInBounds_toArray, List.set_cons_zero, List.set_cons_succ]
              refine wpAnyH_take (i := 12) (oi := ⟨some 147, _, _, _, _, _⟩) (v := ?_) rfl (by kernel_rfl) (by kernel_rfl) (by kernel_rfl) (fun _ _ _ h => h) (Or.inl ⟨by rfl, ?_⟩) (by assumption) ?_
              rotate_left 1
              · intro w hSw
                (try dsimp only at hSw)
                go_simp
                try with_reducible rfl
              try simp only [Act.put, List.setIfInBounds_toArray, List.set_cons_zero, List.set_cons_succ]
              refine wpAnyH_take (i := 13) (oi := ⟨some 148, _, _, _, _, _⟩) (v := ?_) rfl (by kernel_rfl) (by kernel_rfl) (by kernel_rfl) (fun _ _ _ h => h) (Or.inl ⟨by rfl, ?_⟩) (by assumption) ?_
              rotate_left 1
              · intro w hSw
                (try dsimp only at hSw)
                go_simp
                try with_reducible rfl
              try simp only [Act.put, List.setIfInBounds_toArray, List.set_cons_zero, List.set_cons_succ]
              refine wpAnyH_take (i := 14) (oi := ⟨some 149, _, _, _, _, _⟩) (v := ?_) rfl (by kernel_rfl) (by kernel_rfl) (by kernel_rfl) (fun _ _ _ h => h) (Or.inl ⟨by rfl, ?_⟩) (by assumption) ?_
              rotate_left 1
              · intro w hSw
                (try dsimp only at hSw)
                go_simp
                try with_reducible rfl
              try simp only [Act.put, List.setIfInBounds_toArray, List.set_cons_zero, List.set_cons_succ]
              refine wpAnyH_take (i := 15) (oi := ⟨some 150, _, _, _, _, _⟩) (v := ?_) rfl (by kernel_rfl) (by kernel_rfl) (by kernel_rfl) (fun _ _ _ h => h) (Or.inl ⟨by rfl, ?_⟩) (by assumption) ?_
              rotate_left 1
              · intro w hSw
                (try dsimp only at hSw)
                go_simp
                try with_reducible rfl
              try simp only [Act.put, List.setIfInBounds_toArray, List.set_cons_zero, List.set_cons_succ]
              refine wpAnyH_take (i := 16) (oi := ⟨some 151, _, _, _, _, _⟩) (v := ?_) rfl (by kernel_rfl) (by kernel_rfl) (by kernel_rfl) (fun _ _ _ h => h) (Or.inl ⟨by rfl, ?_⟩) (by assumption) ?_
              rotate_left 1
              · intro w hSw
                (try dsimp only at hSw)
                go_simp
                try with_reducible rfl
              try simp only [Act.put, List.setIfInBounds_toArray, List.set_cons_zero, List.set_cons_succ]
              refine wpAnyH_take (i := 17) (oi := ⟨some 152, _, _, _, _, _⟩) (v := ?_) rfl (by kernel_rfl) (by kernel_rfl) (by kernel_rfl) (fun _ _ _ h => h) (Or.inl ⟨by rfl, ?_⟩) (by assumption) ?_
              rotate_left 1
              · intro w hSw
                (try dsimp only at hSw)
                go_simp
                try with_reducible rfl
              try simp only [Act.put, List.setIfInBounds_toArray, List.set_cons_zero, List.set_cons_succ]
              refine wpAnyH_take (i := 18) (oi := ⟨some 153, _, _, _, _, _⟩) (v := ?_) rfl (by kernel_rfl) (by kernel_rfl) (by kernel_rfl) (fun _ _ _ h => h) (Or.inl ⟨by rfl, ?_⟩) (by assumption) ?_
              rotate_left 1
              · intro w hSw
                (try dsimp only at hSw)
                go_simp
                try with_reducible rfl
              try simp only [Act.put, List.setIfInBounds_toArray, List.set_cons_zero, List.set_cons_succ]
              refine wpAnyH_take (i := 19) (oi := ⟨some 154, _, _, _, _, _⟩) (v := ?_) rfl (by kernel_rfl) (by kernel_rfl) (by kernel_rfl) (fun _ _ _ h => h) (Or.inl ⟨by rfl, ?_⟩) (by assumption) ?_
              rotate_left 1
              · intro w hSw
                (try dsimp only at hSw)
                go_simp
                try with_reducible rfl
              try simp only [Act.put, List.setIfInBounds_toArray, List.set_cons_zero, List.set_cons_succ]
              refine wpAnyH_take (i := 20) (oi := ⟨some 155, _, _, _, _, _⟩) (v := ?_) rfl (by kernel_rfl) (by kernel_rfl) (by kernel_rfl) (fun _ _ _ h => h) (Or.inl ⟨by rfl, ?_⟩) (by assumption) ?_
              rotate_left 1
              · intro w hSw
                (try dsimp only at hSw)
                go_simp
                try with_reducible rfl
              try simp only [Act.put, List.setIfInBounds_toArray, List.set_cons_zero, List.set_cons_succ]
              refine wpAnyH_take (i := 21) (oi := ⟨some 156, _, _, _, _, _⟩) (v := ?_) rfl (by kernel_rfl) (by kernel_rfl) (by kernel_rfl) (fun _ _ _ h => h) (Or.inl ⟨by rfl, ?_⟩) (by assumption) ?_
              rotate_left 1
              · intro w hSw
                (try dsimp only at hSw)
                go_simp
                try with_reducible rfl
              try simp only [Act.put, List.setIfInBounds_toArray, List.set_cons_zero, List.set_cons_succ]
              refine wpAnyH_take (i := 22) (oi := ⟨some 157, _, _, _, _, _⟩) (v := ?_) rfl (by kernel_rfl) (by kernel_rfl) (by kernel_rfl) (fun _ _ _ h => h) (Or.inl ⟨by rfl, ?_⟩) (by assumption) ?_
              rotate_left 1
              · intro w hSw
                (try dsimp only at hSw)
                go_simp
                try with_reducible rfl
              try simp only [Act.put, List.setIfInBounds_toArray, List.set_cons_zero, List.set_cons_succ]
              refine wpAnyH_take (i := 23) (oi := ⟨some 158, _, _, _, _, _⟩) (v := ?_) rfl (by kernel_rfl) (by kernel_rfl) (by kernel_rfl) (fun _ _ _ h => h) (Or.inl ⟨by rfl, ?_⟩) (by assumption) ?_
              rotate_left 1
              · intro w hSw
                (try dsimp only at hSw)
                go_simp
                try with_reducible rfl
              try simp only [Act.put, List.setIfInBounds_toArray, List.set_cons_zero, List.set_cons_succ]
              refine wpAnyH_take (i := 24) (oi := ⟨some 159, _, _, _, _, _⟩) (v := ?_) rfl (by kernel_rfl) (by kernel_rfl) (by kernel_rfl) (fun _ _ _ h => h) (Or.inl ⟨by rfl, ?_⟩) (by assumption) ?_
              rotate_left 1
              · intro w hSw
                (try dsimp only at hSw)
                go_simp
                try with_reducible rfl
              try simp only [Act.put, List.setIfInBounds_toArray, List.set_cons_zero, List.set_cons_succ]
              refine wpAnyH_take (i := 25) (oi := ⟨some 160, _, _, _, _, _⟩) (v := ?_) rfl (by kernel_rfl) (by kernel_rfl) (by kernel_rfl) (fun _ _ _ h => h) (Or.inl ⟨by rfl, ?_⟩) (by assumption) ?_
              rotate_left 1
              · intro w hSw
                (try dsimp only at hSw)
                go_simp
                try with_reducible rfl
              try simp only [Act.put, List.setIfInBounds_toArray, List.set_cons_zero, List.set_cons_succ]
              refine wpAnyH_take (i := 26) (oi := ⟨some 161, _, _, _, _, _⟩) (v := ?_) rfl (by kernel_rfl) (by kernel_rfl) (by kernel_rfl) (fun _ _ _ h => h) (Or.inl ⟨by rfl, ?_⟩) (by assumption) ?_
              rotate_left 1
              · intro w hSw
                (try dsimp only at hSw)
                go_simp
                try with_reducible rfl
              try simp only [Act.put, List.setIfInBounds_toArray, List.set_cons_zero, List.set_cons_succ]
              refine wpAnyH_take (i := 27) (oi := ⟨some 162, _, _, _, _, _⟩) (v := ?_) rfl (by kernel_rfl) (by kernel_rfl) (by kernel_rfl) (fun _ _ _ h => h) (Or.inl ⟨by rfl, ?_⟩) (by assumption) ?_
              rotate_left 1
              · intro w hSw
                (try dsimp only at hSw)
                go_simp
                try with_reducible rfl
              try simp only [Act.put, List.setIfInBounds_toArray, List.set_cons_zero, List.set_cons_succ]
              refine wpAnyH_take (i := 28) (oi := ⟨some 163, _, _, _, _, _⟩) (v := ?_) rfl (by kernel_rfl) (by kernel_rfl) (by kernel_rfl) (fun _ _ _ h => h) (Or.inl ⟨by rfl, ?_⟩) (by assumption) ?_
              rotate_left 1
              · intro w hSw
                (try dsimp only at hSw)
                go_simp
                try with_reducible rfl
              try simp only [Act.put, List.setIfInBounds_toArray, List.set_cons_zero, List.set_cons_succ]
              refine wpAnyH_take (i := 29) (oi := ⟨some 164, _, _, _, _, _⟩) (v := ?_) rfl (by kernel_rfl) (by kernel_rfl) (by kernel_rfl) (fun _ _ _ h => h) (Or.inl ⟨by rfl, ?_⟩) (by assumption) ?_
              rotate_left 1
              · intro w hSw
                (try dsimp only at hSw)
                go_simp
                try with_reducible rfl
              try simp only [Act.put, List.setIfInBounds_toArray, List.set_cons_zero, List.set_cons_succ]
              refine wpAnyH_take (i := 30) (oi := ⟨some 165, _, _, _, _, _⟩) (v := ?_) rfl (by kernel_rfl) (by kernel_rfl) (by kernel_rfl) (fun _ _ _ h => h) (Or.inl ⟨by rfl, ?_⟩) (by assumption) ?_
              rotate_left 1
              · intro w hSw
                (try dsimp only at hSw)
                go_simp
                try with_reducible rfl
              try simp only [Act.put, List.setIfInBounds_toArray, List.set_cons_zero, List.set_cons_succ]
              refine wpAnyH_take (i := 31) (oi := ⟨some 166, _, _, _, _, _⟩) (v := ?_) rfl (by kernel_rfl) (by kernel_rfl) (by kernel_rfl) (fun _ _ _ h => h) (Or.inl ⟨by rfl, ?_⟩) (by assumption) ?_
              rotate_left 1
              · intro w hSw
                (try dsimp only at hSw)
                go_simp
                try with_reducible rfl
              try simp only [Act.put, List.setIfInBounds_toArray, List.set_cons_zero, List.set_cons_succ]
              refine wpAnyH_take (i := 32) (oi := ⟨some 167, _, _, _, _, _⟩) (v := ?_) rfl (by kernel_rfl) (by kernel_rfl) (by kernel_rfl) (fun _ _ _ h => h) (Or.inl ⟨by rfl, ?_⟩) (by assumption) ?_
              rotate_left 1
              · intro w hSw
                (try dsimp only at hSw)
                go_simp
                try with_reducible rfl
              try simp only [Act.put, List.setIfInBounds_toArray, List.set_cons_zero, List.set_cons_succ]
              refine wpAnyH_take (i := 33) (oi := ⟨some 168, _, _, _, _, _⟩) (v := ?_) rfl (by kernel_rfl) (by kernel_rfl) (by kernel_rfl) (fun _ _ _ h => h) (Or.inl ⟨by rfl, ?_⟩) (by assumption) ?_
              rotate_left 1
              · intro w hSw
                (try dsimp only at hSw)
                go_simp
                try with_reducible rfl
              try simp only [Act.put, List.setIfInBounds_toArray, List.set_cons_zero, List.set_cons_succ]
              refine wpAnyH_take (i := 34) (oi := ⟨some 169, _, _, _, _, _⟩) (v := ?_) rfl (by kernel_rfl) (by kernel_rfl) (by kernel_rfl) (fun _ _ _ h => h) (Or.inl ⟨by rfl, ?_⟩) (by assumption) ?_
              rotate_left 1
              · intro w hSw
                (try dsimp only at hSw)
                go_simp
                try with_reducible rfl
              try simp only [Act.put, List.setIfInBounds_toArray, List.set_cons_zero, List.set_cons_succ]
              refine wpAnyH_take (i := 35) (oi := ⟨some 170, _, _, _, _, _⟩) (v := ?_) rfl (by kernel_rfl) (by kernel_rfl) (by kernel_rfl) (fun _ _ _ h => h) (Or.inl ⟨by rfl, ?_⟩) (by assumption) ?_
              rotate_left 1
              · intro w hSw
                (try dsimp only at hSw)
                go_simp
                try with_reducible rfl
              try simp only [Act.put, List.setIfInBounds_toArray, List.set_cons_zero, List.set_cons_succ]
              refine wpAnyH_take (i := 36) (oi := ⟨some 171, _, _, _, _, _⟩) (v := ?_) rfl (by kernel_rfl) (by kernel_rfl) (by kernel_rfl) (fun _ _ _ h => h) (Or.inl ⟨by rfl, ?_⟩) (by assumption) ?_
              rotate_left 1
              · intro w hSw
                (try dsimp only at hSw)
                go_simp
                try with_reducible rfl
              try simp only [Act.put, List.setIfInBounds_toArray, List.set_cons_zero, List.set_cons_succ]
              refine wpAnyH_take (i := 37) (oi := ⟨some 172, _, _, _, _, _⟩) (v := ?_) rfl (by kernel_rfl) (by kernel_rfl) (by kernel_rfl) (fun _ _ _ h => h) (Or.inl ⟨by rfl, ?_⟩) (by assumption) ?_
              rotate_left 1
              · intro w hSw
                (try dsimp only at hSw)
                go_simp
                try with_reducible rfl
              try simp only [Act.put, List.setIfInBounds_toArray, List.set_cons_zero, List.set_cons_succ]
              refine wpAnyH_ready (rs := [38]) (by kernel_rfl) (by simp) ?_
              refine AllReadyH.cons rfl (fun K hK => ?_) AllReadyH.nil
              go_simp
              go_at_call 49
              refine (w_ready _).mono ?_
              rintro e w16 ⟨rfl, hn16⟩
              have h16 := (Nx.refl w15).drew.trans hn16
              go_simp
              refine hK.out _ _ (HS16.out _ h16) (fun hHeld => ?_)
              clear hK K
              try simp only [Act.put, List.setIfInBounds_toArray, List.set_cons_zero, List.set_cons_succ]
              refine wpAnyH_take (i := 39) (oi := ⟨some 174, _, _, _, _, _⟩) (v := ?_) rfl (by kernel_rfl) (by kernel_rfl) (by kernel_rfl) (fun _ _ _ h => h) (Or.inl ⟨by rfl, ?_⟩) (by assumption) ?_
              rotate_left 1
              · intro w hSw
                (try dsimp only at hSw)
                go_simp
                try with_reducible rfl
              try simp only [Act.put, List.setIfInBounds_toArray, List.set_cons_zero, List.set_cons_succ]
              refine wpAnyH_take (i := 40) (oi := ⟨some 2, _, _, _, _, _⟩) (v := ?_) rfl (by kernel_rfl) (by kernel_rfl) (by kernel_rfl) (fun _ _ _ h => h) (Or.inl ⟨by rfl, ?_⟩) (by assumption) ?_
              rotate_left 1
              · intro w hSw
                (try dsimp only at hSw)
                go_simp
                try with_reducible rfl
              try simp only [Act.put, List.setIfInBounds_toArray, List.set_cons_zero, List.set_cons_succ]
              refine wpAnyH_done (by kernel_rfl) ?_ _
              go_wp2
              go_ret
              exact ⟨rfl, HT.out _ (HEND.out.trans h16)⟩
    · have HARM := hide hbad
      clear hbad HFA HLA HW1 HWK HAT
      by_cases hF : RF = 0
      · subst hF
        by_cases hC : CF = 0
        · subst hC
          have hn0 : n = 0 := by have := HARM.out; omega
          have tn : ((n : Int) == 0) = true := by rw [hn0]; rfl
          clear hn0
          go_wp2_with (first
            | (go_at_call 20; refine (HRF.out w6 (Nx.refl _)).mono ?_; rintro e w7 ⟨rfl, hn7⟩; (obtain ⟨d0, d1, d2⟩ := HB5.out w7 hn7))
            | (go_at_call 57; refine (HCF.out w7 hn7).mono ?_; rintro e w8 ⟨rfl, hn8⟩)
            | (go_at_call 49; refine (w_ready _).mono ?_; rintro e w12 ⟨rfl, hn12⟩))
          go_ret
          exact ⟨rfl, HT.out _ ((hn7.trans hn8).trans hn12)⟩
        · have tC : (CF != 0) = true := by simpa using hC
          go_wp2_with (first
            | (go_at_call 20; refine (HRF.out w6 (Nx.refl _)).mono ?_; rintro e w7 ⟨rfl, hn7⟩; (obtain ⟨d0, d1, d2⟩ := HB5.out w7 hn7))
            | (go_at_call 57; refine (HCF.out w7 hn7).mono ?_; rintro e w8 ⟨rfl, hn8⟩)
            | (go_at_call 49; refine (w_ready _).mono ?_; rintro e w12 ⟨rfl, hn12⟩))
          go_ret
          exact ⟨rfl, HT.out _ ((hn7.trans hn8).trans hn12)⟩
      · have tF : (RF != 0) = true := by simpa using hF
        go_wp2_with (first
          | (go_at_call 20; refine (HRF.out w6 (Nx.refl _)).mono ?_; rintro e w7 ⟨rfl, hn7⟩)
          | (go_at_call 49; refine (w_ready _).mono ?_; rintro e w12 ⟨rfl, hn12⟩))
        go_ret
        exact ⟨rfl, HT.out _ (hn7.trans hn12)⟩
end Go.Proofs.YtmpnilliichpfaaGreatDoor
