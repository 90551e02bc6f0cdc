/- jitkeep1.ReachIsFastest returns true. -/
import Derived.Test.YtmpnilliichpfaaGreatDoorQRdsR
import Derived.Test.YtmpnilliichpfaaGreatDoorQG32
import Derived.Test.YtmpnilliichpfaaGreatDoorQG48
import Derived.Test.YtmpnilliichpfaaGreatDoorQG56
import Derived.Test.YtmpnilliichpfaaGreatDoorQReady
import Derived.Test.YtmpnilliichpfaaGreatDoorQG21
import Derived.Deep.DeepCutAuto
namespace Go.Proofs.YtmpnilliichpfaaGreatDoor
open Go.RowKit

set_option maxRecDepth 100000 in
set_option maxHeartbeats 8000000 in
theorem w_lawRF (A : Option Addr) (n c : Nat) (w : World) (hn : n ≤ 9223372036854775807)
    (hL : 0 < n → ∃ b off, A = some ⟨b, off, none⟩ ∧ b < w.heap.size ∧ ∀ j, j < n → ∃ z : Int, w.cell? ⟨b, off + j, none⟩ = some (.int .i64 z) ∧ -9223372036854775808 ≤ z ∧ z ≤ 9223372036854775807) (htab : PowTab w) :
    Calls Tryz.prog 6 #[.slice A n c] w (TrueNx w) := by
  have hS0 : Str (w.alloc (.cells #[.slice A n c, .int .i64 0] 25)) w.heap.size 0 := str_new A n c w hn hL
  clear hL
  go_enter Tryz.func6, Tryz.ntmps6
  go_wp2_with fail
  refine (w_RightRoads _ 0 _ hS0 (by omega)).mono ?_
  rintro e w1 ⟨vN, vA, vB, ns, rs, bs, rfl, hown, hn0, hn5, hr10, hb101, hg1, hS1⟩
  have hsz : (w.alloc (.cells #[.slice A n c, .int .i64 0] 25)).heap.size = w.heap.size + 1 := by simp
  rw [hsz] at hown
  have hz1 := hg1.sz
  rw [hsz] at hz1
  have hg01 : Gr w.heap.size w w1 := (Gr.of_nx ((Nx.refl w).alloc _)).trans hg1
  clear hg1 hS0
  have hsmN := hown.smN
  obtain ⟨B0, B1, B2, ca, cb, cc, e1, e2, e3, hRN, hRA, hRB⟩ := hown.rd
  subst e1 e2 e3
  clear hown
  obtain ⟨w2, hw2⟩ : ∃ w2, w2 = w1.alloc (.cells #[.slice B0 ns.length ca, .slice B1 rs.length cb, .slice B2 bs.length cc] 30) := ⟨_, rfl⟩
  have hn2 : Nx w1 w2 := hw2 ▸ (Nx.refl w1).alloc _
  have hs2 : w1.heap.size < w2.heap.size := by rw [hw2]; simp
  have b0 : w2.cell? ⟨w1.heap.size, 0, none⟩ = some (.slice B0 ns.length ca) := by rw [hw2]; go_simp
  have b1 : w2.cell? ⟨w1.heap.size, 1, none⟩ = some (.slice B1 rs.length cb) := by rw [hw2]; go_simp
  have b2 : w2.cell? ⟨w1.heap.size, 2, none⟩ = some (.slice B2 bs.length cc) := by rw [hw2]; go_simp
  have hg02 := hg01.then_nx hn2
  have hS2 := hS1.nx hn2
  obtain ⟨nb, noff, eN, hnlo, hnb, hnbr, hnc⟩ := (hRN.nx hn2).open_ (Nx.refl w2) hn0
  subst eN
  have nk : ∀ j, j < ns.length → w2.cell? ⟨nb, noff + j * 3, none⟩ = some (.string (ns.getD j default).key) := fun j hj => by
    rw [List.getD_eq_getElem?_getD, List.getElem?_eq_getElem hj]
    exact hnc j hj 0 _ rfl
  clear hnc
  have HRN := hide (hRN.nx hn2)
  have HRA := hide (hRA.nx hn2)
  have HRB := hide (hRB.nx hn2)
  have HSN := hide hsmN
  clear hRN hRA hRB hsmN hg01 hS1
  go_upto_region 3 with fail
  rw [← hw2]
  have HW2 := hide hw2
  clear hw2
  have hgs : w.heap.size < w1.heap.size := by omega
  generalize w1.heap.size = g at *
  have hlos : w.heap.size < w.heap.size + 1 := by omega
  have HRD := hide (fun W (hg : Gr w.heap.size w2 W) => (⟨HRN.out.gr hg hlos, ⟨HRA.out.1.gr hg hlos, fun x hx => ⟨(HRA.out.2 x hx).1.gr hg hlos, (HRA.out.2 x hx).2⟩⟩, HRB.out.gr hg hlos⟩ : Rd W (w.heap.size + 1) (some ⟨nb, noff, none⟩) 3 encNode ns ∧ RdArcs W (w.heap.size + 1) B1 rs ∧ Rd W (w.heap.size + 1) B2 2 encBan bs))
  have HBX := hide (fun W (hg : Gr w.heap.size w2 W) => (⟨World.grownBy.cell (row := some w.heap.size) hg b0 (by simp; omega), World.grownBy.cell (row := some w.heap.size) hg b1 (by simp; omega), World.grownBy.cell (row := some w.heap.size) hg b2 (by simp; omega)⟩ : W.cell? ⟨g, 0, none⟩ = some (.slice (some ⟨nb, noff, none⟩) ns.length ca) ∧ W.cell? ⟨g, 1, none⟩ = some (.slice B1 rs.length cb) ∧ W.cell? ⟨g, 2, none⟩ = some (.slice B2 bs.length cc)))
  have HNK := hide (fun W (hg : Gr w.heap.size w2 W) j (hj : j < ns.length) => (World.grownBy.cell (row := some w.heap.size) hg (nk j hj) (by simp; omega) : W.cell? ⟨nb, noff + j * 3, none⟩ = some (.string (ns.getD j default).key)))
  have hlow2 : w.heap.size + 1 ≤ w2.heap.size := by omega
  clear HRN HRA HRB b0 b1 b2 nk
  have HS2 := hide hS2
  clear hS2
  have HTAB := hide htab
  clear htab
  go_cut [5, 6, 7] (fun vf va vi wx => ∃ (ad wi : Int) (K : Nat), vf = .string (ns.getD 0 default).key ∧ va = .int .i64 ad ∧ vi = .int .i64 wi ∧ 0 ≤ ad ∧ ad ≤ 19999 ∧ (0 ≤ wi ∧ wi ≤ 5000) ∧ Gr w.heap.size w2 wx ∧ Str wx w.heap.size K ∧ K < 100000)
  case first =>
    generalize hnn : ns.length = nn at *
    generalize rs.length = nr at *
    generalize bs.length = nbb at *
    have HN0 := hide hn0
    have HN00 := hide (fun W (hg : Gr w.heap.size w2 W) => (by simpa using HNK.out W hg 0 hn0 : W.cell? ⟨nb, noff, none⟩ = some (.string (ns.getD 0 default).key)))
    clear hn5 hnn
    refine wp_region_held_drew (S := fun w' => w'.cell? ⟨g, 0, none⟩ = some (.slice (some ⟨nb, noff, none⟩) nn ca) ∧ w'.cell? ⟨nb, noff, none⟩ = some (.string (ns.getD 0 default).key)) (by kernel_rfl) ?_ (fun hHeld => ?_)
    · exact ⟨(HBX.out _ (Gr.refl _ _).drew).1, HN00.out _ (Gr.refl _ _).drew⟩
    have hgC := (Gr.refl w.heap.size w2).drew
    have hSC := HS2.out.nx (Nx.refl w2).drew
    refine wpAnyH_take (i := 0) (oi := ⟨some 23, _, _, _, _, _⟩) (v := ?_) rfl (by kernel_rfl) (by kernel_rfl) (by kernel_rfl) (fun _ _ _ h => h) (Or.inl ⟨by rfl, ?_⟩) (by assumption) ?_
    rotate_left 1
    · intro w hSw
      (try dsimp only at hSw)
      go_simp
      try with_reducible rfl
    try simp only [Act.put, List.setIfInBounds_toArray, List.set_cons_zero, List.set_cons_succ]
    refine wpAnyH_take (i := 1) (oi := ⟨some 24, _, _, _, _, _⟩) (v := ?_) rfl (by kernel_rfl) (by kernel_rfl) (by kernel_rfl) (fun _ _ _ h => h) (Or.inl ⟨by rfl, ?_⟩) (by assumption) ?_
    rotate_left 1
    · intro w hSw
      (try dsimp only at hSw)
      go_simp
      try with_reducible rfl
    try simp only [Act.put, List.setIfInBounds_toArray, List.set_cons_zero, List.set_cons_succ]
    refine wpAnyH_take (i := 2) (oi := ⟨some 25, _, _, _, _, _⟩) (v := ?_) rfl (by kernel_rfl) (by kernel_rfl) (by kernel_rfl) (fun _ _ _ h => h) (Or.inl ⟨by rfl, ?_⟩) (by assumption) ?_
    rotate_left 1
    · intro w hSw
      (try dsimp only at hSw)
      go_simp
      try with_reducible rfl
    try simp only [Act.put, List.setIfInBounds_toArray, List.set_cons_zero, List.set_cons_succ]
    refine wpAnyH_take (i := 3) (oi := ⟨some 26, _, _, _, _, _⟩) (v := ?_) rfl (by kernel_rfl) (by kernel_rfl) (by kernel_rfl) (fun _ _ _ h => h) (Or.inl ⟨by rfl, ?_⟩) (by assumption) ?_
    rotate_left 1
    · intro w hSw
      (try dsimp only at hSw)
      go_simp
      try with_reducible rfl
    try simp only [Act.put, List.setIfInBounds_toArray, List.set_cons_zero, List.set_cons_succ]
    refine wpAnyH_take (i := 4) (oi := ⟨some 27, _, _, _, _, _⟩) (v := ?_) rfl (by kernel_rfl) (by kernel_rfl) (by kernel_rfl) (fun _ _ _ h => h) (Or.inl ⟨by rfl, ?_⟩) (by assumption) ?_
    rotate_left 1
    · intro w hSw
      (try dsimp only at hSw)
      go_simp
      try with_reducible rfl
    try simp only [Act.put, List.setIfInBounds_toArray, List.set_cons_zero, List.set_cons_succ]
    refine wpAnyH_take (i := 5) (oi := ⟨some 28, _, _, _, _, _⟩) (v := ?_) rfl (by kernel_rfl) (by kernel_rfl) (by kernel_rfl) (fun _ _ _ h => h) (Or.inl ⟨by rfl, ?_⟩) (by assumption) ?_
    rotate_left 1
    · intro w hSw
      (try dsimp only at hSw)
      go_simp
      try with_reducible rfl
    try simp only [Act.put, List.setIfInBounds_toArray, List.set_cons_zero, List.set_cons_succ]
    refine wpAnyH_take (i := 7) (oi := ⟨some 30, _, _, _, _, _⟩) (v := ?_) rfl (by kernel_rfl) (by kernel_rfl) (by kernel_rfl) (fun _ _ _ h => h) (Or.inl ⟨by rfl, ?_⟩) (by assumption) ?_
    rotate_left 1
    · intro w hSw
      (try dsimp only at hSw)
      go_simp
      try with_reducible rfl
    try simp only [Act.put, List.setIfInBounds_toArray, List.set_cons_zero, List.set_cons_succ]
    refine wpAnyH_ready (rs := [6, 8]) (by kernel_rfl) (by simp) ?_
    refine AllReadyH.cons rfl (fun K hK => ?_) ?_
    · go_simp
      go_at_call 48
      refine (w_Next 20000 _ _ _ hSC (by omega) (by omega)).mono ?_
      rintro e w4 ⟨ad, ha0, ha1, rfl, hg3, hS4⟩
      replace hgC := hgC.trans hg3
      replace hSC := hS4
      go_simp
      refine hK.out _ _ (⟨(HBX.out _ hgC).1, HN00.out _ hgC⟩) (fun hHeld => ?_)
      clear hK K hg3 hS4
      try simp only [Act.put, List.setIfInBounds_toArray, List.set_cons_zero, List.set_cons_succ]
      refine wpAnyH_ready (rs := [8]) (by kernel_rfl) (by simp) ?_
      refine AllReadyH.cons rfl (fun K hK => ?_) AllReadyH.nil
      · go_simp
        obtain ⟨P, hP⟩ : ∃ P, P = w4.heap.size := ⟨_, rfl⟩
        have HLB := hide (hnew hP : (w4.alloc (.cells #[.int .i64 0, .int .i64 50, .int .i64 700, .int .i64 5000] 3)).heap[P]? = some (.cells #[.int .i64 0, .int .i64 50, .int .i64 700, .int .i64 5000] 3 (0, 0)))
        have hPs : w.heap.size < P := by have := hSC.lt; rw [hP]; exact this
        rw [← hP]
        clear hP
        replace hgC := hgC.alloc (.cells #[.int .i64 0, .int .i64 50, .int .i64 700, .int .i64 5000] 3)
        replace hSC := hSC.nx ((Nx.refl w4).alloc (.cells #[.int .i64 0, .int .i64 50, .int .i64 700, .int .i64 5000] 3))
        refine hK.out _ _ (⟨(HBX.out _ hgC).1, HN00.out _ hgC⟩) (fun hHeld => ?_)
        clear hK K
        try simp only [Act.put, List.setIfInBounds_toArray, List.set_cons_zero, List.set_cons_succ]
        refine wpAnyH_ready (rs := [9]) (by kernel_rfl) (by simp) ?_
        refine AllReadyH.cons rfl (fun K hK => ?_) AllReadyH.nil
        go_simp
        go_at_call 15
        refine (w_PickI P [0, 50, 700, 5000] _ _ _ _ hSC (by omega) HLB.out (by omega) rfl (by simp) (by simp)).mono ?_
        rintro e w7 ⟨wi, hwi, rfl, hg3, hS3⟩
        replace hgC := hgC.trans hg3
        go_simp
        refine hK.out _ _ (⟨(HBX.out _ hgC).1, HN00.out _ hgC⟩) (fun hHeld => ?_)
        clear hK K
        try simp only [Act.put, List.setIfInBounds_toArray, List.set_cons_zero, List.set_cons_succ]
        refine wpAnyH_take (i := 10) (oi := ⟨some 5, _, _, _, _, _⟩) (v := ?_) rfl (by kernel_rfl) (by kernel_rfl) (by kernel_rfl) (fun _ _ _ h => h) (Or.inl ⟨by rfl, ?_⟩) (by assumption) ?_
        rotate_left 1
        · intro w hSw
          (try dsimp only at hSw)
          go_simp
          try with_reducible rfl
        try simp only [Act.put, List.setIfInBounds_toArray, List.set_cons_zero, List.set_cons_succ]
        refine wpAnyH_take (i := 11) (oi := ⟨some 6, _, _, _, _, _⟩) (v := ?_) rfl (by kernel_rfl) (by kernel_rfl) (by kernel_rfl) (fun _ _ _ h => h) (Or.inl ⟨by rfl, ?_⟩) (by assumption) ?_
        rotate_left 1
        · intro w hSw
          (try dsimp only at hSw)
          go_simp
          try with_reducible rfl
        try simp only [Act.put, List.setIfInBounds_toArray, List.set_cons_zero, List.set_cons_succ]
        refine wpAnyH_take (i := 12) (oi := ⟨some 7, _, _, _, _, _⟩) (v := ?_) rfl (by kernel_rfl) (by kernel_rfl) (by kernel_rfl) (fun _ _ _ h => h) (Or.inl ⟨by rfl, ?_⟩) (by assumption) ?_
        rotate_left 1
        · intro w hSw
          (try dsimp only at hSw)
          go_simp
          try with_reducible rfl
        try simp only [Act.put, List.setIfInBounds_toArray, List.set_cons_zero, List.set_cons_succ]
        refine wpAnyH_done (by kernel_rfl) ?_ _
        go_wp2
        go_meet
        exact ⟨ad, wi, _, rfl, rfl, rfl, ha0, by omega, by simp at hwi; omega, hgC, hS3, by omega⟩
    refine AllReadyH.cons rfl (fun K hK => ?_) AllReadyH.nil
    · go_simp
      obtain ⟨P, hP⟩ : ∃ P, P = w2.heap.size := ⟨_, rfl⟩
      have HLB := hide (hnew hP : (w2.drew.alloc (.cells #[.int .i64 0, .int .i64 50, .int .i64 700, .int .i64 5000] 3)).heap[P]? = some (.cells #[.int .i64 0, .int .i64 50, .int .i64 700, .int .i64 5000] 3 (0, 0)))
      have hPs : w.heap.size < P := by have := hSC.lt; rw [hP]; exact this
      rw [← hP]
      clear hP
      replace hgC := hgC.alloc (.cells #[.int .i64 0, .int .i64 50, .int .i64 700, .int .i64 5000] 3)
      replace hSC := hSC.nx ((Nx.refl w2.drew).alloc (.cells #[.int .i64 0, .int .i64 50, .int .i64 700, .int .i64 5000] 3))
      refine hK.out _ _ (⟨(HBX.out _ hgC).1, HN00.out _ hgC⟩) (fun hHeld => ?_)
      clear hK K
      try simp only [Act.put, List.setIfInBounds_toArray, List.set_cons_zero, List.set_cons_succ]
      refine wpAnyH_ready (rs := [6]) (by kernel_rfl) (by simp) ?_
      refine AllReadyH.cons rfl (fun K hK => ?_) AllReadyH.nil
      · go_simp
        go_at_call 48
        refine (w_Next 20000 _ _ _ hSC (by omega) (by omega)).mono ?_
        rintro e w4 ⟨ad, ha0, ha1, rfl, hg3, hS4⟩
        replace hgC := hgC.trans hg3
        replace HLB := hide ((hg3.block P (lt_of_heap HLB.out) (by simp; omega)).trans HLB.out)
        replace hSC := hS4
        go_simp
        refine hK.out _ _ (⟨(HBX.out _ hgC).1, HN00.out _ hgC⟩) (fun hHeld => ?_)
        clear hK K hg3 hS4
        try simp only [Act.put, List.setIfInBounds_toArray, List.set_cons_zero, List.set_cons_succ]
        refine wpAnyH_ready (rs := [9]) (by kernel_rfl) (by simp) ?_
        refine AllReadyH.cons rfl (fun K hK => ?_) AllReadyH.nil
        go_simp
        go_at_call 15
        refine (w_PickI P [0, 50, 700, 5000] _ _ _ _ hSC (by omega) HLB.out (by omega) rfl (by simp) (by simp)).mono ?_
        rintro e w7 ⟨wi, hwi, rfl, hg3, hS3⟩
        replace hgC := hgC.trans hg3
        go_simp
        refine hK.out _ _ (⟨(HBX.out _ hgC).1, HN00.out _ hgC⟩) (fun hHeld => ?_)
        clear hK K
        try simp only [Act.put, List.setIfInBounds_toArray, List.set_cons_zero, List.set_cons_succ]
        refine wpAnyH_take (i := 10) (oi := ⟨some 5, _, _, _, _, _⟩) (v := ?_) rfl (by kernel_rfl) (by kernel_rfl) (by kernel_rfl) (fun _ _ _ h => h) (Or.inl ⟨by rfl, ?_⟩) (by assumption) ?_
        rotate_left 1
        · intro w hSw
          (try dsimp only at hSw)
          go_simp
          try with_reducible rfl
        try simp only [Act.put, List.setIfInBounds_toArray, List.set_cons_zero, List.set_cons_succ]
        refine wpAnyH_take (i := 11) (oi := ⟨some 6, _, _, _, _, _⟩) (v := ?_) rfl (by kernel_rfl) (by kernel_rfl) (by kernel_rfl) (fun _ _ _ h => h) (Or.inl ⟨by rfl, ?_⟩) (by assumption) ?_
        rotate_left 1
        · intro w hSw
          (try dsimp only at hSw)
          go_simp
          try with_reducible rfl
        try simp only [Act.put, List.setIfInBounds_toArray, List.set_cons_zero, List.set_cons_succ]
        refine wpAnyH_take (i := 12) (oi := ⟨some 7, _, _, _, _, _⟩) (v := ?_) rfl (by kernel_rfl) (by kernel_rfl) (by kernel_rfl) (fun _ _ _ h => h) (Or.inl ⟨by rfl, ?_⟩) (by assumption) ?_
        rotate_left 1
        · intro w hSw
          (try dsimp only at hSw)
          go_simp
          try with_reducible rfl
        try simp only [Act.put, List.setIfInBounds_toArray, List.set_cons_zero, List.set_cons_succ]
        refine wpAnyH_done (by kernel_rfl) ?_ _
        go_wp2
        go_meet
        exact ⟨ad, wi, _, rfl, rfl, rfl, ha0, by omega, by simp at hwi; omega, hgC, hS3, by omega⟩
  case rest =>
    obtain ⟨ad, wi, K, rfl, rfl, rfl, ha0, ha1, hwi, hg5, hS5, hKb⟩ := hcut
    obtain ⟨w5, hw5⟩ : ∃ w5, w5 = wc := ⟨_, rfl⟩
    subst hw5
    clear HS2 HNK
    have hma : momB ad = true := momB_true.2 ⟨ha0, by omega⟩
    have HTG := hide (fun W (hg : Gr w.heap.size w2 W) => Nx.of_gr (hg02.trans hg) (Nat.le_refl _))
    have HRF := hide (fun W (hx : Gr w.heap.size w2 W) => w_RoadsFault (w.heap.size + 1) (w.heap.size + 1) (w.heap.size + 1) (some ⟨nb, noff, none⟩) B1 B2 ca cb cc ns rs bs W (HRD.out W hx).1 HSN.out (by omega) (HRD.out W hx).2.1 (by omega) (HRD.out W hx).2.2 (by omega))
    have HRE := hide (fun (hR : roadsF ns rs bs = 0) (wi : Int) (hwi : 0 ≤ wi ∧ wi ≤ 86400000) W (hx : Gr w.heap.size w2 W) => (show Calls Tryz.prog 52 #[.agg #[.slice (some ⟨nb, noff, none⟩) ns.length ca, .slice B1 rs.length cb, .slice B2 bs.length cc], .string (ns.getD 0 default).key, .int .i64 ad, .int .i64 wi] W (ReachOut W (reachL ns rs bs (ns.getD 0 default).key ad wi) 0) from reach_ok hR (node_has hR hn0) hma hwi ▸ w_Reach (w.heap.size + 1) (some ⟨nb, noff, none⟩) B1 B2 ca cb cc ns rs bs (ns.getD 0 default).key ad wi W (HRD.out W hx).1 (HRD.out W hx).2.1 (HRD.out W hx).2.2 (by omega) (by omega) (by omega) HSN.out (tab_nx HTAB.out (HTG.out W hx))))
    have HFA := hide (fun (hR : roadsF ns rs bs = 0) (j : Nat) (hj : j < ns.length) => fast_right (w.heap.size + 1) (some ⟨nb, noff, none⟩) B1 B2 ca cb cc ns rs bs (ns.getD 0 default).key (ns.getD j default).key ad (fun W => Gr w.heap.size w2 W) (fun W hx => ⟨Nat.le_trans hlow2 hx.sz, (HRD.out W hx).1, (HRD.out W hx).2.1, (HRD.out W hx).2.2⟩) (by omega) (by omega) (by omega) HSN.out hR (node_has hR hn0) (node_has hR hj) hma)
    have HRL := hide (fun (hR : roadsF ns rs bs = 0) => (⟨reach_pos hR (node_has hR hn0) hma ⟨hwi.1, by omega⟩, reach_len hR (node_has hR hn0) hma ⟨hwi.1, by omega⟩⟩ : 0 < (reachL ns rs bs (ns.getD 0 default).key ad wi).length ∧ (reachL ns rs bs (ns.getD 0 default).key ad wi).length ≤ ns.length))
    have HRL2 := hide (fun (hR : roadsF ns rs bs = 0) (wj : Int) (hj : 0 ≤ wj ∧ wj ≤ 86400000) => reach_len hR (node_has hR hn0) hma hj)
    have HHAS := hide (fun (hR : roadsF ns rs bs = 0) (j : Nat) (hj : j < ns.length) (has : Bool) (ar : Int) => reach_has (bs := bs) (f := (ns.getD 0 default).key) (has := has) (ar := ar) hR (node_has hR hn0) hma (show 0 ≤ wi ∧ wi ≤ 86400000 from ⟨hwi.1, by omega⟩) hj)
    have HMOR := hide (fun (hR : roadsF ns rs bs = 0) (wj : Int) (hj : wi ≤ wj ∧ wj ≤ 86400000) (j : Nat) (hjj : j < ns.length) => reach_more (bs := bs) (f := (ns.getD 0 default).key) hR (node_has hR hn0) hma (show 0 ≤ wi ∧ wi ≤ 86400000 from ⟨hwi.1, by omega⟩) hj hjj)
    have HARR := hide (fun (hR : roadsF ns rs bs = 0) (j : Nat) (hj : j < ns.length) (has : Bool) (ar : Int) (h : has = true → ar = arrG (gphOf ns rs bs) (nodeN ns (ns.getD 0 default).key) (nodeN ns (ns.getD j default).key) ad) => (fun ht => h ht ▸ arrG_bd (gph_ok (roads_ok hR).2.1) ha0 (by unfold endT; omega) (nodeN_lt (node_has hR hn0)) (nodeN_lt (node_has hR hj)) : has = true → ad ≤ ar ∧ ar ≤ endT))
    have HNR := hide (fun W (hx : Gr w.heap.size w2 W) => (HRD.out W hx).1)
    clear hma HRD hgs hz1 hn2 HW2 hlow2 hs2 hnb hnbr HTAB
    generalize (ns.getD 0 default).key = sf at *
    generalize hRFe : roadsF ns rs bs = RF at *
    generalize hnl : ns.length = nn at *
    generalize rs.length = nr at *
    generalize bs.length = nbb at *
    have HNL := hide hnl
    have HN5 := hide hn5
    have HLS := hide hlos
    clear hnl hRFe hn0 hn5 hlos
    obtain ⟨c0, c1, c2⟩ := HBX.out w5 hg5
    go_wp2_with fail
    refine (HRF.out w5 hg5).mono ?_
    rintro e w6 ⟨rfl, hn6⟩
    have hg6 := hg5.then_nx hn6
    have hS6 := hS5.nx hn6
    clear c0 c1 c2 HRF hg5 hS5 hn6
    by_cases hF : RF = 0
    · subst hF
      replace HRE := hide (HRE.out rfl)
      replace HFA := hide (HFA.out rfl)
      replace HHAS := hide (HHAS.out rfl)
      replace HMOR := hide (HMOR.out rfl)
      replace HARR := hide (HARR.out rfl)
      replace HRL2 := hide (HRL2.out rfl)
      obtain ⟨hla0, hla1⟩ := HRL.out rfl
      obtain ⟨c0, c1, c2⟩ := HBX.out w6 hg6
      go_wp2_with fail
      refine (HRE.out wi ⟨hwi.1, by omega⟩ w6 hg6).mono ?_
      rintro e w7 ⟨Za, cza, rfl, hRa, hn7⟩
      obtain ⟨La, hLa⟩ : ∃ La, La = reachL ns rs bs sf ad wi := ⟨_, rfl⟩
      rw [← hLa] at hRa hla0 hla1
      rw [← hLa]
      have HLA := hide hLa
      have HRA := hide hRa
      have hg7 := hg6.then_nx hn7
      have hS7 := hS6.nx hn7
      clear c0 c1 c2 hLa hRa hg6 hS6 hn7 HRL
      go_upto_region 7 with fail
      have HLA0 := hide hla0
      have HLA1 := hide hla1
      clear hla0 hla1
      go_cut [10, 11] (fun v10 v11 wx => ∃ (Z2 : Option Addr) (c2 : Nat) (Lb : List PairS) (wj : Int), v10 = .slice Z2 Lb.length c2 ∧ v11 = .int .i64 0 ∧ Lb = reachL ns rs bs sf ad wj ∧ (wi ≤ wj ∧ wj ≤ 10000) ∧ Rd wx 0 Z2 2 encPair Lb ∧ Rd wx 0 Za 2 encPair La ∧ Gr w.heap.size w2 wx)
      case first =>
        generalize La.length = la at *
        refine wp_region_held_drew (S := fun w' => w'.cell? ⟨g, 0, none⟩ = some (.slice (some ⟨nb, noff, none⟩) nn ca) ∧ w'.cell? ⟨g, 1, none⟩ = some (.slice B1 nr cb) ∧ w'.cell? ⟨g, 2, none⟩ = some (.slice B2 nbb cc)) (by kernel_rfl) ?_ (fun hHeld => ?_)
        · exact HBX.out _ hg7.drew
        have hgC := hg7.drew
        have hSC := hS7.nx (Nx.refl w7).drew
        refine wpAnyH_take (i := 0) (oi := ⟨some 46, _, _, _, _, _⟩) (v := ?_) rfl (by kernel_rfl) (by kernel_rfl) (by kernel_rfl) (fun _ _ _ h => h) (Or.inl ⟨by rfl, ?_⟩) (by assumption) ?_
        rotate_left 1
        · intro w hSw
          (try dsimp only at hSw)
          go_simp
          try with_reducible rfl
        try simp only [Act.put, List.setIfInBounds_toArray, List.set_cons_zero, List.set_cons_succ]
        refine wpAnyH_take (i := 1) (oi := ⟨some 47, _, _, _, _, _⟩) (v := ?_) rfl (by kernel_rfl) (by kernel_rfl) (by kernel_rfl) (fun _ _ _ h => h) (Or.inl ⟨by rfl, ?_⟩) (by assumption) ?_
        rotate_left 1
        · intro w hSw
          (try dsimp only at hSw)
          go_simp
          try with_reducible rfl
        try simp only [Act.put, List.setIfInBounds_toArray, List.set_cons_zero, List.set_cons_succ]
        refine wpAnyH_take (i := 2) (oi := ⟨some 48, _, _, _, _, _⟩) (v := ?_) rfl (by kernel_rfl) (by kernel_rfl) (by kernel_rfl) (fun _ _ _ h => h) (Or.inl ⟨by rfl, ?_⟩) (by assumption) ?_
        rotate_left 1
        · intro w hSw
          (try dsimp only at hSw)
          go_simp
          try with_reducible rfl
        try simp only [Act.put, List.setIfInBounds_toArray, List.set_cons_zero, List.set_cons_succ]
        refine wpAnyH_take (i := 3) (oi := ⟨some 49, _, _, _, _, _⟩) (v := ?_) rfl (by kernel_rfl) (by kernel_rfl) (by kernel_rfl) (fun _ _ _ h => h) (Or.inl ⟨by rfl, ?_⟩) (by assumption) ?_
        rotate_left 1
        · intro w hSw
          (try dsimp only at hSw)
          go_simp
          try with_reducible rfl
        try simp only [Act.put, List.setIfInBounds_toArray, List.set_cons_zero, List.set_cons_succ]
        refine wpAnyH_take (i := 4) (oi := ⟨some 50, _, _, _, _, _⟩) (v := ?_) rfl (by kernel_rfl) (by kernel_rfl) (by kernel_rfl) (fun _ _ _ h => h) (Or.inl ⟨by rfl, ?_⟩) (by assumption) ?_
        rotate_left 1
        · intro w hSw
          (try dsimp only at hSw)
          go_simp
          try with_reducible rfl
        try simp only [Act.put, List.setIfInBounds_toArray, List.set_cons_zero, List.set_cons_succ]
        refine wpAnyH_ready (rs := [5]) (by kernel_rfl) (by simp) ?_
        refine AllReadyH.cons rfl (fun K hK => ?_) AllReadyH.nil
        go_simp
        obtain ⟨P, hP⟩ : ∃ P, P = w7.heap.size := ⟨_, rfl⟩
        have HLB := hide (hnew hP : (w7.drew.alloc (.cells #[.int .i64 0, .int .i64 100, .int .i64 5000] 3)).heap[P]? = some (.cells #[.int .i64 0, .int .i64 100, .int .i64 5000] 3 (0, 0)))
        have hPs : w.heap.size < P := by have := hS7.lt; rw [hP]; exact this
        rw [← hP]
        clear hP
        replace hgC := hgC.alloc (.cells #[.int .i64 0, .int .i64 100, .int .i64 5000] 3)
        replace hSC := hSC.nx ((Nx.refl w7.drew).alloc (.cells #[.int .i64 0, .int .i64 100, .int .i64 5000] 3))
        have hRC := HRA.out.nx ((Nx.refl w7).drew.alloc (.cells #[.int .i64 0, .int .i64 100, .int .i64 5000] 3))
        refine hK.out _ _ (HBX.out _ hgC) (fun hHeld => ?_)
        clear hK K
        try simp only [Act.put, List.setIfInBounds_toArray, List.set_cons_zero, List.set_cons_succ]
        refine wpAnyH_ready (rs := [6]) (by kernel_rfl) (by simp) ?_
        refine AllReadyH.cons rfl (fun K hK => ?_) AllReadyH.nil
        go_simp
        go_at_call 15
        refine (w_PickI P [0, 100, 5000] _ _ _ _ hSC (by omega) HLB.out (by omega) rfl (by simp) (by simp)).mono ?_
        rintro e w9 ⟨z, hz, rfl, hg3, hS3⟩
        replace hgC := hgC.trans hg3
        replace hRC := pair_gr hRC hSC hg3
        go_simp
        have hzb : 0 ≤ z ∧ z ≤ 5000 := by simp at hz; omega
        have W1 : IntKind.i64.wrap (wi + z) = wi + z := IntWalk.i64_in _ (by omega)
        clear hz
        refine hK.out _ _ (HBX.out _ hgC) (fun hHeld => ?_)
        clear hK K hg3 hSC
        try simp only [Act.put, List.setIfInBounds_toArray, List.set_cons_zero, List.set_cons_succ]
        refine wpAnyH_take (i := 7) (oi := ⟨some 53, _, _, _, _, _⟩) (v := ?_) rfl (by kernel_rfl) (by kernel_rfl) (by kernel_rfl) (fun _ _ _ h => h) (Or.inl ⟨by rfl, ?_⟩) (by assumption) ?_
        rotate_left 1
        · intro w hSw
          (try dsimp only at hSw)
          go_simp
          try with_reducible rfl
        try simp only [Act.put, List.setIfInBounds_toArray, List.set_cons_zero, List.set_cons_succ]
        obtain ⟨wj, hwj⟩ : ∃ wj, wj = wi + z := ⟨_, rfl⟩
        rw [← hwj]
        have hwb : wi ≤ wj ∧ wj ≤ 10000 := by omega
        clear W1 hwj
        refine wpAnyH_ready (rs := [8]) (by kernel_rfl) (by simp) ?_
        refine AllReadyH.cons rfl (fun K hK => ?_) AllReadyH.nil
        go_simp
        go_at_call 52
        refine (HRE.out wj ⟨by omega, by omega⟩ _ hgC).mono ?_
        rintro e w10 ⟨Z2, c2, rfl, hRb, hn10⟩
        replace hgC := hgC.then_nx hn10
        go_simp
        refine hK.out _ _ (HBX.out _ hgC) (fun hHeld => ?_)
        clear hK K
        try simp only [Act.put, List.setIfInBounds_toArray, List.set_cons_zero, List.set_cons_succ]
        refine wpAnyH_take (i := 9) (oi := ⟨some 45, _, _, _, _, _⟩) (v := ?_) rfl (by kernel_rfl) (by kernel_rfl) (by kernel_rfl) (fun _ _ _ h => h) (Or.inl ⟨by rfl, ?_⟩) (by assumption) ?_
        rotate_left 1
        · intro w hSw
          (try dsimp only at hSw)
          go_simp
          try with_reducible rfl
        try simp only [Act.put, List.setIfInBounds_toArray, List.set_cons_zero, List.set_cons_succ]
        refine wpAnyH_take (i := 10) (oi := ⟨some 55, _, _, _, _, _⟩) (v := ?_) rfl (by kernel_rfl) (by kernel_rfl) (by kernel_rfl) (fun _ _ _ h => h) (Or.inl ⟨by rfl, ?_⟩) (by assumption) ?_
        rotate_left 1
        · intro w hSw
          (try dsimp only at hSw)
          go_simp
          try with_reducible rfl
        try simp only [Act.put, List.setIfInBounds_toArray, List.set_cons_zero, List.set_cons_succ]
        refine wpAnyH_take (i := 11) (oi := ⟨some 56, _, _, _, _, _⟩) (v := ?_) rfl (by kernel_rfl) (by kernel_rfl) (by kernel_rfl) (fun _ _ _ h => h) (Or.inl ⟨by rfl, ?_⟩) (by assumption) ?_
        rotate_left 1
        · intro w hSw
          (try dsimp only at hSw)
          go_simp
          try with_reducible rfl
        try simp only [Act.put, List.setIfInBounds_toArray, List.set_cons_zero, List.set_cons_succ]
        refine wpAnyH_take (i := 12) (oi := ⟨some 10, _, _, _, _, _⟩) (v := ?_) rfl (by kernel_rfl) (by kernel_rfl) (by kernel_rfl) (fun _ _ _ h => h) (Or.inl ⟨by rfl, ?_⟩) (by assumption) ?_
        rotate_left 1
        · intro w hSw
          (try dsimp only at hSw)
          go_simp
          try with_reducible rfl
        try simp only [Act.put, List.setIfInBounds_toArray, List.set_cons_zero, List.set_cons_succ]
        refine wpAnyH_take (i := 13) (oi := ⟨some 11, _, _, _, _, _⟩) (v := ?_) rfl (by kernel_rfl) (by kernel_rfl) (by kernel_rfl) (fun _ _ _ h => h) (Or.inl ⟨by rfl, ?_⟩) (by assumption) ?_
        rotate_left 1
        · intro w hSw
          (try dsimp only at hSw)
          go_simp
          try with_reducible rfl
        try simp only [Act.put, List.setIfInBounds_toArray, List.set_cons_zero, List.set_cons_succ]
        refine wpAnyH_done (by kernel_rfl) ?_ _
        go_wp2
        go_meet
        exact ⟨Z2, c2, _, wj, rfl, rfl, rfl, hwb, hRb, hRC.nx hn10, hgC⟩
      case rest =>
        obtain ⟨Z2, c2, Lb, wj, rfl, rfl, hLb, hwj, hRb, hRa, hg8⟩ := hcut
        obtain ⟨w8, hw8⟩ : ∃ w8, w8 = wc := ⟨_, rfl⟩
        subst hw8
        have hlb := HRL2.out wj ⟨by omega, by omega⟩
        rw [← hLb] at hlb
        have HMOR := hide (HMOR.out wj ⟨by omega, by omega⟩)
        rw [← hLb, ← HLA.out] at HMOR
        rw [← HLA.out] at HHAS
        have HRb := hide hRb
        have HRa := hide hRa
        have HLL := hide ((⟨by have := HN5.out; have := HLA1.out; omega, by have := HN5.out; omega⟩ : La.length ≤ 65536 ∧ Lb.length ≤ 65536))
        have HCA := hide (fun g0 p cap eg W hcl (hx : Nx w8 W) => w_ContFP g0 p cap eg 0 Za cza La W hcl (HRa.out.nx hx) HLL.out.1)
        have HCB := hide (fun g0 p cap eg W hcl (hx : Nx w8 W) => w_ContFP g0 p cap eg 0 Z2 c2 Lb W hcl (HRb.out.nx hx) HLL.out.2)
        have HT := hide (fun W (hx : Nx w8 W) => HTG.out W (hg8.then_nx hx))
        have HB5 := hide (fun W (hx : Nx w8 W) => HBX.out W (hg8.then_nx hx))
        have HNR := hide (fun W (hx : Nx w8 W) => HNR.out W (hg8.then_nx hx))
        have HGX := hide (fun W (hx : Nx w8 W) => hg8.then_nx hx)
        have t0 : ((La.length : Int) == 0) = false := by have := HLA0.out; simp; intro e; rw [e] at this; simp at this
        clear HLA HLA1 HBX HTG hlb hRb hRa HRL2 hLb HRE hS7 hg7 HRA hwj HLA0 HLL
        generalize La.length = la at *
        generalize Lb.length = lb at *
        obtain ⟨c0, c1, c2⟩ := HB5.out w8 (Nx.refl _)
        go_wp2_with fail
        clear c0 c1 c2 t0 hg8
        go_loopw [71] (fun i wr => ∃ j : Nat, j ≤ nn ∧ i = .int .i64 j ∧ Nx w8 wr) (fun i _ => nn - (intOf i).toNat)
        case atStart => exact ⟨0, Nat.zero_le _, rfl, Nx.refl _⟩
        case round =>
          obtain ⟨j, hj, rfl, hbw⟩ := hrel
          have hn5 := HN5.out
          by_cases hlt : j < nn
          · have hlt' : j < ns.length := by have := HNL.out; omega
            obtain ⟨b, off, eb, _, hb, hbr, hc⟩ := (HNR.out _ hbw).open_ (Nx.refl wr) (by have := HNL.out; omega)
            have hax : ns[j] = ns.getD j default := by rw [List.getD_eq_getElem?_getD, List.getElem?_eq_getElem hlt']; rfl
            have c0 : wr.cell? ⟨b, off + j * 3, none⟩ = some (.string (ns.getD j default).key) := hax ▸ hc j hlt' 0 _ rfl
            have c1 : wr.cell? ⟨b, off + j * 3 + 1, none⟩ = some (.int .i64 (ns.getD j default).x) := hax ▸ hc j hlt' 1 _ rfl
            have c2 : wr.cell? ⟨b, off + j * 3 + 2, none⟩ = some (.int .i64 (ns.getD j default).y) := hax ▸ hc j hlt' 2 _ rfl
            obtain ⟨keys, nk, lv, ar, has, _, _, hFK, hh1, _, hh3⟩ := HFA.out j hlt
            have hHA := HHAS.out j hlt has ar hh1 (fun h => (hh3 h).2.1)
            have hAR := HARR.out j hlt has ar (fun h => (hh3 h).2.1)
            have hMO := HMOR.out j hlt
            have HFK := hide hFK
            clear hc hax hb hbr hh1 hh3 hFK
            generalize (ns.getD j default).key = s at *
            generalize (ns.getD j default).x = nx at *
            generalize (ns.getD j default).y = ny at *
            obtain ⟨w12, hw12⟩ : ∃ w12, w12 = wr.alloc (.cells #[.string s, .int .i64 nx, .int .i64 ny] 39) := ⟨_, rfl⟩
            have hn12 : Nx wr w12 := hw12 ▸ (Nx.refl wr).alloc _
            have hs12 : wr.heap.size < w12.heap.size := by rw [hw12]; simp
            have d0 : w12.cell? ⟨wr.heap.size, 0, none⟩ = some (.string s) := by rw [hw12]; go_simp
            have HCA := hide (fun W (hx : Nx w12 W) => HCA.out 54 (fun p => decide (p.name = s)) (.pointer (some ⟨wr.heap.size, 0, none⟩)) eg_ris1 W (fun y W' hx' => w_ris1 s y wr.heap.size W' (nx_cell (hx.trans hx') hs12 d0) (Nat.lt_of_lt_of_le hs12 (hx.trans hx').sz)) ((hbw.trans hn12).trans hx))
            have HCB := hide (fun W (hx : Nx w12 W) => HCB.out 55 (fun p => decide (p.name = s)) (.pointer (some ⟨wr.heap.size, 0, none⟩)) eg_ris2 W (fun y W' hx' => w_ris2 s y wr.heap.size W' (nx_cell (hx.trans hx') hs12 d0) (Nat.lt_of_lt_of_le hs12 (hx.trans hx').sz)) ((hbw.trans hn12).trans hx))
            have HD := hide (fun W (hx : Nx w12 W) => (nx_cell hx hs12 d0 : W.cell? ⟨wr.heap.size, 0, none⟩ = some (.string s)))
            generalize La.any (fun p => decide (p.name = s)) = ia at *
            generalize Lb.any (fun p => decide (p.name = s)) = ib at *
            have HHA := hide hHA
            have HAR := hide hAR
            have HMO := hide hMO
            have HW12 := hide hw12
            clear hHA hAR hMO hw12 d0 hs12
            cases eb
            go_upto_region 13 with fail
            rw [← HW12.out]
            clear c0 c1 c2 HW12
            generalize wr.heap.size = P at *
            go_wp2_with fail
            refine (HCA.out w12 (Nx.refl _)).mono ?_
            rintro e w13 ⟨rfl, hn13⟩
            obtain ⟨c0, c1, c2⟩ := HB5.out w13 ((hbw.trans hn12).trans hn13)
            have d0 := HD.out w13 hn13
            go_wp2_with fail
            refine (HFK.out w13 (HGX.out w13 ((hbw.trans hn12).trans hn13))).mono ?_
            rintro e w14 ⟨Z3, c3, rfl, _, hn14⟩
            obtain ⟨w15, hw15⟩ : ∃ w15, w15 = w14.alloc (.cells #[.slice Z3 nk c3, .int .i64 lv, .int .i64 ar] 90) := ⟨_, rfl⟩
            have hn15 : Nx w14 w15 := hw15 ▸ (Nx.refl w14).alloc _
            have x15 : w15.cell? ⟨w14.heap.size, 2, none⟩ = some (.int .i64 ar) := by rw [hw15]; go_simp
            have hn125 := (hn13.trans hn14).trans hn15
            have HW15 := hide hw15
            clear hw15 c0 c1 c2 d0
            go_upto_region 15 with fail
            rw [← HW15.out]
            clear HW15
            generalize w14.heap.size = q at *
            have HBW := hide ((hbw.trans hn12).trans hn125)
            have HN125 := hide hn125
            clear hbw hn12 hn13 hn14 hn15 hn125 HCA HFK
            cases hhas : has
            · have hia : ia = false := by rw [HHA.out, hhas]; rfl
              subst hia
              clear HHA HAR HMO HCB
              go_wp2_with fail
              go_roundw
              case rel => exact ⟨j + 1, by omega, by go_num, HBW.out⟩
              case measure => simp [intOf]; omega
            · have hia : ia = decide (ar - ad ≤ wi) := by rw [HHA.out, hhas]; rfl
              obtain ⟨ab1, ab2⟩ := HAR.out hhas
              have W2 : IntKind.i64.wrap (ar - ad) = ar - ad := IntWalk.i64_in _ (by unfold endT at ab2; omega)
              clear HHA HAR ab1 ab2
              cases hda : decide (ar - ad ≤ wi)
              · rw [hda] at hia
                subst hia
                clear HMO HCB
                go_wp2_with fail
                go_roundw
                case rel => exact ⟨j + 1, by omega, by go_num, HBW.out⟩
                case measure => simp [intOf]; omega
              · rw [hda] at hia
                subst hia
                have hib := HMO.out rfl
                subst hib
                clear HMO
                go_wp2_with fail
                refine (HCB.out w15 HN125.out).mono ?_
                rintro e w16 ⟨rfl, hn16⟩
                go_wp2_with fail
                go_roundw
                case rel => exact ⟨j + 1, by omega, by go_num, HBW.out.trans hn16⟩
                case measure => simp [intOf]; omega
          · go_wp2_with (go_at_call 49; refine (w_ready _).mono ?_; rintro e w12 ⟨rfl, hn12⟩)
            go_ret
            exact ⟨rfl, HT.out _ (hbw.trans hn12)⟩
    · have tF : (RF != 0) = true := by simpa using hF
      clear HRE HFA HHAS HMOR HARR HRL HRL2
      go_wp2_with (go_at_call 49; refine (w_ready _).mono ?_; rintro e w12 ⟨rfl, hn12⟩)
      go_ret
      exact ⟨rfl, HTG.out _ (hg6.then_nx hn12)⟩
end Go.Proofs.YtmpnilliichpfaaGreatDoor
