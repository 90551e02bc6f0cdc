/- jitlaw1.SitesChosen returns true. -/
import Derived.Test.YtmpnilliichpfaaGreatDoorQLawSCa
namespace Go.Proofs.YtmpnilliichpfaaGreatDoor
open Go.RowKit

set_option maxRecDepth 100000 in
set_option maxHeartbeats 8000000 in
theorem w_lawSC (A : Option Addr) (n c : Nat) (w : World) (hn : n ≤ 9223372036854775807)
    (hL : 0 < n → ∃ b off, A = some ⟨b, off, none⟩ ∧ b < w.heap.size ∧ ∀ j, j < n → ∃ z : Int, w.cell? ⟨b, off + j, none⟩ = some (.int .i64 z) ∧ -9223372036854775808 ≤ z ∧ z ≤ 9223372036854775807) :
    Calls Tryz.prog 3 #[.slice A n c] w (TrueNx w) := by
  have hS0 : Str (w.alloc (.cells #[.slice A n c, .int .i64 0] 25)) w.heap.size 0 := str_new A n c w hn hL
  clear hL
  go_enter Tryz.func3, Tryz.ntmps3
  go_wp2_with fail
  refine (w_RoadsS _ 0 _ hS0 (by omega)).mono ?_
  rintro e w1 ⟨vN, vA, vB, ns, rs, bs, rfl, hown, hn0, hn5, hr10, hb101, hg1, hS1⟩
  have hsz : (w.alloc (.cells #[.slice A n c, .int .i64 0] 25)).heap.size = w.heap.size + 1 := by simp
  rw [hsz] at hown
  have hz1 := hg1.sz
  rw [hsz] at hz1
  have hg01 : Gr w.heap.size w w1 := (Gr.of_nx ((Nx.refl w).alloc _)).trans hg1
  clear hg1 hS0
  have hsmN := hown.smN
  obtain ⟨B0, B1, B2, ca, cb, cc, e1, e2, e3, hRN, hRA, hRB⟩ := hown.rd
  subst e1 e2 e3
  clear hown
  obtain ⟨w2, hw2⟩ : ∃ w2, w2 = w1.alloc (.cells #[.slice B0 ns.length ca, .slice B1 rs.length cb, .slice B2 bs.length cc] 30) := ⟨_, rfl⟩
  have hn2 : Nx w1 w2 := hw2 ▸ (Nx.refl w1).alloc _
  have hs2 : w1.heap.size < w2.heap.size := by rw [hw2]; simp
  have b0 : w2.cell? ⟨w1.heap.size, 0, none⟩ = some (.slice B0 ns.length ca) := by rw [hw2]; go_simp
  have b1 : w2.cell? ⟨w1.heap.size, 1, none⟩ = some (.slice B1 rs.length cb) := by rw [hw2]; go_simp
  have b2 : w2.cell? ⟨w1.heap.size, 2, none⟩ = some (.slice B2 bs.length cc) := by rw [hw2]; go_simp
  have hg02 := hg01.then_nx hn2
  have hS2 := hS1.nx hn2
  have HRN := hide (hRN.nx hn2)
  have HRA := hide (hRA.nx hn2)
  have HRB := hide (hRB.nx hn2)
  have HSN := hide hsmN
  clear hRN hRA hRB hsmN hg01 hS1
  go_upto_region 3 with fail
  rw [← hw2]
  have HW2 := hide hw2
  clear hw2
  have hgs : w.heap.size < w1.heap.size := by omega
  generalize w1.heap.size = g at *
  have hlos : w.heap.size < w.heap.size + 1 := by omega
  have HRD := hide (fun W (hg : Gr w.heap.size w2 W) => (⟨HRN.out.gr hg hlos, ⟨HRA.out.1.gr hg hlos, fun x hx => ⟨(HRA.out.2 x hx).1.gr hg hlos, (HRA.out.2 x hx).2⟩⟩, HRB.out.gr hg hlos⟩ : Rd W (w.heap.size + 1) B0 3 encNode ns ∧ RdArcs W (w.heap.size + 1) B1 rs ∧ Rd W (w.heap.size + 1) B2 2 encBan bs))
  have HBX := hide (fun W (hg : Gr w.heap.size w2 W) => (⟨World.grownBy.cell (row := some w.heap.size) hg b0 (by simp; omega), World.grownBy.cell (row := some w.heap.size) hg b1 (by simp; omega), World.grownBy.cell (row := some w.heap.size) hg b2 (by simp; omega)⟩ : W.cell? ⟨g, 0, none⟩ = some (.slice B0 ns.length ca) ∧ W.cell? ⟨g, 1, none⟩ = some (.slice B1 rs.length cb) ∧ W.cell? ⟨g, 2, none⟩ = some (.slice B2 bs.length cc)))
  have HKS := hide (fun k W (hg : Gr w.heap.size w2 W) (hS : Str W w.heap.size k) (hk : k < 600000) => w_NodeKeys w.heap.size k (w.heap.size + 1) B0 B1 B2 rs.length bs.length ca cb cc ns 3 W hS hk (HRD.out W hg).1 HSN.out hn0 (by omega) hlos (by omega))
  have HWT := hide (fun k W (hg : Gr w.heap.size w2 W) (hS : Str W w.heap.size k) (hk : k < 600000) => w_Weights w.heap.size k (w.heap.size + 1) B0 B1 B2 rs.length bs.length ca cb cc ns W hS hk (HRD.out W hg).1 (by omega) hlos)
  have hlow2 : w.heap.size + 1 ≤ w2.heap.size := by omega
  clear HRN HRA HRB b0 b1 b2
  have HS2 := hide hS2
  clear hS2
  go_cut [5, 6, 7, 8] (fun vk vw va vi wx => ∃ (D : Option Addr) (cd : Nat) (l : List ByteArray) (E : Option Addr) (ce : Nat) (ws : List Wgt) (ad wi : Int) (K : Nat), vk = .slice D l.length cd ∧ vw = .slice E ws.length ce ∧ va = .int .i64 ad ∧ vi = .int .i64 wi ∧ l.length ≤ 3 ∧ ws.length ≤ 5 ∧ Rd wx (w.heap.size + 1) D 1 encS l ∧ Rd wx (w.heap.size + 1) E 2 encW ws ∧ Gr w.heap.size w2 wx ∧ Str wx w.heap.size K ∧ K < 100000)
  case first =>
    generalize ns.length = nn at *
    generalize rs.length = nr at *
    generalize bs.length = nb at *
    refine wp_region_held_drew (S := fun w' => w'.cell? ⟨g, 0, none⟩ = some (.slice B0 nn ca) ∧ w'.cell? ⟨g, 1, none⟩ = some (.slice B1 nr cb) ∧ w'.cell? ⟨g, 2, none⟩ = some (.slice B2 nb cc)) (by kernel_rfl) ?_ (fun hHeld => ?_)
    · exact HBX.out _ (Gr.refl _ _).drew
    have hgC := (Gr.refl w.heap.size w2).drew
    have hSC := HS2.out.nx (Nx.refl w2).drew
    refine wpAnyH_take (i := 0) (oi := ⟨some 29, _, _, _, _, _⟩) (v := ?_) rfl (by kernel_rfl) (by kernel_rfl) (by kernel_rfl) (fun _ _ _ h => h) (Or.inl ⟨by rfl, ?_⟩) (by assumption) ?_
    rotate_left 1
    · intro w hSw
      (try dsimp only at hSw)
      go_simp
      try with_reducible rfl
    try simp only [Act.put, List.setIfInBounds_toArray, List.set_cons_zero, List.set_cons_succ]
    refine wpAnyH_take (i := 1) (oi := ⟨some 30, _, _, _, _, _⟩) (v := ?_) rfl (by kernel_rfl) (by kernel_rfl) (by kernel_rfl) (fun _ _ _ h => h) (Or.inl ⟨by rfl, ?_⟩) (by assumption) ?_
    rotate_left 1
    · intro w hSw
      (try dsimp only at hSw)
      go_simp
      try with_reducible rfl
    try simp only [Act.put, List.setIfInBounds_toArray, List.set_cons_zero, List.set_cons_succ]
    refine wpAnyH_take (i := 3) (oi := ⟨some 32, _, _, _, _, _⟩) (v := ?_) rfl (by kernel_rfl) (by kernel_rfl) (by kernel_rfl) (fun _ _ _ h => h) (Or.inl ⟨by rfl, ?_⟩) (by assumption) ?_
    rotate_left 1
    · intro w hSw
      (try dsimp only at hSw)
      go_simp
      try with_reducible rfl
    try simp only [Act.put, List.setIfInBounds_toArray, List.set_cons_zero, List.set_cons_succ]
    refine wpAnyH_take (i := 4) (oi := ⟨some 33, _, _, _, _, _⟩) (v := ?_) rfl (by kernel_rfl) (by kernel_rfl) (by kernel_rfl) (fun _ _ _ h => h) (Or.inl ⟨by rfl, ?_⟩) (by assumption) ?_
    rotate_left 1
    · intro w hSw
      (try dsimp only at hSw)
      go_simp
      try with_reducible rfl
    try simp only [Act.put, List.setIfInBounds_toArray, List.set_cons_zero, List.set_cons_succ]
    refine wpAnyH_take (i := 6) (oi := ⟨some 35, _, _, _, _, _⟩) (v := ?_) rfl (by kernel_rfl) (by kernel_rfl) (by kernel_rfl) (fun _ _ _ h => h) (Or.inl ⟨by rfl, ?_⟩) (by assumption) ?_
    rotate_left 1
    · intro w hSw
      (try dsimp only at hSw)
      go_simp
      try with_reducible rfl
    try simp only [Act.put, List.setIfInBounds_toArray, List.set_cons_zero, List.set_cons_succ]
    refine wpAnyH_take (i := 8) (oi := ⟨some 37, _, _, _, _, _⟩) (v := ?_) rfl (by kernel_rfl) (by kernel_rfl) (by kernel_rfl) (fun _ _ _ h => h) (Or.inl ⟨by rfl, ?_⟩) (by assumption) ?_
    rotate_left 1
    · intro w hSw
      (try dsimp only at hSw)
      go_simp
      try with_reducible rfl
    try simp only [Act.put, List.setIfInBounds_toArray, List.set_cons_zero, List.set_cons_succ]
    refine wpAnyH_ready (rs := [2, 9]) (by kernel_rfl) (by simp) ?_
    refine AllReadyH.cons rfl (fun K hK => ?_) ?_
    · go_simp
      go_at_call 12
      refine (HKS.out _ _ hgC hSC (by omega)).mono ?_
      rintro e w3 ⟨D, cd, l, rfl, hl3, hD, hg3, hS3⟩
      replace hD := hD.low (show w.heap.size + 1 ≤ _ from Nat.le_trans hlow2 hgC.sz)
      replace hgC := hgC.trans hg3
      replace hSC := hS3
      go_simp
      refine hK.out _ _ (HBX.out _ hgC) (fun hHeld => ?_)
      clear hK K hg3 hS3
      try simp only [Act.put, List.setIfInBounds_toArray, List.set_cons_zero, List.set_cons_succ]
      refine wpAnyH_ready (rs := [5, 9]) (by kernel_rfl) (by simp) ?_
      refine AllReadyH.cons rfl (fun K hK => ?_) ?_
      · go_simp
        go_at_call 13
        refine (HWT.out _ _ hgC hSC (by omega)).mono ?_
        rintro e w4 ⟨E, ce, ws, rfl, hw5, hE, hg3, hS3⟩
        replace hE := hE.low (show w.heap.size + 1 ≤ _ from Nat.le_trans hlow2 hgC.sz)
        replace hD := hD.gr hg3 hlos
        replace hgC := hgC.trans hg3
        replace hSC := hS3
        go_simp
        refine hK.out _ _ (HBX.out _ hgC) (fun hHeld => ?_)
        clear hK K hg3 hS3
        try simp only [Act.put, List.setIfInBounds_toArray, List.set_cons_zero, List.set_cons_succ]
        refine wpAnyH_ready (rs := [7, 9]) (by kernel_rfl) (by simp) ?_
        refine AllReadyH.cons rfl (fun K hK => ?_) ?_
        · go_simp
          go_at_call 14
          refine (w_Departure _ _ _ hSC (by omega)).mono ?_
          rintro e w5 ⟨ad, ha1, ha2, rfl, hg3, hS3⟩
          replace hD := hD.gr hg3 hlos
          replace hE := hE.gr hg3 hlos
          replace hgC := hgC.trans hg3
          replace hSC := hS3
          go_simp
          refine hK.out _ _ (HBX.out _ hgC) (fun hHeld => ?_)
          clear hK K hg3 hS3
          try simp only [Act.put, List.setIfInBounds_toArray, List.set_cons_zero, List.set_cons_succ]
          refine wpAnyH_ready (rs := [9]) (by kernel_rfl) (by simp) ?_
          refine AllReadyH.cons rfl (fun K hK => ?_) ?_
          · go_simp
            obtain ⟨P, hP⟩ : ∃ P, P = w5.heap.size := ⟨_, rfl⟩
            have HLB := hide (hnew hP : (w5.alloc (.cells #[.int .i64 0, .int .i64 100, .int .i64 5000, .int .i64 86400000, .int .i64 (-1)] 3)).heap[P]? = some (.cells #[.int .i64 0, .int .i64 100, .int .i64 5000, .int .i64 86400000, .int .i64 (-1)] 3 (0, 0)))
            have hPs : w.heap.size < P := by have := hSC.lt; rw [hP]; exact this
            rw [← hP]
            clear hP
            replace hgC := hgC.alloc (.cells #[.int .i64 0, .int .i64 100, .int .i64 5000, .int .i64 86400000, .int .i64 (-1)] 3)
            replace hSC := hSC.nx ((Nx.refl w5).alloc (.cells #[.int .i64 0, .int .i64 100, .int .i64 5000, .int .i64 86400000, .int .i64 (-1)] 3))
            replace hD := hD.nx ((Nx.refl w5).alloc (.cells #[.int .i64 0, .int .i64 100, .int .i64 5000, .int .i64 86400000, .int .i64 (-1)] 3))
            replace hE := hE.nx ((Nx.refl w5).alloc (.cells #[.int .i64 0, .int .i64 100, .int .i64 5000, .int .i64 86400000, .int .i64 (-1)] 3))
            refine hK.out _ _ (HBX.out _ hgC) (fun hHeld => ?_)
            clear hK K
            try simp only [Act.put, List.setIfInBounds_toArray, List.set_cons_zero, List.set_cons_succ]
            refine wpAnyH_ready (rs := [10]) (by kernel_rfl) (by simp) ?_
            refine AllReadyH.cons rfl (fun K hK => ?_) ?_
            · go_simp
              go_at_call 15
              refine (w_PickI P [0, 100, 5000, 86400000, -1] _ _ _ _ hSC (by omega) HLB.out (by omega) rfl (by simp) (by simp)).mono ?_
              rintro e w7 ⟨wi, hwi, rfl, hg3, hS3⟩
              replace hgC := hgC.trans hg3
              go_simp
              refine hK.out _ _ (HBX.out _ hgC) (fun hHeld => ?_)
              clear hK K
              try simp only [Act.put, List.setIfInBounds_toArray, List.set_cons_zero, List.set_cons_succ]
              refine wpAnyH_take (i := 11) (oi := ⟨some 5, _, _, _, _, _⟩) (v := ?_) rfl (by kernel_rfl) (by kernel_rfl) (by kernel_rfl) (fun _ _ _ h => h) (Or.inl ⟨by rfl, ?_⟩) (by assumption) ?_
              rotate_left 1
              · intro w hSw
                (try dsimp only at hSw)
                go_simp
                try with_reducible rfl
              try simp only [Act.put, List.setIfInBounds_toArray, List.set_cons_zero, List.set_cons_succ]
              refine wpAnyH_take (i := 12) (oi := ⟨some 6, _, _, _, _, _⟩) (v := ?_) rfl (by kernel_rfl) (by kernel_rfl) (by kernel_rfl) (fun _ _ _ h => h) (Or.inl ⟨by rfl, ?_⟩) (by assumption) ?_
              rotate_left 1
              · intro w hSw
                (try dsimp only at hSw)
                go_simp
                try with_reducible rfl
              try simp only [Act.put, List.setIfInBounds_toArray, List.set_cons_zero, List.set_cons_succ]
              refine wpAnyH_take (i := 13) (oi := ⟨some 7, _, _, _, _, _⟩) (v := ?_) rfl (by kernel_rfl) (by kernel_rfl) (by kernel_rfl) (fun _ _ _ h => h) (Or.inl ⟨by rfl, ?_⟩) (by assumption) ?_
              rotate_left 1
              · intro w hSw
                (try dsimp only at hSw)
                go_simp
                try with_reducible rfl
              try simp only [Act.put, List.setIfInBounds_toArray, List.set_cons_zero, List.set_cons_succ]
              refine wpAnyH_take (i := 14) (oi := ⟨some 8, _, _, _, _, _⟩) (v := ?_) rfl (by kernel_rfl) (by kernel_rfl) (by kernel_rfl) (fun _ _ _ h => h) (Or.inl ⟨by rfl, ?_⟩) (by assumption) ?_
              rotate_left 1
              · intro w hSw
                (try dsimp only at hSw)
                go_simp
                try with_reducible rfl
              try simp only [Act.put, List.setIfInBounds_toArray, List.set_cons_zero, List.set_cons_succ]
              refine wpAnyH_done (by kernel_rfl) ?_ _
              go_wp2
              go_meet
              exact ⟨D, cd, l, E, ce, ws, ad, wi, _, rfl, rfl, rfl, rfl, hl3, by omega, hD.gr hg3 hlos, hE.gr hg3 hlos, hgC, hS3, by omega⟩
            exact AllReadyH.nil
          exact AllReadyH.nil
        refine AllReadyH.cons rfl (fun K hK => ?_) ?_
        · go_simp
          obtain ⟨P, hP⟩ : ∃ P, P = w4.heap.size := ⟨_, rfl⟩
          have HLB := hide (hnew hP : (w4.alloc (.cells #[.int .i64 0, .int .i64 100, .int .i64 5000, .int .i64 86400000, .int .i64 (-1)] 3)).heap[P]? = some (.cells #[.int .i64 0, .int .i64 100, .int .i64 5000, .int .i64 86400000, .int .i64 (-1)] 3 (0, 0)))
          have hPs : w.heap.size < P := by have := hSC.lt; rw [hP]; exact this
          rw [← hP]
          clear hP
          replace hgC := hgC.alloc (.cells #[.int .i64 0, .int .i64 100, .int .i64 5000, .int .i64 86400000, .int .i64 (-1)] 3)
          replace hSC := hSC.nx ((Nx.refl w4).alloc (.cells #[.int .i64 0, .int .i64 100, .int .i64 5000, .int .i64 86400000, .int .i64 (-1)] 3))
          replace hD := hD.nx ((Nx.refl w4).alloc (.cells #[.int .i64 0, .int .i64 100, .int .i64 5000, .int .i64 86400000, .int .i64 (-1)] 3))
          replace hE := hE.nx ((Nx.refl w4).alloc (.cells #[.int .i64 0, .int .i64 100, .int .i64 5000, .int .i64 86400000, .int .i64 (-1)] 3))
          refine hK.out _ _ (HBX.out _ hgC) (fun hHeld => ?_)
          clear hK K
          try simp only [Act.put, List.setIfInBounds_toArray, List.set_cons_zero, List.set_cons_succ]
          refine wpAnyH_ready (rs := [7]) (by kernel_rfl) (by simp) ?_
          refine AllReadyH.cons rfl (fun K hK => ?_) ?_
          · go_simp
            go_at_call 14
            refine (w_Departure _ _ _ hSC (by omega)).mono ?_
            rintro e w5 ⟨ad, ha1, ha2, rfl, hg3, hS3⟩
            replace HLB := hide ((hg3.block P (lt_of_heap HLB.out) (by simp; omega)).trans HLB.out)
            replace hD := hD.gr hg3 hlos
            replace hE := hE.gr hg3 hlos
            replace hgC := hgC.trans hg3
            replace hSC := hS3
            go_simp
            refine hK.out _ _ (HBX.out _ hgC) (fun hHeld => ?_)
            clear hK K hg3 hS3
            try simp only [Act.put, List.setIfInBounds_toArray, List.set_cons_zero, List.set_cons_succ]
            refine wpAnyH_ready (rs := [10]) (by kernel_rfl) (by simp) ?_
            refine AllReadyH.cons rfl (fun K hK => ?_) ?_
            · go_simp
              go_at_call 15
              refine (w_PickI P [0, 100, 5000, 86400000, -1] _ _ _ _ hSC (by omega) HLB.out (by omega) rfl (by simp) (by simp)).mono ?_
              rintro e w7 ⟨wi, hwi, rfl, hg3, hS3⟩
              replace hgC := hgC.trans hg3
              go_simp
              refine hK.out _ _ (HBX.out _ hgC) (fun hHeld => ?_)
              clear hK K
              try simp only [Act.put, List.setIfInBounds_toArray, List.set_cons_zero, List.set_cons_succ]
              refine wpAnyH_take (i := 11) (oi := ⟨some 5, _, _, _, _, _⟩) (v := ?_) rfl (by kernel_rfl) (by kernel_rfl) (by kernel_rfl) (fun _ _ _ h => h) (Or.inl ⟨by rfl, ?_⟩) (by assumption) ?_
              rotate_left 1
              · intro w hSw
                (try dsimp only at hSw)
                go_simp
                try with_reducible rfl
              try simp only [Act.put, List.setIfInBounds_toArray, List.set_cons_zero, List.set_cons_succ]
              refine wpAnyH_take (i := 12) (oi := ⟨some 6, _, _, _, _, _⟩) (v := ?_) rfl (by kernel_rfl) (by kernel_rfl) (by kernel_rfl) (fun _ _ _ h => h) (Or.inl ⟨by rfl, ?_⟩) (by assumption) ?_
              rotate_left 1
              · intro w hSw
                (try dsimp only at hSw)
                go_simp
                try with_reducible rfl
              try simp only [Act.put, List.setIfInBounds_toArray, List.set_cons_zero, List.set_cons_succ]
              refine wpAnyH_take (i := 13) (oi := ⟨some 7, _, _, _, _, _⟩) (v := ?_) rfl (by kernel_rfl) (by kernel_rfl) (by kernel_rfl) (fun _ _ _ h => h) (Or.inl ⟨by rfl, ?_⟩) (by assumption) ?_
              rotate_left 1
              · intro w hSw
                (try dsimp only at hSw)
                go_simp
                try with_reducible rfl
              try simp only [Act.put, List.setIfInBounds_toArray, List.set_cons_zero, List.set_cons_succ]
              refine wpAnyH_take (i := 14) (oi := ⟨some 8, _, _, _, _, _⟩) (v := ?_) rfl (by kernel_rfl) (by kernel_rfl) (by kernel_rfl) (fun _ _ _ h => h) (Or.inl ⟨by rfl, ?_⟩) (by assumption) ?_
              rotate_left 1
              · intro w hSw
                (try dsimp only at hSw)
                go_simp
                try with_reducible rfl
              try simp only [Act.put, List.setIfInBounds_toArray, List.set_cons_zero, List.set_cons_succ]
              refine wpAnyH_done (by kernel_rfl) ?_ _
              go_wp2
              go_meet
              exact ⟨D, cd, l, E, ce, ws, ad, wi, _, rfl, rfl, rfl, rfl, hl3, by omega, hD.gr hg3 hlos, hE.gr hg3 hlos, hgC, hS3, by omega⟩
            exact AllReadyH.nil
          exact AllReadyH.nil
        exact AllReadyH.nil
      refine AllReadyH.cons rfl (fun K hK => ?_) ?_
      · go_simp
        obtain ⟨P, hP⟩ : ∃ P, P = w3.heap.size := ⟨_, rfl⟩
        have HLB := hide (hnew hP : (w3.alloc (.cells #[.int .i64 0, .int .i64 100, .int .i64 5000, .int .i64 86400000, .int .i64 (-1)] 3)).heap[P]? = some (.cells #[.int .i64 0, .int .i64 100, .int .i64 5000, .int .i64 86400000, .int .i64 (-1)] 3 (0, 0)))
        have hPs : w.heap.size < P := by have := hSC.lt; rw [hP]; exact this
        rw [← hP]
        clear hP
        replace hgC := hgC.alloc (.cells #[.int .i64 0, .int .i64 100, .int .i64 5000, .int .i64 86400000, .int .i64 (-1)] 3)
        replace hSC := hSC.nx ((Nx.refl w3).alloc (.cells #[.int .i64 0, .int .i64 100, .int .i64 5000, .int .i64 86400000, .int .i64 (-1)] 3))
        replace hD := hD.nx ((Nx.refl w3).alloc (.cells #[.int .i64 0, .int .i64 100, .int .i64 5000, .int .i64 86400000, .int .i64 (-1)] 3))
        refine hK.out _ _ (HBX.out _ hgC) (fun hHeld => ?_)
        clear hK K
        try simp only [Act.put, List.setIfInBounds_toArray, List.set_cons_zero, List.set_cons_succ]
        refine wpAnyH_ready (rs := [5]) (by kernel_rfl) (by simp) ?_
        refine AllReadyH.cons rfl (fun K hK => ?_) ?_
        · go_simp
          go_at_call 13
          refine (HWT.out _ _ hgC hSC (by omega)).mono ?_
          rintro e w4 ⟨E, ce, ws, rfl, hw5, hE, hg3, hS3⟩
          replace HLB := hide ((hg3.block P (lt_of_heap HLB.out) (by simp; omega)).trans HLB.out)
          replace hE := hE.low (show w.heap.size + 1 ≤ _ from Nat.le_trans hlow2 hgC.sz)
          replace hD := hD.gr hg3 hlos
          replace hgC := hgC.trans hg3
          replace hSC := hS3
          go_simp
          refine hK.out _ _ (HBX.out _ hgC) (fun hHeld => ?_)
          clear hK K hg3 hS3
          try simp only [Act.put, List.setIfInBounds_toArray, List.set_cons_zero, List.set_cons_succ]
          refine wpAnyH_ready (rs := [7]) (by kernel_rfl) (by simp) ?_
          refine AllReadyH.cons rfl (fun K hK => ?_) ?_
          · go_simp
            go_at_call 14
            refine (w_Departure _ _ _ hSC (by omega)).mono ?_
            rintro e w5 ⟨ad, ha1, ha2, rfl, hg3, hS3⟩
            replace HLB := hide ((hg3.block P (lt_of_heap HLB.out) (by simp; omega)).trans HLB.out)
            replace hD := hD.gr hg3 hlos
            replace hE := hE.gr hg3 hlos
            replace hgC := hgC.trans hg3
            replace hSC := hS3
            go_simp
            refine hK.out _ _ (HBX.out _ hgC) (fun hHeld => ?_)
            clear hK K hg3 hS3
            try simp only [Act.put, List.setIfInBounds_toArray, List.set_cons_zero, List.set_cons_succ]
            refine wpAnyH_ready (rs := [10]) (by kernel_rfl) (by simp) ?_
            refine AllReadyH.cons rfl (fun K hK => ?_) ?_
            · go_simp
              go_at_call 15
              refine (w_PickI P [0, 100, 5000, 86400000, -1] _ _ _ _ hSC (by omega) HLB.out (by omega) rfl (by simp) (by simp)).mono ?_
              rintro e w7 ⟨wi, hwi, rfl, hg3, hS3⟩
              replace hgC := hgC.trans hg3
              go_simp
              refine hK.out _ _ (HBX.out _ hgC) (fun hHeld => ?_)
              clear hK K
              try simp only [Act.put, List.setIfInBounds_toArray, List.set_cons_zero, List.set_cons_succ]
              refine wpAnyH_take (i := 11) (oi := ⟨some 5, _, _, _, _, _⟩) (v := ?_) rfl (by kernel_rfl) (by kernel_rfl) (by kernel_rfl) (fun _ _ _ h => h) (Or.inl ⟨by rfl, ?_⟩) (by assumption) ?_
              rotate_left 1
              · intro w hSw
                (try dsimp only at hSw)
                go_simp
                try with_reducible rfl
              try simp only [Act.put, List.setIfInBounds_toArray, List.set_cons_zero, List.set_cons_succ]
              refine wpAnyH_take (i := 12) (oi := ⟨some 6, _, _, _, _, _⟩) (v := ?_) rfl (by kernel_rfl) (by kernel_rfl) (by kernel_rfl) (fun _ _ _ h => h) (Or.inl ⟨by rfl, ?_⟩) (by assumption) ?_
              rotate_left 1
              · intro w hSw
                (try dsimp only at hSw)
                go_simp
                try with_reducible rfl
              try simp only [Act.put, List.setIfInBounds_toArray, List.set_cons_zero, List.set_cons_succ]
              refine wpAnyH_take (i := 13) (oi := ⟨some 7, _, _, _, _, _⟩) (v := ?_) rfl (by kernel_rfl) (by kernel_rfl) (by kernel_rfl) (fun _ _ _ h => h) (Or.inl ⟨by rfl, ?_⟩) (by assumption) ?_
              rotate_left 1
              · intro w hSw
                (try dsimp only at hSw)
                go_simp
                try with_reducible rfl
              try simp only [Act.put, List.setIfInBounds_toArray, List.set_cons_zero, List.set_cons_succ]
              refine wpAnyH_take (i := 14) (oi := ⟨some 8, _, _, _, _, _⟩) (v := ?_) rfl (by kernel_rfl) (by kernel_rfl) (by kernel_rfl) (fun _ _ _ h => h) (Or.inl ⟨by rfl, ?_⟩) (by assumption) ?_
              rotate_left 1
              · intro w hSw
                (try dsimp only at hSw)
                go_simp
                try with_reducible rfl
              try simp only [Act.put, List.setIfInBounds_toArray, List.set_cons_zero, List.set_cons_succ]
              refine wpAnyH_done (by kernel_rfl) ?_ _
              go_wp2
              go_meet
              exact ⟨D, cd, l, E, ce, ws, ad, wi, _, rfl, rfl, rfl, rfl, hl3, by omega, hD.gr hg3 hlos, hE.gr hg3 hlos, hgC, hS3, by omega⟩
            exact AllReadyH.nil
          exact AllReadyH.nil
        exact AllReadyH.nil
      exact AllReadyH.nil
    refine AllReadyH.cons rfl (fun K hK => ?_) ?_
    · go_simp
      obtain ⟨P, hP⟩ : ∃ P, P = w2.heap.size := ⟨_, rfl⟩
      have HLB := hide (hnew hP : (w2.drew.alloc (.cells #[.int .i64 0, .int .i64 100, .int .i64 5000, .int .i64 86400000, .int .i64 (-1)] 3)).heap[P]? = some (.cells #[.int .i64 0, .int .i64 100, .int .i64 5000, .int .i64 86400000, .int .i64 (-1)] 3 (0, 0)))
      have hPs : w.heap.size < P := by have := hSC.lt; rw [hP]; exact this
      rw [← hP]
      clear hP
      replace hgC := hgC.alloc (.cells #[.int .i64 0, .int .i64 100, .int .i64 5000, .int .i64 86400000, .int .i64 (-1)] 3)
      replace hSC := hSC.nx ((Nx.refl w2.drew).alloc (.cells #[.int .i64 0, .int .i64 100, .int .i64 5000, .int .i64 86400000, .int .i64 (-1)] 3))
      refine hK.out _ _ (HBX.out _ hgC) (fun hHeld => ?_)
      clear hK K
      try simp only [Act.put, List.setIfInBounds_toArray, List.set_cons_zero, List.set_cons_succ]
      refine wpAnyH_ready (rs := [2]) (by kernel_rfl) (by simp) ?_
      refine AllReadyH.cons rfl (fun K hK => ?_) ?_
      · go_simp
        go_at_call 12
        refine (HKS.out _ _ hgC hSC (by omega)).mono ?_
        rintro e w3 ⟨D, cd, l, rfl, hl3, hD, hg3, hS3⟩
        replace HLB := hide ((hg3.block P (lt_of_heap HLB.out) (by simp; omega)).trans HLB.out)
        replace hD := hD.low (show w.heap.size + 1 ≤ _ from Nat.le_trans hlow2 hgC.sz)
        replace hgC := hgC.trans hg3
        replace hSC := hS3
        go_simp
        refine hK.out _ _ (HBX.out _ hgC) (fun hHeld => ?_)
        clear hK K hg3 hS3
        try simp only [Act.put, List.setIfInBounds_toArray, List.set_cons_zero, List.set_cons_succ]
        refine wpAnyH_ready (rs := [5]) (by kernel_rfl) (by simp) ?_
        refine AllReadyH.cons rfl (fun K hK => ?_) ?_
        · go_simp
          go_at_call 13
          refine (HWT.out _ _ hgC hSC (by omega)).mono ?_
          rintro e w4 ⟨E, ce, ws, rfl, hw5, hE, hg3, hS3⟩
          replace HLB := hide ((hg3.block P (lt_of_heap HLB.out) (by simp; omega)).trans HLB.out)
          replace hE := hE.low (show w.heap.size + 1 ≤ _ from Nat.le_trans hlow2 hgC.sz)
          replace hD := hD.gr hg3 hlos
          replace hgC := hgC.trans hg3
          replace hSC := hS3
          go_simp
          refine hK.out _ _ (HBX.out _ hgC) (fun hHeld => ?_)
          clear hK K hg3 hS3
          try simp only [Act.put, List.setIfInBounds_toArray, List.set_cons_zero, List.set_cons_succ]
          refine wpAnyH_ready (rs := [7]) (by kernel_rfl) (by simp) ?_
          refine AllReadyH.cons rfl (fun K hK => ?_) ?_
          · go_simp
            go_at_call 14
            refine (w_Departure _ _ _ hSC (by omega)).mono ?_
            rintro e w5 ⟨ad, ha1, ha2, rfl, hg3, hS3⟩
            replace HLB := hide ((hg3.block P (lt_of_heap HLB.out) (by simp; omega)).trans HLB.out)
            replace hD := hD.gr hg3 hlos
            replace hE := hE.gr hg3 hlos
            replace hgC := hgC.trans hg3
            replace hSC := hS3
            go_simp
            refine hK.out _ _ (HBX.out _ hgC) (fun hHeld => ?_)
            clear hK K hg3 hS3
            try simp only [Act.put, List.setIfInBounds_toArray, List.set_cons_zero, List.set_cons_succ]
            refine wpAnyH_ready (rs := [10]) (by kernel_rfl) (by simp) ?_
            refine AllReadyH.cons rfl (fun K hK => ?_) ?_
            · go_simp
              go_at_call 15
              refine (w_PickI P [0, 100, 5000, 86400000, -1] _ _ _ _ hSC (by omega) HLB.out (by omega) rfl (by simp) (by simp)).mono ?_
              rintro e w7 ⟨wi, hwi, rfl, hg3, hS3⟩
              replace hgC := hgC.trans hg3
              go_simp
              refine hK.out _ _ (HBX.out _ hgC) (fun hHeld => ?_)
              clear hK K
              try simp only [Act.put, List.setIfInBounds_toArray, List.set_cons_zero, List.set_cons_succ]
              refine wpAnyH_take (i := 11) (oi := ⟨some 5, _, _, _, _, _⟩) (v := ?_) rfl (by kernel_rfl) (by kernel_rfl) (by kernel_rfl) (fun _ _ _ h => h) (Or.inl ⟨by rfl, ?_⟩) (by assumption) ?_
              rotate_left 1
              · intro w hSw
                (try dsimp only at hSw)
                go_simp
                try with_reducible rfl
              try simp only [Act.put, List.setIfInBounds_toArray, List.set_cons_zero, List.set_cons_succ]
              refine wpAnyH_take (i := 12) (oi := ⟨some 6, _, _, _, _, _⟩) (v := ?_) rfl (by kernel_rfl) (by kernel_rfl) (by kernel_rfl) (fun _ _ _ h => h) (Or.inl ⟨by rfl, ?_⟩) (by assumption) ?_
              rotate_left 1
              · intro w hSw
                (try dsimp only at hSw)
                go_simp
                try with_reducible rfl
              try simp only [Act.put, List.setIfInBounds_toArray, List.set_cons_zero, List.set_cons_succ]
              refine wpAnyH_take (i := 13) (oi := ⟨some 7, _, _, _, _, _⟩) (v := ?_) rfl (by kernel_rfl) (by kernel_rfl) (by kernel_rfl) (fun _ _ _ h => h) (Or.inl ⟨by rfl, ?_⟩) (by assumption) ?_
              rotate_left 1
              · intro w hSw
                (try dsimp only at hSw)
                go_simp
                try with_reducible rfl
              try simp only [Act.put, List.setIfInBounds_toArray, List.set_cons_zero, List.set_cons_succ]
              refine wpAnyH_take (i := 14) (oi := ⟨some 8, _, _, _, _, _⟩) (v := ?_) rfl (by kernel_rfl) (by kernel_rfl) (by kernel_rfl) (fun _ _ _ h => h) (Or.inl ⟨by rfl, ?_⟩) (by assumption) ?_
              rotate_left 1
              · intro w hSw
                (try dsimp only at hSw)
                go_simp
                try with_reducible rfl
              try simp only [Act.put, List.setIfInBounds_toArray, List.set_cons_zero, List.set_cons_succ]
              refine wpAnyH_done (by kernel_rfl) ?_ _
              go_wp2
              go_meet
              exact ⟨D, cd, l, E, ce, ws, ad, wi, _, rfl, rfl, rfl, rfl, hl3, by omega, hD.gr hg3 hlos, hE.gr hg3 hlos, hgC, hS3, by omega⟩
            exact AllReadyH.nil
          exact AllReadyH.nil
        exact AllReadyH.nil
      exact AllReadyH.nil
    exact AllReadyH.nil
  case rest =>
    obtain ⟨D, cd, l, E, ce, ws, ad, wi, K, rfl, rfl, rfl, rfl, hl3, hw5, hD, hE, hg5, hS5, hK⟩ := hcut
    have HG02 := hide hg02
    have hws : w.heap.size + 1 ≤ wc.heap.size := Nat.le_trans hlow2 hg5.sz
    refine ‹∀ (a : Act) (w_1 : World), Code.wp _ _ _ a w_1 → _› _ _ ?_
    exact st_SC4 HG02 HRD HBX (hide hg5) (hide hD) (hide hE) HSN hS5 hK hws (by omega) (by omega) (by omega) hl3 hw5
end Go.Proofs.YtmpnilliichpfaaGreatDoor
