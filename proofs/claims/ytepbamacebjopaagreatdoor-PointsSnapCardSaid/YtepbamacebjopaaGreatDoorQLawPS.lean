/- jitlaw1.PointsSnap returns true: its first stage (written by gen_ps.py). -/
import Derived.Test.YtepbamacebjopaaGreatDoorQLawPSb
import Derived.Test.YtepbamacebjopaaGreatDoorQRdsS
import Derived.Test.YtepbamacebjopaaGreatDoorQG15
import Derived.Test.YtepbamacebjopaaGreatDoorQG2
import Derived.Test.YtepbamacebjopaaGreatDoorQG24
import Derived.Test.YtepbamacebjopaaGreatDoorQG18
namespace Go.Proofs.YtepbamacebjopaaGreatDoor
open Go.RowKit

theorem el_PS : ElemOf Tryz.prog 34 9 1 16 := ElemOf.mk' (z := .string ByteArray.empty) Tryz.underlying34 (by kernel_rfl) rfl
set_option maxRecDepth 100000 in
set_option maxHeartbeats 8000000 in
theorem w_lawPS (A : Option Addr) (n c : Nat) (w : World) (hn : n ≤ 9223372036854775807)
    (hL : 0 < n → ∃ b off, A = some ⟨b, off, none⟩ ∧ b < w.heap.size ∧ ∀ j, j < n → ∃ z : Int, w.cell? ⟨b, off + j, none⟩ = some (.int .i64 z) ∧ -9223372036854775808 ≤ z ∧ z ≤ 9223372036854775807) :
    Calls Tryz.prog 3 #[.slice A n c] w (TrueNx w) := by
  have hS0 : Str (w.alloc (.cells #[.slice A n c, .int .i64 0] 25)) w.heap.size 0 := str_new A n c w hn hL
  clear hL
  go_enter Tryz.func3, Tryz.ntmps3
  go_wp2_with fail
  refine (w_RoadsS _ 0 _ hS0 (by omega)).mono ?_
  rintro e w1 ⟨vN, vA, vB, ns, rs, bs, rfl, hown, hn0, hn5, hr10, hb101, hg1, hS1⟩
  have hsz : (w.alloc (.cells #[.slice A n c, .int .i64 0] 25)).heap.size = w.heap.size + 1 := by simp
  rw [hsz] at hown
  have hz1 := hg1.sz
  rw [hsz] at hz1
  have hg01 : Gr w.heap.size w w1 := (Gr.of_nx ((Nx.refl w).alloc _)).trans hg1
  clear hg1 hS0
  have hsmN := hown.smN
  obtain ⟨B0, B1, B2, ca, cb, cc, e1, e2, e3, hRN, hRA, hRB⟩ := hown.rd
  subst e1 e2 e3
  clear hown
  obtain ⟨w2, hw2⟩ : ∃ w2, w2 = w1.alloc (.cells #[.slice B0 ns.length ca, .slice B1 rs.length cb, .slice B2 bs.length cc] 30) := ⟨_, rfl⟩
  have hn2 : Nx w1 w2 := hw2 ▸ (Nx.refl w1).alloc _
  have hs2 : w1.heap.size < w2.heap.size := by rw [hw2]; simp
  have b0 : w2.cell? ⟨w1.heap.size, 0, none⟩ = some (.slice B0 ns.length ca) := by rw [hw2]; go_simp
  have b1 : w2.cell? ⟨w1.heap.size, 1, none⟩ = some (.slice B1 rs.length cb) := by rw [hw2]; go_simp
  have b2 : w2.cell? ⟨w1.heap.size, 2, none⟩ = some (.slice B2 bs.length cc) := by rw [hw2]; go_simp
  have hg02 := hg01.then_nx hn2
  have hS2 := hS1.nx hn2
  have HRN := hide (hRN.nx hn2)
  have HRA := hide (hRA.nx hn2)
  have HRB := hide (hRB.nx hn2)
  have HSN := hide hsmN
  clear hRN hRA hRB hsmN hg01 hS1
  go_upto_region 3 with fail
  rw [← hw2]
  have HW2 := hide hw2
  clear hw2
  have hgs : w.heap.size < w1.heap.size := by omega
  generalize w1.heap.size = g at *
  have hlos : w.heap.size < w.heap.size + 1 := by omega
  have HRD := hide (fun W (hg : Gr w.heap.size w2 W) => (⟨HRN.out.gr hg hlos, ⟨HRA.out.1.gr hg hlos, fun x hx => ⟨(HRA.out.2 x hx).1.gr hg hlos, (HRA.out.2 x hx).2⟩⟩, HRB.out.gr hg hlos⟩ : Rd W (w.heap.size + 1) B0 3 encNode ns ∧ RdArcs W (w.heap.size + 1) B1 rs ∧ Rd W (w.heap.size + 1) B2 2 encBan bs))
  have HBX := hide (fun W (hg : Gr w.heap.size w2 W) => (⟨World.grownBy.cell (row := some w.heap.size) hg b0 (by simp; omega), World.grownBy.cell (row := some w.heap.size) hg b1 (by simp; omega), World.grownBy.cell (row := some w.heap.size) hg b2 (by simp; omega)⟩ : W.cell? ⟨g, 0, none⟩ = some (.slice B0 ns.length ca) ∧ W.cell? ⟨g, 1, none⟩ = some (.slice B1 rs.length cb) ∧ W.cell? ⟨g, 2, none⟩ = some (.slice B2 bs.length cc)))
  have HNK := hide (fun k W (hg : Gr w.heap.size w2 W) (hS : Str W w.heap.size k) (hk : k < 600000) => w_NodeKey w.heap.size k (w.heap.size + 1) B0 B1 B2 rs.length bs.length ca cb cc ns W hS (by omega) (HRD.out W hg).1 HSN.out hn0 (by omega) hlos)
  have hlow2 : w.heap.size + 1 ≤ w2.heap.size := by omega
  clear HRN HRA HRB b0 b1 b2
  have HS2 := hide hS2
  clear hS2
  go_cut [5, 6, 7, 8] (fun va vb vc vd wx => ∃ (x y : Int) (f t : ByteArray) (K : Nat), va = .int .i64 x ∧ vb = .int .i64 y ∧ vc = .string f ∧ vd = .string t ∧ Gr w.heap.size w2 wx ∧ Str wx w.heap.size K ∧ K < 100000)
  case first =>
    generalize ns.length = nn at *
    generalize rs.length = nr at *
    generalize bs.length = nb at *
    refine wp_region_held_drew (S := fun w' => w'.cell? ⟨g, 0, none⟩ = some (.slice B0 nn ca) ∧ w'.cell? ⟨g, 1, none⟩ = some (.slice B1 nr cb) ∧ w'.cell? ⟨g, 2, none⟩ = some (.slice B2 nb cc)) (by kernel_rfl) ?_ (fun hHeld => ?_)
    · exact HBX.out _ (Gr.refl _ _).drew
    have hgC := (Gr.refl w.heap.size w2).drew
    have hSC := HS2.out.nx (Nx.refl w2).drew
    refine wpAnyH_take (i := 0) (oi := ⟨some 34, _, _, _, _, _⟩) (v := ?_) rfl (by kernel_rfl) (by kernel_rfl) (by kernel_rfl) (fun _ _ _ h => h) (Or.inl ⟨by rfl, ?_⟩) (by assumption) ?_
    rotate_left 1
    · intro w hSw
      (try dsimp only at hSw)
      go_simp
      try with_reducible rfl
    try simp only [Act.put, List.setIfInBounds_toArray, List.set_cons_zero, List.set_cons_succ]
    refine wpAnyH_take (i := 3) (oi := ⟨some 37, _, _, _, _, _⟩) (v := ?_) rfl (by kernel_rfl) (by kernel_rfl) (by kernel_rfl) (fun _ _ _ h => h) (Or.inl ⟨by rfl, ?_⟩) (by assumption) ?_
    rotate_left 1
    · intro w hSw
      (try dsimp only at hSw)
      go_simp
      try with_reducible rfl
    try simp only [Act.put, List.setIfInBounds_toArray, List.set_cons_zero, List.set_cons_succ]
    refine wpAnyH_take (i := 6) (oi := ⟨some 40, _, _, _, _, _⟩) (v := ?_) rfl (by kernel_rfl) (by kernel_rfl) (by kernel_rfl) (fun _ _ _ h => h) (Or.inl ⟨by rfl, ?_⟩) (by assumption) ?_
    rotate_left 1
    · intro w hSw
      (try dsimp only at hSw)
      go_simp
      try with_reducible rfl
    try simp only [Act.put, List.setIfInBounds_toArray, List.set_cons_zero, List.set_cons_succ]
    refine wpAnyH_take (i := 7) (oi := ⟨some 41, _, _, _, _, _⟩) (v := ?_) rfl (by kernel_rfl) (by kernel_rfl) (by kernel_rfl) (fun _ _ _ h => h) (Or.inl ⟨by rfl, ?_⟩) (by assumption) ?_
    rotate_left 1
    · intro w hSw
      (try dsimp only at hSw)
      go_simp
      try with_reducible rfl
    try simp only [Act.put, List.setIfInBounds_toArray, List.set_cons_zero, List.set_cons_succ]
    refine wpAnyH_take (i := 9) (oi := ⟨some 43, _, _, _, _, _⟩) (v := ?_) rfl (by kernel_rfl) (by kernel_rfl) (by kernel_rfl) (fun _ _ _ h => h) (Or.inl ⟨by rfl, ?_⟩) (by assumption) ?_
    rotate_left 1
    · intro w hSw
      (try dsimp only at hSw)
      go_simp
      try with_reducible rfl
    try simp only [Act.put, List.setIfInBounds_toArray, List.set_cons_zero, List.set_cons_succ]
    refine wpAnyH_take (i := 10) (oi := ⟨some 44, _, _, _, _, _⟩) (v := ?_) rfl (by kernel_rfl) (by kernel_rfl) (by kernel_rfl) (fun _ _ _ h => h) (Or.inl ⟨by rfl, ?_⟩) (by assumption) ?_
    rotate_left 1
    · intro w hSw
      (try dsimp only at hSw)
      go_simp
      try with_reducible rfl
    try simp only [Act.put, List.setIfInBounds_toArray, List.set_cons_zero, List.set_cons_succ]
    generalize w2.drew = wd at *
    refine wpAnyH_ready (rs := [1, 4]) (by kernel_rfl) (by simp) ?_
    refine AllReadyH.cons rfl (fun K hK => ?_) ?_
    · go_simp
      obtain ⟨P1, hP1⟩ : ∃ P, P = wd.heap.size := ⟨_, rfl⟩
      have HL1 := hide (hnew hP1 : (wd.alloc (.cells #[.int .i64 0, .int .i64 5, .int .i64 30, .int .i64 (-11), .int .i64 10000, .int .i64 (-10001)] 3)).heap[P1]? = some (.cells #[.int .i64 0, .int .i64 5, .int .i64 30, .int .i64 (-11), .int .i64 10000, .int .i64 (-10001)] 3 (0, 0)))
      have hp1 : w.heap.size < P1 := by have := hSC.lt; rw [hP1]; exact this
      rw [← hP1]
      clear hP1
      replace hgC := hgC.alloc (.cells #[.int .i64 0, .int .i64 5, .int .i64 30, .int .i64 (-11), .int .i64 10000, .int .i64 (-10001)] 3)
      replace hSC := hSC.nx ((Nx.refl wd).alloc (.cells #[.int .i64 0, .int .i64 5, .int .i64 30, .int .i64 (-11), .int .i64 10000, .int .i64 (-10001)] 3))
      generalize wd.alloc (.cells #[.int .i64 0, .int .i64 5, .int .i64 30, .int .i64 (-11), .int .i64 10000, .int .i64 (-10001)] 3) = v01 at *
      refine hK.out _ _ (HBX.out _ hgC) (fun hHeld => ?_)
      clear hK K
      try simp only [Act.put, List.setIfInBounds_toArray, List.set_cons_zero, List.set_cons_succ]
      refine wpAnyH_ready (rs := [2, 4]) (by kernel_rfl) (by simp) ?_
      refine AllReadyH.cons rfl (fun K hK => ?_) ?_
      · go_simp
        go_at_call 5
        refine (w_PickI P1 [0, 5, 30, -11, 10000, -10001] _ _ _ _ hSC (by omega) HL1.out (by omega) rfl (by simp) (by simp)).mono ?_
        rintro e w3 ⟨x, _, rfl, hg3, hS3⟩
        replace hgC := hgC.trans hg3
        replace hSC := hS3
        go_simp
        clear hg3 hS3
        refine hK.out _ _ (HBX.out _ hgC) (fun hHeld => ?_)
        clear hK K
        try simp only [Act.put, List.setIfInBounds_toArray, List.set_cons_zero, List.set_cons_succ]
        refine wpAnyH_ready (rs := [4]) (by kernel_rfl) (by simp) ?_
        refine AllReadyH.cons rfl (fun K hK => ?_) ?_
        · go_simp
          obtain ⟨P2, hP2⟩ : ∃ P, P = w3.heap.size := ⟨_, rfl⟩
          have HL2 := hide (hnew hP2 : (w3.alloc (.cells #[.int .i64 0, .int .i64 7, .int .i64 (-33), .int .i64 10000] 3)).heap[P2]? = some (.cells #[.int .i64 0, .int .i64 7, .int .i64 (-33), .int .i64 10000] 3 (0, 0)))
          have hp2 : w.heap.size < P2 := by have := hSC.lt; rw [hP2]; exact this
          rw [← hP2]
          clear hP2
          replace hgC := hgC.alloc (.cells #[.int .i64 0, .int .i64 7, .int .i64 (-33), .int .i64 10000] 3)
          replace hSC := hSC.nx ((Nx.refl w3).alloc (.cells #[.int .i64 0, .int .i64 7, .int .i64 (-33), .int .i64 10000] 3))
          generalize w3.alloc (.cells #[.int .i64 0, .int .i64 7, .int .i64 (-33), .int .i64 10000] 3) = v12 at *
          refine hK.out _ _ (HBX.out _ hgC) (fun hHeld => ?_)
          clear hK K
          try simp only [Act.put, List.setIfInBounds_toArray, List.set_cons_zero, List.set_cons_succ]
          refine wpAnyH_ready (rs := [5]) (by kernel_rfl) (by simp) ?_
          refine AllReadyH.cons rfl (fun K hK => ?_) ?_
          · go_simp
            go_at_call 5
            refine (w_PickI P2 [0, 7, -33, 10000] _ _ _ _ hSC (by omega) HL2.out (by omega) rfl (by simp) (by simp)).mono ?_
            rintro e w4 ⟨y, _, rfl, hg3, hS3⟩
            replace hgC := hgC.trans hg3
            replace hSC := hS3
            go_simp
            clear hg3 hS3
            refine hK.out _ _ (HBX.out _ hgC) (fun hHeld => ?_)
            clear hK K
            try simp only [Act.put, List.setIfInBounds_toArray, List.set_cons_zero, List.set_cons_succ]
            refine wpAnyH_ready (rs := [8]) (by kernel_rfl) (by simp) ?_
            refine AllReadyH.cons rfl (fun K hK => ?_) ?_
            · go_simp
              go_at_call 6
              refine (HNK.out _ _ hgC hSC (by omega)).mono ?_
              rintro e w5 ⟨f, rfl, _, hg3, hS3⟩
              replace hgC := hgC.trans hg3
              replace hSC := hS3
              go_simp
              clear hg3 hS3
              refine hK.out _ _ (HBX.out _ hgC) (fun hHeld => ?_)
              clear hK K
              try simp only [Act.put, List.setIfInBounds_toArray, List.set_cons_zero, List.set_cons_succ]
              refine wpAnyH_ready (rs := [11]) (by kernel_rfl) (by simp) ?_
              refine AllReadyH.cons rfl (fun K hK => ?_) ?_
              · go_simp
                go_at_call 6
                refine (HNK.out _ _ hgC hSC (by omega)).mono ?_
                rintro e w6 ⟨t, rfl, _, hg3, hS3⟩
                replace hgC := hgC.trans hg3
                replace hSC := hS3
                go_simp
                clear hg3 hS3
                refine hK.out _ _ (HBX.out _ hgC) (fun hHeld => ?_)
                clear hK K
                try simp only [Act.put, List.setIfInBounds_toArray, List.set_cons_zero, List.set_cons_succ]
                refine wpAnyH_take (i := 12) (oi := ⟨some 5, _, _, _, _, _⟩) (v := ?_) rfl (by kernel_rfl) (by kernel_rfl) (by kernel_rfl) (fun _ _ _ h => h) (Or.inl ⟨by rfl, ?_⟩) (by assumption) ?_
                rotate_left 1
                · intro w hSw
                  (try dsimp only at hSw)
                  go_simp
                  try with_reducible rfl
                try simp only [Act.put, List.setIfInBounds_toArray, List.set_cons_zero, List.set_cons_succ]
                refine wpAnyH_take (i := 13) (oi := ⟨some 6, _, _, _, _, _⟩) (v := ?_) rfl (by kernel_rfl) (by kernel_rfl) (by kernel_rfl) (fun _ _ _ h => h) (Or.inl ⟨by rfl, ?_⟩) (by assumption) ?_
                rotate_left 1
                · intro w hSw
                  (try dsimp only at hSw)
                  go_simp
                  try with_reducible rfl
                try simp only [Act.put, List.setIfInBounds_toArray, List.set_cons_zero, List.set_cons_succ]
                refine wpAnyH_take (i := 14) (oi := ⟨some 7, _, _, _, _, _⟩) (v := ?_) rfl (by kernel_rfl) (by kernel_rfl) (by kernel_rfl) (fun _ _ _ h => h) (Or.inl ⟨by rfl, ?_⟩) (by assumption) ?_
                rotate_left 1
                · intro w hSw
                  (try dsimp only at hSw)
                  go_simp
                  try with_reducible rfl
                try simp only [Act.put, List.setIfInBounds_toArray, List.set_cons_zero, List.set_cons_succ]
                refine wpAnyH_take (i := 15) (oi := ⟨some 8, _, _, _, _, _⟩) (v := ?_) rfl (by kernel_rfl) (by kernel_rfl) (by kernel_rfl) (fun _ _ _ h => h) (Or.inl ⟨by rfl, ?_⟩) (by assumption) ?_
                rotate_left 1
                · intro w hSw
                  (try dsimp only at hSw)
                  go_simp
                  try with_reducible rfl
                try simp only [Act.put, List.setIfInBounds_toArray, List.set_cons_zero, List.set_cons_succ]
                refine wpAnyH_done (by kernel_rfl) ?_ _
                go_wp2
                go_meet
                exact ⟨x, y, f, t, _, rfl, rfl, rfl, rfl, hgC, hSC, by omega⟩
              exact AllReadyH.nil
            exact AllReadyH.nil
          exact AllReadyH.nil
        exact AllReadyH.nil
      refine AllReadyH.cons rfl (fun K hK => ?_) ?_
      · go_simp
        obtain ⟨P2, hP2⟩ : ∃ P, P = v01.heap.size := ⟨_, rfl⟩
        have HL2 := hide (hnew hP2 : (v01.alloc (.cells #[.int .i64 0, .int .i64 7, .int .i64 (-33), .int .i64 10000] 3)).heap[P2]? = some (.cells #[.int .i64 0, .int .i64 7, .int .i64 (-33), .int .i64 10000] 3 (0, 0)))
        have hp2 : w.heap.size < P2 := by have := hSC.lt; rw [hP2]; exact this
        rw [← hP2]
        clear hP2
        replace HL1 := hide ((((Gr.refl w.heap.size v01).alloc (.cells #[.int .i64 0, .int .i64 7, .int .i64 (-33), .int .i64 10000] 3)).block P1 (lt_of_heap HL1.out) (by simp; omega)).trans HL1.out)
        replace hgC := hgC.alloc (.cells #[.int .i64 0, .int .i64 7, .int .i64 (-33), .int .i64 10000] 3)
        replace hSC := hSC.nx ((Nx.refl v01).alloc (.cells #[.int .i64 0, .int .i64 7, .int .i64 (-33), .int .i64 10000] 3))
        generalize v01.alloc (.cells #[.int .i64 0, .int .i64 7, .int .i64 (-33), .int .i64 10000] 3) = v02 at *
        refine hK.out _ _ (HBX.out _ hgC) (fun hHeld => ?_)
        clear hK K
        try simp only [Act.put, List.setIfInBounds_toArray, List.set_cons_zero, List.set_cons_succ]
        refine wpAnyH_ready (rs := [2]) (by kernel_rfl) (by simp) ?_
        refine AllReadyH.cons rfl (fun K hK => ?_) ?_
        · go_simp
          go_at_call 5
          refine (w_PickI P1 [0, 5, 30, -11, 10000, -10001] _ _ _ _ hSC (by omega) HL1.out (by omega) rfl (by simp) (by simp)).mono ?_
          rintro e w3 ⟨x, _, rfl, hg3, hS3⟩
          replace HL2 := hide ((hg3.block P2 (lt_of_heap HL2.out) (by simp; omega)).trans HL2.out)
          replace hgC := hgC.trans hg3
          replace hSC := hS3
          go_simp
          clear hg3 hS3
          refine hK.out _ _ (HBX.out _ hgC) (fun hHeld => ?_)
          clear hK K
          try simp only [Act.put, List.setIfInBounds_toArray, List.set_cons_zero, List.set_cons_succ]
          refine wpAnyH_ready (rs := [5]) (by kernel_rfl) (by simp) ?_
          refine AllReadyH.cons rfl (fun K hK => ?_) ?_
          · go_simp
            go_at_call 5
            refine (w_PickI P2 [0, 7, -33, 10000] _ _ _ _ hSC (by omega) HL2.out (by omega) rfl (by simp) (by simp)).mono ?_
            rintro e w4 ⟨y, _, rfl, hg3, hS3⟩
            replace hgC := hgC.trans hg3
            replace hSC := hS3
            go_simp
            clear hg3 hS3
            refine hK.out _ _ (HBX.out _ hgC) (fun hHeld => ?_)
            clear hK K
            try simp only [Act.put, List.setIfInBounds_toArray, List.set_cons_zero, List.set_cons_succ]
            refine wpAnyH_ready (rs := [8]) (by kernel_rfl) (by simp) ?_
            refine AllReadyH.cons rfl (fun K hK => ?_) ?_
            · go_simp
              go_at_call 6
              refine (HNK.out _ _ hgC hSC (by omega)).mono ?_
              rintro e w5 ⟨f, rfl, _, hg3, hS3⟩
              replace hgC := hgC.trans hg3
              replace hSC := hS3
              go_simp
              clear hg3 hS3
              refine hK.out _ _ (HBX.out _ hgC) (fun hHeld => ?_)
              clear hK K
              try simp only [Act.put, List.setIfInBounds_toArray, List.set_cons_zero, List.set_cons_succ]
              refine wpAnyH_ready (rs := [11]) (by kernel_rfl) (by simp) ?_
              refine AllReadyH.cons rfl (fun K hK => ?_) ?_
              · go_simp
                go_at_call 6
                refine (HNK.out _ _ hgC hSC (by omega)).mono ?_
                rintro e w6 ⟨t, rfl, _, hg3, hS3⟩
                replace hgC := hgC.trans hg3
                replace hSC := hS3
                go_simp
                clear hg3 hS3
                refine hK.out _ _ (HBX.out _ hgC) (fun hHeld => ?_)
                clear hK K
                try simp only [Act.put, List.setIfInBounds_toArray, List.set_cons_zero, List.set_cons_succ]
                refine wpAnyH_take (i := 12) (oi := ⟨some 5, _, _, _, _, _⟩) (v := ?_) rfl (by kernel_rfl) (by kernel_rfl) (by kernel_rfl) (fun _ _ _ h => h) (Or.inl ⟨by rfl, ?_⟩) (by assumption) ?_
                rotate_left 1
                · intro w hSw
                  (try dsimp only at hSw)
                  go_simp
                  try with_reducible rfl
                try simp only [Act.put, List.setIfInBounds_toArray, List.set_cons_zero, List.set_cons_succ]
                refine wpAnyH_take (i := 13) (oi := ⟨some 6, _, _, _, _, _⟩) (v := ?_) rfl (by kernel_rfl) (by kernel_rfl) (by kernel_rfl) (fun _ _ _ h => h) (Or.inl ⟨by rfl, ?_⟩) (by assumption) ?_
                rotate_left 1
                · intro w hSw
                  (try dsimp only at hSw)
                  go_simp
                  try with_reducible rfl
                try simp only [Act.put, List.setIfInBounds_toArray, List.set_cons_zero, List.set_cons_succ]
                refine wpAnyH_take (i := 14) (oi := ⟨some 7, _, _, _, _, _⟩) (v := ?_) rfl (by kernel_rfl) (by kernel_rfl) (by kernel_rfl) (fun _ _ _ h => h) (Or.inl ⟨by rfl, ?_⟩) (by assumption) ?_
                rotate_left 1
                · intro w hSw
                  (try dsimp only at hSw)
                  go_simp
                  try with_reducible rfl
                try simp only [Act.put, List.setIfInBounds_toArray, List.set_cons_zero, List.set_cons_succ]
                refine wpAnyH_take (i := 15) (oi := ⟨some 8, _, _, _, _, _⟩) (v := ?_) rfl (by kernel_rfl) (by kernel_rfl) (by kernel_rfl) (fun _ _ _ h => h) (Or.inl ⟨by rfl, ?_⟩) (by assumption) ?_
                rotate_left 1
                · intro w hSw
                  (try dsimp only at hSw)
                  go_simp
                  try with_reducible rfl
                try simp only [Act.put, List.setIfInBounds_toArray, List.set_cons_zero, List.set_cons_succ]
                refine wpAnyH_done (by kernel_rfl) ?_ _
                go_wp2
                go_meet
                exact ⟨x, y, f, t, _, rfl, rfl, rfl, rfl, hgC, hSC, by omega⟩
              exact AllReadyH.nil
            exact AllReadyH.nil
          exact AllReadyH.nil
        exact AllReadyH.nil
      exact AllReadyH.nil
    refine AllReadyH.cons rfl (fun K hK => ?_) ?_
    · go_simp
      obtain ⟨P2, hP2⟩ : ∃ P, P = wd.heap.size := ⟨_, rfl⟩
      have HL2 := hide (hnew hP2 : (wd.alloc (.cells #[.int .i64 0, .int .i64 7, .int .i64 (-33), .int .i64 10000] 3)).heap[P2]? = some (.cells #[.int .i64 0, .int .i64 7, .int .i64 (-33), .int .i64 10000] 3 (0, 0)))
      have hp2 : w.heap.size < P2 := by have := hSC.lt; rw [hP2]; exact this
      rw [← hP2]
      clear hP2
      replace hgC := hgC.alloc (.cells #[.int .i64 0, .int .i64 7, .int .i64 (-33), .int .i64 10000] 3)
      replace hSC := hSC.nx ((Nx.refl wd).alloc (.cells #[.int .i64 0, .int .i64 7, .int .i64 (-33), .int .i64 10000] 3))
      generalize wd.alloc (.cells #[.int .i64 0, .int .i64 7, .int .i64 (-33), .int .i64 10000] 3) = v02 at *
      refine hK.out _ _ (HBX.out _ hgC) (fun hHeld => ?_)
      clear hK K
      try simp only [Act.put, List.setIfInBounds_toArray, List.set_cons_zero, List.set_cons_succ]
      refine wpAnyH_ready (rs := [1]) (by kernel_rfl) (by simp) ?_
      refine AllReadyH.cons rfl (fun K hK => ?_) ?_
      · go_simp
        obtain ⟨P1, hP1⟩ : ∃ P, P = v02.heap.size := ⟨_, rfl⟩
        have HL1 := hide (hnew hP1 : (v02.alloc (.cells #[.int .i64 0, .int .i64 5, .int .i64 30, .int .i64 (-11), .int .i64 10000, .int .i64 (-10001)] 3)).heap[P1]? = some (.cells #[.int .i64 0, .int .i64 5, .int .i64 30, .int .i64 (-11), .int .i64 10000, .int .i64 (-10001)] 3 (0, 0)))
        have hp1 : w.heap.size < P1 := by have := hSC.lt; rw [hP1]; exact this
        rw [← hP1]
        clear hP1
        replace HL2 := hide ((((Gr.refl w.heap.size v02).alloc (.cells #[.int .i64 0, .int .i64 5, .int .i64 30, .int .i64 (-11), .int .i64 10000, .int .i64 (-10001)] 3)).block P2 (lt_of_heap HL2.out) (by simp; omega)).trans HL2.out)
        replace hgC := hgC.alloc (.cells #[.int .i64 0, .int .i64 5, .int .i64 30, .int .i64 (-11), .int .i64 10000, .int .i64 (-10001)] 3)
        replace hSC := hSC.nx ((Nx.refl v02).alloc (.cells #[.int .i64 0, .int .i64 5, .int .i64 30, .int .i64 (-11), .int .i64 10000, .int .i64 (-10001)] 3))
        generalize v02.alloc (.cells #[.int .i64 0, .int .i64 5, .int .i64 30, .int .i64 (-11), .int .i64 10000, .int .i64 (-10001)] 3) = v01 at *
        refine hK.out _ _ (HBX.out _ hgC) (fun hHeld => ?_)
        clear hK K
        try simp only [Act.put, List.setIfInBounds_toArray, List.set_cons_zero, List.set_cons_succ]
        refine wpAnyH_ready (rs := [2]) (by kernel_rfl) (by simp) ?_
        refine AllReadyH.cons rfl (fun K hK => ?_) ?_
        · go_simp
          go_at_call 5
          refine (w_PickI P1 [0, 5, 30, -11, 10000, -10001] _ _ _ _ hSC (by omega) HL1.out (by omega) rfl (by simp) (by simp)).mono ?_
          rintro e w3 ⟨x, _, rfl, hg3, hS3⟩
          replace HL2 := hide ((hg3.block P2 (lt_of_heap HL2.out) (by simp; omega)).trans HL2.out)
          replace hgC := hgC.trans hg3
          replace hSC := hS3
          go_simp
          clear hg3 hS3
          refine hK.out _ _ (HBX.out _ hgC) (fun hHeld => ?_)
          clear hK K
          try simp only [Act.put, List.setIfInBounds_toArray, List.set_cons_zero, List.set_cons_succ]
          refine wpAnyH_ready (rs := [5]) (by kernel_rfl) (by simp) ?_
          refine AllReadyH.cons rfl (fun K hK => ?_) ?_
          · go_simp
            go_at_call 5
            refine (w_PickI P2 [0, 7, -33, 10000] _ _ _ _ hSC (by omega) HL2.out (by omega) rfl (by simp) (by simp)).mono ?_
            rintro e w4 ⟨y, _, rfl, hg3, hS3⟩
            replace hgC := hgC.trans hg3
            replace hSC := hS3
            go_simp
            clear hg3 hS3
            refine hK.out _ _ (HBX.out _ hgC) (fun hHeld => ?_)
            clear hK K
            try simp only [Act.put, List.setIfInBounds_toArray, List.set_cons_zero, List.set_cons_succ]
            refine wpAnyH_ready (rs := [8]) (by kernel_rfl) (by simp) ?_
            refine AllReadyH.cons rfl (fun K hK => ?_) ?_
            · go_simp
              go_at_call 6
              refine (HNK.out _ _ hgC hSC (by omega)).mono ?_
              rintro e w5 ⟨f, rfl, _, hg3, hS3⟩
              replace hgC := hgC.trans hg3
              replace hSC := hS3
              go_simp
              clear hg3 hS3
              refine hK.out _ _ (HBX.out _ hgC) (fun hHeld => ?_)
              clear hK K
              try simp only [Act.put, List.setIfInBounds_toArray, List.set_cons_zero, List.set_cons_succ]
              refine wpAnyH_ready (rs := [11]) (by kernel_rfl) (by simp) ?_
              refine AllReadyH.cons rfl (fun K hK => ?_) ?_
              · go_simp
                go_at_call 6
                refine (HNK.out _ _ hgC hSC (by omega)).mono ?_
                rintro e w6 ⟨t, rfl, _, hg3, hS3⟩
                replace hgC := hgC.trans hg3
                replace hSC := hS3
                go_simp
                clear hg3 hS3
                refine hK.out _ _ (HBX.out _ hgC) (fun hHeld => ?_)
                clear hK K
                try simp only [Act.put, List.setIfInBounds_toArray, List.set_cons_zero, List.set_cons_succ]
                refine wpAnyH_take (i := 12) (oi := ⟨some 5, _, _, _, _, _⟩) (v := ?_) rfl (by kernel_rfl) (by kernel_rfl) (by kernel_rfl) (fun _ _ _ h => h) (Or.inl ⟨by rfl, ?_⟩) (by assumption) ?_
                rotate_left 1
                · intro w hSw
                  (try dsimp only at hSw)
                  go_simp
                  try with_reducible rfl
                try simp only [Act.put, List.setIfInBounds_toArray, List.set_cons_zero, List.set_cons_succ]
                refine wpAnyH_take (i := 13) (oi := ⟨some 6, _, _, _, _, _⟩) (v := ?_) rfl (by kernel_rfl) (by kernel_rfl) (by kernel_rfl) (fun _ _ _ h => h) (Or.inl ⟨by rfl, ?_⟩) (by assumption) ?_
                rotate_left 1
                · intro w hSw
                  (try dsimp only at hSw)
                  go_simp
                  try with_reducible rfl
                try simp only [Act.put, List.setIfInBounds_toArray, List.set_cons_zero, List.set_cons_succ]
                refine wpAnyH_take (i := 14) (oi := ⟨some 7, _, _, _, _, _⟩) (v := ?_) rfl (by kernel_rfl) (by kernel_rfl) (by kernel_rfl) (fun _ _ _ h => h) (Or.inl ⟨by rfl, ?_⟩) (by assumption) ?_
                rotate_left 1
                · intro w hSw
                  (try dsimp only at hSw)
                  go_simp
                  try with_reducible rfl
                try simp only [Act.put, List.setIfInBounds_toArray, List.set_cons_zero, List.set_cons_succ]
                refine wpAnyH_take (i := 15) (oi := ⟨some 8, _, _, _, _, _⟩) (v := ?_) rfl (by kernel_rfl) (by kernel_rfl) (by kernel_rfl) (fun _ _ _ h => h) (Or.inl ⟨by rfl, ?_⟩) (by assumption) ?_
                rotate_left 1
                · intro w hSw
                  (try dsimp only at hSw)
                  go_simp
                  try with_reducible rfl
                try simp only [Act.put, List.setIfInBounds_toArray, List.set_cons_zero, List.set_cons_succ]
                refine wpAnyH_done (by kernel_rfl) ?_ _
                go_wp2
                go_meet
                exact ⟨x, y, f, t, _, rfl, rfl, rfl, rfl, hgC, hSC, by omega⟩
              exact AllReadyH.nil
            exact AllReadyH.nil
          exact AllReadyH.nil
        exact AllReadyH.nil
      exact AllReadyH.nil
    exact AllReadyH.nil
  case rest =>
    obtain ⟨x, y, f, t, K, rfl, rfl, rfl, rfl, hg5, hS5, hK5⟩ := hcut
    obtain ⟨w5, hw5⟩ : ∃ w5, w5 = wc := ⟨_, rfl⟩
    subst hw5
    have HG02 := hide hg02
    have HG5 := hide hg5
    have HS5 := hide hS5
    have hw25 := hg5.sz
    have HAR := hide (fun W (hg : Gr w.heap.size w5 W) => (HRD.out W (HG5.out.trans hg)).2.1.1)
    have HTT := hide (fun (W : World) (hg : Gr w.heap.size w5 W) => (⟨hide (fun W' (h : Nx W W') => Nx.of_gr (HG02.out.trans (HG5.out.trans (hg.then_nx h))) (Nat.le_refl _)), hide (fun W' (h : Nx W W') => HRD.out W' (HG5.out.trans (hg.then_nx h))), hide (fun W' (h : Nx W W') => HBX.out W' (HG5.out.trans (hg.then_nx h)))⟩ : Hid (∀ W', Nx W W' → Nx w W') ∧ Hid (∀ W', Nx W W' → Rd W' (w.heap.size + 1) B0 3 encNode ns ∧ RdArcs W' (w.heap.size + 1) B1 rs ∧ Rd W' (w.heap.size + 1) B2 2 encBan bs) ∧ Hid (∀ W', Nx W W' → W'.cell? ⟨g, 0, none⟩ = some (.slice B0 ns.length ca) ∧ W'.cell? ⟨g, 1, none⟩ = some (.slice B1 rs.length cb) ∧ W'.cell? ⟨g, 2, none⟩ = some (.slice B2 bs.length cc))))
    obtain ⟨_, c1, _⟩ := HBX.out w5 hg5
    clear hg5 hS5 HNK HS2
    go_wp2_with fail
    clear c1
    go_loopw [9, 49] (fun v u wr => ∃ (j : Nat) (sl : List ByteArray), j ≤ rs.length ∧ u = .int .i64 (j : Int) ∧ sl.length ≤ j ∧ wr.ownsRow w5.heap.size 9 1 v sl.length (sl.flatMap encS) ∧ Gr w.heap.size w5 wr ∧ Str wr w.heap.size (K + j)) (fun _ u _ => rs.length - (intOf u).toNat)
    case atStart => exact ⟨0, [], Nat.zero_le _, rfl, Nat.zero_le _, World.ownsRow_nil _ _ _ _, Gr.refl _ _, HS5.out⟩
    case round =>
      obtain ⟨j, sl, hj, rfl, hlj, hown, hgr, hSr⟩ := hrel
      have HO := hide hown
      have HGR := hide hgr
      have HSR := hide hSr
      have HLJ := hide hlj
      have hszr := hgr.sz
      clear hown hgr hSr hlj
      by_cases hlt : j < rs.length
      · obtain ⟨yb, yo, e0, _, hyb, hyb1, hyc⟩ := (HAR.out wr HGR.out).open_ (Nx.refl wr) (by omega)
        subst e0
        have c0 : wr.cell? ⟨yb, yo + j * 5, none⟩ = some (.string rs[j].key) := hyc j hlt 0 _ rfl
        have c1 : wr.cell? ⟨yb, yo + j * 5 + 1, none⟩ = some (.string rs[j].from_) := hyc j hlt 1 _ rfl
        have c2 : wr.cell? ⟨yb, yo + j * 5 + 2, none⟩ = some (.string rs[j].to_) := hyc j hlt 2 _ rfl
        have c3 : wr.cell? ⟨yb, yo + j * 5 + 3, none⟩ = some (.int .i64 rs[j].long) := hyc j hlt 3 _ rfl
        have c4 : wr.cell? ⟨yb, yo + j * 5 + 4, none⟩ = some (.slice rs[j].ka rs[j].knots.length rs[j].kc) := hyc j hlt 4 _ rfl
        clear hyc
        generalize rs[j].key = key at *
        generalize rs[j].from_ = af at *
        generalize rs[j].to_ = at_ at *
        generalize rs[j].long = al at *
        generalize rs[j].ka = aka at *
        generalize rs[j].knots.length = akn at *
        generalize rs[j].kc = akc at *
        obtain ⟨wb, hwb⟩ : ∃ wb, wb = wr.alloc (.cells #[.string key, .string af, .string at_, .int .i64 al, .slice aka akn akc] 37) := ⟨_, rfl⟩
        have hnb : Nx wr wb := hwb ▸ (Nx.refl wr).alloc _
        have hsb : wr.heap.size < wb.heap.size := by rw [hwb]; simp
        have k0 : wb.cell? ⟨wr.heap.size, 0, none⟩ = some (.string key) := by rw [hwb]; go_simp
        have HOB := hide (own_nx HO.out hnb)
        have HGB := hide (HGR.out.then_nx hnb)
        have HSB := hide (HSR.out.nx hnb)
        have hne : w.heap.size ≠ wr.heap.size := by omega
        have HK0 := hide (fun W (h : Gr w.heap.size wb W) => World.grownBy.cell (row := some w.heap.size) h k0 (by simp; omega))
        have HWB := hide hwb
        clear hwb hnb k0
        go_upto_region 8 with fail
        rw [← HWB.out]
        clear HWB c0 c1 c2 c3 c4
        generalize wr.heap.size = p7 at *
        go_wp2_with fail
        refine (w_Flip 3 w.heap.size _ wb HSB.out (by omega) (by omega)).mono ?_
        rintro e w3 ⟨fl, rfl, hg3, hS3⟩
        have HO3 := hide (own_gr HOB.out hg3 (by omega))
        have HG3 := hide (HGB.out.trans hg3)
        have HS3 := hide hS3
        have m0 := HK0.out w3 hg3
        clear hg3 hS3
        cases fl
        · go_wp2_with fail
          go_roundw
          case rel => exact ⟨j + 1, sl, by omega, by go_num, by have := HLJ.out; omega, HO3.out, HG3.out, HS3.out.more (by omega)⟩
          case measure => simp [intOf]; omega
        · go_wp2_with (at_builtin; refine wpApp2 rfl _ _ _ rfl el_PS encS encS_len encS_one (by omega) (by omega) w5.heap.size _ sl rfl (HO3.out.alloc _) _ key _ rfl (hnew rfl) rfl (by have := HLJ.out; omega) (by have := HG3.out.sz; simp; omega) ?_; intro v9 w9 hown9 hg9 _; (have HO9 := hide hown9); (have HG9 := hide hg9); clear hown9 hg9)
          go_roundw
          case rel =>
            refine ⟨j + 1, sl ++ [key], by omega, by go_num, by have := HLJ.out; simp; omega, HO9.out, (HG3.out.alloc _).grown HG9.out (fun x hx => .inr (own_blk_lt HO3.out x hx)), ?_⟩
            exact ((HS3.out.nx ((Nx.refl w3).alloc (.cells #[.string key] 9))).row HG9.out (fun x hx => Nat.lt_of_lt_of_le (by omega) (own_blk_lt HO3.out x hx))).more (by omega)
          case measure => simp [intOf]; omega
      · obtain rfl : j = rs.length := by omega
        go_wp2_with fail
        refine (w_Flip 15 w.heap.size _ wr HSR.out (by omega) (by omega)).mono ?_
        rintro e w3 ⟨fl, rfl, hg3, hS3⟩
        have HO3 := hide (own_gr HO.out hg3 (by omega))
        have HG3 := hide (HGR.out.trans hg3)
        have HS3 := hide hS3
        clear hg3 hS3
        go_upto_if 62 with fail
        go_cut [9] (fun v wx => ∃ (D : Option Addr) (cd : Nat) (l : List ByteArray), v = .slice D l.length cd ∧ l.length ≤ 11 ∧ Rd wx (w.heap.size + 1) D 1 encS l ∧ Gr w.heap.size w5 wx)
        case first =>
          cases fl
          · obtain ⟨D, cd, rfl, hRS, _⟩ := Rd.of_own encS_len rfl HO3.out
            have HRS := hide (hRS.low (Nat.le_trans hlow2 hw25))
            clear hRS
            go_wp2_with fail
            go_meet
            exact ⟨D, cd, sl, rfl, by have := HLJ.out; omega, HRS.out, HG3.out⟩
          · go_wp2_with fail
            refine (w_Some w3.heap.size [⟨#[122, 122]⟩, ⟨#[97, 48]⟩] _ w.heap.size _ _ (HS3.out.nx ((Nx.refl w3).alloc _)) (by omega) (hnew rfl) (by have := HS3.out.lt; omega) rfl (by simp) (by simp)).mono ?_
            rintro e w4 ⟨nk, hnk, rfl, hg4, hS4⟩
            have HO4 := hide (own_gr (HO3.out.alloc _) hg4 (by omega))
            have HG4 := hide ((HG3.out.alloc _).trans hg4)
            clear hg4 hS4 hnk
            have hw54 := HG4.out.sz
            go_wp2_with (at_builtin; refine wpApp2 rfl _ _ _ rfl el_PS encS encS_len encS_one (by omega) (by omega) w5.heap.size _ sl rfl (HO4.out.alloc _) _ nk _ rfl (hnew rfl) rfl (by have := HLJ.out; omega) (by simp; omega) ?_; intro v9 w9 hown9 hg9 _; (have HO9 := hide hown9); (have HG9' := hide hg9); clear hown9 hg9)
            have HLX := hide (show (sl ++ [nk]).length ≤ 11 by have := HLJ.out; simp; omega)
            have HG9 := hide ((HG4.out.alloc (.cells #[.string nk] 9)).grown HG9'.out (fun x hx => .inr (own_blk_lt HO4.out x hx)))
            generalize sl ++ [nk] = sm at *
            obtain ⟨D, cd, rfl, hRS, _⟩ := Rd.of_own encS_len rfl HO9.out
            have HRS := hide (hRS.low (Nat.le_trans hlow2 hw25))
            clear hRS
            go_meet
            exact ⟨D, cd, sm, rfl, HLX.out, HRS.out, HG9.out⟩
        case rest =>
          obtain ⟨D, cd, l, rfl, hl11, hD, hg9⟩ := hcut
          obtain ⟨h1, h2, h3⟩ := HTT.out wc hg9
          refine ‹∀ (a : Act) (w_1 : World), Code.wp _ _ _ a w_1 → _› _ _ ?_
          exact st_PS13 h1 h2 h3 (hide hD) HSN (by omega) (by omega) (by omega) (by omega)
end Go.Proofs.YtepbamacebjopaaGreatDoor
