/- jitkeep1.LaterIsNotEarlier returns true. -/
import Derived.Test.YtmpnilliichpfaaGreatDoorQRdsR
import Derived.Test.YtmpnilliichpfaaGreatDoorQG32
import Derived.Test.YtmpnilliichpfaaGreatDoorQG48
import Derived.Test.YtmpnilliichpfaaGreatDoorQTimeW
import Derived.Test.YtmpnilliichpfaaGreatDoorQReady
import Derived.Test.YtmpnilliichpfaaGreatDoorQNodeK
import Derived.Test.YtmpnilliichpfaaGreatDoorQG21
import Derived.Deep.DeepCutAuto
namespace Go.Proofs.YtmpnilliichpfaaGreatDoor
open Go.RowKit


set_option maxRecDepth 100000 in
set_option maxHeartbeats 8000000 in
theorem w_lawLI (A : Option Addr) (n c : Nat) (w : World) (hn : n ≤ 9223372036854775807)
    (hL : 0 < n → ∃ b off, A = some ⟨b, off, none⟩ ∧ b < w.heap.size ∧ ∀ j, j < n → ∃ z : Int, w.cell? ⟨b, off + j, none⟩ = some (.int .i64 z) ∧ -9223372036854775808 ≤ z ∧ z ≤ 9223372036854775807) :
    Calls Tryz.prog 5 #[.slice A n c] w (TrueNx w) := by
  have hS0 : Str (w.alloc (.cells #[.slice A n c, .int .i64 0] 25)) w.heap.size 0 := str_new A n c w hn hL
  clear hL
  go_enter Tryz.func5, Tryz.ntmps5
  go_wp2_with fail
  refine (w_RightRoads _ 0 _ hS0 (by omega)).mono ?_
  rintro e w1 ⟨vN, vA, vB, ns, rs, bs, rfl, hown, hn0, hn5, hr10, hb101, hg1, hS1⟩
  have hsz : (w.alloc (.cells #[.slice A n c, .int .i64 0] 25)).heap.size = w.heap.size + 1 := by simp
  rw [hsz] at hown
  have hz1 := hg1.sz
  rw [hsz] at hz1
  have hg01 : Gr w.heap.size w w1 := (Gr.of_nx ((Nx.refl w).alloc _)).trans hg1
  clear hg1 hS0
  have hsmN := hown.smN
  obtain ⟨B0, B1, B2, ca, cb, cc, e1, e2, e3, hRN, hRA, hRB⟩ := hown.rd
  subst e1 e2 e3
  clear hown
  obtain ⟨w2, hw2⟩ : ∃ w2, w2 = w1.alloc (.cells #[.slice B0 ns.length ca, .slice B1 rs.length cb, .slice B2 bs.length cc] 30) := ⟨_, rfl⟩
  have hn2 : Nx w1 w2 := hw2 ▸ (Nx.refl w1).alloc _
  have hs2 : w1.heap.size < w2.heap.size := by rw [hw2]; simp
  have b0 : w2.cell? ⟨w1.heap.size, 0, none⟩ = some (.slice B0 ns.length ca) := by rw [hw2]; go_simp
  have b1 : w2.cell? ⟨w1.heap.size, 1, none⟩ = some (.slice B1 rs.length cb) := by rw [hw2]; go_simp
  have b2 : w2.cell? ⟨w1.heap.size, 2, none⟩ = some (.slice B2 bs.length cc) := by rw [hw2]; go_simp
  have hg02 := hg01.then_nx hn2
  have hS2 := hS1.nx hn2
  obtain ⟨nb, noff, eN, hnlo, hnb, hnbr, hnc⟩ := (hRN.nx hn2).open_ (Nx.refl w2) hn0
  subst eN
  have nk : ∀ j, j < ns.length → w2.cell? ⟨nb, noff + j * 3, none⟩ = some (.string (ns.getD j default).key) := fun j hj => by
    rw [List.getD_eq_getElem?_getD, List.getElem?_eq_getElem hj]
    exact hnc j hj 0 _ rfl
  clear hnc
  have HRN := hide (hRN.nx hn2)
  have HRA := hide (hRA.nx hn2)
  have HRB := hide (hRB.nx hn2)
  have HSN := hide hsmN
  clear hRN hRA hRB hsmN hg01 hS1
  go_upto_region 3 with fail
  rw [← hw2]
  have HW2 := hide hw2
  clear hw2
  have hgs : w.heap.size < w1.heap.size := by omega
  generalize w1.heap.size = g at *
  have hlos : w.heap.size < w.heap.size + 1 := by omega
  have HRD := hide (fun W (hg : Gr w.heap.size w2 W) => (⟨HRN.out.gr hg hlos, ⟨HRA.out.1.gr hg hlos, fun x hx => ⟨(HRA.out.2 x hx).1.gr hg hlos, (HRA.out.2 x hx).2⟩⟩, HRB.out.gr hg hlos⟩ : Rd W (w.heap.size + 1) (some ⟨nb, noff, none⟩) 3 encNode ns ∧ RdArcs W (w.heap.size + 1) B1 rs ∧ Rd W (w.heap.size + 1) B2 2 encBan bs))
  have HBX := hide (fun W (hg : Gr w.heap.size w2 W) => (⟨World.grownBy.cell (row := some w.heap.size) hg b0 (by simp; omega), World.grownBy.cell (row := some w.heap.size) hg b1 (by simp; omega), World.grownBy.cell (row := some w.heap.size) hg b2 (by simp; omega)⟩ : W.cell? ⟨g, 0, none⟩ = some (.slice (some ⟨nb, noff, none⟩) ns.length ca) ∧ W.cell? ⟨g, 1, none⟩ = some (.slice B1 rs.length cb) ∧ W.cell? ⟨g, 2, none⟩ = some (.slice B2 bs.length cc)))
  have HNK := hide (fun W (hg : Gr w.heap.size w2 W) j (hj : j < ns.length) => (World.grownBy.cell (row := some w.heap.size) hg (nk j hj) (by simp; omega) : W.cell? ⟨nb, noff + j * 3, none⟩ = some (.string (ns.getD j default).key)))
  have hlow2 : w.heap.size + 1 ≤ w2.heap.size := by omega
  clear HRN HRA HRB b0 b1 b2 nk
  have HS2 := hide hS2
  clear hS2
  go_cut [5, 6, 7] (fun vf vt va wx => ∃ (k : Nat) (ad : Int) (K : Nat), k < ns.length ∧ vf = .string (ns.getD 0 default).key ∧ vt = .string (ns.getD k default).key ∧ va = .int .i64 ad ∧ 0 ≤ ad ∧ ad ≤ 19999 ∧ Gr w.heap.size w2 wx ∧ Str wx w.heap.size K ∧ K < 100000)
  case first =>
    generalize hnn : ns.length = nn at *
    generalize rs.length = nr at *
    generalize bs.length = nbb at *
    have HN0 := hide hn0
    have HN5 := hide hn5
    have HN00 := hide (fun W (hg : Gr w.heap.size w2 W) => (by simpa using HNK.out W hg 0 hn0 : W.cell? ⟨nb, noff, none⟩ = some (.string (ns.getD 0 default).key)))
    clear hn5 hnn
    refine wp_region_held_drew (S := fun w' => w'.cell? ⟨g, 0, none⟩ = some (.slice (some ⟨nb, noff, none⟩) nn ca) ∧ w'.cell? ⟨nb, noff, none⟩ = some (.string (ns.getD 0 default).key)) (by kernel_rfl) ?_ (fun hHeld => ?_)
    · exact ⟨(HBX.out _ (Gr.refl _ _).drew).1, HN00.out _ (Gr.refl _ _).drew⟩
    have hgC := (Gr.refl w.heap.size w2).drew
    have hSC := HS2.out.nx (Nx.refl w2).drew
    refine wpAnyH_take (i := 0) (oi := ⟨some 26, _, _, _, _, _⟩) (v := ?_) rfl (by kernel_rfl) (by kernel_rfl) (by kernel_rfl) (fun _ _ _ h => h) (Or.inl ⟨by rfl, ?_⟩) (by assumption) ?_
    rotate_left 1
    · intro w hSw
      (try dsimp only at hSw)
      go_simp
      try with_reducible rfl
    try simp only [Act.put, List.setIfInBounds_toArray, List.set_cons_zero, List.set_cons_succ]
    refine wpAnyH_take (i := 1) (oi := ⟨some 27, _, _, _, _, _⟩) (v := ?_) rfl (by kernel_rfl) (by kernel_rfl) (by kernel_rfl) (fun _ _ _ h => h) (Or.inl ⟨by rfl, ?_⟩) (by assumption) ?_
    rotate_left 1
    · intro w hSw
      (try dsimp only at hSw)
      go_simp
      try with_reducible rfl
    try simp only [Act.put, List.setIfInBounds_toArray, List.set_cons_zero, List.set_cons_succ]
    refine wpAnyH_take (i := 2) (oi := ⟨some 28, _, _, _, _, _⟩) (v := ?_) rfl (by kernel_rfl) (by kernel_rfl) (by kernel_rfl) (fun _ _ _ h => h) (Or.inl ⟨by rfl, ?_⟩) (by assumption) ?_
    rotate_left 1
    · intro w hSw
      (try dsimp only at hSw)
      go_simp
      try with_reducible rfl
    try simp only [Act.put, List.setIfInBounds_toArray, List.set_cons_zero, List.set_cons_succ]
    refine wpAnyH_take (i := 3) (oi := ⟨some 29, _, _, _, _, _⟩) (v := ?_) rfl (by kernel_rfl) (by kernel_rfl) (by kernel_rfl) (fun _ _ _ h => h) (Or.inl ⟨by rfl, ?_⟩) (by assumption) ?_
    rotate_left 1
    · intro w hSw
      (try dsimp only at hSw)
      go_simp
      try with_reducible rfl
    try simp only [Act.put, List.setIfInBounds_toArray, List.set_cons_zero, List.set_cons_succ]
    refine wpAnyH_take (i := 4) (oi := ⟨some 30, _, _, _, _, _⟩) (v := ?_) rfl (by kernel_rfl) (by kernel_rfl) (by kernel_rfl) (fun _ _ _ h => h) (Or.inl ⟨by rfl, ?_⟩) (by assumption) ?_
    rotate_left 1
    · intro w hSw
      (try dsimp only at hSw)
      go_simp
      try with_reducible rfl
    try simp only [Act.put, List.setIfInBounds_toArray, List.set_cons_zero, List.set_cons_succ]
    refine wpAnyH_take (i := 5) (oi := ⟨some 31, _, _, _, _, _⟩) (v := ?_) rfl (by kernel_rfl) (by kernel_rfl) (by kernel_rfl) (fun _ _ _ h => h) (Or.inl ⟨by rfl, ?_⟩) (by assumption) ?_
    rotate_left 1
    · intro w hSw
      (try dsimp only at hSw)
      go_simp
      try with_reducible rfl
    try simp only [Act.put, List.setIfInBounds_toArray, List.set_cons_zero, List.set_cons_succ]
    refine wpAnyH_take (i := 6) (oi := ⟨some 32, _, _, _, _, _⟩) (v := ?_) rfl (by kernel_rfl) (by kernel_rfl) (by kernel_rfl) (fun _ _ _ h => h) (Or.inl ⟨by rfl, ?_⟩) (by assumption) ?_
    rotate_left 1
    · intro w hSw
      (try dsimp only at hSw)
      go_simp
      try with_reducible rfl
    try simp only [Act.put, List.setIfInBounds_toArray, List.set_cons_zero, List.set_cons_succ]
    refine wpAnyH_take (i := 7) (oi := ⟨some 33, _, _, _, _, _⟩) (v := ?_) rfl (by kernel_rfl) (by kernel_rfl) (by kernel_rfl) (fun _ _ _ h => h) (Or.inl ⟨by rfl, ?_⟩) (by assumption) ?_
    rotate_left 1
    · intro w hSw
      (try dsimp only at hSw)
      go_simp
      try with_reducible rfl
    try simp only [Act.put, List.setIfInBounds_toArray, List.set_cons_zero, List.set_cons_succ]
    refine wpAnyH_take (i := 8) (oi := ⟨some 34, _, _, _, _, _⟩) (v := ?_) rfl (by kernel_rfl) (by kernel_rfl) (by kernel_rfl) (fun _ _ _ h => h) (Or.inl ⟨by rfl, ?_⟩) (by assumption) ?_
    rotate_left 1
    · intro w hSw
      (try dsimp only at hSw)
      go_simp
      try with_reducible rfl
    try simp only [Act.put, List.setIfInBounds_toArray, List.set_cons_zero, List.set_cons_succ]
    refine wpAnyH_take (i := 9) (oi := ⟨some 35, _, _, _, _, _⟩) (v := ?_) rfl (by kernel_rfl) (by kernel_rfl) (by kernel_rfl) (fun _ _ _ h => h) (Or.inl ⟨by rfl, ?_⟩) (by assumption) ?_
    rotate_left 1
    · intro w hSw
      (try dsimp only at hSw)
      go_simp
      try with_reducible rfl
    try simp only [Act.put, List.setIfInBounds_toArray, List.set_cons_zero, List.set_cons_succ]
    refine wpAnyH_take (i := 10) (oi := ⟨some 36, _, _, _, _, _⟩) (v := ?_) rfl (by kernel_rfl) (by kernel_rfl) (by kernel_rfl) (fun _ _ _ h => h) (Or.inl ⟨by rfl, ?_⟩) (by assumption) ?_
    rotate_left 1
    · intro w hSw
      (try dsimp only at hSw)
      go_simp
      try with_reducible rfl
    try simp only [Act.put, List.setIfInBounds_toArray, List.set_cons_zero, List.set_cons_succ]
    refine wpAnyH_take (i := 15) (oi := ⟨some 41, _, _, _, _, _⟩) (v := ?_) rfl (by kernel_rfl) (by kernel_rfl) (by kernel_rfl) (fun _ _ _ h => h) (Or.inl ⟨by rfl, ?_⟩) (by assumption) ?_
    rotate_left 1
    · intro w hSw
      (try dsimp only at hSw)
      go_simp
      try with_reducible rfl
    try simp only [Act.put, List.setIfInBounds_toArray, List.set_cons_zero, List.set_cons_succ]
    refine wpAnyH_ready (rs := [11]) (by kernel_rfl) (by simp) ?_
    refine AllReadyH.cons rfl (fun K hK => ?_) AllReadyH.nil
    go_simp
    go_at_call 48
    refine (w_Next (nn : Int) _ _ _ hSC (by omega) (by have := HN0.out; have := HN5.out; omega)).mono ?_
    rintro e w3 ⟨z, hz1, hz2, rfl, hg3, hS3⟩
    obtain ⟨k, rfl⟩ : ∃ k : Nat, z = (k : Int) := ⟨z.toNat, by omega⟩
    have hkn : k < nn := by omega
    replace hgC := hgC.trans hg3
    clear hg3 hz1 hz2 hSC
    go_simp
    refine hK.out _ _ (⟨(HBX.out _ hgC).1, HN00.out _ hgC⟩) (fun hHeld => ?_)
    clear hK K
    try simp only [Act.put, List.setIfInBounds_toArray, List.set_cons_zero, List.set_cons_succ]
    refine wpAnyH_more (S' := fun w' => w'.cell? ⟨nb, noff + k * 3, none⟩ = some (.string (ns.getD k default).key) ∧ w'.cell? ⟨g, 0, none⟩ = some (.slice (some ⟨nb, noff, none⟩) nn ca) ∧ w'.cell? ⟨nb, noff, none⟩ = some (.string (ns.getD 0 default).key)) (fun _ h => h.2) _ _ _ _ ?_
    replace hHeld := (⟨HNK.out _ hgC k hkn, hHeld⟩ : w3.cell? ⟨nb, noff + k * 3, none⟩ = some (.string (ns.getD k default).key) ∧ _)
    refine wpAnyH_take (i := 12) (oi := ⟨some 38, _, _, _, _, _⟩) (v := ?_) rfl (by kernel_rfl) (by kernel_rfl) (by kernel_rfl) (fun _ _ _ h => h) (Or.inl ⟨by rfl, ?_⟩) (by assumption) ?_
    rotate_left 1
    · intro w hSw
      (try dsimp only at hSw)
      go_simp
      try with_reducible rfl
    try simp only [Act.put, List.setIfInBounds_toArray, List.set_cons_zero, List.set_cons_succ]
    refine wpAnyH_take (i := 13) (oi := ⟨some 39, _, _, _, _, _⟩) (v := ?_) rfl (by kernel_rfl) (by kernel_rfl) (by kernel_rfl) (fun _ _ _ h => h) (Or.inl ⟨by rfl, ?_⟩) (by assumption) ?_
    rotate_left 1
    · intro w hSw
      (try dsimp only at hSw)
      go_simp
      try with_reducible rfl
    try simp only [Act.put, List.setIfInBounds_toArray, List.set_cons_zero, List.set_cons_succ]
    refine wpAnyH_take (i := 14) (oi := ⟨some 40, _, _, _, _, _⟩) (v := ?_) rfl (by kernel_rfl) (by kernel_rfl) (by kernel_rfl) (fun _ _ _ h => h) (Or.inl ⟨by rfl, ?_⟩) (by assumption) ?_
    rotate_left 1
    · intro w hSw
      (try dsimp only at hSw)
      go_simp
      try with_reducible rfl
    try simp only [Act.put, List.setIfInBounds_toArray, List.set_cons_zero, List.set_cons_succ]
    refine wpAnyH_ready (rs := [16]) (by kernel_rfl) (by simp) ?_
    refine AllReadyH.cons rfl (fun K hK => ?_) AllReadyH.nil
    go_simp
    go_at_call 48
    refine (w_Next 20000 _ _ _ hS3 (by omega) (by omega)).mono ?_
    rintro e w4 ⟨ad, ha0, ha1, rfl, hg3, hS4⟩
    replace hgC := hgC.trans hg3
    clear hg3 hS3
    go_simp
    refine hK.out _ _ (⟨HNK.out _ hgC k hkn, (HBX.out _ hgC).1, HN00.out _ hgC⟩) (fun hHeld => ?_)
    clear hK K
    try simp only [Act.put, List.setIfInBounds_toArray, List.set_cons_zero, List.set_cons_succ]
    refine wpAnyH_take (i := 17) (oi := ⟨some 5, _, _, _, _, _⟩) (v := ?_) rfl (by kernel_rfl) (by kernel_rfl) (by kernel_rfl) (fun _ _ _ h => h) (Or.inl ⟨by rfl, ?_⟩) (by assumption) ?_
    rotate_left 1
    · intro w hSw
      (try dsimp only at hSw)
      go_simp
      try with_reducible rfl
    try simp only [Act.put, List.setIfInBounds_toArray, List.set_cons_zero, List.set_cons_succ]
    refine wpAnyH_take (i := 18) (oi := ⟨some 6, _, _, _, _, _⟩) (v := ?_) rfl (by kernel_rfl) (by kernel_rfl) (by kernel_rfl) (fun _ _ _ h => h) (Or.inl ⟨by rfl, ?_⟩) (by assumption) ?_
    rotate_left 1
    · intro w hSw
      (try dsimp only at hSw)
      go_simp
      try with_reducible rfl
    try simp only [Act.put, List.setIfInBounds_toArray, List.set_cons_zero, List.set_cons_succ]
    refine wpAnyH_take (i := 19) (oi := ⟨some 7, _, _, _, _, _⟩) (v := ?_) rfl (by kernel_rfl) (by kernel_rfl) (by kernel_rfl) (fun _ _ _ h => h) (Or.inl ⟨by rfl, ?_⟩) (by assumption) ?_
    rotate_left 1
    · intro w hSw
      (try dsimp only at hSw)
      go_simp
      try with_reducible rfl
    try simp only [Act.put, List.setIfInBounds_toArray, List.set_cons_zero, List.set_cons_succ]
    refine wpAnyH_done (by kernel_rfl) ?_ _
    go_wp2
    go_meet
    exact ⟨k, ad, _, hkn, rfl, rfl, rfl, ha0, by omega, hgC, hS4, by omega⟩
  case rest =>
    obtain ⟨kn, ad, K, hkn, rfl, rfl, rfl, ha0, ha1, hg5, hS5, hKb⟩ := hcut
    obtain ⟨w5, hw5⟩ : ∃ w5, w5 = wc := ⟨_, rfl⟩
    subst hw5
    clear HS2 HNK
    go_wp2_with fail
    refine (w_PickI w5.heap.size [1, 10, 100, 5000] _ _ _ _ (hS5.nx ((Nx.refl _).alloc _)) (by omega) (hnew rfl) (by have := hS5.lt; omega) rfl (by simp) (by simp)).mono ?_
    rintro e w6 ⟨z, hz, rfl, hg6, hS6⟩
    have hzb : 1 ≤ z ∧ z ≤ 5000 := by simp at hz; omega
    have hg6 : Gr w.heap.size w2 w6 := (hg5.alloc _).trans hg6
    clear hz hS5 hg5 hS6
    obtain ⟨la, hla⟩ : ∃ la, la = ad + z := ⟨_, rfl⟩
    have W1 : IntKind.i64.wrap (ad + z) = la := by rw [hla]; exact IntWalk.i64_in _ (by omega)
    have hl1 : ad ≤ la := by omega
    have hl2 : la ≤ 24999 := by omega
    clear hla
    have HT := hide (fun W (hx : Nx w6 W) => Nx.of_gr (hg02.trans (hg6.then_nx hx)) (Nat.le_refl _))
    have HR5 := hide (fun W (hx : Nx w6 W) => HRD.out W (hg6.then_nx hx))
    have HB5 := hide (fun W (hx : Nx w6 W) => HBX.out W (hg6.then_nx hx))
    have hsz5 : w.heap.size + 1 ≤ w6.heap.size := Nat.le_trans hlow2 hg6.sz
    have HRF := hide (fun W (hx : Nx w6 W) => w_RoadsFault (w.heap.size + 1) (w.heap.size + 1) (w.heap.size + 1) (some ⟨nb, noff, none⟩) B1 B2 ca cb cc ns rs bs W (HR5.out W hx).1 HSN.out (by omega) (HR5.out W hx).2.1 (by omega) (HR5.out W hx).2.2 (by omega))
    have HFA := hide (fun (hR : roadsF ns rs bs = 0) (t : Int) (hm : momB t = true) => fast_right (w.heap.size + 1) (some ⟨nb, noff, none⟩) B1 B2 ca cb cc ns rs bs (ns.getD 0 default).key (ns.getD kn default).key t (fun W => Nx w6 W) (fun W hx => ⟨Nat.le_trans hsz5 hx.sz, (HR5.out W hx).1, (HR5.out W hx).2.1, (HR5.out W hx).2.2⟩) (by omega) (by omega) (by omega) HSN.out hR (node_has hR hn0) (node_has hR hkn) hm)
    have HFL := hide (fun (hR : roadsF ns rs bs = 0) (i1 i2 : Bool) (a1 a2 : Int) => fast_later (bs := bs) (f := (ns.getD 0 default).key) (t := (ns.getD kn default).key) (i1 := i1) (i2 := i2) (a1 := a1) (a2 := a2) hR (by omega) (node_has hR hn0) (node_has hR hkn) ha0 hl1 (by omega))
    have HTO := hide (fun (hR : roadsF ns rs bs = 0) (j : Nat) (hj : j < rs.length) (t : Int) (hm : momB t = true) W (hx : Nx w6 W) => w_TimeOnR (w.heap.size + 1) B1 ns rs bs j t W (HR5.out W hx).2.1 HSN.out hR hj hm)
    have HTB := hide (fun (hR : roadsF ns rs bs = 0) (j : Nat) (hj : j < rs.length) => (⟨time_in (roads_ok hR).2.1 hj ad, time_in (roads_ok hR).2.1 hj la, time_later (roads_ok hR).2.1 hj hl1⟩ : (1 ≤ timeI (arcX rs j).knots ad ∧ timeI (arcX rs j).knots ad ≤ 3600000) ∧ (1 ≤ timeI (arcX rs j).knots la ∧ timeI (arcX rs j).knots la ≤ 3600000) ∧ ad + timeI (arcX rs j).knots ad ≤ la + timeI (arcX rs j).knots la))
    have hma : momB ad = true := momB_true.2 ⟨ha0, by omega⟩
    have hml : momB la = true := momB_true.2 ⟨by omega, by omega⟩
    have HMA := hide hma
    have HML := hide hml
    have HRR := hide (fun W (hx : Nx w6 W) => (HR5.out W hx).2.1)
    clear hma hml HRD HBX HR5 hsz5 hgs hz1 hn2 HW2 hlow2 hs2 hnb hnbr hg02 hg6
    generalize (ns.getD 0 default).key = sf at *
    generalize (ns.getD kn default).key = st at *
    generalize hRFe : roadsF ns rs bs = RF at *
    generalize hnl : ns.length = nn at *
    generalize hrl : rs.length = nr at *
    generalize hbl : bs.length = nbb at *
    have HRL := hide hrl
    clear hrl hbl hnl hRFe hn0 hn5 hkn hlos hnlo
    obtain ⟨c0, c1, c2⟩ := HB5.out w6 (Nx.refl _)
    go_wp2_with fail
    refine (HRF.out w6 (Nx.refl _)).mono ?_
    rintro e w7 ⟨rfl, hn7⟩
    clear c0 c1 c2 HRF
    by_cases hF : RF = 0
    · subst hF
      replace HFL := hide (HFL.out rfl)
      replace HTO := hide (HTO.out rfl)
      replace HTB := hide (HTB.out rfl)
      obtain ⟨k1, n1, lv1, ar1, is1, hk1, hk1', hFA1, hi1, hz1, hy1⟩ := HFA.out rfl ad HMA.out
      obtain ⟨k2, n2, lv2, ar2, is2, hk2, hk2', hFA2, hi2, hz2, hy2⟩ := HFA.out rfl la HML.out
      obtain ⟨he, hle⟩ := HFL.out is1 is2 ar1 ar2 hi1 hi2 hz1 hz2 (fun h => (hy1 h).2.1) (fun h => (hy2 h).2.1)
      subst he
      have HFA1 := hide hFA1
      have HFA2 := hide hFA2
      clear hi1 hi2 hz1 hz2 hy1 hy2 hFA1 hFA2 HFA HFL hk1 hk1' hk2 hk2'
      obtain ⟨c0, c1, c2⟩ := HB5.out w7 hn7
      go_wp2_with fail
      refine (HFA1.out w7 hn7).mono ?_
      rintro e w8 ⟨Z, cz, rfl, _, hn8⟩
      obtain ⟨w9, hw9⟩ : ∃ w9, w9 = w8.alloc (.cells #[.slice Z n1 cz, .int .i64 lv1, .int .i64 ar1] 90) := ⟨_, rfl⟩
      have hn89 : Nx w8 w9 := hw9 ▸ (Nx.refl w8).alloc _
      have hp9 : w8.heap.size < w9.heap.size := by rw [hw9]; simp
      have p9 : w9.cell? ⟨w8.heap.size, 2, none⟩ = some (.int .i64 ar1) := by rw [hw9]; go_simp
      have hn59 := (hn7.trans hn8).trans hn89
      have HW9 := hide hw9
      clear c0 c1 c2 hw9
      go_upto_region 8 with fail
      rw [← HW9.out]
      generalize w8.heap.size = p at *
      obtain ⟨c0, c1, c2⟩ := HB5.out w9 hn59
      go_wp2_with fail
      refine (HFA2.out w9 hn59).mono ?_
      rintro e w10 ⟨Z2, cz2, rfl, _, hn10⟩
      obtain ⟨w11, hw11⟩ : ∃ w11, w11 = w10.alloc (.cells #[.slice Z2 n2 cz2, .int .i64 lv2, .int .i64 ar2] 90) := ⟨_, rfl⟩
      have hn101 : Nx w10 w11 := hw11 ▸ (Nx.refl w10).alloc _
      have q11 : w11.cell? ⟨w10.heap.size, 2, none⟩ = some (.int .i64 ar2) := by rw [hw11]; go_simp
      have p11 := nx_cell (hn10.trans hn101) hp9 p9
      have hn5b := (hn59.trans hn10).trans hn101
      have HW11 := hide hw11
      clear c0 c1 c2 hw11 p9 hn7 hn8 hn89 hn59 hn10 hn101 hp9
      go_upto_region 9 with fail
      rw [← HW11.out]
      generalize w10.heap.size = q at *
      clear HW9 HW11 HFA1 HFA2
      have t1 : (is1 != is1) = false := by cases is1 <;> rfl
      have t2 : decide (ar1 > ar2) = false := decide_eq_false (by omega)
      clear hle
      obtain ⟨c0, c1, c2⟩ := HB5.out w11 hn5b
      go_wp2_with fail
      clear c0 c1 c2 p11 q11 t1 t2
      go_loopw [91] (fun i wr => ∃ j : Nat, j ≤ nr ∧ i = .int .i64 j ∧ Nx w6 wr) (fun i _ => nr - (intOf i).toNat)
      case atStart => exact ⟨0, Nat.zero_le _, rfl, hn5b⟩
      case round =>
        clear hn5b
        obtain ⟨j, hj, rfl, hbw⟩ := hrel
        by_cases hlt : j < nr
        · have hlt' : j < rs.length := by have := HRL.out; omega
          obtain ⟨b, off, eb, _, hb, hbr, hc⟩ := (HRR.out _ hbw).1.open_ (Nx.refl wr) (by have := HRL.out; omega)
          have hax : rs[j] = arcX rs j := (arcX_get hlt').symm
          have c0 : wr.cell? ⟨b, off + j * 5, none⟩ = some (.string (arcX rs j).key) := hax ▸ hc j hlt' 0 _ rfl
          have c1 : wr.cell? ⟨b, off + j * 5 + 1, none⟩ = some (.string (arcX rs j).from_) := hax ▸ hc j hlt' 1 _ rfl
          have c2 : wr.cell? ⟨b, off + j * 5 + 2, none⟩ = some (.string (arcX rs j).to_) := hax ▸ hc j hlt' 2 _ rfl
          have c3 : wr.cell? ⟨b, off + j * 5 + 3, none⟩ = some (.int .i64 (arcX rs j).long) := hax ▸ hc j hlt' 3 _ rfl
          have c4 : wr.cell? ⟨b, off + j * 5 + 4, none⟩ = some (.slice (arcX rs j).ka (arcX rs j).knots.length (arcX rs j).kc) := hax ▸ hc j hlt' 4 _ rfl
          obtain ⟨⟨x1, x2⟩, ⟨y1, y2⟩, xy⟩ := HTB.out j (by omega)
          have HT1 := hide (HTO.out j (by omega) ad HMA.out)
          have HT2 := hide (HTO.out j (by omega) la HML.out)
          clear hc hax hb hbr
          generalize timeI (arcX rs j).knots ad = tx at *
          generalize timeI (arcX rs j).knots la = ty at *
          generalize arcX rs j = a at *
          generalize a.knots.length = ak at *
          have W2 : IntKind.i64.wrap (ad + tx) = ad + tx := IntWalk.i64_in _ (by omega)
          have W3 : IntKind.i64.wrap (la + ty) = la + ty := IntWalk.i64_in _ (by omega)
          have t3 : decide (ad + tx > la + ty) = false := decide_eq_false (by omega)
          obtain ⟨w12, hw12⟩ : ∃ w12, w12 = wr.alloc (.cells #[.string a.key, .string a.from_, .string a.to_, .int .i64 a.long, .slice a.ka ak a.kc] 63) := ⟨_, rfl⟩
          have hn12 : Nx wr w12 := hw12 ▸ (Nx.refl wr).alloc _
          have hs12 : wr.heap.size < w12.heap.size := by rw [hw12]; simp
          have d0 : w12.cell? ⟨wr.heap.size, 0, none⟩ = some (.string a.key) := by rw [hw12]; go_simp
          have d1 : w12.cell? ⟨wr.heap.size, 1, none⟩ = some (.string a.from_) := by rw [hw12]; go_simp
          have d2 : w12.cell? ⟨wr.heap.size, 2, none⟩ = some (.string a.to_) := by rw [hw12]; go_simp
          have d3 : w12.cell? ⟨wr.heap.size, 3, none⟩ = some (.int .i64 a.long) := by rw [hw12]; go_simp
          have d4 : w12.cell? ⟨wr.heap.size, 4, none⟩ = some (.slice a.ka ak a.kc) := by rw [hw12]; go_simp
          have HDD := hide (fun W (hx : Nx w12 W) => (⟨nx_cell hx hs12 d0, nx_cell hx hs12 d1, nx_cell hx hs12 d2, nx_cell hx hs12 d3, nx_cell hx hs12 d4⟩ : W.cell? ⟨wr.heap.size, 0, none⟩ = some (.string a.key) ∧ W.cell? ⟨wr.heap.size, 1, none⟩ = some (.string a.from_) ∧ W.cell? ⟨wr.heap.size, 2, none⟩ = some (.string a.to_) ∧ W.cell? ⟨wr.heap.size, 3, none⟩ = some (.int .i64 a.long) ∧ W.cell? ⟨wr.heap.size, 4, none⟩ = some (.slice a.ka ak a.kc)))
          have HXY := hide xy
          clear d0 d1 d2 d3 d4 x1 x2 y1 y2 xy hs12
          have HW12 := hide hw12
          have HW2' := hide W2
          have HW3' := hide W3
          have HT3 := hide t3
          clear hw12 W2 W3 t3
          subst eb
          go_upto_region 14 with fail
          rw [← HW12.out]
          clear c0 c1 c2 c3 c4
          obtain ⟨d0, d1, d2, d3, d4⟩ := HDD.out w12 (Nx.refl _)
          generalize wr.heap.size = P at *
          go_wp2_with fail
          refine (HT1.out w12 (hbw.trans hn12)).mono ?_
          rintro e w13 ⟨rfl, hn13⟩
          clear d0 d1 d2 d3 d4
          obtain ⟨d0, d1, d2, d3, d4⟩ := HDD.out w13 hn13
          go_wp2_with fail
          refine (HT2.out w13 ((hbw.trans hn12).trans hn13)).mono ?_
          rintro e w14 ⟨rfl, hn14⟩
          clear d0 d1 d2 d3 d4
          have W2 := HW2'.out
          have W3 := HW3'.out
          have t3 := HT3.out
          go_wp2_with fail
          go_roundw
          case rel => exact ⟨j + 1, by omega, by go_num, ((hbw.trans hn12).trans hn13).trans hn14⟩
          case measure => simp [intOf]; omega
        · go_wp2_with (go_at_call 49; refine (w_ready _).mono ?_; rintro e w12 ⟨rfl, hn12⟩)
          go_ret
          exact ⟨rfl, HT.out _ (hbw.trans hn12)⟩
    · have tF : (RF != 0) = true := by simpa using hF
      clear HFA HFL HTO HTB
      go_wp2_with (go_at_call 49; refine (w_ready _).mono ?_; rintro e w12 ⟨rfl, hn12⟩)
      go_ret
      exact ⟨rfl, HT.out _ (hn7.trans hn12)⟩
end Go.Proofs.YtmpnilliichpfaaGreatDoor
