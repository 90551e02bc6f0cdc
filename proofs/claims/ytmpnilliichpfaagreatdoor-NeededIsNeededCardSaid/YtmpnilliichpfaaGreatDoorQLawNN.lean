/- jitkeep1.NeededIsNeeded returns true. -/
import Derived.Test.YtmpnilliichpfaaGreatDoorQRdsR
import Derived.Test.YtmpnilliichpfaaGreatDoorQG32
import Derived.Test.YtmpnilliichpfaaGreatDoorQG48
import Derived.Test.YtmpnilliichpfaaGreatDoorQConS
import Derived.Test.YtmpnilliichpfaaGreatDoorQReady
import Derived.Test.YtmpnilliichpfaaGreatDoorQG21
import Derived.Deep.DeepCutAuto
namespace Go.Proofs.YtmpnilliichpfaaGreatDoor
open Go.RowKit

set_option maxRecDepth 100000 in
set_option maxHeartbeats 8000000 in
theorem w_lawNN (A : Option Addr) (n c : Nat) (w : World) (hn : n ≤ 9223372036854775807)
    (hL : 0 < n → ∃ b off, A = some ⟨b, off, none⟩ ∧ b < w.heap.size ∧ ∀ j, j < n → ∃ z : Int, w.cell? ⟨b, off + j, none⟩ = some (.int .i64 z) ∧ -9223372036854775808 ≤ z ∧ z ≤ 9223372036854775807) :
    Calls Tryz.prog 10 #[.slice A n c] w (TrueNx w) := by
  have hS0 : Str (w.alloc (.cells #[.slice A n c, .int .i64 0] 25)) w.heap.size 0 := str_new A n c w hn hL
  clear hL
  go_enter Tryz.func10, Tryz.ntmps10
  go_wp2_with fail
  refine (w_RightRoads _ 0 _ hS0 (by omega)).mono ?_
  rintro e w1 ⟨vN, vA, vB, ns, rs, bs, rfl, hown, hn0, hn5, hr10, hb101, hg1, hS1⟩
  have hsz : (w.alloc (.cells #[.slice A n c, .int .i64 0] 25)).heap.size = w.heap.size + 1 := by simp
  rw [hsz] at hown
  have hz1 := hg1.sz
  rw [hsz] at hz1
  have hg01 : Gr w.heap.size w w1 := (Gr.of_nx ((Nx.refl w).alloc _)).trans hg1
  clear hg1 hS0
  have hsmN := hown.smN
  obtain ⟨B0, B1, B2, ca, cb, cc, e1, e2, e3, hRN, hRA, hRB⟩ := hown.rd
  subst e1 e2 e3
  clear hown
  obtain ⟨w2, hw2⟩ : ∃ w2, w2 = w1.alloc (.cells #[.slice B0 ns.length ca, .slice B1 rs.length cb, .slice B2 bs.length cc] 30) := ⟨_, rfl⟩
  have hn2 : Nx w1 w2 := hw2 ▸ (Nx.refl w1).alloc _
  have hs2 : w1.heap.size < w2.heap.size := by rw [hw2]; simp
  have b0 : w2.cell? ⟨w1.heap.size, 0, none⟩ = some (.slice B0 ns.length ca) := by rw [hw2]; go_simp
  have b1 : w2.cell? ⟨w1.heap.size, 1, none⟩ = some (.slice B1 rs.length cb) := by rw [hw2]; go_simp
  have b2 : w2.cell? ⟨w1.heap.size, 2, none⟩ = some (.slice B2 bs.length cc) := by rw [hw2]; go_simp
  have hg02 := hg01.then_nx hn2
  have hS2 := hS1.nx hn2
  obtain ⟨nb, noff, eN, hnlo, hnb, hnbr, hnc⟩ := (hRN.nx hn2).open_ (Nx.refl w2) hn0
  subst eN
  have nk : ∀ j, j < ns.length → w2.cell? ⟨nb, noff + j * 3, none⟩ = some (.string (ns.getD j default).key) := fun j hj => by
    rw [List.getD_eq_getElem?_getD, List.getElem?_eq_getElem hj]
    exact hnc j hj 0 _ rfl
  clear hnc
  have HRN := hide (hRN.nx hn2)
  have HRA := hide (hRA.nx hn2)
  have HRB := hide (hRB.nx hn2)
  have HSN := hide hsmN
  clear hRN hRA hRB hsmN hg01 hS1
  go_upto_region 3 with fail
  rw [← hw2]
  have HW2 := hide hw2
  clear hw2
  have hgs : w.heap.size < w1.heap.size := by omega
  generalize w1.heap.size = g at *
  have hlos : w.heap.size < w.heap.size + 1 := by omega
  have HRD := hide (fun W (hg : Gr w.heap.size w2 W) => (⟨HRN.out.gr hg hlos, ⟨HRA.out.1.gr hg hlos, fun x hx => ⟨(HRA.out.2 x hx).1.gr hg hlos, (HRA.out.2 x hx).2⟩⟩, HRB.out.gr hg hlos⟩ : Rd W (w.heap.size + 1) (some ⟨nb, noff, none⟩) 3 encNode ns ∧ RdArcs W (w.heap.size + 1) B1 rs ∧ Rd W (w.heap.size + 1) B2 2 encBan bs))
  have HBX := hide (fun W (hg : Gr w.heap.size w2 W) => (⟨World.grownBy.cell (row := some w.heap.size) hg b0 (by simp; omega), World.grownBy.cell (row := some w.heap.size) hg b1 (by simp; omega), World.grownBy.cell (row := some w.heap.size) hg b2 (by simp; omega)⟩ : W.cell? ⟨g, 0, none⟩ = some (.slice (some ⟨nb, noff, none⟩) ns.length ca) ∧ W.cell? ⟨g, 1, none⟩ = some (.slice B1 rs.length cb) ∧ W.cell? ⟨g, 2, none⟩ = some (.slice B2 bs.length cc)))
  have HNK := hide (fun W (hg : Gr w.heap.size w2 W) j (hj : j < ns.length) => (World.grownBy.cell (row := some w.heap.size) hg (nk j hj) (by simp; omega) : W.cell? ⟨nb, noff + j * 3, none⟩ = some (.string (ns.getD j default).key)))
  have hlow2 : w.heap.size + 1 ≤ w2.heap.size := by omega
  clear HRN HRA HRB b0 b1 b2 nk
  have HS2 := hide hS2
  clear hS2
  go_cut [5, 6] (fun vf vt wx => ∃ k : Nat, k < ns.length ∧ vf = .string (ns.getD 0 default).key ∧ vt = .string (ns.getD k default).key ∧ Gr w.heap.size w2 wx)
  case first =>
    generalize hnn : ns.length = nn at *
    generalize rs.length = nr at *
    generalize bs.length = nbb at *
    have HN0 := hide hn0
    have HN5 := hide hn5
    have HN00 := hide (fun W (hg : Gr w.heap.size w2 W) => (by simpa using HNK.out W hg 0 hn0 : W.cell? ⟨nb, noff, none⟩ = some (.string (ns.getD 0 default).key)))
    clear hn5 hnn
    refine wp_region_held_drew (S := fun w' => w'.cell? ⟨g, 0, none⟩ = some (.slice (some ⟨nb, noff, none⟩) nn ca) ∧ w'.cell? ⟨nb, noff, none⟩ = some (.string (ns.getD 0 default).key)) (by kernel_rfl) ?_ (fun hHeld => ?_)
    · exact ⟨(HBX.out _ (Gr.refl _ _).drew).1, HN00.out _ (Gr.refl _ _).drew⟩
    have hgC := (Gr.refl w.heap.size w2).drew
    have hSC := HS2.out.nx (Nx.refl w2).drew
    refine wpAnyH_take (i := 0) (oi := ⟨some 23, _, _, _, _, _⟩) (v := ?_) rfl (by kernel_rfl) (by kernel_rfl) (by kernel_rfl) (fun _ _ _ h => h) (Or.inl ⟨by rfl, ?_⟩) (by assumption) ?_
    rotate_left 1
    · intro w hSw
      (try dsimp only at hSw)
      go_simp
      try with_reducible rfl
    try simp only [Act.put, List.setIfInBounds_toArray, List.set_cons_zero, List.set_cons_succ]
    refine wpAnyH_take (i := 1) (oi := ⟨some 24, _, _, _, _, _⟩) (v := ?_) rfl (by kernel_rfl) (by kernel_rfl) (by kernel_rfl) (fun _ _ _ h => h) (Or.inl ⟨by rfl, ?_⟩) (by assumption) ?_
    rotate_left 1
    · intro w hSw
      (try dsimp only at hSw)
      go_simp
      try with_reducible rfl
    try simp only [Act.put, List.setIfInBounds_toArray, List.set_cons_zero, List.set_cons_succ]
    refine wpAnyH_take (i := 2) (oi := ⟨some 25, _, _, _, _, _⟩) (v := ?_) rfl (by kernel_rfl) (by kernel_rfl) (by kernel_rfl) (fun _ _ _ h => h) (Or.inl ⟨by rfl, ?_⟩) (by assumption) ?_
    rotate_left 1
    · intro w hSw
      (try dsimp only at hSw)
      go_simp
      try with_reducible rfl
    try simp only [Act.put, List.setIfInBounds_toArray, List.set_cons_zero, List.set_cons_succ]
    refine wpAnyH_take (i := 3) (oi := ⟨some 26, _, _, _, _, _⟩) (v := ?_) rfl (by kernel_rfl) (by kernel_rfl) (by kernel_rfl) (fun _ _ _ h => h) (Or.inl ⟨by rfl, ?_⟩) (by assumption) ?_
    rotate_left 1
    · intro w hSw
      (try dsimp only at hSw)
      go_simp
      try with_reducible rfl
    try simp only [Act.put, List.setIfInBounds_toArray, List.set_cons_zero, List.set_cons_succ]
    refine wpAnyH_take (i := 4) (oi := ⟨some 27, _, _, _, _, _⟩) (v := ?_) rfl (by kernel_rfl) (by kernel_rfl) (by kernel_rfl) (fun _ _ _ h => h) (Or.inl ⟨by rfl, ?_⟩) (by assumption) ?_
    rotate_left 1
    · intro w hSw
      (try dsimp only at hSw)
      go_simp
      try with_reducible rfl
    try simp only [Act.put, List.setIfInBounds_toArray, List.set_cons_zero, List.set_cons_succ]
    refine wpAnyH_take (i := 5) (oi := ⟨some 28, _, _, _, _, _⟩) (v := ?_) rfl (by kernel_rfl) (by kernel_rfl) (by kernel_rfl) (fun _ _ _ h => h) (Or.inl ⟨by rfl, ?_⟩) (by assumption) ?_
    rotate_left 1
    · intro w hSw
      (try dsimp only at hSw)
      go_simp
      try with_reducible rfl
    try simp only [Act.put, List.setIfInBounds_toArray, List.set_cons_zero, List.set_cons_succ]
    refine wpAnyH_take (i := 6) (oi := ⟨some 29, _, _, _, _, _⟩) (v := ?_) rfl (by kernel_rfl) (by kernel_rfl) (by kernel_rfl) (fun _ _ _ h => h) (Or.inl ⟨by rfl, ?_⟩) (by assumption) ?_
    rotate_left 1
    · intro w hSw
      (try dsimp only at hSw)
      go_simp
      try with_reducible rfl
    try simp only [Act.put, List.setIfInBounds_toArray, List.set_cons_zero, List.set_cons_succ]
    refine wpAnyH_take (i := 7) (oi := ⟨some 30, _, _, _, _, _⟩) (v := ?_) rfl (by kernel_rfl) (by kernel_rfl) (by kernel_rfl) (fun _ _ _ h => h) (Or.inl ⟨by rfl, ?_⟩) (by assumption) ?_
    rotate_left 1
    · intro w hSw
      (try dsimp only at hSw)
      go_simp
      try with_reducible rfl
    try simp only [Act.put, List.setIfInBounds_toArray, List.set_cons_zero, List.set_cons_succ]
    refine wpAnyH_take (i := 8) (oi := ⟨some 31, _, _, _, _, _⟩) (v := ?_) rfl (by kernel_rfl) (by kernel_rfl) (by kernel_rfl) (fun _ _ _ h => h) (Or.inl ⟨by rfl, ?_⟩) (by assumption) ?_
    rotate_left 1
    · intro w hSw
      (try dsimp only at hSw)
      go_simp
      try with_reducible rfl
    try simp only [Act.put, List.setIfInBounds_toArray, List.set_cons_zero, List.set_cons_succ]
    refine wpAnyH_take (i := 9) (oi := ⟨some 32, _, _, _, _, _⟩) (v := ?_) rfl (by kernel_rfl) (by kernel_rfl) (by kernel_rfl) (fun _ _ _ h => h) (Or.inl ⟨by rfl, ?_⟩) (by assumption) ?_
    rotate_left 1
    · intro w hSw
      (try dsimp only at hSw)
      go_simp
      try with_reducible rfl
    try simp only [Act.put, List.setIfInBounds_toArray, List.set_cons_zero, List.set_cons_succ]
    refine wpAnyH_take (i := 10) (oi := ⟨some 33, _, _, _, _, _⟩) (v := ?_) rfl (by kernel_rfl) (by kernel_rfl) (by kernel_rfl) (fun _ _ _ h => h) (Or.inl ⟨by rfl, ?_⟩) (by assumption) ?_
    rotate_left 1
    · intro w hSw
      (try dsimp only at hSw)
      go_simp
      try with_reducible rfl
    try simp only [Act.put, List.setIfInBounds_toArray, List.set_cons_zero, List.set_cons_succ]
    refine wpAnyH_ready (rs := [11]) (by kernel_rfl) (by simp) ?_
    refine AllReadyH.cons rfl (fun K hK => ?_) AllReadyH.nil
    go_simp
    go_at_call 48
    refine (w_Next (nn : Int) _ _ _ hSC (by omega) (by have := HN0.out; have := HN5.out; omega)).mono ?_
    rintro e w3 ⟨z, hz1, hz2, rfl, hg3, hS3⟩
    obtain ⟨k, rfl⟩ : ∃ k : Nat, z = (k : Int) := ⟨z.toNat, by omega⟩
    have hkn : k < nn := by omega
    replace hgC := hgC.trans hg3
    clear hg3 hz1 hz2 hSC
    go_simp
    refine hK.out _ _ (⟨(HBX.out _ hgC).1, HN00.out _ hgC⟩) (fun hHeld => ?_)
    clear hK K
    try simp only [Act.put, List.setIfInBounds_toArray, List.set_cons_zero, List.set_cons_succ]
    refine wpAnyH_more (S' := fun w' => w'.cell? ⟨nb, noff + k * 3, none⟩ = some (.string (ns.getD k default).key) ∧ w'.cell? ⟨g, 0, none⟩ = some (.slice (some ⟨nb, noff, none⟩) nn ca) ∧ w'.cell? ⟨nb, noff, none⟩ = some (.string (ns.getD 0 default).key)) (fun _ h => h.2) _ _ _ _ ?_
    replace hHeld := (⟨HNK.out _ hgC k hkn, hHeld⟩ : w3.cell? ⟨nb, noff + k * 3, none⟩ = some (.string (ns.getD k default).key) ∧ _)
    refine wpAnyH_take (i := 12) (oi := ⟨some 35, _, _, _, _, _⟩) (v := ?_) rfl (by kernel_rfl) (by kernel_rfl) (by kernel_rfl) (fun _ _ _ h => h) (Or.inl ⟨by rfl, ?_⟩) (by assumption) ?_
    rotate_left 1
    · intro w hSw
      (try dsimp only at hSw)
      go_simp
      try with_reducible rfl
    try simp only [Act.put, List.setIfInBounds_toArray, List.set_cons_zero, List.set_cons_succ]
    refine wpAnyH_take (i := 13) (oi := ⟨some 36, _, _, _, _, _⟩) (v := ?_) rfl (by kernel_rfl) (by kernel_rfl) (by kernel_rfl) (fun _ _ _ h => h) (Or.inl ⟨by rfl, ?_⟩) (by assumption) ?_
    rotate_left 1
    · intro w hSw
      (try dsimp only at hSw)
      go_simp
      try with_reducible rfl
    try simp only [Act.put, List.setIfInBounds_toArray, List.set_cons_zero, List.set_cons_succ]
    refine wpAnyH_take (i := 14) (oi := ⟨some 37, _, _, _, _, _⟩) (v := ?_) rfl (by kernel_rfl) (by kernel_rfl) (by kernel_rfl) (fun _ _ _ h => h) (Or.inl ⟨by rfl, ?_⟩) (by assumption) ?_
    rotate_left 1
    · intro w hSw
      (try dsimp only at hSw)
      go_simp
      try with_reducible rfl
    try simp only [Act.put, List.setIfInBounds_toArray, List.set_cons_zero, List.set_cons_succ]
    refine wpAnyH_take (i := 15) (oi := ⟨some 5, _, _, _, _, _⟩) (v := ?_) rfl (by kernel_rfl) (by kernel_rfl) (by kernel_rfl) (fun _ _ _ h => h) (Or.inl ⟨by rfl, ?_⟩) (by assumption) ?_
    rotate_left 1
    · intro w hSw
      (try dsimp only at hSw)
      go_simp
      try with_reducible rfl
    try simp only [Act.put, List.setIfInBounds_toArray, List.set_cons_zero, List.set_cons_succ]
    refine wpAnyH_take (i := 16) (oi := ⟨some 6, _, _, _, _, _⟩) (v := ?_) rfl (by kernel_rfl) (by kernel_rfl) (by kernel_rfl) (fun _ _ _ h => h) (Or.inl ⟨by rfl, ?_⟩) (by assumption) ?_
    rotate_left 1
    · intro w hSw
      (try dsimp only at hSw)
      go_simp
      try with_reducible rfl
    try simp only [Act.put, List.setIfInBounds_toArray, List.set_cons_zero, List.set_cons_succ]
    refine wpAnyH_done (by kernel_rfl) ?_ _
    go_wp2
    go_meet
    exact ⟨k, hkn, rfl, rfl, hgC⟩
  case rest =>
    obtain ⟨kn, hkn, rfl, rfl, hg6⟩ := hcut
    obtain ⟨w6, hw6⟩ : ∃ w6, w6 = wc := ⟨_, rfl⟩
    subst hw6
    clear HS2 HNK
    have HT := hide (fun W (hx : Nx w6 W) => Nx.of_gr (hg02.trans (hg6.then_nx hx)) (Nat.le_refl _))
    have HR5 := hide (fun W (hx : Nx w6 W) => HRD.out W (hg6.then_nx hx))
    have HB5 := hide (fun W (hx : Nx w6 W) => HBX.out W (hg6.then_nx hx))
    have hsz5 : w.heap.size + 1 ≤ w6.heap.size := Nat.le_trans hlow2 hg6.sz
    have hm0 : momB 0 = true := by decide
    have HRF := hide (fun W (hx : Nx w6 W) => w_RoadsFault (w.heap.size + 1) (w.heap.size + 1) (w.heap.size + 1) (some ⟨nb, noff, none⟩) B1 B2 ca cb cc ns rs bs W (HR5.out W hx).1 HSN.out (by omega) (HR5.out W hx).2.1 (by omega) (HR5.out W hx).2.2 (by omega))
    have HFA := hide (fun (hR : roadsF ns rs bs = 0) => fast_right (w.heap.size + 1) (some ⟨nb, noff, none⟩) B1 B2 ca cb cc ns rs bs (ns.getD 0 default).key (ns.getD kn default).key 0 (fun W => Nx w6 W) (fun W hx => ⟨Nat.le_trans hsz5 hx.sz, (HR5.out W hx).1, (HR5.out W hx).2.1, (HR5.out W hx).2.2⟩) (by omega) (by omega) (by omega) HSN.out hR (node_has hR hn0) (node_has hR hkn) hm0)
    have HND := hide (fun (hR : roadsF ns rs bs = 0) W (hx : Nx w6 W) => w_Needed (w.heap.size + 1) (some ⟨nb, noff, none⟩) B1 B2 ca cb cc ns rs bs (ns.getD 0 default).key (ns.getD kn default).key (nodeN ns (ns.getD 0 default).key) (nodeN ns (ns.getD kn default).key) W (HR5.out W hx).1 (HR5.out W hx).2.1 (HR5.out W hx).2.2 (by omega) (by omega) (by omega) HSN.out hR (by have := node_has hR hn0; unfold nodeN; omega) (by have := node_has hR hkn; unfold nodeN; omega) (nodeN_lt (node_has hR hn0)))
    have HWO := hide (fun (hR : roadsF ns rs bs = 0) (k : Nat) (hk : k < rs.length) (G : Nat) (W : World) (hx : Nx w6 W) (hG : W.heap[G]? = some (.cells #[.string (arcX rs k).key] 9 (0, 0))) => (w_Without (w.heap.size + 1) (some ⟨nb, noff, none⟩) B1 B2 ca cb cc ns rs bs 0 (some ⟨G, 0, none⟩) 1 [(arcX rs k).key] W (HR5.out W hx).1 (HR5.out W hx).2.1 (HR5.out W hx).2.2 (by omega) (by omega) (by omega) HSN.out hR (Rd.lit hG (Nat.zero_le _) encS_len rfl) (by simp) (fun s hs => by rw [List.mem_singleton.1 hs]; exact arcI_of ⟨_, arcX_mem hk, rfl⟩) (List.pairwise_singleton _ _)))
    have HF2 := hide (fun (hR : roadsF ns rs bs = 0) (k : Nat) (rs' : List Arc) (hc : rs'.map coreA = (lessA rs (memS [(arcX rs k).key])).map coreA) (lo2 : Nat) (N A C : Option Addr) (cN cA cC : Nat) (W0 : World) (hlo : lo2 ≤ W0.heap.size) (h1 : Rd W0 lo2 N 3 encNode ns) (h2 : RdArcs W0 lo2 A rs') (h3 : Rd W0 lo2 C 2 encBan (lessB bs (memS [(arcX rs k).key]))) => fast_right lo2 N A C cN cA cC ns rs' (lessB bs (memS [(arcX rs k).key])) (ns.getD 0 default).key (ns.getD kn default).key 0 (fun W => Nx W0 W) (fun W hx => ⟨Nat.le_trans hlo hx.sz, h1.nx hx, h2.nx hx, h3.nx hx⟩) (by omega) (by
      have h4 := (same_core (ns := ns) (bs := bs) hc).2.2
      have h5 := lessA_len (rs := rs) (g := memS [(arcX rs k).key])
      omega) (by
      have h5 := lessB_len (bs := bs) (g := memS [(arcX rs k).key])
      omega) HSN.out ((same_core (ns := ns) (bs := lessB bs (memS [(arcX rs k).key])) hc).1.trans (roads_less hR)) (node_has hR hn0) (node_has hR hkn) hm0)
    have HNN := hide (fun (hR : roadsF ns rs bs = 0) (L : List ByteArray) (k : Nat) (rs' : List Arc) h hk hc => need_not (a := nodeN ns (ns.getD 0 default).key) (b := nodeN ns (ns.getD kn default).key) (L := L) (rs' := rs') hR (by omega) (nodeN_lt (node_has hR hn0)) (nodeN_lt (node_has hR hkn)) h (k := k) hk hc)
    have HAC := hide (fun (hR : roadsF ns rs bs = 0) => all_conn (bs := bs) (a := nodeN ns (ns.getD 0 default).key) (b := nodeN ns (ns.getD kn default).key) (roads_ok hR).2.1 (by omega) (nodeN_lt (node_has hR hn0)) (nodeN_lt (node_has hR hkn)))
    have HRR := hide (fun W (hx : Nx w6 W) => (HR5.out W hx).2.1)
    clear HRD HBX HR5 hsz5 hgs hz1 hn2 HW2 hlow2 hs2 hnb hnbr hg02 hg6 hm0
    generalize (ns.getD 0 default).key = sf at *
    generalize (ns.getD kn default).key = st at *
    generalize nodeN ns sf = ia at *
    generalize nodeN ns st = ib at *
    generalize hRFe : roadsF ns rs bs = RF at *
    generalize hnl : ns.length = nn at *
    generalize hrl : rs.length = nr at *
    generalize hbl : bs.length = nbb at *
    have HRL := hide hrl
    have HNL := hide hnl
    clear hrl hbl hnl hRFe hn0 hn5 hkn hlos hnlo
    obtain ⟨c0, c1, c2⟩ := HB5.out w6 (Nx.refl _)
    go_wp2_with fail
    refine (HRF.out w6 (Nx.refl _)).mono ?_
    rintro e w7 ⟨rfl, hn7⟩
    clear c0 c1 c2 HRF
    by_cases hF : RF = 0
    · subst hF
      replace HFA := hide (HFA.out rfl)
      replace HND := hide (HND.out rfl)
      replace HWO := hide (HWO.out rfl)
      replace HF2 := hide (HF2.out rfl)
      replace HNN := hide (HNN.out rfl)
      replace HAC := hide (HAC.out rfl)
      obtain ⟨c0, c1, c2⟩ := HB5.out w7 hn7
      go_wp2_with fail
      refine (HND.out w7 hn7).mono ?_
      rintro e w8 ⟨Z, cz, L, F, rfl, hZ, hLl, hn8, hcase⟩
      have hn78 := hn7.trans hn8
      have HZ := hide hZ
      have HLL := hide hLl
      have HCASE := hide hcase
      clear c0 c1 c2 hZ hLl hcase hn7 hn8 HND
      generalize hnL : L.length = nL at *
      have HNLL := hide hnL
      clear hnL
      by_cases hF8 : F = 0
      · subst hF8
        have hneed : (ia = ib ∧ L = []) ∨ (ia ≠ ib ∧ ∀ s, s ∈ L ↔ ∃ k, k < rs.length ∧ (arcX rs k).key = s ∧ ¬ connP ns rs bs ia ib k) := by
          rcases HCASE.out with ⟨a1, _, a3⟩ | ⟨_, _, a3, _⟩ | ⟨a1, _, _, a4⟩
          · exact .inl ⟨a1, a3⟩
          · exact absurd a3 (by decide)
          · exact .inr ⟨a1, a4⟩
        have HNN := hide (fun (k : Nat) (hk : k < nr) rs' hc => HNN.out L k rs' (HRL.out ▸ hneed) hk hc)
        clear HCASE hneed HFA HAC
        have HCT := hide (fun t W (hx : Nx w8 W) => w_ContS2 0 Z cz L t W (HZ.out.nx hx) (by have := HLL.out; have := HNLL.out; have := HRL.out; omega))
        rw [HNLL.out] at HCT
        obtain ⟨c0, c1, c2⟩ := HB5.out w8 hn78
        go_wp2_with fail
        clear c0 c1 c2
        go_loopw [75] (fun i wr => ∃ j : Nat, j ≤ nr ∧ i = .int .i64 j ∧ Nx w8 wr) (fun i _ => nr - (intOf i).toNat)
        case atStart => exact ⟨0, Nat.zero_le _, rfl, Nx.refl _⟩
        case round =>
          obtain ⟨j, hj, rfl, hbw8⟩ := hrel
          have hbw := hn78.trans hbw8
          by_cases hlt : j < nr
          · have hlt' : j < rs.length := by have := HRL.out; omega
            obtain ⟨b, off, eb, _, hb, hbr, hc⟩ := (HRR.out _ hbw).1.open_ (Nx.refl wr) (by have := HRL.out; omega)
            have hax : rs[j] = arcX rs j := (arcX_get hlt').symm
            have c0 : wr.cell? ⟨b, off + j * 5, none⟩ = some (.string (arcX rs j).key) := hax ▸ hc j hlt' 0 _ rfl
            have c1 : wr.cell? ⟨b, off + j * 5 + 1, none⟩ = some (.string (arcX rs j).from_) := hax ▸ hc j hlt' 1 _ rfl
            have c2 : wr.cell? ⟨b, off + j * 5 + 2, none⟩ = some (.string (arcX rs j).to_) := hax ▸ hc j hlt' 2 _ rfl
            have c3 : wr.cell? ⟨b, off + j * 5 + 3, none⟩ = some (.int .i64 (arcX rs j).long) := hax ▸ hc j hlt' 3 _ rfl
            have c4 : wr.cell? ⟨b, off + j * 5 + 4, none⟩ = some (.slice (arcX rs j).ka (arcX rs j).knots.length (arcX rs j).kc) := hax ▸ hc j hlt' 4 _ rfl
            have HWJ := hide (fun G W hx hG => HWO.out j (by omega) G W hx hG)
            have HFJ := hide (fun rs' hc => HF2.out j rs' hc)
            have HNJ := hide (fun rs' hc => HNN.out j hlt rs' hc)
            clear hc hax hb hbr
            generalize hka : (arcX rs j).key = key at *
            generalize arcX rs j = a at *
            have HKA := hide hka
            obtain ⟨w12, hw12⟩ : ∃ w12, w12 = wr.alloc (.cells #[.string key, .string a.from_, .string a.to_, .int .i64 a.long, .slice a.ka a.knots.length a.kc] 63) := ⟨_, rfl⟩
            have hn12 : Nx wr w12 := hw12 ▸ (Nx.refl wr).alloc _
            have hs12 : wr.heap.size < w12.heap.size := by rw [hw12]; simp
            have d0 : w12.cell? ⟨wr.heap.size, 0, none⟩ = some (.string key) := by rw [hw12]; go_simp
            have HDD := hide (fun W (hx : Nx w12 W) => (nx_cell hx hs12 d0 : W.cell? ⟨wr.heap.size, 0, none⟩ = some (.string key)))
            have HW12 := hide hw12
            clear hw12 hs12 hka d0
            subst eb
            go_upto_region 13 with fail
            rw [← HW12.out]
            clear c0 c1 c2 c3 c4
            have d0 := HDD.out w12 (Nx.refl _)
            obtain ⟨c0, c1, c2⟩ := HB5.out w12 (hbw.trans hn12)
            generalize wr.heap.size = Pb at *
            go_wp2_with fail
            refine (HWJ.out _ _ ((hbw.trans hn12).alloc _) (hnew rfl)).mono ?_
            rintro e w13 ⟨vN, vA, vB, rs', rfl, hown, hcore, hn13⟩
            have hn13b := ((Nx.refl w12).alloc (.cells #[.string key] 9)).trans hn13
            obtain ⟨N3, A3, C3, n3, a3, b3, e1, e2, e3, hr1, hr2, hr3⟩ := hown.rd
            rw [HNL.out] at e1
            subst e1 e2 e3
            obtain ⟨keys, nk, lv, ar, is, _, _, hFK, his, _, _⟩ := HFJ.out rs' hcore _ N3 A3 C3 n3 a3 b3 w13 hn13.sz hr1 hr2 hr3
            have hnot := HNJ.out rs' hcore
            have hisn : is = !memS L key := his.trans hnot
            have HIS := hide hisn
            have HFK := hide hFK
            clear hown hcore hr1 hr2 hr3 his hnot hisn hFK c0 c1 c2 d0 hn13
            generalize rs'.length = m1 at *
            generalize (lessB bs (memS [key])).length = m2 at *
            obtain ⟨w14, hw14⟩ : ∃ w14, w14 = w13.alloc (.cells #[.slice N3 nn n3, .slice A3 m1 a3, .slice C3 m2 b3] 30) := ⟨_, rfl⟩
            have hn14 : Nx w13 w14 := hw14 ▸ (Nx.refl w13).alloc _
            have x0 : w14.cell? ⟨w13.heap.size, 0, none⟩ = some (.slice N3 nn n3) := by rw [hw14]; go_simp
            have x1 : w14.cell? ⟨w13.heap.size, 1, none⟩ = some (.slice A3 m1 a3) := by rw [hw14]; go_simp
            have x2 : w14.cell? ⟨w13.heap.size, 2, none⟩ = some (.slice C3 m2 b3) := by rw [hw14]; go_simp
            have HW14 := hide hw14
            clear hw14
            go_upto_region 14 with fail
            rw [← HW14.out]
            generalize w13.heap.size = P3 at *
            go_wp2_with fail
            refine (HFK.out w14 hn14).mono ?_
            rintro e w15 ⟨Z3, c3, rfl, _, hn15⟩
            obtain ⟨w16, hw16⟩ : ∃ w16, w16 = w15.alloc (.cells #[.slice Z3 nk c3, .int .i64 lv, .int .i64 ar] 90) := ⟨_, rfl⟩
            have hn16 : Nx w15 w16 := hw16 ▸ (Nx.refl w15).alloc _
            have hnx : Nx w12 w16 := ((hn13b.trans hn14).trans hn15).trans hn16
            have HW16 := hide hw16
            have HNX := hide hnx
            have d6 := HDD.out w16 hnx
            have hct := HCT.out key w16 ((hbw8.trans hn12).trans hnx)
            have HCK := hide hct
            clear hw16 x0 x1 x2 HW14 hct
            go_upto_region 17 with fail
            rw [← HW16.out]
            clear HW16
            have tis : (is == memS L key) = false := by rw [HIS.out]; cases memS L key <;> rfl
            generalize memS L key = mk at *
            clear HIS
            go_wp2_with fail
            refine HCK.out.mono ?_
            rintro e w17 ⟨rfl, hn17⟩
            go_wp2_with fail
            go_roundw
            case rel => exact ⟨j + 1, by omega, by go_num, ((hbw8.trans hn12).trans HNX.out).trans hn17⟩
            case measure => simp [intOf]; omega
          · go_wp2_with (go_at_call 49; refine (w_ready _).mono ?_; rintro e w12 ⟨rfl, hn12⟩)
            go_ret
            exact ⟨rfl, HT.out _ (hbw.trans hn12)⟩
      · have hno : ia ≠ ib ∧ ¬ connP ns rs bs ia ib (-1) ∧ F = 8 := by
          rcases HCASE.out with ⟨_, a3, _⟩ | ⟨a1, a2, a3, _⟩ | ⟨_, _, a3, _⟩
          · exact absurd a3 hF8
          · exact ⟨a1, a2, a3⟩
          · exact absurd a3 hF8
        obtain ⟨n1, n2, rfl⟩ := hno
        obtain ⟨keys, nk, lv, ar, is, _, _, hFK, his, _, _⟩ := HFA.out
        have hisf : is = false := by
          rw [his]
          exact decide_eq_false fun h => (HAC.out.1 h).elim n1 n2
        subst hisf
        have HFK := hide hFK
        clear his hFK n1 n2 hF8 HCASE HFA HAC HNN HWO HF2
        obtain ⟨c0, c1, c2⟩ := HB5.out w8 hn78
        go_wp2_with fail
        refine (HFK.out w8 hn78).mono ?_
        rintro e w9 ⟨Z3, c3, rfl, _, hn9⟩
        go_wp2_with (go_at_call 49; refine (w_ready _).mono ?_; rintro e w12 ⟨rfl, hn12⟩)
        go_ret
        exact ⟨rfl, HT.out _ (((hn78.trans hn9).alloc _).trans hn12)⟩
    · have tF : (RF != 0) = true := by simpa using hF
      clear HFA HND HWO HF2 HNN HAC
      go_wp2_with (go_at_call 49; refine (w_ready _).mono ?_; rintro e w12 ⟨rfl, hn12⟩)
      go_ret
      exact ⟨rfl, HT.out _ (hn7.trans hn12)⟩
end Go.Proofs.YtmpnilliichpfaaGreatDoor
