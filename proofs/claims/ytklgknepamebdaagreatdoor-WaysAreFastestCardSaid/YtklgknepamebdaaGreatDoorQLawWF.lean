/- jitlaw1.WaysAreFastest returns true. -/
import Derived.Test.YtklgknepamebdaaGreatDoorQRdsS
import Derived.Test.YtklgknepamebdaaGreatDoorQG21
import Derived.Test.YtklgknepamebdaaGreatDoorQG24
import Derived.Test.YtklgknepamebdaaGreatDoorQG32
import Derived.Test.YtklgknepamebdaaGreatDoorQG45
import Derived.Deep.DeepCutAuto
namespace Go.Proofs.YtklgknepamebdaaGreatDoor
open Go.RowKit

theorem ends_or (ns : List Node) (rs : List Arc) (bs : List Ban) (f t : ByteArray) (ad : Int) (h : roadsF ns rs bs = 0) : orI [noneF ns f, noneF ns t, momF ad] = endsF ns rs bs f t ad := by
  unfold endsF
  rw [if_pos h]
  unfold noneF momF argF
  by_cases h1 : nodeI ns f < 0
  · rw [if_pos h1, if_pos (show nodeI ns f < 0 ∨ nodeI ns t < 0 from .inl h1)]; rfl
  · rw [if_neg h1]
    by_cases h2 : nodeI ns t < 0
    · rw [if_pos h2, if_pos (show nodeI ns f < 0 ∨ nodeI ns t < 0 from .inr h2)]; rfl
    · rw [if_neg h2, if_neg (show ¬ (nodeI ns f < 0 ∨ nodeI ns t < 0) by omega)]
      cases momB ad <;> rfl
set_option maxRecDepth 100000 in
set_option maxHeartbeats 8000000 in
theorem w_lawWF (A : Option Addr) (n c : Nat) (w : World) (hn : n ≤ 9223372036854775807)
    (hL : 0 < n → ∃ b off, A = some ⟨b, off, none⟩ ∧ b < w.heap.size ∧ ∀ j, j < n → ∃ z : Int, w.cell? ⟨b, off + j, none⟩ = some (.int .i64 z) ∧ -9223372036854775808 ≤ z ∧ z ≤ 9223372036854775807) :
    Calls Tryz.prog 4 #[.slice A n c] w (TrueNx w) := by
  have hS0 : Str (w.alloc (.cells #[.slice A n c, .int .i64 0] 25)) w.heap.size 0 := str_new A n c w hn hL
  clear hL
  go_enter Tryz.func4, Tryz.ntmps4
  go_wp2_with fail
  refine (w_RoadsS _ 0 _ hS0 (by omega)).mono ?_
  rintro e w1 ⟨vN, vA, vB, ns, rs, bs, rfl, hown, hn0, hn5, hr10, hb101, hg1, hS1⟩
  have hsz : (w.alloc (.cells #[.slice A n c, .int .i64 0] 25)).heap.size = w.heap.size + 1 := by simp
  rw [hsz] at hown
  have hz1 := hg1.sz
  rw [hsz] at hz1
  have hg01 : Gr w.heap.size w w1 := (Gr.of_nx ((Nx.refl w).alloc _)).trans hg1
  clear hg1 hS0
  have hsmN := hown.smN
  obtain ⟨B0, B1, B2, ca, cb, cc, e1, e2, e3, hRN, hRA, hRB⟩ := hown.rd
  subst e1 e2 e3
  clear hown
  obtain ⟨w2, hw2⟩ : ∃ w2, w2 = w1.alloc (.cells #[.slice B0 ns.length ca, .slice B1 rs.length cb, .slice B2 bs.length cc] 30) := ⟨_, rfl⟩
  have hn2 : Nx w1 w2 := hw2 ▸ (Nx.refl w1).alloc _
  have hs2 : w1.heap.size < w2.heap.size := by rw [hw2]; simp
  have b0 : w2.cell? ⟨w1.heap.size, 0, none⟩ = some (.slice B0 ns.length ca) := by rw [hw2]; go_simp
  have b1 : w2.cell? ⟨w1.heap.size, 1, none⟩ = some (.slice B1 rs.length cb) := by rw [hw2]; go_simp
  have b2 : w2.cell? ⟨w1.heap.size, 2, none⟩ = some (.slice B2 bs.length cc) := by rw [hw2]; go_simp
  have hg02 := hg01.then_nx hn2
  have hS2 := hS1.nx hn2
  have HRN := hide (hRN.nx hn2)
  have HRA := hide (hRA.nx hn2)
  have HRB := hide (hRB.nx hn2)
  have HSN := hide hsmN
  clear hRN hRA hRB hsmN hg01 hS1
  go_upto_region 3 with fail
  rw [← hw2]
  have HW2 := hide hw2
  clear hw2
  have hgs : w.heap.size < w1.heap.size := by omega
  generalize w1.heap.size = g at *
  have hlos : w.heap.size < w.heap.size + 1 := by omega
  have HRD := hide (fun W (hg : Gr w.heap.size w2 W) => (⟨HRN.out.gr hg hlos, ⟨HRA.out.1.gr hg hlos, fun x hx => ⟨(HRA.out.2 x hx).1.gr hg hlos, (HRA.out.2 x hx).2⟩⟩, HRB.out.gr hg hlos⟩ : Rd W (w.heap.size + 1) B0 3 encNode ns ∧ RdArcs W (w.heap.size + 1) B1 rs ∧ Rd W (w.heap.size + 1) B2 2 encBan bs))
  have HBX := hide (fun W (hg : Gr w.heap.size w2 W) => (⟨World.grownBy.cell (row := some w.heap.size) hg b0 (by simp; omega), World.grownBy.cell (row := some w.heap.size) hg b1 (by simp; omega), World.grownBy.cell (row := some w.heap.size) hg b2 (by simp; omega)⟩ : W.cell? ⟨g, 0, none⟩ = some (.slice B0 ns.length ca) ∧ W.cell? ⟨g, 1, none⟩ = some (.slice B1 rs.length cb) ∧ W.cell? ⟨g, 2, none⟩ = some (.slice B2 bs.length cc)))
  have HNK := hide (fun k W (hg : Gr w.heap.size w2 W) (hS : Str W w.heap.size k) (hk : k < 700000) => w_NodeKey w.heap.size k (w.heap.size + 1) B0 B1 B2 rs.length bs.length ca cb cc ns W hS hk (HRD.out W hg).1 HSN.out hn0 (by omega) hlos)
  have hlow2 : w.heap.size + 1 ≤ w2.heap.size := by omega
  clear HRN HRA HRB b0 b1 b2
  have HS2 := hide hS2
  clear hS2
  go_cut [5, 6, 7] (fun vf vt va wx => ∃ (fr to_ : ByteArray) (ad : Int), vf = .string fr ∧ vt = .string to_ ∧ va = .int .i64 ad ∧ Gr w.heap.size w2 wx)
  case first =>
    generalize ns.length = nn at *
    generalize rs.length = nr at *
    generalize bs.length = nb at *
    refine wp_region_held_drew (S := fun w' => w'.cell? ⟨g, 0, none⟩ = some (.slice B0 nn ca) ∧ w'.cell? ⟨g, 1, none⟩ = some (.slice B1 nr cb) ∧ w'.cell? ⟨g, 2, none⟩ = some (.slice B2 nb cc)) (by kernel_rfl) ?_ (fun hHeld => ?_)
    · exact HBX.out _ (Gr.refl _ _).drew
    refine wpAnyH_take (i := 0) (oi := ⟨some 25, _, _, _, _, _⟩) (v := ?_) rfl (by kernel_rfl) (by kernel_rfl) (by kernel_rfl) (fun _ _ _ h => h) (Or.inl ⟨by rfl, ?_⟩) (by assumption) ?_
    rotate_left 1
    · intro w hSw
      (try dsimp only at hSw)
      go_simp
      try with_reducible rfl
    try simp only [Act.put, List.setIfInBounds_toArray, List.set_cons_zero, List.set_cons_succ]
    refine wpAnyH_take (i := 1) (oi := ⟨some 26, _, _, _, _, _⟩) (v := ?_) rfl (by kernel_rfl) (by kernel_rfl) (by kernel_rfl) (fun _ _ _ h => h) (Or.inl ⟨by rfl, ?_⟩) (by assumption) ?_
    rotate_left 1
    · intro w hSw
      (try dsimp only at hSw)
      go_simp
      try with_reducible rfl
    try simp only [Act.put, List.setIfInBounds_toArray, List.set_cons_zero, List.set_cons_succ]
    refine wpAnyH_take (i := 3) (oi := ⟨some 28, _, _, _, _, _⟩) (v := ?_) rfl (by kernel_rfl) (by kernel_rfl) (by kernel_rfl) (fun _ _ _ h => h) (Or.inl ⟨by rfl, ?_⟩) (by assumption) ?_
    rotate_left 1
    · intro w hSw
      (try dsimp only at hSw)
      go_simp
      try with_reducible rfl
    try simp only [Act.put, List.setIfInBounds_toArray, List.set_cons_zero, List.set_cons_succ]
    refine wpAnyH_take (i := 4) (oi := ⟨some 29, _, _, _, _, _⟩) (v := ?_) rfl (by kernel_rfl) (by kernel_rfl) (by kernel_rfl) (fun _ _ _ h => h) (Or.inl ⟨by rfl, ?_⟩) (by assumption) ?_
    rotate_left 1
    · intro w hSw
      (try dsimp only at hSw)
      go_simp
      try with_reducible rfl
    try simp only [Act.put, List.setIfInBounds_toArray, List.set_cons_zero, List.set_cons_succ]
    refine wpAnyH_take (i := 6) (oi := ⟨some 31, _, _, _, _, _⟩) (v := ?_) rfl (by kernel_rfl) (by kernel_rfl) (by kernel_rfl) (fun _ _ _ h => h) (Or.inl ⟨by rfl, ?_⟩) (by assumption) ?_
    rotate_left 1
    · intro w hSw
      (try dsimp only at hSw)
      go_simp
      try with_reducible rfl
    try simp only [Act.put, List.setIfInBounds_toArray, List.set_cons_zero, List.set_cons_succ]
    refine wpAnyH_ready (rs := [2]) (by kernel_rfl) (by simp) ?_
    refine AllReadyH.cons rfl (fun K hK => ?_) AllReadyH.nil
    go_simp
    go_at_call 27
    refine (HNK.out _ _ (Gr.refl _ _).drew (HS2.out.nx (Nx.refl _).drew) (by omega)).mono ?_
    rintro e w3 ⟨fr, rfl, _, hg3, hS3⟩
    have hg23 := (Gr.refl _ w2).drew.trans hg3
    go_simp
    refine hK.out _ _ (HBX.out _ hg23) (fun hHeld => ?_)
    clear hK K
    try simp only [Act.put, List.setIfInBounds_toArray, List.set_cons_zero, List.set_cons_succ]
    refine wpAnyH_ready (rs := [5]) (by kernel_rfl) (by simp) ?_
    refine AllReadyH.cons rfl (fun K hK => ?_) AllReadyH.nil
    go_simp
    go_at_call 27
    refine (HNK.out _ _ hg23 hS3 (by omega)).mono ?_
    rintro e w4 ⟨to_, rfl, _, hg4, hS4⟩
    have hg24 := hg23.trans hg4
    go_simp
    refine hK.out _ _ (HBX.out _ hg24) (fun hHeld => ?_)
    clear hK K
    try simp only [Act.put, List.setIfInBounds_toArray, List.set_cons_zero, List.set_cons_succ]
    refine wpAnyH_ready (rs := [7]) (by kernel_rfl) (by simp) ?_
    refine AllReadyH.cons rfl (fun K hK => ?_) AllReadyH.nil
    go_simp
    go_at_call 10
    refine (w_Departure _ _ _ hS4 (by omega)).mono ?_
    rintro e w5 ⟨ad, ha1, ha2, rfl, hg5, hS5⟩
    have hg25 := hg24.trans hg5
    go_simp
    refine hK.out _ _ (HBX.out _ hg25) (fun hHeld => ?_)
    clear hK K
    try simp only [Act.put, List.setIfInBounds_toArray, List.set_cons_zero, List.set_cons_succ]
    refine wpAnyH_take (i := 8) (oi := ⟨some 5, _, _, _, _, _⟩) (v := ?_) rfl (by kernel_rfl) (by kernel_rfl) (by kernel_rfl) (fun _ _ _ h => h) (Or.inl ⟨by rfl, ?_⟩) (by assumption) ?_
    rotate_left 1
    · intro w hSw
      (try dsimp only at hSw)
      go_simp
      try with_reducible rfl
    try simp only [Act.put, List.setIfInBounds_toArray, List.set_cons_zero, List.set_cons_succ]
    refine wpAnyH_take (i := 9) (oi := ⟨some 6, _, _, _, _, _⟩) (v := ?_) rfl (by kernel_rfl) (by kernel_rfl) (by kernel_rfl) (fun _ _ _ h => h) (Or.inl ⟨by rfl, ?_⟩) (by assumption) ?_
    rotate_left 1
    · intro w hSw
      (try dsimp only at hSw)
      go_simp
      try with_reducible rfl
    try simp only [Act.put, List.setIfInBounds_toArray, List.set_cons_zero, List.set_cons_succ]
    refine wpAnyH_take (i := 10) (oi := ⟨some 7, _, _, _, _, _⟩) (v := ?_) rfl (by kernel_rfl) (by kernel_rfl) (by kernel_rfl) (fun _ _ _ h => h) (Or.inl ⟨by rfl, ?_⟩) (by assumption) ?_
    rotate_left 1
    · intro w hSw
      (try dsimp only at hSw)
      go_simp
      try with_reducible rfl
    try simp only [Act.put, List.setIfInBounds_toArray, List.set_cons_zero, List.set_cons_succ]
    refine wpAnyH_done (by kernel_rfl) ?_ _
    go_wp2
    go_meet
    exact ⟨fr, to_, ad, rfl, rfl, rfl, hg25⟩
  case rest =>
    obtain ⟨fr, to_, ad, rfl, rfl, rfl, hg5⟩ := hcut
    obtain ⟨w5, hw5⟩ : ∃ w5, w5 = wc := ⟨_, rfl⟩
    subst hw5
    have HT := hide (fun W (hx : Nx w5 W) => Nx.of_gr (hg02.trans (hg5.then_nx hx)) (Nat.le_refl _))
    have HR5 := hide (fun W (hx : Nx w5 W) => HRD.out W (hg5.then_nx hx))
    have HB5 := hide (fun W (hx : Nx w5 W) => HBX.out W (hg5.then_nx hx))
    have hsz5 : w.heap.size + 1 ≤ w5.heap.size := Nat.le_trans hlow2 hg5.sz
    have hgl : g < w5.heap.size := Nat.lt_of_lt_of_le hs2 hg5.sz
    obtain ⟨keys, nk, lv, ar, is, hkn, hkl, hFA, hF1, hF2⟩ := fast_pack (w.heap.size + 1) B0 B1 B2 ca cb cc ns rs bs fr to_ ad (fun W => Nx w5 W) (fun W hx => ⟨Nat.le_trans hsz5 hx.sz, (HR5.out W hx).1, (HR5.out W hx).2.1, (HR5.out W hx).2.2⟩) (by omega) (by omega) (by omega) HSN.out
    have HKN := hide hkn
    have HKL := hide hkl
    have HFA := hide hFA
    have HF1 := hide hF1
    have HF2 := hide hF2
    have HLA := hide (fun W (hx : Nx w5 W) => late_pack (w.heap.size + 1) B0 B1 B2 ca cb cc ns rs bs fr to_ ad W (HR5.out W hx).1 (HR5.out W hx).2.1 (HR5.out W hx).2.2 (by omega) (by omega) (by omega) HSN.out)
    have HRF := hide (fun W (hx : Nx w5 W) => w_RoadsFault (w.heap.size + 1) (w.heap.size + 1) (w.heap.size + 1) B0 B1 B2 ca cb cc ns rs bs W (HR5.out W hx).1 HSN.out (by omega) (HR5.out W hx).2.1 (by omega) (HR5.out W hx).2.2 (by omega))
    have HNF := hide (fun s W (hx : Nx w5 W) => w_NodeFault (w.heap.size + 1) B0 B1 B2 rs.length bs.length ca cb cc ns s W (HR5.out W hx).1 (by omega))
    have HVR := hide (fun W (hx : Nx w5 W) (hC : chk (arcF ns) none rs = 0) => (⟨(HR5.out W hx).2.1, by omega, (HR5.out W hx).2.2, by omega, hC⟩ : ValR W (w.heap.size + 1) B0 B1 B2 ns.length ca cb cc ns rs bs))
    have HAR := hide (fun t W (hx : Nx w5 W) (hC : chk (arcF ns) none rs = 0) (hf : 0 ≤ nodeI ns fr) (ht : 0 ≤ nodeI ns to_) hat => w_ArriveAt (w.heap.size + 1) B0 B1 B2 ns.length ca cb cc ns rs bs fr to_ t W (HVR.out W hx hC) hf ht hat)
    have HLV := hide (fun t W (hx : Nx w5 W) (hC : chk (arcF ns) none rs = 0) (hf : 0 ≤ nodeI ns fr) (ht : 0 ≤ nodeI ns to_) hat => w_LeaveAt (w.heap.size + 1) B0 B1 B2 ns.length ca cb cc ns rs bs fr to_ t W (HVR.out W hx hC) hf ht hat)
    have HWR := hide (fun W (hx : Nx w5 W) (hC : chk (arcF ns) none rs = 0) ks lo2 Z c lv ar hZ hW h0 => w_wayRight (w.heap.size + 1) B0 B1 B2 ns.length ca cb cc ns rs bs fr to_ lo2 Z c ks lv ar W (HR5.out W hx).2.1 (by omega) (HR5.out W hx).2.2 (by omega) hC hZ hW h0)
    have HEO := hide (ends_or ns rs bs fr to_ ad)
    have HEB := hide (fun h : roadsF ns rs bs ≠ 0 => (show endsF ns rs bs fr to_ ad = roadsF ns rs bs from if_neg h))
    have HEK := hide (fun h : endsF ns rs bs fr to_ ad = 0 => endsF_ok h)
    clear hkn hkl hFA hF1 hF2 HRD HBX HNK HS2 hg5 hg02 HSN HR5 hs2 hgs hz1 hn2 HW2 hlow2
    generalize hE : endsF ns rs bs fr to_ ad = E at *
    generalize hRF : roadsF ns rs bs = RF at *
    generalize hnl : ns.length = nn at *
    generalize hrl : rs.length = nr at *
    generalize hbl : bs.length = nb at *
    clear hnl hrl hbl hE
    obtain ⟨c0, c1, c2⟩ := HB5.out w5 (Nx.refl _)
    go_wp2_with fail
    refine (HFA.out w5 (Nx.refl _)).mono ?_
    rintro e w6 ⟨Z, cz, rfl, hRZ, hn6⟩
    obtain ⟨w7, hw7⟩ : ∃ w7, w7 = w6.alloc (.cells #[.slice Z nk cz, .int .i64 lv, .int .i64 ar] 62) := ⟨_, rfl⟩
    have hn67 : Nx w6 w7 := hw7 ▸ (Nx.refl w6).alloc _
    have hp7 : w6.heap.size < w7.heap.size := by rw [hw7]; simp
    have d7 : w7.heap[w6.heap.size]? = some (.cells #[.slice Z nk cz, .int .i64 lv, .int .i64 ar] 62 (0, 0)) := by rw [hw7]; exact hnew rfl
    have hn57 := hn6.trans hn67
    have HRZ := hide (hRZ.nx hn67)
    have HD7 := hide d7
    have HW7 := hide hw7
    clear hRZ c0 c1 c2 hw7 d7
    obtain ⟨c0, c1, c2⟩ := HB5.out w6 hn6
    go_upto_region 5 with fail
    rw [← HW7.out]
    clear c0 c1 c2
    generalize w6.heap.size = p at *
    obtain ⟨c0, c1, c2⟩ := HB5.out w7 hn57
    go_wp2_with fail
    refine (HLA.out w7 hn57).mono ?_
    rintro e w8 ⟨keys2, nk2, lv2, ar2, is2, Z2, cz2, hkn2, rfl, hRZ2, hn8, hG1, hG2⟩
    have HKN2 := hide hkn2
    have HG1 := hide hG1
    have HG2 := hide hG2
    obtain ⟨w9, hw9⟩ : ∃ w9, w9 = w8.alloc (.cells #[.slice Z2 nk2 cz2, .int .i64 lv2, .int .i64 ar2] 62) := ⟨_, rfl⟩
    have hn89 : Nx w8 w9 := hw9 ▸ (Nx.refl w8).alloc _
    have d9 : w9.heap[w8.heap.size]? = some (.cells #[.slice Z2 nk2 cz2, .int .i64 lv2, .int .i64 ar2] 62 (0, 0)) := by rw [hw9]; exact hnew rfl
    have hn79 := hn8.trans hn89
    have hn59 := hn57.trans hn79
    have HRZ := hide (HRZ.out.nx hn79)
    have HRZ2 := hide (hRZ2.nx hn89)
    have HD7 := hide ((hn79.block p hp7).trans HD7.out)
    have HD9 := hide d9
    have HW9 := hide hw9
    clear hkn2 hG1 hG2 hRZ2 c0 c1 c2 hw9 d9 hn6 hn67 hn79 hp7
    obtain ⟨c0, c1, c2⟩ := HB5.out w8 (hn57.trans hn8)
    go_upto_region 6 with fail
    rw [← HW9.out]
    clear c0 c1 c2
    generalize w8.heap.size = q at *
    obtain ⟨c0, c1, c2⟩ := HB5.out w9 hn59
    go_wp2_with fail
    refine (HRF.out w9 hn59).mono ?_
    rintro e w10 ⟨rfl, hn10⟩
    have hn5x := hn59.trans hn10
    have HRZ := hide (HRZ.out.nx hn10)
    have HRZ2 := hide (HRZ2.out.nx hn10)
    have HD7 := hide ((hn10.block p (lt_of_heap HD7.out)).trans HD7.out)
    have HD9 := hide ((hn10.block q (lt_of_heap HD9.out)).trans HD9.out)
    clear c0 c1 c2 hn8 hn10 hn89 hn57 hn59 HRF HLA HW7 HW9
    -- the two ways, in any world behind
    have HP := hide (fun W (hx : Nx w10 W) => (⟨nx_cell hx (lt_of_heap HD7.out) ((cell_of_row w10 _ 0 _ _ _ HD7.out).trans rfl), nx_cell hx (lt_of_heap HD7.out) ((cell_of_row w10 _ 1 _ _ _ HD7.out).trans rfl), nx_cell hx (lt_of_heap HD7.out) ((cell_of_row w10 _ 2 _ _ _ HD7.out).trans rfl)⟩ : W.cell? ⟨p, 0, none⟩ = some (.slice Z nk cz) ∧ W.cell? ⟨p, 1, none⟩ = some (.int .i64 lv) ∧ W.cell? ⟨p, 2, none⟩ = some (.int .i64 ar)))
    have HQ := hide (fun W (hx : Nx w10 W) => (⟨nx_cell hx (lt_of_heap HD9.out) ((cell_of_row w10 _ 0 _ _ _ HD9.out).trans rfl), nx_cell hx (lt_of_heap HD9.out) ((cell_of_row w10 _ 1 _ _ _ HD9.out).trans rfl), nx_cell hx (lt_of_heap HD9.out) ((cell_of_row w10 _ 2 _ _ _ HD9.out).trans rfl)⟩ : W.cell? ⟨q, 0, none⟩ = some (.slice Z2 nk2 cz2) ∧ W.cell? ⟨q, 1, none⟩ = some (.int .i64 lv2) ∧ W.cell? ⟨q, 2, none⟩ = some (.int .i64 ar2)))
    clear HD7 HD9
    by_cases hF : RF = 0
    · have HEO := hide (HEO.out hF)
      subst hF
      have HC := hide (roads_ok hRF).2.1
      have HMF := hide (fun W => w_MomentFault ad W)
      have HO3 := hide (fun a b d g c W h => w_Or3 a b d g c W h)
      clear HEB hRF
      go_upto_region 8 with fail
      go_cut [14] (fun v wx => v = .int .i64 E ∧ Nx w10 wx)
      case first =>
        have HNF1 := hide (fun W hx => HNF.out fr W hx)
        have HNF2 := hide (fun W hx => HNF.out to_ W hx)
        refine wp_region_held_drew (S := fun w' => w'.cell? ⟨g, 0, none⟩ = some (.slice B0 nn ca) ∧ w'.cell? ⟨g, 1, none⟩ = some (.slice B1 nr cb) ∧ w'.cell? ⟨g, 2, none⟩ = some (.slice B2 nb cc)) (by kernel_rfl) ?_ (fun hHeld => ?_)
        · exact HB5.out _ hn5x.drew
        refine wpAnyH_take (i := 0) (oi := ⟨some 55, _, _, _, _, _⟩) (v := ?_) rfl (by kernel_rfl) (by kernel_rfl) (by kernel_rfl) (fun _ _ _ h => h) (Or.inl ⟨by rfl, ?_⟩) (by assumption) ?_
        rotate_left 1
        · intro w hSw
          (try dsimp only at hSw)
          go_simp
          try with_reducible rfl
        try simp only [Act.put, List.setIfInBounds_toArray, List.set_cons_zero, List.set_cons_succ]
        refine wpAnyH_take (i := 1) (oi := ⟨some 56, _, _, _, _, _⟩) (v := ?_) rfl (by kernel_rfl) (by kernel_rfl) (by kernel_rfl) (fun _ _ _ h => h) (Or.inl ⟨by rfl, ?_⟩) (by assumption) ?_
        rotate_left 1
        · intro w hSw
          (try dsimp only at hSw)
          go_simp
          try with_reducible rfl
        try simp only [Act.put, List.setIfInBounds_toArray, List.set_cons_zero, List.set_cons_succ]
        refine wpAnyH_take (i := 3) (oi := ⟨some 58, _, _, _, _, _⟩) (v := ?_) rfl (by kernel_rfl) (by kernel_rfl) (by kernel_rfl) (fun _ _ _ h => h) (Or.inl ⟨by rfl, ?_⟩) (by assumption) ?_
        rotate_left 1
        · intro w hSw
          (try dsimp only at hSw)
          go_simp
          try with_reducible rfl
        try simp only [Act.put, List.setIfInBounds_toArray, List.set_cons_zero, List.set_cons_succ]
        refine wpAnyH_take (i := 4) (oi := ⟨some 59, _, _, _, _, _⟩) (v := ?_) rfl (by kernel_rfl) (by kernel_rfl) (by kernel_rfl) (fun _ _ _ h => h) (Or.inl ⟨by rfl, ?_⟩) (by assumption) ?_
        rotate_left 1
        · intro w hSw
          (try dsimp only at hSw)
          go_simp
          try with_reducible rfl
        try simp only [Act.put, List.setIfInBounds_toArray, List.set_cons_zero, List.set_cons_succ]
        refine wpAnyH_take (i := 6) (oi := ⟨some 61, _, _, _, _, _⟩) (v := ?_) rfl (by kernel_rfl) (by kernel_rfl) (by kernel_rfl) (fun _ _ _ h => h) (Or.inl ⟨by rfl, ?_⟩) (by assumption) ?_
        rotate_left 1
        · intro w hSw
          (try dsimp only at hSw)
          go_simp
          try with_reducible rfl
        try simp only [Act.put, List.setIfInBounds_toArray, List.set_cons_zero, List.set_cons_succ]
        refine wpAnyH_ready (rs := [2]) (by kernel_rfl) (by simp) ?_
        refine AllReadyH.cons rfl (fun K hK => ?_) AllReadyH.nil
        go_simp
        go_at_call 30
        refine (HNF1.out _ hn5x.drew).mono ?_
        rintro e w11 ⟨rfl, hn11⟩
        have h11 : Nx w10 w11 := (Nx.refl _).drew.trans hn11
        go_simp
        refine hK.out _ _ (HB5.out _ (hn5x.trans h11)) (fun hHeld => ?_)
        clear hK K
        try simp only [Act.put, List.setIfInBounds_toArray, List.set_cons_zero, List.set_cons_succ]
        refine wpAnyH_ready (rs := [5]) (by kernel_rfl) (by simp) ?_
        refine AllReadyH.cons rfl (fun K hK => ?_) AllReadyH.nil
        go_simp
        go_at_call 30
        refine (HNF2.out _ (hn5x.trans h11)).mono ?_
        rintro e w12 ⟨rfl, hn12⟩
        have h12 : Nx w10 w12 := h11.trans hn12
        go_simp
        refine hK.out _ _ (HB5.out _ (hn5x.trans h12)) (fun hHeld => ?_)
        clear hK K
        try simp only [Act.put, List.setIfInBounds_toArray, List.set_cons_zero, List.set_cons_succ]
        refine wpAnyH_ready (rs := [7]) (by kernel_rfl) (by simp) ?_
        refine AllReadyH.cons rfl (fun K hK => ?_) AllReadyH.nil
        go_simp
        go_at_call 20
        refine (HMF.out _).mono ?_
        rintro e w' ⟨rfl, rfl⟩
        go_simp
        refine hK.out _ _ (HB5.out _ (hn5x.trans h12)) (fun hHeld => ?_)
        clear hK K
        try simp only [Act.put, List.setIfInBounds_toArray, List.set_cons_zero, List.set_cons_succ]
        refine wpAnyH_ready (rs := [8]) (by kernel_rfl) (by simp) ?_
        refine AllReadyH.cons rfl (fun K hK => ?_) AllReadyH.nil
        go_simp
        refine hK.out _ _ (HB5.out _ ((hn5x.trans h12).alloc _)) (fun hHeld => ?_)
        clear hK K
        try simp only [Act.put, List.setIfInBounds_toArray, List.set_cons_zero, List.set_cons_succ]
        refine wpAnyH_ready (rs := [9]) (by kernel_rfl) (by simp) ?_
        refine AllReadyH.cons rfl (fun K hK => ?_) AllReadyH.nil
        go_simp
        go_at_call 18
        refine (HO3.out _ _ _ _ _ _ (hnew rfl)).mono ?_
        rintro e w' ⟨rfl, rfl⟩
        go_simp
        refine hK.out _ _ (HB5.out _ ((hn5x.trans h12).alloc _)) (fun hHeld => ?_)
        clear hK K
        try simp only [Act.put, List.setIfInBounds_toArray, List.set_cons_zero, List.set_cons_succ]
        refine wpAnyH_take (i := 10) (oi := ⟨some 14, _, _, _, _, _⟩) (v := ?_) rfl (by kernel_rfl) (by kernel_rfl) (by kernel_rfl) (fun _ _ _ h => h) (Or.inl ⟨by rfl, ?_⟩) (by assumption) ?_
        rotate_left 1
        · intro w hSw
          (try dsimp only at hSw)
          go_simp
          try with_reducible rfl
        try simp only [Act.put, List.setIfInBounds_toArray, List.set_cons_zero, List.set_cons_succ]
        refine wpAnyH_done (by kernel_rfl) ?_ _
        go_wp2
        go_meet
        exact ⟨congrArg (Value.int .i64) (HEO.out trivial), h12.alloc _⟩
      case rest =>
        obtain ⟨rfl, hx⟩ := hcut
        have hn5y := hn5x.trans hx
        have HRZ := hide (HRZ.out.nx hx)
        have HRZ2 := hide (HRZ2.out.nx hx)
        clear HEO HMF HO3 HNF hn5x
        by_cases hE0 : E = 0
        · subst hE0
          obtain ⟨_, hf, ht, hm⟩ := HEK.out rfl
          have hmb := momB_true.1 hm
          have HMB := hide hmb
          obtain ⟨hi0, hi2⟩ := HF2.out rfl
          have HI2 := hide hi2
          have HG := hide (HG2.out rfl)
          have HAA := hide (fun t W (hx : Nx w5 W) hat => HAR.out t W hx HC.out hf ht hat)
          have HLL := hide (fun t W (hx : Nx w5 W) hat => HLV.out t W hx HC.out hf ht hat)
          have HWW := hide (fun W (hx : Nx w5 W) => HWR.out W hx HC.out)
          clear HAR HLV HWR HF1 HG1 HF2 HG2 HEK hf ht hm hi2 HC HVR hmb
          have hi1 : decide (arrG (gphOf ns rs bs) (nodeN ns fr) (nodeN ns to_) ad < 345686400000) = is := hi0.symm
          clear hi0
          generalize gphOf ns rs bs = G at *
          generalize nodeN ns fr = na at *
          generalize nodeN ns to_ = nz at *
          obtain ⟨V, hV⟩ : ∃ V, V = arrG G na nz ad := ⟨_, rfl⟩
          rw [← hV] at hi1 HI2
          have HV := hide hV
          have HI1 := hide hi1
          clear hV hi1
          go_upto_region 11 with fail
          go_cut [15, 16] (fun va vl wx => ∃ L : Int, va = .int .i64 V ∧ vl = .int .i64 L ∧ LeaveOk G na nz ad L ∧ Nx wc wx)
          case first =>
            refine wp_region_held_drew (S := fun w' => w'.cell? ⟨g, 0, none⟩ = some (.slice B0 nn ca) ∧ w'.cell? ⟨g, 1, none⟩ = some (.slice B1 nr cb) ∧ w'.cell? ⟨g, 2, none⟩ = some (.slice B2 nb cc)) (by kernel_rfl) ?_ (fun hHeld => ?_)
            · exact HB5.out _ hn5y.drew
            refine wpAnyH_take (i := 0) (oi := ⟨some 96, _, _, _, _, _⟩) (v := ?_) rfl (by kernel_rfl) (by kernel_rfl) (by kernel_rfl) (fun _ _ _ h => h) (Or.inl ⟨by rfl, ?_⟩) (by assumption) ?_
            rotate_left 1
            · intro w hSw
              (try dsimp only at hSw)
              go_simp
              try with_reducible rfl
            try simp only [Act.put, List.setIfInBounds_toArray, List.set_cons_zero, List.set_cons_succ]
            refine wpAnyH_take (i := 1) (oi := ⟨some 97, _, _, _, _, _⟩) (v := ?_) rfl (by kernel_rfl) (by kernel_rfl) (by kernel_rfl) (fun _ _ _ h => h) (Or.inl ⟨by rfl, ?_⟩) (by assumption) ?_
            rotate_left 1
            · intro w hSw
              (try dsimp only at hSw)
              go_simp
              try with_reducible rfl
            try simp only [Act.put, List.setIfInBounds_toArray, List.set_cons_zero, List.set_cons_succ]
            refine wpAnyH_take (i := 2) (oi := ⟨some 98, _, _, _, _, _⟩) (v := ?_) rfl (by kernel_rfl) (by kernel_rfl) (by kernel_rfl) (fun _ _ _ h => h) (Or.inl ⟨by rfl, ?_⟩) (by assumption) ?_
            rotate_left 1
            · intro w hSw
              (try dsimp only at hSw)
              go_simp
              try with_reducible rfl
            try simp only [Act.put, List.setIfInBounds_toArray, List.set_cons_zero, List.set_cons_succ]
            refine wpAnyH_take (i := 3) (oi := ⟨some 99, _, _, _, _, _⟩) (v := ?_) rfl (by kernel_rfl) (by kernel_rfl) (by kernel_rfl) (fun _ _ _ h => h) (Or.inl ⟨by rfl, ?_⟩) (by assumption) ?_
            rotate_left 1
            · intro w hSw
              (try dsimp only at hSw)
              go_simp
              try with_reducible rfl
            try simp only [Act.put, List.setIfInBounds_toArray, List.set_cons_zero, List.set_cons_succ]
            refine wpAnyH_take (i := 5) (oi := ⟨some 101, _, _, _, _, _⟩) (v := ?_) rfl (by kernel_rfl) (by kernel_rfl) (by kernel_rfl) (fun _ _ _ h => h) (Or.inl ⟨by rfl, ?_⟩) (by assumption) ?_
            rotate_left 1
            · intro w hSw
              (try dsimp only at hSw)
              go_simp
              try with_reducible rfl
            try simp only [Act.put, List.setIfInBounds_toArray, List.set_cons_zero, List.set_cons_succ]
            refine wpAnyH_take (i := 6) (oi := ⟨some 102, _, _, _, _, _⟩) (v := ?_) rfl (by kernel_rfl) (by kernel_rfl) (by kernel_rfl) (fun _ _ _ h => h) (Or.inl ⟨by rfl, ?_⟩) (by assumption) ?_
            rotate_left 1
            · intro w hSw
              (try dsimp only at hSw)
              go_simp
              try with_reducible rfl
            try simp only [Act.put, List.setIfInBounds_toArray, List.set_cons_zero, List.set_cons_succ]
            refine wpAnyH_take (i := 7) (oi := ⟨some 103, _, _, _, _, _⟩) (v := ?_) rfl (by kernel_rfl) (by kernel_rfl) (by kernel_rfl) (fun _ _ _ h => h) (Or.inl ⟨by rfl, ?_⟩) (by assumption) ?_
            rotate_left 1
            · intro w hSw
              (try dsimp only at hSw)
              go_simp
              try with_reducible rfl
            try simp only [Act.put, List.setIfInBounds_toArray, List.set_cons_zero, List.set_cons_succ]
            refine wpAnyH_take (i := 8) (oi := ⟨some 104, _, _, _, _, _⟩) (v := ?_) rfl (by kernel_rfl) (by kernel_rfl) (by kernel_rfl) (fun _ _ _ h => h) (Or.inl ⟨by rfl, ?_⟩) (by assumption) ?_
            rotate_left 1
            · intro w hSw
              (try dsimp only at hSw)
              go_simp
              try with_reducible rfl
            try simp only [Act.put, List.setIfInBounds_toArray, List.set_cons_zero, List.set_cons_succ]
            refine wpAnyH_ready (rs := [4]) (by kernel_rfl) (by simp) ?_
            refine AllReadyH.cons rfl (fun K hK => ?_) AllReadyH.nil
            go_simp
            go_at_call 32
            refine (HAA.out ad _ hn5y.drew HMB.out).mono ?_
            rintro e w11 ⟨rfl, hn11⟩
            have h11 : Nx wc w11 := (Nx.refl _).drew.trans hn11
            go_simp
            refine hK.out _ _ (HB5.out _ (hn5y.trans h11)) (fun hHeld => ?_)
            clear hK K
            try simp only [Act.put, List.setIfInBounds_toArray, List.set_cons_zero, List.set_cons_succ]
            refine wpAnyH_ready (rs := [9]) (by kernel_rfl) (by simp) ?_
            refine AllReadyH.cons rfl (fun K hK => ?_) AllReadyH.nil
            go_simp
            go_at_call 33
            refine (HLL.out ad _ (hn5y.trans h11) HMB.out).mono ?_
            rintro e w12 ⟨L, rfl, hLv, hn12⟩
            have h12 : Nx wc w12 := h11.trans hn12
            have HLv := hide hLv
            clear hLv
            go_simp
            refine hK.out _ _ (HB5.out _ (hn5y.trans h12)) (fun hHeld => ?_)
            clear hK K
            try simp only [Act.put, List.setIfInBounds_toArray, List.set_cons_zero, List.set_cons_succ]
            refine wpAnyH_take (i := 10) (oi := ⟨some 15, _, _, _, _, _⟩) (v := ?_) rfl (by kernel_rfl) (by kernel_rfl) (by kernel_rfl) (fun _ _ _ h => h) (Or.inl ⟨by rfl, ?_⟩) (by assumption) ?_
            rotate_left 1
            · intro w hSw
              (try dsimp only at hSw)
              go_simp
              try with_reducible rfl
            try simp only [Act.put, List.setIfInBounds_toArray, List.set_cons_zero, List.set_cons_succ]
            refine wpAnyH_take (i := 11) (oi := ⟨some 16, _, _, _, _, _⟩) (v := ?_) rfl (by kernel_rfl) (by kernel_rfl) (by kernel_rfl) (fun _ _ _ h => h) (Or.inl ⟨by rfl, ?_⟩) (by assumption) ?_
            rotate_left 1
            · intro w hSw
              (try dsimp only at hSw)
              go_simp
              try with_reducible rfl
            try simp only [Act.put, List.setIfInBounds_toArray, List.set_cons_zero, List.set_cons_succ]
            refine wpAnyH_done (by kernel_rfl) ?_ _
            go_wp2
            go_meet
            exact ⟨L, by rw [HV.out], rfl, HLv.out, h12⟩
          case rest =>
            obtain ⟨L, rfl, rfl, hLv, hx2⟩ := hcut
            have hn5z := hn5y.trans hx2
            have hx10 := hx.trans hx2
            have HRZ := hide (HRZ.out.nx hx2)
            have HRZ2 := hide (HRZ2.out.nx hx2)
            obtain ⟨hj0, hj2⟩ := HG.out L hLv
            have HJ2 := hide hj2
            have hi1 := HI1.out
            have hj1 : decide (0 ≤ L) = is2 := hj0.symm
            have hj1' : decide (L ≥ 0) = is2 := hj0.symm
            clear hj0 hj2 hLv HG HLL hn5y hx hx2
            obtain ⟨wd, hwd⟩ : ∃ wd, wd = wc := ⟨_, rfl⟩
            subst hwd
            go_upto_region 14 with fail
            clear hi1 hj1 hj1' HI1
            go_cut [144] (fun v wx => v = .bool false ∧ Nx wd wx)
            case first =>
              cases is
              · go_wp2_with fail
                go_meet
                exact ⟨rfl, Nx.refl _⟩
              · obtain ⟨rfl, rfl, hW⟩ := HI2.out rfl
                have hR := HWW.out wd hn5z keys 0 Z cz lv ar HRZ.out hW HMB.out
                rw [HKN.out] at hR
                have HR := hide hR
                clear hR hW HI2
                obtain ⟨c0, c1, c2⟩ := HB5.out wd hn5z
                obtain ⟨x0, x1, x2⟩ := HP.out wd hx10
                have t1 : (lv != lv) = false := by simp
                have t2 : (ar != ar) = false := by simp
                go_wp2_with fail
                refine HR.out.mono ?_
                rintro e w12 ⟨rfl, hn12⟩
                go_wp2_with fail
                go_meet
                exact ⟨rfl, hn12⟩
            case rest =>
              obtain ⟨rfl, hx2⟩ := hcut
              have hn5u := hn5z.trans hx2
              have hx11 := hx10.trans hx2
              have HRZ := hide (HRZ.out.nx hx2)
              have HRZ2 := hide (HRZ2.out.nx hx2)
              obtain ⟨we, hwe⟩ : ∃ we, we = wc := ⟨_, rfl⟩
              subst hwe
              clear hn5z hx10 hx2 HI2
              go_upto_region 16 with fail
              go_cut [169] (fun v wx => v = .bool false ∧ Nx we wx)
              case first =>
                obtain ⟨c0, c1, c2⟩ := HB5.out we hn5u
                obtain ⟨y0, y1, y2⟩ := HQ.out we hx11
                cases is2
                · go_quiet (fail)
                  go_wp2
                  go_meet
                  exact ⟨rfl, (Nx.refl _).drewN _⟩
                · obtain ⟨rfl, hL0, hL1, rfl, hW⟩ := HJ2.out rfl
                  have hmb := HMB.out
                  have HA2 := hide (fun W (hx : Nx w5 W) => HAA.out lv2 W hx ⟨hL0, by omega⟩)
                  have HR := hide (fun W (hx : Nx w5 W) (hx2 : Nx we W) => HWW.out W hx keys2 0 Z2 cz2 lv2 _ (HRZ2.out.nx hx2) hW ⟨hL0, by omega⟩)
                  rw [HKN2.out] at HR
                  clear hW HJ2 hL0 hL1 hmb HAA HWW c0 c1 c2 y0 y1 y2
                  generalize arrG G na nz lv2 = ar2 at *
                  refine wp_region_held_drew (S := fun w' => (w'.cell? ⟨g, 0, none⟩ = some (.slice B0 nn ca) ∧ w'.cell? ⟨g, 1, none⟩ = some (.slice B1 nr cb) ∧ w'.cell? ⟨g, 2, none⟩ = some (.slice B2 nb cc)) ∧ (w'.cell? ⟨q, 0, none⟩ = some (.slice Z2 nk2 cz2) ∧ w'.cell? ⟨q, 1, none⟩ = some (.int .i64 lv2) ∧ w'.cell? ⟨q, 2, none⟩ = some (.int .i64 ar2))) (by kernel_rfl) ?_ (fun hHeld => ?_)
                  · exact ⟨HB5.out _ hn5u.drew, HQ.out _ hx11.drew⟩
                  refine wpAnyH_take (i := 0) (oi := ⟨some 145, _, _, _, _, _⟩) (v := ?_) rfl (by kernel_rfl) (by kernel_rfl) (by kernel_rfl) (fun _ _ _ h => h) (Or.inl ⟨by rfl, ?_⟩) (by assumption) ?_
                  rotate_left 1
                  · intro w hSw
                    (try dsimp only at hSw)
                    go_simp
                    try with_reducible rfl
                  try simp only [Act.put, List.setIfInBounds_toArray, List.set_cons_zero, List.set_cons_succ]
                  refine wpAnyH_take (i := 1) (oi := ⟨some 146, _, _, _, _, _⟩) (v := ?_) rfl (by kernel_rfl) (by kernel_rfl) (by kernel_rfl) (fun _ _ _ h => h) (Or.inl ⟨by rfl, ?_⟩) (by assumption) ?_
                  rotate_left 1
                  · intro w hSw
                    (try dsimp only at hSw)
                    go_simp
                    try with_reducible rfl
                  try simp only [Act.put, List.setIfInBounds_toArray, List.set_cons_zero, List.set_cons_succ]
                  refine wpAnyH_take (i := 2) (oi := ⟨some 147, _, _, _, _, _⟩) (v := ?_) rfl (by kernel_rfl) (by kernel_rfl) (by kernel_rfl) (fun _ _ _ h => h) (Or.inl ⟨by rfl, ?_⟩) (by assumption) ?_
                  rotate_left 1
                  · intro w hSw
                    (try dsimp only at hSw)
                    go_simp
                    try with_reducible rfl
                  try simp only [Act.put, List.setIfInBounds_toArray, List.set_cons_zero, List.set_cons_succ]
                  refine wpAnyH_take (i := 3) (oi := ⟨some 148, _, _, _, _, _⟩) (v := ?_) rfl (by kernel_rfl) (by kernel_rfl) (by kernel_rfl) (fun _ _ _ h => h) (Or.inl ⟨by rfl, ?_⟩) (by assumption) ?_
                  rotate_left 1
                  · intro w hSw
                    (try dsimp only at hSw)
                    go_simp
                    try with_reducible rfl
                  try simp only [Act.put, List.setIfInBounds_toArray, List.set_cons_zero, List.set_cons_succ]
                  refine wpAnyH_take (i := 4) (oi := ⟨some 149, _, _, _, _, _⟩) (v := ?_) rfl (by kernel_rfl) (by kernel_rfl) (by kernel_rfl) (fun _ _ _ h => h) (Or.inl ⟨by rfl, ?_⟩) (by assumption) ?_
                  rotate_left 1
                  · intro w hSw
                    (try dsimp only at hSw)
                    go_simp
                    try with_reducible rfl
                  try simp only [Act.put, List.setIfInBounds_toArray, List.set_cons_zero, List.set_cons_succ]
                  refine wpAnyH_take (i := 5) (oi := ⟨some 150, _, _, _, _, _⟩) (v := ?_) rfl (by kernel_rfl) (by kernel_rfl) (by kernel_rfl) (fun _ _ _ h => h) (Or.inl ⟨by rfl, ?_⟩) (by assumption) ?_
                  rotate_left 1
                  · intro w hSw
                    (try dsimp only at hSw)
                    go_simp
                    try with_reducible rfl
                  try simp only [Act.put, List.setIfInBounds_toArray, List.set_cons_zero, List.set_cons_succ]
                  refine wpAnyH_take (i := 6) (oi := ⟨some 151, _, _, _, _, _⟩) (v := ?_) rfl (by kernel_rfl) (by kernel_rfl) (by kernel_rfl) (fun _ _ _ h => h) (Or.inl ⟨by rfl, ?_⟩) (by assumption) ?_
                  rotate_left 1
                  · intro w hSw
                    (try dsimp only at hSw)
                    go_simp
                    try with_reducible rfl
                  try simp only [Act.put, List.setIfInBounds_toArray, List.set_cons_zero, List.set_cons_succ]
                  refine wpAnyH_take (i := 7) (oi := ⟨some 152, _, _, _, _, _⟩) (v := ?_) rfl (by kernel_rfl) (by kernel_rfl) (by kernel_rfl) (fun _ _ _ h => h) (Or.inl ⟨by rfl, ?_⟩) (by assumption) ?_
                  rotate_left 1
                  · intro w hSw
                    (try dsimp only at hSw)
                    go_simp
                    try with_reducible rfl
                  try simp only [Act.put, List.setIfInBounds_toArray, List.set_cons_zero, List.set_cons_succ]
                  refine wpAnyH_take (i := 8) (oi := ⟨some 153, _, _, _, _, _⟩) (v := ?_) rfl (by kernel_rfl) (by kernel_rfl) (by kernel_rfl) (fun _ _ _ h => h) (Or.inl ⟨by rfl, ?_⟩) (by assumption) ?_
                  rotate_left 1
                  · intro w hSw
                    (try dsimp only at hSw)
                    go_simp
                    try with_reducible rfl
                  try simp only [Act.put, List.setIfInBounds_toArray, List.set_cons_zero, List.set_cons_succ]
                  refine wpAnyH_take (i := 9) (oi := ⟨some 154, _, _, _, _, _⟩) (v := ?_) rfl (by kernel_rfl) (by kernel_rfl) (by kernel_rfl) (fun _ _ _ h => h) (Or.inl ⟨by rfl, ?_⟩) (by assumption) ?_
                  rotate_left 1
                  · intro w hSw
                    (try dsimp only at hSw)
                    go_simp
                    try with_reducible rfl
                  try simp only [Act.put, List.setIfInBounds_toArray, List.set_cons_zero, List.set_cons_succ]
                  refine wpAnyH_take (i := 10) (oi := ⟨some 155, _, _, _, _, _⟩) (v := ?_) rfl (by kernel_rfl) (by kernel_rfl) (by kernel_rfl) (fun _ _ _ h => h) (Or.inl ⟨by rfl, ?_⟩) (by assumption) ?_
                  rotate_left 1
                  · intro w hSw
                    (try dsimp only at hSw)
                    go_simp
                    try with_reducible rfl
                  try simp only [Act.put, List.setIfInBounds_toArray, List.set_cons_zero, List.set_cons_succ]
                  refine wpAnyH_take (i := 11) (oi := ⟨some 156, _, _, _, _, _⟩) (v := ?_) rfl (by kernel_rfl) (by kernel_rfl) (by kernel_rfl) (fun _ _ _ h => h) (Or.inl ⟨by rfl, ?_⟩) (by assumption) ?_
                  rotate_left 1
                  · intro w hSw
                    (try dsimp only at hSw)
                    go_simp
                    try with_reducible rfl
                  try simp only [Act.put, List.setIfInBounds_toArray, List.set_cons_zero, List.set_cons_succ]
                  refine wpAnyH_take (i := 12) (oi := ⟨some 157, _, _, _, _, _⟩) (v := ?_) rfl (by kernel_rfl) (by kernel_rfl) (by kernel_rfl) (fun _ _ _ h => h) (Or.inl ⟨by rfl, ?_⟩) (by assumption) ?_
                  rotate_left 1
                  · intro w hSw
                    (try dsimp only at hSw)
                    go_simp
                    try with_reducible rfl
                  try simp only [Act.put, List.setIfInBounds_toArray, List.set_cons_zero, List.set_cons_succ]
                  refine wpAnyH_ready (rs := [13]) (by kernel_rfl) (by simp) ?_
                  refine AllReadyH.cons rfl (fun K hK => ?_) AllReadyH.nil
                  go_simp
                  go_at_call 32
                  refine (HA2.out _ hn5u.drew).mono ?_
                  rintro e w11 ⟨rfl, hn11⟩
                  have h11 : Nx we w11 := (Nx.refl _).drew.trans hn11
                  go_simp
                  refine hK.out _ _ (⟨HB5.out _ (hn5u.trans h11), HQ.out _ (hx11.trans h11)⟩) (fun hHeld => ?_)
                  clear hK K
                  try simp only [Act.put, List.setIfInBounds_toArray, List.set_cons_zero, List.set_cons_succ]
                  refine wpAnyH_take (i := 14) (oi := ⟨some 159, _, _, _, _, _⟩) (v := ?_) rfl (by kernel_rfl) (by kernel_rfl) (by kernel_rfl) (fun _ _ _ h => h) (Or.inl ⟨by rfl, ?_⟩) (by assumption) ?_
                  rotate_left 1
                  · intro w hSw
                    (try dsimp only at hSw)
                    go_simp
                    try with_reducible rfl
                  try simp only [Act.put, List.setIfInBounds_toArray, List.set_cons_zero, List.set_cons_succ]
                  refine wpAnyH_take (i := 15) (oi := ⟨some 160, _, _, _, _, _⟩) (v := ?_) rfl (by kernel_rfl) (by kernel_rfl) (by kernel_rfl) (fun _ _ _ h => h) (Or.inl ⟨by rfl, ?_⟩) (by assumption) ?_
                  rotate_left 1
                  · intro w hSw
                    (try dsimp only at hSw)
                    go_simp
                    try with_reducible rfl
                  try simp only [Act.put, List.setIfInBounds_toArray, List.set_cons_zero, List.set_cons_succ]
                  refine wpAnyH_take (i := 16) (oi := ⟨some 161, _, _, _, _, _⟩) (v := ?_) rfl (by kernel_rfl) (by kernel_rfl) (by kernel_rfl) (fun _ _ _ h => h) (Or.inl ⟨by rfl, ?_⟩) (by assumption) ?_
                  rotate_left 1
                  · intro w hSw
                    (try dsimp only at hSw)
                    go_simp
                    try with_reducible rfl
                  try simp only [Act.put, List.setIfInBounds_toArray, List.set_cons_zero, List.set_cons_succ]
                  refine wpAnyH_take (i := 17) (oi := ⟨some 162, _, _, _, _, _⟩) (v := ?_) rfl (by kernel_rfl) (by kernel_rfl) (by kernel_rfl) (fun _ _ _ h => h) (Or.inl ⟨by rfl, ?_⟩) (by assumption) ?_
                  rotate_left 1
                  · intro w hSw
                    (try dsimp only at hSw)
                    go_simp
                    try with_reducible rfl
                  try simp only [Act.put, List.setIfInBounds_toArray, List.set_cons_zero, List.set_cons_succ]
                  refine wpAnyH_take (i := 18) (oi := ⟨some 163, _, _, _, _, _⟩) (v := ?_) rfl (by kernel_rfl) (by kernel_rfl) (by kernel_rfl) (fun _ _ _ h => h) (Or.inl ⟨by rfl, ?_⟩) (by assumption) ?_
                  rotate_left 1
                  · intro w hSw
                    (try dsimp only at hSw)
                    go_simp
                    try with_reducible rfl
                  try simp only [Act.put, List.setIfInBounds_toArray, List.set_cons_zero, List.set_cons_succ]
                  refine wpAnyH_take (i := 19) (oi := ⟨some 164, _, _, _, _, _⟩) (v := ?_) rfl (by kernel_rfl) (by kernel_rfl) (by kernel_rfl) (fun _ _ _ h => h) (Or.inl ⟨by rfl, ?_⟩) (by assumption) ?_
                  rotate_left 1
                  · intro w hSw
                    (try dsimp only at hSw)
                    go_simp
                    try with_reducible rfl
                  try simp only [Act.put, List.setIfInBounds_toArray, List.set_cons_zero, List.set_cons_succ]
                  refine wpAnyH_take (i := 20) (oi := ⟨some 165, _, _, _, _, _⟩) (v := ?_) rfl (by kernel_rfl) (by kernel_rfl) (by kernel_rfl) (fun _ _ _ h => h) (Or.inl ⟨by rfl, ?_⟩) (by assumption) ?_
                  rotate_left 1
                  · intro w hSw
                    (try dsimp only at hSw)
                    go_simp
                    try with_reducible rfl
                  try simp only [Act.put, List.setIfInBounds_toArray, List.set_cons_zero, List.set_cons_succ]
                  refine wpAnyH_ready (rs := [21]) (by kernel_rfl) (by simp) ?_
                  refine AllReadyH.cons rfl (fun K hK => ?_) AllReadyH.nil
                  go_simp
                  go_at_call 34
                  refine (HR.out _ (hn5u.trans h11) h11).mono ?_
                  rintro e w12 ⟨rfl, hn12⟩
                  have h12 : Nx we w12 := h11.trans hn12
                  go_simp
                  refine hK.out _ _ (⟨HB5.out _ (hn5u.trans h12), HQ.out _ (hx11.trans h12)⟩) (fun hHeld => ?_)
                  clear hK K
                  try simp only [Act.put, List.setIfInBounds_toArray, List.set_cons_zero, List.set_cons_succ]
                  refine wpAnyH_take (i := 22) (oi := ⟨some 167, _, _, _, _, _⟩) (v := ?_) rfl (by kernel_rfl) (by kernel_rfl) (by kernel_rfl) (fun _ _ _ h => h) (Or.inl ⟨by rfl, ?_⟩) (by assumption) ?_
                  rotate_left 1
                  · intro w hSw
                    (try dsimp only at hSw)
                    go_simp
                    try with_reducible rfl
                  try simp only [Act.put, List.setIfInBounds_toArray, List.set_cons_zero, List.set_cons_succ]
                  refine wpAnyH_take (i := 23) (oi := ⟨some 168, _, _, _, _, _⟩) (v := ?_) rfl (by kernel_rfl) (by kernel_rfl) (by kernel_rfl) (fun _ _ _ h => h) (Or.inl ⟨by rfl, ?_⟩) (by assumption) ?_
                  rotate_left 1
                  · intro w hSw
                    (try dsimp only at hSw)
                    go_simp
                    try with_reducible rfl
                  try simp only [Act.put, List.setIfInBounds_toArray, List.set_cons_zero, List.set_cons_succ]
                  refine wpAnyH_take (i := 24) (oi := ⟨some 169, _, _, _, _, _⟩) (v := ?_) rfl (by kernel_rfl) (by kernel_rfl) (by kernel_rfl) (fun _ _ _ h => h) (Or.inl ⟨by rfl, ?_⟩) (by assumption) ?_
                  rotate_left 1
                  · intro w hSw
                    (try dsimp only at hSw)
                    go_simp
                    try with_reducible rfl
                  try simp only [Act.put, List.setIfInBounds_toArray, List.set_cons_zero, List.set_cons_succ]
                  refine wpAnyH_done (by kernel_rfl) ?_ _
                  go_wp2
                  go_meet
                  exact ⟨rfl, h12⟩
              case rest =>
                obtain ⟨rfl, hx2⟩ := hcut
                have hn5v := hn5u.trans hx2
                have hx12 := hx11.trans hx2
                have HRZ := hide (HRZ.out.nx hx2)
                clear hn5u hx11 hx2 HRZ2 HJ2 HAA HWW HQ
                obtain ⟨c0, c1, c2⟩ := HB5.out wc hn5v
                go_wp2_with fail
                refine (HFA.out wc hn5v).mono ?_
                rintro e w13 ⟨Z3, c3, rfl, hRZ3, hn13⟩
                obtain ⟨w14, hw14⟩ : ∃ w14, w14 = w13.alloc (.cells #[.slice Z3 nk c3, .int .i64 lv, .int .i64 ar] 62) := ⟨_, rfl⟩
                have hn134 : Nx w13 w14 := hw14 ▸ (Nx.refl w13).alloc _
                have d14 : w14.heap[w13.heap.size]? = some (.cells #[.slice Z3 nk c3, .int .i64 lv, .int .i64 ar] 62 (0, 0)) := by rw [hw14]; exact hnew rfl
                have hn14 := hn13.trans hn134
                have z0 : w14.cell? ⟨w13.heap.size, 0, none⟩ = some (.slice Z3 nk c3) := (cell_of_row w14 _ 0 _ _ _ d14).trans rfl
                obtain ⟨x0, x1, x2⟩ := HP.out w14 (hx12.trans hn14)
                have HEQ := hide (w_EqualSS 0 0 Z3 Z c3 cz keys w14 (hRZ3.nx hn134) (HRZ.out.nx hn14) (by have := HKN.out; have := HKL.out; omega))
                rw [HKN.out] at HEQ
                have HW14 := hide hw14
                clear c0 c1 c2 hw14 d14 hRZ3
                go_upto_region 19 with fail
                rw [← HW14.out]
                generalize w13.heap.size = p3 at *
                go_wp2_with fail
                refine HEQ.out.mono ?_
                rintro e w15 ⟨rfl, hn15⟩
                go_wp2_with fail
                refine (w_driven _).mono ?_
                rintro e w16 ⟨rfl, hn16⟩
                go_wp2_with fail
                go_ret
                exact ⟨rfl, HT.out _ (((hn5v.trans hn14).trans hn15).trans hn16)⟩
        · obtain ⟨rfl, rfl⟩ := HF1.out hE0
          obtain ⟨rfl, rfl⟩ := HG1.out hE0
          have tF : (E != 0) = true := by simpa using hE0
          have tF2 : (E == 0) = false := by simpa using hE0
          have t1 : (E == E) = true := by simp
          obtain ⟨x0, x1, x2⟩ := HP.out _ hx
          obtain ⟨y0, y1, y2⟩ := HQ.out _ hx
          clear hE0 HF1 HG1 HF2 HG2 HEK
          go_wp2_with (go_at_call 31; refine (w_driven _).mono ?_; rintro e w12 ⟨rfl, hn12⟩)
          go_ret
          exact ⟨rfl, HT.out _ (hn5y.trans hn12)⟩
    · have hEB := HEB.out hF
      have hE0 : E ≠ 0 := by rw [hEB]; exact hF
      obtain ⟨rfl, rfl⟩ := HF1.out hE0
      obtain ⟨rfl, rfl⟩ := HG1.out hE0
      subst hEB
      have tF : (E != 0) = true := by simpa using hE0
      have tF2 : (E == 0) = false := by simpa using hE0
      have t1 : (E == E) = true := by simp
      obtain ⟨x0, x1, x2⟩ := HP.out w10 (Nx.refl _)
      obtain ⟨y0, y1, y2⟩ := HQ.out w10 (Nx.refl _)
      clear hE0 hF HF1 HG1 HF2 HG2 HEO HEB HEK hRF
      go_wp2_with (go_at_call 31; refine (w_driven _).mono ?_; rintro e w12 ⟨rfl, hn12⟩)
      go_ret
      exact ⟨rfl, HT.out _ (hn5x.trans hn12)⟩
end Go.Proofs.YtklgknepamebdaaGreatDoor
