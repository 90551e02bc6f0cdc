/- jitkeep1.MoreSitesCoverMore returns true. -/
import Derived.Test.YtmpnilliichpfaaGreatDoorQRdsR
import Derived.Test.YtmpnilliichpfaaGreatDoorQG32
import Derived.Test.YtmpnilliichpfaaGreatDoorQMoreS
import Derived.Test.YtmpnilliichpfaaGreatDoorQG13
import Derived.Test.YtmpnilliichpfaaGreatDoorQWeights
import Derived.Test.YtmpnilliichpfaaGreatDoorQG14
import Derived.Test.YtmpnilliichpfaaGreatDoorQChoP
import Derived.Test.YtmpnilliichpfaaGreatDoorQG22
import Derived.Test.YtmpnilliichpfaaGreatDoorQReady
import Derived.Deep.DeepMust
import Derived.Deep.DeepCutAuto
namespace Go.Proofs.YtmpnilliichpfaaGreatDoor
open Go.RowKit

theorem el_SM : ElemOf Tryz.prog 32 9 1 16 := ElemOf.mk' (z := .string ByteArray.empty) Tryz.underlying32 (by kernel_rfl) rfl
set_option maxRecDepth 100000 in
set_option maxHeartbeats 8000000 in
theorem w_lawMS (A : Option Addr) (n c : Nat) (w : World) (hn : n ≤ 9223372036854775807)
    (hL : 0 < n → ∃ b off, A = some ⟨b, off, none⟩ ∧ b < w.heap.size ∧ ∀ j, j < n → ∃ z : Int, w.cell? ⟨b, off + j, none⟩ = some (.int .i64 z) ∧ -9223372036854775808 ≤ z ∧ z ≤ 9223372036854775807) :
    Calls Tryz.prog 8 #[.slice A n c] w (TrueNx w) := by
  have hS0 : Str (w.alloc (.cells #[.slice A n c, .int .i64 0] 25)) w.heap.size 0 := str_new A n c w hn hL
  clear hL
  go_enter Tryz.func8, Tryz.ntmps8
  go_wp2_with fail
  refine (w_RightRoads _ 0 _ hS0 (by omega)).mono ?_
  rintro e w1 ⟨vN, vA, vB, ns, rs, bs, rfl, hown, hn0, hn5, hr10, hb101, hg1, hS1⟩
  have hsz : (w.alloc (.cells #[.slice A n c, .int .i64 0] 25)).heap.size = w.heap.size + 1 := by simp
  rw [hsz] at hown
  have hz1 := hg1.sz
  rw [hsz] at hz1
  have hg01 : Gr w.heap.size w w1 := (Gr.of_nx ((Nx.refl w).alloc _)).trans hg1
  clear hg1 hS0
  have hsmN := hown.smN
  obtain ⟨B0, B1, B2, ca, cb, cc, e1, e2, e3, hRN, hRA, hRB⟩ := hown.rd
  subst e1 e2 e3
  clear hown
  obtain ⟨w2, hw2⟩ : ∃ w2, w2 = w1.alloc (.cells #[.slice B0 ns.length ca, .slice B1 rs.length cb, .slice B2 bs.length cc] 30) := ⟨_, rfl⟩
  have hn2 : Nx w1 w2 := hw2 ▸ (Nx.refl w1).alloc _
  have hs2 : w1.heap.size < w2.heap.size := by rw [hw2]; simp
  have b0 : w2.cell? ⟨w1.heap.size, 0, none⟩ = some (.slice B0 ns.length ca) := by rw [hw2]; go_simp
  have b1 : w2.cell? ⟨w1.heap.size, 1, none⟩ = some (.slice B1 rs.length cb) := by rw [hw2]; go_simp
  have b2 : w2.cell? ⟨w1.heap.size, 2, none⟩ = some (.slice B2 bs.length cc) := by rw [hw2]; go_simp
  have hg02 := hg01.then_nx hn2
  have hS2 := hS1.nx hn2
  obtain ⟨nb, noff, eN, hnlo, hnb, hnbr, hnc⟩ := (hRN.nx hn2).open_ (Nx.refl w2) hn0
  subst eN
  have nk : ∀ j, j < ns.length → w2.cell? ⟨nb, noff + j * 3, none⟩ = some (.string (ns.getD j default).key) := fun j hj => by
    rw [List.getD_eq_getElem?_getD, List.getElem?_eq_getElem hj]
    exact hnc j hj 0 _ rfl
  clear hnc
  have HRN := hide (hRN.nx hn2)
  have HRA := hide (hRA.nx hn2)
  have HRB := hide (hRB.nx hn2)
  have HSN := hide hsmN
  clear hRN hRA hRB hsmN hg01 hS1
  go_upto_region 3 with fail
  rw [← hw2]
  have HW2 := hide hw2
  clear hw2
  have hgs : w.heap.size < w1.heap.size := by omega
  generalize w1.heap.size = g at *
  have hlos : w.heap.size < w.heap.size + 1 := by omega
  have HRD := hide (fun W (hg : Gr w.heap.size w2 W) => (⟨HRN.out.gr hg hlos, ⟨HRA.out.1.gr hg hlos, fun x hx => ⟨(HRA.out.2 x hx).1.gr hg hlos, (HRA.out.2 x hx).2⟩⟩, HRB.out.gr hg hlos⟩ : Rd W (w.heap.size + 1) (some ⟨nb, noff, none⟩) 3 encNode ns ∧ RdArcs W (w.heap.size + 1) B1 rs ∧ Rd W (w.heap.size + 1) B2 2 encBan bs))
  have HBX := hide (fun W (hg : Gr w.heap.size w2 W) => (⟨World.grownBy.cell (row := some w.heap.size) hg b0 (by simp; omega), World.grownBy.cell (row := some w.heap.size) hg b1 (by simp; omega), World.grownBy.cell (row := some w.heap.size) hg b2 (by simp; omega)⟩ : W.cell? ⟨g, 0, none⟩ = some (.slice (some ⟨nb, noff, none⟩) ns.length ca) ∧ W.cell? ⟨g, 1, none⟩ = some (.slice B1 rs.length cb) ∧ W.cell? ⟨g, 2, none⟩ = some (.slice B2 bs.length cc)))
  have HNK := hide (fun W (hg : Gr w.heap.size w2 W) j (hj : j < ns.length) => (World.grownBy.cell (row := some w.heap.size) hg (nk j hj) (by simp; omega) : W.cell? ⟨nb, noff + j * 3, none⟩ = some (.string (ns.getD j default).key)))
  have hlow2 : w.heap.size + 1 ≤ w2.heap.size := by omega
  clear HRN HRA HRB b0 b1 b2 nk
  have HS2 := hide hS2
  clear hS2
  have HWT := hide (fun k W (hg : Gr w.heap.size w2 W) (hS : Str W w.heap.size k) (hk : k < 600000) => w_Weights w.heap.size k (w.heap.size + 1) (some ⟨nb, noff, none⟩) B1 B2 rs.length bs.length ca cb cc ns W hS hk (HRD.out W hg).1 (by omega) hlos)
  have HNR := hide (fun W (hx : Gr w.heap.size w2 W) => (HRD.out W hx).1)
  have HTG := hide (fun W (hg : Gr w.heap.size w2 W) => Nx.of_gr (hg02.trans hg) (Nat.le_refl _))
  have HRF := hide (fun W (hx : Gr w.heap.size w2 W) => w_RoadsFault (w.heap.size + 1) (w.heap.size + 1) (w.heap.size + 1) (some ⟨nb, noff, none⟩) B1 B2 ca cb cc ns rs bs W (HRD.out W hx).1 HSN.out (by omega) (HRD.out W hx).2.1 (by omega) (HRD.out W hx).2.2 (by omega))
  have HWF := hide (fun (E : Option Addr) (ce : Nat) (ws : List Wgt) (hw : ws.length ≤ 65536) W (hx : Gr w.heap.size w2 W) (hE : Rd W (w.heap.size + 1) E 2 encW ws) => w_WeightsFault (w.heap.size + 1) (some ⟨nb, noff, none⟩) B1 B2 rs.length bs.length ca cb cc ns (w.heap.size + 1) E ce ws W (HRD.out W hx).1 (by omega) hE hw)
  have HCH := hide (fun (D : Option Addr) (cd : Nat) (sites : List ByteArray) (many : Int) (E : Option Addr) (ce : Nat) (ws : List Wgt) (ad wi : Int) (hl : sites.length ≤ 1000) (hw : ws.length ≤ 65536) W (hx : Gr w.heap.size w2 W) (hD : Rd W 0 D 1 encS sites) (hE : Rd W (w.heap.size + 1) E 2 encW ws) => w_Choose (w.heap.size + 1) (some ⟨nb, noff, none⟩) B1 B2 ca cb cc ns rs bs 0 D cd sites many (w.heap.size + 1) E ce ws ad wi W (HRD.out W hx).1 (HRD.out W hx).2.1 (HRD.out W hx).2.2 (by omega) (by omega) (by omega) HSN.out hD hl hE hw)
  have HCV := hide (fun (D : Option Addr) (cd : Nat) (sites : List ByteArray) (E : Option Addr) (ce : Nat) (ws : List Wgt) (ad wi : Int) (hl : sites.length ≤ 200) (hw : ws.length ≤ 65536) W (hx : Gr w.heap.size w2 W) (hD : Rd W 0 D 1 encS sites) (hE : Rd W (w.heap.size + 1) E 2 encW ws) => w_Covered (w.heap.size + 1) (some ⟨nb, noff, none⟩) B1 B2 ca cb cc ns rs bs 0 D cd sites (w.heap.size + 1) E ce ws ad wi W (HRD.out W hx).1 (HRD.out W hx).2.1 (HRD.out W hx).2.2 (by omega) (by omega) (by omega) HSN.out hD hl hE hw)
  have HMO := hide (fun (hR : roadsF ns rs bs = 0) (ws : List Wgt) (ad wi : Int) (k : Nat) (hw : wgtsF ns ws = 0) (ha : 0 ≤ ad ∧ ad ≤ 4999) (hwi : 0 ≤ wi ∧ wi ≤ 5000) (hk : k < ns.length) => more_ok (bs := bs) (sites := ns.map (·.key)) hR (sites_all (roads_ok hR).1 (by omega)) hw (momB_true.2 ⟨ha.1, by omega⟩) ⟨hwi.1, by omega⟩ (by rw [List.length_map]; exact hk))
  have hgw2 : w.heap.size < w2.heap.size := by omega
  clear hgs hz1 hn2 HW2 hlow2 hs2 hnb hnbr HRD HNK
  generalize hRFe : roadsF ns rs bs = RF at *
  generalize hnl : ns.length = nn at *
  generalize rs.length = nr at *
  generalize bs.length = nbb at *
  have HNL := hide hnl
  have HN0 := hide hn0
  have HN5 := hide hn5
  have HLS := hide hlos
  clear hnl hRFe hn0 hn5 hlos
  obtain ⟨c0, c1, c2⟩ := HBX.out w2 (Gr.refl _ _)
  go_wp2_with fail
  refine (HWT.out _ w2 (Gr.refl _ _) HS2.out (by omega)).mono ?_
  rintro e w3 ⟨E, ce, ws, rfl, hw5, hE, hg3, hS3⟩
  have hE3 := hE.low (show w.heap.size + 1 ≤ _ from hgw2)
  have HW5 := hide hw5
  clear c0 c1 c2 HWT hE hw5 HS2
  go_wp2_with fail
  refine (w_Next 5000 _ _ _ hS3 (by have := HN5.out; omega) (by omega)).mono ?_
  rintro e w4 ⟨ad, ha0, ha1, rfl, hg4, hS4⟩
  have hE4 := hE3.gr hg4 HLS.out
  have hg24 := hg3.trans hg4
  clear hE3 hg3 hg4 hS3
  go_wp2_with fail
  refine (w_PickI w4.heap.size [0, 100, 5000] _ _ _ _ (hS4.nx ((Nx.refl _).alloc _)) (by have := HN5.out; omega) (hnew rfl) (by have := hS4.lt; omega) rfl (by simp) (by simp)).mono ?_
  rintro e w5 ⟨wi, hwi, rfl, hg5, hS5⟩
  have hwb : 0 ≤ wi ∧ wi ≤ 5000 := by simp at hwi; omega
  have hE5 := (hE4.nx ((Nx.refl _).alloc _)).gr hg5 HLS.out
  have hg25 : Gr w.heap.size w2 w5 := (hg24.alloc _).trans hg5
  have HAB := hide (⟨ha0, by omega⟩ : 0 ≤ ad ∧ ad ≤ 4999)
  have HWB := hide hwb
  clear hE4 hg24 hg5 hS4 hwi hwb ha0 ha1
  obtain ⟨c0, c1, c2⟩ := HBX.out w5 hg25
  go_upto_region 4 with fail
  have hWF := HWF.out E ce ws (by have := HW5.out; have := HN5.out; omega)
  obtain ⟨WF, hWFe⟩ : ∃ WF, WF = wgtsF ns ws := ⟨_, rfl⟩
  rw [← hWFe] at hWF
  have HWF := hide hWF
  have HWFE := hide hWFe
  have HE5 := hide hE5
  have HW5L := hide (show ws.length ≤ 65536 by have := HW5.out; have := HN5.out; omega)
  clear hWF hWFe hE5 HW5
  generalize hwl : ws.length = wl at *
  have HWL := hide hwl
  clear hwl
  by_cases hF : RF = 0
  · subst hF
    replace HMO := hide (HMO.out rfl)
    by_cases hW : WF = 0
    · subst hW
      go_wp2_with (first
        | (go_at_call 20; refine (HRF.out w5 hg25).mono ?_; rintro e w6 ⟨rfl, hn6⟩; (obtain ⟨c3, c4, c5⟩ := HBX.out w6 (hg25.then_nx hn6)))
        | (go_at_call 23; refine (HWF.out w6 (hg25.then_nx hn6) (HE5.out.nx hn6)).mono ?_; rintro e w7 ⟨rfl, hn7⟩; (obtain ⟨c6, c7, c8⟩ := HBX.out w7 ((hg25.then_nx hn6).then_nx hn7))))
      have hg7 := (hg25.then_nx hn6).then_nx hn7
      have hE7 := (HE5.out.nx hn6).nx hn7
      have hS7 := (hS5.nx hn6).nx hn7
      clear c0 c1 c2 c3 c4 c5 c6 c7 c8 HRF HWF HE5 hg25 hS5 hn6 hn7
      obtain ⟨wb, hwb⟩ : ∃ wb, wb = w7 := ⟨_, rfl⟩
      subst hwb
      have HE7 := hide hE7
      have HS7 := hide hS7
      clear hE7 hS7
      go_loopw [8, 46] (fun v i wr => ∃ j : Nat, j ≤ nn ∧ i = .int .i64 j ∧ Nx wb wr ∧ wr.ownsRow wb.heap.size 9 1 v j (((ns.take j).map (·.key)).flatMap encS)) (fun _ i _ => nn - (intOf i).toNat)
      case atStart => exact ⟨0, Nat.zero_le _, rfl, Nx.refl _, World.ownsRow_nil _ _ _ _⟩
      case round =>
        obtain ⟨j, hj, rfl, hbw, hown⟩ := hrel
        have hn5 := HN5.out
        have HO := hide hown
        clear hown
        by_cases hlt : j < nn
        · have hlt' : j < ns.length := by have := HNL.out; omega
          obtain ⟨b, off, eb, _, hb, hbr, hc⟩ := (HNR.out _ (hg7.then_nx hbw)).open_ (Nx.refl wr) (by have := HNL.out; omega)
          have c0 : wr.cell? ⟨b, off + j * 3, none⟩ = some (.string ns[j].key) := hc j hlt' 0 _ rfl
          have c1 : wr.cell? ⟨b, off + j * 3 + 1, none⟩ = some (.int .i64 ns[j].x) := hc j hlt' 1 _ rfl
          have c2 : wr.cell? ⟨b, off + j * 3 + 2, none⟩ = some (.int .i64 ns[j].y) := hc j hlt' 2 _ rfl
          have HTK := hide (show (ns.take (j + 1)).map (·.key) = (ns.take j).map (·.key) ++ [ns[j].key] by rw [List.take_succ_eq_append_getElem hlt', List.map_append]; rfl)
          have HLT := hide (show ((ns.take j).map (·.key)).length = j by rw [List.length_map, List.length_take]; omega)
          clear hc hb hbr
          generalize ns[j].key = s at *
          generalize ns[j].x = nx at *
          generalize ns[j].y = ny at *
          generalize (ns.take j).map (·.key) = l at *
          cases eb
          obtain ⟨w12, hw12⟩ : ∃ w12, w12 = wr.alloc (.cells #[.string s, .int .i64 nx, .int .i64 ny] 39) := ⟨_, rfl⟩
          have hn12 : Nx wr w12 := hw12 ▸ (Nx.refl wr).alloc _
          have d0 : w12.cell? ⟨wr.heap.size, 0, none⟩ = some (.string s) := by rw [hw12]; go_simp
          have hO1 := own_nx HO.out hn12
          rw [← HLT.out] at hO1
          have HO1 := hide hO1
          have hwbs : wb.heap.size ≤ w12.heap.size := (hbw.trans hn12).sz
          clear hO1
          have HW12 := hide hw12
          clear hw12
          go_upto_region 10 with fail
          rw [← HW12.out]
          clear c0 c1 c2 HW12
          generalize wr.heap.size = Pb at *
          go_wp2_with (at_builtin; go_must (refine wpApp2 rfl _ _ _ rfl el_SM encS encS_len encS_one (by omega) (by omega) wb.heap.size _ l rfl (HO1.out.alloc _) _ s _ rfl (hnew rfl) rfl (by have := HLT.out; have := HN5.out; omega) (by simp; omega) ?_); intro v9 w9 hown9 hg9 _; (have HO9 := hide hown9); (have HG9 := hide hg9); clear hown9 hg9)
          go_roundw
          case rel =>
            refine ⟨j + 1, by omega, by go_num, ((hbw.trans hn12).alloc _).grown HG9.out (fun x hx => own_blk_lt HO1.out x hx), ?_⟩
            have h9 := HO9.out
            rw [HTK.out]
            rw [show (l ++ [s]).length = j + 1 by rw [List.length_append, HLT.out]; rfl] at h9
            exact h9
          case measure => simp [intOf]; omega
        · obtain rfl : nn = j := by omega
          have HKS := hide (show (ns.take nn).map (·.key) = ns.map (·.key) by rw [← HNL.out, List.take_length])
          have HKL := hide (show (List.map (fun x : Node => x.key) ns).length = nn by rw [List.length_map]; exact HNL.out)
          have hown := HO.out
          rw [HKS.out] at hown
          rw [← HKL.out] at hown
          obtain ⟨D, cd, rfl, hRd, _⟩ := Rd.of_own encS_len rfl hown
          have HD := hide (hRd.low (Nat.zero_le _))
          have HKN := hide (fun x hx => own_blk_lt hown x hx)
          have hE8 := HE7.out.nx hbw
          have hS8 := HS7.out.nx hbw
          have hg8 := hg7.then_nx hbw
          have HSL := hide (hRd.low (Nat.le_trans (show w.heap.size + 1 ≤ w2.heap.size from hgw2) hg7.sz))
          clear hRd hown HO HKN HE7 HS7
          go_wp2_with fail
          rw [HNL.out]
          refine (w_Next (nn : Int) _ _ _ hS8 (by have := HN5.out; omega) (by have := HN0.out; have := HN5.out; omega)).mono ?_
          rintro e w9 ⟨z, hz1, hz2, rfl, hg9, hS9⟩
          obtain ⟨k, rfl⟩ : ∃ k : Nat, z = (k : Int) := ⟨z.toNat, by omega⟩
          have hkn : k < nn := by omega
          have hg29 := hg8.trans hg9
          have hD9 := (HSL.out.gr hg9 HLS.out).low (Nat.zero_le _)
          have hE9 := hE8.gr hg9 HLS.out
          clear hz1 hz2 hE8 hS8 hg8 HSL HD hg9 hS9 hbw
          obtain ⟨m1, m2, m3, m4, m5, m6⟩ := HMO.out ws ad wi k HWFE.out.symm HAB.out HWB.out hkn
          have W1 : IntKind.i64.wrap ((k : Int) + 1) = (k : Int) + 1 := IntWalk.i64_in _ (by have := HN5.out; omega)
          have HC1 := hide (fun W hx hD hE => m1 ▸ HCH.out D cd (List.map (fun x : Node => x.key) ns) (k : Int) E ce ws ad wi (by have := HKL.out; have := HN5.out; omega) (by have := HWL.out; have := HW5L.out; omega) W hx hD hE)
          have HC2 := hide (fun W hx hD hE => m2 ▸ HCH.out D cd (List.map (fun x : Node => x.key) ns) ((k : Int) + 1) E ce ws ad wi (by have := HKL.out; have := HN5.out; omega) (by have := HWL.out; have := HW5L.out; omega) W hx hD hE)
          have HC3 := hide (fun Z cz W hx hD hE => m3 ▸ m6 ▸ HCV.out Z cz (chooseP ns rs bs (List.map (fun x : Node => x.key) ns) k ws ad wi).1 E ce ws ad wi (by have := HN5.out; omega) (by have := HWL.out; have := HW5L.out; omega) W hx hD hE)
          rw [HKL.out, HWL.out] at HC1 HC2
          rw [HWL.out] at HC3
          clear m1 m2 m3 m6 HCH HCV HMO
          have HM4 := hide m4
          have HM5 := hide m5
          clear m4 m5
          generalize chooseP ns rs bs (List.map (fun x : Node => x.key) ns) k ws ad wi = R1 at *
          generalize chooseP ns rs bs (List.map (fun x : Node => x.key) ns) ((k : Int) + 1) ws ad wi = R2 at *
          obtain ⟨c0, c1, c2⟩ := HBX.out w9 hg29
          go_wp2_with fail
          refine (HC1.out w9 hg29 hD9 hE9).mono ?_
          rintro e w10 ⟨Z1, cz1, rfl, hZ1, _, hn10⟩
          have hg210 := hg29.then_nx hn10
          have hD10 := hD9.nx hn10
          have hE10 := hE9.nx hn10
          clear c0 c1 c2 hD9 hE9 hg29
          obtain ⟨c0, c1, c2⟩ := HBX.out w10 hg210
          rw [HM4.out]
          go_wp2_with fail
          refine (HC2.out w10 hg210 hD10 hE10).mono ?_
          rintro e w11 ⟨Z2, cz2, rfl, hZ2, _, hn11⟩
          have hg211 := hg210.then_nx hn11
          have hE11 := hE10.nx hn11
          have hZ1' := hZ1.nx hn11
          have HC3 := HC3.out Z1 cz1 w11 hg211 hZ1' hE11
          rw [HM4.out] at HC3
          have HC3 := hide HC3
          have tge : decide (R2.2 ≥ R1.2) = true := decide_eq_true HM5.out
          clear c0 c1 c2 hD10 hE10 hg210 hZ1 hZ2 hE11 hZ1'
          obtain ⟨c0, c1, c2⟩ := HBX.out w11 hg211
          generalize R1.2 = r1 at *
          generalize R2.2 = r2 at *
          generalize R2.1.length = l2 at *
          go_wp2_with fail
          refine HC3.out.mono ?_
          rintro e w13 ⟨rfl, hn13⟩
          clear c0 c1 c2
          go_wp2_with (go_at_call 49; refine (w_ready _).mono ?_; rintro e w12 ⟨rfl, hn12⟩)
          go_ret
          exact ⟨rfl, HTG.out _ ((hg211.then_nx hn13).then_nx hn12)⟩
    · have tW : (WF != 0) = true := by simpa using hW
      go_wp2_with (first
        | (go_at_call 20; refine (HRF.out w5 hg25).mono ?_; rintro e w6 ⟨rfl, hn6⟩; (obtain ⟨c3, c4, c5⟩ := HBX.out w6 (hg25.then_nx hn6)))
        | (go_at_call 23; refine (HWF.out w6 (hg25.then_nx hn6) (HE5.out.nx hn6)).mono ?_; rintro e w7 ⟨rfl, hn7⟩)
        | (go_at_call 49; refine (w_ready _).mono ?_; rintro e w12 ⟨rfl, hn12⟩))
      go_ret
      exact ⟨rfl, HTG.out _ (((hg25.then_nx hn6).then_nx hn7).then_nx hn12)⟩
  · have tF : (RF != 0) = true := by simpa using hF
    go_wp2_with (first
      | (go_at_call 20; refine (HRF.out w5 hg25).mono ?_; rintro e w6 ⟨rfl, hn6⟩)
      | (go_at_call 49; refine (w_ready _).mono ?_; rintro e w12 ⟨rfl, hn12⟩))
    go_ret
    exact ⟨rfl, HTG.out _ ((hg25.then_nx hn6).then_nx hn12)⟩
end Go.Proofs.YtmpnilliichpfaaGreatDoor
