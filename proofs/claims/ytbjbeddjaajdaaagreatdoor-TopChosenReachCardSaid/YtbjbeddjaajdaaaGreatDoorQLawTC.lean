/- jittop.TopChosenReach returns true. -/
import Derived.Test.YtbjbeddjaajdaaaGreatDoorQRdsR
import Derived.Test.YtbjbeddjaajdaaaGreatDoorQG10
import Derived.Test.YtbjbeddjaajdaaaGreatDoorQG35
import Derived.Test.YtbjbeddjaajdaaaGreatDoorQG28
import Derived.Test.YtbjbeddjaajdaaaGreatDoorQG27
import Derived.Test.YtbjbeddjaajdaaaGreatDoorQChoP
import Derived.Test.YtbjbeddjaajdaaaGreatDoorQG37
import Derived.Test.YtbjbeddjaajdaaaGreatDoorQG14
import Derived.Deep.DeepMust
import Derived.Deep.DeepCutAuto
import Derived.Deep.RegionHeldLaw
namespace Go.Proofs.YtbjbeddjaajdaaaGreatDoor
open Go.RowKit Go.Maps

theorem el_TC : ElemOf Tryz.prog 34 9 1 16 := ElemOf.mk' (z := .string ByteArray.empty) Tryz.underlying34 (by kernel_rfl) rfl
theorem MbI.ncell {κ : Type} {P : Program} {K E : TypeId} {ek : κ → Value} {dom : κ → Prop} {w : World} {b n o : Nat} {f : κ → Bool} {v : Value} (h : MbI P K E ek dom w b n f) (hc : w.cell? ⟨b, o, none⟩ = some v) : False := by
  obtain ⟨D, ⟨es, clock, hb, _⟩, _⟩ := h
  rw [World.cell?] at hc
  rw [hb] at hc
  simp at hc
set_option maxRecDepth 100000 in
set_option maxHeartbeats 8000000 in
theorem w_lawTC (A : Option Addr) (n c : Nat) (w : World) (hn : n ≤ 9223372036854775807)
    (hL : 0 < n → ∃ b off, A = some ⟨b, off, none⟩ ∧ b < w.heap.size ∧ ∀ j, j < n → ∃ z : Int, w.cell? ⟨b, off + j, none⟩ = some (.int .i64 z) ∧ -9223372036854775808 ≤ z ∧ z ≤ 9223372036854775807) (htab : PowTab w) :
    Calls Tryz.prog 4 #[.slice A n c] w (TrueNx w) := by
  have hS0 : Str (w.alloc (.cells #[.slice A n c, .int .i64 0] 25)) w.heap.size 0 := str_new A n c w hn hL
  clear hL
  go_enter Tryz.func4, Tryz.ntmps4
  go_wp2_with fail
  refine (w_RightRoads _ 0 _ hS0 (by omega)).mono ?_
  rintro e w1 ⟨vN, vA, vB, ns, rs, bs, rfl, hown, hn0, hn5, hr10, hb101, hg1, hS1⟩
  have hsz : (w.alloc (.cells #[.slice A n c, .int .i64 0] 25)).heap.size = w.heap.size + 1 := by simp
  rw [hsz] at hown
  have hz1 := hg1.sz
  rw [hsz] at hz1
  have hg01 : Gr w.heap.size w w1 := (Gr.of_nx ((Nx.refl w).alloc _)).trans hg1
  clear hg1 hS0
  have hsmN := hown.smN
  obtain ⟨B0, B1, B2, ca, cb, cc, e1, e2, e3, hRN, hRA, hRB⟩ := hown.rd
  subst e1 e2 e3
  clear hown
  obtain ⟨w2, hw2⟩ : ∃ w2, w2 = w1.alloc (.cells #[.slice B0 ns.length ca, .slice B1 rs.length cb, .slice B2 bs.length cc] 30) := ⟨_, rfl⟩
  have hn2 : Nx w1 w2 := hw2 ▸ (Nx.refl w1).alloc _
  have hs2 : w1.heap.size < w2.heap.size := by rw [hw2]; simp
  have b0 : w2.cell? ⟨w1.heap.size, 0, none⟩ = some (.slice B0 ns.length ca) := by rw [hw2]; go_simp
  have b1 : w2.cell? ⟨w1.heap.size, 1, none⟩ = some (.slice B1 rs.length cb) := by rw [hw2]; go_simp
  have b2 : w2.cell? ⟨w1.heap.size, 2, none⟩ = some (.slice B2 bs.length cc) := by rw [hw2]; go_simp
  have hg02 := hg01.then_nx hn2
  have hS2 := hS1.nx hn2
  obtain ⟨nb, noff, eN, hnlo, hnb, hnbr, hnc⟩ := (hRN.nx hn2).open_ (Nx.refl w2) hn0
  subst eN
  have nk : ∀ j, j < ns.length → w2.cell? ⟨nb, noff + j * 3, none⟩ = some (.string (ns.getD j default).key) := fun j hj => by
    rw [List.getD_eq_getElem?_getD, List.getElem?_eq_getElem hj]
    exact hnc j hj 0 _ rfl
  clear hnc
  have HRN := hide (hRN.nx hn2)
  have HRA := hide (hRA.nx hn2)
  have HRB := hide (hRB.nx hn2)
  have HSN := hide hsmN
  clear hRN hRA hRB hsmN hg01 hS1
  go_upto_region 3 with fail
  rw [← hw2]
  have HW2 := hide hw2
  clear hw2
  have hgs : w.heap.size < w1.heap.size := by omega
  generalize w1.heap.size = g at *
  have hlos : w.heap.size < w.heap.size + 1 := by omega
  have HRD := hide (fun W (hg : Gr w.heap.size w2 W) => (⟨HRN.out.gr hg hlos, ⟨HRA.out.1.gr hg hlos, fun x hx => ⟨(HRA.out.2 x hx).1.gr hg hlos, (HRA.out.2 x hx).2⟩⟩, HRB.out.gr hg hlos⟩ : Rd W (w.heap.size + 1) (some ⟨nb, noff, none⟩) 3 encNode ns ∧ RdArcs W (w.heap.size + 1) B1 rs ∧ Rd W (w.heap.size + 1) B2 2 encBan bs))
  have HBX := hide (fun W (hg : Gr w.heap.size w2 W) => (⟨World.grownBy.cell (row := some w.heap.size) hg b0 (by simp; omega), World.grownBy.cell (row := some w.heap.size) hg b1 (by simp; omega), World.grownBy.cell (row := some w.heap.size) hg b2 (by simp; omega)⟩ : W.cell? ⟨g, 0, none⟩ = some (.slice (some ⟨nb, noff, none⟩) ns.length ca) ∧ W.cell? ⟨g, 1, none⟩ = some (.slice B1 rs.length cb) ∧ W.cell? ⟨g, 2, none⟩ = some (.slice B2 bs.length cc)))
  have HNK := hide (fun W (hg : Gr w.heap.size w2 W) j (hj : j < ns.length) => (World.grownBy.cell (row := some w.heap.size) hg (nk j hj) (by simp; omega) : W.cell? ⟨nb, noff + j * 3, none⟩ = some (.string (ns.getD j default).key)))
  have hlow2 : w.heap.size + 1 ≤ w2.heap.size := by omega
  clear HRN HRA HRB b0 b1 b2 nk
  have HS2 := hide hS2
  clear hS2
  have HWT := hide (fun k W (hg : Gr w.heap.size w2 W) (hS : Str W w.heap.size k) (hk : k < 600000) => w_Weights w.heap.size k (w.heap.size + 1) (some ⟨nb, noff, none⟩) B1 B2 rs.length bs.length ca cb cc ns W hS hk (HRD.out W hg).1 (by omega) hlos)
  have HNR := hide (fun W (hx : Gr w.heap.size w2 W) => (HRD.out W hx).1)
  have HTG := hide (fun W (hg : Gr w.heap.size w2 W) => Nx.of_gr (hg02.trans hg) (Nat.le_refl _))
  have HRF := hide (fun W (hx : Gr w.heap.size w2 W) => w_RoadsFault (w.heap.size + 1) (w.heap.size + 1) (w.heap.size + 1) (some ⟨nb, noff, none⟩) B1 B2 ca cb cc ns rs bs W (HRD.out W hx).1 HSN.out (by omega) (HRD.out W hx).2.1 (by omega) (HRD.out W hx).2.2 (by omega))
  have HWF := hide (fun (E : Option Addr) (ce : Nat) (ws : List Wgt) (hw : ws.length ≤ 65536) W (hx : Gr w.heap.size w2 W) (hE : Rd W (w.heap.size + 1) E 2 encW ws) => w_WeightsFault (w.heap.size + 1) (some ⟨nb, noff, none⟩) B1 B2 rs.length bs.length ca cb cc ns (w.heap.size + 1) E ce ws W (HRD.out W hx).1 (by omega) hE hw)
  have HCH := hide (fun (D : Option Addr) (cd : Nat) (sites : List ByteArray) (many : Int) (E : Option Addr) (ce : Nat) (ws : List Wgt) (ad wi : Int) (hl : sites.length ≤ 1000) (hw : ws.length ≤ 65536) W (hx : Gr w.heap.size w2 W) (hD : Rd W 0 D 1 encS sites) (hE : Rd W (w.heap.size + 1) E 2 encW ws) => w_Choose (w.heap.size + 1) (some ⟨nb, noff, none⟩) B1 B2 ca cb cc ns rs bs 0 D cd sites many (w.heap.size + 1) E ce ws ad wi W (HRD.out W hx).1 (HRD.out W hx).2.1 (HRD.out W hx).2.2 (by omega) (by omega) (by omega) HSN.out hD hl hE hw)
  have hgw2 : w.heap.size < w2.heap.size := by omega
  have HTAB := hide htab
  clear htab
  have HRE := hide (fun (hR : roadsF ns rs bs = 0) (s : ByteArray) (hs : 0 ≤ nodeI ns s) (ad wi : Int) (hma : momB ad = true) (hwi : 0 ≤ wi ∧ wi ≤ 86400000) W (hx : Gr w.heap.size w2 W) => (show Calls Tryz.prog 35 #[.agg #[.slice (some ⟨nb, noff, none⟩) ns.length ca, .slice B1 rs.length cb, .slice B2 bs.length cc], .string s, .int .i64 ad, .int .i64 wi] W (ReachOut W (reachL ns rs bs s ad wi) 0) from reach_ok hR hs hma hwi ▸ w_Reach (w.heap.size + 1) (some ⟨nb, noff, none⟩) B1 B2 ca cb cc ns rs bs s ad wi W (HRD.out W hx).1 (HRD.out W hx).2.1 (HRD.out W hx).2.2 (by omega) (by omega) (by omega) HSN.out (tab_nx HTAB.out (HTG.out W hx))))
  have HRL := hide (fun (hR : roadsF ns rs bs = 0) (s : ByteArray) (hs : 0 ≤ nodeI ns s) (ad wi : Int) (hma : momB ad = true) (hwi : 0 ≤ wi ∧ wi ≤ 86400000) => (⟨reach_len hR hs hma hwi, reach_dom hR hs hma hwi⟩ : (reachL ns rs bs s ad wi).length ≤ ns.length ∧ ∀ p ∈ reachL ns rs bs s ad wi, domS p.name))
  have HTO := hide (fun (hR : roadsF ns rs bs = 0) (ws : List Wgt) (ad wi : Int) (k : Nat) (hw : wgtsF ns ws = 0) (ha : 0 ≤ ad ∧ ad ≤ 4999) (hwi : 0 ≤ wi ∧ wi ≤ 5000) (hk : k ≤ ns.length) => top_ok (bs := bs) (sites := ns.map (·.key)) hR (sites_all (roads_ok hR).1 (by omega)) hw (momB_true.2 ⟨ha.1, by omega⟩) ⟨hwi.1, by omega⟩ (by rw [List.length_map]; exact hk))
  have HTA := hide (fun (hR : roadsF ns rs bs = 0) (l : List ByteArray) (t : ByteArray) (ad wi : Int) (hs : ∀ s ∈ l, 0 ≤ nodeI ns s) (ht : 0 ≤ nodeI ns t) (ha : 0 ≤ ad ∧ ad ≤ 4999) (hwi : 0 ≤ wi ∧ wi ≤ 5000) => top_any (bs := bs) hR hs ht (momB_true.2 ⟨ha.1, by omega⟩) ⟨hwi.1, by omega⟩)
  have HND := hide (fun (hR : roadsF ns rs bs = 0) (s : ByteArray) (hs : 0 ≤ nodeI ns s) => node_dom hR hs)
  clear hgs hz1 hn2 HW2 hlow2 hs2 hnb hnbr HRD HNK
  generalize hRFe : roadsF ns rs bs = RF at *
  generalize hnl : ns.length = nn at *
  generalize rs.length = nr at *
  generalize bs.length = nbb at *
  have HNL := hide hnl
  have HN0 := hide hn0
  have HN5 := hide hn5
  have HLS := hide hlos
  clear hnl hRFe hn0 hn5 hlos
  obtain ⟨c0, c1, c2⟩ := HBX.out w2 (Gr.refl _ _)
  go_wp2_with fail
  refine (HWT.out _ w2 (Gr.refl _ _) HS2.out (by omega)).mono ?_
  rintro e w3 ⟨E, ce, ws, rfl, hw5, hE, hg3, hS3⟩
  have hE3 := hE.low (show w.heap.size + 1 ≤ _ from hgw2)
  have HW5 := hide hw5
  clear c0 c1 c2 HWT hE hw5 HS2
  go_wp2_with fail
  refine (w_Next 5000 _ _ _ hS3 (by have := HN5.out; omega) (by omega)).mono ?_
  rintro e w4 ⟨ad, ha0, ha1, rfl, hg4, hS4⟩
  have hE4 := hE3.gr hg4 HLS.out
  have hg24 := hg3.trans hg4
  clear hE3 hg3 hg4 hS3
  go_wp2_with fail
  refine (w_PickI w4.heap.size [0, 100, 5000] _ _ _ _ (hS4.nx ((Nx.refl _).alloc _)) (by have := HN5.out; omega) (hnew rfl) (by have := hS4.lt; omega) rfl (by simp) (by simp)).mono ?_
  rintro e w5 ⟨wi, hwi, rfl, hg5, hS5⟩
  have hwb : 0 ≤ wi ∧ wi ≤ 5000 := by simp at hwi; omega
  have hE5 := (hE4.nx ((Nx.refl _).alloc _)).gr hg5 HLS.out
  have hg25 : Gr w.heap.size w2 w5 := (hg24.alloc _).trans hg5
  have HAB := hide (⟨ha0, by omega⟩ : 0 ≤ ad ∧ ad ≤ 4999)
  have HWB := hide hwb
  clear hE4 hg24 hg5 hS4 hwi hwb ha0 ha1
  obtain ⟨c0, c1, c2⟩ := HBX.out w5 hg25
  go_upto_region 4 with fail
  have hWF := HWF.out E ce ws (by have := HW5.out; have := HN5.out; omega)
  obtain ⟨WF, hWFe⟩ : ∃ WF, WF = wgtsF ns ws := ⟨_, rfl⟩
  rw [← hWFe] at hWF
  have HWF := hide hWF
  have HWFE := hide hWFe
  have HE5 := hide hE5
  have HW5L := hide (show ws.length ≤ 65536 by have := HW5.out; have := HN5.out; omega)
  clear hWF hWFe hE5 HW5
  generalize hwl : ws.length = wl at *
  have HWL := hide hwl
  clear hwl
  by_cases hF : RF = 0
  · subst hF
    replace HRE := hide (HRE.out rfl)
    replace HRL := hide (HRL.out rfl)
    replace HTO := hide (HTO.out rfl)
    replace HTA := hide (HTA.out rfl)
    replace HND := hide (HND.out rfl)
    by_cases hW : WF = 0
    · subst hW
      go_wp2_with (first
        | (go_at_call 15; refine (HRF.out w5 hg25).mono ?_; rintro e w6 ⟨rfl, hn6⟩; (obtain ⟨c3, c4, c5⟩ := HBX.out w6 (hg25.then_nx hn6)))
        | (go_at_call 32; refine (HWF.out w6 (hg25.then_nx hn6) (HE5.out.nx hn6)).mono ?_; rintro e w7 ⟨rfl, hn7⟩; (obtain ⟨c6, c7, c8⟩ := HBX.out w7 ((hg25.then_nx hn6).then_nx hn7))))
      have hg7 := (hg25.then_nx hn6).then_nx hn7
      have hE7 := (HE5.out.nx hn6).nx hn7
      have hS7 := (hS5.nx hn6).nx hn7
      clear c0 c1 c2 c3 c4 c5 c6 c7 c8 HRF HWF HE5 hg25 hS5 hn6 hn7
      obtain ⟨wb, hwb⟩ : ∃ wb, wb = w7 := ⟨_, rfl⟩
      subst hwb
      have HE7 := hide hE7
      have HS7 := hide hS7
      clear hE7 hS7
      go_loopw [8, 49] (fun v i wr => ∃ j : Nat, j ≤ nn ∧ i = .int .i64 j ∧ Nx wb wr ∧ wr.ownsRow wb.heap.size 9 1 v j (((ns.take j).map (·.key)).flatMap encS)) (fun _ i _ => nn - (intOf i).toNat)
      case atStart => exact ⟨0, Nat.zero_le _, rfl, Nx.refl _, World.ownsRow_nil _ _ _ _⟩
      case round =>
        obtain ⟨j, hj, rfl, hbw, hown⟩ := hrel
        have hn5 := HN5.out
        have HO := hide hown
        clear hown
        by_cases hlt : j < nn
        · have hlt' : j < ns.length := by have := HNL.out; omega
          obtain ⟨b, off, eb, _, hb, hbr, hc⟩ := (HNR.out _ (hg7.then_nx hbw)).open_ (Nx.refl wr) (by have := HNL.out; omega)
          have c0 : wr.cell? ⟨b, off + j * 3, none⟩ = some (.string ns[j].key) := hc j hlt' 0 _ rfl
          have c1 : wr.cell? ⟨b, off + j * 3 + 1, none⟩ = some (.int .i64 ns[j].x) := hc j hlt' 1 _ rfl
          have c2 : wr.cell? ⟨b, off + j * 3 + 2, none⟩ = some (.int .i64 ns[j].y) := hc j hlt' 2 _ rfl
          have HTK := hide (show (ns.take (j + 1)).map (·.key) = (ns.take j).map (·.key) ++ [ns[j].key] by rw [List.take_succ_eq_append_getElem hlt', List.map_append]; rfl)
          have HLT := hide (show ((ns.take j).map (·.key)).length = j by rw [List.length_map, List.length_take]; omega)
          clear hc hb hbr
          generalize ns[j].key = s at *
          generalize ns[j].x = nx at *
          generalize ns[j].y = ny at *
          generalize (ns.take j).map (·.key) = l at *
          cases eb
          obtain ⟨w12, hw12⟩ : ∃ w12, w12 = wr.alloc (.cells #[.string s, .int .i64 nx, .int .i64 ny] 76) := ⟨_, rfl⟩
          have hn12 : Nx wr w12 := hw12 ▸ (Nx.refl wr).alloc _
          have d0 : w12.cell? ⟨wr.heap.size, 0, none⟩ = some (.string s) := by rw [hw12]; go_simp
          have hO1 := own_nx HO.out hn12
          rw [← HLT.out] at hO1
          have HO1 := hide hO1
          have hwbs : wb.heap.size ≤ w12.heap.size := (hbw.trans hn12).sz
          clear hO1
          have HW12 := hide hw12
          clear hw12
          go_upto_region 10 with fail
          rw [← HW12.out]
          clear c0 c1 c2 HW12
          generalize wr.heap.size = Pb at *
          go_wp2_with (at_builtin; go_must (refine wpApp2 rfl _ _ _ rfl el_TC encS encS_len encS_one (by omega) (by omega) wb.heap.size _ l rfl (HO1.out.alloc _) _ s _ rfl (hnew rfl) rfl (by have := HLT.out; have := HN5.out; omega) (by simp; omega) ?_); intro v9 w9 hown9 hg9 _; (have HO9 := hide hown9); (have HG9 := hide hg9); clear hown9 hg9)
          go_roundw
          case rel =>
            refine ⟨j + 1, by omega, by go_num, ((hbw.trans hn12).alloc _).grown HG9.out (fun x hx => own_blk_lt HO1.out x hx), ?_⟩
            have h9 := HO9.out
            rw [HTK.out]
            rw [show (l ++ [s]).length = j + 1 by rw [List.length_append, HLT.out]; rfl] at h9
            exact h9
          case measure => simp [intOf]; omega
        · obtain rfl : nn = j := by omega
          have HKS := hide (show (ns.take nn).map (·.key) = ns.map (·.key) by rw [← HNL.out, List.take_length])
          obtain ⟨sl, hsl⟩ : ∃ sl, sl = ns.map (·.key) := ⟨_, rfl⟩
          have HKL := hide (show sl.length = nn by rw [hsl, List.length_map]; exact HNL.out)
          have hown := HO.out
          rw [HKS.out, ← hsl, ← HKL.out] at hown
          have HSE := hide hsl
          clear hsl
          obtain ⟨D, cd, rfl, hRd, _⟩ := Rd.of_own encS_len rfl hown
          have hE8 := HE7.out.nx hbw
          have hS8 := HS7.out.nx hbw
          have hg8 := hg7.then_nx hbw
          have HSL := hide (hRd.low (Nat.le_trans (show w.heap.size + 1 ≤ w2.heap.size from hgw2) hg7.sz))
          clear hRd hown HO HE7 HS7 HKS hbw hg7
          rw [HKL.out]
          have hn0 := HN0.out
          have W1 : IntKind.i64.wrap ((nn : Int) + 1) = (nn : Int) + 1 := IntWalk.i64_in _ (by omega)
          go_upto_region 12 with fail
          refine wp_region_held_drew (S := fun w' => w'.cell? ⟨g, 0, none⟩ = some (.slice (some ⟨nb, noff, none⟩) nn ca) ∧ w'.cell? ⟨g, 1, none⟩ = some (.slice B1 nr cb) ∧ w'.cell? ⟨g, 2, none⟩ = some (.slice B2 nbb cc)) (by kernel_rfl) ?_ (fun hHeld => ?_)
          · exact HBX.out _ hg8.drew
          have hgC := hg8.drew
          have hSC := hS8.nx (Nx.refl _).drew
          have hEC := hE8.nx (Nx.refl _).drew
          have hDC := HSL.out.nx (Nx.refl _).drew
          clear hE8 hS8 hg8 HSL
          refine wpAnyH_take (i := 0) (oi := ⟨some 60, _, _, _, _, _⟩) (v := ?_) rfl (by kernel_rfl) (by kernel_rfl) (by kernel_rfl) (fun _ _ _ h => h) (Or.inl ⟨by rfl, ?_⟩) (by assumption) ?_
          rotate_left 1
          · intro w hSw
            (try dsimp only at hSw)
            go_simp
            try with_reducible rfl
          try simp only [Act.put, List.setIfInBounds_toArray, List.set_cons_zero, List.set_cons_succ]
          refine wpAnyH_take (i := 1) (oi := ⟨some 61, _, _, _, _, _⟩) (v := ?_) rfl (by kernel_rfl) (by kernel_rfl) (by kernel_rfl) (fun _ _ _ h => h) (Or.inl ⟨by rfl, ?_⟩) (by assumption) ?_
          rotate_left 1
          · intro w hSw
            (try dsimp only at hSw)
            go_simp
            try with_reducible rfl
          try simp only [Act.put, List.setIfInBounds_toArray, List.set_cons_zero, List.set_cons_succ]
          refine wpAnyH_take (i := 2) (oi := ⟨some 62, _, _, _, _, _⟩) (v := ?_) rfl (by kernel_rfl) (by kernel_rfl) (by kernel_rfl) (fun _ _ _ h => h) (Or.inl ⟨by rfl, ?_⟩) (by assumption) ?_
          rotate_left 1
          · intro w hSw
            (try dsimp only at hSw)
            go_simp
            try with_reducible rfl
          try simp only [Act.put, List.setIfInBounds_toArray, List.set_cons_zero, List.set_cons_succ]
          refine wpAnyH_take (i := 3) (oi := ⟨some 63, _, _, _, _, _⟩) (v := ?_) rfl (by kernel_rfl) (by kernel_rfl) (by kernel_rfl) (fun _ _ _ h => h) (Or.inl ⟨by rfl, ?_⟩) (by assumption) ?_
          rotate_left 1
          · intro w hSw
            (try dsimp only at hSw)
            go_simp
            try with_reducible rfl
          try simp only [Act.put, List.setIfInBounds_toArray, List.set_cons_zero, List.set_cons_succ]
          refine wpAnyH_take (i := 4) (oi := ⟨some 64, _, _, _, _, _⟩) (v := ?_) rfl (by kernel_rfl) (by kernel_rfl) (by kernel_rfl) (fun _ _ _ h => h) (Or.inl ⟨by rfl, ?_⟩) (by assumption) ?_
          rotate_left 1
          · intro w hSw
            (try dsimp only at hSw)
            go_simp
            try with_reducible rfl
          try simp only [Act.put, List.setIfInBounds_toArray, List.set_cons_zero, List.set_cons_succ]
          refine wpAnyH_take (i := 5) (oi := ⟨some 65, _, _, _, _, _⟩) (v := ?_) rfl (by kernel_rfl) (by kernel_rfl) (by kernel_rfl) (fun _ _ _ h => h) (Or.inl ⟨by rfl, ?_⟩) (by assumption) ?_
          rotate_left 1
          · intro w hSw
            (try dsimp only at hSw)
            go_simp
            try with_reducible rfl
          try simp only [Act.put, List.setIfInBounds_toArray, List.set_cons_zero, List.set_cons_succ]
          refine wpAnyH_take (i := 7) (oi := ⟨some 67, _, _, _, _, _⟩) (v := ?_) rfl (by kernel_rfl) (by kernel_rfl) (by kernel_rfl) (fun _ _ _ h => h) (Or.inl ⟨by rfl, ?_⟩) (by assumption) ?_
          rotate_left 1
          · intro w hSw
            (try dsimp only at hSw)
            go_simp
            try with_reducible rfl
          try simp only [Act.put, List.setIfInBounds_toArray, List.set_cons_zero, List.set_cons_succ]
          refine wpAnyH_take (i := 8) (oi := ⟨some 68, _, _, _, _, _⟩) (v := ?_) rfl (by kernel_rfl) (by kernel_rfl) (by kernel_rfl) (fun _ _ _ h => h) (Or.inl ⟨by rfl, ?_⟩) (by assumption) ?_
          rotate_left 1
          · intro w hSw
            (try dsimp only at hSw)
            go_simp
            try with_reducible rfl
          try simp only [Act.put, List.setIfInBounds_toArray, List.set_cons_zero, List.set_cons_succ]
          refine wpAnyH_take (i := 9) (oi := ⟨some 69, _, _, _, _, _⟩) (v := ?_) rfl (by kernel_rfl) (by kernel_rfl) (by kernel_rfl) (fun _ _ _ h => h) (Or.inl ⟨by rfl, ?_⟩) (by assumption) ?_
          rotate_left 1
          · intro w hSw
            (try dsimp only at hSw)
            go_simp
            try with_reducible rfl
          try simp only [Act.put, List.setIfInBounds_toArray, List.set_cons_zero, List.set_cons_succ]
          refine wpAnyH_ready (rs := [6]) (by kernel_rfl) (by simp) ?_
          refine AllReadyH.cons rfl (fun K hK => ?_) AllReadyH.nil
          go_simp
          go_at_call 31
          refine (w_Next ((nn : Int) + 1) _ _ _ hSC (by have := HN5.out; omega) (by omega)).mono ?_
          rintro e w9 ⟨z, hz1, hz2, rfl, hg9, hS9⟩
          obtain ⟨k, rfl⟩ : ∃ k : Nat, z = (k : Int) := ⟨z.toNat, by omega⟩
          replace hgC := hgC.trans hg9
          replace hEC := hEC.gr hg9 HLS.out
          replace hDC := (hDC.gr hg9 HLS.out).low (Nat.zero_le _)
          have hkn : k ≤ nn := (by omega)
          clear hz1 hz2 hg9 hSC hS9
          go_simp
          refine hK.out _ _ (HBX.out _ hgC) (fun hHeld => ?_)
          clear hK K
          try simp only [Act.put, List.setIfInBounds_toArray, List.set_cons_zero, List.set_cons_succ]
          obtain ⟨m1, m2, m3, m4⟩ := HTO.out ws ad wi k HWFE.out.symm HAB.out HWB.out hkn
          rw [← HSE.out] at m1 m2 m3 m4
          have HC1 := hide (fun W hx hD hE => m1 ▸ HCH.out D cd sl (k : Int) E ce ws ad wi (by have := HKL.out; have := HN5.out; omega) (by have := HWL.out; have := HW5L.out; omega) W hx hD hE)
          rw [HKL.out, HWL.out] at HC1
          have HM2 := hide m2
          have HM4 := hide m4
          obtain ⟨m, hm⟩ : ∃ m, m = (chooseP ns rs bs sl k ws ad wi).1.length := ⟨_, rfl⟩
          have HMB := hide (show m ≤ 5 by rw [hm, m3]; have := HN5.out; omega)
          have HML := hide hm.symm
          clear m1 m2 m3 m4 HCH HTO hm
          generalize chooseP ns rs bs sl k ws ad wi = R1 at *
          obtain ⟨xs, N0⟩ := R1
          refine wpAnyH_ready (rs := [10]) (by kernel_rfl) (by simp) ?_
          refine AllReadyH.cons rfl (fun K hK => ?_) AllReadyH.nil
          go_simp
          go_at_call 34
          refine (HC1.out _ hgC hDC hEC).mono ?_
          rintro e w10 ⟨Z, cz, rfl, hZ, _, hn10⟩
          replace hgC := hgC.then_nx hn10
          replace hEC := hEC.nx hn10
          clear hDC hn10 HC1
          go_simp
          refine hK.out _ _ (HBX.out _ hgC) (fun hHeld => ?_)
          clear hK K
          try simp only [Act.put, List.setIfInBounds_toArray, List.set_cons_zero, List.set_cons_succ]
          dsimp only at HM2 HM4 HML hZ
          rw [HML.out]
          refine wpAnyH_take (i := 11) (oi := ⟨some 59, _, _, _, _, _⟩) (v := ?_) rfl (by kernel_rfl) (by kernel_rfl) (by kernel_rfl) (fun _ _ _ h => h) (Or.inl ⟨by rfl, ?_⟩) (by assumption) ?_
          rotate_left 1
          · intro w hSw
            (try dsimp only at hSw)
            go_simp
            try with_reducible rfl
          try simp only [Act.put, List.setIfInBounds_toArray, List.set_cons_zero, List.set_cons_succ]
          refine wpAnyH_take (i := 12) (oi := ⟨some 71, _, _, _, _, _⟩) (v := ?_) rfl (by kernel_rfl) (by kernel_rfl) (by kernel_rfl) (fun _ _ _ h => h) (Or.inl ⟨by rfl, ?_⟩) (by assumption) ?_
          rotate_left 1
          · intro w hSw
            (try dsimp only at hSw)
            go_simp
            try with_reducible rfl
          try simp only [Act.put, List.setIfInBounds_toArray, List.set_cons_zero, List.set_cons_succ]
          refine wpAnyH_take (i := 13) (oi := ⟨some 72, _, _, _, _, _⟩) (v := ?_) rfl (by kernel_rfl) (by kernel_rfl) (by kernel_rfl) (fun _ _ _ h => h) (Or.inl ⟨by rfl, ?_⟩) (by assumption) ?_
          rotate_left 1
          · intro w hSw
            (try dsimp only at hSw)
            go_simp
            try with_reducible rfl
          try simp only [Act.put, List.setIfInBounds_toArray, List.set_cons_zero, List.set_cons_succ]
          refine wpAnyH_take (i := 14) (oi := ⟨some 73, _, _, _, _, _⟩) (v := ?_) rfl (by kernel_rfl) (by kernel_rfl) (by kernel_rfl) (fun _ _ _ h => h) (Or.inl ⟨by rfl, ?_⟩) (by assumption) ?_
          rotate_left 1
          · intro w hSw
            (try dsimp only at hSw)
            go_simp
            try with_reducible rfl
          try simp only [Act.put, List.setIfInBounds_toArray, List.set_cons_zero, List.set_cons_succ]
          refine wpAnyH_take (i := 15) (oi := ⟨some 11, _, _, _, _, _⟩) (v := ?_) rfl (by kernel_rfl) (by kernel_rfl) (by kernel_rfl) (fun _ _ _ h => h) (Or.inl ⟨by rfl, ?_⟩) (by assumption) ?_
          rotate_left 1
          · intro w hSw
            (try dsimp only at hSw)
            go_simp
            try with_reducible rfl
          try simp only [Act.put, List.setIfInBounds_toArray, List.set_cons_zero, List.set_cons_succ]
          refine wpAnyH_take (i := 16) (oi := ⟨some 12, _, _, _, _, _⟩) (v := ?_) rfl (by kernel_rfl) (by kernel_rfl) (by kernel_rfl) (fun _ _ _ h => h) (Or.inl ⟨by rfl, ?_⟩) (by assumption) ?_
          rotate_left 1
          · intro w hSw
            (try dsimp only at hSw)
            go_simp
            try with_reducible rfl
          try simp only [Act.put, List.setIfInBounds_toArray, List.set_cons_zero, List.set_cons_succ]
          refine wpAnyH_take (i := 17) (oi := ⟨some 13, _, _, _, _, _⟩) (v := ?_) rfl (by kernel_rfl) (by kernel_rfl) (by kernel_rfl) (fun _ _ _ h => h) (Or.inl ⟨by rfl, ?_⟩) (by assumption) ?_
          rotate_left 1
          · intro w hSw
            (try dsimp only at hSw)
            go_simp
            try with_reducible rfl
          try simp only [Act.put, List.setIfInBounds_toArray, List.set_cons_zero, List.set_cons_succ]
          refine wpAnyH_done (by kernel_rfl) ?_ _
          clear hHeld W1
          have HZ := hide hZ
          have HE10 := hide hEC
          have HG10 := hide hgC
          clear hZ hEC hgC HSE HKL
          have hmm := @run_makeMap Tryz.prog
          go_wp2_with fail
          clear hmm
          obtain ⟨b, hb⟩ : ∃ b, b = w10.heap.size := ⟨_, rfl⟩
          obtain ⟨w5', hw5'⟩ : ∃ w5', w5' = w10.alloc (.map #[] 0) := ⟨_, rfl⟩
          have HG5 := hide (show Gr w.heap.size w2 w5' from hw5' ▸ HG10.out.then_nx ((Nx.refl w10).alloc _))
          have hM0 : MbI Tryz.prog 9 4 Value.string domS w5' b 0 (fun _ => false) := by rw [hw5', hb]; exact MbI.made w10
          have HM0 := hide hM0
          have HB5 := hide (show b < w5'.heap.size ∧ w2.heap.size ≤ b from ⟨by rw [hw5', hb]; simp, by rw [hb]; exact HG10.out.sz⟩)
          have HXX := hide (fun W (hg : Gr b w5' W) j (hj : j < xs.length) => (show ∃ zb zo, Z = some ⟨zb, zo, none⟩ ∧ W.cell? ⟨zb, zo + j, none⟩ = some (.string (xs.getD j default)) from by
            obtain ⟨zb, zo, e, _, hzb, _, hc⟩ := HZ.out.open_ (Nx.refl w10) (by omega)
            have h1 : w10.cell? ⟨zb, zo + j, none⟩ = some (.string (xs.getD j default)) := by
              rw [List.getD_eq_getElem?_getD, List.getElem?_eq_getElem hj]
              simpa using hc j hj 0 _ rfl
            have h2 : w5'.cell? ⟨zb, zo + j, none⟩ = some (.string (xs.getD j default)) := by rw [hw5']; exact nx_cell ((Nx.refl w10).alloc _) hzb h1
            exact ⟨zb, zo, e, World.grownBy.cell (row := some b) hg h2 (by simp; omega)⟩))
          have HWC := hide (fun W (hg : Gr b w5' W) j (hj : j < ws.length) => (show ∃ eb eo, E = some ⟨eb, eo, none⟩ ∧ W.cell? ⟨eb, eo + j * 2, none⟩ = some (.string (ws.getD j default).node) ∧ W.cell? ⟨eb, eo + j * 2 + 1, none⟩ = some (.int .i64 (ws.getD j default).many) from by
            obtain ⟨eb, eo, e, _, heb, _, hc⟩ := HE10.out.open_ (Nx.refl w10) (by omega)
            have hd : ws.getD j default = ws[j] := by rw [List.getD_eq_getElem?_getD, List.getElem?_eq_getElem hj]; rfl
            have h1 : w10.cell? ⟨eb, eo + j * 2, none⟩ = some (.string (ws.getD j default).node) := by rw [hd]; exact hc j hj 0 _ rfl
            have h1' : w10.cell? ⟨eb, eo + j * 2 + 1, none⟩ = some (.int .i64 (ws.getD j default).many) := by rw [hd]; exact hc j hj 1 _ rfl
            have h2 := fun (p o : Nat) v (hx : p < w10.heap.size) (h : w10.cell? ⟨p, o, none⟩ = some v) => (show w5'.cell? ⟨p, o, none⟩ = some v by rw [hw5']; exact nx_cell ((Nx.refl w10).alloc _) hx h)
            exact ⟨eb, eo, e, World.grownBy.cell (row := some b) hg (h2 _ _ _ heb h1) (by simp; omega), World.grownBy.cell (row := some b) hg (h2 _ _ _ heb h1') (by simp; omega)⟩))
          rw [← hw5', ← hb]
          clear hw5' hb hM0 HZ HE10 HG10
          have HNG := hide (fun W (hg : Gr b w5' W) => (HG5.out.grown (row := some b) hg (fun k e => by injection e with e; have := HB5.out.2; omega)))
          have HMA := hide (momB_true.2 ⟨HAB.out.1, by have := HAB.out.2; omega⟩ : momB ad = true)
          have HW8 := hide (⟨HWB.out.1, by have := HWB.out.2; omega⟩ : 0 ≤ wi ∧ wi ≤ 86400000)
          obtain ⟨RL, hRL⟩ : ∃ RL : ByteArray → List PairS, RL = fun s => reachL ns rs bs s ad wi := ⟨_, rfl⟩
          have HRE2 := hide (fun s (hs : 0 ≤ nodeI ns s) W (hx : Gr w.heap.size w2 W) => (show Calls Tryz.prog 35 #[.agg #[.slice (some ⟨nb, noff, none⟩) nn ca, .slice B1 nr cb, .slice B2 nbb cc], .string s, .int .i64 ad, .int .i64 wi] W (ReachOut W (RL s) 0) by rw [hRL]; exact HRE.out s hs ad wi HMA.out HW8.out W hx))
          have HRL2 := hide (fun s (hs : 0 ≤ nodeI ns s) => (show (RL s).length ≤ nn ∧ ∀ p ∈ RL s, domS p.name by rw [hRL]; exact HRL.out s hs ad wi HMA.out HW8.out))
          have HTA2 := hide (fun t (ht : 0 ≤ nodeI ns t) => (show (xs.any fun s => hasP (RL s) t) = xs.any fun s => reachB ns rs bs ad wi s t by rw [hRL]; exact HTA.out xs t ad wi HM2.out ht HAB.out HWB.out))
          clear hRL HRE HRL HTA
          go_loopw [79] (fun u wr => ∃ j N : Nat, j ≤ m ∧ u = .int .i64 j ∧ Gr b w5' wr ∧ MbI Tryz.prog 9 4 Value.string domS wr b N (fun t => (xs.take j).any fun s => hasP (RL s) t) ∧ N ≤ j * 5) (fun u _ => m - (intOf u).toNat)
          case atStart => exact ⟨0, 0, Nat.zero_le _, rfl, Gr.refl _ _, HM0.out, Nat.zero_le _⟩
          case round =>
            obtain ⟨j, N, hj, rfl, hgw, hM, hN⟩ := hrel
            have hm5 := HMB.out
            have HM := hide hM
            have HGW := hide hgw
            clear hM hgw HM0
            by_cases hlt : j < m
            · have hjl : j < xs.length := by have := HML.out; omega
              obtain ⟨zb, zo, hZ, hcz⟩ := HXX.out wr HGW.out j hjl
              subst hZ
              have hs0 : 0 ≤ nodeI ns (xs.getD j default) := HM2.out _ (by rw [List.getD_eq_getElem?_getD, List.getElem?_eq_getElem hjl]; exact List.getElem_mem hjl)
              have HAT := hide (fun t => (show ((xs.take (j + 1)).any fun s => hasP (RL s) t) = (((xs.take j).any fun s => hasP (RL s) t) || hasP (RL (xs.getD j default)) t) by rw [List.getD_eq_getElem?_getD, List.getElem?_eq_getElem hjl]; exact any_take hjl t))
              obtain ⟨hll, hld⟩ := HRL2.out _ hs0
              have HRC := hide (HRE2.out _ hs0 wr (HNG.out wr HGW.out))
              have HLD := hide hld
              obtain ⟨A, hA⟩ : ∃ A : ByteArray → Bool, A = fun t => (xs.take j).any fun s => hasP (RL s) t := ⟨_, rfl⟩
              rw [← hA] at HM
              have HAT2 := hide (show (fun t => (xs.take (j + 1)).any fun s => hasP (RL s) t) = fun t => A t || hasP (RL (xs.getD j default)) t by rw [hA]; exact funext HAT.out)
              clear hA HAT hld hs0
              generalize RL (xs.getD j default) = L at *
              generalize xs.getD j default = s at *
              obtain ⟨c0, c1, c2⟩ := HBX.out wr (HNG.out wr HGW.out)
              have i1 : (0 : Int) ≤ (j : Int) := by omega
              have i2 : (j : Int) < (m : Int) := by omega
              go_wp2_with fail
              refine HRC.out.mono ?_
              rintro e w11 ⟨Z2, c2', rfl, hR2, hn11⟩
              have HM1 := hide (HM.out.nx hn11)
              have HG11 := hide (HGW.out.then_nx hn11)
              have HR2 := hide hR2
              clear c0 c1 c2 hcz hR2 hn11 HRC
              obtain ⟨lp, hlp⟩ : ∃ lp, lp = L.length := ⟨_, rfl⟩
              rw [← hlp] at hll
              rw [← hlp]
              have HLP := hide hlp
              clear hlp
              have HLC := hide (fun W (hg : Gr b w11 W) i (hi : i < L.length) => (show ∃ pb po, Z2 = some ⟨pb, po, none⟩ ∧ W.cell? ⟨pb, po + i * 2, none⟩ = some (.string (L.getD i default).name) ∧ W.cell? ⟨pb, po + i * 2 + 1, none⟩ = some (.string (L.getD i default).val) from by
                obtain ⟨pb, po, e, _, hpb, _, hc⟩ := HR2.out.open_ (Nx.refl w11) (by omega)
                have hd : L.getD i default = L[i] := by rw [List.getD_eq_getElem?_getD, List.getElem?_eq_getElem hi]; rfl
                have h1 : w11.cell? ⟨pb, po + i * 2, none⟩ = some (.string (L.getD i default).name) := by rw [hd]; exact hc i hi 0 _ rfl
                have h1' : w11.cell? ⟨pb, po + i * 2 + 1, none⟩ = some (.string (L.getD i default).val) := by rw [hd]; exact hc i hi 1 _ rfl
                have hne : pb ≠ b := by rintro rfl; exact HM1.out.ncell h1
                exact ⟨pb, po, e, World.grownBy.cell (row := some b) hg h1 (by simpa using hne), World.grownBy.cell (row := some b) hg h1' (by simpa using hne)⟩))
              clear HR2
              have hlp5 : lp ≤ 5 := Nat.le_trans hll HN5.out
              go_wp2_with fail
              obtain ⟨wo, hwo⟩ : ∃ wo, wo = wr := ⟨_, rfl⟩
              subst hwo
              go_loopw [95] (fun u wr => ∃ i M : Nat, i ≤ lp ∧ u = .int .i64 i ∧ Gr b w11 wr ∧ MbI Tryz.prog 9 4 Value.string domS wr b M (fun t => A t || hasP (L.take i) t) ∧ M ≤ N + i) (fun u _ => lp - (intOf u).toNat)
              case atStart => exact ⟨0, N, Nat.zero_le _, rfl, Gr.refl _ _, by rw [List.take_zero, hasP_nil, show (fun t => A t || false) = A from funext fun t => Bool.or_false _]; exact HM1.out, by omega⟩
              case round =>
                obtain ⟨i, M, hi, rfl, hgi, hMi, hMN⟩ := hrel
                have HMI := hide hMi
                have HGI := hide hgi
                clear hMi hgi HM1
                by_cases hil : i < lp
                · have hil' : i < L.length := by have := HLP.out; omega
                  obtain ⟨pb, po, hZ2, cp0, cp1⟩ := HLC.out wr HGI.out i hil'
                  subst hZ2
                  have hgd : L.getD i default = L[i] := by rw [List.getD_eq_getElem?_getD, List.getElem?_eq_getElem hil']; rfl
                  have hdn : domS (L.getD i default).name := HLD.out _ (by rw [hgd]; exact List.getElem_mem hil')
                  have HPH := hide (show (fun t => if t = (L.getD i default).name then true else (A t || hasP (L.take i) t)) = fun t => A t || hasP (L.take (i + 1)) t by rw [hgd]; exact put_has hil')
                  have hkm := keyS_mk Tryz.underlying9 hdn
                  clear hgd
                  generalize (L.getD i default).name = nm at *
                  generalize (L.getD i default).val = vl at *
                  have j1 : (0 : Int) ≤ (i : Int) := by omega
                  have j2 : (i : Int) < (lp : Int) := by omega
                  have HM2' := hide (HMI.out.nx ((Nx.refl wr).alloc (.cells #[.string nm, .string vl] 84)))
                  go_wp2_with (at_mapUpdate; go_must (refine wpMbPut _ rfl _ _ _ _ rfl law_strR strV_inj Tryz.underlying79 Tryz.underlying4 b M _ rfl HM2'.out (by unfold maxLen; omega) nm rfl _ hkm true rfl ?_); intro w5 hm5 hg5; (have HM5 := hide hm5); clear hm5)
                  go_roundw
                  case rel => exact ⟨i + 1, M + 1, by omega, by go_num, (HGI.out.alloc _).trans hg5, HPH.out ▸ HM5.out, by omega⟩
                  case measure => simp [intOf]; omega
                · obtain rfl : lp = i := by omega
                  have HTL := hide (show L.take lp = L by rw [HLP.out, List.take_length])
                  go_wp2_with fail
                  go_roundw
                  case rel => exact ⟨j + 1, M, by omega, by go_num, HG11.out.trans HGI.out, by rw [HAT2.out]; have := HMI.out; rw [HTL.out] at this; exact this, by omega⟩
                  case measure => simp [intOf]; omega
            · obtain rfl : m = j := by omega
              have HF := hide (show (fun t => (xs.take m).any fun s => hasP (RL s) t) = fun t => xs.any fun s => hasP (RL s) t by rw [← HML.out, List.take_length])
              rw [HF.out] at HM
              have HGQ := hide (HNG.out wr HGW.out)
              obtain ⟨f, hf⟩ : ∃ f : ByteArray → Bool, f = fun t => xs.any fun s => hasP (RL s) t := ⟨_, rfl⟩
              rw [← hf] at HM
              have HFV := hide (fun t (ht : 0 ≤ nodeI ns t) => (show f t = xs.any fun s => reachB ns rs bs ad wi s t by rw [hf]; exact HTA2.out t ht))
              clear hf HF HTA2 HRE2 HRL2 HXX
              generalize hRR : reachB ns rs bs ad wi = RR at *
              clear hRR
              have hwg := wgts_bd HWFE.out.symm
              have HWG := hide (fun i (hi : i < ws.length) => (show 0 ≤ nodeI ns (ws.getD i default).node ∧ 0 ≤ (ws.getD i default).many ∧ (ws.getD i default).many ≤ 1000000000 from hwg.2 _ (by rw [List.getD_eq_getElem?_getD, List.getElem?_eq_getElem hi]; exact List.getElem_mem hi)))
              have HCB := hide (fun i => (show 0 ≤ covS RR xs (ws.drop i) ∧ covS RR xs (ws.drop i) ≤ 1000000000000 from by
                have h1 := covS_bd (r := RR) (l := xs) (ws.drop i) (fun x hx => (hwg.2 x (List.mem_of_mem_drop hx)).2)
                have h2 : (ws.drop i).length ≤ 500 := by rw [List.length_drop]; omega
                exact ⟨h1.1, by omega⟩))
              have HCD := hide (fun i (hi : i < ws.length) => (show covS RR xs (ws.drop i) = (if xs.any (fun s => RR s (ws.getD i default).node) then (ws.getD i default).many else 0) + covS RR xs (ws.drop (i + 1)) by rw [List.getD_eq_getElem?_getD, List.getElem?_eq_getElem hi]; exact covS_drop RR xs ws i hi))
              have HWLL := hide HWL.out
              have hN0 : N0 = covS RR xs (ws.drop 0) := HM4.out
              have HN00 := hide hN0
              clear hwg hN0 HM4
              go_wp2_with fail
              obtain ⟨wq, hwq⟩ : ∃ wq, wq = wr := ⟨_, rfl⟩
              subst hwq
              go_loopw [12, 106] (fun v u wr => ∃ j : Nat, j ≤ wl ∧ v = .int .i64 (covS RR xs (ws.drop j)) ∧ u = .int .i64 j ∧ Nx wq wr) (fun _ u _ => wl - (intOf u).toNat)
              case atStart => exact ⟨0, Nat.zero_le _, by rw [HN00.out], rfl, Nx.refl _⟩
              case round =>
                obtain ⟨i, hi, rfl, rfl, hqw⟩ := hrel
                have hwl5 := HW5L.out
                by_cases hil : i < wl
                · have hil' : i < ws.length := by have := HWLL.out; omega
                  obtain ⟨eb, eo, hE, ce0, ce1⟩ := HWC.out wr (HGW.out.then_nx hqw) i hil'
                  subst hE
                  obtain ⟨g1, g2, g3⟩ := HWG.out i hil'
                  have hcd := HCD.out i hil'
                  have hfv := HFV.out _ g1
                  have hdn := HND.out _ g1
                  obtain ⟨b1, b2⟩ := HCB.out i
                  obtain ⟨b3, b4⟩ := HCB.out (i + 1)
                  have hkm := keyS_mk Tryz.underlying9 hdn
                  rw [← hfv] at hcd
                  clear hfv g1
                  have HLK := hide ((HM.out.nx (hqw.alloc (.cells #[.string (ws.getD i default).node, .int .i64 (ws.getD i default).many] 86))).look law_strR Tryz.underlying79 Tryz.underlying4 (zeroBoolR _) hdn hkm)
                  generalize (ws.getD i default).node = t at *
                  generalize (ws.getD i default).many = q at *
                  generalize covS RR xs (ws.drop i) = z at *
                  generalize hz1 : covS RR xs (ws.drop (i + 1)) = z1 at *
                  have HZ1 := hide hz1
                  have j1 : (0 : Int) ≤ (i : Int) := by omega
                  have j2 : (i : Int) < (wl : Int) := by omega
                  clear hz1
                  cases hft : f t
                  · rw [hft] at hcd HLK
                    replace hcd := hide (show z = z1 by simpa using hcd)
                    have hlk := HLK.out
                    go_wp2_with fail
                    go_roundw
                    case rel => exact ⟨i + 1, by omega, by rw [HZ1.out, hcd.out], by go_num, hqw.alloc _⟩
                    case measure => simp [intOf]; omega
                  · rw [hft] at hcd HLK
                    replace hcd := hide (show z = q + z1 by simpa using hcd)
                    have hlk := HLK.out
                    have W2 : IntKind.i64.wrap (z - q) = z - q := IntWalk.i64_in _ (by omega)
                    go_wp2_with fail
                    go_roundw
                    case rel => exact ⟨i + 1, by omega, by rw [HZ1.out]; have h9 := hcd.out; first | (rw [W2]; congr 1; omega) | (congr 1; omega), by go_num, hqw.alloc _⟩
                    case measure => simp [intOf]; omega
                · obtain rfl : wl = i := by omega
                  have HZZ := hide (show covS RR xs (ws.drop wl) = 0 by rw [List.drop_of_length_le (by have := HWLL.out; omega)]; rfl)
                  rw [HZZ.out]
                  go_wp2_with (go_at_call 33; refine (w_h06facts _).mono ?_; rintro e w12 ⟨rfl, hn12⟩)
                  go_ret
                  exact ⟨rfl, HTG.out _ ((HGQ.out.then_nx hqw).then_nx hn12)⟩
    · have tW : (WF != 0) = true := by simpa using hW
      go_wp2_with (first
        | (go_at_call 15; refine (HRF.out w5 hg25).mono ?_; rintro e w6 ⟨rfl, hn6⟩; (obtain ⟨c3, c4, c5⟩ := HBX.out w6 (hg25.then_nx hn6)))
        | (go_at_call 32; refine (HWF.out w6 (hg25.then_nx hn6) (HE5.out.nx hn6)).mono ?_; rintro e w7 ⟨rfl, hn7⟩)
        | (go_at_call 33; refine (w_h06facts _).mono ?_; rintro e w12 ⟨rfl, hn12⟩))
      go_ret
      exact ⟨rfl, HTG.out _ (((hg25.then_nx hn6).then_nx hn7).then_nx hn12)⟩
  · have tF : (RF != 0) = true := by simpa using hF
    go_wp2_with (first
      | (go_at_call 15; refine (HRF.out w5 hg25).mono ?_; rintro e w6 ⟨rfl, hn6⟩)
      | (go_at_call 33; refine (w_h06facts _).mono ?_; rintro e w12 ⟨rfl, hn12⟩))
    go_ret
    exact ⟨rfl, HTG.out _ ((hg25.then_nx hn6).then_nx hn12)⟩
end Go.Proofs.YtbjbeddjaajdaaaGreatDoor
