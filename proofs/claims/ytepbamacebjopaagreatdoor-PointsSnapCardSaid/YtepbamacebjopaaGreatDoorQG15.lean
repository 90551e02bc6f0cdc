/- The point of an arc that is nearest to a point: the reference's SnapOf (gen_snapr.py). -/
import Derived.Test.YtepbamacebjopaaGreatDoorQSnapP
import Derived.Test.YtepbamacebjopaaGreatDoorQSpotR
import Derived.Test.YtepbamacebjopaaGreatDoorQG12
import Derived.Test.YtepbamacebjopaaGreatDoorQG10
import Derived.Deep.RegionHeld3
import Derived.Test.YtepbamacebjopaaGreatDoorQNewW
import Derived.Test.YtepbamacebjopaaGreatDoorQCheckR
import Derived.Deep.DeepCutAuto
import Derived.Test.YtepbamacebjopaaGreatDoorQG8
import Derived.Test.YtepbamacebjopaaGreatDoorQG7
import Derived.Test.YtepbamacebjopaaGreatDoorQG5
import Derived.Deep.RegionWith
import Derived.Deep.AppendLies
import Derived.Test.YtepbamacebjopaaGreatDoorQRoadT
import Derived.Test.YtepbamacebjopaaGreatDoorQG0
import Derived.Laws.AppendOwn
import Derived.Laws.OwnMore
import Derived.Laws.Bits64
import Derived.WalkKit
import Derived.IntWalk
import Derived.Test.YtepbamacebjopaaGreatDoorQG2
import Derived.StillTailTactics
import Derived.Lib.SliceRun
import Derived.Deep.RegionHeld
import Derived.Deep.Onto
import Derived.Deep.LoopGhost
import Derived.Test.YtepbamacebjopaaGreatDoorQShelfL
namespace Go.Proofs.YtepbamacebjopaaGreatDoor
open Go.RowKit Go.Sort

set_option maxRecDepth 100000 in
set_option maxHeartbeats 8000000 in
theorem w_SnapOf (lo : Nat) (A B C : Option Addr) (ca cb cc : Nat) (ns : List Node) (rs : List Arc) (bs : List Ban) (x y : Int) (w : World)
    (hN : Rd w lo A 3 encNode ns) (hA : RdArcs w lo B rs) (hnl : ns.length ≤ 400) (hal : rs.length ≤ 400) (hF : roadsF ns rs bs = 0) (hpt : isPtB x y = true) :
    Calls Tryz.prog 17 #[.agg #[.slice A ns.length ca, .slice B rs.length cb, .slice C bs.length cc], .int .i64 x, .int .i64 y] w fun e w' => e = .returned (.tuple #[spotAgg (snapV ns rs x y), .bool (decide (0 < rs.length))]) ∧ Nx w w' := by
  obtain ⟨wa, hwa⟩ : ∃ wa, wa = ((w.alloc (.cells #[.slice A ns.length ca, .slice B rs.length cb, .slice C bs.length cc] 30)).alloc (.cells #[.string ⟨#[]⟩, .int .i64 0, .int .i64 0, .int .i64 0, .int .i64 0] 43)).alloc (.cells #[.string ⟨#[]⟩, .int .i64 0, .int .i64 0, .int .i64 0, .int .i64 0] 43) := ⟨_, rfl⟩
  have hna : Nx w wa := hwa ▸ (((Nx.refl w).alloc _).alloc _).alloc _
  have hsz : wa.heap.size = w.heap.size + 3 := by rw [hwa]; simp
  have b0 : wa.cell? ⟨w.heap.size, 0, none⟩ = some (.slice A ns.length ca) := by rw [hwa]; go_simp
  have b1 : wa.cell? ⟨w.heap.size, 1, none⟩ = some (.slice B rs.length cb) := by rw [hwa]; go_simp
  have b2 : wa.cell? ⟨w.heap.size, 2, none⟩ = some (.slice C bs.length cc) := by rw [hwa]; go_simp
  have hr6 : SpotAt wa (w.heap.size + 1) default := by rw [hwa, SpotAt, ((Nx.refl ((w.alloc (.cells #[.slice A ns.length ca, .slice B rs.length cb, .slice C bs.length cc] 30)).alloc (.cells #[.string ⟨#[]⟩, .int .i64 0, .int .i64 0, .int .i64 0, .int .i64 0] 43))).alloc _).block _ (by simp)]; exact hnew (by simp)
  have hr8 : SpotAt wa (w.heap.size + 1 + 1) default := by rw [hwa]; exact hnew (by simp)
  obtain ⟨f1, f2, f3⟩ := roads_ok hF
  have hmap := on_map f1
  obtain ⟨h1, h2⟩ := isPtB_true.1 hpt
  have hxy : OnMap x y := ⟨h1.1, h1.2, h2.1, h2.2⟩
  have HAR := hide (fun k (hk : k < rs.length) => (show 0 ≤ nodeI ns rs[k].from_ ∧ 0 ≤ nodeI ns rs[k].to_ from by
    have h := arc_right f2 hk
    rw [show arcX rs k = rs[k] from arcX_get hk] at h
    exact ⟨h.1, h.2.1⟩))
  obtain ⟨F, hFF⟩ : ∃ F : Arc → SpotV, F = fun a => spotA ns a x y := ⟨_, rfl⟩
  have hfa : ∀ a, F a = spotA ns a x y := fun a => by rw [hFF]
  have HSB := hide (fun (a : Arc) (hf : 0 ≤ nodeI ns a.from_) (ht : 0 ≤ nodeI ns a.to_) => (show BdS (F a) by rw [hfa]; exact spotA_bd (x := x) (y := y) hf ht hmap hxy))
  have HSP := hide (fun (a : Arc) (hf : 0 ≤ nodeI ns a.from_) (ht : 0 ≤ nodeI ns a.to_) W (hx : Nx w W) => (show Calls Tryz.prog 58 #[.agg #[.slice A ns.length ca, .slice B rs.length cb, .slice C bs.length cc], .agg #[.string a.key, .string a.from_, .string a.to_, .int .i64 a.long, .slice a.ka a.knots.length a.kc], .int .i64 x, .int .i64 y] W fun e w' => e = .returned (.agg #[.string (F a).key, .int .i64 ((F a).pn : Int), .int .i64 ((F a).pd : Int), .int .i64 ((F a).fn : Int), .int .i64 ((F a).fd : Int)]) ∧ Nx W w' by
    rw [hfa]
    exact w_spotOnR lo A B C rs.length bs.length ca cb cc ns a x y W (hN.nx hx) (by omega) hf ht hmap hxy))
  have HRES := hide (show snapV ns rs x y = bestS F rs 0 default by rw [hFF]; rfl)
  have HBD := hide (fun j (hj : j < rs.length) i b => bestS_drop F rs j hj i b)
  have HBX := hide (fun W (hx : Nx wa W) => (⟨nx_cell hx (by omega) b0, nx_cell hx (by omega) b1, nx_cell hx (by omega) b2⟩ : W.cell? ⟨w.heap.size, 0, none⟩ = some (.slice A ns.length ca) ∧ W.cell? ⟨w.heap.size, 1, none⟩ = some (.slice B rs.length cb) ∧ W.cell? ⟨w.heap.size, 2, none⟩ = some (.slice C bs.length cc)))
  have HRW := hide (fun W (hx : Nx w W) => (show Rd W lo B 5 encArc rs from hA.1.nx hx))
  have HWA := hide hwa
  have HNA := hide hna
  have HR6 := hide hr6
  have HR8 := hide hr8
  clear hwa hN hA hF b0 b1 b2 hFF hmap hpt f1 f2 f3 h1 h2 hxy hr6 hr8 hna hfa
  obtain ⟨g, hg⟩ : ∃ g, g = w.heap.size := ⟨_, rfl⟩
  have HG := hide (show wa.heap.size = g + 3 by rw [hg]; exact hsz)
  rw [← hg] at HBX HR6 HR8
  clear hsz
  go_enter Tryz.func17, Tryz.ntmps17
  go_upto_region 2 with fail
  rw [← HWA.out, ← hg]
  have HG2 := hide hg
  clear HWA hg
  obtain ⟨m, hm⟩ : ∃ m, m = rs.length := ⟨_, rfl⟩
  rw [← hm] at HBX HSP ⊢
  have HM := hide hm
  clear hm
  obtain ⟨c0, c1, c2⟩ := HBX.out wa (Nx.refl _)
  go_wp2_with fail
  clear c0 c1 c2
  have HOLD := hide (fun W (hg' : Gr (g + 1 + 1) wa W) => (⟨World.grownBy.cell (row := some (g + 1 + 1)) hg' (HBX.out wa (Nx.refl _)).1 (by simp; omega), World.grownBy.cell (row := some (g + 1 + 1)) hg' (HBX.out wa (Nx.refl _)).2.1 (by simp; omega), World.grownBy.cell (row := some (g + 1 + 1)) hg' (HBX.out wa (Nx.refl _)).2.2 (by simp; omega)⟩ : W.cell? ⟨g, 0, none⟩ = some (.slice A ns.length ca) ∧ W.cell? ⟨g, 1, none⟩ = some (.slice B m cb) ∧ W.cell? ⟨g, 2, none⟩ = some (.slice C bs.length cc)))
  have HNW := hide (fun W (hg' : Gr (g + 1 + 1) wa W) => HNA.out.grown (row := some (g + 1 + 1)) hg' (fun k e => by injection e with e; have := HG2.out; omega))
  have H6W := hide (fun W (hg' : Gr (g + 1 + 1) wa W) => (show SpotAt W (g + 1) default from HR6.out.gr hg' (by omega)))
  go_loopw [15] (fun u wr => ∃ (k : Nat) (V : SpotV), k ≤ m ∧ u = .int .i64 k ∧ Gr (g + 1 + 1) wa wr ∧ SpotAt wr (g + 1 + 1) V ∧ BdS V ∧ bestS F rs 0 default = bestS F (rs.drop k) k V) (fun u _ => m - (intOf u).toNat)
  case atStart => exact ⟨0, default, Nat.zero_le _, rfl, Gr.refl _ _, HR8.out, ⟨by decide, by decide, by decide, by decide⟩, rfl⟩
  case round =>
    obtain ⟨k, V, hk, rfl, hgw, hV, hbd, hq⟩ := hrel
    have HV := hide hV
    have HGW := hide hgw
    have HVB := hide hbd
    have HQ := hide hq
    have hxr := HNW.out wr hgw
    have HXR := hide hxr
    clear hV hgw hbd hq
    by_cases hlt : k < m
    · have hlk : k < rs.length := by have := HM.out; omega
      obtain ⟨rb, ro, hBB, _, hrb, _, hc⟩ := (HRW.out wr HXR.out).open_ (Nx.refl wr) (by omega)
      have r0 : wr.cell? ⟨rb, ro + k * 5, none⟩ = some (.string rs[k].key) := hc k hlk 0 _ rfl
      have r1 : wr.cell? ⟨rb, ro + k * 5 + 1, none⟩ = some (.string rs[k].from_) := hc k hlk 1 _ rfl
      have r2 : wr.cell? ⟨rb, ro + k * 5 + 2, none⟩ = some (.string rs[k].to_) := hc k hlk 2 _ rfl
      have r3 : wr.cell? ⟨rb, ro + k * 5 + 3, none⟩ = some (.int .i64 rs[k].long) := hc k hlk 3 _ rfl
      have r4 : wr.cell? ⟨rb, ro + k * 5 + 4, none⟩ = some (.slice rs[k].ka rs[k].knots.length rs[k].kc) := hc k hlk 4 _ rfl
      have HDR := hide (HBD.out k hlk k V)
      obtain ⟨hf, ht⟩ := HAR.out k hlk
      clear hc
      subst hBB
      generalize rs[k] = a at *
      have HBS := hide (HSB.out a hf ht)
      have HS1 := hide (fun W hx => HSP.out a hf ht W hx)
      clear hf ht hxr
      generalize F a = T at *
      obtain ⟨wq, hwq⟩ : ∃ wq, wq = wr.alloc (.cells #[.string a.key, .string a.from_, .string a.to_, .int .i64 a.long, .slice a.ka a.knots.length a.kc] 37) := ⟨_, rfl⟩
      have hnq : Nx wr wq := hwq ▸ (Nx.refl wr).alloc _
      obtain ⟨aq, haq⟩ : ∃ aq, aq = wr.heap.size := ⟨_, rfl⟩
      have a0 : wq.cell? ⟨aq, 0, none⟩ = some (.string a.key) := by rw [hwq, haq]; go_simp
      have a1 : wq.cell? ⟨aq, 1, none⟩ = some (.string a.from_) := by rw [hwq, haq]; go_simp
      have a2 : wq.cell? ⟨aq, 2, none⟩ = some (.string a.to_) := by rw [hwq, haq]; go_simp
      have a3 : wq.cell? ⟨aq, 3, none⟩ = some (.int .i64 a.long) := by rw [hwq, haq]; go_simp
      have a4 : wq.cell? ⟨aq, 4, none⟩ = some (.slice a.ka a.knots.length a.kc) := by rw [hwq, haq]; go_simp
      have HNQ := hide hnq
      have HWQ := hide hwq
      have HAQ := hide haq
      obtain ⟨c0, c1, c2⟩ := HOLD.out wq (HGW.out.then_nx hnq)
      have hkm : (k : Int) < (m : Int) := by omega
      have hk0 : (0 : Int) ≤ (k : Int) := by omega
      clear hnq hwq haq
      go_upto_region 5 with fail
      rw [← HWQ.out, ← HAQ.out]
      clear r0 r1 r2 r3 r4 HWQ HAQ
      go_wp2_with fail
      refine (HS1.out wq (HXR.out.trans HNQ.out)).mono ?_
      rintro e w5 ⟨rfl, hn5⟩
      have HN5 := hide (HNQ.out.trans hn5)
      clear a0 a1 a2 a3 a4 c0 c1 c2 hn5 HS1 HNQ
      go_upto_region 6 with fail
      obtain ⟨sq, hsq⟩ : ∃ sq, sq = w5.heap.size := ⟨_, rfl⟩
      obtain ⟨w7, hw7⟩ : ∃ w7, w7 = w5.alloc (.cells #[.string T.key, .int .i64 (T.pn : Int), .int .i64 (T.pd : Int), .int .i64 (T.fn : Int), .int .i64 (T.fd : Int)] 43) := ⟨_, rfl⟩
      have hQ7 : SpotAt w7 sq T := by rw [hw7]; exact hnew hsq
      have hx7 : Nx wr w7 := HN5.out.trans (hw7 ▸ (Nx.refl w5).alloc _)
      have hV7 : SpotAt w7 (g + 1 + 1) V := HV.out.nx hx7
      rw [← hsq, ← hw7]
      clear hw7 hsq
      obtain ⟨q0, q1, q2, q3, q4⟩ := hQ7.cells
      obtain ⟨v0, v1, v2, v3, v4⟩ := hV7.cells
      have z0 := hV7.open_ 0
      have z1 := hV7.open_ 1
      have z2 := hV7.open_ 2
      have z3 := hV7.open_ 3
      have z4 := hV7.open_ 4
      have hsl := lt_of_heap hQ7
      have HV7 := hide hV7
      have HX7 := hide hx7
      have HGF := hide (fun (U' : SpotV) => ((((((HGW.out.then_nx hx7).setS (p := ⟨g + 1 + 1, 0, none⟩) (Or.inl rfl) (.string U'.key)).setS (p := ⟨g + 1 + 1, 1, none⟩) (Or.inl rfl) (.int .i64 (U'.pn : Int))).setS (p := ⟨g + 1 + 1, 2, none⟩) (Or.inl rfl) (.int .i64 (U'.pd : Int))).setS (p := ⟨g + 1 + 1, 3, none⟩) (Or.inl rfl) (.int .i64 (U'.fn : Int))).setS (p := ⟨g + 1 + 1, 4, none⟩) (Or.inl rfl) (.int .i64 (U'.fd : Int))))
      clear hQ7 hV7 hx7
      by_cases hk9 : k = 0
      · have HD := hide (HDR.out.trans (by rw [if_pos hk9] : _ = bestS F (rs.drop (k + 1)) (k + 1) T))
        have tk : ((k : Int) == 0) = true := by rw [hk9]; rfl
        clear hk9
        go_wp2_with fail
        go_roundw
        case rel => exact ⟨k + 1, T, by omega, by go_num, HGF.out T, HV7.out.put, HBS.out, HQ.out.trans HD.out⟩
        case measure => simp [intOf]; omega
      · have HD := hide (HDR.out.trans (by rw [if_neg hk9] : _ = bestS F (rs.drop (k + 1)) (k + 1) (if nearerB T V then T else V)))
        have tk : ((k : Int) == 0) = false := by rw [beq_eq_false_iff_ne]; omega
        have HCP := hide (fun W => w_less T.fn T.fd V.fn V.fd W (by have := HBS.out.2.2.1; omega) (by have := HBS.out.2.2.2; omega) (by have := HVB.out.2.2.1; omega) (by have := HVB.out.2.2.2; omega))
        clear hk9
        by_cases hb : T.fn * V.fd < V.fn * T.fd
        · have HN9 := hide (show (if nearerB T V then T else V) = T by unfold nearerB; rw [decide_eq_true hb]; rfl)
          rw [decide_eq_true hb] at HCP
          clear hb
          have HV8 := hide (fun W (hn : Nx w7 W) => HV7.out.nx hn)
          go_wp2_with (go_at_call 59; refine (HCP.out _).mono ?_; rintro e w9 ⟨rfl, hn9⟩; (obtain ⟨m0, m1, m2, m3, m4⟩ := (HV7.out.nx hn9).cells); (have y0 := (HV7.out.nx hn9).open_ 0); (have y1 := (HV7.out.nx hn9).open_ 1); (have y2 := (HV7.out.nx hn9).open_ 2); (have y3 := (HV7.out.nx hn9).open_ 3); (have y4 := (HV7.out.nx hn9).open_ 4); (have x0 := nx_cell hn9 hsl q0); (have x1 := nx_cell hn9 hsl q1); (have x2 := nx_cell hn9 hsl q2); (have x3 := nx_cell hn9 hsl q3); (have x4 := nx_cell hn9 hsl q4))
          go_roundw
          case rel => exact ⟨k + 1, T, by omega, by go_num, ((((((HGW.out.then_nx (HX7.out.trans hn9)).setS (p := ⟨g + 1 + 1, 0, none⟩) (Or.inl rfl) _).setS (p := ⟨g + 1 + 1, 1, none⟩) (Or.inl rfl) _).setS (p := ⟨g + 1 + 1, 2, none⟩) (Or.inl rfl) _).setS (p := ⟨g + 1 + 1, 3, none⟩) (Or.inl rfl) _).setS (p := ⟨g + 1 + 1, 4, none⟩) (Or.inl rfl) _), (HV7.out.nx hn9).put, HBS.out, by rw [HQ.out, HD.out, HN9.out]⟩
          case measure => simp [intOf]; omega
        · have HN9 := hide (show (if nearerB T V then T else V) = V by unfold nearerB; rw [decide_eq_false hb]; rfl)
          rw [decide_eq_false hb] at HCP
          clear hb
          go_wp2_with (go_at_call 59; refine (HCP.out _).mono ?_; rintro e w9 ⟨rfl, hn9⟩)
          go_roundw
          case rel => exact ⟨k + 1, V, by omega, by go_num, HGW.out.then_nx (HX7.out.trans hn9), HV7.out.nx hn9, HVB.out, by rw [HQ.out, HD.out, HN9.out]⟩
          case measure => simp [intOf]; omega
    · obtain rfl : m = k := by omega
      have HE := hide (show bestS F rs 0 default = V by rw [HQ.out, List.drop_of_length_le (by have := HM.out; omega)]; rfl)
      rw [HE.out] at HRES
      have hb1 := (HOLD.out wr HGW.out).2.1
      obtain ⟨v0, v1, v2, v3, v4⟩ := HV.out.cells
      have h6 : SpotAt wr (g + 1) default := H6W.out wr HGW.out
      obtain ⟨k0, k1, k2, k3, k4⟩ := h6.cells
      have z0 := h6.open_ 0
      have z1 := h6.open_ 1
      have z2 := h6.open_ 2
      have z3 := h6.open_ 3
      have z4 := h6.open_ 4
      have HK1 := hide hb1
      obtain ⟨n0, n1, n2, n3, n4⟩ := cells5 (w := wr) (v0 := .string V.key) (v1 := .int .i64 (V.pn : Int)) (v2 := .int .i64 (V.pd : Int)) (v3 := .int .i64 (V.fn : Int)) (v4 := .int .i64 (V.fd : Int)) k0 k1 k2 k3 k4
      have hfin := ((((((hxr).setCell (p := ⟨g + 1, 0, none⟩) (by simp; rw [HG2.out]; omega) (.string V.key)).setCell (p := ⟨g + 1, 1, none⟩) (by simp; rw [HG2.out]; omega) (.int .i64 (V.pn : Int))).setCell (p := ⟨g + 1, 2, none⟩) (by simp; rw [HG2.out]; omega) (.int .i64 (V.pd : Int))).setCell (p := ⟨g + 1, 3, none⟩) (by simp; rw [HG2.out]; omega) (.int .i64 (V.fn : Int))).setCell (p := ⟨g + 1, 4, none⟩) (by simp; rw [HG2.out]; omega) (.int .i64 (V.fd : Int))).drew
      have HFIN := hide hfin
      have hgb : g + 1 + 1 ≠ g + 1 := by omega
      have hgb2 : g ≠ g + 1 := by omega
      clear h6 hb1 hfin hxr
      go_upto_region 9 with fail
      have HK0 := hide (⟨v0, v1, v2, v3, v4, HK1.out⟩ : wr.cell? ⟨g + 1 + 1, 0, none⟩ = some (.string V.key) ∧ wr.cell? ⟨g + 1 + 1, 1, none⟩ = some (.int .i64 (V.pn : Int)) ∧ wr.cell? ⟨g + 1 + 1, 2, none⟩ = some (.int .i64 (V.pd : Int)) ∧ wr.cell? ⟨g + 1 + 1, 3, none⟩ = some (.int .i64 (V.fn : Int)) ∧ wr.cell? ⟨g + 1 + 1, 4, none⟩ = some (.int .i64 (V.fd : Int)) ∧ wr.cell? ⟨g, 1, none⟩ = some (.slice B m cb))
      refine wp_region_held_drew (S := fun W => W.cell? ⟨g + 1 + 1, 0, none⟩ = some (.string V.key) ∧ W.cell? ⟨g + 1 + 1, 1, none⟩ = some (.int .i64 (V.pn : Int)) ∧ W.cell? ⟨g + 1 + 1, 2, none⟩ = some (.int .i64 (V.pd : Int)) ∧ W.cell? ⟨g + 1 + 1, 3, none⟩ = some (.int .i64 (V.fn : Int)) ∧ W.cell? ⟨g + 1 + 1, 4, none⟩ = some (.int .i64 (V.fd : Int)) ∧ W.cell? ⟨g, 1, none⟩ = some (.slice B m cb)) (by kernel_rfl) HK0.out (fun hHeld => ?_)
      refine wpAnyH_take (i := 0) (oi := ⟨some 36, _, _, _, _, _⟩) (v := ?_) rfl (by kernel_rfl) (by kernel_rfl) (by kernel_rfl) (fun _ _ _ h => h) (Or.inl ⟨by rfl, ?_⟩) (by assumption) ?_
      rotate_left 1
      · intro w hSw
        (try dsimp only at hSw)
        go_simp
        try with_reducible rfl
      try simp only [Act.put, List.setIfInBounds_toArray, List.set_cons_zero, List.set_cons_succ]
      refine wpAnyH_take (i := 1) (oi := ⟨some 37, _, _, _, _, _⟩) (v := ?_) rfl (by kernel_rfl) (by kernel_rfl) (by kernel_rfl) (fun _ _ _ h => h) (Or.inl ⟨by rfl, ?_⟩) (by assumption) ?_
      rotate_left 1
      · intro w hSw
        (try dsimp only at hSw)
        go_simp
        try with_reducible rfl
      try simp only [Act.put, List.setIfInBounds_toArray, List.set_cons_zero, List.set_cons_succ]
      refine wpAnyH_take (i := 2) (oi := ⟨some 38, _, _, _, _, _⟩) (v := ?_) rfl (by kernel_rfl) (by kernel_rfl) (by kernel_rfl) (fun _ _ _ h => h) (Or.inl ⟨by rfl, ?_⟩) (by assumption) ?_
      rotate_left 1
      · intro w hSw
        (try dsimp only at hSw)
        go_simp
        try with_reducible rfl
      try simp only [Act.put, List.setIfInBounds_toArray, List.set_cons_zero, List.set_cons_succ]
      refine wpAnyH_take (i := 3) (oi := ⟨some 39, _, _, _, _, _⟩) (v := ?_) rfl (by kernel_rfl) (by kernel_rfl) (by kernel_rfl) (fun _ _ _ h => h) (Or.inl ⟨by rfl, ?_⟩) (by assumption) ?_
      rotate_left 1
      · intro w hSw
        (try dsimp only at hSw)
        go_simp
        try with_reducible rfl
      try simp only [Act.put, List.setIfInBounds_toArray, List.set_cons_zero, List.set_cons_succ]
      refine wpAnyH_take (i := 4) (oi := ⟨some 40, _, _, _, _, _⟩) (v := ?_) rfl (by kernel_rfl) (by kernel_rfl) (by kernel_rfl) (fun _ _ _ h => h) (Or.inl ⟨by rfl, ?_⟩) (by assumption) ?_
      rotate_left 1
      · intro w hSw
        (try dsimp only at hSw)
        go_simp
        try with_reducible rfl
      try simp only [Act.put, List.setIfInBounds_toArray, List.set_cons_zero, List.set_cons_succ]
      refine wpAnyH_ready (rs := [5]) (by kernel_rfl) (by simp) ?_
      refine AllReadyH.cons rfl (fun K hK => ?_) AllReadyH.nil
      go_simp
      refine hK.out _ _ (by simp [World.cell?_setCell_other, v0, v1, v2, v3, v4, HK1.out]) (fun hHeld => ?_)
      clear hK K
      try simp only [Act.put, List.setIfInBounds_toArray, List.set_cons_zero, List.set_cons_succ]
      refine wpAnyH_take (i := 6) (oi := ⟨some 7, _, _, _, _, _⟩) (v := ?_) rfl (by kernel_rfl) (by kernel_rfl) (by kernel_rfl) (fun _ _ _ h => h) (Or.inl ⟨by rfl, ?_⟩) (by assumption) ?_
      rotate_left 1
      · intro w hSw
        (try dsimp only at hSw)
        go_simp
        try with_reducible rfl
      try simp only [Act.put, List.setIfInBounds_toArray, List.set_cons_zero, List.set_cons_succ]
      refine wpAnyH_done (by kernel_rfl) ?_ _
      go_wp2_with fail
      refine bodyPost_ret (v := .tuple #[.agg #[.string V.key, .int .i64 (V.pn : Int), .int .i64 (V.pd : Int), .int .i64 (V.fn : Int), .int .i64 (V.fd : Int)], .bool (decide (0 < m))]) ?_ rfl ⟨?_, HFIN.out⟩
      · have hd : ∀ (W : World) a, W.drew.cell? a = W.cell? a := fun _ _ => rfl
        simp [results, Tryz.results17, go_sem, hd, n0, n1, n2, n3, n4]
      · rw [HRES.out, ← HM.out]
        rfl
end Go.Proofs.YtepbamacebjopaaGreatDoor
/- How long arcs are: the program. -/
namespace Go.Proofs.YtepbamacebjopaaGreatDoor
open Go.RowKit

theorem knots_ok {ns : List Node} {rs : List Arc} (h : chk (arcF ns) none rs = 0) : ∀ x ∈ rs, KOk x.knots :=
  chk_all (F := arcF ns) (fun _ _ hx => knotsF_chk (arcG_ok (arcF_ok hx).2).2.2.2.2) rs none h
end Go.Proofs.YtepbamacebjopaaGreatDoor
/- Both ends of a way asked for. -/
namespace Go.Proofs.YtepbamacebjopaaGreatDoor
open Go.RowKit
set_option maxRecDepth 100000 in
set_option maxHeartbeats 4000000 in
theorem w_Ends (g0 lo : Nat) (A B C : Option Addr) (ca cb cc : Nat) (ns : List Node) (rs : List Arc) (bs : List Ban) (f t : ByteArray) (ad : Int) (i j : Nat) (w : World) (hBox : BoxR w g0 lo A B C ca cb cc ns rs bs) (hS : SmallN ns) (hF : roadsF ns rs bs = 0) (hOK : NewOk ns rs bs) (hi : nodeI ns f = (i : Int)) (hj : nodeI ns t = (j : Int)) (ha : momB ad = true) :
    Calls Tryz.prog 38 #[.pointer (some ⟨g0, 0, none⟩), .string f, .string t, .int .i64 ad] w fun e w' => ∃ (bm : Nat) (M : MapA), e = .returned (.tuple #[.pointer (some ⟨bm, 0, none⟩), .int .i64 (i : Int), .int .i64 (j : Int), .int .i64 0]) ∧ w.heap.size ≤ bm ∧ MapR w' bm g0 lo A B C ca cb cc M ns rs bs ∧ Nx w w' := by
  have b0 := hBox.g0
  have b1 := hBox.g1
  have b2 := hBox.g2
  have HC := hide (w_CheckRoads lo lo lo A B C ca cb cc ns rs bs w hBox.hN hS hBox.nl hBox.hA hBox.al hBox.hB hBox.bl)
  have HB := hide hBox
  have HF := hide hF
  have HOK := hide hOK
  have HI := hide hi
  have HJ := hide hj
  have ti : decide ((i : Int) < 0) = false := decide_eq_false (by omega)
  have tj : decide ((j : Int) < 0) = false := decide_eq_false (by omega)
  clear hBox hF hOK hi hj
  go_enter Tryz.func38, Tryz.ntmps38
  go_wp2_with fail
  refine (HC.out).mono ?_
  rintro e w1 ⟨rfl, hn1⟩
  rw [HF.out]
  clear b0 b1 b2
  have HN1 := hide hn1
  clear hn1
  go_wp2_with fail
  have hb1 := HB.out.nx HN1.out
  have hA := w_nodeR g0 lo A ca ns f w1 hb1.g0 hb1.hN (by have := hb1.nl; omega) HOK.out.sn
  rw [HI.out] at hA
  refine hA.mono ?_
  rintro e w2 ⟨rfl, hn2⟩
  have HN2 := hide (HN1.out.trans hn2)
  clear hn2 hA hb1
  go_wp2_with fail
  have hb1 := HB.out.nx HN2.out
  have hA := w_nodeR g0 lo A ca ns t w2 hb1.g0 hb1.hN (by have := hb1.nl; omega) HOK.out.sn
  rw [HJ.out] at hA
  refine hA.mono ?_
  rintro e w3 ⟨rfl, hn3⟩
  have HN3 := hide (HN2.out.trans hn3)
  clear hn3 hA hb1
  go_wp2_with fail
  refine (w_Moment _ _).mono ?_
  rintro e w4 ⟨rfl, rfl⟩
  rw [ha]
  go_wp2_with fail
  refine (w_New g0 lo A B C ca cb cc ns rs bs w3 (HB.out.nx HN3.out) HOK.out).mono ?_
  rintro e w5 ⟨bm, M, rfl, hbm, hM, hn5⟩
  have HM := hide hM
  have HN5 := hide (HN3.out.trans hn5)
  have HBM := hide (Nat.le_trans HN3.out.sz hbm)
  clear hM hn5 hbm
  go_wp2_with fail
  exact bodyPost_ret (v := .tuple #[.pointer (some ⟨bm, 0, none⟩), .int .i64 (i : Int), .int .i64 (j : Int), .int .i64 0]) (by simp [results, Tryz.results38, go_sem]) rfl ⟨bm, M, rfl, HBM.out, HM.out, HN5.out⟩
end Go.Proofs.YtepbamacebjopaaGreatDoor
/- Plain: the reference's out times, asked until nothing gets better; when one can leave at the latest. -/
namespace Go.Proofs.YtepbamacebjopaaGreatDoor

def betB (g : Gph) (o : List Int) (i : Nat) (t : Int) : Bool := decide (t < endT) && decide (g.out i t < gi o i)
def betO (g : Gph) (o : List Int) (i : Nat) (t : Int) : List Int := if betB g o i t then o.set i (g.out i t) else o
def sumO : List Int → Nat
  | [] => 0
  | x :: l => x.toNat + sumO l
theorem sumO_set : ∀ (l : List Int) (i : Nat) (v : Int), i < l.length → 0 ≤ v → v < gi l i → sumO (l.set i v) < sumO l
  | [], i, v, h, _, _ => absurd h (by simp)
  | x :: l, 0, v, _, h0, h1 => by
    have h1 : v < x := h1
    show v.toNat + sumO l < x.toNat + sumO l
    omega
  | x :: l, i + 1, v, h, h0, h1 => by
    have := sumO_set l i v (by simpa using h) h0 h1
    show x.toNat + sumO (l.set i v) < x.toNat + sumO l
    omega
theorem sumO_rep (n : Nat) : sumO (List.replicate n endT) = n * endT.toNat := by
  induction n with
  | zero => rw [Nat.zero_mul]; rfl
  | succ n ih => rw [List.replicate_succ, Nat.succ_mul]; show endT.toNat + sumO _ = _; omega
section
variable {g : Gph} {a : Nat} {at_ : Int}
structure OutInv (g : Gph) (a : Nat) (at_ : Int) (o : List Int) : Prop where
  len : o.length = g.m
  sound : ∀ k, k < g.m → gi o k = endT ∨ Rch g a at_ k (gi o k)
theorem OutInv.bd (hg : GOk g) (h0 : 0 ≤ at_) {o : List Int} (h : OutInv g a at_ o) {k : Nat} (hk : k < g.m) : 0 ≤ gi o k ∧ gi o k ≤ endT := by
  rcases h.sound k hk with e | e
  · rw [e]; decide
  · have := e.ge hg h0; omega
theorem outInv_new : OutInv g a at_ (List.replicate g.m endT) :=
  ⟨by simp, fun k hk => .inl (by unfold gi; simp [hk])⟩
theorem OutInv.bet (hg : GOk g) (_h0 : 0 ≤ at_) {o : List Int} (h : OutInv g a at_ o) {i : Nat} {t : Int} (hi : i < g.m) (hR : t < endT → g.out i t < endT → Rch g a at_ i (g.out i t)) : OutInv g a at_ (betO g o i t) := by
  unfold betO
  cases hb : betB g o i t with
  | false => rw [if_neg (by simp)]; exact h
  | true =>
    rw [if_pos rfl]
    unfold betB at hb
    simp only [Bool.and_eq_true, decide_eq_true_eq] at hb
    have hbd := h.bd hg _h0 hi
    refine ⟨by simpa using h.len, fun k hk => ?_⟩
    rw [gi_set _ _ _ _ (by rw [h.len]; exact hi)]
    split
    · rename_i e; subst e
      exact .inr (hR hb.1 (by omega))
    · exact h.sound k hk
theorem OutInv.low (hg : GOk g) (_h0 : 0 ≤ at_) {o : List Int} (h : OutInv g a at_ o) {i : Nat} {t : Int} (hi : i < g.m) (ht : 0 ≤ t) (hb : betB g o i t = true) : sumO (betO g o i t) < sumO o := by
  unfold betO
  rw [hb, if_pos rfl]
  unfold betB at hb
  simp only [Bool.and_eq_true, decide_eq_true_eq] at hb
  have := hg.gt i t hi ht
  exact sumO_set o i _ (by rw [h.len]; exact hi) (by omega) hb.2
/-- In a round: o0 is what it began with; ag: something got better. -/
structure RInv (g : Gph) (a : Nat) (at_ : Int) (o0 o : List Int) (ag : Bool) (D0 : Nat → Prop) (D1 : Nat → Nat → Prop) : Prop where
  inv : OutInv g a at_ o
  same : ag = false → o = o0 ∧ (∀ i, i < g.m → D0 i → g.from_ i = a → g.out i at_ < endT → gi o i ≤ g.out i at_) ∧
    ∀ k i, k < g.m → i < g.m → D1 k i → g.from_ i = g.to_ k → g.ban k i = false → gi o k < endT → gi o i ≤ g.out i (gi o k)
  less : ag = true → sumO o < sumO o0
theorem RInv.start {o : List Int} (h : OutInv g a at_ o) : RInv g a at_ o o false (fun _ => False) (fun _ _ => False) :=
  ⟨h, fun _ => ⟨rfl, fun _ _ hf => hf.elim, fun _ _ _ _ hf => hf.elim⟩, fun h => by cases h⟩
theorem RInv.mono {o0 o : List Int} {ag : Bool} {D0 D0' : Nat → Prop} {D1 D1' : Nat → Nat → Prop} (h : RInv g a at_ o0 o ag D0 D1)
    (h0 : ∀ i, i < g.m → g.from_ i = a → D0' i → D0 i) (h1 : ∀ k i, k < g.m → i < g.m → g.from_ i = g.to_ k → g.ban k i = false → D1' k i → D1 k i) : RInv g a at_ o0 o ag D0' D1' :=
  ⟨h.inv, fun e => ⟨(h.same e).1, fun i hi hd hf => (h.same e).2.1 i hi (h0 i hi hf hd) hf, fun k i hk hi hd hf hb => (h.same e).2.2 k i hk hi (h1 k i hk hi hf hb hd) hf hb⟩, h.less⟩
theorem RInv.step (hg : GOk g) (h0 : 0 ≤ at_) {o0 o : List Int} {ag : Bool} {D0 : Nat → Prop} {D1 : Nat → Nat → Prop} (h : RInv g a at_ o0 o ag D0 D1) {i : Nat} {t : Int} (hi : i < g.m) (ht : 0 ≤ t)
    (hR : t < endT → g.out i t < endT → Rch g a at_ i (g.out i t)) {D0' : Nat → Prop} {D1' : Nat → Nat → Prop}
    (hd : betB g o i t = false → (∀ j, j < g.m → g.from_ j = a → D0' j → D0 j ∨ (j = i ∧ t = at_ ∧ at_ < endT)) ∧ (∀ k j, k < g.m → j < g.m → g.from_ j = g.to_ k → g.ban k j = false → D1' k j → D1 k j ∨ (j = i ∧ t = gi o k))) :
    RInv g a at_ o0 (betO g o i t) (ag || betB g o i t) D0' D1' := by
  refine ⟨h.inv.bet hg h0 hi hR, fun e => ?_, fun e => ?_⟩
  · rw [Bool.or_eq_false_iff] at e
    obtain ⟨h1, h2, h3⟩ := h.same e.1
    obtain ⟨d0, d1⟩ := hd e.2
    have eo : betO g o i t = o := by unfold betO; rw [e.2, if_neg (by simp)]
    have hnb : t < endT → gi o i ≤ g.out i t := by
      intro h4
      have h5 := e.2
      unfold betB at h5
      rw [decide_eq_true h4, Bool.true_and] at h5
      have := of_decide_eq_false h5
      omega
    rw [eo]
    refine ⟨h1, fun j hj hdj hf he => ?_, fun k j hk hj hdj hf hb he => ?_⟩
    · rcases d0 j hj hf hdj with hx | ⟨rfl, rfl, hx⟩
      · exact h2 j hj hx hf he
      · exact hnb hx
    · rcases d1 k j hk hj hf hb hdj with hx | ⟨rfl, rfl⟩
      · exact h3 k j hk hj hx hf hb he
      · exact hnb he
  · cases hb : betB g o i t with
    | true =>
      have h1 := h.inv.low hg h0 hi ht hb
      cases hag : ag with
      | true => have := h.less hag; omega
      | false => rw [(h.same hag).1] at h1 ⊢; exact h1
    | false =>
      have eo : betO g o i t = o := by unfold betO; rw [hb, if_neg (by simp)]
      rw [eo]
      rw [hb, Bool.or_false] at e
      exact h.less e
theorem RInv.sol {o0 o : List Int} {D0 : Nat → Prop} {D1 : Nat → Nat → Prop} (h : RInv g a at_ o0 o false D0 D1) (h0 : ∀ i, i < g.m → D0 i) (h1 : ∀ k i, k < g.m → i < g.m → D1 k i) : OutSol g a at_ o :=
  ⟨h.inv.len, h.inv.sound, fun i hi hf he => (h.same rfl).2.1 i hi (h0 i hi) hf he, fun k i hk hi hf hb he => (h.same rfl).2.2 k i hk hi (h1 k i hk hi) hf hb he⟩
end
/-- When one is at a node at the earliest (endT: never). -/
def arrG (g : Gph) (a b : Nat) (at_ : Int) : Int := firstV (searchG g a at_) b
section
variable {g : Gph}
theorem arrG_ok (hg : GOk g) {a b : Nat} {at_ : Int} (h0 : 0 ≤ at_) (ha : a < g.nn) (hb : b < g.nn) : Arrives g a at_ b (arrG g a b at_) := (search_found hg h0 ha).arr h0 hb
theorem arrG_self (hg : GOk g) {a : Nat} {at_ : Int} (h0 : 0 ≤ at_) (ha : a < g.nn) : arrG g a a at_ = at_ := (arrG_ok hg h0 ha ha).uniq (.inl ⟨rfl, rfl⟩)
theorem arrG_mono (hg : GOk g) {a b : Nat} {t t' : Int} (h0 : 0 ≤ t) (h : t ≤ t') (he : t' < endT) (ha : a < g.nn) (hb : b < g.nn) : arrG g a b t ≤ arrG g a b t' :=
  (arrG_ok hg h0 ha hb).later hg h0 h he (arrG_ok hg (by omega) ha hb)
theorem arrG_sol (hg : GOk g) {a b : Nat} {at_ : Int} (h0 : 0 ≤ at_) (ha : a < g.nn) (hb : b < g.nn) {o : List Int} (h : OutSol g a at_ o) (hab : a ≠ b) : leastTo g o b g.m = arrG g a b at_ := (h.arr hg h0 hab).uniq (arrG_ok hg h0 ha hb)
/-- When one can leave at the latest; -1: never. -/
structure LeaveOk (g : Gph) (a b : Nat) (by_ L : Int) : Prop where
  low : -1 ≤ L
  high : L ≤ by_
  ok : 0 ≤ L → arrG g a b L ≤ by_
  last : L < by_ → ¬ arrG g a b (L + 1) ≤ by_
theorem LeaveOk.uniq (hg : GOk g) {a b : Nat} {by_ L L' : Int} (ha : a < g.nn) (hb : b < g.nn) (he : by_ < endT) (h : LeaveOk g a b by_ L) (h' : LeaveOk g a b by_ L') : L = L' := by
  have key : ∀ {L L' : Int}, LeaveOk g a b by_ L → LeaveOk g a b by_ L' → ¬ L < L' := by
    intro L L' h h' hlt
    have h1 := h.low
    have h2 := h'.high
    refine h.last (by omega) (Int.le_trans (arrG_mono hg (t := L + 1) (t' := L') (by omega) (by omega) (by omega) ha hb) (h'.ok (by omega)))
  have := key h h'
  have := key h' h
  omega
end
end Go.Proofs.YtepbamacebjopaaGreatDoor
/- Plain: what Fastest and Latest answer; a way that is right. -/
namespace Go.Proofs.YtepbamacebjopaaGreatDoor

/-- What is wrong with right roads' ends and a moment. -/
def endsF (ns : List Node) (rs : List Arc) (bs : List Ban) (f t : ByteArray) (ad : Int) : Int :=
  if roadsF ns rs bs = 0 then (if nodeI ns f < 0 ∨ nodeI ns t < 0 then 8 else if momB ad then 0 else 1) else roadsF ns rs bs
end Go.Proofs.YtepbamacebjopaaGreatDoor
/- The library's heap over the queue: Push, Pop. -/
namespace Go.Proofs.YtepbamacebjopaaGreatDoor
open Go.RowKit

section
variable {base gq : Nat} {w w' : World} {l : List Ext}
theorem own_take {e : TypeId} {K n cap g k : Nat} {xs : List Value} (h : w.ownsRow base e K (.slice (some ⟨g, 0, none⟩) n cap) n xs) (hk : k ≤ n) : w.ownsRow base e K (.slice (some ⟨g, 0, none⟩) k cap) k (xs.take (k * K)) := by
  obtain ⟨h1, h2⟩ := h
  have hkK : k * K ≤ n * K := Nat.mul_le_mul_right K hk
  refine ⟨by rw [List.length_take]; omega, .inr ?_⟩
  rcases h2 with ⟨h2, _⟩ | ⟨g', cap', cur, h2, hb, hg, hn, hm, hs, ht⟩
  · cases h2
  · injection h2 with a1 a2 a3
    injection a1 with a1
    injection a1 with a1
    subst a1 a3
    exact ⟨g, cap, cur, rfl, hb, hg, by omega, hm, hs, by rw [← ht, List.take_take, Nat.min_eq_left hkK]⟩
theorem own_cap {e : TypeId} {K n cap g : Nat} {xs : List Value} (h : w.ownsRow base e K (.slice (some ⟨g, 0, none⟩) n cap) n xs) : n ≤ cap := by
  rcases h.2 with ⟨h2, _⟩ | ⟨g', cap', cur, h2, hb, hg, hn, _⟩
  · cases h2
  · injection h2 with _ _ a3; omega
theorem flat_take {α : Type} {enc : α → List Value} {K : Nat} (hk : ∀ x, (enc x).length = K) : ∀ (l : List α) (k : Nat), (l.flatMap enc).take (k * K) = (l.take k).flatMap enc
  | [], k => by simp
  | x :: l, 0 => by simp
  | x :: l, k + 1 => by
    rw [List.take_succ_cons, List.flatMap_cons, List.flatMap_cons, List.take_append, hk, List.take_of_length_le (by rw [hk, Nat.add_mul]; omega), show (k + 1) * K - K = k * K by rw [Nat.add_mul]; omega, flat_take hk l k]
end
end Go.Proofs.YtepbamacebjopaaGreatDoor
/- A search's memory. -/
namespace Go.Proofs.YtepbamacebjopaaGreatDoor
open Go.RowKit Go.Maps

/-- Blocks with what they hold, no block twice. -/
def Mem (w : World) (l : List (Nat × Obj)) : Prop := (l.map (·.1)).Nodup ∧ ∀ p ∈ l, w.heap[p.1]? = some p.2
section
variable {w w' : World} {l l1 l2 : List (Nat × Obj)}
theorem Mem.set {k i : Nat} {cs : Array Value} {t : TypeId} (h : Mem w (l1 ++ (k, .cells cs t (0, 0)) :: l2)) (u : Value) : Mem (w.setCell ⟨k, i, none⟩ u) (l1 ++ (k, .cells (cs.setIfInBounds i u) t (0, 0)) :: l2) := by
  obtain ⟨h1, h2⟩ := h
  refine ⟨by simpa using h1, fun p hp => ?_⟩
  rw [List.map_append, List.map_cons, List.nodup_append] at h1
  rcases List.mem_append.1 hp with hp | hp
  · have hne : p.1 ≠ k := h1.2.2 p.1 (List.mem_map_of_mem hp) k (by simp)
    exact (Below.heap_setCell w ⟨k, i, none⟩ u p.1 hne).trans (h2 p (List.mem_append_left _ hp))
  · rcases List.mem_cons.1 hp with rfl | hp
    · exact heap_set (h2 (k, .cells cs t (0, 0)) (by simp))
    · have hne : p.1 ≠ k := fun e => (List.nodup_cons.1 h1.2.1).1 (show k ∈ l2.map (·.1) from e ▸ List.mem_map_of_mem (f := fun p : Nat × Obj => p.1) hp)
      exact (Below.heap_setCell w ⟨k, i, none⟩ u p.1 hne).trans (h2 p (List.mem_append_right _ (List.mem_cons_of_mem _ hp)))
theorem Mem.nx (h : Mem w l) (hn : Nx w w') : Mem w' l := ⟨h.1, fun p hp => (hn.block p.1 (lt_of_heap (h.2 p hp))).trans (h.2 p hp)⟩
end
end Go.Proofs.YtepbamacebjopaaGreatDoor
/- 'out = append(out, ys...)' on a row of the call's own. Of no program. -/
namespace Go.Proofs.YtepbamacebjopaaGreatDoor
open Go.RowKit

theorem run_append_nilsrc {P : Program} (w : World) (base : Nat) (t ty e : TypeId) (i : TypeInfo) (size : Nat) (ht : P.underlying t = some (.slice e)) (hi : P.info? e = some i)
    (v : Value) (n : Nat) (xs : List Value) (hown : w.ownsRow base e size v n xs) (c : Nat) : (Builtin.append_ #[t, t] ty #[v, .slice none 0 c]).run P w = .ok v w := by
  rcases hown.2 with ⟨rfl, rfl⟩ | ⟨g, cap, cur, rfl, _, _, hnc, _⟩
  · simp [Builtin.append_, run_underlying ht, sizeOf, typeInfo, hi, Builtin.lenOf, Builtin.firstCells]
  · simp [Builtin.append_, run_underlying ht, sizeOf, typeInfo, hi, Builtin.lenOf, Builtin.firstCells, hnc, storeCells]
/-- 'out = append(out, ys...)'. -/
theorem wpAppL {α : Type} {P : Program} {w : World} {ops : Array Oper} {rest : List Oper} {o : Oper} {a : Act} {Q : Exit → Act → World → Prop} (hgd : o.guard = none) (s x : Operand) (t : TypeId)
    (ho : o.op = .call { callee := .builtin .append, args := #[s, x], argTypes := #[t, t] })
    {e : TypeId} {K bytes : Nat} (E : ElemOf P t e K bytes) (enc : α → List Value) (hk : ∀ x, (enc x).length = K) (h1c : ∀ x, ∀ v ∈ enc x, v.oneCell' = true) (hK : 0 < K) (hB : bytes ≤ 1000)
    (base : Nat) (v : Value) (L : List α) (hs : a.eval s = v) (hown : w.ownsRow base e K v L.length (L.flatMap enc)) (A : Option Addr) (c : Nat) (ys : List α) (hx : a.eval x = .slice A ys.length c)
    {lo : Nat} (hR : Rd w lo A K enc ys) (hlen : L.length + ys.length ≤ 10000000) (hbase : base ≤ w.heap.size)
    (h : ∀ v' w', w'.ownsRow base e K v' (L ++ ys).length ((L ++ ys).flatMap enc) → w.grownBy w' v.ownBlock → wpList P ops Q rest (a.put o.dst v') w') : wpList P ops Q (o :: rest) a w := by
  obtain ⟨i, z, h1, h2, h3, h4, h5⟩ := E.hi
  cases A with
  | none =>
    have hy : ys = [] := by
      rcases ys with _ | ⟨y, ys⟩
      · rfl
      · obtain ⟨b, off, e, _⟩ := hR (by simp); cases e
    subst hy
    refine wpList_plain hgd fun K' hK' => ?_
    have hrun := run_append_nilsrc (P := P) w base t o.type e i K E.ht h1 v L.length _ hown c
    unfold Oper.wp execOp
    simp only [ho, resolve, invoke, builtin, Sem.run_bind, Sem.run_pure, Result.andThen_ok, List.map_toArray, List.map_cons, List.map_nil, hs, hx, List.length_nil, hrun]
    exact hK' _ _ (h v w (by simpa using hown) (World.grownBy.refl _ _))
  | some ad =>
    refine wpList_append_own w hgd s x t ho base e i z K bytes E.ht h1 h2 h3 h4 h5 hK v L.length _ hs hown ad ys.length c (ys.flatMap enc) hx (flat_len hk) ?_ ?_ (by unfold maxLen; omega) ?_ hbase ?_
    · intro j u hu
      have hj : j < ys.length * K := by have := (List.getElem?_eq_some_iff.1 hu).1; rw [flat_len hk] at this; exact this
      have hyl : 0 < ys.length := by
        rcases Nat.eq_zero_or_pos ys.length with h0 | h0
        · rw [h0] at hj; omega
        · exact h0
      obtain ⟨b, off, e, _, _, hc⟩ := hR hyl
      injection e with e; subst e
      have hq : j / K < ys.length := (Nat.div_lt_iff_lt_mul hK).2 hj
      have hr : j % K < K := Nat.mod_lt _ hK
      have e1 : j / K * K + j % K = j := by rw [Nat.mul_comm]; exact Nat.div_add_mod j K
      have hu2 : (enc ys[j / K])[j % K]? = some u := by
        have h6 : (enc ys[j / K])[j % K]? = some ((enc ys[j / K])[j % K]'(by rw [hk]; exact hr)) := List.getElem?_eq_getElem _
        have h7 := flat_get (xs := ys) hk (j / K) _ (List.getElem?_eq_getElem hq) (j % K) _ h6
        rw [e1, hu] at h7
        rw [h6, ← h7]
      have := hc (j / K) _ (List.getElem?_eq_getElem hq) (j % K) u hu2
      have e2 : (⟨b, off, none⟩ : Addr).add j = ⟨b, off + j, none⟩ := by unfold Addr.add; split <;> simp_all
      rw [e2, ← e1, ← Nat.add_assoc]
      exact this
    · intro u hu
      obtain ⟨y, _, hy⟩ := List.mem_flatMap.1 hu
      exact h1c y u hy
    · have : (L.length + ys.length) * bytes ≤ 10000000 * 1000 := Nat.mul_le_mul hlen hB
      omega
    · intro v' w' ho' hg' _
      exact h v' w' (by simpa using ho') hg'

end Go.Proofs.YtepbamacebjopaaGreatDoor
/- fare.Divide, whatever it is handed; what is wrong with parts; 'priced' answers true. -/
namespace Go.Proofs.YtepbamacebjopaaGreatDoor
open Go.RowKit Go.Sort Go.Proofs Go.Shelf

/-- Cents given out, or a fault. -/
def DivU (F cents : Int) (parts : List Int) (w : World) (e : Ending) (w' : World) : Prop :=
  ∃ (A : Option Addr) (c : Nat) (zs : List Int), e = .returned (.tuple #[.slice A zs.length c, .int .i64 F]) ∧ (F = 0 → Divided cents parts zs) ∧ (F ≠ 0 → zs = []) ∧ Rd w' w.heap.size A 1 encI zs ∧ Nx w w'
theorem DivU.no {F cents : Int} {parts : List Int} {w w' : World} (h : F ≠ 0) (hn : Nx w w') : DivU F cents parts w (.returned (.tuple #[.slice none 0 0, .int .i64 F])) w' := ⟨none, 0, [], rfl, fun h0 => absurd h0 h, fun _ => rfl, Rd.nil, hn⟩

end Go.Proofs.YtepbamacebjopaaGreatDoor
/- More words for memory, of no program: rows out of literals, prefixes of rows, rows that stay while others turn. -/
namespace Go.Proofs.YtepbamacebjopaaGreatDoor
open Go.RowKit

section
variable {α : Type} {w w' : World} {lo K : Nat} {A : Option Addr} {enc : α → List Value} {xs : List α}
/-- The first ones of a slice. -/
theorem Rd.take (h : Rd w lo A K enc xs) (n : Nat) : Rd w lo A K enc (xs.take n) := fun hp => by
  have hp' : 0 < xs.length := by rw [List.length_take] at hp; omega
  obtain ⟨b, off, e, h1, hb, hc⟩ := h hp'
  refine ⟨b, off, e, h1, hb, fun i x hx j u hu => hc i x ?_ j u hu⟩
  have hi : i < (xs.take n).length := (List.getElem?_eq_some_iff.1 hx).1
  rw [List.length_take] at hi
  rw [← hx, List.getElem?_take_of_lt (by omega)]
/-- A row of the call's own out of a literal: its first n elements. -/
theorem own_lit {e : TypeId} {g n m : Nat} {cs : Array Value} {base : Nat} (hk : ∀ x, (enc x).length = K) (hg : w.heap[g]? = some (.cells cs e (0, 0))) (hb : base ≤ g) (hcs : cs.toList = xs.flatMap enc) (hm : xs.length = m) (hn : n ≤ m) (hmax : m ≤ maxLen) :
    w.ownsRow base e K (.slice (some ⟨g, 0, none⟩) n m) n ((xs.take n).flatMap enc) := by
  have hl : (xs.take n).length = n := by rw [List.length_take]; omega
  refine ⟨by rw [flat_len hk, hl], .inr ⟨g, m, cs, rfl, hb, hg, hn, hmax, ?_, ?_⟩⟩
  · rw [← Array.length_toList, hcs, flat_len hk, hm]
  · rw [hcs]
    have e1 : xs.flatMap enc = (xs.take n).flatMap enc ++ (xs.drop n).flatMap enc := by rw [← List.flatMap_append, List.take_append_drop]
    rw [e1, List.take_append_of_le_length (by rw [flat_len hk, hl]; exact Nat.le_refl _), List.take_of_length_le (by rw [flat_len hk, hl]; exact Nat.le_refl _)]
end
end Go.Proofs.YtepbamacebjopaaGreatDoor
/- What is handed out: the reference's. -/
namespace Go.Proofs.YtepbamacebjopaaGreatDoor
open Go.RowKit Go.Sort Go.Proofs Go.Shelf

/-- The first of the greatest of the first k. -/
structure FM (cs : List Int) (k b : Nat) : Prop where
  at_ : b < cs.length
  in_ : b < k ∨ (k = 0 ∧ b = 0)
  up : ∀ j, j < k → cs.getD j 0 < cs.getD b 0 ∨ (cs.getD j 0 = cs.getD b 0 ∧ b ≤ j)
theorem FM.start {cs : List Int} (h : 0 < cs.length) : FM cs 0 0 := ⟨h, .inr ⟨rfl, rfl⟩, fun j hj => by omega⟩
theorem FM.more {cs : List Int} {k b : Nat} (h : FM cs k b) (hk : k < cs.length) (hlt : cs.getD b 0 < cs.getD k 0) : FM cs (k + 1) k :=
  ⟨hk, .inl (by omega), fun j hj => by
    rcases Nat.lt_or_ge j k with h1 | h1
    · have := h.up j h1; omega
    · have e : j = k := by omega
      subst e; exact .inr ⟨rfl, Nat.le_refl _⟩⟩
theorem FM.same {cs : List Int} {k b : Nat} (h : FM cs k b) (hlt : ¬ cs.getD b 0 < cs.getD k 0) : FM cs (k + 1) b :=
  ⟨h.at_, .inl (by have := h.in_; omega), fun j hj => by
    rcases Nat.lt_or_ge j k with h1 | h1
    · exact h.up j h1
    · have e : j = k := by omega
      subst e
      have := h.in_
      omega⟩
theorem FM.done {cs : List Int} {b : Nat} (h : FM cs cs.length b) : FirstMax cs b := ⟨h.at_, h.up⟩
end Go.Proofs.YtepbamacebjopaaGreatDoor
/- Groups that would pay less alone. -/
namespace Go.Proofs.YtepbamacebjopaaGreatDoor
open Go.RowKit Go.Sort Go.Proofs Go.Shelf

theorem el_S : ElemOf Tryz.prog 34 9 1 16 := ElemOf.mk' (z := .string ByteArray.empty) Tryz.underlying34 (by kernel_rfl) rfl
theorem encS_len (x : ByteArray) : (encS x).length = 1 := rfl
theorem encS_one (x : ByteArray) : ∀ v ∈ encS x, v.oneCell' = true := by
  intro v hv; simp [encS] at hv; subst hv; rfl
/-- Keys, or a fault. -/
def KeysU (F : Int) (who : List ByteArray) (w : World) (e : Ending) (w' : World) : Prop :=
  ∃ (A : Option Addr) (c : Nat) (zs : List ByteArray), e = .returned (.tuple #[.slice A zs.length c, .int .i64 F]) ∧ zs = (if F = 0 then who else []) ∧ Rd w' w.heap.size A 1 encS zs ∧ Nx w w'
theorem KeysU.no {F : Int} {who : List ByteArray} {w w' : World} (h : F ≠ 0) (hn : Nx w w') : KeysU F who w (.returned (.tuple #[.slice none 0 0, .int .i64 F])) w' := ⟨none, 0, [], rfl, by rw [if_neg h], Rd.nil, hn⟩

end Go.Proofs.YtepbamacebjopaaGreatDoor
/- The stream's strings; clones. -/
namespace Go.Proofs.YtepbamacebjopaaGreatDoor
open Go.RowKit Go.Sort Go.Proofs Go.Shelf

/-- A string of some list. -/
def StrSome (zs : List ByteArray) (s k : Nat) (w : World) (e : Ending) (w' : World) : Prop := ∃ r ∈ zs, e = .returned (.string r) ∧ Gr s w w' ∧ Str w' s k
set_option maxRecDepth 100000 in
set_option maxHeartbeats 400000 in
/-- 's.Some(..)' of strings that lie in a block of their own. -/
theorem w_Some (g : Nat) (zs : List ByteArray) (cs : Array Value) (s k : Nat) (w : World) (hS : Str w s k) (hk : k < 1000000) (hg : w.heap[g]? = some (.cells cs 9 (0, 0))) (hne : g ≠ s) (hcs : cs.toList = zs.map Value.string) (h0 : zs ≠ []) (h1 : zs.length < 1000) :
    Calls Tryz.prog 8 #[.pointer (some ⟨s, 0, none⟩), .slice (some ⟨g, 0, none⟩) zs.length zs.length] w (StrSome zs s (k + 1) w) := by
  have hl : cs.size = zs.length := by rw [← Array.length_toList, hcs, List.length_map]
  have hp := List.length_pos_iff.2 h0
  generalize hm : zs.length = m at *
  have HM := hide hm
  clear hm h0
  go_enter Tryz.func8, Tryz.ntmps8
  go_wp2_with (go_at_call 28; refine (w_Next _ _ _ _ hS hk (by omega)).mono ?_; rintro e w' ⟨r, hr1, hr2, rfl, hgr, hS'⟩; (obtain ⟨q, rfl⟩ := Int.eq_ofNat_of_zero_le hr1); (have hq : q < zs.length := by have := HM.out; omega); (have hcell : w'.cell? ⟨g, q, none⟩ = some (.string zs[q]) := World.grownBy.cell hgr ((cell_of_row w g q _ _ _ hg).trans (by rw [← Array.getElem?_toList, hcs, List.getElem?_map, List.getElem?_eq_getElem hq]; rfl)) (by simp; omega)))
  go_ret
  exact ⟨_, List.getElem_mem hq, rfl, hgr, hS'⟩

set_option maxRecDepth 100000 in
set_option maxHeartbeats 400000 in
theorem w_CloneS (lo : Nat) (A : Option Addr) (c : Nat) (l : List ByteArray) (w : World) (hR : Rd w lo A 1 encS l) (hl : l.length ≤ 100000) :
    Calls Tryz.prog 103 #[.slice A l.length c] w fun e w' => ∃ v, e = .returned v ∧ w'.ownsRow w.heap.size 9 1 v l.length (l.flatMap encS) ∧ Nx w w' := by
  have q22 : ∀ (w : World) (a : Option Addr) (n c n' c' : Nat), (binOp .eql 34 (.slice a n c) (.slice none n' c')).run Tryz.prog w = .ok (.bool a.isNone) w := fun w a n c n' c' => Lib.run_eql_slice_nil w _ _ a n c n' c' Tryz.underlying34
  cases A with
  | none =>
    have hy : l = [] := by
      rcases l with _ | ⟨y, l⟩
      · rfl
      · obtain ⟨b, off, e, _⟩ := hR (by simp); cases e
    subst hy
    go_enter Tryz.func103, Tryz.ntmps103
    go_wp2
    go_ret
    exact ⟨_, rfl, World.ownsRow_nil _ _ _ _, Nx.refl _⟩
  | some a =>
    have hst := own_lit (w := w.alloc (.cells #[] 9)) (e := 9) (g := w.heap.size) (n := 0) (m := 0) (base := w.heap.size) (xs := ([] : List ByteArray)) encS_len (hnew rfl) (Nat.le_refl _) rfl rfl (Nat.le_refl _) (by unfold maxLen; omega)
    have HST := hide hst
    have HR := hide hR
    clear hst hR
    generalize hn : l.length = n at *
    have HN := hide hn
    clear hn
    go_enter Tryz.func103, Tryz.ntmps103
    go_wp2_with (at_builtin; refine wpAppL rfl _ _ _ rfl el_S encS encS_len encS_one (by omega) (by omega) w.heap.size _ [] rfl HST.out (some a) c l (by rw [HN.out]; rfl) (HR.out.nx ((Nx.refl _).alloc _)) (by have := HN.out; simp; omega) (by simp) ?_; intro v2 w2 hown2 hg2)
    go_ret
    rw [List.nil_append, HN.out] at hown2
    refine ⟨_, rfl, hown2, ?_⟩
    exact ((Nx.refl w).alloc _).grown hg2 (own_blk_lt HST.out)

end Go.Proofs.YtepbamacebjopaaGreatDoor
/- The stream's drives. -/
namespace Go.Proofs.YtepbamacebjopaaGreatDoor
open Go.RowKit

theorem idxP_mem {α : Type} (p : α → Bool) : ∀ (l : List α) (j : Nat), (∃ a ∈ l, p a = true) → 0 ≤ idxP p l j
  | [], _, h => by obtain ⟨_, h, _⟩ := h; exact absurd h (by simp)
  | n :: l, j, h => by
    unfold idxP
    split
    · omega
    · rename_i hn
      obtain ⟨a, ha, hp⟩ := h
      rcases List.mem_cons.1 ha with rfl | ha
      · exact absurd hp hn
      · exact idxP_mem p l (j + 1) ⟨a, ha, hp⟩
end Go.Proofs.YtepbamacebjopaaGreatDoor
/- Both ends of a way asked for: what is wrong. -/
namespace Go.Proofs.YtepbamacebjopaaGreatDoor
open Go.RowKit
set_option maxRecDepth 100000 in
set_option maxHeartbeats 4000000 in
theorem w_EndsBad (g0 lo : Nat) (A B C : Option Addr) (ca cb cc : Nat) (ns : List Node) (rs : List Arc) (bs : List Ban) (f t : ByteArray) (ad : Int) (w : World) (hBox : BoxR w g0 lo A B C ca cb cc ns rs bs) (hS : SmallN ns) (hE : endsF ns rs bs f t ad ≠ 0) :
    Calls Tryz.prog 38 #[.pointer (some ⟨g0, 0, none⟩), .string f, .string t, .int .i64 ad] w fun e w' => e = .returned (.tuple #[.pointer none, .int .i64 0, .int .i64 0, .int .i64 (endsF ns rs bs f t ad)]) ∧ Nx w w' := by
  have b0 := hBox.g0
  have b1 := hBox.g1
  have b2 := hBox.g2
  have HC := hide (w_CheckRoads lo lo lo A B C ca cb cc ns rs bs w hBox.hN hS hBox.nl hBox.hA hBox.al hBox.hB hBox.bl)
  have HB := hide hBox
  obtain ⟨E, hEE⟩ : ∃ E, E = endsF ns rs bs f t ad := ⟨_, rfl⟩
  rw [← hEE] at hE ⊢
  have HE := hide (show E = if roadsF ns rs bs = 0 then (if nodeI ns f < 0 ∨ nodeI ns t < 0 then 8 else if momB ad then 0 else 1) else roadsF ns rs bs from hEE)
  clear hEE hBox
  by_cases hF : roadsF ns rs bs = 0
  · have HE := hide (HE.out.trans (if_pos hF))
    have HSN := hide (sortN_of (roads_ok hF).1)
    rw [hF] at HC
    clear hF
    have HNE := hide hE
    clear hE
    go_enter Tryz.func38, Tryz.ntmps38
    go_wp2_with fail
    refine (HC.out).mono ?_
    rintro e w1 ⟨rfl, hn1⟩
    clear b0 b1 b2
    have HN1 := hide hn1
    clear hn1
    go_wp2_with fail
    have hb1 := HB.out.nx HN1.out
    refine (w_nodeR g0 lo A ca ns f w1 hb1.g0 hb1.hN (by have := hb1.nl; omega) HSN.out).mono ?_
    rintro e w2 ⟨rfl, hn2⟩
    have HN2 := hide (HN1.out.trans hn2)
    clear hn2 hb1
    go_wp2_with fail
    have hb1 := HB.out.nx HN2.out
    refine (w_nodeR g0 lo A ca ns t w2 hb1.g0 hb1.hN (by have := hb1.nl; omega) HSN.out).mono ?_
    rintro e w3 ⟨rfl, hn3⟩
    have HN3 := hide (HN2.out.trans hn3)
    clear hn3 hb1
    generalize nodeI ns f = i at *
    generalize nodeI ns t = j at *
    by_cases hij : i < 0 ∨ j < 0
    · have hE8 := HE.out.trans (if_pos hij)
      subst hE8
      by_cases hi : i < 0
      · have ti : decide (i < 0) = true := decide_eq_true hi
        clear hi hij
        go_wp2_with fail
        exact bodyPost_ret (v := .tuple #[.pointer none, .int .i64 0, .int .i64 0, .int .i64 8]) (by simp [results, Tryz.results38, go_sem]) rfl ⟨rfl, HN3.out⟩
      · have ti : decide (i < 0) = false := decide_eq_false hi
        have tj : decide (j < 0) = true := decide_eq_true (by omega)
        clear hi hij
        go_wp2_with fail
        exact bodyPost_ret (v := .tuple #[.pointer none, .int .i64 0, .int .i64 0, .int .i64 8]) (by simp [results, Tryz.results38, go_sem]) rfl ⟨rfl, HN3.out⟩
    · have hE1 := HE.out.trans (if_neg hij)
      have ti : decide (i < 0) = false := decide_eq_false (by omega)
      have tj : decide (j < 0) = false := decide_eq_false (by omega)
      have hm : momB ad = false := by
        cases hm : momB ad with
        | false => rfl
        | true => rw [hm, if_pos rfl] at hE1; exact absurd hE1 HNE.out
      rw [hm, if_neg (by simp)] at hE1
      subst hE1
      clear hij
      go_wp2_with fail
      refine (w_Moment _ _).mono ?_
      rintro e w4 ⟨rfl, rfl⟩
      rw [hm]
      go_wp2_with fail
      exact bodyPost_ret (v := .tuple #[.pointer none, .int .i64 0, .int .i64 0, .int .i64 1]) (by simp [results, Tryz.results38, go_sem]) rfl ⟨rfl, HN3.out⟩
  · have hE1 := HE.out.trans (if_neg hF)
    rw [← hE1] at HC
    clear hF hE1
    have tE : (E == 0) = false := by simpa using hE
    have tE2 : (E != 0) = true := by simpa using hE
    go_enter Tryz.func38, Tryz.ntmps38
    go_wp2_with fail
    refine (HC.out).mono ?_
    rintro e w1 ⟨rfl, hn1⟩
    clear b0 b1 b2
    go_wp2_with fail
    exact bodyPost_ret (v := .tuple #[.pointer none, .int .i64 0, .int .i64 0, .int .i64 E]) (by simp [results, Tryz.results38, go_sem]) rfl ⟨rfl, hn1⟩
end Go.Proofs.YtepbamacebjopaaGreatDoor
/- Two strings, sorted already: the sort lets them be. -/
namespace Go.Proofs.YtepbamacebjopaaGreatDoor
open Go.RowKit Go.Proofs Go.Shelf

def sX : ByteArray := ⟨#[120]⟩
def sY : ByteArray := ⟨#[121]⟩
theorem w_isNaNS (a : ByteArray) (w : World) : Calls Tryz.prog 122 #[.string a] w fun e w' => e = .returned (.bool false) ∧ w = w' := by
  go_enter Tryz.func122, Tryz.ntmps122
  go_wp2
  go_ret
  exact ⟨rfl, rfl⟩
theorem w_Len (x : Int) (w : World) (h0 : 0 ≤ x) (h1 : x ≤ 1000000) : Calls Tryz.prog 87 #[.int .u64 x] w fun e w' => ∃ z : Int, e = .returned (.int .i64 z) ∧ w = w' :=
  (Any.bits_Len Tryz.bitsLen x w h0 (by omega)).mono fun _ _ ⟨h1, h2⟩ => ⟨_, h1, h2.symm⟩
end Go.Proofs.YtepbamacebjopaaGreatDoor
