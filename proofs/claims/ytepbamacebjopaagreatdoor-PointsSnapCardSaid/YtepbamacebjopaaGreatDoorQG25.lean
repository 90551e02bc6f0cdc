/- What Needed, Islands and Without answer when something is wrong. -/
import Derived.Test.YtepbamacebjopaaGreatDoorQG15
import Derived.Test.YtepbamacebjopaaGreatDoorQG19
import Derived.Test.YtepbamacebjopaaGreatDoorQG23
import Derived.Test.YtepbamacebjopaaGreatDoorQG24
import Derived.Test.YtepbamacebjopaaGreatDoorQG12
import Derived.Deep.Onto
import Derived.Test.YtepbamacebjopaaGreatDoorQG0
import Derived.Test.YtepbamacebjopaaGreatDoorQG2
import Derived.Test.YtepbamacebjopaaGreatDoorQG10
import Derived.Test.YtepbamacebjopaaGreatDoorQShelfS
import Derived.Laws.OwnMore
import Derived.Laws.CopyOwn
import Derived.Deep.DeepCutAuto
import Derived.Test.YtepbamacebjopaaGreatDoorQG7
import Derived.Test.YtepbamacebjopaaGreatDoorQG5
import Derived.Laws.StructEq
import Derived.Test.YtepbamacebjopaaGreatDoorQRoadT
import Derived.Test.YtepbamacebjopaaGreatDoorQG8
import Derived.Test.YtepbamacebjopaaGreatDoorQArcT
import Derived.Deep.LoopGhost
namespace Go.Proofs.YtepbamacebjopaaGreatDoor
open Go.RowKit Go.Sort

set_option maxRecDepth 100000 in
set_option maxHeartbeats 4000000 in
theorem w_NeededBad (lo : Nat) (A B C : Option Addr) (ca cb cc : Nat) (ns : List Node) (rs : List Arc) (bs : List Ban) (f t : ByteArray) (w : World)
    (hN : Rd w lo A 3 encNode ns) (hA : RdArcs w lo B rs) (hB : Rd w lo C 2 encBan bs) (hnl : ns.length ≤ 400) (hal : rs.length ≤ 400) (hbl : bs.length ≤ 400)
    (hS : SmallN ns) (hE : endsF ns rs bs f t 0 ≠ 0) :
    Calls Tryz.prog 11 #[.agg #[.slice A ns.length ca, .slice B rs.length cb, .slice C bs.length cc], .string f, .string t] w fun e w' => e = .returned (.tuple #[.slice none 0 0, .int .i64 (endsF ns rs bs f t 0)]) ∧ Nx w w' := by
  obtain ⟨wa, hwa⟩ : ∃ wa, wa = w.alloc (.cells #[.slice A ns.length ca, .slice B rs.length cb, .slice C bs.length cc] 30) := ⟨_, rfl⟩
  have hna : Nx w wa := hwa ▸ (Nx.refl w).alloc _
  have hgw : w.heap.size < wa.heap.size := by rw [hwa]; simp
  have b0 : wa.cell? ⟨w.heap.size, 0, none⟩ = some (.slice A ns.length ca) := by rw [hwa]; go_simp
  have b1 : wa.cell? ⟨w.heap.size, 1, none⟩ = some (.slice B rs.length cb) := by rw [hwa]; go_simp
  have b2 : wa.cell? ⟨w.heap.size, 2, none⟩ = some (.slice C bs.length cc) := by rw [hwa]; go_simp
  have hBox : BoxR wa w.heap.size lo A B C ca cb cc ns rs bs := ⟨b0, b1, b2, hgw, hN.nx hna, hA.nx hna, hB.nx hna, hnl, hal, hbl⟩
  have HC := hide (w_EndsBad w.heap.size lo A B C ca cb cc ns rs bs f t 0 wa hBox hS hE)
  clear hBox b0 b1 b2 hN hA hB
  generalize endsF ns rs bs f t 0 = E at *
  have tE : (E == 0) = false := by simpa using hE
  have tE2 : (E != 0) = true := by simpa using hE
  clear hE
  have HWA := hide hwa
  have HNA := hide hna
  clear hwa hna
  go_enter Tryz.func11, Tryz.ntmps11
  go_upto_region 1 with fail
  rw [← HWA.out]
  go_wp2_with fail
  refine HC.out.mono ?_
  rintro e w3 ⟨rfl, hn3⟩
  go_wp2_with fail
  go_ret2
  exact ⟨rfl, HNA.out.trans hn3⟩
set_option maxRecDepth 100000 in
set_option maxHeartbeats 4000000 in
theorem w_IslandsBad (lo : Nat) (A B C : Option Addr) (ca cb cc : Nat) (ns : List Node) (rs : List Arc) (bs : List Ban) (w : World)
    (hN : Rd w lo A 3 encNode ns) (hA : RdArcs w lo B rs) (hB : Rd w lo C 2 encBan bs) (hnl : ns.length ≤ 400) (hal : rs.length ≤ 400) (hbl : bs.length ≤ 400)
    (hS : SmallN ns) (hE : roadsF ns rs bs ≠ 0) :
    Calls Tryz.prog 10 #[.agg #[.slice A ns.length ca, .slice B rs.length cb, .slice C bs.length cc]] w fun e w' => e = .returned (.tuple #[.slice none 0 0, .int .i64 (roadsF ns rs bs)]) ∧ Nx w w' := by
  obtain ⟨wa, hwa⟩ : ∃ wa, wa = w.alloc (.cells #[.slice A ns.length ca, .slice B rs.length cb, .slice C bs.length cc] 30) := ⟨_, rfl⟩
  have hna : Nx w wa := hwa ▸ (Nx.refl w).alloc _
  have b0 : wa.cell? ⟨w.heap.size, 0, none⟩ = some (.slice A ns.length ca) := by rw [hwa]; go_simp
  have b1 : wa.cell? ⟨w.heap.size, 1, none⟩ = some (.slice B rs.length cb) := by rw [hwa]; go_simp
  have b2 : wa.cell? ⟨w.heap.size, 2, none⟩ = some (.slice C bs.length cc) := by rw [hwa]; go_simp
  have HC := hide (w_CheckRoads lo lo lo A B C ca cb cc ns rs bs wa (hN.nx hna) hS hnl (hA.nx hna) hal (hB.nx hna) hbl)
  generalize roadsF ns rs bs = E at *
  have tE : (E == 0) = false := by simpa using hE
  have tE2 : (E != 0) = true := by simpa using hE
  clear hE hN hA hB
  have HWA := hide hwa
  have HNA := hide hna
  clear hwa hna
  go_enter Tryz.func10, Tryz.ntmps10
  go_upto_region 1 with fail
  rw [← HWA.out]
  go_wp2_with fail
  refine HC.out.mono ?_
  rintro e w3 ⟨rfl, hn3⟩
  go_wp2_with fail
  go_ret2
  exact ⟨rfl, HNA.out.trans hn3⟩
set_option maxRecDepth 100000 in
set_option maxHeartbeats 8000000 in
theorem w_WithoutBad (lo : Nat) (A B C : Option Addr) (ca cb cc : Nat) (ns : List Node) (rs : List Arc) (bs : List Ban) (lo2 : Nat) (D : Option Addr) (cd : Nat) (l : List ByteArray) (E : Int) (w : World)
    (hN : Rd w lo A 3 encNode ns) (hA : RdArcs w lo B rs) (hB : Rd w lo C 2 encBan bs) (hnl : ns.length ≤ 400) (hal : rs.length ≤ 400) (hbl : bs.length ≤ 400)
    (hS : SmallN ns) (hD : Rd w lo2 D 1 encS l) (hl : l.length ≤ 400) (hE : E = if roadsF ns rs bs = 0 then wdsF rs l else roadsF ns rs bs) (hne : E ≠ 0) :
    Calls Tryz.prog 12 #[.agg #[.slice A ns.length ca, .slice B rs.length cb, .slice C bs.length cc], .slice D l.length cd] w fun e w' => e = .returned (.tuple #[.agg #[.slice none 0 0, .slice none 0 0, .slice none 0 0], .int .i64 E]) ∧ Nx w w' := by
  obtain ⟨wa, hwa⟩ : ∃ wa, wa = ((w.alloc (.cells #[.slice A ns.length ca, .slice B rs.length cb, .slice C bs.length cc] 30)).alloc (.cells #[.slice D l.length cd] 34)).alloc (.cells #[.slice none 0 0, .slice none 0 0, .slice none 0 0] 30) := ⟨_, rfl⟩
  have hna : Nx w wa := hwa ▸ (((Nx.refl w).alloc _).alloc _).alloc _
  have hsz : wa.heap.size = w.heap.size + 3 := by rw [hwa]; simp
  have b0 : wa.cell? ⟨w.heap.size, 0, none⟩ = some (.slice A ns.length ca) := by rw [hwa]; go_simp
  have b1 : wa.cell? ⟨w.heap.size, 1, none⟩ = some (.slice B rs.length cb) := by rw [hwa]; go_simp
  have b2 : wa.cell? ⟨w.heap.size, 2, none⟩ = some (.slice C bs.length cc) := by rw [hwa]; go_simp
  have q0 : wa.cell? ⟨w.heap.size + 1, 0, none⟩ = some (.slice D l.length cd) := by rw [hwa]; go_simp
  have r0 : wa.heap[w.heap.size + 1 + 1]? = some (.cells #[.slice none 0 0, .slice none 0 0, .slice none 0 0] 30 (0, 0)) := by rw [hwa]; exact hnew (by simp)
  have HBX := hide (fun W (hx : Nx wa W) => (⟨nx_cell hx (by omega) b0, nx_cell hx (by omega) b1, nx_cell hx (by omega) b2, nx_cell hx (by omega) q0⟩ : W.cell? ⟨w.heap.size, 0, none⟩ = some (.slice A ns.length ca) ∧ W.cell? ⟨w.heap.size, 1, none⟩ = some (.slice B rs.length cb) ∧ W.cell? ⟨w.heap.size, 2, none⟩ = some (.slice C bs.length cc) ∧ W.cell? ⟨w.heap.size + 1, 0, none⟩ = some (.slice D l.length cd)))
  have HR0 := hide (fun W (hx : Nx wa W) => (hx.block _ (by omega)).trans r0)
  have HC := hide (w_CheckRoads lo lo lo A B C ca cb cc ns rs bs wa (hN.nx hna) hS hnl (hA.nx hna) hal (hB.nx hna) hbl)
  have HSS := hide (fun W (hx : Nx wa W) => (((hna.trans hx).setCell (p := ⟨w.heap.size + 1 + 1, 0, none⟩) (by simp; omega) (.slice none 0 0)).setCell (p := ⟨w.heap.size + 1 + 1, 1, none⟩) (by simp; omega) (.slice none 0 0)).setCell (p := ⟨w.heap.size + 1 + 1, 2, none⟩) (by simp; omega) (.slice none 0 0))
  have HFN := hide (fun W (hx : Nx wa W) => (show (W.cell? ⟨w.heap.size + 1 + 1, 0, none⟩ = some (.slice none 0 0) ∧ W.cell? ⟨w.heap.size + 1 + 1, 1, none⟩ = some (.slice none 0 0) ∧ W.cell? ⟨w.heap.size + 1 + 1, 2, none⟩ = some (.slice none 0 0)) ∧ (W.frozen? ⟨w.heap.size + 1 + 1, 0, none⟩ = false ∧ W.frozen? ⟨w.heap.size + 1 + 1, 1, none⟩ = false ∧ W.frozen? ⟨w.heap.size + 1 + 1, 2, none⟩ = false) ∧ (((W.setCell ⟨w.heap.size + 1 + 1, 0, none⟩ (.slice none 0 0)).setCell ⟨w.heap.size + 1 + 1, 1, none⟩ (.slice none 0 0)).setCell ⟨w.heap.size + 1 + 1, 2, none⟩ (.slice none 0 0)).heap[w.heap.size + 1 + 1]? = some (.cells #[.slice none 0 0, .slice none 0 0, .slice none 0 0] 30 (0, 0)) from by
    have h := HR0.out W hx
    refine ⟨⟨(cell_of_row W _ 0 _ _ _ h).trans rfl, (cell_of_row W _ 1 _ _ _ h).trans rfl, (cell_of_row W _ 2 _ _ _ h).trans rfl⟩, ⟨frozen_blk h, frozen_blk h, frozen_blk h⟩, ?_⟩
    have h1 := heap_set (i := 0) (u := .slice none 0 0) h
    have h2 := heap_set (i := 1) (u := .slice none 0 0) h1
    exact heap_set (i := 2) (u := .slice none 0 0) h2))
  have HAR := hide (fun (hF : roadsF ns rs bs = 0) s W (hx : Nx wa W) => w_arcR w.heap.size lo B cb rs s W (HBX.out W hx).2.1 (hA.1.nx (hna.trans hx)) (by omega) (sortA_of (roads_ok hF).2.1))
  have HDD := hide (fun W (hx : Nx wa W) => hD.nx (hna.trans hx))
  have HWA := hide hwa
  have HNA := hide hna
  clear hwa hN hA hB hD hna b0 b1 b2 q0 r0 hS hsz
  obtain ⟨n, hn⟩ : ∃ n, n = l.length := ⟨_, rfl⟩
  rw [← hn] at HBX HWA hl ⊢
  have HNN := hide hn
  clear hn
  by_cases hF : roadsF ns rs bs = 0
  · have hEE : E = chk (wdtF rs) none l := hE.trans (by rw [if_pos hF]; unfold wdsF; rw [if_neg (by have := HNN.out; omega)])
    rw [hF] at HC
    replace HAR := hide (HAR.out hF)
    have HEE := hide hEE
    have HNE := hide hne
    clear hE hEE hF hne
    go_enter Tryz.func12, Tryz.ntmps12
    go_upto_region 1 with fail
    rw [← HWA.out]
    obtain ⟨c0, c1, c2, c3⟩ := HBX.out wa (Nx.refl _)
    go_wp2_with fail
    refine HC.out.mono ?_
    rintro e w1 ⟨rfl, hn1⟩
    have tn : decide ((n : Int) > 2000) = false := decide_eq_false (by omega)
    clear c0 c1 c2 c3
    obtain ⟨c0, c1, c2, c3⟩ := HBX.out w1 hn1
    go_wp2_with fail
    clear c0 c1 c2 c3 tn
    go_loopw [27] (fun i wr => ∃ k : Nat, k ≤ n ∧ i = .int .i64 k ∧ Nx wa wr ∧ chk (wdtF rs) none l = chk (wdtF rs) (prevOf l k) (l.drop k)) (fun i _ => n - (intOf i).toNat)
    case atStart => exact ⟨0, Nat.zero_le _, rfl, hn1, rfl⟩
    case round =>
      clear hn1
      obtain ⟨k, hk, rfl, hbw, hq⟩ := hrel
      have HQ := hide hq
      have HBW := hide hbw
      clear hq
      by_cases hlt : k < n
      · have hlt' : k < l.length := by have := HNN.out; omega
        obtain ⟨b, off, hDe, _, hb, hbr, hc⟩ := (HDD.out wr hbw).open_ (Nx.refl wr) (by have := HNN.out; omega)
        have ck : wr.cell? ⟨b, off + k, none⟩ = some (.string l[k]) := by simpa using hc k hlt' 0 _ rfl
        have HDR := hide (chk_drop (wdtF rs) l k hlt')
        have HA1 := hide (HAR.out l[k] wr hbw)
        obtain ⟨c0, c1, c2, c3⟩ := HBX.out wr hbw
        by_cases hz : arcI rs l[k] < 0
        · have HV := hide (show wdtF rs (prevOf l k) l[k] = 8 from if_pos hz)
          have tz : decide (arcI rs l[k] < 0) = true := decide_eq_true hz
          have HRT := hide (show E = 8 by rw [HEE.out, HQ.out, HDR.out, HV.out]; rfl)
          clear hz hc hbw
          subst hDe
          generalize arcI rs l[k] = z at *
          generalize l[k] = s at *
          go_wp2_with (go_at_call 42; go_must (refine HA1.out.mono ?_); rintro e w2 ⟨rfl, hn2⟩; (obtain ⟨⟨y0, y1, y2⟩, ⟨f0, f1, f2⟩, hbl⟩ := HFN.out w2 (HBW.out.trans hn2)); (have hfin := HSS.out w2 (HBW.out.trans hn2)); (have HBL := hide hbl); clear hbl)
          have e0 := (cell_of_row _ (w.heap.size + 1 + 1) 0 _ _ _ HBL.out).trans (show _ = some (.slice none 0 0) from rfl)
          have e1 := (cell_of_row _ (w.heap.size + 1 + 1) 1 _ _ _ HBL.out).trans (show _ = some (.slice none 0 0) from rfl)
          have e2 := (cell_of_row _ (w.heap.size + 1 + 1) 2 _ _ _ HBL.out).trans (show _ = some (.slice none 0 0) from rfl)
          exact bodyPost_ret (v := .tuple #[.agg #[.slice none 0 0, .slice none 0 0, .slice none 0 0], .int .i64 8]) (by simp [results, Tryz.results12, go_sem, e0, e1, e2]) rfl ⟨by rw [HRT.out], hfin⟩
        · have tz : decide (arcI rs l[k] < 0) = false := decide_eq_false hz
          have HV0 := hide (show wdtF rs (prevOf l k) l[k] = if aftS (prevOf l k) l[k] then 7 else 0 from if_neg hz)
          clear hz
          by_cases hk0 : k = 0
          · subst hk0
            have HV1 := hide (show aftS (prevOf l 0) l[0] = false by rw [prevOf_zero]; rfl)
            have ck0 : wr.cell? ⟨b, off, none⟩ = some (.string l[0]) := by simpa using ck
            clear hc ck hbw
            subst hDe
            generalize hzz : arcI rs l[0] = z at *
            generalize hss : l[0] = s at *
            clear hzz hss
            go_wp2_with (go_at_call 42; go_must (refine HA1.out.mono ?_); rintro e w2 ⟨rfl, hn2⟩)
            go_roundw
            case rel => exact ⟨0 + 1, by omega, by go_num, HBW.out.trans hn2, by rw [HQ.out, HDR.out, HV0.out, HV1.out]; rfl⟩
            case measure => simp [intOf]; omega
          · have ckp : wr.cell? ⟨b, off + (k - 1), none⟩ = some (.string (l[k - 1]'(by omega))) := by simpa using hc (k - 1) (by omega) 0 _ rfl
            have HV1 := hide (show aftS (prevOf l k) l[k] = strLe l[k] (l[k - 1]'(by omega)) by rw [prevOf_pos l k (by omega) (by omega)]; rfl)
            have W1 : IntKind.i64.wrap ((k : Int) - 1) = ((k - 1 : Nat) : Int) := by rw [show ((k - 1 : Nat) : Int) = (k : Int) - 1 by omega]; exact IntWalk.i64_in _ (by omega)
            have tk : decide ((k : Int) > 0) = true := decide_eq_true (by omega)
            have HKP := hide (fun W (hx : Nx wr W) => (⟨nx_cell hx hbr ckp, (HBX.out W (HBW.out.trans hx)).2.2.2⟩ : W.cell? ⟨b, off + (k - 1), none⟩ = some (.string (l[k - 1]'(by omega))) ∧ W.cell? ⟨w.heap.size + 1, 0, none⟩ = some (.slice D n cd)))
            have k1n : k - 1 < n := by omega
            have hkp : 0 < k := by omega
            generalize (l[k - 1]'(by omega)) = s1 at *
            generalize hk1 : k - 1 = k1 at *
            have hk1e : k = k1 + 1 := by omega
            have HK1 := hide hk1e
            generalize hzz : arcI rs l[k] = z at *
            generalize hss : l[k] = s at *
            clear hzz hss hc ckp hk0 hbw hk1 hk1e
            subst hDe
            cases ho : strLe s s1
            · have t1 : (Op.bytesLess s.toList s1.toList || s.toList == s1.toList) = false := ho
              have HV2 := hide (HV0.out.trans (by rw [HV1.out, ho]; rfl : _ = (0 : Int)))
              clear ho
              go_wp2_with (go_at_call 42; go_must (refine HA1.out.mono ?_); rintro e w2 ⟨rfl, hn2⟩; (obtain ⟨p1, p2⟩ := HKP.out w2 hn2))
              go_roundw
              case rel => exact ⟨k + 1, by omega, by go_num, HBW.out.trans hn2, by rw [HQ.out, HDR.out, HV2.out]; rfl⟩
              case measure => simp [intOf]; omega
            · have t1 : (Op.bytesLess s.toList s1.toList || s.toList == s1.toList) = true := ho
              have HV2 := hide (HV0.out.trans (by rw [HV1.out, ho]; rfl : _ = (7 : Int)))
              have HRT := hide (show E = 7 by rw [HEE.out, HQ.out, HDR.out, HV2.out]; rfl)
              clear ho
              go_wp2_with (go_at_call 42; go_must (refine HA1.out.mono ?_); rintro e w2 ⟨rfl, hn2⟩; (obtain ⟨p1, p2⟩ := HKP.out w2 hn2); (obtain ⟨⟨y0, y1, y2⟩, ⟨f0, f1, f2⟩, hbl⟩ := HFN.out w2 (HBW.out.trans hn2)); (have hfin := HSS.out w2 (HBW.out.trans hn2)); (have HBL := hide hbl); clear hbl)
              have e0 := (cell_of_row _ (w.heap.size + 1 + 1) 0 _ _ _ HBL.out).trans (show _ = some (.slice none 0 0) from rfl)
              have e1 := (cell_of_row _ (w.heap.size + 1 + 1) 1 _ _ _ HBL.out).trans (show _ = some (.slice none 0 0) from rfl)
              have e2 := (cell_of_row _ (w.heap.size + 1 + 1) 2 _ _ _ HBL.out).trans (show _ = some (.slice none 0 0) from rfl)
              exact bodyPost_ret (v := .tuple #[.agg #[.slice none 0 0, .slice none 0 0, .slice none 0 0], .int .i64 7]) (by simp [results, Tryz.results12, go_sem, e0, e1, e2]) rfl ⟨by rw [HRT.out], hfin⟩
      · exfalso
        apply HNE.out
        rw [HEE.out, HQ.out, List.drop_of_length_le (by have := HNN.out; omega)]
        rfl
  · have hEE : E = roadsF ns rs bs := hE.trans (if_neg hF)
    rw [← hEE] at HC
    have tE : (E != 0) = true := by simpa using hne
    clear hE hEE hF hne HAR
    go_enter Tryz.func12, Tryz.ntmps12
    go_upto_region 1 with fail
    rw [← HWA.out]
    obtain ⟨c0, c1, c2, c3⟩ := HBX.out wa (Nx.refl _)
    go_wp2_with fail
    refine HC.out.mono ?_
    rintro e w1 ⟨rfl, hn1⟩
    clear c0 c1 c2 c3
    obtain ⟨⟨y0, y1, y2⟩, ⟨f0, f1, f2⟩, hbl⟩ := HFN.out w1 hn1
    have hfin := HSS.out w1 hn1
    have HBL := hide hbl
    clear hbl
    go_wp2_with fail
    have e0 := (cell_of_row _ (w.heap.size + 1 + 1) 0 _ _ _ HBL.out).trans (show _ = some (.slice none 0 0) from rfl)
    have e1 := (cell_of_row _ (w.heap.size + 1 + 1) 1 _ _ _ HBL.out).trans (show _ = some (.slice none 0 0) from rfl)
    have e2 := (cell_of_row _ (w.heap.size + 1 + 1) 2 _ _ _ HBL.out).trans (show _ = some (.slice none 0 0) from rfl)
    exact bodyPost_ret (v := .tuple #[.agg #[.slice none 0 0, .slice none 0 0, .slice none 0 0], .int .i64 E]) (by simp [results, Tryz.results12, go_sem, e0, e1, e2]) rfl ⟨rfl, hfin⟩
end Go.Proofs.YtepbamacebjopaaGreatDoor
/- slices.Contains of strings; and the plain law of what is needed. -/
namespace Go.Proofs.YtepbamacebjopaaGreatDoor
open Go.RowKit

set_option maxRecDepth 100000 in
set_option maxHeartbeats 1000000 in
theorem w_IndexS2 (lo : Nat) (A : Option Addr) (c : Nat) (l : List ByteArray) (t : ByteArray) (w : World) (hR : Rd w lo A 1 encS l) (hl : l.length ≤ 65536) :
    Calls Tryz.prog 102 #[.slice A l.length c, .string t] w fun e w' => e = .returned (.int .i64 (findI (fun x => decide (x = t)) l)) ∧ Nx w w' := by
  generalize hn : l.length = n at *
  have HR := hide hR
  have HN := hide hn
  clear hR hn
  go_enter Tryz.func102, Tryz.ntmps102
  go_wp2
  go_loopw [8] (fun i wr => ∃ k : Nat, k ≤ n ∧ i = .int .i64 k ∧ Nx w wr ∧ findI (fun x => decide (x = t)) l = idxP (fun x => decide (x = t)) (l.drop k) k) (fun i _ => n - (intOf i).toNat)
  case atStart => exact ⟨0, Nat.zero_le _, rfl, Nx.refl _, rfl⟩
  case round =>
    obtain ⟨k, hk, rfl, hbw, hq⟩ := hrel
    have HQ := hide hq
    clear hq
    by_cases hlt : k < n
    · have hlt' : k < l.length := by have := HN.out; omega
      obtain ⟨b, off, eb, _, hb, hbr, hc⟩ := HR.out.open_ hbw (by have := HN.out; omega)
      have c0 : wr.cell? ⟨b, off + k, none⟩ = some (.string l[k]) := by simpa using hc k hlt' 0 _ rfl
      have HD := hide (idxP_drop (fun x => decide (x = t)) l k hlt')
      clear hc
      generalize l[k] = y at *
      subst eb
      by_cases hyt : y = t
      · have tq : (t.toList == y.toList) = true := by rw [eqS_iff]; exact decide_eq_true hyt.symm
        have HY := hide hyt
        clear hyt
        go_wp2
        go_ret
        exact ⟨ret_int (by rw [HQ.out, HD.out, if_pos (decide_eq_true HY.out)]), hbw⟩
      · have tq : (t.toList == y.toList) = false := by rw [eqS_iff]; exact decide_eq_false fun e => hyt e.symm
        have HY := hide hyt
        clear hyt
        go_wp2
        go_roundw
        case rel => exact ⟨k + 1, by omega, by go_num, hbw, by rw [HQ.out, HD.out, if_neg (by simpa using HY.out)]⟩
        case measure => simp [intOf]; omega
    · go_wp2
      go_ret
      exact ⟨ret_int (by rw [HQ.out, List.drop_of_length_le (by have := HN.out; omega)]; rfl), hbw⟩
theorem w_ContS2 (lo : Nat) (A : Option Addr) (c : Nat) (l : List ByteArray) (t : ByteArray) (w : World) (hR : Rd w lo A 1 encS l) (hl : l.length ≤ 65536) :
    Calls Tryz.prog 62 #[.slice A l.length c, .string t] w fun e w' => e = .returned (.bool (memS l t)) ∧ Nx w w' := by
  have HC := hide (w_IndexS2 lo A c l t w hR hl)
  have HA := hide (idxP_any (fun x => decide (x = t)) l 0)
  rw [show idxP (fun x => decide (x = t)) l 0 = findI (fun x => decide (x = t)) l from rfl] at HA
  rw [show l.any (fun x => decide (x = t)) = memS l t from rfl] at HA
  generalize findI (fun x => decide (x = t)) l = r at *
  generalize memS l t = z at *
  clear hR hl
  generalize l.length = n at *
  have h1 := HA.out
  have h2 : decide (r ≥ 0) = z := h1
  go_enter Tryz.func62, Tryz.ntmps62
  go_wp2_with fail
  refine HC.out.mono ?_
  rintro e w2 ⟨rfl, hn2⟩
  go_wp2_with fail
  go_ret
  exact ⟨rfl, hn2⟩
end Go.Proofs.YtepbamacebjopaaGreatDoor
/- Roads without some arcs: the reference's WithoutOf. -/
namespace Go.Proofs.YtepbamacebjopaaGreatDoor
open Go.RowKit Go.Sort

theorem lt_of_heap2 {w : World} {k : Nat} {o : Obj} (h : w.heap[k]? = some o) : k < w.heap.size := (Array.getElem?_eq_some_iff.1 h).1
set_option maxRecDepth 100000 in
set_option maxHeartbeats 8000000 in
theorem w_WithoutOf (lo : Nat) (A B C : Option Addr) (nn ca cb cc : Nat) (rs : List Arc) (bs : List Ban) (lo2 : Nat) (D : Option Addr) (cd : Nat) (l : List ByteArray) (w : World) (hA : Rd w lo B 5 encArc rs) (hB : Rd w lo C 2 encBan bs) (hal : rs.length ≤ 400) (hbl : bs.length ≤ 400) (hD : Rd w lo2 D 1 encS l) (hl : l.length ≤ 65536) :
    Calls Tryz.prog 26 #[.agg #[.slice A nn ca, .slice B rs.length cb, .slice C bs.length cc], .slice D l.length cd] w fun e w' => ∃ vA vB : Value, e = .returned (.agg #[.slice A nn ca, vA, vB]) ∧ w'.ownsRow w.heap.size 37 5 vA (lessA rs (memS l)).length ((lessA rs (memS l)).flatMap encArc) ∧ w'.ownsRow w.heap.size 80 2 vB (lessB bs (memS l)).length ((lessB bs (memS l)).flatMap encBan) ∧ Nx w w' := by
  obtain ⟨wa, hwa⟩ : ∃ wa, wa = ((w.alloc (.cells #[.slice A nn ca, .slice B rs.length cb, .slice C bs.length cc] 30)).alloc (.cells #[.slice none 0 0, .slice none 0 0, .slice none 0 0] 30)).alloc (.cells #[.slice A nn ca, .slice none 0 0, .slice none 0 0] 30) := ⟨_, rfl⟩
  have hna : Nx w wa := hwa ▸ (((Nx.refl w).alloc _).alloc _).alloc _
  have hsz : wa.heap.size = w.heap.size + 3 := by rw [hwa]; simp
  have b1 : wa.cell? ⟨w.heap.size, 1, none⟩ = some (.slice B rs.length cb) := by rw [hwa]; go_simp
  have b2 : wa.cell? ⟨w.heap.size, 2, none⟩ = some (.slice C bs.length cc) := by rw [hwa]; go_simp
  have r0 : wa.heap[w.heap.size + 1]? = some (.cells #[.slice none 0 0, .slice none 0 0, .slice none 0 0] 30 (0, 0)) := by rw [hwa, ((Nx.refl ((w.alloc (.cells #[.slice A nn ca, .slice B rs.length cb, .slice C bs.length cc] 30)).alloc (.cells #[.slice none 0 0, .slice none 0 0, .slice none 0 0] 30))).alloc _).block _ (by simp)]; exact hnew (by simp)
  have ob0 : wa.heap[w.heap.size + 2]? = some (.cells #[.slice A nn ca, .slice none 0 0, .slice none 0 0] 30 (0, 0)) := by rw [hwa]; exact hnew (by simp)
  obtain ⟨ob, hob⟩ : ∃ ob, ob = w.heap.size + 2 := ⟨_, rfl⟩
  rw [← hob] at ob0
  have HNW := hide (fun W (hg : Gr ob wa W) => hna.grown (row := some ob) hg (fun k e => by injection e with e; omega))
  have HBX := hide (fun W (hg : Gr ob wa W) => (⟨World.grownBy.cell (row := some ob) hg b1 (by simp; omega), World.grownBy.cell (row := some ob) hg b2 (by simp; omega)⟩ : W.cell? ⟨w.heap.size, 1, none⟩ = some (.slice B rs.length cb) ∧ W.cell? ⟨w.heap.size, 2, none⟩ = some (.slice C bs.length cc)))
  have HR4 := hide (fun W (hg : Gr ob wa W) => (show W.heap[w.heap.size + 1]? = some (.cells #[.slice none 0 0, .slice none 0 0, .slice none 0 0] 30 (0, 0)) from (hg.block _ (by omega) (by simp; omega)).trans r0))
  have HAA := hide (fun W (hx : Nx w W) => hA.nx hx)
  have HBB := hide (fun W (hx : Nx w W) => hB.nx hx)
  have HCO := hide (fun s W (hx : Nx w W) => w_ContS2 lo2 D cd l s W (hD.nx hx) hl)
  have HSZ := hide hsz
  have HOB := hide hob
  have HWA := hide hwa
  have HO0 := hide ob0
  clear hna hA hB hD hsz b1 b2 r0 ob0 hwa
  obtain ⟨g, hg⟩ : ∃ g, g = memS l := ⟨_, rfl⟩
  rw [← hg] at HCO ⊢
  clear hg
  obtain ⟨nr, hnr⟩ : ∃ nr, nr = rs.length := ⟨_, rfl⟩
  obtain ⟨nb, hnb⟩ : ∃ nb, nb = bs.length := ⟨_, rfl⟩
  obtain ⟨nl, hnl⟩ : ∃ nl, nl = l.length := ⟨_, rfl⟩
  rw [← hnl] at HCO
  rw [← hnr, ← hnb] at HBX HWA
  rw [← hnr] at hal
  rw [← hnb] at hbl
  rw [← hnr, ← hnb, ← hnl]
  have HNR := hide hnr
  have HNB := hide hnb
  clear hnr hnb hnl hl hob
  go_enter Tryz.func26, Tryz.ntmps26
  go_upto_region 2 with fail
  rw [← HWA.out, show w.heap.size + 1 + 1 = ob by rw [HOB.out]]
  clear HWA
  obtain ⟨c1, c2⟩ := HBX.out wa (Gr.refl _ _)
  go_wp2_with fail
  clear c1 c2
  go_loopw [16] (fun i wr => ∃ (k : Nat) (vA : Value), k ≤ nr ∧ i = .int .i64 k ∧ Gr ob wa wr ∧ wr.heap[ob]? = some (.cells #[.slice A nn ca, vA, .slice none 0 0] 30 (0, 0)) ∧ wr.ownsRow wa.heap.size 37 5 vA (lessA (rs.take k) g).length ((lessA (rs.take k) g).flatMap encArc)) (fun i _ => nr - (intOf i).toNat)
  case atStart => exact ⟨0, .slice none 0 0, Nat.zero_le _, rfl, Gr.refl _ _, HO0.out, World.ownsRow_nil _ _ _ _⟩
  case round =>
    clear HO0
    obtain ⟨k, vA, hk, rfl, hgw, hob, hown⟩ := hrel
    have HGW := hide hgw
    have HO := hide hob
    have HOW := hide hown
    have hbw := HNW.out wr hgw
    have HBW := hide hbw
    have hobl : ob < wr.heap.size := lt_of_heap2 hob
    have o1 : wr.cell? ⟨ob, 1, none⟩ = some vA := (cell_of_row wr ob 1 _ _ _ hob).trans rfl
    have HO1 := hide o1
    clear hgw hob hown o1
    by_cases hlt : k < nr
    · have hlt' : k < rs.length := by have := HNR.out; omega
      obtain ⟨ab, aoff, eA, _, _, hab, hac⟩ := (HAA.out wr hbw).open_ (Nx.refl _) (by have := HNR.out; omega)
      have k0 : wr.cell? ⟨ab, aoff + k * 5, none⟩ = some (.string rs[k].key) := hac k hlt' 0 _ rfl
      have k1 : wr.cell? ⟨ab, aoff + k * 5 + 1, none⟩ = some (.string rs[k].from_) := hac k hlt' 1 _ rfl
      have k2 : wr.cell? ⟨ab, aoff + k * 5 + 2, none⟩ = some (.string rs[k].to_) := hac k hlt' 2 _ rfl
      have k3 : wr.cell? ⟨ab, aoff + k * 5 + 3, none⟩ = some (.int .i64 rs[k].long) := hac k hlt' 3 _ rfl
      have k4 : wr.cell? ⟨ab, aoff + k * 5 + 4, none⟩ = some (.slice rs[k].ka rs[k].knots.length rs[k].kc) := hac k hlt' 4 _ rfl
      have HTK := hide (lessA_take rs g k hlt')
      clear hac hab
      generalize rs[k] = x at *
      subst eA
      obtain ⟨P, hP⟩ : ∃ P, P = wr.heap.size := ⟨_, rfl⟩
      obtain ⟨w3, hw3⟩ : ∃ w3, w3 = wr.alloc (.cells #[.string x.key, .string x.from_, .string x.to_, .int .i64 x.long, .slice x.ka x.knots.length x.kc] 37) := ⟨_, rfl⟩
      have hn3 : Nx wr w3 := hw3 ▸ (Nx.refl wr).alloc _
      have hPb : w3.heap[P]? = some (.cells #[.string x.key, .string x.from_, .string x.to_, .int .i64 x.long, .slice x.ka x.knots.length x.kc] 37 (0, 0)) := by rw [hw3]; exact hnew hP
      have HPB := hide hPb
      have HW3 := hide hw3
      have HN3 := hide hn3
      have HPN := hide hP
      have HG := hide (HCO.out x.key w3 (hbw.trans hn3))
      have p0 : w3.cell? ⟨P, 0, none⟩ = some (.string x.key) := (cell_of_row w3 _ 0 _ _ _ hPb).trans rfl
      have i1 : (0 : Int) ≤ (k : Int) := by omega
      have i2 : (k : Int) < (nr : Int) := by omega
      clear hPb hw3 hn3 hP
      go_upto_region 5 with fail
      rw [← HW3.out, ← HPN.out]
      clear k0 k1 k2 k3 k4 HW3
      cases hm : g x.key
      · rw [hm] at HG
        have HTK2 := hide (HTK.out.trans (by rw [hm]; simp : _ = lessA (rs.take k) g ++ [x]))
        clear hm HTK
        go_wp2_with fail
        refine HG.out.mono ?_
        rintro e w6 ⟨rfl, hn4⟩
        have hn6 := HN3.out.trans hn4
        have hP6 := (hn4.block P (lt_of_heap2 HPB.out)).trans HPB.out
        have hob6 := (hn6.block ob hobl).trans HO.out
        have o6 : w6.cell? ⟨ob, 1, none⟩ = some vA := (cell_of_row w6 ob 1 _ _ _ hob6).trans rfl
        have z0 : w6.cell? ⟨P, 0, none⟩ = some (.string x.key) := (cell_of_row w6 _ 0 _ _ _ hP6).trans rfl
        have z1 : w6.cell? ⟨P, 1, none⟩ = some (.string x.from_) := (cell_of_row w6 _ 1 _ _ _ hP6).trans rfl
        have z2 : w6.cell? ⟨P, 2, none⟩ = some (.string x.to_) := (cell_of_row w6 _ 2 _ _ _ hP6).trans rfl
        have z3 : w6.cell? ⟨P, 3, none⟩ = some (.int .i64 x.long) := (cell_of_row w6 _ 3 _ _ _ hP6).trans rfl
        have z4 : w6.cell? ⟨P, 4, none⟩ = some (.slice x.ka x.knots.length x.kc) := (cell_of_row w6 _ 4 _ _ _ hP6).trans rfl
        have HO6 := hide (own_nx HOW.out hn6)
        have HOB6 := hide hob6
        have HN6 := hide hn6
        have hsz6 : wa.heap.size ≤ w6.heap.size := Nat.le_trans HGW.out.sz hn6.sz
        have HVB := hide (own_blk_lt HO6.out)
        have hll : (lessA (rs.take k) g).length ≤ 400 := Nat.le_trans lessA_len (by rw [List.length_take]; omega)
        obtain ⟨L, hL⟩ : ∃ L, L = lessA (rs.take k) g := ⟨_, rfl⟩
        rw [← hL] at HO6 HTK2 hll
        clear hP6 hob6 hn6 hn4 p0 hL HG
        go_wp2_with (at_builtin; go_must (refine wpApp2 rfl _ _ _ rfl el_ArcO encArc encArc_len encArc_one (by omega) (by omega) wa.heap.size _ L rfl (HO6.out.alloc _) _ x _ rfl (hnew rfl) rfl (by omega) (by simp; omega) ?_); intro v9 w9 hown9 hg9 _; (obtain ⟨A9, c9, e9, _, _⟩ := Rd.of_own encArc_len rfl hown9); (obtain ⟨nL, hnL⟩ : ∃ nL, nL = (L ++ [x]).length := ⟨_, rfl⟩); (rw [← hnL] at e9); (subst e9); (have HNL := hide hnL); (clear hnL); (have HO9 := hide hown9); (have HG9 := hide hg9); (have hob9 := (hg9.block ob (Nat.lt_of_lt_of_le (lt_of_heap2 HOB6.out) ((Nx.refl w6).alloc _).sz) (fun e => by have := HVB.out ob e.symm; have := HSZ.out; have := HOB.out; omega)).trans ((((Nx.refl w6).alloc _).block ob (lt_of_heap2 HOB6.out)).trans HOB6.out)); (have HOB9 := hide hob9); (have y9 : w9.cell? ⟨ob, 1, none⟩ = some vA := (cell_of_row w9 ob 1 _ _ _ hob9).trans rfl); (have yf9 := frozen_blk (j := 1) hob9); clear hown9 hg9 hob9)
        go_roundw
        case rel =>
          have hs := Gr.setS (Gr.refl ob w9) (p := ⟨ob, 1, none⟩) (Or.inl rfl) (.slice A9 nL c9)
          have hG9 : Gr ob wa w9 := ((HGW.out.then_nx HN6.out).alloc _).grown HG9.out (fun i hi => .inr (HVB.out i hi))
          refine ⟨k + 1, .slice A9 nL c9, by omega, by go_num, hG9.trans hs, heap_set HOB9.out, ?_⟩
          rw [HTK2.out]
          exact own_gr HO9.out hs (by have := HSZ.out; have := HOB.out; omega)
        case measure => simp [intOf]; omega
      · rw [hm] at HG
        have HTK2 := hide (HTK.out.trans (by rw [hm]; simp : _ = lessA (rs.take k) g))
        clear hm HTK
        go_wp2_with fail
        refine HG.out.mono ?_
        rintro e w4 ⟨rfl, hn4⟩
        have hn34 := HN3.out.trans hn4
        go_wp2_with fail
        go_roundw
        case rel => exact ⟨k + 1, vA, by omega, by go_num, HGW.out.then_nx hn34, (hn34.block ob hobl).trans HO.out, by rw [HTK2.out]; exact own_nx HOW.out hn34⟩
        case measure => simp [intOf]; omega
    · obtain rfl : nr = k := by omega
      have HTL := hide (show rs.take nr = rs by rw [HNR.out, List.take_length])
      rw [HTL.out] at HOW
      obtain ⟨A1, cA, rfl, _, _⟩ := Rd.of_own encArc_len rfl HOW.out
      obtain ⟨nA, hnA⟩ : ∃ nA, nA = (lessA rs g).length := ⟨_, rfl⟩
      rw [← hnA] at HO HO1
      have HNA := hide hnA
      obtain ⟨c1, c2⟩ := HBX.out wr HGW.out
      clear hlt hnA HTL
      go_upto_region 8 with fail
      go_wp2_with fail
      clear c1 c2 HO1
      obtain ⟨wv, hwv⟩ : ∃ wv, wv = wr := ⟨_, rfl⟩
      subst hwv
      go_loopw [35] (fun i wr => ∃ (k : Nat) (vB : Value), k ≤ nb ∧ i = .int .i64 k ∧ Gr ob wa wr ∧ wr.heap[ob]? = some (.cells #[.slice A nn ca, .slice A1 nA cA, vB] 30 (0, 0)) ∧ wr.ownsRow wa.heap.size 37 5 (.slice A1 nA cA) (lessA rs g).length ((lessA rs g).flatMap encArc) ∧ wr.ownsRow wa.heap.size 80 2 vB (lessB (bs.take k) g).length ((lessB (bs.take k) g).flatMap encBan)) (fun i _ => nb - (intOf i).toNat)
      case atStart => exact ⟨0, .slice none 0 0, Nat.zero_le _, rfl, HGW.out, HO.out, HNA.out ▸ HOW.out, World.ownsRow_nil _ _ _ _⟩
      case round =>
        clear HO HGW HBW HOW hobl hbw
        obtain ⟨k, vB, hk, rfl, hgw, hob, hownA, hown⟩ := hrel
        have HGW := hide hgw
        have HO := hide hob
        have HOW := hide hown
        have HOA := hide hownA
        have hbw := HNW.out wr hgw
        have HBW := hide hbw
        have hobl : ob < wr.heap.size := lt_of_heap2 hob
        by_cases hlt : k < nb
        · have hlt' : k < bs.length := by have := HNB.out; omega
          clear hgw hob hown hownA
          obtain ⟨ab, aoff, eB, _, _, hab, hac⟩ := (HBB.out wr hbw).open_ (Nx.refl _) (by have := HNB.out; omega)
          have k0 : wr.cell? ⟨ab, aoff + k * 2, none⟩ = some (.string bs[k].from_) := hac k hlt' 0 _ rfl
          have k1 : wr.cell? ⟨ab, aoff + k * 2 + 1, none⟩ = some (.string bs[k].to_) := hac k hlt' 1 _ rfl
          have HTK := hide (lessB_take bs g k hlt')
          clear hac hab
          generalize bs[k] = x at *
          subst eB
          obtain ⟨P, hP⟩ : ∃ P, P = wr.heap.size := ⟨_, rfl⟩
          obtain ⟨w3, hw3⟩ : ∃ w3, w3 = wr.alloc (.cells #[.string x.from_, .string x.to_] 80) := ⟨_, rfl⟩
          have hn3 : Nx wr w3 := hw3 ▸ (Nx.refl wr).alloc _
          have hPb : w3.heap[P]? = some (.cells #[.string x.from_, .string x.to_] 80 (0, 0)) := by rw [hw3]; exact hnew hP
          have HPB := hide hPb
          have HPX := hide (fun W (hx : Nx w3 W) => (hx.block P (lt_of_heap2 hPb)).trans hPb)
          have HW3 := hide hw3
          have HN3 := hide hn3
          have HPN := hide hP
          have HG := hide (fun s W (hx : Nx w3 W) => HCO.out s W ((hbw.trans hn3).trans hx))
          have p0 : w3.cell? ⟨P, 0, none⟩ = some (.string x.from_) := (cell_of_row w3 _ 0 _ _ _ hPb).trans rfl
          have i1 : (0 : Int) ≤ (k : Int) := by omega
          have i2 : (k : Int) < (nb : Int) := by omega
          clear hPb hw3 hn3 hP
          go_upto_region 11 with fail
          rw [← HW3.out, ← HPN.out]
          clear k0 k1 HW3
          cases hm : g x.from_
          · have HG1 := hide (hm ▸ HG.out x.from_ w3 (Nx.refl _))
            have HG2 := hide (fun W hx => HG.out x.to_ W hx)
            cases hm2 : g x.to_
            · rw [hm2] at HG2
              have HTK2 := hide (HTK.out.trans (by rw [hm, hm2]; simp : _ = lessB (bs.take k) g ++ [x]))
              clear hm hm2 HTK
              go_wp2_with fail
              refine HG1.out.mono ?_
              rintro e w4 ⟨rfl, hn4⟩
              have p1 : w4.cell? ⟨P, 1, none⟩ = some (.string x.to_) := (cell_of_row w4 _ 1 _ _ _ (HPX.out w4 hn4)).trans rfl
              go_wp2_with fail
              refine (HG2.out w4 hn4).mono ?_
              rintro e w6 ⟨rfl, hn5⟩
              have hn6 := (HN3.out.trans hn4).trans hn5
              have hP6 := HPX.out w6 (hn4.trans hn5)
              have hob6 := (hn6.block ob hobl).trans HO.out
              have o6 : w6.cell? ⟨ob, 2, none⟩ = some vB := (cell_of_row w6 ob 2 _ _ _ hob6).trans rfl
              have z0 : w6.cell? ⟨P, 0, none⟩ = some (.string x.from_) := (cell_of_row w6 _ 0 _ _ _ hP6).trans rfl
              have z1 : w6.cell? ⟨P, 1, none⟩ = some (.string x.to_) := (cell_of_row w6 _ 1 _ _ _ hP6).trans rfl
              have HO6 := hide (own_nx HOW.out hn6)
              have HOB6 := hide hob6
              have HN6 := hide hn6
              have hsz6 : wa.heap.size ≤ w6.heap.size := Nat.le_trans HGW.out.sz hn6.sz
              have HVB := hide (own_blk_lt HO6.out)
              have hll : (lessB (bs.take k) g).length ≤ 400 := Nat.le_trans lessB_len (by rw [List.length_take]; omega)
              obtain ⟨L, hL⟩ : ∃ L, L = lessB (bs.take k) g := ⟨_, rfl⟩
              rw [← hL] at HO6 HTK2 hll
              clear hP6 hob6 hn6 hn4 hn5 p0 p1 hL HG HG1 HG2
              go_wp2_with (at_builtin; go_must (refine wpApp2 rfl _ _ _ rfl el_BanO encBan encBan_len encBan_one (by omega) (by omega) wa.heap.size _ L rfl (HO6.out.alloc _) _ x _ rfl (hnew rfl) rfl (by omega) (by simp; omega) ?_); intro v9 w9 hown9 hg9 _; (obtain ⟨A9, c9, e9, _, _⟩ := Rd.of_own encBan_len rfl hown9); (obtain ⟨nL, hnL⟩ : ∃ nL, nL = (L ++ [x]).length := ⟨_, rfl⟩); (rw [← hnL] at e9); (subst e9); (have HNL := hide hnL); (clear hnL); (have HO9 := hide hown9); (have HG9 := hide hg9); (have hob9 := (hg9.block ob (Nat.lt_of_lt_of_le (lt_of_heap2 HOB6.out) ((Nx.refl w6).alloc _).sz) (fun e => by have := HVB.out ob e.symm; have := HSZ.out; have := HOB.out; omega)).trans ((((Nx.refl w6).alloc _).block ob (lt_of_heap2 HOB6.out)).trans HOB6.out)); (have HOB9 := hide hob9); (have y9 : w9.cell? ⟨ob, 2, none⟩ = some vB := (cell_of_row w9 ob 2 _ _ _ hob9).trans rfl); (have yf9 := frozen_blk (j := 2) hob9); clear hown9 hg9 hob9)
              go_roundw
              case rel =>
                have hs := Gr.setS (Gr.refl ob w9) (p := ⟨ob, 2, none⟩) (Or.inl rfl) (.slice A9 nL c9)
                have hG9 : Gr ob wa w9 := ((HGW.out.then_nx HN6.out).alloc _).grown HG9.out (fun i hi => .inr (HVB.out i hi))
                have hOA9 := (own_nx (own_nx HOA.out HN6.out) ((Nx.refl w6).alloc (.cells #[.string x.from_, .string x.to_] 80))).kept HG9.out (own_apart (own_nx HOA.out HN6.out) HO6.out (by decide))
                have hlo : ob < wa.heap.size := by have := HSZ.out; have := HOB.out; omega
                refine ⟨k + 1, .slice A9 nL c9, by omega, by go_num, hG9.trans hs, heap_set HOB9.out, own_gr hOA9 hs hlo, ?_⟩
                rw [HTK2.out]
                exact own_gr HO9.out hs hlo
              case measure => simp [intOf]; omega
            · rw [hm2] at HG2
              have HTK2 := hide (HTK.out.trans (by rw [hm, hm2]; simp : _ = lessB (bs.take k) g))
              clear hm hm2 HTK
              go_wp2_with fail
              refine HG1.out.mono ?_
              rintro e w4 ⟨rfl, hn4⟩
              have p1 : w4.cell? ⟨P, 1, none⟩ = some (.string x.to_) := (cell_of_row w4 _ 1 _ _ _ (HPX.out w4 hn4)).trans rfl
              go_wp2_with fail
              refine (HG2.out w4 hn4).mono ?_
              rintro e w6 ⟨rfl, hn5⟩
              have hn34 := (HN3.out.trans hn4).trans hn5
              go_wp2_with fail
              go_roundw
              case rel => exact ⟨k + 1, vB, by omega, by go_num, HGW.out.then_nx hn34, (hn34.block ob hobl).trans HO.out, own_nx HOA.out hn34, by rw [HTK2.out]; exact own_nx HOW.out hn34⟩
              case measure => simp [intOf]; omega
          · have HG1 := hide (hm ▸ HG.out x.from_ w3 (Nx.refl _))
            have HTK2 := hide (HTK.out.trans (by rw [hm]; simp : _ = lessB (bs.take k) g))
            clear hm HTK
            go_wp2_with fail
            refine HG1.out.mono ?_
            rintro e w4 ⟨rfl, hn4⟩
            have hn34 := HN3.out.trans hn4
            go_wp2_with fail
            go_roundw
            case rel => exact ⟨k + 1, vB, by omega, by go_num, HGW.out.then_nx hn34, (hn34.block ob hobl).trans HO.out, own_nx HOA.out hn34, by rw [HTK2.out]; exact own_nx HOW.out hn34⟩
            case measure => simp [intOf]; omega
        · obtain rfl : nb = k := by omega
          have HTL := hide (show bs.take nb = bs by rw [HNB.out, List.take_length])
          rw [HTL.out] at HOW
          have o0 : wr.cell? ⟨ob, 0, none⟩ = some (.slice A nn ca) := (cell_of_row wr ob 0 _ _ _ hob).trans rfl
          have o1 : wr.cell? ⟨ob, 1, none⟩ = some (.slice A1 nA cA) := (cell_of_row wr ob 1 _ _ _ hob).trans rfl
          have o2 : wr.cell? ⟨ob, 2, none⟩ = some vB := (cell_of_row wr ob 2 _ _ _ hob).trans rfl
          have hr4 := HR4.out wr hgw
          have q0 : wr.cell? ⟨w.heap.size + 1, 0, none⟩ = some (.slice none 0 0) := (cell_of_row wr _ 0 _ _ _ hr4).trans rfl
          have q1 : wr.cell? ⟨w.heap.size + 1, 1, none⟩ = some (.slice none 0 0) := (cell_of_row wr _ 1 _ _ _ hr4).trans rfl
          have q2 : wr.cell? ⟨w.heap.size + 1, 2, none⟩ = some (.slice none 0 0) := (cell_of_row wr _ 2 _ _ _ hr4).trans rfl
          have f0 := frozen_blk (j := 0) hr4
          have f1 := frozen_blk (j := 1) hr4
          have f2 := frozen_blk (j := 2) hr4
          obtain ⟨B1, cB, rfl, _, _⟩ := Rd.of_own encBan_len rfl HOW.out
          obtain ⟨nB, hnB⟩ : ∃ nB, nB = (lessB bs g).length := ⟨_, rfl⟩
          have HNB3 := hide hnB
          rw [← hnB] at o2
          clear hlt hob hgw hown hownA hnB HTL HO
          go_wp2_with fail
          have s1 := Gr.setS (Gr.refl (w.heap.size + 1) wr) (p := ⟨w.heap.size + 1, 0, none⟩) (Or.inl rfl) (.slice A nn ca)
          have s2 := Gr.setS s1 (p := ⟨w.heap.size + 1, 1, none⟩) (Or.inl rfl) (.slice A1 nA cA)
          have s3 := Gr.setS s2 (p := ⟨w.heap.size + 1, 2, none⟩) (Or.inl rfl) (.slice B1 nB cB)
          have hlo : w.heap.size + 1 < wa.heap.size := by have := HSZ.out; omega
          have hbl1 := heap_set (i := 0) (u := .slice A nn ca) hr4
          have hbl2 := heap_set (i := 1) (u := .slice A1 nA cA) hbl1
          have hbl3 := heap_set (i := 2) (u := .slice B1 nB cB) hbl2
          have e0 := (cell_of_row _ (w.heap.size + 1) 0 _ _ _ hbl3).trans (show _ = some (.slice A nn ca) from rfl)
          have e1 := (cell_of_row _ (w.heap.size + 1) 1 _ _ _ hbl3).trans (show _ = some (.slice A1 nA cA) from rfl)
          have e2 := (cell_of_row _ (w.heap.size + 1) 2 _ _ _ hbl3).trans (show _ = some (.slice B1 nB cB) from rfl)
          have hle : w.heap.size ≤ wa.heap.size := by omega
          refine bodyPost_ret (v := .agg #[.slice A nn ca, .slice A1 nA cA, .slice B1 nB cB]) ?_ rfl ⟨_, _, rfl, ?_, ?_, ?_⟩
          · simp [results, Tryz.results26, go_sem, e0, e1, e2]
          · exact World.ownsRow.mono (own_gr HOA.out s3 hlo) hle
          · exact World.ownsRow.mono (own_gr (by rw [HNB3.out]; exact HOW.out) s3 hlo) hle
          · exact Nx.of_gr ((Gr.of_nx HBW.out).trans s3) (by omega)
end Go.Proofs.YtepbamacebjopaaGreatDoor
/- slices.Repeat of one number. -/
namespace Go.Proofs.YtepbamacebjopaaGreatDoor
open Go.RowKit Go.Proofs Go.Shelf

theorem run_make_intsC (n : Nat) (hn : n ≤ 100000) (w : World) : (Instr.makeSlice 22 (.int .i64 (n : Int)) (.int .i64 (n : Int))).run Tryz.prog w = .ok (.slice (some ⟨w.heap.size, 0, none⟩) n n) (w.alloc (.cells (madeCells #[.int .i64 0] n) 3)) := by
  obtain ⟨i, h1, h2, h3, h4⟩ := info_parts (show (Tryz.prog.info? 3).map (fun i => (i.zero, i.size, i.bytes)) = some (some (.int .i64 0), 1, 8) by kernel_rfl)
  have h := run_make (P := Tryz.prog) w 22 3 i (.int .i64 0) Tryz.underlying22 h1 h2 .i64 .i64 (n : Int) (n : Int) (by omega) (by omega) (by rw [h4]; omega) (by omega)
  rw [h]
  simp [h3, Value.cells]
end Go.Proofs.YtepbamacebjopaaGreatDoor
/- Is a ban among the bans: the reference. -/
namespace Go.Proofs.YtepbamacebjopaaGreatDoor
open Go.RowKit

theorem sin_Ban (d : Nat) (x y a b : ByteArray) (w : World) : (Op.equalIn (d + 2) 80 (.agg #[.string x, .string y]) (.agg #[.string a, .string b])).run Tryz.prog w = .ok (x.toList == a.toList && y.toList == b.toList) w := by
  have u3 := Tryz.underlying9
  have a3 := Tryz.isAgg9
  have z3 := Tryz.sizeOf9
  have hS : Tryz.prog.underlying 80 = some (.struct (Tryz.prog.fieldsOf 80)) := by kernel_rfl
  have hp : Tryz.prog.stoodInHeld 80 = false := by kernel_rfl
  rw [run_equalIn_agg w (d + 1) 80 _ _ hS hp]
  simp only [Program.fieldsOf, Tryz.underlying80]
  go_simp
  cases h1 : x.toList == a.toList <;> cases h2 : y.toList == b.toList <;> simp_all
theorem eql_Ban (x y a b : ByteArray) (w : World) : (binOp .eql 80 (.agg #[.string x, .string y]) (.agg #[.string a, .string b])).run Tryz.prog w = .ok (.bool (x.toList == a.toList && y.toList == b.toList)) w := by
  rw [run_eql_struct, show (10000 : Nat) = 9998 + 2 from rfl, sin_Ban]; rfl
attribute [local go_sem ↓] eql_Ban

set_option maxRecDepth 100000 in
set_option maxHeartbeats 2000000 in
theorem w_IdxB (lo : Nat) (A : Option Addr) (c : Nat) (l : List Ban) (f t : ByteArray) (w : World) (hR : Rd w lo A 2 encBan l) (hl : l.length ≤ 65536) :
    Calls Tryz.prog 173 #[.slice A l.length c, .agg #[.string f, .string t]] w fun e w' => ∃ r : Int, e = .returned (.int .i64 r) ∧ decide (0 ≤ r) = bannedB l f t ∧ Nx w w' := by
  obtain ⟨wa, hwa⟩ : ∃ wa, wa = w.alloc (.cells #[.string f, .string t] 80) := ⟨_, rfl⟩
  have hna : Nx w wa := hwa ▸ (Nx.refl w).alloc _
  have hgw : w.heap.size < wa.heap.size := by rw [hwa]; simp
  have x0 : wa.cell? ⟨w.heap.size, 0, none⟩ = some (.string f) := by rw [hwa]; go_simp
  have x1 : wa.cell? ⟨w.heap.size, 1, none⟩ = some (.string t) := by rw [hwa]; go_simp
  have HR := hide (hR.nx hna)
  clear hR
  generalize hn : l.length = n at *
  have HN := hide hn
  clear hn
  go_enter Tryz.func173, Tryz.ntmps173
  go_wp2_with fail
  rw [← hwa]
  have HWA := hide hwa
  clear hwa
  generalize w.heap.size = g at *
  go_loopw [5, 8] (fun _ i wr => ∃ k : Nat, k ≤ n ∧ i = .int .i64 k ∧ Nx wa wr ∧ bannedB (l.take k) f t = false) (fun _ i _ => n - (intOf i).toNat)
  case atStart => exact ⟨0, Nat.zero_le _, rfl, Nx.refl _, rfl⟩
  case round =>
    obtain ⟨k, hk, rfl, hbw, hq⟩ := hrel
    have HQ := hide hq
    clear hq
    by_cases hlt : k < n
    · have hlt' : k < l.length := by have := HN.out; omega
      have y0 := nx_cell hbw hgw x0
      have y1 := nx_cell hbw hgw x1
      obtain ⟨b, off, rfl, _, hb, hbr, hc⟩ := HR.out.open_ hbw (by omega)
      have c0 : wr.cell? ⟨b, off + k * 2, none⟩ = some (.string l[k].from_) := hc k hlt' 0 _ rfl
      have c1 : wr.cell? ⟨b, off + k * 2 + 1, none⟩ = some (.string l[k].to_) := hc k hlt' 1 _ rfl
      have k1 : (k : Int) < (n : Int) := by omega
      have k2 : (0 : Int) ≤ (k : Int) := by omega
      have HT := hide (show bannedB (l.take (k + 1)) f t = (bannedB (l.take k) f t || (decide (l[k].from_ = f) && decide (l[k].to_ = t))) by
        unfold bannedB
        rw [List.take_succ_eq_append_getElem hlt', List.any_append]; simp)
      have HM := hide (show (decide (l[k].from_ = f) && decide (l[k].to_ = t)) = true → bannedB l f t = true from fun h => by
        unfold bannedB
        exact List.any_eq_true.2 ⟨l[k], List.getElem_mem hlt', h⟩)
      clear hc
      generalize l[k] = x at *
      have he : (f.toList == x.from_.toList && t.toList == x.to_.toList) = (decide (x.from_ = f) && decide (x.to_ = t)) := by
        rw [eqS_iff, eqS_iff]
        congr 1
        · exact decide_eq_decide.2 eq_comm
        · exact decide_eq_decide.2 eq_comm
      generalize hbb : (decide (x.from_ = f) && decide (x.to_ = t)) = bb at *
      go_upto_region 4 with fail
      go_quiet (fail)
      cases bb
      · go_wp2_with fail
        go_roundw
        case rel => exact ⟨k + 1, by omega, by go_num, hbw.drewN _, by rw [HT.out, HQ.out]; rfl⟩
        case measure => simp [intOf]; omega
      · go_wp2_with fail
        go_ret
        exact ⟨_, rfl, by rw [HM.out (by trivial)]; simp, hna.trans (hbw.drewN _)⟩
    · go_wp2_with fail
      go_ret
      refine ⟨_, rfl, ?_, hna.trans hbw⟩
      have := HQ.out
      rw [List.take_of_length_le (by have := HN.out; omega)] at this
      rw [this]; rfl
theorem w_ContB (lo : Nat) (A : Option Addr) (c : Nat) (l : List Ban) (f t : ByteArray) (w : World) (hR : Rd w lo A 2 encBan l) (hl : l.length ≤ 65536) :
    Calls Tryz.prog 161 #[.slice A l.length c, .agg #[.string f, .string t]] w fun e w' => e = .returned (.bool (bannedB l f t)) ∧ Nx w w' := by
  have HI := hide (fun W hx => w_IdxB lo A c l f t W hx hl)
  have HR := hide (hR.nx ((Nx.refl w).alloc (.cells #[.string f, .string t] 80)))
  clear hR
  generalize l.length = n at *
  generalize bannedB l f t = z at *
  go_enter Tryz.func161, Tryz.ntmps161
  go_wp2_with (go_at_call 173; refine (HI.out _ HR.out).mono ?_; rintro e w2 ⟨r, rfl, hr, hn2⟩)
  go_ret
  exact ⟨rfl, ((Nx.refl w).alloc _).trans hn2⟩
theorem w_bannedQ (lo : Nat) (A B C : Option Addr) (n1 n2 ca cb cc : Nat) (l : List Ban) (f t : ByteArray) (w : World) (hR : Rd w lo C 2 encBan l) (hl : l.length ≤ 65536) :
    Calls Tryz.prog 138 #[.agg #[.slice A n1 ca, .slice B n2 cb, .slice C l.length cc], .string f, .string t] w fun e w' => e = .returned (.bool (bannedB l f t)) ∧ Nx w w' := by
  have HI := hide (fun W hx => w_ContB lo C cc l f t W hx hl)
  have HR := hide (hR.nx ((Nx.refl w).alloc (.cells #[.slice A n1 ca, .slice B n2 cb, .slice C l.length cc] 30)))
  clear hR
  generalize l.length = n at *
  generalize bannedB l f t = z at *
  go_enter Tryz.func138, Tryz.ntmps138
  go_wp2_with (go_at_call 161; refine (HI.out _ HR.out).mono ?_; rintro e w2 ⟨rfl, hn2⟩)
  go_ret
  exact ⟨rfl, ((Nx.refl w).alloc _).trans hn2⟩
end Go.Proofs.YtepbamacebjopaaGreatDoor
/- When one comes out of each of some arcs: the program. -/
namespace Go.Proofs.YtepbamacebjopaaGreatDoor
open Go.RowKit

theorem time_bd {l : List Knot} (h : KOk l) (at_ : Int) : 0 ≤ timeI l at_ ∧ timeI l at_ ≤ 622080000000000 := by
  unfold timeI
  generalize ht : at_ % dayMs = t
  have htb : 0 ≤ t ∧ t ≤ 86399999 := by unfold dayMs at ht; omega
  obtain ⟨i, hi, h1, h2⟩ := seg_ex h htb.1
  rw [seg_of h hi h1 h2]
  have hab := after_bd h hi
  have hkb := h.bd i hi
  have haf : t < (afterK l i).at_ := by
    unfold afterK
    by_cases h3 : i + 1 < l.length
    · rw [if_pos h3]; exact h2 h3
    · rw [if_neg h3]; show t < dayMs; unfold dayMs; omega
  generalize afterK l i = y at *
  generalize l.getD i default = x at *
  unfold lineI
  have m1 : 0 ≤ x.time * (y.at_ - t) ∧ x.time * (y.at_ - t) ≤ 3600000 * 86400000 := ⟨Int.mul_nonneg (by omega) (by omega), Int.mul_le_mul (by omega) (by omega) (by omega) (by omega)⟩
  have m2 : 0 ≤ y.time * (t - x.at_) ∧ y.time * (t - x.at_) ≤ 3600000 * 86400000 := ⟨Int.mul_nonneg (by omega) (by omega), Int.mul_le_mul (by omega) (by omega) (by omega) (by omega)⟩
  have h3 := Int.ediv_nonneg (a := x.time * (y.at_ - t) + y.time * (t - x.at_)) (b := y.at_ - x.at_) (by omega) (by omega)
  have h4 := Int.ediv_le_self (a := x.time * (y.at_ - t) + y.time * (t - x.at_)) (y.at_ - x.at_) (by omega)
  omega
end Go.Proofs.YtepbamacebjopaaGreatDoor
/- The reference's out times: what may be bettered, and the loops. -/
namespace Go.Proofs.YtepbamacebjopaaGreatDoor
open Go.RowKit

def intRowO (l : List Int) : Obj := .cells (l.map (Value.int .i64)).toArray 3 (0, 0)
theorem intRowO_set (l : List Int) (i : Nat) (v : Int) : (l.map (Value.int .i64)).toArray.setIfInBounds i (.int .i64 v) = ((l.set i v).map (Value.int .i64)).toArray := by
  apply Array.ext'
  simp [List.map_set]
theorem intRowO_cell {w : World} {g : Nat} {l : List Int} (h : w.heap[g]? = some (intRowO l)) {i : Nat} (hi : i < l.length) : w.cell? ⟨g, i, none⟩ = some (.int .i64 (gi l i)) := by
  refine (cell_of_row w g i _ _ _ h).trans ?_
  rw [← Array.getElem?_toList]
  simp [hi, gi]
/-- The roads' box, the row, the row's box. -/
structure OM (w0 w : World) (A B C : Option Addr) (nn m nb ca cb cc : Nat) (o : List Int) : Prop where
  nx : Nx w0 w
  box : w.heap[w0.heap.size]? = some (.cells #[.slice A nn ca, .slice B m cb, .slice C nb cc] 30 (0, 0))
  row : w.heap[w0.heap.size + 1]? = some (intRowO o)
  var_ : w.heap[w0.heap.size + 2]? = some (.cells #[.slice (some ⟨w0.heap.size + 1, 0, none⟩) m m] 22 (0, 0))
  len : o.length = m
section
variable {w0 w w' : World} {A B C : Option Addr} {nn m nb ca cb cc : Nat} {o : List Int}
theorem OM.step (h : OM w0 w A B C nn m nb ca cb cc o) (hn : Nx w w') : OM w0 w' A B C nn m nb ca cb cc o :=
  ⟨h.nx.trans hn, (hn.block _ (Array.getElem?_eq_some_iff.1 h.box).1).trans h.box, (hn.block _ (Array.getElem?_eq_some_iff.1 h.row).1).trans h.row, (hn.block _ (Array.getElem?_eq_some_iff.1 h.var_).1).trans h.var_, h.len⟩
theorem OM.set (h : OM w0 w A B C nn m nb ca cb cc o) (i : Nat) (v : Int) : OM w0 (w.setCell ⟨w0.heap.size + 1, i, none⟩ (.int .i64 v)) A B C nn m nb ca cb cc (o.set i v) := by
  refine ⟨h.nx.setCell (by show _ ≤ w0.heap.size + 1; omega) _, (Below.heap_setCell _ _ _ _ (by show w0.heap.size ≠ w0.heap.size + 1; omega)).trans h.box, ?_, (Below.heap_setCell _ _ _ _ (by show w0.heap.size + 2 ≠ w0.heap.size + 1; omega)).trans h.var_, by simpa using h.len⟩
  rw [heap_set h.row, intRowO_set]; rfl
theorem OM.b1 (h : OM w0 w A B C nn m nb ca cb cc o) : w.cell? ⟨w0.heap.size, 1, none⟩ = some (.slice B m cb) := (cell_of_row w _ 1 _ _ _ h.box).trans rfl
theorem OM.v0 (h : OM w0 w A B C nn m nb ca cb cc o) : w.cell? ⟨w0.heap.size + 2, 0, none⟩ = some (.slice (some ⟨w0.heap.size + 1, 0, none⟩) m m) := (cell_of_row w _ 0 _ _ _ h.var_).trans rfl
end
set_option maxRecDepth 100000 in
set_option maxHeartbeats 4000000 in
theorem w_better (w0 w : World) (lo : Nat) (A B C : Option Addr) (nn nb ca cb cc : Nat) (ns : List Node) (rs : List Arc) (bs : List Ban) (o : List Int) (i : Nat) (t : Int)
    (hA : RdArcs w0 lo B rs) (hal : rs.length ≤ 400) (hKO : ∀ x ∈ rs, KOk x.knots) (hS : OM w0 w A B C nn rs.length nb ca cb cc o) (hi : i < rs.length) (ht : 0 ≤ t) :
    Calls Tryz.prog 136 #[.int .i64 (i : Int), .int .i64 t, .pointer (some ⟨w0.heap.size, 0, none⟩), .pointer (some ⟨w0.heap.size + 2, 0, none⟩)] w
      fun e w' => e = .returned (.bool (betB (gphOf ns rs bs) o i t)) ∧ OM w0 w' A B C nn rs.length nb ca cb cc (betO (gphOf ns rs bs) o i t) ∧ Gr (w0.heap.size + 1) w w' := by
  by_cases he : t < 345686400000
  · have hAw := hA.nx hS.nx
    obtain ⟨hKx, hLx, hSx⟩ := hAw.2 rs[i] (List.getElem_mem hi)
    have hko := hKO rs[i] (List.getElem_mem hi)
    obtain ⟨b, off, rfl, _, hb, hbr, hc⟩ := hAw.1.open_ (Nx.refl w) (by omega)
    have a0 : w.cell? ⟨b, off + i * 5, none⟩ = some (.string rs[i].key) := hc i hi 0 _ rfl
    have a1 : w.cell? ⟨b, off + i * 5 + 1, none⟩ = some (.string rs[i].from_) := hc i hi 1 _ rfl
    have a2 : w.cell? ⟨b, off + i * 5 + 2, none⟩ = some (.string rs[i].to_) := hc i hi 2 _ rfl
    have a3 : w.cell? ⟨b, off + i * 5 + 3, none⟩ = some (.int .i64 rs[i].long) := hc i hi 3 _ rfl
    have a4 : w.cell? ⟨b, off + i * 5 + 4, none⟩ = some (.slice rs[i].ka rs[i].knots.length rs[i].kc) := hc i hi 4 _ rfl
    have HT := hide (w_ArcTime lo rs[i] t w hKx hko ⟨ht, by omega⟩)
    have htb := time_bd hko t
    have HOUT := hide (show (gphOf ns rs bs).out i t = t + timeI rs[i].knots t by show t + timeI (arcX rs i).knots t = _; rw [arcX_get hi])
    have b1 := hS.b1
    have v0 := hS.v0
    have HS := hide hS
    have HBB := hide (show betB (gphOf ns rs bs) o i t = decide (t + timeI rs[i].knots t < gi o i) by unfold betB; rw [HOUT.out, show decide (t < endT) = true from decide_eq_true he, Bool.true_and])
    have HBO := hide (show betO (gphOf ns rs bs) o i t = if betB (gphOf ns rs bs) o i t then o.set i (t + timeI rs[i].knots t) else o by unfold betO; rw [HOUT.out])
    have HI := hide hi
    clear hA hKO hS hAw hKx hLx hSx hko hc HOUT
    generalize timeI rs[i].knots t = z at *
    generalize rs[i].key = x0 at *
    generalize rs[i].from_ = x1 at *
    generalize rs[i].to_ = x2 at *
    generalize rs[i].long = x3 at *
    generalize rs[i].knots.length = x4 at *
    generalize rs[i].ka = x5 at *
    generalize rs[i].kc = x6 at *
    generalize betO (gphOf ns rs bs) o i t = BO at *
    generalize betB (gphOf ns rs bs) o i t = BB at *
    generalize hm : rs.length = m at *
    clear hm
    have i1 : (0 : Int) ≤ (i : Int) := by omega
    have i2 : (i : Int) < (m : Int) := by omega
    have q1 : IntKind.i64.wrap (t + z) = t + z := IntWalk.i64_in _ (by omega)
    have tE : decide (t ≥ 345686400000) = false := decide_eq_false (by omega)
    go_enter Tryz.func136, Tryz.ntmps136
    go_wp2_with fail
    refine HT.out.mono ?_
    rintro e w1 ⟨rfl, hn1⟩
    have HS1 := hide (HS.out.step hn1)
    have v1 := HS1.out.v0
    have hio : i < o.length := by rw [HS.out.len]; exact HI.out
    have x5' := intRowO_cell HS1.out.row hio
    have f5 : w1.frozen? ⟨w0.heap.size + 1, i, none⟩ = false := by simp [World.frozen?, HS1.out.row, intRowO]
    generalize gi o i = ov at *
    clear v0 b1 a0 a1 a2 a3 a4 hio
    by_cases hlt : t + z < ov
    · have tL : decide (ov ≤ t + z) = false := decide_eq_false (by omega)
      have hB : BB = true := by rw [HBB.out]; exact decide_eq_true hlt
      subst hB
      have HBO := hide (HBO.out.trans (if_pos rfl))
      clear hlt
      go_wp2_with fail
      go_ret
      rw [HBO.out]
      exact ⟨rfl, HS1.out.set i (t + z), ((Gr.of_nx hn1).setS (p := ⟨w0.heap.size + 1, i, none⟩) (.inl rfl) _)⟩
    · have tL : decide (ov ≤ t + z) = true := decide_eq_true (by omega)
      have hB : BB = false := by rw [HBB.out]; exact decide_eq_false hlt
      subst hB
      have HBO := hide (HBO.out.trans (if_neg (by simp)))
      clear hlt
      go_wp2_with fail
      go_ret
      rw [HBO.out]
      exact ⟨rfl, HS1.out, Gr.of_nx hn1⟩
  · have hB : betB (gphOf ns rs bs) o i t = false := by unfold betB; rw [show decide (t < endT) = false from decide_eq_false he, Bool.false_and]
    have hO : betO (gphOf ns rs bs) o i t = o := by unfold betO; rw [hB]; simp
    rw [hB, hO]
    have HS := hide hS
    clear hS hA hKO hB hO
    go_enter Tryz.func136, Tryz.ntmps136
    go_wp2_with fail
    go_ret
    exact ⟨rfl, HS.out, Gr.refl _ _⟩
end Go.Proofs.YtepbamacebjopaaGreatDoor
