/- The best choice of all: the program. -/
import Derived.Test.YtbjbeddjaajdaaaGreatDoorQTryP
import Derived.Test.YtbjbeddjaajdaaaGreatDoorQG32
import Derived.Laws.EntriesVeiled
namespace Go.Proofs.YtbjbeddjaajdaaaGreatDoor
open Go.RowKit

/-- What is wrong with what Choose is asked. -/
def chooseF (ns : List Node) (rs : List Arc) (bs : List Ban) (sites : List ByteArray) (many : Int) (ws : List Wgt) (ad wi : Int) : Int := if roadsF ns rs bs = 0 then (if sitesF ns sites = 0 then (if outB many 0 (sites.length : Int) then 1 else restF ns ws ad wi) else sitesF ns sites) else roadsF ns rs bs
def chooseP (ns : List Node) (rs : List Arc) (bs : List Ban) (sites : List ByteArray) (many : Int) (ws : List Wgt) (ad wi : Int) : List ByteArray × Int := if chooseF ns rs bs sites many ws ad wi = 0 then chooseR ns rs bs sites many ws ad wi else ([], 0)
def ChooseOut (w : World) (R : List ByteArray × Int) (F : Int) (e : Ending) (w' : World) : Prop := ∃ (Z : Option Addr) (cz : Nat), e = .returned (.tuple #[.slice Z R.1.length cz, .int .i64 R.2, .int .i64 F]) ∧ Rd w' 0 Z 1 encS R.1 ∧ R.1.length ≤ cz ∧ Nx w w'
theorem site_ok {ns : List Node} {l : List ByteArray} (h : sitesF ns l = 0) : l.length ≤ 14 ∧ ∀ s ∈ l, 0 ≤ nodeI ns s := by
  unfold sitesF at h
  by_cases h0 : 14 < l.length
  · rw [if_pos h0] at h; exact absurd h (by decide)
  · rw [if_neg h0] at h
    refine ⟨by omega, chk_all (F := siteF ns) (Q := fun s => 0 ≤ nodeI ns s) (fun p x hx => ?_) l none h⟩
    unfold siteF at hx
    split at hx
    · exact absurd hx (by decide)
    · omega
theorem chooseBad {w w' : World} {CV : List ByteArray × Int} {F z : Int} (hF : F = z) (hCV : CV = ([], 0)) (hn : Nx w w') : ChooseOut w CV F (.returned (.tuple #[.slice none 0 0, .int .i64 0, .int .i64 z])) w' := by
  subst hF hCV
  exact ⟨none, 0, rfl, Rd.nil, Nat.le_refl _, hn⟩
set_option maxRecDepth 100000 in
set_option maxHeartbeats 8000000 in
theorem w_Choose (lo : Nat) (A B C : Option Addr) (ca cb cc : Nat) (ns : List Node) (rs : List Arc) (bs : List Ban) (lo2 : Nat) (D : Option Addr) (cd : Nat) (sites : List ByteArray) (many : Int) (lo3 : Nat) (E : Option Addr) (ce : Nat) (ws : List Wgt) (ad wi : Int) (w : World)
    (hN : Rd w lo A 3 encNode ns) (hA : RdArcs w lo B rs) (hB : Rd w lo C 2 encBan bs) (hnl : ns.length ≤ 400) (hal : rs.length ≤ 400) (hbl : bs.length ≤ 400) (hS : SmallN ns) (hD : Rd w lo2 D 1 encS sites) (hl : sites.length ≤ 1000) (hE : Rd w lo3 E 2 encW ws) (hwl : ws.length ≤ 65536) :
    Calls Tryz.prog 34 #[.agg #[.slice A ns.length ca, .slice B rs.length cb, .slice C bs.length cc], .slice D sites.length cd, .int .i64 many, .slice E ws.length ce, .int .i64 ad, .int .i64 wi] w (ChooseOut w (chooseP ns rs bs sites many ws ad wi) (chooseF ns rs bs sites many ws ad wi)) := by
  obtain ⟨wa, hwa⟩ : ∃ wa, wa = (((w.alloc (.cells #[.slice A ns.length ca, .slice B rs.length cb, .slice C bs.length cc] 30)).alloc (.cells #[.slice D sites.length cd] 34)).alloc (.cells #[.int .i64 many] 3)).alloc (.cells #[.slice E ws.length ce] 71) := ⟨_, rfl⟩
  have hna : Nx w wa := hwa ▸ ((((Nx.refl w).alloc _).alloc _).alloc _).alloc _
  have hgs : wa.heap.size = w.heap.size + 4 := by rw [hwa]; simp
  have hgw : w.heap.size < wa.heap.size := by omega
  have b3 : wa.cell? ⟨w.heap.size + 1, 0, none⟩ = some (.slice D sites.length cd) := by rw [hwa]; go_simp
  have b4 : wa.cell? ⟨w.heap.size + 1 + 1, 0, none⟩ = some (.int .i64 many) := by rw [hwa]; go_simp
  have b5 : wa.cell? ⟨w.heap.size + 1 + 1 + 1, 0, none⟩ = some (.slice E ws.length ce) := by rw [hwa]; go_simp
  have b0 : wa.cell? ⟨w.heap.size, 0, none⟩ = some (.slice A ns.length ca) := by rw [hwa]; go_simp
  have b1 : wa.cell? ⟨w.heap.size, 1, none⟩ = some (.slice B rs.length cb) := by rw [hwa]; go_simp
  have b2 : wa.cell? ⟨w.heap.size, 2, none⟩ = some (.slice C bs.length cc) := by rw [hwa]; go_simp
  have hBox : BoxR wa w.heap.size lo A B C ca cb cc ns rs bs := ⟨b0, b1, b2, hgw, hN.nx hna, hA.nx hna, hB.nx hna, hnl, hal, hbl⟩
  have HC := hide (w_CheckRoads lo lo lo A B C ca cb cc ns rs bs wa hBox.hN hS hBox.nl hBox.hA hBox.al hBox.hB hBox.bl)
  have HF := hide (show chooseF ns rs bs sites many ws ad wi = if roadsF ns rs bs = 0 then (if sitesF ns sites = 0 then (if outB many 0 (sites.length : Int) then 1 else restF ns ws ad wi) else sitesF ns sites) else roadsF ns rs bs from rfl)
  have HCV := hide (show chooseP ns rs bs sites many ws ad wi = if chooseF ns rs bs sites many ws ad wi = 0 then chooseR ns rs bs sites many ws ad wi else ([], 0) from rfl)
  have HDD := hide (hD.nx hna)
  have HEE := hide (hE.nx hna)
  have HB := hide hBox
  have HBX := hide (fun W (h : Nx wa W) => (⟨nx_cell h (by omega) b3, nx_cell h (by omega) b4, nx_cell h (by omega) b5⟩ : W.cell? ⟨w.heap.size + 1, 0, none⟩ = some (.slice D sites.length cd) ∧ W.cell? ⟨w.heap.size + 1 + 1, 0, none⟩ = some (.int .i64 many) ∧ W.cell? ⟨w.heap.size + 1 + 1 + 1, 0, none⟩ = some (.slice E ws.length ce)))
  have HOK := hide (fun h : roadsF ns rs bs = 0 => (⟨newOk_of h, (roads_ok h).2.1⟩ : NewOk ns rs bs ∧ chk (arcF ns) none rs = 0))
  have HNEWK := hide (fun h : roadsF ns rs bs = 0 => fun s (hs : 0 ≤ nodeI ns s) => nodeI_small h hs)
  have HSK := hide (fun h : sitesF ns sites = 0 => site_ok h)
  have HCR := hide (show chooseR ns rs bs sites many ws ad wi = tryG (fun so => covI (so.map fun s => ws.map fun x => reachB ns rs bs ad wi s x.node) ws 0) many (sites.drop 0) [] ([], -1) by unfold chooseR; simp only [covI_covS]; rfl)
  clear hBox hN hA hB hD hE b3 b4 b5
  generalize chooseR ns rs bs sites many ws ad wi = CR at *
  generalize chooseP ns rs bs sites many ws ad wi = CV at *
  generalize chooseF ns rs bs sites many ws ad wi = F at *
  have HWA := hide hwa
  have HNA := hide hna
  have HGS := hide hgs
  clear hwa hna hgs
  by_cases hR : roadsF ns rs bs = 0
  · obtain ⟨hNO, hCC⟩ := HOK.out hR
    have HF := hide (HF.out.trans (if_pos hR))
    have HCB := hide (fun h : F ≠ 0 => (show CV = ([], 0) from HCV.out.trans (if_neg h)))
    have HIN := hide (fun s W (hx : Nx wa W) => w_isNodeD w.heap.size lo A ca ns s W (HB.out.nx hx).g0 (HB.out.nx hx).gl (HB.out.nx hx).hN (by omega))
    have HWF := hide (fun W (hx : Nx wa W) => w_weightsD w.heap.size lo A ca ns lo3 E ce ws ad wi W (HB.out.nx hx).g0 (HB.out.nx hx).gl (HB.out.nx hx).hN (by omega) (HEE.out.nx hx) hwl)
    have HNW := hide (fun W (hx : Nx wa W) => w_New w.heap.size lo A B C ca cb cc ns rs bs W (HB.out.nx hx) hNO)
    have HRE := hide (fun w0 W bt b n f bm M Ex (hM : MapR w0 bm w.heap.size lo A B C ca cb cc M ns rs bs) (hx : Nx wa w0) (hT : TripsR w0 W bt b n f bm ns.length rs.length (gphOf ns rs bs) Ex) hEx s (hs : 0 ≤ nodeI ns s) (ha : 0 ≤ ad ∧ ad ≤ 345686399999) (hwi : 0 ≤ wi ∧ wi ≤ 86400000) (hw5 : ws.length ≤ 500) (hb : ∀ x ∈ ws, 0 ≤ nodeI ns x.node) hn => w_reached w0 W bt b n f bm w.heap.size lo A B C ca cb cc M ns rs bs s lo3 E ce ws ad wi Ex hM hCC hNO.sn (HNEWK.out hR) hT hEx hs hnl ha hwi (HEE.out.nx hx) hw5 hb hn)
    have HCO := hide (fun W (hx : Nx wa W) bz Y cy es hw5 hb hY hyl hE => w_covered lo3 bz 0 E Y ce cy ws es W (HEE.out.nx hx) hw5 hb hY hyl hE)
    have HRK := hide (fun h : restF ns ws ad wi = 0 => restF_ok h)
    have HWK := hide (fun h : wgtsF ns ws = 0 => wgts_bd h)
    rw [hR] at HC
    clear HOK hR hNO hCC
    obtain ⟨R, hRR⟩ : ∃ R : ByteArray → List Bool, R = fun s => ws.map fun x => reachB ns rs bs ad wi s x.node := ⟨_, rfl⟩
    have HRL := hide (fun s => (show (R s).length = ws.length by rw [hRR]; exact List.length_map _))
    have HRE := hide (fun w0 W bt b n f bm M Ex hM hx hT hEx s hs ha hwi hw5 hb hn => (show Calls Tryz.prog 88 #[.pointer (some ⟨bt, 0, none⟩), .string s, .slice E ws.length ce, .int .i64 ad, .int .i64 wi] W (ReachedOut w0 W bt b n bm ns.length rs.length (gphOf ns rs bs) Ex (R s)) by rw [hRR]; exact HRE.out w0 W bt b n f bm M Ex hM hx hT hEx s hs ha hwi hw5 hb hn))
    have HCR := hide (show CR = tryG (fun so => covI (so.map R) ws 0) many (sites.drop 0) [] ([], -1) by rw [HCR.out, hRR])
    clear hRR
    generalize restF ns ws ad wi = RF at *
    have HSF := hide (fun h : ¬ 14 < sites.length => (show sitesF ns sites = chk (siteF ns) none sites from if_neg h))
    have HSF2 := hide (fun h : 14 < sites.length => (show sitesF ns sites = 2 from if_pos h))
    have HFS := hide (fun z (h0 : z ≠ 0) (h : sitesF ns sites = z) => (show F = z by rw [HF.out, if_neg (by rw [h]; exact h0), h]))
    have HFG := hide (fun h : sitesF ns sites = 0 => (show F = if outB many 0 (sites.length : Int) then 1 else RF by rw [HF.out, if_pos h]))
    clear HF
    generalize hnl2 : sites.length = n at *
    have HLN := hide hnl2
    clear hnl2
    generalize hnw : ws.length = m2 at *
    clear hnw
    go_enter Tryz.func34, Tryz.ntmps34
    go_upto_region 1 with fail
    rw [← HWA.out]
    generalize w.heap.size = g at *
    go_wp2_with fail
    refine HC.out.mono ?_
    rintro e w1 ⟨rfl, hn1⟩
    have HN1 := hide hn1
    obtain ⟨z0, z1, z2⟩ := HBX.out w1 hn1
    clear b0 b1 b2 hn1 HC
    by_cases hbig : 14 < n
    · have tb : decide ((n : Int) > 14) = true := decide_eq_true (by omega)
      have hF := HFS.out 2 (by decide) (HSF2.out hbig)
      go_wp2_with fail
      exact bodyPost_ret (v := .tuple #[.slice none 0 0, .int .i64 0, .int .i64 2]) (by simp [results, Tryz.results34, go_sem]) rfl (chooseBad hF (HCB.out (by rw [hF]; decide)) (HNA.out.trans HN1.out))
    · have tb : decide ((n : Int) > 14) = false := decide_eq_false (by omega)
      have HSE := hide (HSF.out hbig)
      clear HSF HSF2
      go_wp2_with fail
      go_loopw [36] (fun u wr => ∃ k : Nat, k ≤ n ∧ u = .int .i64 k ∧ Nx w1 wr ∧ chk (siteF ns) none sites = chk (siteF ns) (prevOf sites k) (sites.drop k)) (fun u _ => n - (intOf u).toNat)
      case atStart => exact ⟨0, Nat.zero_le _, rfl, Nx.refl _, rfl⟩
      case round =>
        obtain ⟨k, hk, rfl, hbw, hq⟩ := hrel
        have HQ := hide hq
        clear hq z0 z1 z2
        have hbr := HN1.out.trans hbw
        obtain ⟨z0, z1, z2⟩ := HBX.out wr hbr
        by_cases hlt : k < n
        · have hlt' : k < sites.length := by have := HLN.out; omega
          obtain ⟨yb, yo, rfl, _, hyb, hyb1, hyc⟩ := HDD.out.open_ hbr (by omega)
          have c0 : wr.cell? ⟨yb, yo + k, none⟩ = some (.string sites[k]) := by have := hyc k hlt' 0 _ rfl; simpa using this
          have HC2 := hide hyc
          have HDR := hide (chk_drop (siteF ns) sites k hlt')
          have HA := hide (HIN.out sites[k])
          clear hyc
          by_cases hn0 : nodeI ns sites[k] < 0
          · have HV := hide (show siteF ns (prevOf sites k) sites[k] = 8 from if_pos hn0)
            have t0 : decide (0 ≤ nodeI ns sites[k]) = false := decide_eq_false (by omega)
            have hF := HFS.out 8 (by decide) (by rw [HSE.out, HQ.out, HDR.out, HV.out]; rfl)
            clear hn0
            go_wp2_with (go_at_call 83; refine (HA.out _ hbr).mono ?_; rw [t0]; rintro e w2 ⟨rfl, hn2⟩)
            exact bodyPost_ret (v := .tuple #[.slice none 0 0, .int .i64 0, .int .i64 8]) (by simp [results, Tryz.results34, go_sem]) rfl (chooseBad hF (HCB.out (by rw [hF]; decide)) ((HNA.out.trans hbr).trans hn2))
          · have t0 : decide (0 ≤ nodeI ns sites[k]) = true := decide_eq_true (by omega)
            have HV0 := hide (show siteF ns (prevOf sites k) sites[k] = if aftS (prevOf sites k) sites[k] then 7 else 0 from if_neg hn0)
            clear hn0
            by_cases hk0 : 0 < k
            · have q0 : decide ((0 : Int) < (k : Int)) = true := by simpa using hk0
              have q1 : IntKind.i64.wrap ((k : Int) - 1) = (k : Int) - 1 := IntWalk.i64_in _ (by omega)
              have q2 : (1 : Int) ≤ (k : Int) := by omega
              have q3 : ((k : Int) - 1).toNat = k - 1 := by omega
              have q4 : (k : Int) - 1 < (n : Int) := by omega
              have HC4 := hide (show wr.cell? ⟨yb, yo + (k - 1), none⟩ = some (.string (sites[k - 1]'(by omega))) by have := HC2.out (k - 1) (by omega) 0 _ rfl; simpa using this)
              have HV1 := hide (show aftS (prevOf sites k) sites[k] = strLe sites[k] (sites[k - 1]'(by omega)) by rw [prevOf_pos sites k hk0 (by omega)]; rfl)
              generalize (sites[k - 1]'(by omega)) = p0 at *
              cases ho : strLe sites[k] p0
              · have t1 : (Op.bytesLess sites[k].toList p0.toList || sites[k].toList == p0.toList) = false := ho
                rw [ho] at HV1
                clear ho HC2
                go_wp2_with (go_at_call 83; refine (HA.out _ hbr).mono ?_; rw [t0]; rintro e w2 ⟨rfl, hn2⟩; have m2 := nx_cell hn2 hyb1 HC4.out; obtain ⟨y0, y1, y2⟩ := HBX.out _ (hbr.trans hn2))
                go_roundw
                case rel => exact ⟨k + 1, by omega, by go_num, hbw.trans hn2, by rw [HQ.out, HDR.out, HV0.out, HV1.out]; rfl⟩
                case measure => simp [intOf]; omega
              · have t1 : (Op.bytesLess sites[k].toList p0.toList || sites[k].toList == p0.toList) = true := ho
                rw [ho] at HV1
                have hF := HFS.out 7 (by decide) (by rw [HSE.out, HQ.out, HDR.out, HV0.out, HV1.out]; rfl)
                clear ho HC2
                go_wp2_with (go_at_call 83; refine (HA.out _ hbr).mono ?_; rw [t0]; rintro e w2 ⟨rfl, hn2⟩; have m2 := nx_cell hn2 hyb1 HC4.out; obtain ⟨y0, y1, y2⟩ := HBX.out _ (hbr.trans hn2))
                exact bodyPost_ret (v := .tuple #[.slice none 0 0, .int .i64 0, .int .i64 7]) (by simp [results, Tryz.results34, go_sem]) rfl (chooseBad hF (HCB.out (by rw [hF]; decide)) ((HNA.out.trans hbr).trans hn2))
            · have HV1 := hide (show aftS (prevOf sites k) sites[k] = false by have e : k = 0 := (by omega); subst e; rw [prevOf_zero]; rfl)
              have q0 : decide ((0 : Int) < (k : Int)) = false := by simpa using hk0
              clear HC2
              go_wp2_with (go_at_call 83; refine (HA.out _ hbr).mono ?_; rw [t0]; rintro e w2 ⟨rfl, hn2⟩)
              go_roundw
              case rel => exact ⟨k + 1, by omega, by go_num, hbw.trans hn2, by rw [HQ.out, HDR.out, HV0.out, HV1.out]; rfl⟩
              case measure => simp [intOf]; omega
        · have hse : sitesF ns sites = 0 := by rw [HSE.out, HQ.out, List.drop_of_length_le (by have := HLN.out; omega)]; rfl
          have HFG := hide (HFG.out hse)
          have HMS := hide (HSK.out hse).2
          have hn14 := (HSK.out hse).1
          clear hse HFS HSE HQ HSK HIN
          cases ho : outB many 0 (n : Int)
          · have hF := HFG.out
            rw [ho, if_neg (by simp)] at hF
            go_wp2_with (go_at_call 84; refine (w_Out _ _ _ _).mono ?_; rw [ho]; rintro e w' ⟨rfl, rfl⟩)
            refine (HWF.out wr hbr).mono ?_
            rintro e w3 ⟨rfl, hn3⟩
            have HN3 := hide (hbr.trans hn3)
            clear hn3 HWF
            by_cases hF0 : RF = 0
            · obtain ⟨hw0, hm, hwi1, hwi2⟩ := HRK.out hF0
              obtain ⟨hw5, hwb⟩ := HWK.out hw0
              subst hF0
              have HMB := hide (momB_true.1 hm)
              have HWB := hide hwb
              have hcv := HCV.out.trans (if_pos hF)
              have hwi : 0 ≤ wi ∧ wi ≤ 86400000 := ⟨hwi1, hwi2⟩
              subst hcv hF
              clear HRK HWK hw0 hm hwb HCV HCB HFG ho z0 z1 z2
              go_wp2_with fail
              refine (HNW.out w3 HN3.out).mono ?_
              rintro e w4 ⟨bm, M, rfl, _, hM, hn4⟩
              have HM := hide hM
              have HN4 := hide (HN3.out.trans hn4)
              clear hM hn4 HN3 HNW
              go_wp2_with fail
              refine (w_NewTrips bm ns.length rs.length (gphOf ns rs bs) w4).mono ?_
              rintro e w5 ⟨bt, b, rfl, _, hT⟩
              obtain ⟨w6, hw6⟩ : ∃ w6, w6 = w5.alloc (.cells #[.slice none 0 0] 153) := ⟨_, rfl⟩
              have hn56 : Nx w5 w6 := hw6 ▸ (Nx.refl w5).alloc _
              have hs6 : w6.heap.size = w5.heap.size + 1 := by rw [hw6]; simp
              have HB6 := hide (show w6.heap[w5.heap.size]? = some (.cells #[.slice none 0 0] 153 (0, 0)) by rw [hw6]; exact hnew rfl)
              have HBG := hide (show b < w5.heap.size from hT.mp.lt)
              have HG4 := hide (show w4.heap.size ≤ w5.heap.size from hT.nx.sz)
              have HT6 := hide ((hT.more (Ex' := fun x => x = w5.heap.size ∨ (Value.slice none 0 0).ownBlock = some x) (fun x hx => hx.elim (fun e => .inr (Nat.le_of_eq e.symm)) (fun h => by cases h))).step hn56)
              have HG6 := hide (show w5.heap.size < w6.heap.size by omega)
              have HBB := hide (show b < w6.heap.size by have := HBG.out; omega)
              have HN6 := hide (hT.nx.trans hn56)
              have HW6 := hide hw6
              have HRE2 := hide (fun W m fm Ex (hT : TripsR w4 W bt b m fm bm ns.length rs.length (gphOf ns rs bs) Ex) hEx s (hs : s ∈ sites) hn => HRE.out w4 W bt b m fm bm M Ex HM.out HN4.out hT hEx s (HMS.out s hs) HMB.out hwi hw5 (fun x hx => (HWB.out x hx).1) hn)
              have HBS := hide (fun W (hx : Nx wa W) => (HBX.out W hx).2.2)
              clear hT hw6 hs6 hn56 HM HRE
              generalize gphOf ns rs bs = G at *
              generalize ns.length = nn at *
              generalize rs.length = m at *
              go_upto_region 21 with fail
              rw [← HW6.out]
              clear HW6
              generalize w5.heap.size = g20 at *
              obtain ⟨z0, z1, z2⟩ := HBX.out w6 (HN4.out.trans HN6.out)
              go_wp2_with fail
              clear z0 z1 z2
              go_loopw [71] (fun u wr => ∃ (k : Nat) (es : List RowB) (q : Nat) (fm : Int × Int → Option (Option Nat)) (v : Value), k ≤ n ∧ u = .int .i64 k ∧ es.length = k ∧ sites.map R = es.map (·.l) ++ (sites.drop k).map R ∧ (∀ r ∈ es, r.l.length = m2) ∧ wr.heap[g20]? = some (.cells #[v] 153 (0, 0)) ∧ wr.ownsRow w6.heap.size 154 1 v es.length (es.flatMap encRowB) ∧ OwnRowsB wr w6.heap.size es ∧ TripsR w4 wr bt b q fm bm nn m G (fun x => x = g20 ∨ v.ownBlock = some x) ∧ q ≤ k * 500 ∧ w6.heap.size ≤ wr.heap.size) (fun u _ => n - (intOf u).toNat)
              case atStart => exact ⟨0, [], 0, _, .slice none 0 0, Nat.zero_le _, rfl, rfl, rfl, (fun r hr => absurd hr (by simp)), HB6.out, World.ownsRow_nil _ _ _ _, (fun r hr => absurd hr (by simp)), HT6.out, Nat.zero_le _, Nat.le_refl _⟩
              case round =>
                obtain ⟨k, es, q, fm, vv, hk, rfl, hes, hq, hlen, hb20, hown, hrows, hT, hqk, hwz⟩ := hrel
                have HQ := hide hq
                have HES := hide hes
                have HLE := hide hlen
                by_cases hlt : k < n
                · have hlt' : k < sites.length := by have := HLN.out; omega
                  have hwr := HN4.out.trans hT.nx
                  obtain ⟨yb, yo, rfl, _, hyb, hyb1, hyc⟩ := HDD.out.open_ hwr (by omega)
                  have c0 : wr.cell? ⟨yb, yo + k, none⟩ = some (.string sites[k]) := by have := hyc k hlt' 0 _ rfl; simpa using this
                  have HD := hide (map_drop R sites k hlt')
                  have HSM := hide (List.getElem_mem hlt')
                  have HRW := hide (HRL.out sites[k])
                  clear hyc
                  generalize sites[k] = s at *
                  have hnd := (Nx.refl wr).drew
                  have HTT := hide (hT.step hnd)
                  have HO := hide (own_nx hown hnd)
                  have HRS := hide (hrows.nx hnd)
                  have HB20 := hide ((hnd.block g20 (lt_of_heap hb20)).trans hb20)
                  have HEX := hide (fun x (hx : x = g20 ∨ vv.ownBlock = some x) => (show x < wr.drew.heap.size from hx.elim (fun e => by rw [e]; exact lt_of_heap hb20) (fun h => (hown.lt x h).2)))
                  have HWZ := hide (show w6.heap.size ≤ wr.drew.heap.size from hwz)
                  have HNW := hide (hwr.trans hnd)
                  clear hq hes hlen hb20 hown hrows hT hwr
                  go_upto_region 24 with fail
                  refine wp_region_held_drew (S := fun w' => w'.cell? ⟨g + 1 + 1 + 1, 0, none⟩ = some (.slice E m2 ce)) (by kernel_rfl) ?_ (fun hHeld => ?_)
                  · exact HBS.out _ HNW.out
                  clear c0 hnd
                  refine wpAnyH_take (i := 1) (oi := ⟨some 76, _, _, _, _, _⟩) (v := ?_) rfl (by kernel_rfl) (by kernel_rfl) (by kernel_rfl) (fun _ _ _ h => h) (Or.inl ⟨by rfl, ?_⟩) (by assumption) ?_
                  rotate_left 1
                  · intro w hSw
                    (try dsimp only at hSw)
                    go_simp
                    try with_reducible rfl
                  try simp only [Act.put, List.setIfInBounds_toArray, List.set_cons_zero, List.set_cons_succ]
                  refine wpAnyH_take (i := 2) (oi := ⟨some 77, _, _, _, _, _⟩) (v := ?_) rfl (by kernel_rfl) (by kernel_rfl) (by kernel_rfl) (fun _ _ _ h => h) (Or.inl ⟨by rfl, ?_⟩) (by assumption) ?_
                  rotate_left 1
                  · intro w hSw
                    (try dsimp only at hSw)
                    go_simp
                    try with_reducible rfl
                  try simp only [Act.put, List.setIfInBounds_toArray, List.set_cons_zero, List.set_cons_succ]
                  refine wpAnyH_take (i := 3) (oi := ⟨some 78, _, _, _, _, _⟩) (v := ?_) rfl (by kernel_rfl) (by kernel_rfl) (by kernel_rfl) (fun _ _ _ h => h) (Or.inl ⟨by rfl, ?_⟩) (by assumption) ?_
                  rotate_left 1
                  · intro w hSw
                    (try dsimp only at hSw)
                    go_simp
                    try with_reducible rfl
                  try simp only [Act.put, List.setIfInBounds_toArray, List.set_cons_zero, List.set_cons_succ]
                  refine wpAnyH_take (i := 4) (oi := ⟨some 79, _, _, _, _, _⟩) (v := ?_) rfl (by kernel_rfl) (by kernel_rfl) (by kernel_rfl) (fun _ _ _ h => h) (Or.inl ⟨by rfl, ?_⟩) (by assumption) ?_
                  rotate_left 1
                  · intro w hSw
                    (try dsimp only at hSw)
                    go_simp
                    try with_reducible rfl
                  try simp only [Act.put, List.setIfInBounds_toArray, List.set_cons_zero, List.set_cons_succ]
                  refine wpAnyH_take (i := 5) (oi := ⟨some 80, _, _, _, _, _⟩) (v := ?_) rfl (by kernel_rfl) (by kernel_rfl) (by kernel_rfl) (fun _ _ _ h => h) (Or.inl ⟨by rfl, ?_⟩) (by assumption) ?_
                  rotate_left 1
                  · intro w hSw
                    (try dsimp only at hSw)
                    go_simp
                    try with_reducible rfl
                  try simp only [Act.put, List.setIfInBounds_toArray, List.set_cons_zero, List.set_cons_succ]
                  generalize wr.drew = wd at *
                  refine wpAnyH_ready (rs := [0, 6]) (by kernel_rfl) (by simp) ?_
                  refine AllReadyH.cons rfl (fun K hK => ?_) ?_
                  · have d20 : wd.cell? ⟨g20, 0, none⟩ = some vv := (cell_of_row wd _ 0 _ _ _ HB20.out).trans rfl
                    go_simp
                    refine hK.out _ _ (HBS.out _ HNW.out) (fun hHeld => ?_)
                    clear hK K d20
                    try simp only [Act.put, List.setIfInBounds_toArray, List.set_cons_zero, List.set_cons_succ]
                    refine wpAnyH_ready (rs := [6]) (by kernel_rfl) (by simp) ?_
                    refine AllReadyH.cons rfl (fun K hK => ?_) ?_
                    · go_simp
                      go_at_call 88
                      refine (HRE2.out wd q fm _ HTT.out (fun x hx => HEX.out x hx) s HSM.out (by omega)).mono ?_
                      rintro e w7 ⟨v7, q7, fm7, rfl, hown7, hT7, hq7, hg7⟩
                      generalize R s = row at *
                      obtain ⟨A7, c7, rfl, _, _⟩ := Rd.of_own encBo_len rfl hown7
                      have hbase7 : w6.heap.size ≤ wd.heap.size := HWZ.out
                      have HT7 := hide hT7
                      have HO7 := hide hown7
                      replace HO := hide (own_gr HO.out hg7 HBB.out)
                      replace HRS := hide (HRS.out.gr hg7 HBB.out)
                      replace HB20 := hide ((hg7.block g20 (lt_of_heap HB20.out) (fun e => by injection e with e; have := HBG.out; omega)).trans HB20.out)
                      have hw67 : w6.heap.size ≤ w7.heap.size := Nat.le_trans hbase7 hg7.sz
                      have HQ7 := hide hq7
                      replace HNW := hide (HN4.out.trans hT7.nx)
                      clear hT7 hown7 hg7 hq7
                      go_simp
                      refine hK.out _ _ (HBS.out _ HNW.out) (fun hHeld => ?_)
                      clear hK K
                      try simp only [Act.put, List.setIfInBounds_toArray, List.set_cons_zero, List.set_cons_succ]
                      refine wpAnyH_ready (rs := [7]) (by kernel_rfl) (by simp) ?_
                      refine AllReadyH.cons rfl (fun K hK => ?_) ?_
                      · go_simp
                        refine hK.out _ _ (HBS.out _ (HNW.out.alloc _)) (fun hHeld => ?_)
                        clear hK K
                        try simp only [Act.put, List.setIfInBounds_toArray, List.set_cons_zero, List.set_cons_succ]
                        refine wpAnyH_ready (rs := [8]) (by kernel_rfl) (by simp) ?_
                        refine AllReadyH.cons rfl (fun K hK => ?_) ?_
                        · refine step_app rfl _ _ _ rfl el_RowB encRowB encRowB_len encRowB_one (by omega) (by omega) w6.heap.size _ es rfl (HO.out.alloc _) _ ⟨A7, c7, row⟩ _ rfl (hnew rfl) rfl (by have := HES.out; omega) (by simp; omega) ?_
                          intro v9 w9 hown9 hg9 hat9
                          have HA9 := hide hat9
                          have HB9 := hide ((hg9.block g20 (by have := lt_of_heap HB20.out; simp; omega) (fun e => by have := own_blk_lt HO.out g20 e.symm; have := HG6.out; omega)).trans ((((Nx.refl w7).alloc (.cells #[.slice A7 row.length c7] 154)).block g20 (lt_of_heap HB20.out)).trans HB20.out))
                          have HT9 := hide (HT7.out.push (Ex' := fun x => x = g20 ∨ v9.ownBlock = some x) hg9 (fun x hx => ⟨.inl (.inr hx), by have h1 := (HO.out.lt x hx).1; have h3 := HN6.out.sz; omega⟩) (fun x h => h.elim (fun e => .inl (.inl (.inl e))) (fun h => (HA9.out x h).elim (fun e => .inl (.inl (.inr e))) .inr)))
                          have HR9 : Hid (OwnRowsB w9 w6.heap.size (es ++ [(⟨A7, c7, row⟩ : RowB)])) := hide (fun r hr => by
                            have hI : (w7.alloc (.cells #[.slice A7 row.length c7] 154)).ownsRow w6.heap.size 4 1 (.slice r.a r.l.length r.c) r.l.length (r.l.flatMap encBo) := by
                              rcases List.mem_append.1 hr with hr | hr
                              · exact (HRS.out r hr).alloc _
                              · have hr : r = ⟨A7, c7, row⟩ := by simpa using hr
                                subst hr
                                exact (World.ownsRow.mono (base' := w6.heap.size) HO7.out hbase7).alloc _
                            exact hI.kept hg9 (own_apart hI (HO.out.alloc _) (by decide)))
                          obtain ⟨Z9, c9, rfl, _, _⟩ := Rd.of_own encRowB_len rfl hown9
                          have HO9 := hide hown9
                          have hw69 : w6.heap.size ≤ w9.heap.size := Nat.le_trans (Nat.le_trans hw67 (by simp)) hg9.size
                          replace HNW := hide (HN4.out.trans HT9.out.nx)
                          clear hown9 hg9 hat9
                          refine hK.out _ _ (HBS.out _ HNW.out) (fun hHeld => ?_)
                          clear hK K
                          try simp only [Act.put, List.setIfInBounds_toArray]
                          refine wpAnyH_ready (rs := [9]) (by kernel_rfl) (by simp) ?_
                          refine AllReadyH.cons rfl (fun K hK => ?_) ?_
                          · have d20 : w9.cell? ⟨g20, 0, none⟩ = some vv := (cell_of_row w9 _ 0 _ _ _ HB9.out).trans rfl
                            have f20 := frozen_blkQ (j := 0) HB9.out
                            have hgs9 : Gr g20 w9 (w9.setCell ⟨g20, 0, none⟩ (.slice Z9 (es ++ [(⟨A7, c7, row⟩ : RowB)]).length c9)) := (Gr.refl g20 w9).setS (p := ⟨g20, 0, none⟩) (.inl rfl) _
                            have HT10 := hide (HT9.out.app hgs9 (fun x hx => by injection hx with hx; subst hx; exact ⟨.inl rfl, HG4.out⟩))
                            have HB10 := hide (heap_setCell_same w9 g20 0 _ _ (.slice Z9 (es ++ [(⟨A7, c7, row⟩ : RowB)]).length c9) HB9.out)
                            have HO10 := hide (own_gr HO9.out hgs9 HG6.out)
                            have HR10 := hide (HR9.out.gr hgs9 HG6.out)
                            have hw610 : w6.heap.size ≤ (w9.setCell ⟨g20, 0, none⟩ (.slice Z9 (es ++ [(⟨A7, c7, row⟩ : RowB)]).length c9)).heap.size := Nat.le_trans hw69 hgs9.sz
                            obtain ⟨L9, hL9⟩ : ∃ L9, L9 = (es ++ [(⟨A7, c7, row⟩ : RowB)]).length := ⟨_, rfl⟩
                            have HL9' := hide (show (es.length + 1) = L9 by rw [hL9]; simp)
                            have HNX10 := hide (HN4.out.trans HT10.out.nx)
                            clear hgs9
                            rw [← hL9] at HT10 HB10 HO10 HR10 hw610 HNX10
                            have HL9 := hide hL9
                            clear hL9
                            go_simp
                            (try rw [HL9'.out])
                            refine hK.out _ _ (HBS.out _ HNX10.out) (fun hHeld => ?_)
                            clear hK K d20 f20
                            try simp only [Act.put, List.setIfInBounds_toArray, List.set_cons_zero, List.set_cons_succ]
                            refine wpAnyH_done (by kernel_rfl) ?_ _
                            go_wp2_with fail
                            go_roundw
                            case rel =>
                              refine ⟨k + 1, es ++ [⟨A7, c7, row⟩], q7, fm7, .slice Z9 L9 c9, by omega, by go_num, by have := HES.out; simp; omega, ?_, ?_, HB10.out, by rw [← HL9.out]; exact HO10.out, HR10.out, HT10.out, ?_, hw610⟩
                              · rw [HQ.out, HD.out]; simp
                              · intro r hr
                                rcases List.mem_append.1 hr with hr | hr
                                · exact HLE.out r hr
                                · have hr : r = ⟨A7, c7, row⟩ := by simpa using hr
                                  subst hr
                                  exact HRW.out
                              · have h1 := HQ7.out; have h2 := HRW.out; omega
                            case measure => simp [intOf]; omega
                          exact AllReadyH.nil
                        exact AllReadyH.nil
                      exact AllReadyH.nil
                    exact AllReadyH.nil
                  refine AllReadyH.cons rfl (fun K hK => ?_) ?_
                  · go_simp
                    go_at_call 88
                    refine (HRE2.out wd q fm _ HTT.out (fun x hx => HEX.out x hx) s HSM.out (by omega)).mono ?_
                    rintro e w7 ⟨v7, q7, fm7, rfl, hown7, hT7, hq7, hg7⟩
                    generalize R s = row at *
                    obtain ⟨A7, c7, rfl, _, _⟩ := Rd.of_own encBo_len rfl hown7
                    have hbase7 : w6.heap.size ≤ wd.heap.size := HWZ.out
                    have HT7 := hide hT7
                    have HO7 := hide hown7
                    replace HO := hide (own_gr HO.out hg7 HBB.out)
                    replace HRS := hide (HRS.out.gr hg7 HBB.out)
                    replace HB20 := hide ((hg7.block g20 (lt_of_heap HB20.out) (fun e => by injection e with e; have := HBG.out; omega)).trans HB20.out)
                    have hw67 : w6.heap.size ≤ w7.heap.size := Nat.le_trans hbase7 hg7.sz
                    have HQ7 := hide hq7
                    replace HNW := hide (HN4.out.trans hT7.nx)
                    clear hT7 hown7 hg7 hq7
                    go_simp
                    refine hK.out _ _ (HBS.out _ HNW.out) (fun hHeld => ?_)
                    clear hK K
                    try simp only [Act.put, List.setIfInBounds_toArray, List.set_cons_zero, List.set_cons_succ]
                    refine wpAnyH_ready (rs := [0, 7]) (by kernel_rfl) (by simp) ?_
                    refine AllReadyH.cons rfl (fun K hK => ?_) ?_
                    · have d20 : w7.cell? ⟨g20, 0, none⟩ = some vv := (cell_of_row w7 _ 0 _ _ _ HB20.out).trans rfl
                      go_simp
                      refine hK.out _ _ (HBS.out _ HNW.out) (fun hHeld => ?_)
                      clear hK K d20
                      try simp only [Act.put, List.setIfInBounds_toArray, List.set_cons_zero, List.set_cons_succ]
                      refine wpAnyH_ready (rs := [7]) (by kernel_rfl) (by simp) ?_
                      refine AllReadyH.cons rfl (fun K hK => ?_) ?_
                      · go_simp
                        refine hK.out _ _ (HBS.out _ (HNW.out.alloc _)) (fun hHeld => ?_)
                        clear hK K
                        try simp only [Act.put, List.setIfInBounds_toArray, List.set_cons_zero, List.set_cons_succ]
                        refine wpAnyH_ready (rs := [8]) (by kernel_rfl) (by simp) ?_
                        refine AllReadyH.cons rfl (fun K hK => ?_) ?_
                        · refine step_app rfl _ _ _ rfl el_RowB encRowB encRowB_len encRowB_one (by omega) (by omega) w6.heap.size _ es rfl (HO.out.alloc _) _ ⟨A7, c7, row⟩ _ rfl (hnew rfl) rfl (by have := HES.out; omega) (by simp; omega) ?_
                          intro v9 w9 hown9 hg9 hat9
                          have HA9 := hide hat9
                          have HB9 := hide ((hg9.block g20 (by have := lt_of_heap HB20.out; simp; omega) (fun e => by have := own_blk_lt HO.out g20 e.symm; have := HG6.out; omega)).trans ((((Nx.refl w7).alloc (.cells #[.slice A7 row.length c7] 154)).block g20 (lt_of_heap HB20.out)).trans HB20.out))
                          have HT9 := hide (HT7.out.push (Ex' := fun x => x = g20 ∨ v9.ownBlock = some x) hg9 (fun x hx => ⟨.inl (.inr hx), by have h1 := (HO.out.lt x hx).1; have h3 := HN6.out.sz; omega⟩) (fun x h => h.elim (fun e => .inl (.inl (.inl e))) (fun h => (HA9.out x h).elim (fun e => .inl (.inl (.inr e))) .inr)))
                          have HR9 : Hid (OwnRowsB w9 w6.heap.size (es ++ [(⟨A7, c7, row⟩ : RowB)])) := hide (fun r hr => by
                            have hI : (w7.alloc (.cells #[.slice A7 row.length c7] 154)).ownsRow w6.heap.size 4 1 (.slice r.a r.l.length r.c) r.l.length (r.l.flatMap encBo) := by
                              rcases List.mem_append.1 hr with hr | hr
                              · exact (HRS.out r hr).alloc _
                              · have hr : r = ⟨A7, c7, row⟩ := by simpa using hr
                                subst hr
                                exact (World.ownsRow.mono (base' := w6.heap.size) HO7.out hbase7).alloc _
                            exact hI.kept hg9 (own_apart hI (HO.out.alloc _) (by decide)))
                          obtain ⟨Z9, c9, rfl, _, _⟩ := Rd.of_own encRowB_len rfl hown9
                          have HO9 := hide hown9
                          have hw69 : w6.heap.size ≤ w9.heap.size := Nat.le_trans (Nat.le_trans hw67 (by simp)) hg9.size
                          replace HNW := hide (HN4.out.trans HT9.out.nx)
                          clear hown9 hg9 hat9
                          refine hK.out _ _ (HBS.out _ HNW.out) (fun hHeld => ?_)
                          clear hK K
                          try simp only [Act.put, List.setIfInBounds_toArray]
                          refine wpAnyH_ready (rs := [9]) (by kernel_rfl) (by simp) ?_
                          refine AllReadyH.cons rfl (fun K hK => ?_) ?_
                          · have d20 : w9.cell? ⟨g20, 0, none⟩ = some vv := (cell_of_row w9 _ 0 _ _ _ HB9.out).trans rfl
                            have f20 := frozen_blkQ (j := 0) HB9.out
                            have hgs9 : Gr g20 w9 (w9.setCell ⟨g20, 0, none⟩ (.slice Z9 (es ++ [(⟨A7, c7, row⟩ : RowB)]).length c9)) := (Gr.refl g20 w9).setS (p := ⟨g20, 0, none⟩) (.inl rfl) _
                            have HT10 := hide (HT9.out.app hgs9 (fun x hx => by injection hx with hx; subst hx; exact ⟨.inl rfl, HG4.out⟩))
                            have HB10 := hide (heap_setCell_same w9 g20 0 _ _ (.slice Z9 (es ++ [(⟨A7, c7, row⟩ : RowB)]).length c9) HB9.out)
                            have HO10 := hide (own_gr HO9.out hgs9 HG6.out)
                            have HR10 := hide (HR9.out.gr hgs9 HG6.out)
                            have hw610 : w6.heap.size ≤ (w9.setCell ⟨g20, 0, none⟩ (.slice Z9 (es ++ [(⟨A7, c7, row⟩ : RowB)]).length c9)).heap.size := Nat.le_trans hw69 hgs9.sz
                            obtain ⟨L9, hL9⟩ : ∃ L9, L9 = (es ++ [(⟨A7, c7, row⟩ : RowB)]).length := ⟨_, rfl⟩
                            have HL9' := hide (show (es.length + 1) = L9 by rw [hL9]; simp)
                            have HNX10 := hide (HN4.out.trans HT10.out.nx)
                            clear hgs9
                            rw [← hL9] at HT10 HB10 HO10 HR10 hw610 HNX10
                            have HL9 := hide hL9
                            clear hL9
                            go_simp
                            (try rw [HL9'.out])
                            refine hK.out _ _ (HBS.out _ HNX10.out) (fun hHeld => ?_)
                            clear hK K d20 f20
                            try simp only [Act.put, List.setIfInBounds_toArray, List.set_cons_zero, List.set_cons_succ]
                            refine wpAnyH_done (by kernel_rfl) ?_ _
                            go_wp2_with fail
                            go_roundw
                            case rel =>
                              refine ⟨k + 1, es ++ [⟨A7, c7, row⟩], q7, fm7, .slice Z9 L9 c9, by omega, by go_num, by have := HES.out; simp; omega, ?_, ?_, HB10.out, by rw [← HL9.out]; exact HO10.out, HR10.out, HT10.out, ?_, hw610⟩
                              · rw [HQ.out, HD.out]; simp
                              · intro r hr
                                rcases List.mem_append.1 hr with hr | hr
                                · exact HLE.out r hr
                                · have hr : r = ⟨A7, c7, row⟩ := by simpa using hr
                                  subst hr
                                  exact HRW.out
                              · have h1 := HQ7.out; have h2 := HRW.out; omega
                            case measure => simp [intOf]; omega
                          exact AllReadyH.nil
                        exact AllReadyH.nil
                      exact AllReadyH.nil
                    refine AllReadyH.cons rfl (fun K hK => ?_) ?_
                    · go_simp
                      refine hK.out _ _ (HBS.out _ (HNW.out.alloc _)) (fun hHeld => ?_)
                      clear hK K
                      try simp only [Act.put, List.setIfInBounds_toArray, List.set_cons_zero, List.set_cons_succ]
                      refine wpAnyH_ready (rs := [0]) (by kernel_rfl) (by simp) ?_
                      refine AllReadyH.cons rfl (fun K hK => ?_) ?_
                      · have d20 : (w7.alloc (.cells #[.slice A7 row.length c7] 154)).cell? ⟨g20, 0, none⟩ = some vv := nx_cell ((Nx.refl w7).alloc _) (lt_of_heap HB20.out) ((cell_of_row w7 _ 0 _ _ _ HB20.out).trans rfl)
                        go_simp
                        refine hK.out _ _ (HBS.out _ (HNW.out.alloc _)) (fun hHeld => ?_)
                        clear hK K d20
                        try simp only [Act.put, List.setIfInBounds_toArray, List.set_cons_zero, List.set_cons_succ]
                        refine wpAnyH_ready (rs := [8]) (by kernel_rfl) (by simp) ?_
                        refine AllReadyH.cons rfl (fun K hK => ?_) ?_
                        · refine step_app rfl _ _ _ rfl el_RowB encRowB encRowB_len encRowB_one (by omega) (by omega) w6.heap.size _ es rfl (HO.out.alloc _) _ ⟨A7, c7, row⟩ _ rfl (hnew rfl) rfl (by have := HES.out; omega) (by simp; omega) ?_
                          intro v9 w9 hown9 hg9 hat9
                          have HA9 := hide hat9
                          have HB9 := hide ((hg9.block g20 (by have := lt_of_heap HB20.out; simp; omega) (fun e => by have := own_blk_lt HO.out g20 e.symm; have := HG6.out; omega)).trans ((((Nx.refl w7).alloc (.cells #[.slice A7 row.length c7] 154)).block g20 (lt_of_heap HB20.out)).trans HB20.out))
                          have HT9 := hide (HT7.out.push (Ex' := fun x => x = g20 ∨ v9.ownBlock = some x) hg9 (fun x hx => ⟨.inl (.inr hx), by have h1 := (HO.out.lt x hx).1; have h3 := HN6.out.sz; omega⟩) (fun x h => h.elim (fun e => .inl (.inl (.inl e))) (fun h => (HA9.out x h).elim (fun e => .inl (.inl (.inr e))) .inr)))
                          have HR9 : Hid (OwnRowsB w9 w6.heap.size (es ++ [(⟨A7, c7, row⟩ : RowB)])) := hide (fun r hr => by
                            have hI : (w7.alloc (.cells #[.slice A7 row.length c7] 154)).ownsRow w6.heap.size 4 1 (.slice r.a r.l.length r.c) r.l.length (r.l.flatMap encBo) := by
                              rcases List.mem_append.1 hr with hr | hr
                              · exact (HRS.out r hr).alloc _
                              · have hr : r = ⟨A7, c7, row⟩ := by simpa using hr
                                subst hr
                                exact (World.ownsRow.mono (base' := w6.heap.size) HO7.out hbase7).alloc _
                            exact hI.kept hg9 (own_apart hI (HO.out.alloc _) (by decide)))
                          obtain ⟨Z9, c9, rfl, _, _⟩ := Rd.of_own encRowB_len rfl hown9
                          have HO9 := hide hown9
                          have hw69 : w6.heap.size ≤ w9.heap.size := Nat.le_trans (Nat.le_trans hw67 (by simp)) hg9.size
                          replace HNW := hide (HN4.out.trans HT9.out.nx)
                          clear hown9 hg9 hat9
                          refine hK.out _ _ (HBS.out _ HNW.out) (fun hHeld => ?_)
                          clear hK K
                          try simp only [Act.put, List.setIfInBounds_toArray]
                          refine wpAnyH_ready (rs := [9]) (by kernel_rfl) (by simp) ?_
                          refine AllReadyH.cons rfl (fun K hK => ?_) ?_
                          · have d20 : w9.cell? ⟨g20, 0, none⟩ = some vv := (cell_of_row w9 _ 0 _ _ _ HB9.out).trans rfl
                            have f20 := frozen_blkQ (j := 0) HB9.out
                            have hgs9 : Gr g20 w9 (w9.setCell ⟨g20, 0, none⟩ (.slice Z9 (es ++ [(⟨A7, c7, row⟩ : RowB)]).length c9)) := (Gr.refl g20 w9).setS (p := ⟨g20, 0, none⟩) (.inl rfl) _
                            have HT10 := hide (HT9.out.app hgs9 (fun x hx => by injection hx with hx; subst hx; exact ⟨.inl rfl, HG4.out⟩))
                            have HB10 := hide (heap_setCell_same w9 g20 0 _ _ (.slice Z9 (es ++ [(⟨A7, c7, row⟩ : RowB)]).length c9) HB9.out)
                            have HO10 := hide (own_gr HO9.out hgs9 HG6.out)
                            have HR10 := hide (HR9.out.gr hgs9 HG6.out)
                            have hw610 : w6.heap.size ≤ (w9.setCell ⟨g20, 0, none⟩ (.slice Z9 (es ++ [(⟨A7, c7, row⟩ : RowB)]).length c9)).heap.size := Nat.le_trans hw69 hgs9.sz
                            obtain ⟨L9, hL9⟩ : ∃ L9, L9 = (es ++ [(⟨A7, c7, row⟩ : RowB)]).length := ⟨_, rfl⟩
                            have HL9' := hide (show (es.length + 1) = L9 by rw [hL9]; simp)
                            have HNX10 := hide (HN4.out.trans HT10.out.nx)
                            clear hgs9
                            rw [← hL9] at HT10 HB10 HO10 HR10 hw610 HNX10
                            have HL9 := hide hL9
                            clear hL9
                            go_simp
                            (try rw [HL9'.out])
                            refine hK.out _ _ (HBS.out _ HNX10.out) (fun hHeld => ?_)
                            clear hK K d20 f20
                            try simp only [Act.put, List.setIfInBounds_toArray, List.set_cons_zero, List.set_cons_succ]
                            refine wpAnyH_done (by kernel_rfl) ?_ _
                            go_wp2_with fail
                            go_roundw
                            case rel =>
                              refine ⟨k + 1, es ++ [⟨A7, c7, row⟩], q7, fm7, .slice Z9 L9 c9, by omega, by go_num, by have := HES.out; simp; omega, ?_, ?_, HB10.out, by rw [← HL9.out]; exact HO10.out, HR10.out, HT10.out, ?_, hw610⟩
                              · rw [HQ.out, HD.out]; simp
                              · intro r hr
                                rcases List.mem_append.1 hr with hr | hr
                                · exact HLE.out r hr
                                · have hr : r = ⟨A7, c7, row⟩ := by simpa using hr
                                  subst hr
                                  exact HRW.out
                              · have h1 := HQ7.out; have h2 := HRW.out; omega
                            case measure => simp [intOf]; omega
                          exact AllReadyH.nil
                        exact AllReadyH.nil
                      exact AllReadyH.nil
                    exact AllReadyH.nil
                  exact AllReadyH.nil
                · obtain rfl : n = k := by omega
                  have hMM : es.map (·.l) = sites.map R := by rw [hq, List.drop_of_length_le (by have := HLN.out; omega)]; simp
                  obtain ⟨Z, c, rfl, hRd, _⟩ := Rd.of_own encRowB_len rfl hown
                  have hwr := HN4.out.trans hT.nx
                  have HRB := hide (show RowsB wr 0 es m2 from hrows.rows hlen)
                  have hi20 : wr.cell? ⟨g20, 0, none⟩ = some (.slice Z es.length c) := (cell_of_row wr _ 0 _ _ _ hb20).trans rfl
                  have hi20l := lt_of_heap hb20
                  rw [hes] at hi20
                  have HBY := hide (fun W (h : Nx wr W) => (⟨(HBX.out W (hwr.trans h)).2.1, (HBX.out W (hwr.trans h)).2.2, (HBX.out W (hwr.trans h)).1, nx_cell h hi20l hi20⟩ : W.cell? ⟨g + 1 + 1, 0, none⟩ = some (.int .i64 many) ∧ W.cell? ⟨g + 1 + 1 + 1, 0, none⟩ = some (.slice E m2 ce) ∧ W.cell? ⟨g + 1, 0, none⟩ = some (.slice D n cd) ∧ W.cell? ⟨g20, 0, none⟩ = some (.slice Z n c)))
                  have HCV := hide (fun W Y cy (rws : List RowB) (so : List ByteArray) (h : Nx wr W) (hY : Rd W (wr.heap.size + 1 + 1 + 1) Y 1 encRowB rws) (hsub : ∀ r ∈ rws, r ∈ es) (hl3 : rws.length ≤ n) (hmm : rws.map (·.l) = so.map R) => (show Calls Tryz.prog 90 #[.slice E m2 ce, .slice Y rws.length cy] W fun e w' => e = .returned (.int .i64 (covI (so.map R) ws 0)) ∧ Nx W w' by rw [← hmm]; exact HCO.out W (hwr.trans h) _ Y cy rws hw5 (fun x hx => (HWB.out x hx).2) hY (by omega) (fun r hr => (HRB.out.nx h) r (hsub r hr))))
                  have HSI := hide ((HDD.out.nx hwr).low (Nat.zero_le lo2))
                  have HIS := hide (hRd.low (Nat.zero_le _))
                  have HIR := hide hMM
                  obtain ⟨cov, hcov⟩ : ∃ cov : List ByteArray → Int, cov = fun so => covI (so.map R) ws 0 := ⟨_, rfl⟩
                  have HCV := hide (fun W Y cy (rws : List RowB) (so : List ByteArray) h hY hsub hl3 hmm => (show Calls Tryz.prog 90 #[.slice E m2 ce, .slice Y rws.length cy] W fun e w' => e = .returned (.int .i64 (cov so)) ∧ Nx W w' by rw [hcov]; exact HCV.out W Y cy rws so h hY hsub hl3 hmm))
                  rw [← hcov] at HCR
                  have HW0 := hide hwr
                  clear hcov hwr hRd hMM hq hown hrows hT hb20 hi20 hlen HQ
                  have HBR := hide (show g20 < wr.heap.size from hi20l)
                  have HT := hide (fun (w1 : World) h1 h2 h3 h4 => (show Calls Tryz.prog 89 #[.int .i64 0, .slice none 0 0, .slice none 0 0, .pointer (some ⟨g + 1 + 1, 0, none⟩), .pointer (some ⟨g + 1 + 1 + 1, 0, none⟩), .pointer (some ⟨wr.heap.size + 1, 0, none⟩), .pointer (some ⟨wr.heap.size, 0, none⟩), .pointer (some ⟨g + 1, 0, none⟩), .pointer (some ⟨wr.heap.size + 1 + 1, 0, none⟩), .pointer (some ⟨g20, 0, none⟩)] w1 fun e w' => e = .returned (.tuple #[]) ∧ BestR w' (wr.heap.size + 1 + 1 + 1) (wr.heap.size + 1) wr.heap.size (tryG cov many (sites.drop 0) [] ([], -1)) ∧ Kp (wr.heap.size + 1) wr.heap.size w1 w' from w_tryP (w0 := wr) (cov := cov) (many := many) (R := R) (es := es) HBY HCV HIS (hide hes) HIR HSI HLN (by omega) (by omega) (by omega) (by omega) (by omega) (by omega) n 0 [] none 0 [] none 0 ([], -1) w1 (by omega) (Nat.zero_le _) h1 h2 h3 h4 Rd.nil (Nat.le_refl _) (Nat.le_refl _) Rd.nil (Nat.le_refl _) (fun r hr => absurd hr (by simp)) rfl rfl))
                  rw [← HCR.out] at HT
                  clear hi20l
                  go_upto_region 30 with fail
                  obtain ⟨w1, hw1⟩ : ∃ w1, w1 = ((wr.alloc (.cells #[.slice none 0 0] 34)).alloc (.cells #[.int .i64 (-1)] 3)).alloc (.cells #[.func (.func 89) #[] #[.pointer (some ⟨g + 1 + 1, 0, none⟩), .pointer (some ⟨g + 1 + 1 + 1, 0, none⟩), .pointer (some ⟨wr.heap.size + 1, 0, none⟩), .pointer (some ⟨wr.heap.size, 0, none⟩), .pointer (some ⟨g + 1, 0, none⟩), .pointer (some ⟨wr.heap.size + 1 + 1, 0, none⟩), .pointer (some ⟨g20, 0, none⟩)]] 156) := ⟨_, rfl⟩
                  have hn1 : Nx wr w1 := hw1 ▸ (((Nx.refl wr).alloc _).alloc _).alloc _
                  have hs1 : w1.heap.size = wr.heap.size + 3 := by rw [hw1]; simp
                  have d0 : w1.cell? ⟨wr.heap.size + 1 + 1, 0, none⟩ = some (.func (.func 89) #[] #[.pointer (some ⟨g + 1 + 1, 0, none⟩), .pointer (some ⟨g + 1 + 1 + 1, 0, none⟩), .pointer (some ⟨wr.heap.size + 1, 0, none⟩), .pointer (some ⟨wr.heap.size, 0, none⟩), .pointer (some ⟨g + 1, 0, none⟩), .pointer (some ⟨wr.heap.size + 1 + 1, 0, none⟩), .pointer (some ⟨g20, 0, none⟩)]) := by rw [hw1]; go_simp
                  have d1 : w1.heap[wr.heap.size + 1]? = some (.cells #[.int .i64 (-1)] 3 (0, 0)) := by
                    rw [hw1]
                    exact (((Nx.refl _).alloc _).block (wr.heap.size + 1) (by simp)).trans (hnew (by simp))
                  have d2 : w1.heap[wr.heap.size]? = some (.cells #[.slice none 0 0] 34 (0, 0)) := by
                    rw [hw1]
                    exact ((((Nx.refl _).alloc _).alloc _).block wr.heap.size (by simp)).trans (hnew rfl)
                  have HC1 := hide (HT.out w1 hn1 (by omega) d0 ⟨d1, none, 0, d2, Rd.nil, Nat.le_refl _⟩)
                  rw [← hw1]
                  have HN1' := hide hn1
                  clear hw1 hn1 d1 d2 HT hs1
                  go_wp2_with (go_at_call 89; refine HC1.out.mono ?_; rintro e w2 ⟨rfl, hb2, hk2⟩)
                  obtain ⟨hM2, Z2, cz, hB2, hR2, hcz⟩ := hb2
                  have y0 : w2.cell? ⟨wr.heap.size, 0, none⟩ = some (.slice Z2 CV.1.length cz) := (cell_of_row w2 _ 0 _ _ _ hB2).trans rfl
                  have y1 : w2.cell? ⟨wr.heap.size + 1, 0, none⟩ = some (.int .i64 CV.2) := (cell_of_row w2 _ 0 _ _ _ hM2).trans rfl
                  have HEND := hide (show Nx w w2 from (HNA.out.trans HW0.out).trans (hk2.nx HN1'.out (Nat.le_succ _) (Nat.le_refl _)))
                  have HRZ := hide (hR2.low (Nat.zero_le _))
                  clear hM2 hB2 hR2 hk2 d0
                  go_quiet (fail)
                  go_wp2_with fail
                  exact bodyPost_ret (v := .tuple #[.slice Z2 CV.1.length cz, .int .i64 CV.2, .int .i64 0]) (by simp [results, Tryz.results34, go_sem]) rfl ⟨Z2, cz, rfl, HRZ.out.nx ((Nx.refl w2).drewN _), hcz, HEND.out.drewN _⟩
            · have tF : (RF != 0) = true := by simpa using hF0
              have tF2 : (RF == 0) = false := by simpa using hF0
              go_wp2_with fail
              exact bodyPost_ret (v := .tuple #[.slice none 0 0, .int .i64 0, .int .i64 RF]) (by simp [results, Tryz.results34, go_sem]) rfl (chooseBad hF (HCB.out (by rw [hF]; first | decide | assumption)) (HNA.out.trans HN3.out))
          · have hF := HFG.out
            rw [ho, if_pos rfl] at hF
            go_wp2_with (go_at_call 84; refine (w_Out _ _ _ _).mono ?_; rw [ho]; rintro e w' ⟨rfl, rfl⟩)
            exact bodyPost_ret (v := .tuple #[.slice none 0 0, .int .i64 0, .int .i64 1]) (by simp [results, Tryz.results34, go_sem]) rfl (chooseBad hF (HCB.out (by rw [hF]; first | decide | assumption)) (HNA.out.trans hbr))
  · have hF := HF.out.trans (if_neg hR)
    have hcv := HCV.out.trans (if_neg (by rw [hF]; exact hR))
    subst hcv
    generalize roadsF ns rs bs = RF at *
    subst hF
    have tF : (F != 0) = true := by simpa using hR
    have tF2 : (F == 0) = false := by simpa using hR
    clear HF HCV HOK HNEWK hR HBX HCR
    generalize sites.length = n at *
    generalize ws.length = m2 at *
    go_enter Tryz.func34, Tryz.ntmps34
    go_upto_region 1 with fail
    rw [← HWA.out]
    go_wp2_with fail
    refine HC.out.mono ?_
    rintro e w1 ⟨rfl, hn1⟩
    go_wp2_with fail
    exact bodyPost_ret (v := .tuple #[.slice none 0 0, .int .i64 0, .int .i64 F]) (by simp [results, Tryz.results34, go_sem]) rfl ⟨none, 0, rfl, Rd.nil, Nat.le_refl _, HNA.out.trans hn1⟩
end Go.Proofs.YtbjbeddjaajdaaaGreatDoor
