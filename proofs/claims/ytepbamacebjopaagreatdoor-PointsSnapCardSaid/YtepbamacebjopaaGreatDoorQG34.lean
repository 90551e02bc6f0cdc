/- Roads: the reference's check. -/
import Derived.Test.YtepbamacebjopaaGreatDoorQG32
import Derived.Test.YtepbamacebjopaaGreatDoorQKnotR
import Derived.Test.YtepbamacebjopaaGreatDoorQG17
import Derived.WalkKit
import Derived.Test.YtepbamacebjopaaGreatDoorQG23
import Derived.Deep.RegionHeld3
import Derived.Deep.DeepCutAuto
import Derived.Deep.RegionWith
import Derived.Deep.AppendLies
namespace Go.Proofs.YtepbamacebjopaaGreatDoor
open Go.RowKit

def nodeBad (ns : List Node) (k : Nat) : Bool := match prevOf ns k with | some q => strLe (ns.getD k default).key q.key | none => false
theorem nodeF_at (ns : List Node) (k : Nat) (hk : k < ns.length) : nodeF (prevOf ns k) ns[k] = if keyB ns[k].key then (if nodeBad ns k then 7 else ptF ns[k].x ns[k].y) else 5 := by
  have e : ns.getD k default = ns[k] := by rw [List.getD_eq_getElem?_getD, List.getElem?_eq_getElem hk]; rfl
  unfold nodeF nodeBad
  rw [e]
  cases prevOf ns k with
  | none => simp
  | some q => rfl

set_option maxRecDepth 100000 in
set_option maxHeartbeats 4000000 in
theorem w_RoadsFault (lo lo' lo'' : Nat) (A B C : Option Addr) (ca cb cc : Nat) (ns : List Node) (rs : List Arc) (bs : List Ban) (w : World)
    (hN : Rd w lo A 3 encNode ns) (hS : SmallN ns) (hnl : ns.length ≤ 400) (hA : RdArcs w lo' B rs) (hal : rs.length ≤ 400) (hB : Rd w lo'' C 2 encBan bs) (hbl : bs.length ≤ 400) :
    Calls Tryz.prog 13 #[.agg #[.slice A ns.length ca, .slice B rs.length cb, .slice C bs.length cc]] w fun e w' => e = .returned (.int .i64 (roadsF ns rs bs)) ∧ Nx w w' := by
  obtain ⟨wa, hwa⟩ : ∃ wa, wa = w.alloc (.cells #[.slice A ns.length ca, .slice B rs.length cb, .slice C bs.length cc] 30) := ⟨_, rfl⟩
  have hna : Nx w wa := hwa ▸ (Nx.refl w).alloc _
  have hgw : w.heap.size < wa.heap.size := by rw [hwa]; simp
  have b0 : wa.cell? ⟨w.heap.size, 0, none⟩ = some (.slice A ns.length ca) := by rw [hwa]; go_simp
  have b1 : wa.cell? ⟨w.heap.size, 1, none⟩ = some (.slice B rs.length cb) := by rw [hwa]; go_simp
  have b2 : wa.cell? ⟨w.heap.size, 2, none⟩ = some (.slice C bs.length cc) := by rw [hwa]; go_simp
  have HND := hide (fun s W (hx : Nx wa W) => w_NodeAt lo A B C rs.length bs.length ca cb cc ns s W ((hN.nx hna).nx hx) (by omega))
  have HBF := hide (fun W (hx : Nx wa W) => w_bansFaultQ lo' lo'' A B C ns.length ca cb cc rs bs W ((hA.nx hna).nx hx) hal ((hB.nx hna).nx hx) hbl)
  have HRN := hide (hN.nx hna)
  have HSN := hide hS
  have HRA := hide (hA.nx hna).1
  have HKN := hide (hA.nx hna).2
  have HRF := hide (show roadsF ns rs bs = if nodesF ns = 0 then (if chk (arcF ns) none rs = 0 then chk (banF rs) none bs else chk (arcF ns) none rs) else nodesF ns from rfl)
  have HNF := hide (show nodesF ns = chk nodeF none ns by unfold nodesF; rw [if_neg (by omega)])
  clear hN hS hA hB
  generalize roadsF ns rs bs = V at *
  generalize hnl' : ns.length = l at *
  generalize hrl : rs.length = n at *
  generalize hbl' : bs.length = m at *
  have HNL := hide hnl'
  have HRL := hide hrl
  have HBL := hide hbl'
  clear hnl' hrl hbl'
  have tl : decide ((l : Int) > 500) = false := decide_eq_false (by omega)
  have tl2 : decide ((500 : Int) < (l : Int)) = false := decide_eq_false (by omega)
  have tn : decide ((n : Int) > 2000) = false := decide_eq_false (by omega)
  have tn2 : decide ((2000 : Int) < (n : Int)) = false := decide_eq_false (by omega)
  go_enter Tryz.func13, Tryz.ntmps13
  go_wp2_with fail
  rw [← hwa]
  have HWA := hide hwa
  clear hwa
  generalize w.heap.size = gb at *
  have hbw := Nx.refl wa
  go_wp2_with fail
  go_loopw [15] (fun i wr => ∃ k : Nat, k ≤ l ∧ i = .int .i64 k ∧ Nx wa wr ∧ chk nodeF none ns = chk nodeF (prevOf ns k) (ns.drop k)) (fun i _ => l - (intOf i).toNat)
  case atStart => exact ⟨0, Nat.zero_le _, rfl, hbw, rfl⟩
  case round =>
    clear hbw
    obtain ⟨k, hk, rfl, hbw, hq⟩ := hrel
    have HQ := hide hq
    clear hq
    by_cases hlt : k < l
    · have hlt' : k < ns.length := by have := HNL.out; omega
      have HD := hide (chk_drop nodeF ns k hlt')
      have HV := hide (nodeF_at ns k hlt')
      have HB0 := hide (nx_cell hbw hgw b0)
      obtain ⟨b, off, rfl, _, hb, hbr, hc⟩ := HRN.out.open_ hbw (by have := HNL.out; omega)
      have c0 : wr.cell? ⟨b, off + k * 3, none⟩ = some (.string ns[k].key) := hc k hlt' 0 _ rfl
      have c1 : wr.cell? ⟨b, off + k * 3 + 1, none⟩ = some (.int .i64 ns[k].x) := hc k hlt' 1 _ rfl
      have c2 : wr.cell? ⟨b, off + k * 3 + 2, none⟩ = some (.int .i64 ns[k].y) := hc k hlt' 2 _ rfl
      have HPC := hide (fun h0 : 0 < k => (show wr.cell? ⟨b, off + (k - 1) * 3, none⟩ = some (.string (ns[k - 1]'(by omega)).key) from hc (k - 1) (by omega) 0 _ rfl))
      have HPV := hide (fun h0 : 0 < k => (show nodeBad ns k = strLe ns[k].key (ns[k - 1]'(by omega)).key by
        unfold nodeBad
        rw [prevOf_pos _ k h0 (by omega), List.getD_eq_getElem?_getD, List.getElem?_eq_getElem hlt']; rfl))
      have HP0 := hide (fun h0 : k = 0 => (show nodeBad ns k = false by subst h0; rfl))
      clear hc
      have hSx := HSN.out ns[k] (List.getElem_mem hlt')
      generalize ns[k] = x at *
      generalize nodeBad ns k = bad at *
      go_wp2_with fail
      obtain ⟨wk, hwk⟩ : ∃ wk, wk = wr.alloc (.cells #[.string x.key, .int .i64 x.x, .int .i64 x.y] 74) := ⟨_, rfl⟩
      have hnk0 : Nx wr wk := hwk ▸ (Nx.refl wr).alloc _
      have hsk0 : wr.heap.size < wk.heap.size := by rw [hwk]; simp
      have d0 : wk.cell? ⟨wr.heap.size, 0, none⟩ = some (.string x.key) := by rw [hwk]; go_simp
      have d1 : wk.cell? ⟨wr.heap.size, 1, none⟩ = some (.int .i64 x.x) := by rw [hwk]; go_simp
      have d2 : wk.cell? ⟨wr.heap.size, 2, none⟩ = some (.int .i64 x.y) := by rw [hwk]; go_simp
      rw [← hwk]
      have HWK := hide hwk
      clear hwk c0 c1 c2
      refine (w_KeyR _ _ hSx).mono ?_
      rintro e wj ⟨rfl, hnj⟩
      replace d0 := nx_cell hnj hsk0 d0
      replace d1 := nx_cell hnj hsk0 d1
      replace d2 := nx_cell hnj hsk0 d2
      have hsk := Nat.lt_of_lt_of_le hsk0 hnj.sz
      have hnk := hnk0.trans hnj
      have hnx := hbw.trans hnk
      clear hnk0 hsk0
      cases hkb : keyB x.key
      · rw [hkb] at HV
        go_wp2_with fail
        go_ret
        exact ⟨ret_int (by rw [HRF.out, HNF.out, HQ.out, HD.out, HV.out]; rfl), hna.trans hnx⟩
      rw [hkb, if_pos rfl] at HV
      go_upto_region 8 with fail
      go_cut [25] (fun v wx => v = .bool bad ∧ Nx wj wx)
      case first =>
        clear d1 d2
        by_cases hk0 : 0 < k
        · have hp := nx_cell hnk hbr (HPC.out hk0)
          have B0 := nx_cell hnk (Nat.lt_of_lt_of_le hgw hbw.sz) HB0.out
          have hpv := HPV.out hk0
          have hkz : k - 1 < ns.length := by have := HNL.out; omega
          generalize (ns[k - 1]'(by omega)).key = p0 at *
          have k1 : IntKind.i64.wrap ((k : Int) - 1) = (k : Int) - 1 := IntWalk.i64_in _ (by omega)
          have k2 : (1 : Int) ≤ (k : Int) := by omega
          have k3 : ((k : Int) - 1).toNat = k - 1 := by omega
          have k4 : (k : Int) - 1 < (l : Int) := by omega
          have kp : decide ((k : Int) > 0) = true := decide_eq_true (by omega)
          have kp2 : decide ((0 : Int) < (k : Int)) = true := decide_eq_true (by omega)
          have t1 : (Op.bytesLess x.key.toList p0.toList || x.key.toList == p0.toList) = bad := hpv.symm
          clear hpv
          go_quiet (fail)
          go_wp2
          go_meet
          exact ⟨rfl, (Nx.refl _).drewN _⟩
        · have kp : decide ((k : Int) > 0) = false := decide_eq_false (by omega)
          have kp2 : decide ((0 : Int) < (k : Int)) = false := decide_eq_false (by omega)
          have hb0 := HP0.out (by omega)
          go_quiet (fail)
          go_wp2
          go_meet
          exact ⟨by rw [hb0], (Nx.refl _).drewN _⟩
      case rest =>
        obtain ⟨rfl, hx1⟩ := hcut
        cases hbd : bad
        · rw [hbd, if_neg (by simp)] at HV
          have e1 := nx_cell hx1 hsk d1
          have e2 := nx_cell hx1 hsk d2
          have hnx1 := hnx.trans hx1
          clear d0 d1 d2 HB0
          cases ho1 : outB x.x (-10000) 10000
          · have f1 : inB x.x (-10000) 10000 = true := by rw [inB_out, ho1]; rfl
            cases ho2 : outB x.y (-10000) 10000
            · have f2 : inB x.y (-10000) 10000 = true := by rw [inB_out, ho2]; rfl
              have HP := hide (show ptF x.x x.y = 0 by unfold ptF isPtB; rw [ho1, ho2]; rfl)
              go_wp2_with (go_at_call 48; refine (w_in _ _ _ _).mono ?_; rintro e w' ⟨rfl, rfl⟩)
              go_roundw
              case rel => exact ⟨k + 1, by omega, by go_num, hnx1, by rw [HQ.out, HD.out, HV.out, HP.out, if_pos rfl]⟩
              case measure => simp [intOf]; omega
            · have f2 : inB x.y (-10000) 10000 = false := by rw [inB_out, ho2]; rfl
              have HP := hide (show ptF x.x x.y = 1 by unfold ptF isPtB; rw [ho1, ho2]; rfl)
              go_wp2_with (go_at_call 48; refine (w_in _ _ _ _).mono ?_; rintro e w' ⟨rfl, rfl⟩)
              go_ret
              exact ⟨ret_int (by rw [HRF.out, HNF.out, HQ.out, HD.out, HV.out, HP.out]; rfl), hna.trans hnx1⟩
          · have f1 : inB x.x (-10000) 10000 = false := by rw [inB_out, ho1]; rfl
            have HP := hide (show ptF x.x x.y = 1 by unfold ptF isPtB; rw [ho1]; rfl)
            go_wp2_with (go_at_call 48; refine (w_in _ _ _ _).mono ?_; rintro e w' ⟨rfl, rfl⟩)
            go_ret
            exact ⟨ret_int (by rw [HRF.out, HNF.out, HQ.out, HD.out, HV.out, HP.out]; rfl), hna.trans hnx1⟩
        · rw [hbd, if_pos rfl] at HV
          go_wp2_with fail
          go_ret
          exact ⟨ret_int (by rw [HRF.out, HNF.out, HQ.out, HD.out, HV.out]; rfl), hna.trans (hnx.trans hx1)⟩
    · have H0 : nodesF ns = 0 := by rw [HNF.out, HQ.out, List.drop_of_length_le (by have := HNL.out; omega)]; rfl
      have HRF := hide (HRF.out.trans (if_pos H0))
      obtain rfl : l = k := by omega
      clear H0 HQ HNF HSN hlt hk
      have B1 := nx_cell hbw hgw b1
      go_wp2_with fail
      clear B1
      go_loopw [59] (fun i wr => ∃ k : Nat, k ≤ n ∧ i = .int .i64 k ∧ Nx wa wr ∧ chk (arcF ns) none rs = chk (arcF ns) (prevOf rs k) (rs.drop k)) (fun i _ => n - (intOf i).toNat)
      case atStart => exact ⟨0, Nat.zero_le _, rfl, hbw, rfl⟩
      case round =>
        clear hbw
        obtain ⟨k, hk, rfl, hbw, hq⟩ := hrel
        have HQ := hide hq
        clear hq
        by_cases hlt : k < n
        · have hlt' : k < rs.length := by have := HRL.out; omega
          have HD := hide (chk_drop (arcF ns) rs k hlt')
          have HV := hide (arcF_at ns rs k hlt')
          have HB1 := hide (nx_cell hbw hgw b1)
          obtain ⟨b, off, rfl, _, hb, hbr, hc⟩ := HRA.out.open_ hbw (by have := HRL.out; omega)
          have c0 : wr.cell? ⟨b, off + k * 5, none⟩ = some (.string rs[k].key) := hc k hlt' 0 _ rfl
          have c1 : wr.cell? ⟨b, off + k * 5 + 1, none⟩ = some (.string rs[k].from_) := hc k hlt' 1 _ rfl
          have c2 : wr.cell? ⟨b, off + k * 5 + 2, none⟩ = some (.string rs[k].to_) := hc k hlt' 2 _ rfl
          have c3 : wr.cell? ⟨b, off + k * 5 + 3, none⟩ = some (.int .i64 rs[k].long) := hc k hlt' 3 _ rfl
          have c4 : wr.cell? ⟨b, off + k * 5 + 4, none⟩ = some (.slice rs[k].ka rs[k].knots.length rs[k].kc) := hc k hlt' 4 _ rfl
          have HPC := hide (fun h0 : 0 < k => (show wr.cell? ⟨b, off + (k - 1) * 5, none⟩ = some (.string (rs[k - 1]'(by omega)).key) from hc (k - 1) (by omega) 0 _ rfl))
          have HPV := hide (fun h0 : 0 < k => (show arcBad rs k = strLe rs[k].key (rs[k - 1]'(by omega)).key by
            unfold arcBad
            rw [prevOf_pos _ k h0 (by omega), List.getD_eq_getElem?_getD, List.getElem?_eq_getElem hlt']; rfl))
          have HP0 := hide (fun h0 : k = 0 => (show arcBad rs k = false by subst h0; rfl))
          clear hc
          obtain ⟨hKx, hLx, hSx⟩ := HKN.out rs[k] (List.getElem_mem hlt')
          have HKF := hide (fun W (hx : Nx wa W) => w_knotsFaultQ lo' rs[k].ka rs[k].kc rs[k].knots W (hKx.nx hx) (by omega))
          clear hKx
          generalize rs[k] = x at *
          generalize hkl : x.knots.length = r at *
          generalize arcBad rs k = bad at *
          have HKL := hide hkl
          clear hkl
          go_wp2_with fail
          obtain ⟨wk, hwk⟩ : ∃ wk, wk = wr.alloc (.cells #[.string x.key, .string x.from_, .string x.to_, .int .i64 x.long, .slice x.ka r x.kc] 37) := ⟨_, rfl⟩
          have hnk0 : Nx wr wk := hwk ▸ (Nx.refl wr).alloc _
          have hsk0 : wr.heap.size < wk.heap.size := by rw [hwk]; simp
          have d0 : wk.cell? ⟨wr.heap.size, 0, none⟩ = some (.string x.key) := by rw [hwk]; go_simp
          have d1 : wk.cell? ⟨wr.heap.size, 1, none⟩ = some (.string x.from_) := by rw [hwk]; go_simp
          have d2 : wk.cell? ⟨wr.heap.size, 2, none⟩ = some (.string x.to_) := by rw [hwk]; go_simp
          have d3 : wk.cell? ⟨wr.heap.size, 3, none⟩ = some (.int .i64 x.long) := by rw [hwk]; go_simp
          have d4 : wk.cell? ⟨wr.heap.size, 4, none⟩ = some (.slice x.ka r x.kc) := by rw [hwk]; go_simp
          rw [← hwk]
          have HWK := hide hwk
          clear hwk c0 c1 c2 c3 c4
          refine (w_KeyR _ _ hSx).mono ?_
          rintro e wj ⟨rfl, hnj⟩
          replace d0 := nx_cell hnj hsk0 d0
          replace d1 := nx_cell hnj hsk0 d1
          replace d2 := nx_cell hnj hsk0 d2
          replace d3 := nx_cell hnj hsk0 d3
          replace d4 := nx_cell hnj hsk0 d4
          have hsk := Nat.lt_of_lt_of_le hsk0 hnj.sz
          have hnk := hnk0.trans hnj
          have hnx := hbw.trans hnk
          clear hnk0 hsk0
          cases hkb : keyB x.key
          · rw [hkb] at HV
            go_wp2_with fail
            go_ret
            exact ⟨ret_int (by rw [HRF.out, HQ.out, HD.out, HV.out]; rfl), hna.trans hnx⟩
          rw [hkb, if_pos rfl] at HV
          go_upto_region 20 with fail
          go_cut [69] (fun v wx => v = .bool bad ∧ Nx wj wx)
          case first =>
            clear d1 d2 d3 d4
            by_cases hk0 : 0 < k
            · have hp := nx_cell hnk hbr (HPC.out hk0)
              have B1 := nx_cell hnk (Nat.lt_of_lt_of_le hgw hbw.sz) HB1.out
              have hpv := HPV.out hk0
              have hkz : k - 1 < rs.length := by have := HRL.out; omega
              generalize (rs[k - 1]'(by omega)).key = p0 at *
              have k1 : IntKind.i64.wrap ((k : Int) - 1) = (k : Int) - 1 := IntWalk.i64_in _ (by omega)
              have k2 : (1 : Int) ≤ (k : Int) := by omega
              have k3 : ((k : Int) - 1).toNat = k - 1 := by omega
              have k4 : (k : Int) - 1 < (n : Int) := by omega
              have kp : decide ((k : Int) > 0) = true := decide_eq_true (by omega)
              have kp2 : decide ((0 : Int) < (k : Int)) = true := decide_eq_true (by omega)
              have t1 : (Op.bytesLess x.key.toList p0.toList || x.key.toList == p0.toList) = bad := hpv.symm
              clear hpv
              go_quiet (fail)
              go_wp2
              go_meet
              exact ⟨rfl, (Nx.refl _).drewN _⟩
            · have kp : decide ((k : Int) > 0) = false := decide_eq_false (by omega)
              have kp2 : decide ((0 : Int) < (k : Int)) = false := decide_eq_false (by omega)
              have hb0 := HP0.out (by omega)
              go_quiet (fail)
              go_wp2
              go_meet
              exact ⟨by rw [hb0], (Nx.refl _).drewN _⟩
          case rest =>
            obtain ⟨rfl, hx1⟩ := hcut
            cases hbd : bad
            · rw [hbd, if_neg (by simp)] at HV
              have e1 := nx_cell hx1 hsk d1
              have e2 := nx_cell hx1 hsk d2
              have e3 := nx_cell hx1 hsk d3
              have e4 := nx_cell hx1 hsk d4
              have hs1 := Nat.lt_of_lt_of_le hsk hx1.sz
              have hnx1 := hnx.trans hx1
              have bb0 := nx_cell hnx1 hgw b0
              have bb1 := nx_cell hnx1 hgw b1
              have bb2 := nx_cell hnx1 hgw b2
              clear d0 d1 d2 d3 d4 HB1
              by_cases hf : nodeI ns x.from_ < 0
              · have tf : decide (nodeI ns x.from_ < 0) = true := decide_eq_true hf
                have HG := hide (arcG_none (ns := ns) (a := x) (.inl hf))
                clear hf
                go_wp2_with fail
                refine (HND.out x.from_ _ hnx1).mono ?_
                rintro e w2 ⟨rfl, hn2⟩
                go_wp2_with fail
                go_ret
                exact ⟨ret_int (by rw [HRF.out, HQ.out, HD.out, HV.out, HG.out]; rfl), hna.trans (hnx1.trans hn2)⟩
              have tf : decide (nodeI ns x.from_ < 0) = false := decide_eq_false hf
              have HF := hide (Int.not_lt.1 hf)
              clear hf
              go_wp2_with fail
              refine (HND.out x.from_ _ hnx1).mono ?_
              rintro e w2 ⟨rfl, hn2⟩
              have f1 := nx_cell hn2 hs1 e1
              have f2 := nx_cell hn2 hs1 e2
              have f3 := nx_cell hn2 hs1 e3
              have f4 := nx_cell hn2 hs1 e4
              have hs2 := Nat.lt_of_lt_of_le hs1 hn2.sz
              have hnx2 := hnx1.trans hn2
              clear e1 e2 e3 e4 bb0 bb1 bb2
              have bb0 := nx_cell hnx2 hgw b0
              have bb1 := nx_cell hnx2 hgw b1
              have bb2 := nx_cell hnx2 hgw b2
              by_cases ht : nodeI ns x.to_ < 0
              · have tt : decide (nodeI ns x.to_ < 0) = true := decide_eq_true ht
                have HG := hide (arcG_none (ns := ns) (a := x) (.inr ht))
                clear ht
                go_wp2_with fail
                refine (HND.out x.to_ _ hnx2).mono ?_
                rintro e w3 ⟨rfl, hn3⟩
                go_wp2_with fail
                go_ret
                exact ⟨ret_int (by rw [HRF.out, HQ.out, HD.out, HV.out, HG.out]; rfl), hna.trans (hnx2.trans hn3)⟩
              have tt : decide (nodeI ns x.to_ < 0) = false := decide_eq_false ht
              have HT := hide (Int.not_lt.1 ht)
              clear ht
              go_wp2_with fail
              refine (HND.out x.to_ _ hnx2).mono ?_
              rintro e w3 ⟨rfl, hn3⟩
              have g1 := nx_cell hn3 hs2 f1
              have g2 := nx_cell hn3 hs2 f2
              have g3 := nx_cell hn3 hs2 f3
              have g4 := nx_cell hn3 hs2 f4
              have hs3 := Nat.lt_of_lt_of_le hs2 hn3.sz
              have hnx3 := hnx2.trans hn3
              clear f1 f2 f3 f4 bb0 bb1 bb2
              by_cases heq : x.from_ = x.to_
              · have te : (x.from_.toList == x.to_.toList) = true := by rw [eqS_iff]; exact decide_eq_true heq
                have HG := hide (arcG_twice (ns := ns) (a := x) HF.out HT.out heq)
                clear heq
                go_wp2_with fail
                go_ret
                exact ⟨ret_int (by rw [HRF.out, HQ.out, HD.out, HV.out, HG.out]; rfl), hna.trans hnx3⟩
              have te : (x.from_.toList == x.to_.toList) = false := by rw [eqS_iff]; exact decide_eq_false heq
              cases hlo : outB x.long 1 1000000
              · have fl : inB x.long 1 1000000 = true := by rw [inB_out, hlo]; rfl
                have HG := hide (arcG_knots (ns := ns) (a := x) HF.out HT.out heq hlo)
                clear heq
                by_cases hz : knotsF x.knots = 0
                · rw [hz] at HG
                  have HKF := hide (fun W hx => HKF.out W hx)
                  rw [hz] at HKF
                  clear hz
                  go_wp2_with (go_at_call 48; refine (w_in _ _ _ _).mono ?_; rintro e w' ⟨rfl, rfl⟩)
                  refine (HKF.out _ hnx3).mono ?_
                  rintro e w4 ⟨rfl, hn4⟩
                  go_wp2_with fail
                  go_roundw
                  case rel => exact ⟨k + 1, by omega, by go_num, hnx3.trans hn4, by rw [HQ.out, HD.out, HV.out, HG.out, if_pos rfl]⟩
                  case measure => simp [intOf]; omega
                · have tz : (knotsF x.knots != 0) = true := by simpa using hz
                  have HZ := hide hz
                  clear hz
                  go_wp2_with (go_at_call 48; refine (w_in _ _ _ _).mono ?_; rintro e w' ⟨rfl, rfl⟩)
                  refine (HKF.out _ hnx3).mono ?_
                  rintro e w4 ⟨rfl, hn4⟩
                  go_wp2_with fail
                  go_ret
                  exact ⟨ret_int (by rw [HRF.out, HQ.out, HD.out, HV.out, HG.out, if_neg HZ.out, if_neg HZ.out]), hna.trans (hnx3.trans hn4)⟩
              · have fl : inB x.long 1 1000000 = false := by rw [inB_out, hlo]; rfl
                have HG := hide (arcG_long (ns := ns) (a := x) HF.out HT.out heq hlo)
                clear heq
                go_wp2_with (go_at_call 48; refine (w_in _ _ _ _).mono ?_; rintro e w' ⟨rfl, rfl⟩)
                go_ret
                exact ⟨ret_int (by rw [HRF.out, HQ.out, HD.out, HV.out, HG.out]; rfl), hna.trans hnx3⟩
            · rw [hbd, if_pos rfl] at HV
              go_wp2_with fail
              go_ret
              exact ⟨ret_int (by rw [HRF.out, HQ.out, HD.out, HV.out]; rfl), hna.trans (hnx.trans hx1)⟩
        · have H0 : chk (arcF ns) none rs = 0 := by rw [HQ.out, List.drop_of_length_le (by have := HRL.out; omega)]; rfl
          have HRF := hide (HRF.out.trans (if_pos H0))
          have bb0 := nx_cell hbw hgw b0
          have bb1 := nx_cell hbw hgw b1
          have bb2 := nx_cell hbw hgw b2
          clear H0 HQ
          go_wp2_with fail
          refine (HBF.out _ hbw).mono ?_
          rintro e w2 ⟨rfl, hn2⟩
          go_wp2_with fail
          go_ret
          exact ⟨ret_int HRF.out.symm, hna.trans (hbw.trans hn2)⟩
end Go.Proofs.YtepbamacebjopaaGreatDoor
/- jitlaw1.driven answers true. -/
namespace Go.Proofs.YtepbamacebjopaaGreatDoor
open Go.RowKit

def sAd : ByteArray := ⟨#[97]⟩
def drKnots : List Knot := [⟨0, 100⟩, ⟨1000, 600⟩]
def drArc (A : Option Addr) (c : Nat) : Arc := ⟨sAd, sX, sY, 5, A, c, drKnots⟩
def drNodes : List Node := [⟨sX, 0, 0⟩, ⟨sY, 0, 0⟩]
theorem dr_le : strLe sY sX = false := by unfold strLe; rw [Lib.toList_data, Lib.toList_data]; decide
theorem dr_key : keyB sAd = true ∧ keyB sX = true ∧ keyB sY = true := by decide
theorem dr_nodes : nodesF drNodes = 0 := by
  unfold nodesF drNodes
  rw [if_neg (by decide)]
  have h1 : nodeF none ⟨sX, 0, 0⟩ = 0 := by unfold nodeF; rw [dr_key.2.1]; decide
  have h2 : nodeF (some ⟨sX, 0, 0⟩) ⟨sY, 0, 0⟩ = 0 := by unfold nodeF; rw [dr_key.2.2]; simp only [dr_le]; decide
  simp only [chk, h1, h2, if_pos]
theorem dr_pair : pairN sX sY = drNodes := by
  have h : Op.bytesLess sY.toList sX.toList = false := by rw [Lib.toList_data, Lib.toList_data]; decide
  unfold pairN lo2 hi2
  rw [if_neg (by decide), h]
  rfl
theorem dr_roads (A : Option Addr) (c : Nat) : roadsF (pairN sX sY) [drArc A c] [] = 0 := by
  unfold roadsF
  rw [dr_pair, if_pos dr_nodes]
  have hg : arcG drNodes (drArc A c) = 0 := by
    unfold arcG
    show (if nodeI drNodes sX < 0 ∨ nodeI drNodes sY < 0 then (8 : Int) else if sX = sY then 6 else if outB 5 1 1000000 = true then 1 else knotsF drKnots) = 0
    rw [if_neg (show ¬ (nodeI drNodes sX < 0 ∨ nodeI drNodes sY < 0) by decide), if_neg (show ¬ sX = sY by decide), if_neg (show ¬ outB 5 1 1000000 = true by decide)]
    exact (show knotsF drKnots = 0 by decide)
  have h1 : arcF drNodes none (drArc A c) = 0 := by
    unfold arcF
    rw [show keyB (drArc A c).key = true from dr_key.1, if_pos rfl]
    exact hg
  have h2 : chk (arcF drNodes) none [drArc A c] = 0 := by simp only [chk, h1, if_pos]
  rw [if_pos h2]
  rfl
theorem dr_F (A : Option Addr) (c : Nat) : timeOnF (drArc A c) 500 = 0 := by
  unfold timeOnF
  rw [show (drArc A c).from_ = sX from rfl, show (drArc A c).to_ = sY from rfl, if_pos (dr_roads A c)]
  decide
theorem dr_I (A : Option Addr) (c : Nat) : timeOnI (drArc A c) 500 = 350 := by
  unfold timeOnI
  rw [if_pos (dr_F A c)]
  exact (show timeI drKnots 500 = 350 by decide)

set_option maxRecDepth 100000 in
set_option maxHeartbeats 1000000 in
theorem w_driven (w : World) : Calls Tryz.prog 15 #[] w fun e w' => e = .returned (.bool true) ∧ Nx w w' := by
  have hK : Rd (w.alloc (.cells #[.int .i64 0, .int .i64 100, .int .i64 1000, .int .i64 600] 78)) 0 (some ⟨w.heap.size, 0, none⟩) 2 encKnot drKnots := Rd.lit (hnew rfl) (Nat.zero_le _) encKnot_len rfl
  have hT := w_TimeOn 0 (drArc (some ⟨w.heap.size, 0, none⟩) 2) 500 _ hK (show drKnots.length ≤ 400 by decide) (show sAd.size ≤ 1000000 by decide) (show sX.size ≤ 1000000 by decide) (show sY.size ≤ 1000000 by decide)
  rw [dr_I, dr_F] at hT
  have HT := hide hT
  clear hT hK
  go_enter Tryz.func15, Tryz.ntmps15
  go_wp2_with (go_at_call 57; refine HT.out.mono ?_; rintro e w2 ⟨rfl, hn2⟩)
  go_ret
  exact ⟨rfl, ((Nx.refl w).alloc _).trans hn2⟩
end Go.Proofs.YtepbamacebjopaaGreatDoor
/- The rest of a function's code from a region on. Of no program. -/
namespace Go.Proofs.YtepbamacebjopaaGreatDoor
open Go

/-- The first region's number. -/
def firstReg : Code → Option Nat
  | .region n _ _ => some n
  | .seq a _ => firstReg a
  | .scope c => firstReg c
  | .block _ c => firstReg c
  | .loop c => firstReg c
  | _ => none
def isReg (r : Nat) (c : Code) : Bool := match firstReg c with | some n => Nat.beq n r | none => false
/-- What follows from the statement on that begins with region r. -/
def fromReg (r : Nat) : Code → Code
  | .seq a b => bif isReg r a then .seq a b else fromReg r b
  | .scope c => fromReg r c
  | .block _ c => fromReg r c
  | c => c
end Go.Proofs.YtepbamacebjopaaGreatDoor
/- Roads in the making, once more: the box lies behind the rows. -/
namespace Go.Proofs.YtepbamacebjopaaGreatDoor
open Go.RowKit

theorem own_neU {w : World} {base : Nat} {e t : TypeId} {K n : Nat} {v : Value} {xs : List Value} {G : Nat} {cs : Array Value} (h : w.ownsRow base e K v n xs) (hb : w.heap[G]? = some (.cells cs t (0, 0))) (hne : t ≠ e) : v.ownBlock ≠ some G := by
  rcases h.2 with ⟨rfl, _⟩ | ⟨g, cap, cur, rfl, _, hg, _⟩
  · intro e; cases e
  · intro e
    injection e with e
    subst e
    rw [hb] at hg
    injection hg with hg
    injection hg with _ h2 _
    exact hne h2
section
variable {w w' : World} {base : Nat} {vN vA vB : Value} {ns : List Node} {rs : List Arc} {bs : List Ban}
/-- A block of another type has been written. -/
theorem OwnR.off {g : Nat} {cs : Array Value} {t : TypeId} (h : OwnR w base vN vA vB ns rs bs) (hb : w.heap[g]? = some (.cells cs t (0, 0))) (h1 : t ≠ 74) (h2 : t ≠ 37) (h3 : t ≠ 80) (h4 : t ≠ 78) (hg : w.grownBy w' (some g)) : OwnR w' base vN vA vB ns rs bs :=
  ⟨h.rowN.kept hg (.inr (own_neU h.rowN hb h1)), h.rowA.kept hg (.inr (own_neU h.rowA hb h2)), h.rowB.kept hg (.inr (own_neU h.rowB hb h3)), fun a ha => (h.each a ha).kept hg (.inr (own_neU (h.each a ha) hb h4)), h.smN, h.smA⟩
end
/-- The stream's roads, once they are made: they lie in box g3. -/
structure RQ (w0 : World) (s g3 : Nat) (w : World) (vN vA vB : Value) (ns : List Node) (rs : List Arc) (bs : List Ban) (K : Nat) : Prop where
  own : OwnR w (w0.heap.size + 1) vN vA vB ns rs bs
  box : w.heap[g3]? = some (.cells #[vN, vA, vB] 30 (0, 0))
  res : ∃ cs, w.heap[w0.heap.size]? = some (.cells cs 30 (0, 0)) ∧ cs.size = 3
  gr_ : Gr s w0 w
  str : Str w s K
  slt : s < w0.heap.size
  g3gt : w0.heap.size < g3
section
variable {w0 w w' : World} {s g3 K K' : Nat} {vN vA vB : Value} {ns : List Node} {rs : List Arc} {bs : List Ban}
theorem RQ.gr (h : RQ w0 s g3 w vN vA vB ns rs bs K) (hn : Gr s w w') (hS : Str w' s K') : RQ w0 s g3 w' vN vA vB ns rs bs K' := by
  have hs := h.slt
  have h3 := h.g3gt
  have hl : ∀ g o, w.heap[g]? = some o → g ≠ s → w'.heap[g]? = some o := fun g o hg hne => (World.grownBy.block (row := some s) hn g (Array.getElem?_eq_some_iff.1 hg).1 (by simp; omega)).trans hg
  obtain ⟨cs, h1, h2⟩ := h.res
  exact ⟨h.own.gr hn (by omega), hl _ _ h.box (by omega), ⟨cs, hl _ _ h1 (by omega), h2⟩, h.gr_.trans hn, hS, hs, h3⟩
theorem RQ.nx (h : RQ w0 s g3 w vN vA vB ns rs bs K) (hn : Nx w w') : RQ w0 s g3 w' vN vA vB ns rs bs K := h.gr (Gr.of_nx hn) (h.str.nx hn)
theorem RQ.more (h : RQ w0 s g3 w vN vA vB ns rs bs K) (hk : K ≤ K') : RQ w0 s g3 w vN vA vB ns rs bs K' := { h with str := h.str.more hk }
theorem RQ.sz (h : RQ w0 s g3 w vN vA vB ns rs bs K) : g3 < w.heap.size := (Array.getElem?_eq_some_iff.1 h.box).1
theorem RQ.cellN (h : RQ w0 s g3 w vN vA vB ns rs bs K) : w.cell? ⟨g3, 0, none⟩ = some vN := cell_of_row w _ 0 _ _ _ h.box
theorem RQ.cellA (h : RQ w0 s g3 w vN vA vB ns rs bs K) : w.cell? ⟨g3, 1, none⟩ = some vA := cell_of_row w _ 1 _ _ _ h.box
theorem RQ.cellB (h : RQ w0 s g3 w vN vA vB ns rs bs K) : w.cell? ⟨g3, 2, none⟩ = some vB := cell_of_row w _ 2 _ _ _ h.box
/-- A row has been written: the box is as it was. -/
theorem RQ.row {v : Value} {base n K2 : Nat} {e : TypeId} {xs : List Value} (h : RQ w0 s g3 w vN vA vB ns rs bs K) (ho : w.ownsRow base e K2 v n xs) (hne : 30 ≠ e) (hb : w0.heap.size + 1 ≤ base) (hg : w.grownBy w' v.ownBlock) {vN' vA' vB' : Value} {ns' : List Node} {rs' : List Arc} {bs' : List Ban} (ho' : OwnR w' (w0.heap.size + 1) vN' vA' vB' ns' rs' bs') :
    w'.heap[g3]? = some (.cells #[vN, vA, vB] 30 (0, 0)) ∧ (∃ cs, w'.heap[w0.heap.size]? = some (.cells cs 30 (0, 0)) ∧ cs.size = 3) ∧ Gr s w0 w' ∧ Str w' s K ∧ OwnR w' (w0.heap.size + 1) vN' vA' vB' ns' rs' bs' := by
  have hs := h.slt
  have hbl := own_blk_lt ho
  obtain ⟨cs, h1, h2⟩ := h.res
  exact ⟨(World.grownBy.block hg _ h.sz (fun e => own_neU ho h.box hne e.symm)).trans h.box,
    ⟨cs, (World.grownBy.block hg _ (Array.getElem?_eq_some_iff.1 h1).1 (fun e => own_neU ho h1 hne e.symm)).trans h1, h2⟩,
    h.gr_.grown hg (fun k hk => .inr (by have := hbl k hk; omega)), h.str.row hg (fun k hk => by have := hbl k hk; omega), ho'⟩
/-- .. and then the box's field. -/
theorem RQ.set {v v' : Value} {base n K2 j : Nat} {e : TypeId} {xs : List Value} (h : RQ w0 s g3 w vN vA vB ns rs bs K) (ho : w.ownsRow base e K2 v n xs) (hne : 30 ≠ e) (hb : w0.heap.size + 1 ≤ base) (hg : w.grownBy w' v.ownBlock) {vN' vA' vB' : Value} {ns' : List Node} {rs' : List Arc} {bs' : List Ban} (ho' : OwnR w' (w0.heap.size + 1) vN' vA' vB' ns' rs' bs')
    (he : (#[vN, vA, vB] : Array Value).setIfInBounds j v' = #[vN', vA', vB']) : RQ w0 s g3 (w'.setCell ⟨g3, j, none⟩ v') vN' vA' vB' ns' rs' bs' K := by
  have hs := h.slt
  have h3 := h.g3gt
  obtain ⟨h1, ⟨cs, h2, h2'⟩, h4, h5, h6⟩ := h.row ho hne hb hg ho'
  have hset : Gr g3 w' (w'.setCell ⟨g3, j, none⟩ v') := (Gr.refl g3 w').setS (p := ⟨g3, j, none⟩) (.inl rfl) v'
  refine ⟨h6.off h1 (by decide) (by decide) (by decide) (by decide) hset, ?_, ⟨cs, (World.grownBy.block (row := some g3) hset _ (Array.getElem?_eq_some_iff.1 h2).1 (by simp; omega)).trans h2, h2'⟩, ?_, ?_, hs, h3⟩
  · rw [← he]; exact heap_set h1
  · exact h4.setS (p := ⟨g3, j, none⟩) (.inr (by show w0.heap.size ≤ g3; omega)) v'
  · exact h5.row hset (fun k hk => by injection hk with hk; omega)
end
/-- Region r, wherever it stands. -/
def findReg (r : Nat) : Code → Option Code
  | .region n o b => bif Nat.beq n r then some (.region n o b) else none
  | .seq a b => match findReg r a with | some c => some c | none => findReg r b
  | .cond _ a b => match findReg r a with | some c => some c | none => findReg r b
  | .scope c => findReg r c
  | .block _ c => findReg r c
  | .loop c => findReg r c
  | _ => none
noncomputable def regR (r : Nat) : Code := (findReg r (Tryz.f4.body.getD .skip)).getD .skip
end Go.Proofs.YtepbamacebjopaaGreatDoor
/- The stream's knots. -/
namespace Go.Proofs.YtepbamacebjopaaGreatDoor
open Go.RowKit Go.Proofs Go.Shelf

/-- Some knots, in a row of the call's own. -/
def StrKnots (s k : Nat) (w : World) (e : Ending) (w' : World) : Prop :=
  ∃ (v : Value) (l : List Knot), e = .returned v ∧ w'.ownsRow w.heap.size 78 2 v l.length (l.flatMap encKnot) ∧ l.length ≤ 8 ∧ Gr s w w' ∧ Str w' s k
set_option maxRecDepth 100000 in
set_option maxHeartbeats 4000000 in
theorem w_knots (s k : Nat) (w : World) (hS : Str w s k) (hk : k < 700000) :
    Calls Tryz.prog 30 #[.pointer (some ⟨s, 0, none⟩)] w (StrKnots s (k + 20) w) := by
  have hsl := hS.lt
  go_enter Tryz.func30, Tryz.ntmps30
  go_wp2_with fail
  refine (w_Pick _ 5 _ _ _ _ (hS.nx ((Nx.refl _).alloc _)) (by omega) (hnew rfl) (by omega) rfl (by omega) (by omega)).mono ?_
  rintro e w1 ⟨v, hv, rfl, hg1, hS1⟩
  obtain ⟨b0, rfl⟩ : ∃ z : Int, v = .int .i64 z := by simp at hv; rcases hv with h | h | h | h | h <;> exact ⟨_, h⟩
  have hgr1 : Gr s w w1 := ((Gr.refl s w).alloc _).trans hg1
  have hsz1 := hgr1.sz
  have hown0 : (w1.alloc (.cells #[.int .i64 0, .int .i64 b0] 78)).ownsRow w.heap.size 78 2 (.slice (some ⟨w1.heap.size, 0, none⟩) 1 1) ([(⟨0, b0⟩ : Knot)]).length (([(⟨0, b0⟩ : Knot)]).flatMap encKnot) := own_lit (w := w1.alloc (.cells #[.int .i64 0, .int .i64 b0] 78)) (e := 78) (g := w1.heap.size) (n := 1) (m := 1) (base := w.heap.size) (xs := [(⟨0, b0⟩ : Knot)]) encKnot_len (hnew rfl) hsz1 rfl rfl (Nat.le_refl _) (by unfold maxLen; omega)
  have HO0 := hide hown0
  clear hown0 hv hg1
  have hS1s := hS1.lt
  go_wp2_with fail
  refine (w_Pick (w1.heap.size + 1) 4 _ _ _ _ ((hS1.nx ((Nx.refl _).alloc _)).nx ((Nx.refl _).alloc _)) (by omega) (hnew (by simp)) (by omega) rfl (by omega) (by omega)).mono ?_
  rintro e w2 ⟨v, hv, rfl, hg2, hS2⟩
  obtain ⟨a0, rfl⟩ : ∃ z : Int, v = .int .i64 z := by simp at hv; rcases hv with h | h | h | h <;> exact ⟨_, h⟩
  have hgr2 : Gr s (w1.alloc (.cells #[.int .i64 0, .int .i64 b0] 78)) w2 := ((Gr.refl s _).alloc _).trans hg2
  have HO2 := hide (own_gr HO0.out hgr2 hsl)
  have hgw2 : Gr s w w2 := (hgr1.alloc _).trans hgr2
  have hsz2 := hgw2.sz
  clear HO0 hv hg2 hgr2 hgr1 hS1
  go_wp2_with fail
  refine (w_PickI _ [0, 0, 1, 2, 3] _ _ _ _ (hS2.nx ((Nx.refl _).alloc _)) (by omega) (hnew rfl) (by omega) rfl (by simp) (by simp)).mono ?_
  rintro e w3 ⟨m, hm, rfl, hg3, hS3⟩
  obtain ⟨m, hm3, rfl⟩ : ∃ n : Nat, n ≤ 3 ∧ m = (n : Int) := by
    simp at hm
    rcases hm with h | h | h | h
    · exact ⟨0, by omega, h⟩
    · exact ⟨1, by omega, h⟩
    · exact ⟨2, by omega, h⟩
    · exact ⟨3, by omega, h⟩
  have hgr3 : Gr s w2 w3 := ((Gr.refl s _).alloc _).trans hg3
  have HO3 := hide (own_gr HO2.out hgr3 hsl)
  have hgw3 : Gr s w w3 := hgw2.trans hgr3
  clear hm HO2 hg3 hgr3 hgw2 hS2 hsz2
  go_wp2_with fail
  go_loopw [4, 5, 20] (fun v at_ i wr => ∃ (j : Nat) (l : List Knot) (a : Int), j ≤ m ∧ i = .int .i64 j ∧ at_ = .int .i64 a ∧ l.length = j + 1 ∧ wr.ownsRow w.heap.size 78 2 v l.length (l.flatMap encKnot) ∧ Gr s w wr ∧ Str wr s (k + 3 + 2 * j)) (fun _ _ i _ => m - (intOf i).toNat)
  case atStart => exact ⟨0, [⟨0, b0⟩], a0, Nat.zero_le _, rfl, rfl, rfl, HO3.out, hgw3, hS3⟩
  case round =>
    clear HO3 hgw3 hS3
    obtain ⟨j, l, a, hj, rfl, rfl, hll, hown, hgr, hSr⟩ := hrel
    by_cases hlt : j < m
    · obtain ⟨A4, c4, ev, hR4, hA4⟩ := Rd.of_own encKnot_len rfl hown
      have HOW := hide hown
      subst ev
      obtain ⟨b, off, rfl, _, hb, hbr, hc⟩ := hR4.open_ (Nx.refl wr) (by omega)
      have hjl : j < l.length := by omega
      have c0 : wr.cell? ⟨b, off + j * 2, none⟩ = some (.int .i64 l[j].at_) := hc j hjl 0 _ rfl
      have c1 : wr.cell? ⟨b, off + j * 2 + 1, none⟩ = some (.int .i64 l[j].time) := hc j hjl 1 _ rfl
      clear hc hown hR4
      generalize l[j].at_ = x1 at *
      generalize l[j].time = x2 at *
      rw [hll]
      have n1 : IntKind.i64.wrap (((j + 1 : Nat) : Int) - 1) = (j : Int) := by rw [IntWalk.i64_in _ (by omega)]; omega
      have n2 : (j : Int) < ((j + 1 : Nat) : Int) := by omega
      have hsr := hSr.lt
      have hgsz := hgr.sz
      go_upto_region 7 with fail
      obtain ⟨wk, hwk⟩ : ∃ wk, wk = wr.alloc (.cells #[.int .i64 x1, .int .i64 x2] 78) := ⟨_, rfl⟩
      have hnk : Nx wr wk := hwk ▸ (Nx.refl wr).alloc _
      have hsk : wr.heap.size < wk.heap.size := by rw [hwk]; simp
      have d0 : wk.cell? ⟨wr.heap.size, 0, none⟩ = some (.int .i64 x1) := by rw [hwk]; go_simp
      have d1 : wk.cell? ⟨wr.heap.size, 1, none⟩ = some (.int .i64 x2) := by rw [hwk]; go_simp
      rw [← hwk]
      have HWK := hide hwk
      have hSk := hSr.nx hnk
      have hgk := hgr.then_nx hnk
      have HOK := hide (own_nx HOW.out hnk)
      clear hwk c0 c1 hSr hgr HOW
      obtain ⟨bx, hbx⟩ : ∃ bx, bx = wr.heap.size := ⟨_, rfl⟩
      rw [← hbx] at hsk d0 d1 ⊢
      rw [← hbx] at hsr
      have HBX := hide hbx
      clear hbx hnk
      have hsk2 : s < wk.heap.size := by omega
      go_cut [7] (fun v wx => ∃ z : Int, v = .int .i64 z ∧ Gr s wk wx ∧ Str wx s (k + 3 + 2 * j + 1))
      case first =>
        go_region_held3 (fun w' => w'.cell? ⟨bx, 0, none⟩ = some (.int .i64 x1) ∧ w'.cell? ⟨bx, 1, none⟩ = some (.int .i64 x2))
          (first | (go_split_ands; exact ⟨World.grownBy.cell hg4 ‹_› (by simp; omega), World.grownBy.cell hg4 ‹_› (by simp; omega)⟩) | go_keep)
          (first
            | (go_at_call 5; refine (w_Pick wk.heap.size 7 _ _ _ _ (hSk.nx (((Nx.refl wk).alloc _).drew)) (by omega) (hnew_drew rfl) (by omega) rfl (by omega) (by omega)).mono ?_; rintro e w4 ⟨v, hv, rfl, hg4, hS4⟩; (obtain ⟨z, rfl⟩ : ∃ z : Int, v = .int .i64 z := by (simp at hv; rcases hv with h | h | h | h | h | h | h <;> exact ⟨_, h⟩))))
        go_wp2
        go_meet
        exact ⟨_, rfl, (((Gr.refl s wk).alloc _).drew).trans hg4, hS4⟩
      case rest =>
        obtain ⟨z, rfl, hg4, hS4⟩ := hcut
        have e0 := World.grownBy.cell hg4 d0 (by simp; omega)
        have e1 := World.grownBy.cell hg4 d1 (by simp; omega)
        have HO4 := hide (own_gr HOK.out hg4 hsl)
        have hg4w := hgk.trans hg4
        have hgsz4 := hg4w.sz
        clear d0 d1 HOK hg4 hgk hSk
        go_upto_region 8 with fail
        go_cut [57] (fun v wx => ∃ b : Bool, v = .bool b ∧ wc = wx)
        case first =>
          go_wp2_with fail
          all_goals
            go_meet
            exact ⟨_, rfl, rfl⟩
        case rest =>
          obtain ⟨bb, rfl, rfl⟩ := hcut
          go_upto_if 57 with fail
          go_cut [7] (fun v wx => ∃ z : Int, v = .int .i64 z ∧ wc = wx)
          case first =>
            cases bb
            all_goals
              go_wp2_with fail
              go_meet
              exact ⟨_, rfl, rfl⟩
          case rest =>
            obtain ⟨y, rfl, rfl⟩ := hcut
            clear e0 e1
            go_wp2_with (first
              | (at_builtin; refine wpApp rfl _ _ _ rfl el_Knot encKnot encKnot_len encKnot_one (by omega) (by omega) w.heap.size _ l (by rw [hll]; rfl) (HO4.out.alloc _) _ ⟨a, y⟩ _ rfl (hnew rfl) rfl (by omega) (by simp; omega) ?_; intro v5 w5 hown5 hg5)
              | fail)
            have hbl := own_blk_lt HO4.out
            have hS5 := (hS4.nx ((Nx.refl wc).alloc (.cells #[.int .i64 a, .int .i64 y] 78))).row hg5 (fun j hj => by have := hbl j hj; omega)
            have hg5w : Gr s w w5 := (hg4w.alloc _).grown hg5 (fun k hk => .inr (hbl k hk))
            have hs5 := hS5.lt
            have HO5 := hide hown5
            clear hown5 HO4
            refine (w_Pick w5.heap.size 5 _ _ _ _ (hS5.nx ((Nx.refl w5).alloc _)) (by omega) (hnew rfl) (by omega) rfl (by omega) (by omega)).mono ?_
            rintro e w6 ⟨v, hv, rfl, hg6, hS6⟩
            obtain ⟨z2, rfl⟩ : ∃ z : Int, v = .int .i64 z := by simp at hv; rcases hv with h | h | h | h | h <;> exact ⟨_, h⟩
            have hg56 : Gr s w5 w6 := ((Gr.refl s w5).alloc _).trans hg6
            have HO6 := hide (own_gr HO5.out hg56 hsl)
            go_wp2_with fail
            go_roundw
            case rel => exact ⟨j + 1, l ++ [⟨a, y⟩], _, by omega, by go_num, rfl, by rw [List.length_append, hll]; rfl, HO6.out, hg5w.trans hg56, hS6.more (by omega)⟩
            case measure => simp [intOf]; omega
    · go_wp2_with fail
      go_ret
      exact ⟨_, l, rfl, hown, by omega, hgr, hSr.more (by omega)⟩
end Go.Proofs.YtepbamacebjopaaGreatDoor
/- Bans the other way round. -/
namespace Go.Proofs.YtepbamacebjopaaGreatDoor
open Go.RowKit

theorem ban_set {w : World} {base g n cap : Nat} {xs : List Ban} (h : w.ownsRow base 80 2 (.slice (some ⟨g, 0, none⟩) n cap) n (xs.flatMap encBan)) (hn : xs.length = n) (o : Nat) (ho : o < n * 2) (u : ByteArray) :
    ∃ ys : List Ban, ys.length = n ∧ (w.setCell ⟨g, o, none⟩ (.string u)).ownsRow base 80 2 (.slice (some ⟨g, 0, none⟩) n cap) n (ys.flatMap encBan) := by
  have hi : o / 2 < xs.length := by omega
  rcases (by omega : o % 2 = 0 ∨ o % 2 = 1) with h0 | h0
  · exact ⟨_, by rw [List.length_set]; exact hn, own_set encBan_len hn h (o / 2) hi 0 (by omega) (.string u) ⟨u, xs[o / 2].to_⟩ rfl o (by omega)⟩
  · exact ⟨_, by rw [List.length_set]; exact hn, own_set encBan_len hn h (o / 2) hi 1 (by omega) (.string u) ⟨xs[o / 2].from_, u⟩ rfl o (by omega)⟩
set_option maxRecDepth 100000 in
set_option maxHeartbeats 4000000 in
theorem w_RevB (base : Nat) (v : Value) (bs : List Ban) (w : World) (hown : w.ownsRow base 80 2 v bs.length (bs.flatMap encBan)) (hl : bs.length ≤ 65536) :
    Calls Tryz.prog 31 #[v] w fun e w' => e = .returned (.tuple #[]) ∧ ∃ bs' : List Ban, bs'.length = bs.length ∧ w'.ownsRow base 80 2 v bs'.length (bs'.flatMap encBan) ∧ w.grownBy w' v.ownBlock := by
  by_cases h0 : bs.length = 0
  · have hb : bs = [] := List.eq_nil_of_length_eq_zero h0
    subst hb
    have HO := hide hown
    obtain ⟨A, c, rfl, _, _⟩ := Rd.of_own encBan_len rfl hown
    clear hown
    go_enter Tryz.func31, Tryz.ntmps31
    go_wp2_with fail
    refine wp_loop_rounds 1 ?_
    rw [rounds_succ]
    go_wp2_with fail
    go_end0
    exact ⟨rfl, [], rfl, HO.out, World.grownBy.refl _ _⟩
  · obtain ⟨g, cap, rfl⟩ : ∃ g cap, v = .slice (some ⟨g, 0, none⟩) bs.length cap := by
      rcases hown.2 with ⟨_, h⟩ | ⟨g, cap, cur, e, _⟩
      · exact absurd h h0
      · exact ⟨g, cap, e⟩
    generalize hn : bs.length = n at *
    have HO := hide hown
    have HN := hide hn
    clear hown hn
    go_enter Tryz.func31, Tryz.ntmps31
    have n1 : IntKind.i64.wrap ((n : Int) - 1) = ((n - 1 : Nat) : Int) := by rw [IntWalk.i64_in _ (by omega)]; omega
    go_wp2_with fail
    go_loopw [2, 3] (fun vi vj wr => ∃ (i j : Nat) (zs : List Ban), vi = .int .i64 i ∧ vj = .int .i64 j ∧ i + j = n - 1 ∧ zs.length = n ∧ wr.ownsRow base 80 2 (.slice (some ⟨g, 0, none⟩) n cap) n (zs.flatMap encBan) ∧ Gr g w wr) (fun vi vj _ => (intOf vj).toNat - (intOf vi).toNat)
    case atStart => exact ⟨0, n - 1, bs, rfl, rfl, by omega, HN.out, HO.out, Gr.refl _ _⟩
    case round =>
      obtain ⟨i, j, zs, rfl, rfl, hij, hzl, hown, hgr⟩ := hrel
      by_cases hlt : i < j
      · have hi : i < zs.length := by omega
        have hj : j < zs.length := by omega
        have c0 : wr.cell? ⟨g, i * 2, none⟩ = some (.string zs[i].from_) := by have := own_cell encBan_len hzl hown i hi 0 _ rfl; simpa using this
        have c1 : wr.cell? ⟨g, i * 2 + 1, none⟩ = some (.string zs[i].to_) := own_cell encBan_len hzl hown i hi 1 _ rfl
        have c2 : wr.cell? ⟨g, j * 2, none⟩ = some (.string zs[j].from_) := by have := own_cell encBan_len hzl hown j hj 0 _ rfl; simpa using this
        have c3 : wr.cell? ⟨g, j * 2 + 1, none⟩ = some (.string zs[j].to_) := own_cell encBan_len hzl hown j hj 1 _ rfl
        have f0 := hown.frozenAt (i * 2)
        have f1 := hown.frozenAt (i * 2 + 1)
        have f2 := hown.frozenAt (j * 2)
        have f3 := hown.frozenAt (j * 2 + 1)
        have HOW := hide hown
        have hi2 : (i : Int) < (n : Int) := by omega
        have hj2 : (j : Int) < (n : Int) := by omega
        have hi0 : (0 : Int) ≤ (i : Int) := by omega
        have hj0 : (0 : Int) ≤ (j : Int) := by omega
        generalize zs[i] = x at *
        generalize zs[j] = y at *
        clear hown
        go_wp2_with fail
        go_region_with (fail)
        all_goals
          go_wp2_with fail
          first
            | (obtain ⟨z1, hz1, o1⟩ := ban_set HOW.out hzl (i * 2) (by omega) y.from_
               obtain ⟨z2, hz2, o2⟩ := ban_set o1 hz1 (i * 2 + 1) (by omega) y.to_
               obtain ⟨z3, hz3, o3⟩ := ban_set o2 hz2 (j * 2) (by omega) x.from_
               obtain ⟨z4, hz4, o4⟩ := ban_set o3 hz3 (j * 2 + 1) (by omega) x.to_
               go_roundw
               case rel => exact ⟨i + 1, j - 1, z4, by go_num, by (congr 1; omega), by omega, hz4, o4, ((((hgr.setS (p := ⟨g, i * 2, none⟩) (.inl rfl) _).setS (p := ⟨g, i * 2 + 1, none⟩) (.inl rfl) _).setS (p := ⟨g, j * 2, none⟩) (.inl rfl) _).setS (p := ⟨g, j * 2 + 1, none⟩) (.inl rfl) _).drew⟩
               case measure => simp [intOf]; omega)
            | (obtain ⟨z1, hz1, o1⟩ := ban_set HOW.out hzl (j * 2) (by omega) x.from_
               obtain ⟨z2, hz2, o2⟩ := ban_set o1 hz1 (j * 2 + 1) (by omega) x.to_
               obtain ⟨z3, hz3, o3⟩ := ban_set o2 hz2 (i * 2) (by omega) y.from_
               obtain ⟨z4, hz4, o4⟩ := ban_set o3 hz3 (i * 2 + 1) (by omega) y.to_
               go_roundw
               case rel => exact ⟨i + 1, j - 1, z4, by go_num, by (congr 1; omega), by omega, hz4, o4, ((((hgr.setS (p := ⟨g, j * 2, none⟩) (.inl rfl) _).setS (p := ⟨g, j * 2 + 1, none⟩) (.inl rfl) _).setS (p := ⟨g, i * 2, none⟩) (.inl rfl) _).setS (p := ⟨g, i * 2 + 1, none⟩) (.inl rfl) _).drew⟩
               case measure => simp [intOf]; omega)
      · go_wp2_with fail
        go_end0
        exact ⟨rfl, zs, by omega, by rw [hzl]; exact hown, hgr⟩
end Go.Proofs.YtepbamacebjopaaGreatDoor
