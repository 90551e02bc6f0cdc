/- Roads: the reference's check. -/
import Derived.Test.YtklgknepamebdaaGreatDoorQG19
import Derived.Test.YtklgknepamebdaaGreatDoorQKnotR
import Derived.Test.YtklgknepamebdaaGreatDoorQG2
import Derived.Test.YtklgknepamebdaaGreatDoorQG9
import Derived.Deep.DeepCutAuto
import Derived.Deep.AppendLies
import Derived.Test.YtklgknepamebdaaGreatDoorQG0
import Derived.Test.YtklgknepamebdaaGreatDoorQG4
namespace Go.Proofs.YtklgknepamebdaaGreatDoor
open Go.RowKit

def nodeBad (ns : List Node) (k : Nat) : Bool := match prevOf ns k with | some q => strLe (ns.getD k default).key q.key | none => false
theorem nodeF_at (ns : List Node) (k : Nat) (hk : k < ns.length) : nodeF (prevOf ns k) ns[k] = if keyB ns[k].key then (if nodeBad ns k then 7 else ptF ns[k].x ns[k].y) else 5 := by
  have e : ns.getD k default = ns[k] := by rw [List.getD_eq_getElem?_getD, List.getElem?_eq_getElem hk]; rfl
  unfold nodeF nodeBad
  rw [e]
  cases prevOf ns k with
  | none => simp
  | some q => rfl

set_option maxRecDepth 100000 in
set_option maxHeartbeats 4000000 in
theorem w_RoadsFault (lo lo' lo'' : Nat) (A B C : Option Addr) (ca cb cc : Nat) (ns : List Node) (rs : List Arc) (bs : List Ban) (w : World)
    (hN : Rd w lo A 3 encNode ns) (hS : SmallN ns) (hnl : ns.length ≤ 400) (hA : RdArcs w lo' B rs) (hal : rs.length ≤ 400) (hB : Rd w lo'' C 2 encBan bs) (hbl : bs.length ≤ 400) :
    Calls Tryz.prog 16 #[.agg #[.slice A ns.length ca, .slice B rs.length cb, .slice C bs.length cc]] w fun e w' => e = .returned (.int .i64 (roadsF ns rs bs)) ∧ Nx w w' := by
  obtain ⟨wa, hwa⟩ : ∃ wa, wa = w.alloc (.cells #[.slice A ns.length ca, .slice B rs.length cb, .slice C bs.length cc] 30) := ⟨_, rfl⟩
  have hna : Nx w wa := hwa ▸ (Nx.refl w).alloc _
  have hgw : w.heap.size < wa.heap.size := by rw [hwa]; simp
  have b0 : wa.cell? ⟨w.heap.size, 0, none⟩ = some (.slice A ns.length ca) := by rw [hwa]; go_simp
  have b1 : wa.cell? ⟨w.heap.size, 1, none⟩ = some (.slice B rs.length cb) := by rw [hwa]; go_simp
  have b2 : wa.cell? ⟨w.heap.size, 2, none⟩ = some (.slice C bs.length cc) := by rw [hwa]; go_simp
  have HND := hide (fun s W (hx : Nx wa W) => w_NodeAt lo A B C rs.length bs.length ca cb cc ns s W ((hN.nx hna).nx hx) (by omega))
  have HBF := hide (fun W (hx : Nx wa W) => w_bansFaultQ lo' lo'' A B C ns.length ca cb cc rs bs W ((hA.nx hna).nx hx) hal ((hB.nx hna).nx hx) hbl)
  have HRN := hide (hN.nx hna)
  have HSN := hide hS
  have HRA := hide (hA.nx hna).1
  have HKN := hide (hA.nx hna).2
  have HRF := hide (show roadsF ns rs bs = if nodesF ns = 0 then (if chk (arcF ns) none rs = 0 then chk (banF rs) none bs else chk (arcF ns) none rs) else nodesF ns from rfl)
  have HNF := hide (show nodesF ns = chk nodeF none ns by unfold nodesF; rw [if_neg (by omega)])
  clear hN hS hA hB
  generalize roadsF ns rs bs = V at *
  generalize hnl' : ns.length = l at *
  generalize hrl : rs.length = n at *
  generalize hbl' : bs.length = m at *
  have HNL := hide hnl'
  have HRL := hide hrl
  have HBL := hide hbl'
  clear hnl' hrl hbl'
  have tl : decide ((l : Int) > 500) = false := decide_eq_false (by omega)
  have tl2 : decide ((500 : Int) < (l : Int)) = false := decide_eq_false (by omega)
  have tn : decide ((n : Int) > 2000) = false := decide_eq_false (by omega)
  have tn2 : decide ((2000 : Int) < (n : Int)) = false := decide_eq_false (by omega)
  go_enter Tryz.func16, Tryz.ntmps16
  go_wp2_with fail
  rw [← hwa]
  have HWA := hide hwa
  clear hwa
  generalize w.heap.size = gb at *
  have hbw := Nx.refl wa
  go_wp2_with fail
  go_loopw [15] (fun i wr => ∃ k : Nat, k ≤ l ∧ i = .int .i64 k ∧ Nx wa wr ∧ chk nodeF none ns = chk nodeF (prevOf ns k) (ns.drop k)) (fun i _ => l - (intOf i).toNat)
  case atStart => exact ⟨0, Nat.zero_le _, rfl, hbw, rfl⟩
  case round =>
    clear hbw
    obtain ⟨k, hk, rfl, hbw, hq⟩ := hrel
    have HQ := hide hq
    clear hq
    by_cases hlt : k < l
    · have hlt' : k < ns.length := by have := HNL.out; omega
      have HD := hide (chk_drop nodeF ns k hlt')
      have HV := hide (nodeF_at ns k hlt')
      have HB0 := hide (nx_cell hbw hgw b0)
      obtain ⟨b, off, rfl, _, hb, hbr, hc⟩ := HRN.out.open_ hbw (by have := HNL.out; omega)
      have c0 : wr.cell? ⟨b, off + k * 3, none⟩ = some (.string ns[k].key) := hc k hlt' 0 _ rfl
      have c1 : wr.cell? ⟨b, off + k * 3 + 1, none⟩ = some (.int .i64 ns[k].x) := hc k hlt' 1 _ rfl
      have c2 : wr.cell? ⟨b, off + k * 3 + 2, none⟩ = some (.int .i64 ns[k].y) := hc k hlt' 2 _ rfl
      have HPC := hide (fun h0 : 0 < k => (show wr.cell? ⟨b, off + (k - 1) * 3, none⟩ = some (.string (ns[k - 1]'(by omega)).key) from hc (k - 1) (by omega) 0 _ rfl))
      have HPV := hide (fun h0 : 0 < k => (show nodeBad ns k = strLe ns[k].key (ns[k - 1]'(by omega)).key by
        unfold nodeBad
        rw [prevOf_pos _ k h0 (by omega), List.getD_eq_getElem?_getD, List.getElem?_eq_getElem hlt']; rfl))
      have HP0 := hide (fun h0 : k = 0 => (show nodeBad ns k = false by subst h0; rfl))
      clear hc
      have hSx := HSN.out ns[k] (List.getElem_mem hlt')
      generalize ns[k] = x at *
      generalize nodeBad ns k = bad at *
      go_wp2_with fail
      obtain ⟨wk, hwk⟩ : ∃ wk, wk = wr.alloc (.cells #[.string x.key, .int .i64 x.x, .int .i64 x.y] 39) := ⟨_, rfl⟩
      have hnk0 : Nx wr wk := hwk ▸ (Nx.refl wr).alloc _
      have hsk0 : wr.heap.size < wk.heap.size := by rw [hwk]; simp
      have d0 : wk.cell? ⟨wr.heap.size, 0, none⟩ = some (.string x.key) := by rw [hwk]; go_simp
      have d1 : wk.cell? ⟨wr.heap.size, 1, none⟩ = some (.int .i64 x.x) := by rw [hwk]; go_simp
      have d2 : wk.cell? ⟨wr.heap.size, 2, none⟩ = some (.int .i64 x.y) := by rw [hwk]; go_simp
      rw [← hwk]
      have HWK := hide hwk
      clear hwk c0 c1 c2
      refine (w_KeyR _ _ hSx).mono ?_
      rintro e wj ⟨rfl, hnj⟩
      replace d0 := nx_cell hnj hsk0 d0
      replace d1 := nx_cell hnj hsk0 d1
      replace d2 := nx_cell hnj hsk0 d2
      have hsk := Nat.lt_of_lt_of_le hsk0 hnj.sz
      have hnk := hnk0.trans hnj
      have hnx := hbw.trans hnk
      clear hnk0 hsk0
      cases hkb : keyB x.key
      · rw [hkb] at HV
        go_wp2_with fail
        go_ret
        exact ⟨ret_int (by rw [HRF.out, HNF.out, HQ.out, HD.out, HV.out]; rfl), hna.trans hnx⟩
      rw [hkb, if_pos rfl] at HV
      go_upto_region 8 with fail
      go_cut [25] (fun v wx => v = .bool bad ∧ Nx wj wx)
      case first =>
        clear d1 d2
        by_cases hk0 : 0 < k
        · have hp := nx_cell hnk hbr (HPC.out hk0)
          have B0 := nx_cell hnk (Nat.lt_of_lt_of_le hgw hbw.sz) HB0.out
          have hpv := HPV.out hk0
          have hkz : k - 1 < ns.length := by have := HNL.out; omega
          generalize (ns[k - 1]'(by omega)).key = p0 at *
          have k1 : IntKind.i64.wrap ((k : Int) - 1) = (k : Int) - 1 := IntWalk.i64_in _ (by omega)
          have k2 : (1 : Int) ≤ (k : Int) := by omega
          have k3 : ((k : Int) - 1).toNat = k - 1 := by omega
          have k4 : (k : Int) - 1 < (l : Int) := by omega
          have kp : decide ((k : Int) > 0) = true := decide_eq_true (by omega)
          have kp2 : decide ((0 : Int) < (k : Int)) = true := decide_eq_true (by omega)
          have t1 : (Op.bytesLess x.key.toList p0.toList || x.key.toList == p0.toList) = bad := hpv.symm
          clear hpv
          go_quiet (fail)
          go_wp2
          go_meet
          exact ⟨rfl, (Nx.refl _).drewN _⟩
        · have kp : decide ((k : Int) > 0) = false := decide_eq_false (by omega)
          have kp2 : decide ((0 : Int) < (k : Int)) = false := decide_eq_false (by omega)
          have hb0 := HP0.out (by omega)
          go_quiet (fail)
          go_wp2
          go_meet
          exact ⟨by rw [hb0], (Nx.refl _).drewN _⟩
      case rest =>
        obtain ⟨rfl, hx1⟩ := hcut
        cases hbd : bad
        · rw [hbd, if_neg (by simp)] at HV
          have e1 := nx_cell hx1 hsk d1
          have e2 := nx_cell hx1 hsk d2
          have hnx1 := hnx.trans hx1
          clear d0 d1 d2 HB0
          cases ho1 : outB x.x (-10000) 10000
          · have f1 : inB x.x (-10000) 10000 = true := by rw [inB_out, ho1]; rfl
            cases ho2 : outB x.y (-10000) 10000
            · have f2 : inB x.y (-10000) 10000 = true := by rw [inB_out, ho2]; rfl
              have HP := hide (show ptF x.x x.y = 0 by unfold ptF isPtB; rw [ho1, ho2]; rfl)
              go_wp2_with (go_at_call 72; refine (w_in _ _ _ _).mono ?_; rintro e w' ⟨rfl, rfl⟩)
              go_roundw
              case rel => exact ⟨k + 1, by omega, by go_num, hnx1, by rw [HQ.out, HD.out, HV.out, HP.out, if_pos rfl]⟩
              case measure => simp [intOf]; omega
            · have f2 : inB x.y (-10000) 10000 = false := by rw [inB_out, ho2]; rfl
              have HP := hide (show ptF x.x x.y = 1 by unfold ptF isPtB; rw [ho1, ho2]; rfl)
              go_wp2_with (go_at_call 72; refine (w_in _ _ _ _).mono ?_; rintro e w' ⟨rfl, rfl⟩)
              go_ret
              exact ⟨ret_int (by rw [HRF.out, HNF.out, HQ.out, HD.out, HV.out, HP.out]; rfl), hna.trans hnx1⟩
          · have f1 : inB x.x (-10000) 10000 = false := by rw [inB_out, ho1]; rfl
            have HP := hide (show ptF x.x x.y = 1 by unfold ptF isPtB; rw [ho1]; rfl)
            go_wp2_with (go_at_call 72; refine (w_in _ _ _ _).mono ?_; rintro e w' ⟨rfl, rfl⟩)
            go_ret
            exact ⟨ret_int (by rw [HRF.out, HNF.out, HQ.out, HD.out, HV.out, HP.out]; rfl), hna.trans hnx1⟩
        · rw [hbd, if_pos rfl] at HV
          go_wp2_with fail
          go_ret
          exact ⟨ret_int (by rw [HRF.out, HNF.out, HQ.out, HD.out, HV.out]; rfl), hna.trans (hnx.trans hx1)⟩
    · have H0 : nodesF ns = 0 := by rw [HNF.out, HQ.out, List.drop_of_length_le (by have := HNL.out; omega)]; rfl
      have HRF := hide (HRF.out.trans (if_pos H0))
      obtain rfl : l = k := by omega
      clear H0 HQ HNF HSN hlt hk
      have B1 := nx_cell hbw hgw b1
      go_wp2_with fail
      clear B1
      go_loopw [59] (fun i wr => ∃ k : Nat, k ≤ n ∧ i = .int .i64 k ∧ Nx wa wr ∧ chk (arcF ns) none rs = chk (arcF ns) (prevOf rs k) (rs.drop k)) (fun i _ => n - (intOf i).toNat)
      case atStart => exact ⟨0, Nat.zero_le _, rfl, hbw, rfl⟩
      case round =>
        clear hbw
        obtain ⟨k, hk, rfl, hbw, hq⟩ := hrel
        have HQ := hide hq
        clear hq
        by_cases hlt : k < n
        · have hlt' : k < rs.length := by have := HRL.out; omega
          have HD := hide (chk_drop (arcF ns) rs k hlt')
          have HV := hide (arcF_at ns rs k hlt')
          have HB1 := hide (nx_cell hbw hgw b1)
          obtain ⟨b, off, rfl, _, hb, hbr, hc⟩ := HRA.out.open_ hbw (by have := HRL.out; omega)
          have c0 : wr.cell? ⟨b, off + k * 5, none⟩ = some (.string rs[k].key) := hc k hlt' 0 _ rfl
          have c1 : wr.cell? ⟨b, off + k * 5 + 1, none⟩ = some (.string rs[k].from_) := hc k hlt' 1 _ rfl
          have c2 : wr.cell? ⟨b, off + k * 5 + 2, none⟩ = some (.string rs[k].to_) := hc k hlt' 2 _ rfl
          have c3 : wr.cell? ⟨b, off + k * 5 + 3, none⟩ = some (.int .i64 rs[k].long) := hc k hlt' 3 _ rfl
          have c4 : wr.cell? ⟨b, off + k * 5 + 4, none⟩ = some (.slice rs[k].ka rs[k].knots.length rs[k].kc) := hc k hlt' 4 _ rfl
          have HPC := hide (fun h0 : 0 < k => (show wr.cell? ⟨b, off + (k - 1) * 5, none⟩ = some (.string (rs[k - 1]'(by omega)).key) from hc (k - 1) (by omega) 0 _ rfl))
          have HPV := hide (fun h0 : 0 < k => (show arcBad rs k = strLe rs[k].key (rs[k - 1]'(by omega)).key by
            unfold arcBad
            rw [prevOf_pos _ k h0 (by omega), List.getD_eq_getElem?_getD, List.getElem?_eq_getElem hlt']; rfl))
          have HP0 := hide (fun h0 : k = 0 => (show arcBad rs k = false by subst h0; rfl))
          clear hc
          obtain ⟨hKx, hLx, hSx⟩ := HKN.out rs[k] (List.getElem_mem hlt')
          have HKF := hide (fun W (hx : Nx wa W) => w_knotsFaultQ lo' rs[k].ka rs[k].kc rs[k].knots W (hKx.nx hx) (by omega))
          clear hKx
          generalize rs[k] = x at *
          generalize hkl : x.knots.length = r at *
          generalize arcBad rs k = bad at *
          have HKL := hide hkl
          clear hkl
          go_wp2_with fail
          obtain ⟨wk, hwk⟩ : ∃ wk, wk = wr.alloc (.cells #[.string x.key, .string x.from_, .string x.to_, .int .i64 x.long, .slice x.ka r x.kc] 83) := ⟨_, rfl⟩
          have hnk0 : Nx wr wk := hwk ▸ (Nx.refl wr).alloc _
          have hsk0 : wr.heap.size < wk.heap.size := by rw [hwk]; simp
          have d0 : wk.cell? ⟨wr.heap.size, 0, none⟩ = some (.string x.key) := by rw [hwk]; go_simp
          have d1 : wk.cell? ⟨wr.heap.size, 1, none⟩ = some (.string x.from_) := by rw [hwk]; go_simp
          have d2 : wk.cell? ⟨wr.heap.size, 2, none⟩ = some (.string x.to_) := by rw [hwk]; go_simp
          have d3 : wk.cell? ⟨wr.heap.size, 3, none⟩ = some (.int .i64 x.long) := by rw [hwk]; go_simp
          have d4 : wk.cell? ⟨wr.heap.size, 4, none⟩ = some (.slice x.ka r x.kc) := by rw [hwk]; go_simp
          rw [← hwk]
          have HWK := hide hwk
          clear hwk c0 c1 c2 c3 c4
          refine (w_KeyR _ _ hSx).mono ?_
          rintro e wj ⟨rfl, hnj⟩
          replace d0 := nx_cell hnj hsk0 d0
          replace d1 := nx_cell hnj hsk0 d1
          replace d2 := nx_cell hnj hsk0 d2
          replace d3 := nx_cell hnj hsk0 d3
          replace d4 := nx_cell hnj hsk0 d4
          have hsk := Nat.lt_of_lt_of_le hsk0 hnj.sz
          have hnk := hnk0.trans hnj
          have hnx := hbw.trans hnk
          clear hnk0 hsk0
          cases hkb : keyB x.key
          · rw [hkb] at HV
            go_wp2_with fail
            go_ret
            exact ⟨ret_int (by rw [HRF.out, HQ.out, HD.out, HV.out]; rfl), hna.trans hnx⟩
          rw [hkb, if_pos rfl] at HV
          go_upto_region 20 with fail
          go_cut [69] (fun v wx => v = .bool bad ∧ Nx wj wx)
          case first =>
            clear d1 d2 d3 d4
            by_cases hk0 : 0 < k
            · have hp := nx_cell hnk hbr (HPC.out hk0)
              have B1 := nx_cell hnk (Nat.lt_of_lt_of_le hgw hbw.sz) HB1.out
              have hpv := HPV.out hk0
              have hkz : k - 1 < rs.length := by have := HRL.out; omega
              generalize (rs[k - 1]'(by omega)).key = p0 at *
              have k1 : IntKind.i64.wrap ((k : Int) - 1) = (k : Int) - 1 := IntWalk.i64_in _ (by omega)
              have k2 : (1 : Int) ≤ (k : Int) := by omega
              have k3 : ((k : Int) - 1).toNat = k - 1 := by omega
              have k4 : (k : Int) - 1 < (n : Int) := by omega
              have kp : decide ((k : Int) > 0) = true := decide_eq_true (by omega)
              have kp2 : decide ((0 : Int) < (k : Int)) = true := decide_eq_true (by omega)
              have t1 : (Op.bytesLess x.key.toList p0.toList || x.key.toList == p0.toList) = bad := hpv.symm
              clear hpv
              go_quiet (fail)
              go_wp2
              go_meet
              exact ⟨rfl, (Nx.refl _).drewN _⟩
            · have kp : decide ((k : Int) > 0) = false := decide_eq_false (by omega)
              have kp2 : decide ((0 : Int) < (k : Int)) = false := decide_eq_false (by omega)
              have hb0 := HP0.out (by omega)
              go_quiet (fail)
              go_wp2
              go_meet
              exact ⟨by rw [hb0], (Nx.refl _).drewN _⟩
          case rest =>
            obtain ⟨rfl, hx1⟩ := hcut
            cases hbd : bad
            · rw [hbd, if_neg (by simp)] at HV
              have e1 := nx_cell hx1 hsk d1
              have e2 := nx_cell hx1 hsk d2
              have e3 := nx_cell hx1 hsk d3
              have e4 := nx_cell hx1 hsk d4
              have hs1 := Nat.lt_of_lt_of_le hsk hx1.sz
              have hnx1 := hnx.trans hx1
              have bb0 := nx_cell hnx1 hgw b0
              have bb1 := nx_cell hnx1 hgw b1
              have bb2 := nx_cell hnx1 hgw b2
              clear d0 d1 d2 d3 d4 HB1
              by_cases hf : nodeI ns x.from_ < 0
              · have tf : decide (nodeI ns x.from_ < 0) = true := decide_eq_true hf
                have HG := hide (arcG_none (ns := ns) (a := x) (.inl hf))
                clear hf
                go_wp2_with fail
                refine (HND.out x.from_ _ hnx1).mono ?_
                rintro e w2 ⟨rfl, hn2⟩
                go_wp2_with fail
                go_ret
                exact ⟨ret_int (by rw [HRF.out, HQ.out, HD.out, HV.out, HG.out]; rfl), hna.trans (hnx1.trans hn2)⟩
              have tf : decide (nodeI ns x.from_ < 0) = false := decide_eq_false hf
              have HF := hide (Int.not_lt.1 hf)
              clear hf
              go_wp2_with fail
              refine (HND.out x.from_ _ hnx1).mono ?_
              rintro e w2 ⟨rfl, hn2⟩
              have f1 := nx_cell hn2 hs1 e1
              have f2 := nx_cell hn2 hs1 e2
              have f3 := nx_cell hn2 hs1 e3
              have f4 := nx_cell hn2 hs1 e4
              have hs2 := Nat.lt_of_lt_of_le hs1 hn2.sz
              have hnx2 := hnx1.trans hn2
              clear e1 e2 e3 e4 bb0 bb1 bb2
              have bb0 := nx_cell hnx2 hgw b0
              have bb1 := nx_cell hnx2 hgw b1
              have bb2 := nx_cell hnx2 hgw b2
              by_cases ht : nodeI ns x.to_ < 0
              · have tt : decide (nodeI ns x.to_ < 0) = true := decide_eq_true ht
                have HG := hide (arcG_none (ns := ns) (a := x) (.inr ht))
                clear ht
                go_wp2_with fail
                refine (HND.out x.to_ _ hnx2).mono ?_
                rintro e w3 ⟨rfl, hn3⟩
                go_wp2_with fail
                go_ret
                exact ⟨ret_int (by rw [HRF.out, HQ.out, HD.out, HV.out, HG.out]; rfl), hna.trans (hnx2.trans hn3)⟩
              have tt : decide (nodeI ns x.to_ < 0) = false := decide_eq_false ht
              have HT := hide (Int.not_lt.1 ht)
              clear ht
              go_wp2_with fail
              refine (HND.out x.to_ _ hnx2).mono ?_
              rintro e w3 ⟨rfl, hn3⟩
              have g1 := nx_cell hn3 hs2 f1
              have g2 := nx_cell hn3 hs2 f2
              have g3 := nx_cell hn3 hs2 f3
              have g4 := nx_cell hn3 hs2 f4
              have hs3 := Nat.lt_of_lt_of_le hs2 hn3.sz
              have hnx3 := hnx2.trans hn3
              clear f1 f2 f3 f4 bb0 bb1 bb2
              by_cases heq : x.from_ = x.to_
              · have te : (x.from_.toList == x.to_.toList) = true := by rw [eqS_iff]; exact decide_eq_true heq
                have HG := hide (arcG_twice (ns := ns) (a := x) HF.out HT.out heq)
                clear heq
                go_wp2_with fail
                go_ret
                exact ⟨ret_int (by rw [HRF.out, HQ.out, HD.out, HV.out, HG.out]; rfl), hna.trans hnx3⟩
              have te : (x.from_.toList == x.to_.toList) = false := by rw [eqS_iff]; exact decide_eq_false heq
              cases hlo : outB x.long 1 1000000
              · have fl : inB x.long 1 1000000 = true := by rw [inB_out, hlo]; rfl
                have HG := hide (arcG_knots (ns := ns) (a := x) HF.out HT.out heq hlo)
                clear heq
                by_cases hz : knotsF x.knots = 0
                · rw [hz] at HG
                  have HKF := hide (fun W hx => HKF.out W hx)
                  rw [hz] at HKF
                  clear hz
                  go_wp2_with (go_at_call 72; refine (w_in _ _ _ _).mono ?_; rintro e w' ⟨rfl, rfl⟩)
                  refine (HKF.out _ hnx3).mono ?_
                  rintro e w4 ⟨rfl, hn4⟩
                  go_wp2_with fail
                  go_roundw
                  case rel => exact ⟨k + 1, by omega, by go_num, hnx3.trans hn4, by rw [HQ.out, HD.out, HV.out, HG.out, if_pos rfl]⟩
                  case measure => simp [intOf]; omega
                · have tz : (knotsF x.knots != 0) = true := by simpa using hz
                  have HZ := hide hz
                  clear hz
                  go_wp2_with (go_at_call 72; refine (w_in _ _ _ _).mono ?_; rintro e w' ⟨rfl, rfl⟩)
                  refine (HKF.out _ hnx3).mono ?_
                  rintro e w4 ⟨rfl, hn4⟩
                  go_wp2_with fail
                  go_ret
                  exact ⟨ret_int (by rw [HRF.out, HQ.out, HD.out, HV.out, HG.out, if_neg HZ.out, if_neg HZ.out]), hna.trans (hnx3.trans hn4)⟩
              · have fl : inB x.long 1 1000000 = false := by rw [inB_out, hlo]; rfl
                have HG := hide (arcG_long (ns := ns) (a := x) HF.out HT.out heq hlo)
                clear heq
                go_wp2_with (go_at_call 72; refine (w_in _ _ _ _).mono ?_; rintro e w' ⟨rfl, rfl⟩)
                go_ret
                exact ⟨ret_int (by rw [HRF.out, HQ.out, HD.out, HV.out, HG.out]; rfl), hna.trans hnx3⟩
            · rw [hbd, if_pos rfl] at HV
              go_wp2_with fail
              go_ret
              exact ⟨ret_int (by rw [HRF.out, HQ.out, HD.out, HV.out]; rfl), hna.trans (hnx.trans hx1)⟩
        · have H0 : chk (arcF ns) none rs = 0 := by rw [HQ.out, List.drop_of_length_le (by have := HRL.out; omega)]; rfl
          have HRF := hide (HRF.out.trans (if_pos H0))
          have bb0 := nx_cell hbw hgw b0
          have bb1 := nx_cell hbw hgw b1
          have bb2 := nx_cell hbw hgw b2
          clear H0 HQ
          go_wp2_with fail
          refine (HBF.out _ hbw).mono ?_
          rintro e w2 ⟨rfl, hn2⟩
          go_wp2_with fail
          go_ret
          exact ⟨ret_int HRF.out.symm, hna.trans (hbw.trans hn2)⟩
end Go.Proofs.YtklgknepamebdaaGreatDoor
/- A node's key: the stream's; the reference's fault. -/
namespace Go.Proofs.YtklgknepamebdaaGreatDoor
open Go.RowKit

/-- A small string. -/
def StrSm (s k : Nat) (w : World) (e : Ending) (w' : World) : Prop := ∃ t : ByteArray, e = .returned (.string t) ∧ t.size ≤ 1000000 ∧ Gr s w w' ∧ Str w' s k
set_option maxRecDepth 100000 in
set_option maxHeartbeats 2000000 in
theorem w_NodeKey (s k lo : Nat) (A B C : Option Addr) (n1 n2 ca cb cc : Nat) (ns : List Node) (w : World) (hS : Str w s k) (hk : k < 700000) (hR : Rd w lo A 3 encNode ns) (hSm : SmallN ns) (h0 : 0 < ns.length) (hl : ns.length ≤ 400) (hlo : s < lo) :
    Calls Tryz.prog 27 #[.pointer (some ⟨s, 0, none⟩), .agg #[.slice A ns.length ca, .slice B n1 cb, .slice C n2 cc]] w (StrSm s (k + 2) w) := by
  have hsl := hS.lt
  obtain ⟨wa, hwa⟩ : ∃ wa, wa = w.alloc (.cells #[.slice A ns.length ca, .slice B n1 cb, .slice C n2 cc] 30) := ⟨_, rfl⟩
  have hna : Nx w wa := hwa ▸ (Nx.refl w).alloc _
  have hgw : w.heap.size < wa.heap.size := by rw [hwa]; simp
  have b0 : wa.cell? ⟨w.heap.size, 0, none⟩ = some (.slice A ns.length ca) := by rw [hwa]; go_simp
  have hSa := hS.nx hna
  have HR := hide (hR.nx hna)
  have HSM := hide hSm
  clear hR hS hSm
  generalize hn : ns.length = n at *
  have HN := hide hn
  clear hn
  have t0 : ((n : Int) == 0) = false := by rw [beq_eq_false_iff_ne]; omega
  go_enter Tryz.func27, Tryz.ntmps27
  go_wp2_with fail
  rw [← hwa]
  have HWA := hide hwa
  clear hwa
  have hgs : w.heap.size ≠ s := by omega
  generalize w.heap.size = g at *
  refine (w_Flip 25 _ _ _ hSa (by omega) (by omega)).mono ?_
  rintro e w1 ⟨fl, rfl, hg1, hS1⟩
  have hs1 := hS1.lt
  cases fl
  · have b1 : w1.cell? ⟨g, 0, none⟩ = some (.slice A n ca) := World.grownBy.cell hg1 b0 (by simp; omega)
    obtain ⟨b, off, rfl, hlo', hb, _, hc⟩ := HR.out.open_ (Nx.refl wa) (by have := HN.out; omega)
    have HC := hide hc
    clear hc b0
    go_upto_region 3 with fail
    have k1 : (1 : Int) ≤ (n : Int) := by omega
    go_cut [4] (fun v wx => ∃ t : ByteArray, v = .string t ∧ t.size ≤ 1000000 ∧ Gr s w1 wx ∧ Str wx s (k + 2))
    case first =>
      go_region_law
        (first | (go_simp; go_at_call 54; refine (w_Next (n : Int) _ _ _ (hS1.nx (Nx.refl w1).drew) (by omega) (by omega)).mono ?_; rintro e w4 ⟨q, hq1, hq2, rfl, hg4, hS4⟩; (obtain ⟨q, rfl⟩ := Int.eq_ofNat_of_zero_le hq1); (have hgr := hg1.trans ((Gr.refl s w1).drew.trans hg4)); (have b4 : w4.cell? ⟨g, 0, none⟩ = some (.slice (some ⟨b, off, none⟩) n ca) := World.grownBy.cell (row := some s) ((Gr.refl s w1).drew.trans hg4) b1 (by simp; omega)); (have hq3 : (q : Int) < (n : Int) := by omega); (have hqn : q < ns.length := by have := HN.out; omega); (have d4 : w4.cell? ⟨b, off + q * 3, none⟩ = some (.string ns[q].key) := World.grownBy.cell (row := some s) hgr (HC.out q hqn 0 _ rfl) (by simp; omega))))
      all_goals
        go_wp2
        go_meet
        exact ⟨_, rfl, HSM.out _ (List.getElem_mem hqn), (Gr.refl s w1).drew.trans hg4, hS4⟩
    case rest =>
      obtain ⟨t, rfl, ht, hg2, hS2⟩ := hcut
      go_wp2_with fail
      go_ret
      exact ⟨t, rfl, ht, (Gr.of_nx hna).trans (hg1.trans hg2), hS2⟩
  · go_wp2_with fail
    refine (w_Some _ [⟨#[]⟩, ⟨#[122, 122]⟩, ⟨#[65]⟩] _ _ _ _ (hS1.nx ((Nx.refl _).alloc _)) (by omega) (hnew rfl) (by omega) rfl (by simp) (by simp)).mono ?_
    rintro e w2 ⟨r, hr, rfl, hg2, hS2⟩
    go_wp2_with fail
    go_ret
    refine ⟨r, rfl, ?_, (Gr.of_nx hna).trans (hg1.trans (((Gr.refl s w1).alloc _).trans hg2)), hS2⟩
    simp at hr
    rcases hr with h | h | h <;> rw [h] <;> decide
def noneF (ns : List Node) (s : ByteArray) : Int := if nodeI ns s < 0 then 8 else 0
set_option maxHeartbeats 1000000 in
theorem w_NodeFault (lo : Nat) (A B C : Option Addr) (n1 n2 c1 c2 c3 : Nat) (l : List Node) (s : ByteArray) (w : World) (hR : Rd w lo A 3 encNode l) (hl : l.length ≤ 65536) :
    Calls Tryz.prog 30 #[.agg #[.slice A l.length c1, .slice B n1 c2, .slice C n2 c3], .string s] w fun e w' => e = .returned (.int .i64 (noneF l s)) ∧ Nx w w' := by
  have HN := hide (fun W hx => w_NodeAt lo A B C n1 n2 c1 c2 c3 l s W hx hl)
  unfold noneF
  by_cases h : nodeI l s < 0
  · rw [if_pos h]
    have tf : decide (nodeI l s < 0) = true := decide_eq_true h
    clear h
    go_enter Tryz.func30, Tryz.ntmps30
    go_wp2_with (go_at_call 73; refine (HN.out _ (hR.nx ((Nx.refl w).alloc _))).mono ?_; rintro e w2 ⟨rfl, hn2⟩)
    go_ret
    exact ⟨rfl, ((Nx.refl w).alloc _).trans hn2⟩
  · rw [if_neg h]
    have tf : decide (nodeI l s < 0) = false := decide_eq_false h
    clear h
    go_enter Tryz.func30, Tryz.ntmps30
    go_wp2_with (go_at_call 73; refine (HN.out _ (hR.nx ((Nx.refl w).alloc _))).mono ?_; rintro e w2 ⟨rfl, hn2⟩)
    go_ret
    exact ⟨rfl, ((Nx.refl w).alloc _).trans hn2⟩
theorem w_when (b : Bool) (z : Int) (w : World) : Calls Tryz.prog 21 #[.bool b, .int .i64 z] w fun e w' => e = .returned (.int .i64 (if b then z else 0)) ∧ w = w' := by
  cases b
  all_goals
    go_enter Tryz.func21, Tryz.ntmps21
    go_wp2
    go_ret
    exact ⟨rfl, rfl⟩
end Go.Proofs.YtklgknepamebdaaGreatDoor
/- cmp.Compare of numbers. -/
namespace Go.Proofs.YtklgknepamebdaaGreatDoor
open Go.RowKit

theorem w_isNaN (a : Int) (w : World) : Calls Tryz.prog 218 #[.int .i64 a] w fun e w' => e = .returned (.bool false) ∧ w = w' := by
  go_enter Tryz.func218, Tryz.ntmps218
  go_wp2
  go_ret
  exact ⟨rfl, rfl⟩

theorem w_Compare (a b : Int) (w : World) : Calls Tryz.prog 190 #[.int .i64 a, .int .i64 b] w fun e w' => e = .returned (.int .i64 (cmpI a b)) ∧ w = w' := by
  by_cases h1 : a < b
  · go_enter Tryz.func190, Tryz.ntmps190
    go_wp2_with (go_at_call 218; refine (w_isNaN _ _).mono ?_; rintro e w' ⟨rfl, rfl⟩)
    go_ret
    exact ⟨ret_int (by unfold cmpI; simp [h1]), rfl⟩
  · by_cases h2 : b < a
    · go_enter Tryz.func190, Tryz.ntmps190
      go_wp2_with (go_at_call 218; refine (w_isNaN _ _).mono ?_; rintro e w' ⟨rfl, rfl⟩)
      go_ret
      exact ⟨ret_int (by unfold cmpI; simp [h1, h2]), rfl⟩
    · go_enter Tryz.func190, Tryz.ntmps190
      go_wp2_with (go_at_call 218; refine (w_isNaN _ _).mono ?_; rintro e w' ⟨rfl, rfl⟩)
      go_ret
      exact ⟨ret_int (by unfold cmpI; rw [if_neg (by omega), if_neg (by omega)]), rfl⟩

end Go.Proofs.YtklgknepamebdaaGreatDoor
/- The knot at a moment: the program's search. -/
namespace Go.Proofs.YtklgknepamebdaaGreatDoor
open Go.RowKit

theorem w_time1 (x : Knot) (t : Int) (w : World) : Calls Tryz.prog 189 #[.agg #[.int .i64 x.at_, .int .i64 x.time], .int .i64 t] w fun e w' => e = .returned (.int .i64 (cmpI x.at_ t)) ∧ Nx w w' := by
  go_enter Tryz.func189, Tryz.ntmps189
  go_wp2_with (go_at_call 190; refine (w_Compare _ _ _).mono ?_; rintro e w' ⟨rfl, rfl⟩)
  go_ret
  exact ⟨rfl, (Nx.refl _).alloc _⟩

set_option maxRecDepth 100000 in
set_option maxHeartbeats 2000000 in
theorem w_BsfKnot (g : Nat) (f : Knot → Int) (x : Int) (eg : Enters g) (hcl : ∀ (y : Knot) W, Calls Tryz.prog g #[.agg #[.int .i64 y.at_, .int .i64 y.time], .int .i64 x] W fun e w' => e = .returned (.int .i64 (f y)) ∧ Nx W w')
    (lo : Nat) (A : Option Addr) (c : Nat) (l : List Knot) (w : World) (hR : Rd w lo A 2 encKnot l) (hl : l.length ≤ 65536)
    (hm : ∀ i j, i ≤ j → j < l.length → f (l.getD j default) < 0 → f (l.getD i default) < 0) :
    Calls Tryz.prog 188 #[.slice A l.length c, .int .i64 x, .func (.func g) #[] #[]] w fun e w' => ∃ (r : Nat) (is : Bool), e = .returned (.tuple #[.int .i64 (r : Int), .bool is]) ∧ Found (fun i => f (l.getD i default)) l.length r is ∧ Nx w w' := by
  generalize hn : l.length = n at *
  have HR := hide hR
  have HN := hide hn
  have HC0 := hide hcl
  have HM := hide hm
  clear hR hn hcl hm
  unfold Enters at eg
  have HG := hide (fun i (hi : i < l.length) => (show l.getD i default = l[i] by rw [List.getD_eq_getElem?_getD, List.getElem?_eq_getElem hi]; rfl))
  go_enter Tryz.func188, Tryz.ntmps188
  go_wp2
  go_loopw [9, 10, 11] (fun vi vj _ wr => ∃ i j : Nat, i ≤ j ∧ j ≤ n ∧ vi = .int .i64 i ∧ vj = .int .i64 j ∧ Nx w wr ∧ (∀ m, m < i → f (l.getD m default) < 0) ∧ (∀ m, j ≤ m → m < n → 0 ≤ f (l.getD m default))) (fun vi vj _ _ => (intOf vj).toNat - (intOf vi).toNat)
  case atStart => exact ⟨0, n, Nat.zero_le _, Nat.le_refl _, rfl, rfl, Nx.refl _, fun m hm => by omega, fun m h1 h2 => by omega⟩
  case round =>
    obtain ⟨i, j, hij, hj, rfl, rfl, hbw, hlo, hhi⟩ := hrel
    have HLO := hide hlo
    have HHI := hide hhi
    clear hlo hhi
    by_cases hlt : i < j
    · obtain ⟨h, hh⟩ : ∃ h, h = (i + j) / 2 := ⟨_, rfl⟩
      have qh : ((i : Int) + (j : Int)) / 2 = (h : Int) := by omega
      have hih : i ≤ h := by omega
      have hhj : h < j := by omega
      have hh' : h < l.length := by have := HN.out; omega
      clear hh
      obtain ⟨b, off, rfl, _, hb, hbr, hc⟩ := HR.out.open_ hbw (by omega)
      have c0 : wr.cell? ⟨b, off + h * 2, none⟩ = some (.int .i64 l[h].at_) := hc h hh' 0 _ rfl
      have c1 : wr.cell? ⟨b, off + h * 2 + 1, none⟩ = some (.int .i64 l[h].time) := hc h hh' 1 _ rfl
      clear hc
      have HE := hide (HG.out h hh')
      have HCY := hide (HC0.out l[h])
      by_cases hneg : f l[h] < 0
      · have t1 : decide (f l[h] < 0) = true := by simpa using hneg
        have HNG := hide hneg
        clear hneg
        generalize l[h] = y at *
        go_wp2_with (go_at_fn g; refine (HCY.out _).mono ?_; rintro e w2 ⟨rfl, hn2⟩)
        go_roundw
        case rel => exact ⟨h + 1, j, by omega, by omega, by go_num, rfl, hbw.trans hn2, fun m hm => HM.out m h (by omega) (by omega) (by rw [HE.out]; exact HNG.out), HHI.out⟩
        case measure => simp [intOf]; omega
      · have t1 : decide (f l[h] < 0) = false := by simpa using hneg
        have HNG := hide hneg
        clear hneg
        generalize l[h] = y at *
        go_wp2_with (go_at_fn g; refine (HCY.out _).mono ?_; rintro e w2 ⟨rfl, hn2⟩)
        go_roundw
        case rel => exact ⟨i, h, by omega, by omega, rfl, rfl, hbw.trans hn2, HLO.out, fun m h1 h2 => by
          refine Int.not_lt.1 fun hc => ?_
          have h3 := HM.out h m h1 h2 hc
          rw [HE.out] at h3
          have := HNG.out
          omega⟩
        case measure => simp [intOf]; omega
    · have hij' : i = j := by omega
      subst hij'
      clear hlt hij
      by_cases hin : i < n
      · have hi' : i < l.length := by have := HN.out; omega
        obtain ⟨b, off, rfl, _, hb, hbr, hc⟩ := HR.out.open_ hbw (by omega)
        have c0 : wr.cell? ⟨b, off + i * 2, none⟩ = some (.int .i64 l[i].at_) := hc i hi' 0 _ rfl
        have c1 : wr.cell? ⟨b, off + i * 2 + 1, none⟩ = some (.int .i64 l[i].time) := hc i hi' 1 _ rfl
        clear hc
        have HE := hide (HG.out i hi')
        have HCY := hide (HC0.out l[i])
        generalize l[i] = y at *
        go_wp2_with (go_at_fn g; refine (HCY.out _).mono ?_; rintro e w2 ⟨rfl, hn2⟩)
        go_ret2
        exact ⟨i, _, rfl, ⟨hj, HLO.out, HHI.out, by show _ = (decide (i < n) && decide (f (l.getD i default) = 0)); rw [HE.out, decide_eq_true hin]; rfl⟩, hbw.trans hn2⟩
      · go_wp2
        go_ret2
        exact ⟨i, _, rfl, ⟨hj, HLO.out, HHI.out, by rw [decide_eq_false hin]; rfl⟩, hbw⟩

end Go.Proofs.YtklgknepamebdaaGreatDoor
