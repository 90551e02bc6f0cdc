/- Bans: the reference's check. -/
import Derived.Test.YtbjbeddjaajdaaaGreatDoorQCheckR
import Derived.Test.YtbjbeddjaajdaaaGreatDoorQG7
import Derived.Test.YtbjbeddjaajdaaaGreatDoorQKnotR
import Derived.Test.YtbjbeddjaajdaaaGreatDoorQG2
import Derived.Deep.RegionHeld3
import Derived.Deep.DeepCutAuto
import Derived.Test.YtbjbeddjaajdaaaGreatDoorQG0
import Derived.Maps.Own
import Derived.Maps.OwnOps
import Derived.Maps.OwnSet
import Derived.Maps.Views
import Derived.Maps.RangeWalk
namespace Go.Proofs.YtbjbeddjaajdaaaGreatDoor
open Go.RowKit

set_option maxRecDepth 100000 in
set_option maxHeartbeats 4000000 in
theorem w_bansFaultQ (lo' lo'' : Nat) (A B C : Option Addr) (nn ca cb cc : Nat) (rs : List Arc) (bs : List Ban) (w : World)
    (hA : RdArcs w lo' B rs) (hal : rs.length ≤ 400) (hB : Rd w lo'' C 2 encBan bs) (hbl : bs.length ≤ 400) :
    Calls Tryz.prog 61 #[.agg #[.slice A nn ca, .slice B rs.length cb, .slice C bs.length cc]] w fun e w' => e = .returned (.int .i64 (chk (banF rs) none bs)) ∧ Nx w w' := by
  obtain ⟨wa, hwa⟩ : ∃ wa, wa = w.alloc (.cells #[.slice A nn ca, .slice B rs.length cb, .slice C bs.length cc] 30) := ⟨_, rfl⟩
  have hna : Nx w wa := hwa ▸ (Nx.refl w).alloc _
  have hgw : w.heap.size < wa.heap.size := by rw [hwa]; simp
  have b0 : wa.cell? ⟨w.heap.size, 0, none⟩ = some (.slice A nn ca) := by rw [hwa]; go_simp
  have b1 : wa.cell? ⟨w.heap.size, 1, none⟩ = some (.slice B rs.length cb) := by rw [hwa]; go_simp
  have b2 : wa.cell? ⟨w.heap.size, 2, none⟩ = some (.slice C bs.length cc) := by rw [hwa]; go_simp
  have HAR := hide (fun s W (hx : Nx wa W) => w_ArcAt lo' A B C nn bs.length ca cb cc rs s W ((hA.1.nx hna).nx hx) (by omega))
  have HRA := hide (hA.nx hna).1
  have HRB := hide (hB.nx hna)
  obtain ⟨V, hV⟩ : ∃ V, V = chk (banF rs) none bs := ⟨_, rfl⟩
  have HRF := hide hV
  rw [← hV]
  clear hA hB hV
  generalize hrl : rs.length = n at *
  generalize hbl' : bs.length = m at *
  have HRL := hide hrl
  have HBL := hide hbl'
  clear hrl hbl'
  have tm : decide ((m : Int) > 1000) = false := decide_eq_false (by omega)
  have tm2 : decide ((1000 : Int) < (m : Int)) = false := decide_eq_false (by omega)
  go_enter Tryz.func61, Tryz.ntmps61
  go_wp2_with fail
  rw [← hwa]
  have HWA := hide hwa
  clear hwa
  have hbw := Nx.refl wa
  generalize w.heap.size = gb at *
  go_wp2_with fail
  go_loopw [14] (fun i wr => ∃ k : Nat, k ≤ m ∧ i = .int .i64 k ∧ Nx wa wr ∧ chk (banF rs) none bs = chk (banF rs) (prevOf bs k) (bs.drop k)) (fun i _ => m - (intOf i).toNat)
  case atStart => exact ⟨0, Nat.zero_le _, rfl, hbw, rfl⟩
  case round =>
    clear hbw
    obtain ⟨k, hk, rfl, hbw, hq⟩ := hrel
    have HQ := hide hq
    clear hq
    by_cases hlt : k < m
    · have hlt' : k < bs.length := by have := HBL.out; omega
      have HD := hide (chk_drop (banF rs) bs k hlt')
      have HV := hide (banF_at rs bs k hlt')
      have HB1 := hide (nx_cell hbw hgw b1)
      have HB2 := hide (nx_cell hbw hgw b2)
      obtain ⟨b, off, rfl, _, hb, hbr, hc⟩ := HRB.out.open_ hbw (by have := HBL.out; omega)
      have c0 : wr.cell? ⟨b, off + k * 2, none⟩ = some (.string bs[k].from_) := hc k hlt' 0 _ rfl
      have c1 : wr.cell? ⟨b, off + k * 2 + 1, none⟩ = some (.string bs[k].to_) := hc k hlt' 1 _ rfl
      have HPC := hide (fun h0 : 0 < k => And.intro (show wr.cell? ⟨b, off + (k - 1) * 2, none⟩ = some (.string (bs[k - 1]'(by omega)).from_) from hc (k - 1) (by omega) 0 _ rfl) (show wr.cell? ⟨b, off + (k - 1) * 2 + 1, none⟩ = some (.string (bs[k - 1]'(by omega)).to_) from hc (k - 1) (by omega) 1 _ rfl))
      have HPV := hide (fun h0 : 0 < k => (show banBad bs k = decide (banC bs[k] (bs[k - 1]'(by omega)) ≤ 0) by
        unfold banBad
        rw [prevOf_pos _ k h0 (by omega), List.getD_eq_getElem?_getD, List.getElem?_eq_getElem hlt']; rfl))
      have HP0 := hide (fun h0 : k = 0 => (show banBad bs k = false by subst h0; rfl))
      clear hc
      generalize bs[k] = x at *
      generalize banBad bs k = bad at *
      go_upto_region 6 with fail
      obtain ⟨wk, hwk⟩ : ∃ wk, wk = wr.alloc (.cells #[.string x.from_, .string x.to_] 98) := ⟨_, rfl⟩
      have hnk : Nx wr wk := hwk ▸ (Nx.refl wr).alloc _
      have hsk : wr.heap.size < wk.heap.size := by rw [hwk]; simp
      have d0 : wk.cell? ⟨wr.heap.size, 0, none⟩ = some (.string x.from_) := by rw [hwk]; go_simp
      have d1 : wk.cell? ⟨wr.heap.size, 1, none⟩ = some (.string x.to_) := by rw [hwk]; go_simp
      rw [← hwk]
      have HWK := hide hwk
      clear hwk c0 c1
      have hnx := hbw.trans hnk
      have hgk := Nat.lt_of_lt_of_le hgw hnx.sz
      have bb0 := nx_cell hnx hgw b0
      have bb1 := nx_cell hnx hgw b1
      have bb2 := nx_cell hnx hgw b2
      obtain ⟨bx, hbx⟩ : ∃ bx, bx = wr.heap.size := ⟨_, rfl⟩
      rw [← hbx] at hsk d0 d1 ⊢
      have HBX := hide hbx
      clear hbx
      generalize hx1 : x.from_ = x1 at *
      generalize hx2 : x.to_ = x2 at *
      have HX := hide (And.intro hx1 hx2)
      clear hx1 hx2
      go_cut [5, 6] (fun v9 v10 wx => v9 = .int .i64 (arcI rs x1) ∧ v10 = .int .i64 (arcI rs x2) ∧ Nx wk wx)
      case first =>
        go_region_held3 (fun w' => w'.cell? ⟨bx, 0, none⟩ = some (.string x1) ∧ w'.cell? ⟨bx, 1, none⟩ = some (.string x2) ∧ w'.cell? ⟨gb, 0, none⟩ = some (.slice A nn ca) ∧ w'.cell? ⟨gb, 1, none⟩ = some (.slice B n cb) ∧ w'.cell? ⟨gb, 2, none⟩ = some (.slice (some ⟨b, off, none⟩) m cc))
          (first | (go_split_ands; exact ⟨nx_cell hn3 (Nat.lt_of_lt_of_le hsk hn2.sz) ‹_›, nx_cell hn3 (Nat.lt_of_lt_of_le hsk hn2.sz) ‹_›, nx_cell hn3 (Nat.lt_of_lt_of_le hgk hn2.sz) ‹_›, nx_cell hn3 (Nat.lt_of_lt_of_le hgk hn2.sz) ‹_›, nx_cell hn3 (Nat.lt_of_lt_of_le hgk hn2.sz) ‹_›⟩) | (go_split_ands; exact ⟨nx_cell hn2 hsk ‹_›, nx_cell hn2 hsk ‹_›, nx_cell hn2 hgk ‹_›, nx_cell hn2 hgk ‹_›, nx_cell hn2 hgk ‹_›⟩) | go_keep)
          (first
            | (go_at_call 76; refine (HAR.out _ _ (hnx.drew.trans hn2)).mono ?_; rintro e w3 ⟨rfl, hn3⟩)
            | (go_at_call 76; refine (HAR.out _ _ hnx.drew).mono ?_; rintro e w2 ⟨rfl, hn2⟩))
        go_wp2
        go_meet
        exact ⟨rfl, rfl, ((Nx.refl wk).drew.trans hn2).trans hn3⟩
      case rest =>
        obtain ⟨rfl, rfl, hx1⟩ := hcut
        have hnx1 := hnx.trans hx1
        clear bb0 bb1 bb2
        have HG := hide (show banG rs x = if arcI rs x1 < 0 ∨ arcI rs x2 < 0 then 8 else if (arcAt rs x1).to_ = (arcAt rs x2).from_ then 0 else 3 by unfold banG; rw [HX.out.1, HX.out.2])
        by_cases hf : arcI rs x1 < 0
        · have tf : decide (arcI rs x1 < 0) = true := decide_eq_true hf
          have HG8 := hide (HG.out.trans (if_pos (.inl hf)))
          clear hf d0 d1
          go_wp2_with fail
          go_ret
          exact ⟨ret_int (by rw [HRF.out, HQ.out, HD.out, HV.out, HG8.out]; rfl), hna.trans hnx1⟩
        by_cases ht : arcI rs x2 < 0
        · have tf : decide (arcI rs x1 < 0) = false := decide_eq_false hf
          have tt : decide (arcI rs x2 < 0) = true := decide_eq_true ht
          have HG8 := hide (HG.out.trans (if_pos (.inr ht)))
          clear hf ht d0 d1
          go_wp2_with fail
          go_ret
          exact ⟨ret_int (by rw [HRF.out, HQ.out, HD.out, HV.out, HG8.out]; rfl), hna.trans hnx1⟩
        obtain ⟨i, hi, ei⟩ : ∃ i : Nat, i < rs.length ∧ arcI rs x1 = (i : Int) := by
          rcases findI_bd (fun n : Arc => decide (n.key = x1)) rs with h | h
          · exact absurd (show arcI rs x1 < 0 by unfold arcI; omega) hf
          · exact h
        obtain ⟨j, hj, ej⟩ : ∃ i : Nat, i < rs.length ∧ arcI rs x2 = (i : Int) := by
          rcases findI_bd (fun n : Arc => decide (n.key = x2)) rs with h | h
          · exact absurd (show arcI rs x2 < 0 by unfold arcI; omega) ht
          · exact h
        have HG2 := hide (show banG rs x = if rs[i].to_ = rs[j].from_ then 0 else 3 by
          rw [HG.out, if_neg (by omega)]
          unfold arcAt
          rw [ei, ej, List.getD_eq_getElem?_getD, List.getD_eq_getElem?_getD, List.getElem?_eq_getElem (show (i : Int).toNat < rs.length from hi), List.getElem?_eq_getElem (show (j : Int).toNat < rs.length from hj)]
          rfl)
        rw [ei, ej]
        clear hf ht HG ei ej
        have B1 := nx_cell hnx1 hgw b1
        obtain ⟨ba, offa, rfl, _, hba, hbar, hca⟩ := HRA.out.open_ hnx1 (by omega)
        have a1 : wc.cell? ⟨ba, offa + i * 5 + 2, none⟩ = some (.string rs[i].to_) := hca i hi 2 _ rfl
        have a2 : wc.cell? ⟨ba, offa + j * 5 + 1, none⟩ = some (.string rs[j].from_) := hca j hj 1 _ rfl
        have hin : i < n := by have := HRL.out; omega
        have hjn : j < n := by have := HRL.out; omega
        have D0 := hide (nx_cell hx1 hsk d0)
        have D1 := hide (nx_cell hx1 hsk d1)
        clear hca d0 d1
        generalize rs[i].to_ = r1 at *
        generalize rs[j].from_ = r2 at *
        go_upto_region 9 with fail
        have i1 : (0 : Int) ≤ (i : Int) := by omega
        have i2 : (i : Int) < (n : Int) := by omega
        have i3 : (0 : Int) ≤ (j : Int) := by omega
        have i4 : (j : Int) < (n : Int) := by omega
        by_cases heq : r1 = r2
        · have te : (r1.toList == r2.toList) = true := by rw [eqS_iff]; exact decide_eq_true heq
          have HG3 := hide (HG2.out.trans (if_pos heq))
          clear heq HG2
          rw [HG3.out, if_pos rfl] at HV
          go_quiet (fail)
          clear i1 i2 i3 i4 a1 a2 te
          go_upto_region 11 with fail
          have hnx2 : Nx wa (wc.drewN nq) := hnx1.drewN _
          have E0 : (wc.drewN nq).cell? ⟨bx, 0, none⟩ = some (.string x1) := D0.out
          have E1 : (wc.drewN nq).cell? ⟨bx, 1, none⟩ = some (.string x2) := D1.out
          have hsk2 : bx < (wc.drewN nq).heap.size := Nat.lt_of_lt_of_le hsk hx1.sz
          have HWK2 := hide (hnk.trans (hx1.drewN nq))
          generalize wc.drewN nq = wd at *
          clear B1 D0 D1
          go_cut [48] (fun v wx => v = .bool bad ∧ Nx wd wx)
          case first =>
            by_cases hk0 : 0 < k
            · have p1 := nx_cell HWK2.out hbr (HPC.out hk0).1
              have p2 := nx_cell HWK2.out hbr (HPC.out hk0).2
              have B2 := nx_cell HWK2.out (Nat.lt_of_lt_of_le hgw hbw.sz) HB2.out
              have hbw2 := Nat.lt_of_lt_of_le hbr HWK2.out.sz
              have hgw2 := Nat.lt_of_lt_of_le (Nat.lt_of_lt_of_le hgw hbw.sz) HWK2.out.sz
              have hpv := HPV.out hk0
              have hxe : x = ⟨x1, x2⟩ := by obtain ⟨h1, h2⟩ := HX.out; rw [← h1, ← h2]
              rw [hxe] at hpv
              have hkz : k - 1 < bs.length := by have := HBL.out; omega
              generalize (bs[k - 1]'(by omega)) = q at *
              obtain ⟨q1, q2⟩ := q
              have k1 : IntKind.i64.wrap ((k : Int) - 1) = (k : Int) - 1 := IntWalk.i64_in _ (by omega)
              have k2 : (1 : Int) ≤ (k : Int) := by omega
              have k3 : ((k : Int) - 1).toNat = k - 1 := by omega
              have k4 : (k : Int) - 1 < (m : Int) := by omega
              have kp : decide ((k : Int) > 0) = true := decide_eq_true (by omega)
              have kp2 : decide ((0 : Int) < (k : Int)) = true := decide_eq_true (by omega)
              have t1 : decide (0 ≤ banC ⟨q1, q2⟩ ⟨x1, x2⟩) = bad := by rw [hpv]; exact decide_eq_decide.2 (banC_anti _ _).symm
              have HOR := hide (fun g c W (hg : W.heap[g]? = some (.cells #[.int .i64 (cmpS q1 x1), .int .i64 (cmpS q2 x2)] 3 (0, 0))) => w_OrI2 _ _ g c W hg)
              rw [show (if cmpS q1 x1 = 0 then cmpS q2 x2 else cmpS q1 x1) = banC ⟨q1, q2⟩ ⟨x1, x2⟩ from rfl] at HOR
              clear hpv
              generalize banC ⟨q1, q2⟩ ⟨x1, x2⟩ = bz at *
              go_region_held3 (fun w' => w'.cell? ⟨bx, 0, none⟩ = some (.string x1) ∧ w'.cell? ⟨bx, 1, none⟩ = some (.string x2) ∧ w'.cell? ⟨b, off + (k - 1) * 2, none⟩ = some (.string q1) ∧ w'.cell? ⟨b, off + (k - 1) * 2 + 1, none⟩ = some (.string q2) ∧ w'.cell? ⟨gb, 2, none⟩ = some (.slice (some ⟨b, off, none⟩) m cc))
                (go_keep)
                (first
                  | (go_at_call 101; refine (w_CompareS _ _ _).mono ?_; rintro e w' ⟨rfl, rfl⟩)
                  | (go_at_call 119; refine (HOR.out _ _ _ (hnew_drew rfl)).mono ?_; rintro e w' ⟨rfl, rfl⟩))
              go_wp2
              go_meet
              exact ⟨rfl, ((Nx.refl wd).alloc _).drew⟩
            · have kp : decide ((k : Int) > 0) = false := decide_eq_false (by omega)
              have kp2 : decide ((0 : Int) < (k : Int)) = false := decide_eq_false (by omega)
              have hb0 := HP0.out (by omega)
              go_quiet (fail)
              go_wp2
              go_meet
              exact ⟨by rw [hb0], (Nx.refl _).drewN _⟩
          case rest =>
            obtain ⟨rfl, hx2⟩ := hcut
            cases hbd : bad
            · rw [hbd, if_neg (by simp)] at HV
              go_wp2_with fail
              go_roundw
              case rel => exact ⟨k + 1, by omega, by go_num, hnx2.trans hx2, by rw [HQ.out, HD.out, HV.out, if_pos rfl]⟩
              case measure => simp [intOf]; omega
            · rw [hbd, if_pos rfl] at HV
              go_wp2_with fail
              go_ret
              exact ⟨ret_int (by rw [HRF.out, HQ.out, HD.out, HV.out]; rfl), hna.trans (hnx2.trans hx2)⟩
        · have te : (r1.toList == r2.toList) = false := by rw [eqS_iff]; exact decide_eq_false heq
          have HG3 := hide (HG2.out.trans (if_neg heq))
          clear heq HG2
          rw [HG3.out] at HV
          go_quiet (fail)
          clear i1 i2 i3 i4
          go_wp2_with fail
          go_ret
          exact ⟨ret_int (by rw [HRF.out, HQ.out, HD.out, HV.out]; rfl), hna.trans (hnx1.drewN _)⟩
    · go_wp2
      go_ret
      exact ⟨ret_int (by rw [HRF.out, HQ.out, List.drop_of_length_le (by have := HBL.out; omega)]; rfl), hna.trans hbw⟩
end Go.Proofs.YtbjbeddjaajdaaaGreatDoor
/- Roads: the reference's check. -/
namespace Go.Proofs.YtbjbeddjaajdaaaGreatDoor
open Go.RowKit

def nodeBad (ns : List Node) (k : Nat) : Bool := match prevOf ns k with | some q => strLe (ns.getD k default).key q.key | none => false
theorem nodeF_at (ns : List Node) (k : Nat) (hk : k < ns.length) : nodeF (prevOf ns k) ns[k] = if keyB ns[k].key then (if nodeBad ns k then 7 else ptF ns[k].x ns[k].y) else 5 := by
  have e : ns.getD k default = ns[k] := by rw [List.getD_eq_getElem?_getD, List.getElem?_eq_getElem hk]; rfl
  unfold nodeF nodeBad
  rw [e]
  cases prevOf ns k with
  | none => simp
  | some q => rfl

set_option maxRecDepth 100000 in
set_option maxHeartbeats 4000000 in
theorem w_RoadsFault (lo lo' lo'' : Nat) (A B C : Option Addr) (ca cb cc : Nat) (ns : List Node) (rs : List Arc) (bs : List Ban) (w : World)
    (hN : Rd w lo A 3 encNode ns) (hS : SmallN ns) (hnl : ns.length ≤ 400) (hA : RdArcs w lo' B rs) (hal : rs.length ≤ 400) (hB : Rd w lo'' C 2 encBan bs) (hbl : bs.length ≤ 400) :
    Calls Tryz.prog 15 #[.agg #[.slice A ns.length ca, .slice B rs.length cb, .slice C bs.length cc]] w fun e w' => e = .returned (.int .i64 (roadsF ns rs bs)) ∧ Nx w w' := by
  obtain ⟨wa, hwa⟩ : ∃ wa, wa = w.alloc (.cells #[.slice A ns.length ca, .slice B rs.length cb, .slice C bs.length cc] 30) := ⟨_, rfl⟩
  have hna : Nx w wa := hwa ▸ (Nx.refl w).alloc _
  have hgw : w.heap.size < wa.heap.size := by rw [hwa]; simp
  have b0 : wa.cell? ⟨w.heap.size, 0, none⟩ = some (.slice A ns.length ca) := by rw [hwa]; go_simp
  have b1 : wa.cell? ⟨w.heap.size, 1, none⟩ = some (.slice B rs.length cb) := by rw [hwa]; go_simp
  have b2 : wa.cell? ⟨w.heap.size, 2, none⟩ = some (.slice C bs.length cc) := by rw [hwa]; go_simp
  have HND := hide (fun s W (hx : Nx wa W) => w_NodeAt lo A B C rs.length bs.length ca cb cc ns s W ((hN.nx hna).nx hx) (by omega))
  have HBF := hide (fun W (hx : Nx wa W) => w_bansFaultQ lo' lo'' A B C ns.length ca cb cc rs bs W ((hA.nx hna).nx hx) hal ((hB.nx hna).nx hx) hbl)
  have HRN := hide (hN.nx hna)
  have HSN := hide hS
  have HRA := hide (hA.nx hna).1
  have HKN := hide (hA.nx hna).2
  have HRF := hide (show roadsF ns rs bs = if nodesF ns = 0 then (if chk (arcF ns) none rs = 0 then chk (banF rs) none bs else chk (arcF ns) none rs) else nodesF ns from rfl)
  have HNF := hide (show nodesF ns = chk nodeF none ns by unfold nodesF; rw [if_neg (by omega)])
  clear hN hS hA hB
  generalize roadsF ns rs bs = V at *
  generalize hnl' : ns.length = l at *
  generalize hrl : rs.length = n at *
  generalize hbl' : bs.length = m at *
  have HNL := hide hnl'
  have HRL := hide hrl
  have HBL := hide hbl'
  clear hnl' hrl hbl'
  have tl : decide ((l : Int) > 500) = false := decide_eq_false (by omega)
  have tl2 : decide ((500 : Int) < (l : Int)) = false := decide_eq_false (by omega)
  have tn : decide ((n : Int) > 2000) = false := decide_eq_false (by omega)
  have tn2 : decide ((2000 : Int) < (n : Int)) = false := decide_eq_false (by omega)
  go_enter Tryz.func15, Tryz.ntmps15
  go_wp2_with fail
  rw [← hwa]
  have HWA := hide hwa
  clear hwa
  generalize w.heap.size = gb at *
  have hbw := Nx.refl wa
  go_wp2_with fail
  go_loopw [15] (fun i wr => ∃ k : Nat, k ≤ l ∧ i = .int .i64 k ∧ Nx wa wr ∧ chk nodeF none ns = chk nodeF (prevOf ns k) (ns.drop k)) (fun i _ => l - (intOf i).toNat)
  case atStart => exact ⟨0, Nat.zero_le _, rfl, hbw, rfl⟩
  case round =>
    clear hbw
    obtain ⟨k, hk, rfl, hbw, hq⟩ := hrel
    have HQ := hide hq
    clear hq
    by_cases hlt : k < l
    · have hlt' : k < ns.length := by have := HNL.out; omega
      have HD := hide (chk_drop nodeF ns k hlt')
      have HV := hide (nodeF_at ns k hlt')
      have HB0 := hide (nx_cell hbw hgw b0)
      obtain ⟨b, off, rfl, _, hb, hbr, hc⟩ := HRN.out.open_ hbw (by have := HNL.out; omega)
      have c0 : wr.cell? ⟨b, off + k * 3, none⟩ = some (.string ns[k].key) := hc k hlt' 0 _ rfl
      have c1 : wr.cell? ⟨b, off + k * 3 + 1, none⟩ = some (.int .i64 ns[k].x) := hc k hlt' 1 _ rfl
      have c2 : wr.cell? ⟨b, off + k * 3 + 2, none⟩ = some (.int .i64 ns[k].y) := hc k hlt' 2 _ rfl
      have HPC := hide (fun h0 : 0 < k => (show wr.cell? ⟨b, off + (k - 1) * 3, none⟩ = some (.string (ns[k - 1]'(by omega)).key) from hc (k - 1) (by omega) 0 _ rfl))
      have HPV := hide (fun h0 : 0 < k => (show nodeBad ns k = strLe ns[k].key (ns[k - 1]'(by omega)).key by
        unfold nodeBad
        rw [prevOf_pos _ k h0 (by omega), List.getD_eq_getElem?_getD, List.getElem?_eq_getElem hlt']; rfl))
      have HP0 := hide (fun h0 : k = 0 => (show nodeBad ns k = false by subst h0; rfl))
      clear hc
      have hSx := HSN.out ns[k] (List.getElem_mem hlt')
      generalize ns[k] = x at *
      generalize nodeBad ns k = bad at *
      go_wp2_with fail
      obtain ⟨wk, hwk⟩ : ∃ wk, wk = wr.alloc (.cells #[.string x.key, .int .i64 x.x, .int .i64 x.y] 76) := ⟨_, rfl⟩
      have hnk0 : Nx wr wk := hwk ▸ (Nx.refl wr).alloc _
      have hsk0 : wr.heap.size < wk.heap.size := by rw [hwk]; simp
      have d0 : wk.cell? ⟨wr.heap.size, 0, none⟩ = some (.string x.key) := by rw [hwk]; go_simp
      have d1 : wk.cell? ⟨wr.heap.size, 1, none⟩ = some (.int .i64 x.x) := by rw [hwk]; go_simp
      have d2 : wk.cell? ⟨wr.heap.size, 2, none⟩ = some (.int .i64 x.y) := by rw [hwk]; go_simp
      rw [← hwk]
      have HWK := hide hwk
      clear hwk c0 c1 c2
      refine (w_KeyR _ _ hSx).mono ?_
      rintro e wj ⟨rfl, hnj⟩
      replace d0 := nx_cell hnj hsk0 d0
      replace d1 := nx_cell hnj hsk0 d1
      replace d2 := nx_cell hnj hsk0 d2
      have hsk := Nat.lt_of_lt_of_le hsk0 hnj.sz
      have hnk := hnk0.trans hnj
      have hnx := hbw.trans hnk
      clear hnk0 hsk0
      cases hkb : keyB x.key
      · rw [hkb] at HV
        go_wp2_with fail
        go_ret
        exact ⟨ret_int (by rw [HRF.out, HNF.out, HQ.out, HD.out, HV.out]; rfl), hna.trans hnx⟩
      rw [hkb, if_pos rfl] at HV
      go_upto_region 8 with fail
      go_cut [25] (fun v wx => v = .bool bad ∧ Nx wj wx)
      case first =>
        clear d1 d2
        by_cases hk0 : 0 < k
        · have hp := nx_cell hnk hbr (HPC.out hk0)
          have B0 := nx_cell hnk (Nat.lt_of_lt_of_le hgw hbw.sz) HB0.out
          have hpv := HPV.out hk0
          have hkz : k - 1 < ns.length := by have := HNL.out; omega
          generalize (ns[k - 1]'(by omega)).key = p0 at *
          have k1 : IntKind.i64.wrap ((k : Int) - 1) = (k : Int) - 1 := IntWalk.i64_in _ (by omega)
          have k2 : (1 : Int) ≤ (k : Int) := by omega
          have k3 : ((k : Int) - 1).toNat = k - 1 := by omega
          have k4 : (k : Int) - 1 < (l : Int) := by omega
          have kp : decide ((k : Int) > 0) = true := decide_eq_true (by omega)
          have kp2 : decide ((0 : Int) < (k : Int)) = true := decide_eq_true (by omega)
          have t1 : (Op.bytesLess x.key.toList p0.toList || x.key.toList == p0.toList) = bad := hpv.symm
          clear hpv
          go_quiet (fail)
          go_wp2
          go_meet
          exact ⟨rfl, (Nx.refl _).drewN _⟩
        · have kp : decide ((k : Int) > 0) = false := decide_eq_false (by omega)
          have kp2 : decide ((0 : Int) < (k : Int)) = false := decide_eq_false (by omega)
          have hb0 := HP0.out (by omega)
          go_quiet (fail)
          go_wp2
          go_meet
          exact ⟨by rw [hb0], (Nx.refl _).drewN _⟩
      case rest =>
        obtain ⟨rfl, hx1⟩ := hcut
        cases hbd : bad
        · rw [hbd, if_neg (by simp)] at HV
          have e1 := nx_cell hx1 hsk d1
          have e2 := nx_cell hx1 hsk d2
          have hnx1 := hnx.trans hx1
          clear d0 d1 d2 HB0
          cases ho1 : outB x.x (-10000) 10000
          · have f1 : inB x.x (-10000) 10000 = true := by rw [inB_out, ho1]; rfl
            cases ho2 : outB x.y (-10000) 10000
            · have f2 : inB x.y (-10000) 10000 = true := by rw [inB_out, ho2]; rfl
              have HP := hide (show ptF x.x x.y = 0 by unfold ptF isPtB; rw [ho1, ho2]; rfl)
              go_wp2_with (go_at_call 58; refine (w_in _ _ _ _).mono ?_; rintro e w' ⟨rfl, rfl⟩)
              go_roundw
              case rel => exact ⟨k + 1, by omega, by go_num, hnx1, by rw [HQ.out, HD.out, HV.out, HP.out, if_pos rfl]⟩
              case measure => simp [intOf]; omega
            · have f2 : inB x.y (-10000) 10000 = false := by rw [inB_out, ho2]; rfl
              have HP := hide (show ptF x.x x.y = 1 by unfold ptF isPtB; rw [ho1, ho2]; rfl)
              go_wp2_with (go_at_call 58; refine (w_in _ _ _ _).mono ?_; rintro e w' ⟨rfl, rfl⟩)
              go_ret
              exact ⟨ret_int (by rw [HRF.out, HNF.out, HQ.out, HD.out, HV.out, HP.out]; rfl), hna.trans hnx1⟩
          · have f1 : inB x.x (-10000) 10000 = false := by rw [inB_out, ho1]; rfl
            have HP := hide (show ptF x.x x.y = 1 by unfold ptF isPtB; rw [ho1]; rfl)
            go_wp2_with (go_at_call 58; refine (w_in _ _ _ _).mono ?_; rintro e w' ⟨rfl, rfl⟩)
            go_ret
            exact ⟨ret_int (by rw [HRF.out, HNF.out, HQ.out, HD.out, HV.out, HP.out]; rfl), hna.trans hnx1⟩
        · rw [hbd, if_pos rfl] at HV
          go_wp2_with fail
          go_ret
          exact ⟨ret_int (by rw [HRF.out, HNF.out, HQ.out, HD.out, HV.out]; rfl), hna.trans (hnx.trans hx1)⟩
    · have H0 : nodesF ns = 0 := by rw [HNF.out, HQ.out, List.drop_of_length_le (by have := HNL.out; omega)]; rfl
      have HRF := hide (HRF.out.trans (if_pos H0))
      obtain rfl : l = k := by omega
      clear H0 HQ HNF HSN hlt hk
      have B1 := nx_cell hbw hgw b1
      go_wp2_with fail
      clear B1
      go_loopw [59] (fun i wr => ∃ k : Nat, k ≤ n ∧ i = .int .i64 k ∧ Nx wa wr ∧ chk (arcF ns) none rs = chk (arcF ns) (prevOf rs k) (rs.drop k)) (fun i _ => n - (intOf i).toNat)
      case atStart => exact ⟨0, Nat.zero_le _, rfl, hbw, rfl⟩
      case round =>
        clear hbw
        obtain ⟨k, hk, rfl, hbw, hq⟩ := hrel
        have HQ := hide hq
        clear hq
        by_cases hlt : k < n
        · have hlt' : k < rs.length := by have := HRL.out; omega
          have HD := hide (chk_drop (arcF ns) rs k hlt')
          have HV := hide (arcF_at ns rs k hlt')
          have HB1 := hide (nx_cell hbw hgw b1)
          obtain ⟨b, off, rfl, _, hb, hbr, hc⟩ := HRA.out.open_ hbw (by have := HRL.out; omega)
          have c0 : wr.cell? ⟨b, off + k * 5, none⟩ = some (.string rs[k].key) := hc k hlt' 0 _ rfl
          have c1 : wr.cell? ⟨b, off + k * 5 + 1, none⟩ = some (.string rs[k].from_) := hc k hlt' 1 _ rfl
          have c2 : wr.cell? ⟨b, off + k * 5 + 2, none⟩ = some (.string rs[k].to_) := hc k hlt' 2 _ rfl
          have c3 : wr.cell? ⟨b, off + k * 5 + 3, none⟩ = some (.int .i64 rs[k].long) := hc k hlt' 3 _ rfl
          have c4 : wr.cell? ⟨b, off + k * 5 + 4, none⟩ = some (.slice rs[k].ka rs[k].knots.length rs[k].kc) := hc k hlt' 4 _ rfl
          have HPC := hide (fun h0 : 0 < k => (show wr.cell? ⟨b, off + (k - 1) * 5, none⟩ = some (.string (rs[k - 1]'(by omega)).key) from hc (k - 1) (by omega) 0 _ rfl))
          have HPV := hide (fun h0 : 0 < k => (show arcBad rs k = strLe rs[k].key (rs[k - 1]'(by omega)).key by
            unfold arcBad
            rw [prevOf_pos _ k h0 (by omega), List.getD_eq_getElem?_getD, List.getElem?_eq_getElem hlt']; rfl))
          have HP0 := hide (fun h0 : k = 0 => (show arcBad rs k = false by subst h0; rfl))
          clear hc
          obtain ⟨hKx, hLx, hSx⟩ := HKN.out rs[k] (List.getElem_mem hlt')
          have HKF := hide (fun W (hx : Nx wa W) => w_knotsFaultQ lo' rs[k].ka rs[k].kc rs[k].knots W (hKx.nx hx) (by omega))
          clear hKx
          generalize rs[k] = x at *
          generalize hkl : x.knots.length = r at *
          generalize arcBad rs k = bad at *
          have HKL := hide hkl
          clear hkl
          go_wp2_with fail
          obtain ⟨wk, hwk⟩ : ∃ wk, wk = wr.alloc (.cells #[.string x.key, .string x.from_, .string x.to_, .int .i64 x.long, .slice x.ka r x.kc] 37) := ⟨_, rfl⟩
          have hnk0 : Nx wr wk := hwk ▸ (Nx.refl wr).alloc _
          have hsk0 : wr.heap.size < wk.heap.size := by rw [hwk]; simp
          have d0 : wk.cell? ⟨wr.heap.size, 0, none⟩ = some (.string x.key) := by rw [hwk]; go_simp
          have d1 : wk.cell? ⟨wr.heap.size, 1, none⟩ = some (.string x.from_) := by rw [hwk]; go_simp
          have d2 : wk.cell? ⟨wr.heap.size, 2, none⟩ = some (.string x.to_) := by rw [hwk]; go_simp
          have d3 : wk.cell? ⟨wr.heap.size, 3, none⟩ = some (.int .i64 x.long) := by rw [hwk]; go_simp
          have d4 : wk.cell? ⟨wr.heap.size, 4, none⟩ = some (.slice x.ka r x.kc) := by rw [hwk]; go_simp
          rw [← hwk]
          have HWK := hide hwk
          clear hwk c0 c1 c2 c3 c4
          refine (w_KeyR _ _ hSx).mono ?_
          rintro e wj ⟨rfl, hnj⟩
          replace d0 := nx_cell hnj hsk0 d0
          replace d1 := nx_cell hnj hsk0 d1
          replace d2 := nx_cell hnj hsk0 d2
          replace d3 := nx_cell hnj hsk0 d3
          replace d4 := nx_cell hnj hsk0 d4
          have hsk := Nat.lt_of_lt_of_le hsk0 hnj.sz
          have hnk := hnk0.trans hnj
          have hnx := hbw.trans hnk
          clear hnk0 hsk0
          cases hkb : keyB x.key
          · rw [hkb] at HV
            go_wp2_with fail
            go_ret
            exact ⟨ret_int (by rw [HRF.out, HQ.out, HD.out, HV.out]; rfl), hna.trans hnx⟩
          rw [hkb, if_pos rfl] at HV
          go_upto_region 20 with fail
          go_cut [69] (fun v wx => v = .bool bad ∧ Nx wj wx)
          case first =>
            clear d1 d2 d3 d4
            by_cases hk0 : 0 < k
            · have hp := nx_cell hnk hbr (HPC.out hk0)
              have B1 := nx_cell hnk (Nat.lt_of_lt_of_le hgw hbw.sz) HB1.out
              have hpv := HPV.out hk0
              have hkz : k - 1 < rs.length := by have := HRL.out; omega
              generalize (rs[k - 1]'(by omega)).key = p0 at *
              have k1 : IntKind.i64.wrap ((k : Int) - 1) = (k : Int) - 1 := IntWalk.i64_in _ (by omega)
              have k2 : (1 : Int) ≤ (k : Int) := by omega
              have k3 : ((k : Int) - 1).toNat = k - 1 := by omega
              have k4 : (k : Int) - 1 < (n : Int) := by omega
              have kp : decide ((k : Int) > 0) = true := decide_eq_true (by omega)
              have kp2 : decide ((0 : Int) < (k : Int)) = true := decide_eq_true (by omega)
              have t1 : (Op.bytesLess x.key.toList p0.toList || x.key.toList == p0.toList) = bad := hpv.symm
              clear hpv
              go_quiet (fail)
              go_wp2
              go_meet
              exact ⟨rfl, (Nx.refl _).drewN _⟩
            · have kp : decide ((k : Int) > 0) = false := decide_eq_false (by omega)
              have kp2 : decide ((0 : Int) < (k : Int)) = false := decide_eq_false (by omega)
              have hb0 := HP0.out (by omega)
              go_quiet (fail)
              go_wp2
              go_meet
              exact ⟨by rw [hb0], (Nx.refl _).drewN _⟩
          case rest =>
            obtain ⟨rfl, hx1⟩ := hcut
            cases hbd : bad
            · rw [hbd, if_neg (by simp)] at HV
              have e1 := nx_cell hx1 hsk d1
              have e2 := nx_cell hx1 hsk d2
              have e3 := nx_cell hx1 hsk d3
              have e4 := nx_cell hx1 hsk d4
              have hs1 := Nat.lt_of_lt_of_le hsk hx1.sz
              have hnx1 := hnx.trans hx1
              have bb0 := nx_cell hnx1 hgw b0
              have bb1 := nx_cell hnx1 hgw b1
              have bb2 := nx_cell hnx1 hgw b2
              clear d0 d1 d2 d3 d4 HB1
              by_cases hf : nodeI ns x.from_ < 0
              · have tf : decide (nodeI ns x.from_ < 0) = true := decide_eq_true hf
                have HG := hide (arcG_none (ns := ns) (a := x) (.inl hf))
                clear hf
                go_wp2_with fail
                refine (HND.out x.from_ _ hnx1).mono ?_
                rintro e w2 ⟨rfl, hn2⟩
                go_wp2_with fail
                go_ret
                exact ⟨ret_int (by rw [HRF.out, HQ.out, HD.out, HV.out, HG.out]; rfl), hna.trans (hnx1.trans hn2)⟩
              have tf : decide (nodeI ns x.from_ < 0) = false := decide_eq_false hf
              have HF := hide (Int.not_lt.1 hf)
              clear hf
              go_wp2_with fail
              refine (HND.out x.from_ _ hnx1).mono ?_
              rintro e w2 ⟨rfl, hn2⟩
              have f1 := nx_cell hn2 hs1 e1
              have f2 := nx_cell hn2 hs1 e2
              have f3 := nx_cell hn2 hs1 e3
              have f4 := nx_cell hn2 hs1 e4
              have hs2 := Nat.lt_of_lt_of_le hs1 hn2.sz
              have hnx2 := hnx1.trans hn2
              clear e1 e2 e3 e4 bb0 bb1 bb2
              have bb0 := nx_cell hnx2 hgw b0
              have bb1 := nx_cell hnx2 hgw b1
              have bb2 := nx_cell hnx2 hgw b2
              by_cases ht : nodeI ns x.to_ < 0
              · have tt : decide (nodeI ns x.to_ < 0) = true := decide_eq_true ht
                have HG := hide (arcG_none (ns := ns) (a := x) (.inr ht))
                clear ht
                go_wp2_with fail
                refine (HND.out x.to_ _ hnx2).mono ?_
                rintro e w3 ⟨rfl, hn3⟩
                go_wp2_with fail
                go_ret
                exact ⟨ret_int (by rw [HRF.out, HQ.out, HD.out, HV.out, HG.out]; rfl), hna.trans (hnx2.trans hn3)⟩
              have tt : decide (nodeI ns x.to_ < 0) = false := decide_eq_false ht
              have HT := hide (Int.not_lt.1 ht)
              clear ht
              go_wp2_with fail
              refine (HND.out x.to_ _ hnx2).mono ?_
              rintro e w3 ⟨rfl, hn3⟩
              have g1 := nx_cell hn3 hs2 f1
              have g2 := nx_cell hn3 hs2 f2
              have g3 := nx_cell hn3 hs2 f3
              have g4 := nx_cell hn3 hs2 f4
              have hs3 := Nat.lt_of_lt_of_le hs2 hn3.sz
              have hnx3 := hnx2.trans hn3
              clear f1 f2 f3 f4 bb0 bb1 bb2
              by_cases heq : x.from_ = x.to_
              · have te : (x.from_.toList == x.to_.toList) = true := by rw [eqS_iff]; exact decide_eq_true heq
                have HG := hide (arcG_twice (ns := ns) (a := x) HF.out HT.out heq)
                clear heq
                go_wp2_with fail
                go_ret
                exact ⟨ret_int (by rw [HRF.out, HQ.out, HD.out, HV.out, HG.out]; rfl), hna.trans hnx3⟩
              have te : (x.from_.toList == x.to_.toList) = false := by rw [eqS_iff]; exact decide_eq_false heq
              cases hlo : outB x.long 1 1000000
              · have fl : inB x.long 1 1000000 = true := by rw [inB_out, hlo]; rfl
                have HG := hide (arcG_knots (ns := ns) (a := x) HF.out HT.out heq hlo)
                clear heq
                by_cases hz : knotsF x.knots = 0
                · rw [hz] at HG
                  have HKF := hide (fun W hx => HKF.out W hx)
                  rw [hz] at HKF
                  clear hz
                  go_wp2_with (go_at_call 58; refine (w_in _ _ _ _).mono ?_; rintro e w' ⟨rfl, rfl⟩)
                  refine (HKF.out _ hnx3).mono ?_
                  rintro e w4 ⟨rfl, hn4⟩
                  go_wp2_with fail
                  go_roundw
                  case rel => exact ⟨k + 1, by omega, by go_num, hnx3.trans hn4, by rw [HQ.out, HD.out, HV.out, HG.out, if_pos rfl]⟩
                  case measure => simp [intOf]; omega
                · have tz : (knotsF x.knots != 0) = true := by simpa using hz
                  have HZ := hide hz
                  clear hz
                  go_wp2_with (go_at_call 58; refine (w_in _ _ _ _).mono ?_; rintro e w' ⟨rfl, rfl⟩)
                  refine (HKF.out _ hnx3).mono ?_
                  rintro e w4 ⟨rfl, hn4⟩
                  go_wp2_with fail
                  go_ret
                  exact ⟨ret_int (by rw [HRF.out, HQ.out, HD.out, HV.out, HG.out, if_neg HZ.out, if_neg HZ.out]), hna.trans (hnx3.trans hn4)⟩
              · have fl : inB x.long 1 1000000 = false := by rw [inB_out, hlo]; rfl
                have HG := hide (arcG_long (ns := ns) (a := x) HF.out HT.out heq hlo)
                clear heq
                go_wp2_with (go_at_call 58; refine (w_in _ _ _ _).mono ?_; rintro e w' ⟨rfl, rfl⟩)
                go_ret
                exact ⟨ret_int (by rw [HRF.out, HQ.out, HD.out, HV.out, HG.out]; rfl), hna.trans hnx3⟩
            · rw [hbd, if_pos rfl] at HV
              go_wp2_with fail
              go_ret
              exact ⟨ret_int (by rw [HRF.out, HQ.out, HD.out, HV.out]; rfl), hna.trans (hnx.trans hx1)⟩
        · have H0 : chk (arcF ns) none rs = 0 := by rw [HQ.out, List.drop_of_length_le (by have := HRL.out; omega)]; rfl
          have HRF := hide (HRF.out.trans (if_pos H0))
          have bb0 := nx_cell hbw hgw b0
          have bb1 := nx_cell hbw hgw b1
          have bb2 := nx_cell hbw hgw b2
          clear H0 HQ
          go_wp2_with fail
          refine (HBF.out _ hbw).mono ?_
          rintro e w2 ⟨rfl, hn2⟩
          go_wp2_with fail
          go_ret
          exact ⟨ret_int HRF.out.symm, hna.trans (hbw.trans hn2)⟩
end Go.Proofs.YtbjbeddjaajdaaaGreatDoor
/- Plain: arcs one after the other; how long they are; when one comes out of each. -/
namespace Go.Proofs.YtbjbeddjaajdaaaGreatDoor

/-- May nobody drive from an arc on to another one? -/
def bannedB (bs : List Ban) (f t : ByteArray) : Bool := bs.any fun b => decide (b.from_ = f) && decide (b.to_ = t)
def prevBan (bs : List Ban) (p : Option ByteArray) (k : ByteArray) : Bool := match p with | some q => bannedB bs q k | none => false
/-- What is wrong with arcs one after the other. -/
def chainF (rs : List Arc) (bs : List Ban) : ByteArray → Option ByteArray → List ByteArray → Int
  | _, _, [] => 0
  | fr, p, k :: l => if arcI rs k < 0 then 8 else if fr ≠ ByteArray.empty ∧ (arcAt rs k).from_ ≠ fr then 3 else if prevBan bs p k then 16 else chainF rs bs (arcAt rs k).to_ (some k) l
def lengthI (rs : List Arc) : List ByteArray → Int
  | [] => 0
  | k :: l => (arcAt rs k).long + lengthI rs l
def outAt (rs : List Arc) (at_ : Int) (k : ByteArray) : Int := at_ + timeI (arcAt rs k).knots at_
/-- When one comes out of each of some arcs; none: not ahead of the end. -/
def walkO (rs : List Arc) : Int → List ByteArray → Option (List Int)
  | _, [] => some []
  | at_, k :: l => if 345686400000 ≤ outAt rs at_ k then none else (walkO rs (outAt rs at_ k) l).map (outAt rs at_ k :: ·)
theorem banC_zero {a b : Ban} : banC a b = 0 ↔ a = b := by
  obtain ⟨a1, a2⟩ := a
  obtain ⟨b1, b2⟩ := b
  unfold banC
  constructor
  · intro h
    by_cases h1 : cmpS a1 b1 = 0
    · have h' : cmpS a2 b2 = 0 := by simpa [h1] using h
      rw [cmpS_zero.1 h1, cmpS_zero.1 h']
    · simp [h1] at h
  · intro h
    injection h with h1 h2
    have e1 := cmpS_zero.2 h1
    have e2 := cmpS_zero.2 h2
    simp [e1, e2]
theorem banC_pos {a b : Ban} : 0 < banC a b ↔ banC b a < 0 := by
  have h := banC_anti a b
  omega
/-- The order of bans goes on. -/
theorem banC_neg {a b : Ban} : banC a b < 0 ↔ ltS a.from_ b.from_ ∨ (a.from_ = b.from_ ∧ ltS a.to_ b.to_) := by
  unfold banC
  by_cases h1 : cmpS a.from_ b.from_ = 0
  · rw [if_pos h1]
    have e := cmpS_zero.1 h1
    constructor
    · intro h; exact .inr ⟨e, cmpS_neg.1 h⟩
    · rintro (h | ⟨_, h⟩)
      · rw [e] at h; exact absurd h (ltS_irrefl _)
      · exact cmpS_neg.2 h
  · rw [if_neg h1]
    constructor
    · intro h; exact .inl (cmpS_neg.1 h)
    · rintro (h | ⟨h, _⟩)
      · exact cmpS_neg.2 h
      · exact absurd (cmpS_zero.2 h) h1
theorem banC_trans {a b c : Ban} (h : banC a b < 0) (h' : banC b c < 0) : banC a c < 0 := by
  rw [banC_neg] at *
  rcases h with h | ⟨h1, h2⟩
  · rcases h' with h' | ⟨h1', _⟩
    · exact .inl (ltS_trans h h')
    · exact .inl (h1' ▸ h)
  · rcases h' with h' | ⟨h1', h2'⟩
    · exact .inl (h1 ▸ h')
    · exact .inr ⟨h1.trans h1', ltS_trans h2 h2'⟩
theorem chkB_sorted (rs : List Arc) : ∀ (l : List Ban) (p : Option Ban), chk (banF rs) p l = 0 → (l.Pairwise fun a b => banC a b < 0) ∧ ∀ q, p = some q → ∀ x ∈ l, banC q x < 0
  | [], _, _ => ⟨List.Pairwise.nil, fun _ _ _ h => absurd h (by simp)⟩
  | s :: l, p, h => by
    unfold chk at h
    by_cases h0 : banF rs p s = 0
    · rw [if_pos h0] at h
      obtain ⟨h1, h2⟩ := chkB_sorted rs l _ h
      have h3 : ∀ q, p = some q → banC q s < 0 := fun q e => by
        subst e
        unfold banF at h0
        by_cases hg : banG rs s = 0
        · rw [if_pos hg] at h0
          by_cases hc : banC s q ≤ 0
          · simp [hc] at h0
          · exact banC_pos.1 (by omega)
        · rw [if_neg hg] at h0; exact absurd h0 hg
      refine ⟨List.pairwise_cons.2 ⟨fun y hy => h2 s rfl y hy, h1⟩, fun q e y hy => ?_⟩
      rcases List.mem_cons.1 hy with rfl | hy
      · exact h3 q e
      · exact banC_trans (h3 q e) (h2 s rfl y hy)
    · rw [if_neg h0] at h; exact absurd h h0
theorem banB_at {l : List Ban} (h : l.Pairwise fun a b => banC a b < 0) {i j : Nat} (hij : i < j) (hj : j < l.length) : banC (l.getD i default) (l.getD j default) < 0 := by
  rw [List.pairwise_iff_getElem] at h
  have := h i j (by omega) hj hij
  rw [List.getD_eq_getElem?_getD, List.getD_eq_getElem?_getD, List.getElem?_eq_getElem (by omega), List.getElem?_eq_getElem hj]
  exact this
theorem bannedB_iff {bs : List Ban} {f t : ByteArray} : bannedB bs f t = true ↔ ∃ k, k < bs.length ∧ bs.getD k default = ⟨f, t⟩ := by
  unfold bannedB
  rw [List.any_eq_true]
  constructor
  · rintro ⟨b, hb, hx⟩
    obtain ⟨k, hk, e⟩ := List.mem_iff_getElem.1 hb
    refine ⟨k, hk, ?_⟩
    rw [List.getD_eq_getElem?_getD, List.getElem?_eq_getElem hk]
    simp at hx
    obtain ⟨b1, b2⟩ := b
    simp at hx
    rw [← hx.1, ← hx.2]
    exact e
  · rintro ⟨k, hk, e⟩
    refine ⟨bs.getD k default, ?_, by rw [e]; simp⟩
    rw [List.getD_eq_getElem?_getD, List.getElem?_eq_getElem hk]
    exact List.getElem_mem hk
end Go.Proofs.YtbjbeddjaajdaaaGreatDoor
/- A ban: the program's search. -/
namespace Go.Proofs.YtbjbeddjaajdaaaGreatDoor
open Go.RowKit

end Go.Proofs.YtbjbeddjaajdaaaGreatDoor
/- Arcs one after the other: the program. -/
namespace Go.Proofs.YtbjbeddjaajdaaaGreatDoor
open Go.RowKit

/-- Roads in a box, read. -/
structure BoxR (w : World) (g lo : Nat) (A B C : Option Addr) (ca cb cc : Nat) (ns : List Node) (rs : List Arc) (bs : List Ban) : Prop where
  g0 : w.cell? ⟨g, 0, none⟩ = some (.slice A ns.length ca)
  g1 : w.cell? ⟨g, 1, none⟩ = some (.slice B rs.length cb)
  g2 : w.cell? ⟨g, 2, none⟩ = some (.slice C bs.length cc)
  gl : g < w.heap.size
  hN : Rd w lo A 3 encNode ns
  hA : RdArcs w lo B rs
  hB : Rd w lo C 2 encBan bs
  nl : ns.length ≤ 400
  al : rs.length ≤ 400
  bl : bs.length ≤ 400
theorem BoxR.nx {w w' : World} {g lo : Nat} {A B C : Option Addr} {ca cb cc : Nat} {ns : List Node} {rs : List Arc} {bs : List Ban} (h : BoxR w g lo A B C ca cb cc ns rs bs) (hn : Nx w w') : BoxR w' g lo A B C ca cb cc ns rs bs :=
  ⟨nx_cell hn h.gl h.g0, nx_cell hn h.gl h.g1, nx_cell hn h.gl h.g2, Nat.lt_of_lt_of_le h.gl hn.sz, h.hN.nx hn, h.hA.nx hn, h.hB.nx hn, h.nl, h.al, h.bl⟩
theorem roads_ok {ns : List Node} {rs : List Arc} {bs : List Ban} (h : roadsF ns rs bs = 0) : nodesF ns = 0 ∧ chk (arcF ns) none rs = 0 ∧ chk (banF rs) none bs = 0 := by
  unfold roadsF at h
  by_cases h0 : nodesF ns = 0
  · rw [if_pos h0] at h
    by_cases h1 : chk (arcF ns) none rs = 0
    · rw [if_pos h1] at h; exact ⟨h0, h1, h⟩
    · rw [if_neg h1] at h; exact absurd h h1
  · rw [if_neg h0] at h; exact absurd h h0

theorem emptyL (f : ByteArray) : f.toList = [] ↔ f = ByteArray.empty := by
  constructor
  · intro h
    have h2 : (f.toList == ByteArray.empty.toList) = true := by rw [h, Lib.toList_data]; rfl
    rw [eqS_iff] at h2
    exact of_decide_eq_true h2
  · rintro rfl
    rw [Lib.toList_data]; rfl
theorem chain_drop (rs : List Arc) (bs : List Ban) (l : List ByteArray) (fr : ByteArray) (k : Nat) (hk : k < l.length) : chainF rs bs fr (prevOf l k) (l.drop k) = if arcI rs l[k] < 0 then 8 else if fr ≠ ByteArray.empty ∧ (arcAt rs l[k]).from_ ≠ fr then 3 else if prevBan bs (prevOf l k) l[k] then 16 else chainF rs bs (arcAt rs l[k]).to_ (prevOf l (k + 1)) (l.drop (k + 1)) := by
  rw [List.drop_eq_getElem_cons hk, chainF]
  have e : prevOf l (k + 1) = some l[k] := by unfold prevOf; simp [List.getElem?_eq_getElem hk]
  rw [e]
end Go.Proofs.YtbjbeddjaajdaaaGreatDoor
/- cmp.Compare of numbers. -/
namespace Go.Proofs.YtbjbeddjaajdaaaGreatDoor
open Go.RowKit

theorem w_isNaN (a : Int) (w : World) : Calls Tryz.prog 198 #[.int .i64 a] w fun e w' => e = .returned (.bool false) ∧ w = w' := by
  go_enter Tryz.func198, Tryz.ntmps198
  go_wp2
  go_ret
  exact ⟨rfl, rfl⟩

theorem w_Compare (a b : Int) (w : World) : Calls Tryz.prog 173 #[.int .i64 a, .int .i64 b] w fun e w' => e = .returned (.int .i64 (cmpI a b)) ∧ w = w' := by
  by_cases h1 : a < b
  · go_enter Tryz.func173, Tryz.ntmps173
    go_wp2_with (go_at_call 198; refine (w_isNaN _ _).mono ?_; rintro e w' ⟨rfl, rfl⟩)
    go_ret
    exact ⟨ret_int (by unfold cmpI; simp [h1]), rfl⟩
  · by_cases h2 : b < a
    · go_enter Tryz.func173, Tryz.ntmps173
      go_wp2_with (go_at_call 198; refine (w_isNaN _ _).mono ?_; rintro e w' ⟨rfl, rfl⟩)
      go_ret
      exact ⟨ret_int (by unfold cmpI; simp [h1, h2]), rfl⟩
    · go_enter Tryz.func173, Tryz.ntmps173
      go_wp2_with (go_at_call 198; refine (w_isNaN _ _).mono ?_; rintro e w' ⟨rfl, rfl⟩)
      go_ret
      exact ⟨ret_int (by unfold cmpI; rw [if_neg (by omega), if_neg (by omega)]), rfl⟩

end Go.Proofs.YtbjbeddjaajdaaaGreatDoor
/- The knot at a moment: the program's search. -/
namespace Go.Proofs.YtbjbeddjaajdaaaGreatDoor
open Go.RowKit

theorem w_time1 (x : Knot) (t : Int) (w : World) : Calls Tryz.prog 172 #[.agg #[.int .i64 x.at_, .int .i64 x.time], .int .i64 t] w fun e w' => e = .returned (.int .i64 (cmpI x.at_ t)) ∧ Nx w w' := by
  go_enter Tryz.func172, Tryz.ntmps172
  go_wp2_with (go_at_call 173; refine (w_Compare _ _ _).mono ?_; rintro e w' ⟨rfl, rfl⟩)
  go_ret
  exact ⟨rfl, (Nx.refl _).alloc _⟩

set_option maxRecDepth 100000 in
set_option maxHeartbeats 2000000 in
theorem w_BsfKnot (g : Nat) (f : Knot → Int) (x : Int) (eg : Enters g) (hcl : ∀ (y : Knot) W, Calls Tryz.prog g #[.agg #[.int .i64 y.at_, .int .i64 y.time], .int .i64 x] W fun e w' => e = .returned (.int .i64 (f y)) ∧ Nx W w')
    (lo : Nat) (A : Option Addr) (c : Nat) (l : List Knot) (w : World) (hR : Rd w lo A 2 encKnot l) (hl : l.length ≤ 65536)
    (hm : ∀ i j, i ≤ j → j < l.length → f (l.getD j default) < 0 → f (l.getD i default) < 0) :
    Calls Tryz.prog 171 #[.slice A l.length c, .int .i64 x, .func (.func g) #[] #[]] w fun e w' => ∃ (r : Nat) (is : Bool), e = .returned (.tuple #[.int .i64 (r : Int), .bool is]) ∧ Found (fun i => f (l.getD i default)) l.length r is ∧ Nx w w' := by
  generalize hn : l.length = n at *
  have HR := hide hR
  have HN := hide hn
  have HC0 := hide hcl
  have HM := hide hm
  clear hR hn hcl hm
  unfold Enters at eg
  have HG := hide (fun i (hi : i < l.length) => (show l.getD i default = l[i] by rw [List.getD_eq_getElem?_getD, List.getElem?_eq_getElem hi]; rfl))
  go_enter Tryz.func171, Tryz.ntmps171
  go_wp2
  go_loopw [9, 10, 11] (fun vi vj _ wr => ∃ i j : Nat, i ≤ j ∧ j ≤ n ∧ vi = .int .i64 i ∧ vj = .int .i64 j ∧ Nx w wr ∧ (∀ m, m < i → f (l.getD m default) < 0) ∧ (∀ m, j ≤ m → m < n → 0 ≤ f (l.getD m default))) (fun vi vj _ _ => (intOf vj).toNat - (intOf vi).toNat)
  case atStart => exact ⟨0, n, Nat.zero_le _, Nat.le_refl _, rfl, rfl, Nx.refl _, fun m hm => by omega, fun m h1 h2 => by omega⟩
  case round =>
    obtain ⟨i, j, hij, hj, rfl, rfl, hbw, hlo, hhi⟩ := hrel
    have HLO := hide hlo
    have HHI := hide hhi
    clear hlo hhi
    by_cases hlt : i < j
    · obtain ⟨h, hh⟩ : ∃ h, h = (i + j) / 2 := ⟨_, rfl⟩
      have qh : ((i : Int) + (j : Int)) / 2 = (h : Int) := by omega
      have hih : i ≤ h := by omega
      have hhj : h < j := by omega
      have hh' : h < l.length := by have := HN.out; omega
      clear hh
      obtain ⟨b, off, rfl, _, hb, hbr, hc⟩ := HR.out.open_ hbw (by omega)
      have c0 : wr.cell? ⟨b, off + h * 2, none⟩ = some (.int .i64 l[h].at_) := hc h hh' 0 _ rfl
      have c1 : wr.cell? ⟨b, off + h * 2 + 1, none⟩ = some (.int .i64 l[h].time) := hc h hh' 1 _ rfl
      clear hc
      have HE := hide (HG.out h hh')
      have HCY := hide (HC0.out l[h])
      by_cases hneg : f l[h] < 0
      · have t1 : decide (f l[h] < 0) = true := by simpa using hneg
        have HNG := hide hneg
        clear hneg
        generalize l[h] = y at *
        go_wp2_with (go_at_fn g; refine (HCY.out _).mono ?_; rintro e w2 ⟨rfl, hn2⟩)
        go_roundw
        case rel => exact ⟨h + 1, j, by omega, by omega, by go_num, rfl, hbw.trans hn2, fun m hm => HM.out m h (by omega) (by omega) (by rw [HE.out]; exact HNG.out), HHI.out⟩
        case measure => simp [intOf]; omega
      · have t1 : decide (f l[h] < 0) = false := by simpa using hneg
        have HNG := hide hneg
        clear hneg
        generalize l[h] = y at *
        go_wp2_with (go_at_fn g; refine (HCY.out _).mono ?_; rintro e w2 ⟨rfl, hn2⟩)
        go_roundw
        case rel => exact ⟨i, h, by omega, by omega, rfl, rfl, hbw.trans hn2, HLO.out, fun m h1 h2 => by
          refine Int.not_lt.1 fun hc => ?_
          have h3 := HM.out h m h1 h2 hc
          rw [HE.out] at h3
          have := HNG.out
          omega⟩
        case measure => simp [intOf]; omega
    · have hij' : i = j := by omega
      subst hij'
      clear hlt hij
      by_cases hin : i < n
      · have hi' : i < l.length := by have := HN.out; omega
        obtain ⟨b, off, rfl, _, hb, hbr, hc⟩ := HR.out.open_ hbw (by omega)
        have c0 : wr.cell? ⟨b, off + i * 2, none⟩ = some (.int .i64 l[i].at_) := hc i hi' 0 _ rfl
        have c1 : wr.cell? ⟨b, off + i * 2 + 1, none⟩ = some (.int .i64 l[i].time) := hc i hi' 1 _ rfl
        clear hc
        have HE := hide (HG.out i hi')
        have HCY := hide (HC0.out l[i])
        generalize l[i] = y at *
        go_wp2_with (go_at_fn g; refine (HCY.out _).mono ?_; rintro e w2 ⟨rfl, hn2⟩)
        go_ret2
        exact ⟨i, _, rfl, ⟨hj, HLO.out, HHI.out, by show _ = (decide (i < n) && decide (f (l.getD i default) = 0)); rw [HE.out, decide_eq_true hin]; rfl⟩, hbw.trans hn2⟩
      · go_wp2
        go_ret2
        exact ⟨i, _, rfl, ⟨hj, HLO.out, HHI.out, by rw [decide_eq_false hin]; rfl⟩, hbw⟩

end Go.Proofs.YtbjbeddjaajdaaaGreatDoor
/- A map whose elements are of any kind, said of a plain function; pointers to blocks as elements. Of no program. -/
namespace Go.Proofs.YtbjbeddjaajdaaaGreatDoor
open Go.RowKit Go.Maps

/-- R reads the values 'ev v', and no others as what they read as. -/
structure ElemR {V : Type} (R : Value → Option (DataW Unit × List MemPlace)) (ev : V → Value) (dv : V → DataW Unit) (okv : V → Prop) : Prop where
  make : ∀ v, okv v → ∃ ps, R (ev v) = some (dv v, ps)
  inv : ∀ x d ps, R x = some (d, ps) → ∃ v, okv v ∧ x = ev v ∧ d = dv v
  inj : ∀ a b, dv a = dv b → a = b

theorem elemInt {P : Program} {E : TypeId} (he : P.underlying E = some (.int .i64)) : ElemR (plainElem P E) (Value.int .i64) (fun z => .lit (.int .i64 z)) (fun z => (Lit.int .i64 z).wf = true) where
  make z h := ⟨[], plainElem_int he h⟩
  inv x d ps h := by
    obtain ⟨a, rfl, e, hw⟩ := plainElem_int_inv he h
    injection e with e1 e2
    exact ⟨a, hw, rfl, e1⟩
  inj a b h := by injection h with h; injection h
theorem elemBool {P : Program} {E : TypeId} (he : P.underlying E = some .bool) : ElemR (plainElem P E) Value.bool (fun z => .lit (.bool z)) (fun _ => True) where
  make z _ := ⟨[], plainElem_bool he z⟩
  inv x d ps h := by
    unfold plainElem at h
    rw [he] at h
    cases x <;> simp at h
    obtain ⟨rfl, _⟩ := h
    exact ⟨_, trivial, rfl, rfl⟩
  inj a b h := by injection h with h; injection h

/-- A pointer to a block's head, or nil. -/
def ptrV : Option Nat → Value
  | none => .pointer none
  | some b => .pointer (some ⟨b, 0, none⟩)
def ptrD : Option Nat → DataW Unit
  | none => .lit (.bool false)
  | some b => .lit (.int .i64 (b : Int))
def ptrElem : Value → Option (DataW Unit × List MemPlace)
  | .pointer none => some (.lit (.bool false), [])
  | .pointer (some ⟨b, 0, none⟩) => some (.lit (.int .i64 (b : Int)), [])
  | _ => none
theorem elemPtr : ElemR ptrElem ptrV ptrD (fun _ => True) where
  make v _ := by cases v <;> exact ⟨[], rfl⟩
  inv x d ps h := by
    unfold ptrElem at h
    split at h
    · injection h with h; injection h with h1 h2; exact ⟨none, trivial, rfl, h1.symm⟩
    · rename_i b
      injection h with h; injection h with h1 h2; exact ⟨some b, trivial, rfl, h1.symm⟩
    · cases h
  inj a b h := by
    cases a <;> cases b <;> simp [ptrD] at h <;> first | rfl | (congr 1; omega)

section
variable {κ V : Type} {P : Program} {K : TypeId} {ek : κ → Value} {dom : κ → Prop} {R : Value → Option (DataW Unit × List MemPlace)} {ev : V → Value} {dv : V → DataW Unit} {okv : V → Prop}

structure MgD (P : Program) (K : TypeId) (ek : κ → Value) (dom : κ → Prop) (dv : V → DataW Unit) (D : DataW Unit) (f : κ → Option V) : Prop where
  isMap : IsMap D
  at_ : ∀ k l, dom k → keyOf P K (ek k) = some l → ∀ z, D.atKey l z = (match f k with | some v => dv v | none => z)
  keys : ∀ l, has D l = true → ∃ k, dom k ∧ keyOf P K (ek k) = some l
  dm : ∀ k, (f k).isSome = true → dom k
/-- Block b is a map that holds f k at key k, if it has the key at all. -/
def MgI (P : Program) (K : TypeId) (ek : κ → Value) (dom : κ → Prop) (R : Value → Option (DataW Unit × List MemPlace)) (dv : V → DataW Unit) (w : World) (b n : Nat) (f : κ → Option V) : Prop :=
  ∃ D : DataW Unit, w.ownsMap P K R b n D ∧ MgD P K ek dom dv D f
theorem MgI.lt {w : World} {b n : Nat} {f : κ → Option V} (h : MgI P K ek dom R dv w b n f) : b < w.heap.size := by
  obtain ⟨D, h1, _⟩ := h; exact h1.lt
theorem MgI.grown {w w' : World} {b n : Nat} {row : Option Nat} {f : κ → Option V} (h : MgI P K ek dom R dv w b n f) (hg : w.grownBy w' row) (hne : some b ≠ row) : MgI P K ek dom R dv w' b n f := by
  obtain ⟨D, h1, h2⟩ := h
  exact ⟨D, h1.kept hg hne, h2⟩
theorem MgI.nx {w w' : World} {b n : Nat} {f : κ → Option V} (h : MgI P K ek dom R dv w b n f) (hn : Nx w w') : MgI P K ek dom R dv w' b n f := h.grown (hn.gr none) (by simp)
theorem MgI.gr {w w' : World} {b n s : Nat} {f : κ → Option V} (h : MgI P K ek dom R dv w b n f) (hn : Gr s w w') (hs : b ≠ s) : MgI P K ek dom R dv w' b n f := h.grown (row := some s) hn (by simpa using hs)
theorem MgI.mono {w : World} {b n n' : Nat} {f : κ → Option V} (h : MgI P K ek dom R dv w b n f) (hn : n ≤ n') : MgI P K ek dom R dv w b n' f := by
  obtain ⟨D, h1, h2⟩ := h; exact ⟨D, h1.mono hn, h2⟩
theorem MgI.made (w : World) : MgI P K ek dom R dv (w.alloc (.map #[] 0)) w.heap.size 0 (fun _ : κ => (none : Option V)) :=
  ⟨.map [], World.ownsMap_made w P K _, isMap_empty, fun _ _ _ _ _ => rfl, fun l h => (by simp [has_eq] at h), fun k h => by cases h⟩
/-- A new map, wherever it came. -/
theorem MgI.fresh {w : World} {b : Nat} (hb : w.heap[b]? = some (.map #[] 0)) : MgI P K ek dom R dv w b 0 (fun _ : κ => (none : Option V)) :=
  ⟨.map [], ⟨#[], 0, hb, by
    obtain ⟨es, clock, h1, h2, _⟩ := World.ownsMap_made w P K R
    have e : (w.alloc (.map #[] 0)).heap[w.heap.size]? = some (.map #[] 0) := heap_alloc_new w _
    rw [e] at h1
    injection h1 with h1; injection h1 with h3 h4
    subst h3 h4
    exact h2, Nat.le_refl _, rfl⟩, isMap_empty, fun _ _ _ _ _ => rfl, fun l h => (by simp [has_eq] at h), fun k h => by cases h⟩
theorem MgD.has_ {D : DataW Unit} {f : κ → Option V} (h : MgD P K ek dom dv D f) {k : κ} (hd : dom k) {l : Lit} (hkey : keyOf P K (ek k) = some l) : has D l = (f k).isSome := by
  have e := h.at_ k l hd hkey
  cases hf : f k with
  | none => rw [hf] at e; exact has_false_of_atKey e
  | some v => rw [hf] at e; exact has_true_of_atKey e
/-- 'm[k]'. -/
theorem MgI.look (ER : ElemR R ev dv okv) {w : World} {b n : Nat} {f : κ → Option V} {t E : TypeId} (h : MgI P K ek dom R dv w b n f) (KL : Keyed P K) (ht : P.underlying t = some (.map K E)) {z : V} (hzo : okv z) (hz : (zeroValue E).run P w = .ok (ev z) w)
    {k : κ} (hd : dom k) {l : Lit} (hkey : keyOf P K (ek k) = some l) : (Instr.lookup t (.map (some b)) (ek k) false).run P w = .ok (ev ((f k).getD z)) w ∧ okv ((f k).getD z) := by
  obtain ⟨D, h1, h2⟩ := h
  obtain ⟨ps0, hzd⟩ := ER.make z hzo
  obtain ⟨v, ps, hrun, hv⟩ := h1.lookup KL ht hz hzd hkey
  obtain ⟨v', ho, rfl, e1⟩ := ER.inv _ _ _ hv
  have e := h2.at_ k l hd hkey (dv z)
  have e2 : v' = (f k).getD z := by
    rw [e1] at e
    cases hf : f k with
    | none => rw [hf] at e; exact ER.inj _ _ e
    | some u => rw [hf] at e; exact ER.inj _ _ e
  subst e2
  exact ⟨hrun, ho⟩
/-- 'v, is := m[k]'. -/
theorem MgI.look_ok (ER : ElemR R ev dv okv) {w : World} {b n : Nat} {f : κ → Option V} {t E : TypeId} (h : MgI P K ek dom R dv w b n f) (KL : Keyed P K) (ht : P.underlying t = some (.map K E)) {z : V} (hzo : okv z) (hz : (zeroValue E).run P w = .ok (ev z) w)
    {k : κ} (hd : dom k) {l : Lit} (hkey : keyOf P K (ek k) = some l) : (Instr.lookup t (.map (some b)) (ek k) true).run P w = .ok (.tuple #[ev ((f k).getD z), .bool (f k).isSome]) w ∧ okv ((f k).getD z) := by
  obtain ⟨D, h1, h2⟩ := h
  obtain ⟨ps0, hzd⟩ := ER.make z hzo
  obtain ⟨v, ps, hrun, hv⟩ := h1.look_ok KL ht hz hzd hkey
  obtain ⟨v', ho, rfl, e1⟩ := ER.inv _ _ _ hv
  have e := h2.at_ k l hd hkey (dv z)
  have e2 : v' = (f k).getD z := by
    rw [e1] at e
    cases hf : f k with
    | none => rw [hf] at e; exact ER.inj _ _ e
    | some u => rw [hf] at e; exact ER.inj _ _ e
  subst e2
  rw [h2.has_ hd hkey] at hrun
  exact ⟨hrun, ho⟩
theorem MgD.put [DecidableEq κ] {D : DataW Unit} {f : κ → Option V} (h : MgD P K ek dom dv D f) (KL : Keyed P K) (hinj : ∀ a b : κ, ek a = ek b → a = b) {k : κ} (hd : dom k) {l : Lit} (hkey : keyOf P K (ek k) = some l) (v : V) :
    MgD P K ek dom dv (D.put l (dv v)) (fun k' => if k' = k then some v else f k') where
  isMap := h.isMap.put _ _
  at_ k' l' hd' hk' z := by
    by_cases e : k' = k
    · subst e
      rw [hkey] at hk'; injection hk' with hk'; subst hk'
      rw [if_pos rfl]
      exact atKey_put_same h.isMap (KL.key hkey) _ _
    · rw [if_neg e]
      have hne : l' ≠ l := fun e1 => by subst e1; exact e (hinj _ _ (KL.inj hk' hkey))
      rw [atKey_put_other hne]
      exact h.at_ k' l' hd' hk' z
  keys l' hl' := by
    by_cases e : l' = l
    · subst e; exact ⟨k, hd, hkey⟩
    · rw [has_put_other e] at hl'; exact h.keys l' hl'
  dm k' hk' := by
    by_cases e : k' = k
    · subst e; exact hd
    · rw [if_neg e] at hk'; exact h.dm k' hk'
/-- 'm[k] = v'. -/
theorem MgI.upd [DecidableEq κ] (ER : ElemR R ev dv okv) {w : World} {b n : Nat} {f : κ → Option V} {t E : TypeId} (h : MgI P K ek dom R dv w b n f) (KL : Keyed P K) (hinj : ∀ a b : κ, ek a = ek b → a = b) (ht : P.underlying t = some (.map K E)) (hn : n < maxLen)
    {k : κ} (hd : dom k) {l : Lit} (hkey : keyOf P K (ek k) = some l) (v : V) (hv : okv v) :
    ∃ w', (Instr.mapUpdate t (.map (some b)) (ek k) (ev v)).run P w = .ok () w' ∧ MgI P K ek dom R dv w' b (n + 1) (fun k' => if k' = k then some v else f k') ∧ Gr b w w' := by
  obtain ⟨D, h1, h2⟩ := h
  obtain ⟨ps, hR⟩ := ER.make v hv
  obtain ⟨w', hr, ho, hg⟩ := h1.update KL ht hn hkey hR
  exact ⟨w', hr, ⟨_, ho, h2.put KL hinj hd hkey v⟩, hg⟩
/-- 'm[k]' at the operation. -/
theorem wpMgLook (w : World) {ops : Array Oper} {rest : List Oper} {o : Oper} {a : Act} {Q : Exit → Act → World → Prop}
    (hg : o.guard = none) (m x : Operand) (t : TypeId) (hop : o.op = Op.lookup t m x false) (ER : ElemR R ev dv okv) {E : TypeId}
    (KL : Keyed P K) (ht : P.underlying t = some (.map K E)) {z : V} (hzo : okv z) (hz : (zeroValue E).run P w = .ok (ev z) w) (b n : Nat) (f : κ → Option V)
    (hm : a.eval m = .map (some b)) (hown : MgI P K ek dom R dv w b n f) (k : κ) (hx : a.eval x = ek k) (hd : dom k) (l : Lit) (hkey : keyOf P K (ek k) = some l)
    (hK : wpList P ops Q rest (a.put o.dst (ev ((f k).getD z))) w) :
    wpList P ops Q (o :: rest) a w := by
  refine wpList_plain hg fun K' hK' => ?_
  obtain ⟨hrun, hwf⟩ := hown.look ER KL ht hzo hz hd hkey
  unfold Oper.wp
  simp [execOp, hop, hm, hx, hrun, Result.andThen]
  exact hK' _ _ hK
/-- 'v, is := m[k]' at the operation. -/
theorem wpMgLookOk (w : World) {ops : Array Oper} {rest : List Oper} {o : Oper} {a : Act} {Q : Exit → Act → World → Prop}
    (hg : o.guard = none) (m x : Operand) (t : TypeId) (hop : o.op = Op.lookup t m x true) (ER : ElemR R ev dv okv) {E : TypeId}
    (KL : Keyed P K) (ht : P.underlying t = some (.map K E)) {z : V} (hzo : okv z) (hz : (zeroValue E).run P w = .ok (ev z) w) (b n : Nat) (f : κ → Option V)
    (hm : a.eval m = .map (some b)) (hown : MgI P K ek dom R dv w b n f) (k : κ) (hx : a.eval x = ek k) (hd : dom k) (l : Lit) (hkey : keyOf P K (ek k) = some l)
    (hK : wpList P ops Q rest (a.put o.dst (.tuple #[ev ((f k).getD z), .bool (f k).isSome])) w) :
    wpList P ops Q (o :: rest) a w := by
  refine wpList_plain hg fun K' hK' => ?_
  obtain ⟨hrun, hwf⟩ := hown.look_ok ER KL ht hzo hz hd hkey
  unfold Oper.wp
  simp [execOp, hop, hm, hx, hrun, Result.andThen]
  exact hK' _ _ hK
/-- 'm[k] = v' at the operation. -/
theorem wpMgPut [DecidableEq κ] (w : World) {ops : Array Oper} {rest : List Oper} {o : Oper} {a : Act} {Q : Exit → Act → World → Prop}
    (hg : o.guard = none) (m x v : Operand) (t : TypeId) (hop : o.op = Op.mapUpdate t m x v) (ER : ElemR R ev dv okv) {E : TypeId}
    (KL : Keyed P K) (hinj : ∀ a b : κ, ek a = ek b → a = b) (ht : P.underlying t = some (.map K E)) (b n : Nat) (f : κ → Option V)
    (hm : a.eval m = .map (some b)) (hown : MgI P K ek dom R dv w b n f) (hn : n < maxLen) (k : κ) (hx : a.eval x = ek k) (hd : dom k) (l : Lit) (hkey : keyOf P K (ek k) = some l)
    (z : V) (hz : a.eval v = ev z) (hwf : okv z)
    (hK : ∀ w', MgI P K ek dom R dv w' b (n + 1) (fun k' => if k' = k then some z else f k') → Gr b w w' → wpList P ops Q rest (a.put o.dst undef) w') :
    wpList P ops Q (o :: rest) a w := by
  refine wpList_plain hg fun K' hK' => ?_
  obtain ⟨w', hrun, r1, r2⟩ := hown.upd ER KL hinj ht hn hd hkey z hwf
  unfold Oper.wp
  simp [execOp, hop, hm, hx, hz, hrun, Result.andThen]
  exact hK' _ _ (hK w' r1 r2)
/-- The number of entries: no more than n. -/
theorem MgI.size {w : World} {b n : Nat} {f : κ → Option V} (h : MgI P K ek dom R dv w b n f) {t E : TypeId} (ht : P.underlying t = some (.map K E)) (ty : TypeId) : ∃ m : Nat, m ≤ n ∧ (Builtin.len_ #[t] ty #[.map (some b)]).run P w = .ok (.int .i64 (m : Int)) w := by
  obtain ⟨D, h1, h2⟩ := h
  refine ⟨Maps.size D, ?_, by simpa using h1.len ht ty⟩
  obtain ⟨es, clock, _, _, h3, rfl⟩ := h1
  rw [size_eq, length_sorted]; simpa using h3
end
end Go.Proofs.YtbjbeddjaajdaaaGreatDoor
/- A map of integers in which it counts whether a key is there, said of a plain function. Of no program. -/
namespace Go.Proofs.YtbjbeddjaajdaaaGreatDoor
open Go.RowKit Go.Maps

section
variable {κ : Type} {P : Program} {K E : TypeId} {ek : κ → Value} {dom : κ → Prop}

/-- The map's datum D holds f k at key k, if it has the key at all; its keys lie in dom. -/
structure MoD (P : Program) (K : TypeId) (ek : κ → Value) (dom : κ → Prop) (D : DataW Unit) (f : κ → Option Int) : Prop where
  isMap : IsMap D
  at_ : ∀ k l, dom k → keyOf P K (ek k) = some l → ∀ z, D.atKey l z = (match f k with | some v => .lit (.int .i64 v) | none => z)
  keys : ∀ l, has D l = true → ∃ k, dom k ∧ keyOf P K (ek k) = some l
  dm : ∀ k, (f k).isSome = true → dom k

/-- Block b is such a map. -/
def MoI (P : Program) (K E : TypeId) (ek : κ → Value) (dom : κ → Prop) (w : World) (b n : Nat) (f : κ → Option Int) : Prop :=
  ∃ D : DataW Unit, w.ownsMap P K (plainElem P E) b n D ∧ MoD P K ek dom D f

theorem MoI.lt {w : World} {b n : Nat} {f : κ → Option Int} (h : MoI P K E ek dom w b n f) : b < w.heap.size := by
  obtain ⟨D, h1, _⟩ := h; exact h1.lt
theorem MoI.nx {w w' : World} {b n : Nat} {f : κ → Option Int} (h : MoI P K E ek dom w b n f) (hn : Nx w w') : MoI P K E ek dom w' b n f := by
  obtain ⟨D, h1, h2⟩ := h
  exact ⟨D, h1.kept (hn.gr none) (by simp), h2⟩
theorem MoI.gr {w w' : World} {b n s : Nat} {f : κ → Option Int} (h : MoI P K E ek dom w b n f) (hn : Gr s w w') (hs : b ≠ s) : MoI P K E ek dom w' b n f := by
  obtain ⟨D, h1, h2⟩ := h
  exact ⟨D, h1.kept (row := some s) hn (by simpa using hs), h2⟩
theorem MoI.mono {w : World} {b n n' : Nat} {f : κ → Option Int} (h : MoI P K E ek dom w b n f) (hn : n ≤ n') : MoI P K E ek dom w b n' f := by
  obtain ⟨D, h1, h2⟩ := h; exact ⟨D, h1.mono hn, h2⟩
theorem MoI.made (w : World) : MoI P K E ek dom (w.alloc (.map #[] 0)) w.heap.size 0 (fun _ => none) :=
  ⟨.map [], World.ownsMap_made w P K _, isMap_empty, fun _ _ _ _ _ => rfl, fun l h => (by simp [has_eq] at h), fun k h => by cases h⟩
theorem wf_i64o {n : Int} : (Lit.int .i64 n).wf = true ↔ -9223372036854775808 ≤ n ∧ n ≤ 9223372036854775807 := by
  simp [Lit.wf, IntKind.min, IntKind.max, IntKind.signed, IntKind.bits]
theorem MoD.has_ {D : DataW Unit} {f : κ → Option Int} (h : MoD P K ek dom D f) {k : κ} (hd : dom k) {l : Lit} (hkey : keyOf P K (ek k) = some l) : has D l = (f k).isSome := by
  have e := h.at_ k l hd hkey
  cases hf : f k with
  | none => rw [hf] at e; exact has_false_of_atKey e
  | some v => rw [hf] at e; exact has_true_of_atKey e

theorem MoI.look {w : World} {b n : Nat} {f : κ → Option Int} {t : TypeId} (h : MoI P K E ek dom w b n f) (KL : Keyed P K) (ht : P.underlying t = some (.map K E)) (he : P.underlying E = some (.int .i64)) (hz : (zeroValue E).run P w = .ok (.int .i64 0) w)
    {k : κ} (hd : dom k) {l : Lit} (hkey : keyOf P K (ek k) = some l) : (Instr.lookup t (.map (some b)) (ek k) false).run P w = .ok (.int .i64 ((f k).getD 0)) w ∧ (Lit.int .i64 ((f k).getD 0)).wf = true := by
  obtain ⟨D, h1, h2⟩ := h
  obtain ⟨c, hrun, hat, hwf⟩ := h1.lookup_int KL ht he hz hkey
  have e := h2.at_ k l hd hkey (.lit (.int .i64 0))
  rw [hat] at e
  have e' : c = (f k).getD 0 := by
    cases hf : f k with
    | none => rw [hf] at e; injection e with e; injection e
    | some v => rw [hf] at e; injection e with e; injection e
  subst e'
  exact ⟨hrun, hwf⟩

theorem MoD.put {D : DataW Unit} {f : κ → Option Int} [DecidableEq κ] (h : MoD P K ek dom D f) (KL : Keyed P K) (hinj : ∀ a b : κ, ek a = ek b → a = b) {k : κ} (hd : dom k) {l : Lit} (hkey : keyOf P K (ek k) = some l) (v : Int) :
    MoD P K ek dom (D.put l (.lit (.int .i64 v))) (fun k' => if k' = k then some v else f k') where
  isMap := h.isMap.put _ _
  at_ k' l' hd' hk' z := by
    by_cases e : k' = k
    · subst e
      rw [hkey] at hk'; injection hk' with hk'; subst hk'
      rw [if_pos rfl]
      exact atKey_put_same h.isMap (KL.key hkey) _ _
    · rw [if_neg e]
      have hne : l' ≠ l := fun e1 => by subst e1; exact e (hinj _ _ (KL.inj hk' hkey))
      rw [atKey_put_other hne]
      exact h.at_ k' l' hd' hk' z
  keys l' hl' := by
    by_cases e : l' = l
    · subst e; exact ⟨k, hd, hkey⟩
    · rw [has_put_other e] at hl'; exact h.keys l' hl'
  dm k' hk' := by
    by_cases e : k' = k
    · subst e; exact hd
    · rw [if_neg e] at hk'; exact h.dm k' hk'

/-- 'm[k] = v'. -/
theorem MoI.upd {w : World} {b n : Nat} {f : κ → Option Int} [DecidableEq κ] {t : TypeId} (h : MoI P K E ek dom w b n f) (KL : Keyed P K) (hinj : ∀ a b : κ, ek a = ek b → a = b) (ht : P.underlying t = some (.map K E)) (he : P.underlying E = some (.int .i64)) (hn : n < maxLen)
    {k : κ} (hd : dom k) {l : Lit} (hkey : keyOf P K (ek k) = some l) (v : Int) (hv : (Lit.int .i64 v).wf = true) :
    ∃ w', (Instr.mapUpdate t (.map (some b)) (ek k) (.int .i64 v)).run P w = .ok () w' ∧ MoI P K E ek dom w' b (n + 1) (fun k' => if k' = k then some v else f k') ∧ Gr b w w' := by
  obtain ⟨D, h1, h2⟩ := h
  obtain ⟨w', hr, ho, hg⟩ := h1.update KL ht hn hkey (plainElem_int (H := Unit) he hv)
  exact ⟨w', hr, ⟨_, ho, h2.put KL hinj hd hkey v⟩, hg⟩

/-- 'm[k]' at the operation. -/
theorem wpMoLook (w : World) {ops : Array Oper} {rest : List Oper} {o : Oper} {a : Act} {Q : Exit → Act → World → Prop}
    (hg : o.guard = none) (m x : Operand) (t : TypeId) (hop : o.op = Op.lookup t m x false)
    (KL : Keyed P K) (ht : P.underlying t = some (.map K E)) (he : P.underlying E = some (.int .i64)) (hz : (zeroValue E).run P w = .ok (.int .i64 0) w) (b n : Nat) (f : κ → Option Int)
    (hm : a.eval m = .map (some b)) (hown : MoI P K E ek dom w b n f) (k : κ) (hx : a.eval x = ek k) (hd : dom k) (l : Lit) (hkey : keyOf P K (ek k) = some l)
    (hK : (Lit.int .i64 ((f k).getD 0)).wf = true → wpList P ops Q rest (a.put o.dst (.int .i64 ((f k).getD 0))) w) :
    wpList P ops Q (o :: rest) a w := by
  refine wpList_plain hg fun K' hK' => ?_
  obtain ⟨hrun, hwf⟩ := hown.look KL ht he hz hd hkey
  unfold Oper.wp
  simp [execOp, hop, hm, hx, hrun, Result.andThen]
  exact hK' _ _ (hK hwf)

/-- 'm[k] = v' at the operation. -/
theorem wpMoPut [DecidableEq κ] (w : World) {ops : Array Oper} {rest : List Oper} {o : Oper} {a : Act} {Q : Exit → Act → World → Prop}
    (hg : o.guard = none) (m x v : Operand) (t : TypeId) (hop : o.op = Op.mapUpdate t m x v)
    (KL : Keyed P K) (hinj : ∀ a b : κ, ek a = ek b → a = b) (ht : P.underlying t = some (.map K E)) (he : P.underlying E = some (.int .i64)) (b n : Nat) (f : κ → Option Int)
    (hm : a.eval m = .map (some b)) (hown : MoI P K E ek dom w b n f) (hn : n < maxLen) (k : κ) (hx : a.eval x = ek k) (hd : dom k) (l : Lit) (hkey : keyOf P K (ek k) = some l)
    (z : Int) (hz : a.eval v = .int .i64 z) (hwf : (Lit.int .i64 z).wf = true)
    (hK : ∀ w', MoI P K E ek dom w' b (n + 1) (fun k' => if k' = k then some z else f k') → Gr b w w' → wpList P ops Q rest (a.put o.dst undef) w') :
    wpList P ops Q (o :: rest) a w := by
  refine wpList_plain hg fun K' hK' => ?_
  obtain ⟨w', hrun, r1, r2⟩ := hown.upd KL hinj ht he hn hd hkey z hwf
  unfold Oper.wp
  simp [execOp, hop, hm, hx, hz, hrun, Result.andThen]
  exact hK' _ _ (hK w' r1 r2)
end
end Go.Proofs.YtbjbeddjaajdaaaGreatDoor
/- Sums by key that a loop over a map collects. Of no program. -/
namespace Go.Proofs.YtbjbeddjaajdaaaGreatDoor
open Go.RowKit Go.Sort Go.Maps Go.Proofs Go.Shelf

def domS (k : ByteArray) : Prop := k.size ≤ maxLen
def litS (k : ByteArray) : Lit := .string k.data.toList
theorem litS_inj {a b : ByteArray} (h : litS a = litS b) : a = b := data_inj (by unfold litS at h; injection h)
theorem keyS_mk {P : Program} {k : TypeId} (hk : P.underlying k = some .string) {s : ByteArray} (hs : domS s) : keyOf P k (.string s) = some (litS s) := by
  unfold domS at hs
  simp [keyOf, hk, mapKey, hs, litS]
theorem keyS_inv {P : Program} {k : TypeId} (hk : P.underlying k = some .string) {key : Value} {kl : Lit} (h : keyOf P k key = some kl) : ∃ s, key = .string s ∧ domS s ∧ kl = litS s := by
  cases key <;> simp [keyOf, hk, mapKey] at h
  obtain ⟨h1, rfl⟩ := h
  exact ⟨_, rfl, h1, rfl⟩
theorem strV_inj (a b : ByteArray) (h : Value.string a = Value.string b) : a = b := by injection h
theorem sameS_self (s : ByteArray) : (litS s).sameKey (litS s) = true := by simp [litS, Lit.sameKey]

/-- What has been collected while some entries are still to come. -/
structure CollK (f : ByteArray → Option Int) (zero : Bool) (left : Lit → Bool) (L : List Due) : Prop where
  val : ∀ d ∈ L, f d.key = some d.cents ∧ (d.cents ≠ 0 ∨ zero = true)
  gone : ∀ d ∈ L, left (litS d.key) = false
  all_ : ∀ k v, f k = some v → (v ≠ 0 ∨ zero = true) → left (litS k) = false → (⟨k, v⟩ : Due) ∈ L
  nodup : (L.map Due.key).Nodup

theorem collK_start {f : ByteArray → Option Int} {zero : Bool} {left : Lit → Bool} (h : ∀ k, (f k).isSome = true → left (litS k) = true) : CollK f zero left [] :=
  ⟨by simp, by simp, fun k v h1 _ h2 => (by rw [h k (by rw [h1]; rfl)] at h2; cases h2), by simp⟩
theorem collK_step {f : ByteArray → Option Int} {zero : Bool} {left : Lit → Bool} {L : List Due} (h : CollK f zero left L) {k : ByteArray} {v : Int} (hv : f k = some v) (hl : left (litS k) = true)
    (L' : List Due) (hL : L' = if v ≠ 0 ∨ zero = true then L ++ [⟨k, v⟩] else L) : CollK f zero (fun z => left z && !z.sameKey (litS k)) L' := by
  have hself := sameS_self k
  refine ⟨?_, ?_, ?_, ?_⟩
  · intro t ht
    rw [hL] at ht
    split at ht
    · rcases List.mem_append.1 ht with ht | ht
      · exact h.val t ht
      · simp at ht; subst ht; exact ⟨hv, by assumption⟩
    · exact h.val t ht
  · intro t ht
    rw [hL] at ht
    have old : t ∈ L → (left (litS t.key) && !(litS t.key).sameKey (litS k)) = false := fun ht => by rw [h.gone t ht]; rfl
    split at ht
    · rcases List.mem_append.1 ht with ht | ht
      · exact old ht
      · simp at ht; subst ht
        show (left (litS k) && !(litS k).sameKey (litS k)) = false
        rw [hself]; simp
    · exact old ht
  · intro k' v' hv' hz hlf
    by_cases e : k' = k
    · subst e
      rw [hv] at hv'; injection hv' with hv'; subst hv'
      rw [hL, if_pos hz]; simp
    · have hs : (litS k').sameKey (litS k) = false := sameKey_ne (fun e1 => e (litS_inj e1))
      rw [hs] at hlf
      have := h.all_ k' v' hv' hz (by simpa using hlf)
      rw [hL]; split
      · exact List.mem_append_left _ this
      · exact this
  · rw [hL]; split
    · rw [List.map_append, List.nodup_append]
      refine ⟨h.nodup, by simp, fun a ha b hb e => ?_⟩
      simp at hb; subst hb; subst e
      obtain ⟨t, ht, e2⟩ := List.mem_map.1 ha
      have := h.gone t ht
      rw [show t.key = a from e2, hl] at this; cases this
    · exact h.nodup
theorem collK_end {f : ByteArray → Option Int} {zero : Bool} {left : Lit → Bool} {L : List Due} (h : CollK f zero left L) (hl : ∀ kl, left kl = false) {ys : List Due} (hp : ys.Perm L)
    (hs : ∀ i j (hi : i < j) (hj : j < ys.length), ltOf dueC ys[j] (ys[i]'(by omega)) = false) : DuesOf f zero ys := by
  refine ⟨?_, fun d => ?_⟩
  · have hnd : (ys.map Due.key).Nodup := (hp.map Due.key).nodup_iff.2 h.nodup
    rw [List.pairwise_iff_getElem]
    intro i j hi hj hij
    have h1 := hs i j hij hj
    have h2 : ys[i].key ≠ ys[j].key := fun e => by
      have := (List.nodup_iff_pairwise_ne.1 hnd)
      rw [List.pairwise_iff_getElem] at this
      exact this i j (by simpa using hi) (by simpa using hj) hij (by simpa using e)
    rw [due_nlt] at h1
    refine Classical.byContradiction fun hn => h2 (ltS_tri _ _ hn h1)
  · rw [hp.mem_iff]
    constructor
    · intro hd; exact h.val d hd
    · rintro ⟨h1, h2⟩
      exact h.all_ d.key d.cents h1 h2 (hl _)
end Go.Proofs.YtbjbeddjaajdaaaGreatDoor
