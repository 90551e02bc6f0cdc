/- Roads: the program's check, in general. -/
import Derived.Test.YtepbamacebjopaaGreatDoorQG8
import Derived.Deep.RegionHeld3
import Derived.Deep.DeepCutAuto
namespace Go.Proofs.YtepbamacebjopaaGreatDoor
open Go.RowKit

/-- Arcs, each one's knots in a row of its own. -/
def RdArcs (w : World) (lo : Nat) (A : Option Addr) (l : List Arc) : Prop :=
  Rd w lo A 5 encArc l ∧ ∀ a ∈ l, Rd w lo a.ka 2 encKnot a.knots ∧ a.knots.length ≤ 400 ∧ a.key.size ≤ 1000000
theorem RdArcs.nx {w w' : World} {lo : Nat} {A : Option Addr} {l : List Arc} (h : RdArcs w lo A l) (hn : Nx w w') : RdArcs w' lo A l :=
  ⟨h.1.nx hn, fun x hx => ⟨(h.2 x hx).1.nx hn, (h.2 x hx).2⟩⟩
theorem RdArcs.gr {s : Nat} {w w' : World} {lo : Nat} {A : Option Addr} {l : List Arc} (h : RdArcs w lo A l) (hn : Gr s w w') (hs : s < lo) : RdArcs w' lo A l :=
  ⟨h.1.gr hn hs, fun x hx => ⟨(h.2 x hx).1.gr hn hs, (h.2 x hx).2⟩⟩
theorem RdArcs.low {w : World} {lo lo' : Nat} {A : Option Addr} {l : List Arc} (h : RdArcs w lo A l) (hl : lo' ≤ lo) : RdArcs w lo' A l :=
  ⟨h.1.low hl, fun x hx => ⟨(h.2 x hx).1.low hl, (h.2 x hx).2⟩⟩
/-- Is the arc not behind the one ahead of it? -/
def arcBad (rs : List Arc) (k : Nat) : Bool := match prevOf rs k with | some q => strLe (rs.getD k default).key q.key | none => false
theorem arcF_at (ns : List Node) (rs : List Arc) (k : Nat) (hk : k < rs.length) : arcF ns (prevOf rs k) rs[k] = if keyB rs[k].key then (if arcBad rs k then 7 else arcG ns rs[k]) else 5 := by
  have e : rs.getD k default = rs[k] := by rw [List.getD_eq_getElem?_getD, List.getElem?_eq_getElem hk]; rfl
  unfold arcF arcBad
  rw [e]
  cases prevOf rs k with
  | none => simp
  | some q => rfl
def banBad (bs : List Ban) (k : Nat) : Bool := match prevOf bs k with | some q => decide (banC (bs.getD k default) q ≤ 0) | none => false
theorem banF_at (rs : List Arc) (bs : List Ban) (k : Nat) (hk : k < bs.length) : banF rs (prevOf bs k) bs[k] = if banG rs bs[k] = 0 then (if banBad bs k then 7 else 0) else banG rs bs[k] := by
  have e : bs.getD k default = bs[k] := by rw [List.getD_eq_getElem?_getD, List.getElem?_eq_getElem hk]; rfl
  unfold banF banBad
  rw [e]
  cases prevOf bs k with
  | none => simp
  | some q => simp
theorem arcG_none {ns : List Node} {a : Arc} (h : nodeI ns a.from_ < 0 ∨ nodeI ns a.to_ < 0) : arcG ns a = 8 := by unfold arcG; rw [if_pos h]
theorem arcG_twice {ns : List Node} {a : Arc} (h1 : 0 ≤ nodeI ns a.from_) (h2 : 0 ≤ nodeI ns a.to_) (h : a.from_ = a.to_) : arcG ns a = 6 := by unfold arcG; rw [if_neg (by omega), if_pos h]
theorem arcG_long {ns : List Node} {a : Arc} (h1 : 0 ≤ nodeI ns a.from_) (h2 : 0 ≤ nodeI ns a.to_) (h : a.from_ ≠ a.to_) (hl : outB a.long 1 1000000 = true) : arcG ns a = 1 := by unfold arcG; rw [if_neg (by omega), if_neg h, if_pos hl]
theorem arcG_knots {ns : List Node} {a : Arc} (h1 : 0 ≤ nodeI ns a.from_) (h2 : 0 ≤ nodeI ns a.to_) (h : a.from_ ≠ a.to_) (hl : outB a.long 1 1000000 = false) : arcG ns a = knotsF a.knots := by unfold arcG; rw [if_neg (by omega), if_neg h, if_neg (by simp [hl])]

set_option maxRecDepth 100000 in
set_option maxHeartbeats 4000000 in
theorem w_CheckRoads (lo lo' lo'' : Nat) (A B C : Option Addr) (ca cb cc : Nat) (ns : List Node) (rs : List Arc) (bs : List Ban) (w : World)
    (hN : Rd w lo A 3 encNode ns) (hS : SmallN ns) (hnl : ns.length ≤ 400) (hA : RdArcs w lo' B rs) (hal : rs.length ≤ 400) (hB : Rd w lo'' C 2 encBan bs) (hbl : bs.length ≤ 400) :
    Calls Tryz.prog 32 #[.agg #[.slice A ns.length ca, .slice B rs.length cb, .slice C bs.length cc]] w fun e w' => e = .returned (.int .i64 (roadsF ns rs bs)) ∧ Nx w w' := by
  obtain ⟨wa, hwa⟩ : ∃ wa, wa = w.alloc (.cells #[.slice A ns.length ca, .slice B rs.length cb, .slice C bs.length cc] 30) := ⟨_, rfl⟩
  have hna : Nx w wa := hwa ▸ (Nx.refl w).alloc _
  have hgw : w.heap.size < wa.heap.size := by rw [hwa]; simp
  have b0 : wa.cell? ⟨w.heap.size, 0, none⟩ = some (.slice A ns.length ca) := by rw [hwa]; go_simp
  have b1 : wa.cell? ⟨w.heap.size, 1, none⟩ = some (.slice B rs.length cb) := by rw [hwa]; go_simp
  have b2 : wa.cell? ⟨w.heap.size, 2, none⟩ = some (.slice C bs.length cc) := by rw [hwa]; go_simp
  have HNF := hide (w_nodesFaultR lo A ca ns wa (hN.nx hna) hS (by omega))
  have HND := hide (fun (hso : SortN ns) s W (hx : Nx wa W) => w_nodeR w.heap.size lo A ca ns s W (nx_cell hx hgw b0) ((hN.nx hna).nx hx) (by omega) hso)
  have HAR := hide (fun (hso : SortA rs) s W (hx : Nx wa W) => w_arcR w.heap.size lo' B cb rs s W (nx_cell hx hgw b1) ((hA.1.nx hna).nx hx) (by omega) hso)
  have HRA := hide (hA.nx hna).1
  have HKN := hide (hA.nx hna).2
  have HRB := hide (hB.nx hna)
  by_cases hn0 : nodesF ns = 0
  · have HRF := hide (show roadsF ns rs bs = if chk (arcF ns) none rs = 0 then chk (banF rs) none bs else chk (arcF ns) none rs by unfold roadsF; rw [if_pos hn0])
    have HND := hide (fun s W (hx : Nx wa W) => HND.out (sortN_of hn0) s W hx)
    rw [hn0] at HNF
    clear hN hS hA hB hn0
    generalize roadsF ns rs bs = V at *
    generalize hrl : rs.length = n at *
    generalize hbl' : bs.length = m at *
    have HRL := hide hrl
    have HBL := hide hbl'
    clear hrl hbl'
    go_enter Tryz.func32, Tryz.ntmps32
    go_wp2_with fail
    rw [← hwa]
    refine HNF.out.mono ?_
    rintro e w1 ⟨rfl, hn1⟩
    have HWA := hide hwa
    clear hwa HNF
    have B1 := nx_cell hn1 hgw b1
    have tn : decide ((n : Int) > 2000) = false := decide_eq_false (by omega)
    have tm : decide ((m : Int) > 1000) = false := decide_eq_false (by omega)
    generalize w.heap.size = gb at *
    clear b0
    go_wp2_with fail
    clear B1
    go_loopw [24] (fun i wr => ∃ k : Nat, k ≤ n ∧ i = .int .i64 k ∧ Nx wa wr ∧ chk (arcF ns) none rs = chk (arcF ns) (prevOf rs k) (rs.drop k)) (fun i _ => n - (intOf i).toNat)
    case atStart => exact ⟨0, Nat.zero_le _, rfl, hn1, rfl⟩
    case round =>
      clear hn1
      obtain ⟨k, hk, rfl, hbw, hq⟩ := hrel
      have HQ := hide hq
      clear hq
      by_cases hlt : k < n
      · have hlt' : k < rs.length := by have := HRL.out; omega
        have HD := hide (chk_drop (arcF ns) rs k hlt')
        have HV := hide (arcF_at ns rs k hlt')
        have HB1 := hide (nx_cell hbw hgw b1)
        obtain ⟨b, off, rfl, _, hb, hbr, hc⟩ := HRA.out.open_ hbw (by have := HRL.out; omega)
        have c0 : wr.cell? ⟨b, off + k * 5, none⟩ = some (.string rs[k].key) := hc k hlt' 0 _ rfl
        have c1 : wr.cell? ⟨b, off + k * 5 + 1, none⟩ = some (.string rs[k].from_) := hc k hlt' 1 _ rfl
        have c2 : wr.cell? ⟨b, off + k * 5 + 2, none⟩ = some (.string rs[k].to_) := hc k hlt' 2 _ rfl
        have c3 : wr.cell? ⟨b, off + k * 5 + 3, none⟩ = some (.int .i64 rs[k].long) := hc k hlt' 3 _ rfl
        have c4 : wr.cell? ⟨b, off + k * 5 + 4, none⟩ = some (.slice rs[k].ka rs[k].knots.length rs[k].kc) := hc k hlt' 4 _ rfl
        have HPC := hide (fun h0 : 0 < k => (show wr.cell? ⟨b, off + (k - 1) * 5, none⟩ = some (.string (rs[k - 1]'(by omega)).key) from hc (k - 1) (by omega) 0 _ rfl))
        have HPV := hide (fun h0 : 0 < k => (show arcBad rs k = strLe rs[k].key (rs[k - 1]'(by omega)).key by
          unfold arcBad
          rw [prevOf_pos _ k h0 (by omega), List.getD_eq_getElem?_getD, List.getElem?_eq_getElem hlt']; rfl))
        have HP0 := hide (fun h0 : k = 0 => (show arcBad rs k = false by subst h0; rfl))
        clear hc
        obtain ⟨hKx, hLx, hSx⟩ := HKN.out rs[k] (List.getElem_mem hlt')
        have HKF := hide (fun W (hx : Nx wa W) => w_knotsFaultR lo' rs[k].ka rs[k].kc rs[k].knots W (hKx.nx hx) (by omega))
        clear hKx
        generalize rs[k] = x at *
        generalize hkl : x.knots.length = r at *
        generalize arcBad rs k = bad at *
        have HKL := hide hkl
        clear hkl
        cases hkb : keyB x.key
        · rw [hkb] at HV
          go_wp2_with (go_at_call 71; refine (w_Key _ _ hSx).mono ?_; rintro e w' ⟨rfl, rfl⟩)
          go_ret
          exact ⟨ret_int (by rw [HRF.out, HQ.out, HD.out, HV.out]; rfl), hna.trans (hbw.alloc _)⟩
        rw [hkb, if_pos rfl] at HV
        go_upto_region 11 with (go_at_call 71; refine (w_Key _ _ hSx).mono ?_; rintro e w' ⟨rfl, rfl⟩)
        obtain ⟨wk, hwk⟩ : ∃ wk, wk = wr.alloc (.cells #[.string x.key, .string x.from_, .string x.to_, .int .i64 x.long, .slice x.ka r x.kc] 37) := ⟨_, rfl⟩
        have hnk : Nx wr wk := hwk ▸ (Nx.refl wr).alloc _
        have hsk : wr.heap.size < wk.heap.size := by rw [hwk]; simp
        have d0 : wk.cell? ⟨wr.heap.size, 0, none⟩ = some (.string x.key) := by rw [hwk]; go_simp
        have d1 : wk.cell? ⟨wr.heap.size, 1, none⟩ = some (.string x.from_) := by rw [hwk]; go_simp
        have d2 : wk.cell? ⟨wr.heap.size, 2, none⟩ = some (.string x.to_) := by rw [hwk]; go_simp
        have d3 : wk.cell? ⟨wr.heap.size, 3, none⟩ = some (.int .i64 x.long) := by rw [hwk]; go_simp
        have d4 : wk.cell? ⟨wr.heap.size, 4, none⟩ = some (.slice x.ka r x.kc) := by rw [hwk]; go_simp
        rw [← hwk]
        have HWK := hide hwk
        clear hwk c0 c1 c2 c3 c4
        go_cut [34] (fun v wx => v = .bool bad ∧ Nx wk wx)
        case first =>
          clear d1 d2 d3 d4
          by_cases hk0 : 0 < k
          · have hp := nx_cell hnk hbr (HPC.out hk0)
            have B1 := nx_cell hnk (Nat.lt_of_lt_of_le hgw hbw.sz) HB1.out
            have hpv := HPV.out hk0
            have hkz : k - 1 < rs.length := by have := HRL.out; omega
            generalize (rs[k - 1]'(by omega)).key = p0 at *
            have k1 : IntKind.i64.wrap ((k : Int) - 1) = (k : Int) - 1 := IntWalk.i64_in _ (by omega)
            have k2 : (1 : Int) ≤ (k : Int) := by omega
            have k3 : ((k : Int) - 1).toNat = k - 1 := by omega
            have k4 : (k : Int) - 1 < (n : Int) := by omega
            have kp : decide ((k : Int) > 0) = true := decide_eq_true (by omega)
            have kp2 : decide ((0 : Int) < (k : Int)) = true := decide_eq_true (by omega)
            have t1 : (Op.bytesLess x.key.toList p0.toList || x.key.toList == p0.toList) = bad := hpv.symm
            clear hpv
            go_quiet (fail)
            go_wp2
            go_meet
            exact ⟨rfl, (Nx.refl _).drewN _⟩
          · have kp : decide ((k : Int) > 0) = false := decide_eq_false (by omega)
            have kp2 : decide ((0 : Int) < (k : Int)) = false := decide_eq_false (by omega)
            have hb0 := HP0.out (by omega)
            go_quiet (fail)
            go_wp2
            go_meet
            exact ⟨by rw [hb0], (Nx.refl _).drewN _⟩
        case rest =>
          obtain ⟨rfl, hx1⟩ := hcut
          cases hbd : bad
          · rw [hbd, if_neg (by simp)] at HV
            have e1 := nx_cell hx1 hsk d1
            have e2 := nx_cell hx1 hsk d2
            have e3 := nx_cell hx1 hsk d3
            have e4 := nx_cell hx1 hsk d4
            have hs1 := Nat.lt_of_lt_of_le hsk hx1.sz
            have hnx1 := (hbw.trans hnk).trans hx1
            clear d0 d1 d2 d3 d4 HB1
            by_cases hf : nodeI ns x.from_ < 0
            · have tf : decide (nodeI ns x.from_ < 0) = true := decide_eq_true hf
              have HG := hide (arcG_none (ns := ns) (a := x) (.inl hf))
              clear hf
              go_wp2_with fail
              refine (HND.out x.from_ _ hnx1).mono ?_
              rintro e w2 ⟨rfl, hn2⟩
              go_wp2_with fail
              go_ret
              exact ⟨ret_int (by rw [HRF.out, HQ.out, HD.out, HV.out, HG.out]; rfl), hna.trans (hnx1.trans hn2)⟩
            have tf : decide (nodeI ns x.from_ < 0) = false := decide_eq_false hf
            have HF := hide (Int.not_lt.1 hf)
            clear hf
            go_wp2_with fail
            refine (HND.out x.from_ _ hnx1).mono ?_
            rintro e w2 ⟨rfl, hn2⟩
            have f1 := nx_cell hn2 hs1 e1
            have f2 := nx_cell hn2 hs1 e2
            have f3 := nx_cell hn2 hs1 e3
            have f4 := nx_cell hn2 hs1 e4
            have hs2 := Nat.lt_of_lt_of_le hs1 hn2.sz
            have hnx2 := hnx1.trans hn2
            clear e1 e2 e3 e4
            by_cases ht : nodeI ns x.to_ < 0
            · have tt : decide (nodeI ns x.to_ < 0) = true := decide_eq_true ht
              have HG := hide (arcG_none (ns := ns) (a := x) (.inr ht))
              clear ht
              go_wp2_with fail
              refine (HND.out x.to_ _ hnx2).mono ?_
              rintro e w3 ⟨rfl, hn3⟩
              go_wp2_with fail
              go_ret
              exact ⟨ret_int (by rw [HRF.out, HQ.out, HD.out, HV.out, HG.out]; rfl), hna.trans (hnx2.trans hn3)⟩
            have tt : decide (nodeI ns x.to_ < 0) = false := decide_eq_false ht
            have HT := hide (Int.not_lt.1 ht)
            clear ht
            go_wp2_with fail
            refine (HND.out x.to_ _ hnx2).mono ?_
            rintro e w3 ⟨rfl, hn3⟩
            have g1 := nx_cell hn3 hs2 f1
            have g2 := nx_cell hn3 hs2 f2
            have g3 := nx_cell hn3 hs2 f3
            have g4 := nx_cell hn3 hs2 f4
            have hs3 := Nat.lt_of_lt_of_le hs2 hn3.sz
            have hnx3 := hnx2.trans hn3
            clear f1 f2 f3 f4
            by_cases heq : x.from_ = x.to_
            · have te : (x.from_.toList == x.to_.toList) = true := by rw [eqS_iff]; exact decide_eq_true heq
              have HG := hide (arcG_twice (ns := ns) (a := x) HF.out HT.out heq)
              clear heq
              go_wp2_with fail
              go_ret
              exact ⟨ret_int (by rw [HRF.out, HQ.out, HD.out, HV.out, HG.out]; rfl), hna.trans hnx3⟩
            have te : (x.from_.toList == x.to_.toList) = false := by rw [eqS_iff]; exact decide_eq_false heq
            cases hlo : outB x.long 1 1000000
            · have HG := hide (arcG_knots (ns := ns) (a := x) HF.out HT.out heq hlo)
              clear heq
              by_cases hz : knotsF x.knots = 0
              · rw [hz] at HG
                have HKF := hide (fun W hx => HKF.out W hx)
                rw [hz] at HKF
                clear hz
                go_wp2_with (go_at_call 72; refine (w_Out _ _ _ _).mono ?_; rintro e w' ⟨rfl, rfl⟩)
                refine (HKF.out _ hnx3).mono ?_
                rintro e w4 ⟨rfl, hn4⟩
                go_wp2_with fail
                go_roundw
                case rel => exact ⟨k + 1, by omega, by go_num, hnx3.trans hn4, by rw [HQ.out, HD.out, HV.out, HG.out, if_pos rfl]⟩
                case measure => simp [intOf]; omega
              · have tz : (knotsF x.knots != 0) = true := by simpa using hz
                have HZ := hide hz
                clear hz
                go_wp2_with (go_at_call 72; refine (w_Out _ _ _ _).mono ?_; rintro e w' ⟨rfl, rfl⟩)
                refine (HKF.out _ hnx3).mono ?_
                rintro e w4 ⟨rfl, hn4⟩
                go_wp2_with fail
                go_ret
                exact ⟨ret_int (by rw [HRF.out, HQ.out, HD.out, HV.out, HG.out, if_neg HZ.out, if_neg HZ.out]), hna.trans (hnx3.trans hn4)⟩
            · have HG := hide (arcG_long (ns := ns) (a := x) HF.out HT.out heq hlo)
              clear heq
              go_wp2_with (go_at_call 72; refine (w_Out _ _ _ _).mono ?_; rintro e w' ⟨rfl, rfl⟩)
              go_ret
              exact ⟨ret_int (by rw [HRF.out, HQ.out, HD.out, HV.out, HG.out]; rfl), hna.trans hnx3⟩
          · rw [hbd, if_pos rfl] at HV
            go_wp2_with fail
            go_ret
            exact ⟨ret_int (by rw [HRF.out, HQ.out, HD.out, HV.out]; rfl), hna.trans ((hbw.trans hnk).trans hx1)⟩
      · have H0 : chk (arcF ns) none rs = 0 := by rw [HQ.out, List.drop_of_length_le (by have := HRL.out; omega)]; rfl
        have HRF := hide (HRF.out.trans (if_pos H0))
        have HAR := hide (fun s W (hx : Nx wa W) => HAR.out (sortA_of H0) s W hx)
        obtain rfl : n = k := by omega
        clear H0 HQ HKN HND hlt hk
        have B2 := nx_cell hbw hgw b2
        go_wp2_with fail
        clear B2
        go_loopw [84] (fun i wr => ∃ k : Nat, k ≤ m ∧ i = .int .i64 k ∧ Nx wa wr ∧ chk (banF rs) none bs = chk (banF rs) (prevOf bs k) (bs.drop k)) (fun i _ => m - (intOf i).toNat)
        case atStart => exact ⟨0, Nat.zero_le _, rfl, hbw, rfl⟩
        case round =>
          clear hbw
          obtain ⟨k, hk, rfl, hbw, hq⟩ := hrel
          have HQ := hide hq
          clear hq
          by_cases hlt : k < m
          · have hlt' : k < bs.length := by have := HBL.out; omega
            have HD := hide (chk_drop (banF rs) bs k hlt')
            have HV := hide (banF_at rs bs k hlt')
            have HB1 := hide (nx_cell hbw hgw b1)
            have HB2 := hide (nx_cell hbw hgw b2)
            obtain ⟨b, off, rfl, _, hb, hbr, hc⟩ := HRB.out.open_ hbw (by have := HBL.out; omega)
            have c0 : wr.cell? ⟨b, off + k * 2, none⟩ = some (.string bs[k].from_) := hc k hlt' 0 _ rfl
            have c1 : wr.cell? ⟨b, off + k * 2 + 1, none⟩ = some (.string bs[k].to_) := hc k hlt' 1 _ rfl
            have HPC := hide (fun h0 : 0 < k => And.intro (show wr.cell? ⟨b, off + (k - 1) * 2, none⟩ = some (.string (bs[k - 1]'(by omega)).from_) from hc (k - 1) (by omega) 0 _ rfl) (show wr.cell? ⟨b, off + (k - 1) * 2 + 1, none⟩ = some (.string (bs[k - 1]'(by omega)).to_) from hc (k - 1) (by omega) 1 _ rfl))
            have HPV := hide (fun h0 : 0 < k => (show banBad bs k = decide (banC bs[k] (bs[k - 1]'(by omega)) ≤ 0) by
              unfold banBad
              rw [prevOf_pos _ k h0 (by omega), List.getD_eq_getElem?_getD, List.getElem?_eq_getElem hlt']; rfl))
            have HP0 := hide (fun h0 : k = 0 => (show banBad bs k = false by subst h0; rfl))
            clear hc
            generalize bs[k] = x at *
            generalize banBad bs k = bad at *
            go_upto_region 28 with fail
            obtain ⟨wk, hwk⟩ : ∃ wk, wk = wr.alloc (.cells #[.string x.from_, .string x.to_] 80) := ⟨_, rfl⟩
            have hnk : Nx wr wk := hwk ▸ (Nx.refl wr).alloc _
            have hsk : wr.heap.size < wk.heap.size := by rw [hwk]; simp
            have d0 : wk.cell? ⟨wr.heap.size, 0, none⟩ = some (.string x.from_) := by rw [hwk]; go_simp
            have d1 : wk.cell? ⟨wr.heap.size, 1, none⟩ = some (.string x.to_) := by rw [hwk]; go_simp
            rw [← hwk]
            have HWK := hide hwk
            clear hwk c0 c1
            have hnx := hbw.trans hnk
            obtain ⟨bx, hbx⟩ : ∃ bx, bx = wr.heap.size := ⟨_, rfl⟩
            rw [← hbx] at hsk d0 d1 ⊢
            have HBX := hide hbx
            clear hbx
            generalize hx1 : x.from_ = x1 at *
            generalize hx2 : x.to_ = x2 at *
            have HX := hide (And.intro hx1 hx2)
            clear hx1 hx2
            go_cut [9, 10] (fun v9 v10 wx => v9 = .int .i64 (arcI rs x1) ∧ v10 = .int .i64 (arcI rs x2) ∧ Nx wk wx)
            case first =>
              go_region_held3 (fun w' => w'.cell? ⟨bx, 0, none⟩ = some (.string x1) ∧ w'.cell? ⟨bx, 1, none⟩ = some (.string x2))
                (first | (go_split_ands; exact ⟨nx_cell hn3 (Nat.lt_of_lt_of_le hsk hn2.sz) ‹_›, nx_cell hn3 (Nat.lt_of_lt_of_le hsk hn2.sz) ‹_›⟩) | (go_split_ands; exact ⟨nx_cell hn2 hsk ‹_›, nx_cell hn2 hsk ‹_›⟩) | go_keep)
                (first
                  | (go_at_call 42; refine (HAR.out _ _ (hnx.drew.trans hn2)).mono ?_; rintro e w3 ⟨rfl, hn3⟩)
                  | (go_at_call 42; refine (HAR.out _ _ hnx.drew).mono ?_; rintro e w2 ⟨rfl, hn2⟩))
              go_wp2
              go_meet
              exact ⟨rfl, rfl, ((Nx.refl wk).drew.trans hn2).trans hn3⟩
            case rest =>
              obtain ⟨rfl, rfl, hx1⟩ := hcut
              have hnx1 := hnx.trans hx1
              have HG := hide (show banG rs x = if arcI rs x1 < 0 ∨ arcI rs x2 < 0 then 8 else if (arcAt rs x1).to_ = (arcAt rs x2).from_ then 0 else 3 by unfold banG; rw [HX.out.1, HX.out.2])
              by_cases hf : arcI rs x1 < 0
              · have tf : decide (arcI rs x1 < 0) = true := decide_eq_true hf
                have HG8 := hide (HG.out.trans (if_pos (.inl hf)))
                clear hf d0 d1
                go_wp2_with fail
                go_ret
                exact ⟨ret_int (by rw [HRF.out, HQ.out, HD.out, HV.out, HG8.out]; rfl), hna.trans hnx1⟩
              by_cases ht : arcI rs x2 < 0
              · have tf : decide (arcI rs x1 < 0) = false := decide_eq_false hf
                have tt : decide (arcI rs x2 < 0) = true := decide_eq_true ht
                have HG8 := hide (HG.out.trans (if_pos (.inr ht)))
                clear hf ht d0 d1
                go_wp2_with fail
                go_ret
                exact ⟨ret_int (by rw [HRF.out, HQ.out, HD.out, HV.out, HG8.out]; rfl), hna.trans hnx1⟩
              obtain ⟨i, hi, ei⟩ : ∃ i : Nat, i < rs.length ∧ arcI rs x1 = (i : Int) := by
                rcases findI_bd (fun n : Arc => decide (n.key = x1)) rs with h | h
                · exact absurd (show arcI rs x1 < 0 by unfold arcI; omega) hf
                · exact h
              obtain ⟨j, hj, ej⟩ : ∃ i : Nat, i < rs.length ∧ arcI rs x2 = (i : Int) := by
                rcases findI_bd (fun n : Arc => decide (n.key = x2)) rs with h | h
                · exact absurd (show arcI rs x2 < 0 by unfold arcI; omega) ht
                · exact h
              have HG2 := hide (show banG rs x = if rs[i].to_ = rs[j].from_ then 0 else 3 by
                rw [HG.out, if_neg (by omega)]
                unfold arcAt
                rw [ei, ej, List.getD_eq_getElem?_getD, List.getD_eq_getElem?_getD, List.getElem?_eq_getElem (show (i : Int).toNat < rs.length from hi), List.getElem?_eq_getElem (show (j : Int).toNat < rs.length from hj)]
                rfl)
              rw [ei, ej]
              clear hf ht HG ei ej
              have B1 := nx_cell hnx1 hgw b1
              obtain ⟨ba, offa, rfl, _, hba, hbar, hca⟩ := HRA.out.open_ hnx1 (by omega)
              have a1 : wc.cell? ⟨ba, offa + i * 5 + 2, none⟩ = some (.string rs[i].to_) := hca i hi 2 _ rfl
              have a2 : wc.cell? ⟨ba, offa + j * 5 + 1, none⟩ = some (.string rs[j].from_) := hca j hj 1 _ rfl
              have hin : i < n := by have := HRL.out; omega
              have hjn : j < n := by have := HRL.out; omega
              have D0 := hide (nx_cell hx1 hsk d0)
              have D1 := hide (nx_cell hx1 hsk d1)
              clear hca d0 d1
              generalize rs[i].to_ = r1 at *
              generalize rs[j].from_ = r2 at *
              go_upto_region 31 with fail
              have i1 : (0 : Int) ≤ (i : Int) := by omega
              have i2 : (i : Int) < (n : Int) := by omega
              have i3 : (0 : Int) ≤ (j : Int) := by omega
              have i4 : (j : Int) < (n : Int) := by omega
              by_cases heq : r1 = r2
              · have te : (r1.toList == r2.toList) = true := by rw [eqS_iff]; exact decide_eq_true heq
                have HG3 := hide (HG2.out.trans (if_pos heq))
                clear heq HG2
                rw [HG3.out, if_pos rfl] at HV
                go_quiet (fail)
                clear i1 i2 i3 i4 a1 a2 te
                go_upto_region 33 with fail
                have hnx2 : Nx wa (wc.drewN nq) := hnx1.drewN _
                have E0 : (wc.drewN nq).cell? ⟨bx, 0, none⟩ = some (.string x1) := D0.out
                have E1 : (wc.drewN nq).cell? ⟨bx, 1, none⟩ = some (.string x2) := D1.out
                have hsk2 : bx < (wc.drewN nq).heap.size := Nat.lt_of_lt_of_le hsk hx1.sz
                have HWK2 := hide (hnk.trans (hx1.drewN nq))
                generalize wc.drewN nq = wd at *
                clear B1 D0 D1
                go_cut [116] (fun v wx => v = .bool bad ∧ Nx wd wx)
                case first =>
                  by_cases hk0 : 0 < k
                  · have p1 := nx_cell HWK2.out hbr (HPC.out hk0).1
                    have p2 := nx_cell HWK2.out hbr (HPC.out hk0).2
                    have B2 := nx_cell HWK2.out (Nat.lt_of_lt_of_le hgw hbw.sz) HB2.out
                    have hbw2 := Nat.lt_of_lt_of_le hbr HWK2.out.sz
                    have hgw2 := Nat.lt_of_lt_of_le (Nat.lt_of_lt_of_le hgw hbw.sz) HWK2.out.sz
                    have hpv := HPV.out hk0
                    have hxe : x = ⟨x1, x2⟩ := by obtain ⟨h1, h2⟩ := HX.out; rw [← h1, ← h2]
                    rw [hxe] at hpv
                    have hkz : k - 1 < bs.length := by have := HBL.out; omega
                    generalize (bs[k - 1]'(by omega)) = q at *
                    obtain ⟨q1, q2⟩ := q
                    have k1 : IntKind.i64.wrap ((k : Int) - 1) = (k : Int) - 1 := IntWalk.i64_in _ (by omega)
                    have k2 : (1 : Int) ≤ (k : Int) := by omega
                    have k3 : ((k : Int) - 1).toNat = k - 1 := by omega
                    have k4 : (k : Int) - 1 < (m : Int) := by omega
                    have kp : decide ((k : Int) > 0) = true := decide_eq_true (by omega)
                    have kp2 : decide ((0 : Int) < (k : Int)) = true := decide_eq_true (by omega)
                    have t1 : decide (banC ⟨x1, x2⟩ ⟨q1, q2⟩ ≤ 0) = bad := hpv.symm
                    clear hpv
                    go_region_held3 (fun w' => w'.cell? ⟨bx, 0, none⟩ = some (.string x1) ∧ w'.cell? ⟨bx, 1, none⟩ = some (.string x2) ∧ w'.cell? ⟨b, off + (k - 1) * 2, none⟩ = some (.string q1) ∧ w'.cell? ⟨b, off + (k - 1) * 2 + 1, none⟩ = some (.string q2) ∧ w'.cell? ⟨gb, 2, none⟩ = some (.slice (some ⟨b, off, none⟩) m cc))
                      (first | (go_split_ands; exact ⟨nx_cell hn4 hsk2 ‹_›, nx_cell hn4 hsk2 ‹_›, nx_cell hn4 hbw2 ‹_›, nx_cell hn4 hbw2 ‹_›, nx_cell hn4 hgw2 ‹_›⟩) | go_keep)
                      (first
                        | (go_at_call 74; refine (w_byBan ⟨x1, x2⟩ ⟨q1, q2⟩ _).mono ?_; rintro e w4 ⟨rfl, hn4⟩))
                    go_wp2
                    go_meet
                    exact ⟨rfl, (Nx.refl wd).drew.trans hn4⟩
                  · have kp : decide ((k : Int) > 0) = false := decide_eq_false (by omega)
                    have kp2 : decide ((0 : Int) < (k : Int)) = false := decide_eq_false (by omega)
                    have hb0 := HP0.out (by omega)
                    go_quiet (fail)
                    go_wp2
                    go_meet
                    exact ⟨by rw [hb0], (Nx.refl _).drewN _⟩
                case rest =>
                  obtain ⟨rfl, hx2⟩ := hcut
                  cases hbd : bad
                  · rw [hbd, if_neg (by simp)] at HV
                    go_wp2_with fail
                    go_roundw
                    case rel => exact ⟨k + 1, by omega, by go_num, hnx2.trans hx2, by rw [HQ.out, HD.out, HV.out, if_pos rfl]⟩
                    case measure => simp [intOf]; omega
                  · rw [hbd, if_pos rfl] at HV
                    go_wp2_with fail
                    go_ret
                    exact ⟨ret_int (by rw [HRF.out, HQ.out, HD.out, HV.out]; rfl), hna.trans (hnx2.trans hx2)⟩
              · have te : (r1.toList == r2.toList) = false := by rw [eqS_iff]; exact decide_eq_false heq
                have HG3 := hide (HG2.out.trans (if_neg heq))
                clear heq HG2
                rw [HG3.out] at HV
                go_quiet (fail)
                clear i1 i2 i3 i4
                go_wp2_with fail
                go_ret
                exact ⟨ret_int (by rw [HRF.out, HQ.out, HD.out, HV.out]; rfl), hna.trans (hnx1.drewN _)⟩
          · go_wp2
            go_ret
            exact ⟨ret_int (by rw [HRF.out, HQ.out, List.drop_of_length_le (by have := HBL.out; omega)]; rfl), hna.trans hbw⟩
  · have HRF := hide (show roadsF ns rs bs = nodesF ns by unfold roadsF; rw [if_neg hn0])
    have tz : (nodesF ns != 0) = true := by simpa using hn0
    clear hN hS hA hB hn0
    generalize roadsF ns rs bs = V at *
    go_enter Tryz.func32, Tryz.ntmps32
    go_wp2_with fail
    rw [← hwa]
    refine HNF.out.mono ?_
    rintro e w1 ⟨rfl, hn1⟩
    go_wp2_with fail
    go_ret
    exact ⟨ret_int HRF.out.symm, hna.trans hn1⟩
end Go.Proofs.YtepbamacebjopaaGreatDoor
