/- The reference's check of events. -/
import Derived.Test.YtfkmbeppckelfaaGreatDoorQG36
import Derived.Test.YtfkmbeppckelfaaGreatDoorQStW
import Derived.Test.YtfkmbeppckelfaaGreatDoorQEvG
import Derived.Test.YtfkmbeppckelfaaGreatDoorQG1
import Derived.Test.YtfkmbeppckelfaaGreatDoorQG4
import Derived.Test.YtfkmbeppckelfaaGreatDoorQG6
namespace Go.Proofs.YtfkmbeppckelfaaGreatDoor
open Go.RowKit Go.Maps

theorem late_ref (q x : Ev) : lateB (some q) x = decide (evOrd q x ≥ 0) := by
  have h := evOrd_swap x q
  unfold lateB
  apply decide_eq_decide.2
  omega
set_option maxRecDepth 100000 in
set_option maxHeartbeats 4000000 in
theorem w_EventsFaultR (lo : Nat) (A : Option Addr) (c : Nat) (l : List Ev) (w : World) (hR : Rd w lo A 11 encEvt l) (hl : l.length ≤ 50) (hok : ∀ x ∈ l, okEv x) :
    Calls Tryz.prog 16 #[.slice A l.length c] w fun e w' => e = .returned (.int .i64 (evsF l)) ∧ Nx w w' := by
  have hmm := @run_makeMap Tryz.prog
  have HR := hide hR
  have HOK := hide hok
  have HBD := hide (lastM_bd hok)
  generalize hn : l.length = n at *
  have HN := hide hn
  clear hR hn hok
  go_enter Tryz.func16, Tryz.ntmps16
  go_wp2_with fail
  clear hmm
  have HM0 : Hid (MpSI (w.alloc (.map #[] 0)) w.heap.size 0 (lastM l 0)) := hide (MgI.made w)
  go_loopw [13] (fun i wr => ∃ k : Nat, k ≤ n ∧ i = .int .i64 k ∧ Nx w wr ∧ MpSI wr w.heap.size k (lastM l k) ∧ evsF l = evsGo (prevE l k) (fun s => (lastM l k s).getD 0) (l.drop k)) (fun i _ => n - (intOf i).toNat)
  case atStart => exact ⟨0, Nat.zero_le _, rfl, (Nx.refl w).alloc _, HM0.out, rfl⟩
  case round =>
    clear HM0
    obtain ⟨k, hk, rfl, hnx, hM, hv⟩ := hrel
    by_cases hlt : k < n
    · have hlt' : k < l.length := by have := HN.out; omega
      have hx : l[k]? = some l[k] := List.getElem?_eq_getElem hlt'
      rw [evs_next hx] at hv
      have hl2 := lastM_succ hx
      obtain ⟨b, off, rfl, _, hb, hbr, hc⟩ := HR.out.open_ hnx (by omega)
      obtain ⟨c0, c1, c2, c3, c4, c5, c6, c7, c8, c9, c10⟩ := ev_cells (hc k hlt')
      have hox := HOK.out l[k] (List.getElem_mem hlt')
      have hprev : ∀ j, k = j + 1 → ∃ q, prevE l k = some q ∧ q ∈ l ∧ ∀ i u, (encEvt q)[i]? = some u → wr.cell? ⟨b, off + j * 11 + i, none⟩ = some u := by
        intro j hj
        have hjl : j < l.length := by omega
        exact ⟨l[j], by rw [hj]; exact List.getElem?_eq_getElem hjl, List.getElem_mem hjl, fun i u hu => hc j hjl i u hu⟩
      have hpz : k = 0 → prevE l k = none := fun h => by rw [h]; rfl
      clear hc
      generalize l[k] = x at *
      have hML := look_last (hM.nx ((Nx.refl wr).alloc (.cells (evA x) 31 (0, 0)))) (domS_1000 hox.source)
      have hbd := HBD.out k x.source
      have HEF := hide (fun W => w_EventFaultR x W hox)
      obtain ⟨so, no, at_, ki, ri, ca, nd, up, dn, fo, nu⟩ := x
      unfold evA at hML HEF
      simp only at c0 c1 c2 c3 c4 c5 c6 c7 c8 c9 c10 hML hbd HEF hl2 hv
      obtain ⟨wa, hwa⟩ : ∃ wa, wa = wr.alloc (.cells #[.string so, .int .i64 no, .int .i64 at_, .int .i64 ki, .string ri, .string ca, .string nd, .int .i64 up, .int .i64 dn, .string fo, .int .i64 nu] 31 (0, 0)) := ⟨_, rfl⟩
      have hna : Nx wr wa := hwa ▸ (Nx.refl wr).alloc _
      have hba : wa.heap[wr.heap.size]? = some (.cells #[.string so, .int .i64 no, .int .i64 at_, .int .i64 ki, .string ri, .string ca, .string nd, .int .i64 up, .int .i64 dn, .string fo, .int .i64 nu] 31 (0, 0)) := by rw [hwa]; exact heap_alloc_new wr _
      have HV := hide hv
      have HL2 := hide hl2
      have HNA := hide hna
      have HBA := hide hba
      have HM := hide hM
      have HPR := hide hprev
      have HPZ := hide hpz
      have HNX := hide hnx
      have HOX := hide hox
      have hml := hM.lt
      clear hv hl2 hna hba hM hprev hpz hx hML hnx hox
      go_upto_region 7 with fail
      rw [← hwa]
      clear hwa c0 c1 c2 c3 c4 c5 c6 c7 c8 c9 c10
      have a0 := cell_of_row wa _ 0 _ _ _ HBA.out
      have a1 := cell_of_row wa _ 1 _ _ _ HBA.out
      have a2 := cell_of_row wa _ 2 _ _ _ HBA.out
      have a3 := cell_of_row wa _ 3 _ _ _ HBA.out
      have a4 := cell_of_row wa _ 4 _ _ _ HBA.out
      have a5 := cell_of_row wa _ 5 _ _ _ HBA.out
      have a6 := cell_of_row wa _ 6 _ _ _ HBA.out
      have a7 := cell_of_row wa _ 7 _ _ _ HBA.out
      have a8 := cell_of_row wa _ 8 _ _ _ HBA.out
      have a9 := cell_of_row wa _ 9 _ _ _ HBA.out
      have a10 := cell_of_row wa _ 10 _ _ _ HBA.out
      simp at a0 a1 a2 a3 a4 a5 a6 a7 a8 a9 a10
      go_wp2_with fail
      refine (HEF.out _).mono ?_
      rintro e w4 ⟨rfl, hn4⟩
      obtain ⟨ev, hev⟩ : ∃ ev, ev = evF ⟨so, no, at_, ki, ri, ca, nd, up, dn, fo, nu⟩ := ⟨_, rfl⟩
      rw [← hev] at HV ⊢
      have HEV := hide hev
      clear hev a0 a1 a2 a3 a4 a5 a6 a7 a8 a9 a10
      have hb4 := (hn4.block _ (Array.getElem?_eq_some_iff.1 HBA.out).1).trans HBA.out
      have HN4 := hide hn4
      have HM4 := hide ((HM.out.nx HNA.out).nx hn4)
      clear hn4
      have hq : ev = 0 ∨ (ev != 0) = true := by simp; omega
      rcases hq with rfl | hq
      · have HV2 := hide (HV.out.trans (if_neg (by simp)))
        clear HV HEF
        have b0 := cell_of_row w4 _ 0 _ _ _ hb4
        have b1 := cell_of_row w4 _ 1 _ _ _ hb4
        have b2 := cell_of_row w4 _ 2 _ _ _ hb4
        have b3 := cell_of_row w4 _ 3 _ _ _ hb4
        have b4 := cell_of_row w4 _ 4 _ _ _ hb4
        have b5 := cell_of_row w4 _ 5 _ _ _ hb4
        have b6 := cell_of_row w4 _ 6 _ _ _ hb4
        have b7 := cell_of_row w4 _ 7 _ _ _ hb4
        have b8 := cell_of_row w4 _ 8 _ _ _ hb4
        have b9 := cell_of_row w4 _ 9 _ _ _ hb4
        have b10 := cell_of_row w4 _ 10 _ _ _ hb4
        simp at b0 b1 b2 b3 b4 b5 b6 b7 b8 b9 b10
        have HB4 := hide hb4
        clear hb4
        go_upto_region 10 with fail
        go_cut [23] (fun v wx => v = .bool (lateB (prevE l k) ⟨so, no, at_, ki, ri, ca, nd, up, dn, fo, nu⟩) ∧ Nx w4 wx)
        case first =>
          cases k with
          | zero =>
            go_quiet (fail)
            go_wp2
            go_meet
            exact ⟨rfl, (Nx.refl _).drewN _⟩
          | succ j =>
            obtain ⟨q, hq, hqm, hqc⟩ := HPR.out j rfl
            have hqok := HOK.out q hqm
            have HBM := hide (fun W => w_EventOrder q ⟨so, no, at_, ki, ri, ca, nd, up, dn, fo, nu⟩ W)
            obtain ⟨q0, q1, q2, q3, q4, q5, q6, q7, q8, q9, q10⟩ := ev_cells hqc
            have HQ := hide hq
            clear hq
            obtain ⟨so2, no2, at2, ki2, ri2, ca2, nd2, up2, dn2, fo2, nu2⟩ := q
            unfold evA at HBM
            simp only at q0 q1 q2 q3 q4 q5 q6 q7 q8 q9 q10 HBM
            have hbw : b < wa.heap.size := Nat.lt_of_lt_of_le hbr HNA.out.sz
            have hbw4 : b < w4.heap.size := Nat.lt_of_lt_of_le hbw HN4.out.sz
            have hn04 := HNA.out.trans HN4.out
            have r0 := nx_cell hn04 hbr q0
            have r1 := nx_cell hn04 hbr q1
            have r2 := nx_cell hn04 hbr q2
            have r3 := nx_cell hn04 hbr q3
            have r4 := nx_cell hn04 hbr q4
            have r5 := nx_cell hn04 hbr q5
            have r6 := nx_cell hn04 hbr q6
            have r7 := nx_cell hn04 hbr q7
            have r8 := nx_cell hn04 hbr q8
            have r9 := nx_cell hn04 hbr q9
            have r10 := nx_cell hn04 hbr q10
            have hj1 : j < n := by omega
            have hj2 : (j : Int) < (n : Int) := by omega
            have hj0 : (0 : Int) ≤ (j : Int) := by omega
            have wj : IntKind.i64.wrap (j : Int) = (j : Int) := IntWalk.i64_in _ (by omega)
            clear q0 q1 q2 q3 q4 q5 q6 q7 q8 q9 q10 hn04 hqc
            go_still_tail 9, (by kernel_rfl)
            change wpList _ _ _ _ _ w4.drew
            go_wp2_with (go_at_call 43; refine (HBM.out _).mono ?_; rintro e w5 ⟨rfl, hn5⟩)
            go_meet
            exact ⟨by rw [HQ.out, late_ref], (Nx.refl _).drew.trans hn5⟩
        case rest =>
          obtain ⟨rfl, hnc⟩ := hcut
          obtain ⟨late, hlate⟩ : ∃ late, late = lateB (prevE l k) ⟨so, no, at_, ki, ri, ca, nd, up, dn, fo, nu⟩ := ⟨_, rfl⟩
          rw [← hlate] at HV2 ⊢
          clear hlate
          have HNC := hide hnc
          have HN4c := hide (((HNX.out.trans HNA.out).trans HN4.out).trans hnc)
          cases late with
          | true =>
            have hv2 := hide (show evsF l = 7 by rw [HV2.out, if_pos rfl])
            clear hnc
            go_wp2_with fail
            go_ret
            exact ⟨by rw [hv2.out] <;> rfl, HN4c.out⟩
          | false =>
            have HV3 := hide (HV2.out.trans (if_neg (by simp)))
            have hbc := (hnc.block _ (Array.getElem?_eq_some_iff.1 HB4.out).1).trans HB4.out
            have b0 := cell_of_row wc _ 0 _ _ _ hbc
            have b1 := cell_of_row wc _ 1 _ _ _ hbc
            simp at b0 b1
            have HMc := hide (HM4.out.nx hnc)
            have hlk := look_last HMc.out (domS_1000 HOX.out.source)
            obtain ⟨v, hv⟩ : ∃ v, v = (lastM l k so).getD 0 := ⟨_, rfl⟩
            simp only at hlk
            rw [← hv] at hlk hbd HV3
            have w1 : IntKind.i64.wrap (v + 1) = v + 1 := IntWalk.i64_in _ (by omega)
            have hkey := keyS_mk (P := Tryz.prog) Tryz.underlying9 (domS_1000 HOX.out.source)
            clear hnc hbc hv
            have hq : no = v + 1 ∨ (no != v + 1) = true := by simp; omega
            rcases hq with rfl | hq
            · have HV4 := hide (HV3.out.trans (if_neg (by simp)))
              go_wp2_with (at_mapUpdate; refine wpMgPut _ rfl _ _ _ _ rfl intE law_strE strV_inj Tryz.underlying62 w.heap.size k _ rfl HMc.out (by unfold maxLen; omega) so rfl (domS_1000 HOX.out.source) _ hkey (v + 1) rfl (wf_15 HOX.out.no) ?_; intro w8 hM8 hg8; (have HM8 := hide hM8); clear hM8)
              go_roundw
              case rel =>
                refine ⟨k + 1, by omega, by go_num, HN4c.out.grown hg8 (fun j hj => by injection hj with hj; omega), ?_, HV4.out⟩
                rw [HL2.out]; exact HM8.out
              case measure => simp [intOf]; omega
            · have hv2 := hide (show evsF l = 16 by rw [HV3.out, if_pos (by simpa using hq)])
              go_wp2_with fail
              go_ret
              exact ⟨by rw [hv2.out] <;> rfl, HN4c.out⟩
      · have hv2 := hide (show evsF l = ev by rw [HV.out, if_pos (by simpa using hq)])
        go_wp2_with fail
        go_ret
        exact ⟨by rw [hv2.out] <;> rfl, (HNX.out.trans HNA.out).trans HN4.out⟩
    · obtain rfl : k = n := by omega
      have hv2 := hide (show evsF l = 0 by rw [hv, List.drop_of_length_le (by have := HN.out; omega)]; rfl)
      obtain ⟨m, hm, hlen⟩ := hM.size (t := 62) (E := 3) Tryz.underlying62 3
      have HNX := hide hnx
      clear hM hv hnx
      go_wp2_with fail
      go_ret
      exact ⟨by rw [hv2.out] <;> rfl, HNX.out⟩
end Go.Proofs.YtfkmbeppckelfaaGreatDoor
/- The stream's right events. -/
namespace Go.Proofs.YtfkmbeppckelfaaGreatDoor
open Go.RowKit

/-- Right events of the stream's. -/
def RightOut (many : Nat) (s k : Nat) (w : World) (e : Ending) (w' : World) : Prop :=
  ∃ (B : Option Addr) (c : Nat) (l : List Ev), e = .returned (.slice B l.length c) ∧ Rd w' w.heap.size B 11 encEvt l ∧ l.length ≤ many ∧ l.length ≤ c ∧ (∀ x ∈ l, okEv x) ∧ evsF l = 0 ∧ Gr s w w' ∧ Str w' s (k + 160000)
set_option maxRecDepth 100000 in
set_option maxHeartbeats 1000000 in
theorem w_RightEvents (many s k : Nat) (w : World) (hm : many ≤ 40) (hS : Str w s k) (hk : k < 400000) :
    Calls Tryz.prog 27 #[.pointer (some ⟨s, 0, none⟩), .int .i64 (many : Int)] w (RightOut many s k w) := by
  have hsw := hS.lt
  have HS := hide hS
  clear hS
  go_enter Tryz.func27, Tryz.ntmps27
  go_wp2_with fail
  go_loopw [6] (fun i wr => ∃ j : Nat, j ≤ 8 ∧ i = .int .i64 j ∧ Str wr s (k + 20000 * j) ∧ Gr s w wr) (fun i _ => 8 - (intOf i).toNat)
  case atStart => exact ⟨0, Nat.zero_le _, rfl, HS.out.more (by omega), Gr.refl _ _⟩
  case round =>
    obtain ⟨j, hj, rfl, hSr, hg⟩ := hrel
    have HG := hide hg
    have HSR := hide hSr
    clear hSr
    by_cases hlt : j < 8
    · have q1 : decide ((j : Int) < 8) = true := by simp; omega
      go_wp2_with fail
      refine (w_Events many s (k + 20000 * j) wr hm HSR.out (by omega)).mono ?_
      rintro e w2 ⟨B, c, l, rfl, hR, hlm, hlc, hok, hg2, hS2⟩
      have HEF := hide (w_EventsFaultR wr.heap.size B c l w2 hR (by omega) hok)
      obtain ⟨f, hf⟩ : ∃ f, f = evsF l := ⟨_, rfl⟩
      rw [← hf] at HEF
      have HF := hide hf
      have HR := hide (hR.low hg.sz)
      have HOK := hide hok
      have HG2 := hide (hg.trans hg2)
      have HS2 := hide hS2
      have HL := hide (And.intro hlm hlc)
      clear hf hR hok hg hg2 hS2 hlm hlc
      go_wp2_with fail
      refine HEF.out.mono ?_
      rintro e w3 ⟨rfl, hn3⟩
      have hq : f = 0 ∨ (f == 0) = false := by simp; omega
      rcases hq with rfl | hq
      · have HN3 := hide hn3
        clear hn3
        go_wp2_with fail
        go_ret
        exact ⟨B, c, l, rfl, HR.out.nx HN3.out, HL.out.1, HL.out.2, HOK.out, HF.out.symm, HG2.out.then_nx HN3.out, (HS2.out.nx HN3.out).more (by omega)⟩
      · have HN3 := hide hn3
        clear hn3
        go_wp2_with fail
        go_roundw
        case rel => exact ⟨j + 1, by omega, by go_num, (HS2.out.nx HN3.out).more (by omega), HG2.out.then_nx HN3.out⟩
        case measure => simp [intOf]; omega
    · obtain rfl : j = 8 := by omega
      go_wp2_with fail
      go_ret
      exact ⟨none, 0, [], rfl, Rd.nil, Nat.zero_le _, Nat.zero_le _, fun x hx => (by simp at hx), rfl, HG.out, HSR.out.more (by omega)⟩
end Go.Proofs.YtfkmbeppckelfaaGreatDoor
/- What is asked of events: the refused ones, how a ride is. -/
namespace Go.Proofs.YtfkmbeppckelfaaGreatDoor
open Go.RowKit Go.Maps

def endMo : Int := 345686400000
def momentF (l : List Ev) (at_ : Int) : Int := if evsF l = 0 then (if momB at_ then 0 else 1) else evsF l
theorem w_momentFault (lo : Nat) (A : Option Addr) (c : Nat) (l : List Ev) (at_ : Int) (w : World) (hR : Rd w lo A 11 encEvt l) (hl : l.length ≤ 50) (hok : ∀ x ∈ l, okEv x) :
    Calls Tryz.prog 58 #[.slice A l.length c, .int .i64 at_] w fun e w' => e = .returned (.int .i64 (momentF l at_)) ∧ Nx w w' := by
  have HC := hide (w_CheckEvents lo A c l w hR hl hok)
  have hf := hide (show momentF l at_ = if evsF l = 0 then (if momB at_ = true then 0 else 1) else evsF l from rfl)
  generalize evsF l = f at HC hf
  generalize momentF l at_ = r at hf ⊢
  generalize l.length = n at *
  clear hR hl hok
  go_enter Tryz.func58, Tryz.ntmps58
  have hq : f = 0 ∨ (f == 0) = false := by simp; omega
  rcases hq with rfl | hq
  · cases hm : momB at_ with
    | true =>
      have hr := hide (show r = 0 by rw [hf.out]; simp [hm])
      go_wp2_with (first
        | (go_at_call 17; refine HC.out.mono ?_; rintro e w2 ⟨rfl, hn2⟩)
        | (go_at_call 86; refine (w_Moment _ _).mono ?_; rintro e w' ⟨rfl, rfl⟩))
      go_ret
      exact ⟨by rw [hr.out] <;> rfl, hn2⟩
    | false =>
      have hr := hide (show r = 1 by rw [hf.out]; simp [hm])
      go_wp2_with (first
        | (go_at_call 17; refine HC.out.mono ?_; rintro e w2 ⟨rfl, hn2⟩)
        | (go_at_call 86; refine (w_Moment _ _).mono ?_; rintro e w' ⟨rfl, rfl⟩))
      go_ret
      exact ⟨by rw [hr.out] <;> rfl, hn2⟩
  · have hr := hide (show r = f by rw [hf.out, if_neg (by simpa using hq)])
    go_wp2_with (first
      | (go_at_call 17; refine HC.out.mono ?_; rintro e w2 ⟨rfl, hn2⟩)
      | (go_at_call 86; refine (w_Moment _ _).mono ?_; rintro e w' ⟨rfl, rfl⟩))
    go_ret
    exact ⟨by rw [hr.out] <;> rfl, hn2⟩
set_option maxRecDepth 100000 in
set_option maxHeartbeats 2000000 in
theorem w_RefusedOf (lo : Nat) (A : Option Addr) (c : Nat) (l : List Ev) (w : World) (hR : Rd w lo A 11 encEvt l) (hl : l.length ≤ 50) (hok : ∀ x ∈ l, okEv x) :
    Calls Tryz.prog 36 #[.slice A l.length c] w fun e w' => (∃ (B : Option Addr) (m cb : Nat), e = .returned (.tuple #[.slice B m cb, .int .i64 (evsF l)]) ∧ (evsF l ≠ 0 → B = none ∧ m = 0) ∧ (evsF l = 0 → m = (refP l endMo l.length).length ∧ Rd w' w.heap.size B 2 encRef (refP l endMo l.length))) ∧ Nx w w' := by
  have HC := hide (w_CheckEvents lo A c l w hR hl hok)
  have HFO := hide (fun (h : evsF l = 0) (W : World) (hn : Nx w W) => w_follow lo A c l endMo W (hR.nx hn) (by omega) h)
  have hq : evsF l = 0 ∨ (evsF l != 0) = true := by simp; omega
  rcases hq with hq | hq
  · have HQ := hide hq
    rw [hq] at HC ⊢
    have hfo := HFO.out hq
    obtain ⟨rs, hrs⟩ : ∃ rs, rs = refP l endMo l.length := ⟨_, rfl⟩
    have HFO2 := hide hfo
    rw [← hrs]
    have HRS := hide hrs
    obtain ⟨n, hn⟩ : ∃ n, n = l.length := ⟨_, rfl⟩
    rw [← hn] at HC HFO2 ⊢
    have HN := hide hn
    clear hR hl hok hfo hq hrs hn HFO
    unfold endMo at HFO2
    go_enter Tryz.func36, Tryz.ntmps36
    go_wp2_with fail
    refine HC.out.mono ?_
    rintro e w2 ⟨rfl, hn2⟩
    have hfo := HFO2.out w2 hn2
    have HFO3 := hide hfo
    have HN2 := hide hn2
    clear hfo hn2
    go_wp2_with fail
    refine HFO3.out.mono ?_
    rintro e w3 ⟨lo3, d, rb, cb, gb, bb, rv, fr, fc, fm, rfl, hD, hblk, hrow, hG, h1, h2, h3, h4, h5, hnx⟩
    obtain ⟨A3, c3, e3, hR3, _⟩ := Rd.of_own encRef_len rfl hrow
    subst e3
    have d3 := (day_cells hblk).2.2.2.1
    have HR3 := hide hR3
    have HNX := hide hnx
    clear hD hblk hrow hG hR3 hnx
    go_wp2_with fail
    go_ret2
    refine ⟨⟨_, _, _, rfl, fun h => absurd rfl h, fun _ => ⟨?_, ?_⟩⟩, HN2.out.trans HNX.out⟩
    · rw [HRS.out]; rfl
    · rw [HRS.out]; exact HR3.out.low HN2.out.sz
  · obtain ⟨f, hf⟩ : ∃ f, f = evsF l := ⟨_, rfl⟩
    rw [← hf] at HC hq
    have hq2 := hide (show f ≠ 0 by simpa using hq)
    have HF := hide hf
    have hgoal : ∀ e w', (∃ (B : Option Addr) (m cb : Nat), e = Ending.returned (.tuple #[.slice B m cb, .int .i64 f]) ∧ B = none ∧ m = 0) ∧ Nx w w' → (∃ (B : Option Addr) (m cb : Nat), e = Ending.returned (.tuple #[.slice B m cb, .int .i64 (evsF l)]) ∧ (evsF l ≠ 0 → B = none ∧ m = 0) ∧ (evsF l = 0 → m = (refP l endMo l.length).length ∧ Rd w' w.heap.size B 2 encRef (refP l endMo l.length))) ∧ Nx w w' := by
      rintro e w' ⟨⟨B, m, cb, e1, e2⟩, hn⟩
      exact ⟨⟨B, m, cb, by rw [← hf]; exact e1, fun _ => e2, fun h => absurd (hf.trans h) hq2.out⟩, hn⟩
    refine Calls.mono (?_ : Calls _ _ _ _ (fun e w' => (∃ (B : Option Addr) (m cb : Nat), e = Ending.returned (.tuple #[.slice B m cb, .int .i64 f]) ∧ B = none ∧ m = 0) ∧ Nx w w')) hgoal
    generalize l.length = n at *
    clear hgoal hf hR hl hok HFO
    go_enter Tryz.func36, Tryz.ntmps36
    go_wp2_with (go_at_call 17; refine HC.out.mono ?_; rintro e w2 ⟨rfl, hn2⟩)
    go_ret2
    exact ⟨⟨_, _, _, rfl, rfl, rfl⟩, hn2⟩
end Go.Proofs.YtfkmbeppckelfaaGreatDoor
/- Plain functions: nodes and knots checked; how long an arc takes. -/
namespace Go.Proofs.YtfkmbeppckelfaaGreatDoor

structure Node where
  key : ByteArray
  x : Int
  y : Int
instance : Inhabited Node := ⟨⟨default, 0, 0⟩⟩
def encNode (n : Node) : List Value := [.string n.key, .int .i64 n.x, .int .i64 n.y]
theorem encNode_len (n : Node) : (encNode n).length = 3 := rfl
theorem encNode_one (x : Node) : ∀ v ∈ encNode x, v.oneCell' = true := by
  intro v hv; simp [encNode] at hv; rcases hv with rfl | rfl | rfl <;> rfl
structure Knot where
  at_ : Int
  time : Int
instance : Inhabited Knot := ⟨⟨0, 0⟩⟩
def encKnot (n : Knot) : List Value := [.int .i64 n.at_, .int .i64 n.time]
theorem encKnot_len (n : Knot) : (encKnot n).length = 2 := rfl
/-- A node that stands behind another one. -/
def nodeF (p : Option Node) (n : Node) : Int :=
  if keyB n.key then (match p with | some q => if strLe n.key q.key then 7 else ptF n.x n.y | none => ptF n.x n.y) else 5
def nodesF (l : List Node) : Int := if 500 < l.length then 2 else chk nodeF none l
def dayMs : Int := 86400000
def knotF (p : Option Knot) (k : Knot) : Int :=
  if outB k.at_ 0 (dayMs - 1) || outB k.time 1 3600000 then 1 else (match p with | some q => if k.at_ ≤ q.at_ then 7 else 0 | none => if k.at_ = 0 then 0 else 7)
/-- What comes behind knot i. -/
def afterK (l : List Knot) (i : Nat) : Knot := if i + 1 < l.length then l.getD (i + 1) default else ⟨dayMs, (l.getD 0 default).time⟩
def fallsB (l : List Knot) (i : Nat) : Bool := decide ((afterK l i).at_ - (l.getD i default).at_ < (l.getD i default).time - (afterK l i).time)
def fallF (l : List Knot) : Nat → Int
  | 0 => 0
  | k + 1 => if fallsB l (l.length - (k + 1)) then 16 else fallF l k
def knotsF (l : List Knot) : Int :=
  if l.length = 0 then 8 else if 48 < l.length then 2 else if chk knotF none l = 0 then fallF l l.length else chk knotF none l
theorem fallF_at (l : List Knot) (k : Nat) (hk : k < l.length) : fallF l (l.length - k) = if fallsB l k then 16 else fallF l (l.length - (k + 1)) := by
  have e : l.length - k = (l.length - (k + 1)) + 1 := by omega
  rw [e, fallF, ← e]
  have e2 : l.length - (l.length - k) = k := by omega
  rw [e2]
end Go.Proofs.YtfkmbeppckelfaaGreatDoor
/- Nodes: the program's check. -/
namespace Go.Proofs.YtfkmbeppckelfaaGreatDoor
open Go.RowKit

theorem w_isPointR (x y : Int) (w : World) : Calls Tryz.prog 198 #[.int .i64 x, .int .i64 y] w fun e w' => e = .returned (.bool (isPtB x y)) ∧ w = w' := by
  cases h : outB x (-10000) 10000
  · cases h2 : outB y (-10000) 10000
    all_goals
      go_enter Tryz.func198, Tryz.ntmps198
      go_wp2_with (go_at_call 85; refine (w_Out _ _ _ _).mono ?_; rintro e w' ⟨rfl, rfl⟩)
      go_ret
      exact ⟨ret_bool (by unfold isPtB; rw [h, h2]; rfl), rfl⟩
  · go_enter Tryz.func198, Tryz.ntmps198
    go_wp2_with (go_at_call 85; refine (w_Out _ _ _ _).mono ?_; rintro e w' ⟨rfl, rfl⟩)
    go_ret
    exact ⟨ret_bool (by unfold isPtB; rw [h]; rfl), rfl⟩

def SmallN (l : List Node) : Prop := ∀ s ∈ l, s.key.size ≤ 1000000
set_option maxRecDepth 100000 in
set_option maxHeartbeats 2000000 in
theorem w_nodesFaultR (lo : Nat) (A : Option Addr) (c : Nat) (l : List Node) (w : World) (hR : Rd w lo A 3 encNode l) (hS : SmallN l) (hl : l.length ≤ 65536) :
    Calls Tryz.prog 153 #[.slice A l.length c] w fun e w' => e = .returned (.int .i64 (nodesF l)) ∧ Nx w w' := by
  generalize hn : l.length = n at *
  have HR := hide hR
  have HN := hide hn
  have HS := hide hS
  clear hR hn hS
  by_cases hbig : 500 < n
  · go_enter Tryz.func153, Tryz.ntmps153
    go_wp2
    go_ret
    exact ⟨ret_int (by unfold nodesF; rw [if_pos (by rw [HN.out]; exact hbig)]), Nx.refl _⟩
  · have HF := hide (show nodesF l = chk nodeF none l by unfold nodesF; rw [if_neg (by rw [HN.out]; exact hbig)])
    go_enter Tryz.func153, Tryz.ntmps153
    go_wp2
    go_loopw [2, 3, 4, 10] (fun _ _ _ i wr => ∃ k : Nat, k ≤ n ∧ i = .int .i64 k ∧ Nx w wr ∧ chk nodeF none l = chk nodeF (prevOf l k) (l.drop k)) (fun _ _ _ i _ => n - (intOf i).toNat)
    case atStart => exact ⟨0, Nat.zero_le _, rfl, Nx.refl _, rfl⟩
    case round =>
      obtain ⟨k, hk, rfl, hbw, hq⟩ := hrel
      have HQ := hide hq
      clear hq
      by_cases hlt : k < n
      · have hlt' : k < l.length := by have := HN.out; omega
        obtain ⟨b, off, rfl, _, hb, hbr, hc⟩ := HR.out.open_ hbw (by omega)
        have c0 : wr.cell? ⟨b, off + k * 3, none⟩ = some (.string l[k].key) := hc k hlt' 0 _ rfl
        have c1 : wr.cell? ⟨b, off + k * 3 + 1, none⟩ = some (.int .i64 l[k].x) := hc k hlt' 1 _ rfl
        have c2 : wr.cell? ⟨b, off + k * 3 + 2, none⟩ = some (.int .i64 l[k].y) := hc k hlt' 2 _ rfl
        have hsz := HS.out _ (List.getElem_mem hlt')
        have HC := hide hc
        clear hc
        have HD := hide (chk_drop nodeF l k hlt')
        cases hkb : keyB l[k].key
        · have HV := hide (show nodeF (prevOf l k) l[k] = 5 by unfold nodeF; rw [hkb]; rfl)
          go_wp2_with (go_at_call 84; refine (w_Key _ _ hsz).mono ?_; rintro e w' ⟨rfl, rfl⟩)
          go_ret
          exact ⟨ret_int (by rw [HF.out, HQ.out, HD.out, HV.out]; rfl), hbw.alloc _⟩
        · by_cases hk0 : 0 < k
          · have c4 : wr.cell? ⟨b, off + (k - 1) * 3, none⟩ = some (.string (l[k - 1]'(by omega)).key) := HC.out (k - 1) (by omega) 0 _ rfl
            have HV := hide (show nodeF (prevOf l k) l[k] = if strLe l[k].key (l[k - 1]'(by omega)).key then 7 else ptF l[k].x l[k].y by rw [prevOf_pos l k hk0 (by omega)]; unfold nodeF; rw [hkb]; rfl)
            generalize (l[k - 1]'(by omega)).key = p0 at *
            have q0 : decide ((0 : Int) < (k : Int)) = true := by simpa using hk0
            have q1 : IntKind.i64.wrap ((k : Int) - 1) = (k : Int) - 1 := IntWalk.i64_in _ (by omega)
            have q2 : (1 : Int) ≤ (k : Int) := by omega
            have q3 : ((k : Int) - 1).toNat = k - 1 := by omega
            have q4 : (k : Int) - 1 < (n : Int) := by omega
            cases ho : strLe l[k].key p0
            · have t1 : (Op.bytesLess l[k].key.toList p0.toList || l[k].key.toList == p0.toList) = false := ho
              have HO := hide ho
              cases hp : isPtB l[k].x l[k].y
              all_goals
                have HP := hide hp
                clear ho
                go_wp2_with (first
                  | (go_at_call 84; refine (w_Key _ _ hsz).mono ?_; rintro e w' ⟨rfl, rfl⟩))
                go_quiet (fail)
                go_wp2_with (first
                  | (go_at_call 198; refine (w_isPointR _ _ _).mono ?_; rintro e w' ⟨rfl, rfl⟩))
              · go_ret
                exact ⟨ret_int (by rw [HF.out, HQ.out, HD.out, HV.out, HO.out]; unfold ptF argF; rw [HP.out]; rfl), (hbw.alloc _).drewN _⟩
              · go_roundw
                case rel => exact ⟨k + 1, by omega, by go_num, (hbw.alloc _).drewN _, by rw [HQ.out, HD.out, HV.out, HO.out]; unfold ptF argF; rw [HP.out]; rfl⟩
                case measure => simp [intOf]; omega
            · have t1 : (Op.bytesLess l[k].key.toList p0.toList || l[k].key.toList == p0.toList) = true := ho
              have HO := hide ho
              clear ho
              go_wp2_with (first
                | (go_at_call 84; refine (w_Key _ _ hsz).mono ?_; rintro e w' ⟨rfl, rfl⟩))
              go_quiet (fail)
              go_wp2
              go_ret
              exact ⟨ret_int (by rw [HF.out, HQ.out, HD.out, HV.out, HO.out]; rfl), (hbw.alloc _).drewN _⟩
          · have HV := hide (show nodeF (prevOf l k) l[k] = ptF l[k].x l[k].y by have e : k = 0 := (by omega); subst e; rw [prevOf_zero]; unfold nodeF; rw [hkb]; rfl)
            have q0 : decide ((0 : Int) < (k : Int)) = false := by simpa using hk0
            cases hp : isPtB l[k].x l[k].y
            all_goals
              have HP := hide hp
              go_wp2_with (first
                | (go_at_call 84; refine (w_Key _ _ hsz).mono ?_; rintro e w' ⟨rfl, rfl⟩))
              go_quiet (fail)
              go_wp2_with (first
                | (go_at_call 198; refine (w_isPointR _ _ _).mono ?_; rintro e w' ⟨rfl, rfl⟩))
            · go_ret
              exact ⟨ret_int (by rw [HF.out, HQ.out, HD.out, HV.out]; unfold ptF argF; rw [HP.out]; rfl), (hbw.alloc _).drewN _⟩
            · go_roundw
              case rel => exact ⟨k + 1, by omega, by go_num, (hbw.alloc _).drewN _, by rw [HQ.out, HD.out, HV.out]; unfold ptF argF; rw [HP.out]; rfl⟩
              case measure => simp [intOf]; omega
      · go_wp2
        go_ret
        exact ⟨ret_int (by rw [HF.out, HQ.out, List.drop_of_length_le (by have := HN.out; omega)]; rfl), hbw⟩
end Go.Proofs.YtfkmbeppckelfaaGreatDoor
/- A node's number: the program's search. -/
namespace Go.Proofs.YtfkmbeppckelfaaGreatDoor
open Go.RowKit

theorem w_node1 (x : Node) (s : ByteArray) (w : World) : Calls Tryz.prog 200 #[.agg #[.string x.key, .int .i64 x.x, .int .i64 x.y], .string s] w fun e w' => e = .returned (.int .i64 (cmpS x.key s)) ∧ Nx w w' := by
  go_enter Tryz.func200, Tryz.ntmps200
  go_wp2_with (go_at_call 61; refine (w_CompareS _ _ _).mono ?_; rintro e w' ⟨rfl, rfl⟩)
  go_ret
  exact ⟨rfl, (Nx.refl _).alloc _⟩

/-- Where a search ends. -/
structure Found (f : Nat → Int) (n r : Nat) (is : Bool) : Prop where
  le : r ≤ n
  lo : ∀ i, i < r → f i < 0
  hi : ∀ i, r ≤ i → i < n → 0 ≤ f i
  is_ : is = (decide (r < n) && decide (f r = 0))
set_option maxRecDepth 100000 in
set_option maxHeartbeats 2000000 in
theorem w_BsfNode (g : Nat) (f : Node → Int) (x : ByteArray) (eg : Enters g) (hcl : ∀ (y : Node) W, Calls Tryz.prog g #[.agg #[.string y.key, .int .i64 y.x, .int .i64 y.y], .string x] W fun e w' => e = .returned (.int .i64 (f y)) ∧ Nx W w')
    (lo : Nat) (A : Option Addr) (c : Nat) (l : List Node) (w : World) (hR : Rd w lo A 3 encNode l) (hl : l.length ≤ 65536)
    (hm : ∀ i j, i ≤ j → j < l.length → f (l.getD j default) < 0 → f (l.getD i default) < 0) :
    Calls Tryz.prog 199 #[.slice A l.length c, .string x, .func (.func g) #[] #[]] w fun e w' => ∃ (r : Nat) (is : Bool), e = .returned (.tuple #[.int .i64 (r : Int), .bool is]) ∧ Found (fun i => f (l.getD i default)) l.length r is ∧ Nx w w' := by
  generalize hn : l.length = n at *
  have HR := hide hR
  have HN := hide hn
  have HC0 := hide hcl
  have HM := hide hm
  clear hR hn hcl hm
  unfold Enters at eg
  have HG := hide (fun i (hi : i < l.length) => (show l.getD i default = l[i] by rw [List.getD_eq_getElem?_getD, List.getElem?_eq_getElem hi]; rfl))
  go_enter Tryz.func199, Tryz.ntmps199
  go_wp2
  go_loopw [9, 10, 11] (fun vi vj _ wr => ∃ i j : Nat, i ≤ j ∧ j ≤ n ∧ vi = .int .i64 i ∧ vj = .int .i64 j ∧ Nx w wr ∧ (∀ m, m < i → f (l.getD m default) < 0) ∧ (∀ m, j ≤ m → m < n → 0 ≤ f (l.getD m default))) (fun vi vj _ _ => (intOf vj).toNat - (intOf vi).toNat)
  case atStart => exact ⟨0, n, Nat.zero_le _, Nat.le_refl _, rfl, rfl, Nx.refl _, fun m hm => by omega, fun m h1 h2 => by omega⟩
  case round =>
    obtain ⟨i, j, hij, hj, rfl, rfl, hbw, hlo, hhi⟩ := hrel
    have HLO := hide hlo
    have HHI := hide hhi
    clear hlo hhi
    by_cases hlt : i < j
    · obtain ⟨h, hh⟩ : ∃ h, h = (i + j) / 2 := ⟨_, rfl⟩
      have qh : ((i : Int) + (j : Int)) / 2 = (h : Int) := by omega
      have hih : i ≤ h := by omega
      have hhj : h < j := by omega
      have hh' : h < l.length := by have := HN.out; omega
      clear hh
      obtain ⟨b, off, rfl, _, hb, hbr, hc⟩ := HR.out.open_ hbw (by omega)
      have c0 : wr.cell? ⟨b, off + h * 3, none⟩ = some (.string l[h].key) := hc h hh' 0 _ rfl
      have c1 : wr.cell? ⟨b, off + h * 3 + 1, none⟩ = some (.int .i64 l[h].x) := hc h hh' 1 _ rfl
      have c2 : wr.cell? ⟨b, off + h * 3 + 2, none⟩ = some (.int .i64 l[h].y) := hc h hh' 2 _ rfl
      clear hc
      have HE := hide (HG.out h hh')
      have HCY := hide (HC0.out l[h])
      by_cases hneg : f l[h] < 0
      · have t1 : decide (f l[h] < 0) = true := by simpa using hneg
        have HNG := hide hneg
        clear hneg
        generalize l[h] = y at *
        go_wp2_with (go_at_fn g; refine (HCY.out _).mono ?_; rintro e w2 ⟨rfl, hn2⟩)
        go_roundw
        case rel => exact ⟨h + 1, j, by omega, by omega, by go_num, rfl, hbw.trans hn2, fun m hm => HM.out m h (by omega) (by omega) (by rw [HE.out]; exact HNG.out), HHI.out⟩
        case measure => simp [intOf]; omega
      · have t1 : decide (f l[h] < 0) = false := by simpa using hneg
        have HNG := hide hneg
        clear hneg
        generalize l[h] = y at *
        go_wp2_with (go_at_fn g; refine (HCY.out _).mono ?_; rintro e w2 ⟨rfl, hn2⟩)
        go_roundw
        case rel => exact ⟨i, h, by omega, by omega, rfl, rfl, hbw.trans hn2, HLO.out, fun m h1 h2 => by
          refine Int.not_lt.1 fun hc => ?_
          have h3 := HM.out h m h1 h2 hc
          rw [HE.out] at h3
          have := HNG.out
          omega⟩
        case measure => simp [intOf]; omega
    · have hij' : i = j := by omega
      subst hij'
      clear hlt hij
      by_cases hin : i < n
      · have hi' : i < l.length := by have := HN.out; omega
        obtain ⟨b, off, rfl, _, hb, hbr, hc⟩ := HR.out.open_ hbw (by omega)
        have c0 : wr.cell? ⟨b, off + i * 3, none⟩ = some (.string l[i].key) := hc i hi' 0 _ rfl
        have c1 : wr.cell? ⟨b, off + i * 3 + 1, none⟩ = some (.int .i64 l[i].x) := hc i hi' 1 _ rfl
        have c2 : wr.cell? ⟨b, off + i * 3 + 2, none⟩ = some (.int .i64 l[i].y) := hc i hi' 2 _ rfl
        clear hc
        have HE := hide (HG.out i hi')
        have HCY := hide (HC0.out l[i])
        generalize l[i] = y at *
        go_wp2_with (go_at_fn g; refine (HCY.out _).mono ?_; rintro e w2 ⟨rfl, hn2⟩)
        go_ret2
        exact ⟨i, _, rfl, ⟨hj, HLO.out, HHI.out, by show _ = (decide (i < n) && decide (f (l.getD i default) = 0)); rw [HE.out, decide_eq_true hin]; rfl⟩, hbw.trans hn2⟩
      · go_wp2
        go_ret2
        exact ⟨i, _, rfl, ⟨hj, HLO.out, HHI.out, by rw [decide_eq_false hin]; rfl⟩, hbw⟩

theorem found_at {f : Nat → Int} {n r : Nat} {is : Bool} (h : Found f n r is) (k : Nat) (hk : k < n) (h0 : f k = 0) (hlo : ∀ i, i < k → f i < 0) : r = k ∧ is = true := by
  have e : r = k := by
    rcases Nat.lt_trichotomy r k with h1 | h1 | h1
    · have := h.hi r (Nat.le_refl _) (by omega); have := hlo r h1; omega
    · exact h1
    · have := h.lo k h1; omega
  subst e
  exact ⟨rfl, by rw [h.is_, decide_eq_true hk, h0]; rfl⟩
theorem found_no {f : Nat → Int} {n r : Nat} {is : Bool} (h : Found f n r is) (hno : ∀ k, k < n → f k ≠ 0) : is = false := by
  rw [h.is_]
  by_cases hr : r < n
  · rw [decide_eq_false (hno r hr)]; simp
  · rw [decide_eq_false hr]; rfl
end Go.Proofs.YtfkmbeppckelfaaGreatDoor
/- Plain: how long an arc takes at a moment. -/
namespace Go.Proofs.YtfkmbeppckelfaaGreatDoor

/-- The line between two knots. -/
def lineI (k y : Knot) (t : Int) : Int := (k.time * (y.at_ - t) + y.time * (t - k.at_)) / (y.at_ - k.at_)
def segI (l : List Knot) (t : Int) : Nat := (l.takeWhile (fun k => decide (k.at_ ≤ t))).length - 1
def timeI (l : List Knot) (at_ : Int) : Int := lineI (l.getD (segI l (at_ % dayMs)) default) (afterK l (segI l (at_ % dayMs))) (at_ % dayMs)
theorem takeWhile_len {α : Type} {p : α → Bool} : ∀ (l : List α) (k : Nat), k ≤ l.length → (∀ m (h : m < l.length), m < k → p l[m] = true) → (∀ h : k < l.length, p l[k] = false) → (l.takeWhile p).length = k
  | [], k, hk, _, _ => by simp at hk; subst hk; rfl
  | a :: l, 0, _, _, h2 => by
    have h0 : p a = false := h2 (by simp)
    rw [List.takeWhile_cons]; simp [h0]
  | a :: l, k + 1, hk, h1, h2 => by
    have h0 : p a = true := h1 0 (by simp) (by omega)
    rw [List.takeWhile_cons]; simp only [h0, if_true, List.length_cons]
    rw [takeWhile_len l k (by simpa using hk) (fun m h hm => h1 (m + 1) (by simpa using h) (by omega)) (fun h => h2 (by simpa using h))]
/-- Knots that are right. -/
structure KOk (l : List Knot) : Prop where
  pos : 0 < l.length
  le : l.length ≤ 48
  first : (l.getD 0 default).at_ = 0
  bd : ∀ i, i < l.length → (0 ≤ (l.getD i default).at_ ∧ (l.getD i default).at_ ≤ 86399999) ∧ (1 ≤ (l.getD i default).time ∧ (l.getD i default).time ≤ 3600000)
  up : ∀ i, i + 1 < l.length → (l.getD i default).at_ < (l.getD (i + 1) default).at_
theorem KOk.lt {l : List Knot} (h : KOk l) : ∀ (i j : Nat), i < j → j < l.length → (l.getD i default).at_ < (l.getD j default).at_
  | i, 0, h1, _ => absurd h1 (by omega)
  | i, j + 1, h1, h2 => by
    have h3 := h.up j h2
    rcases Nat.lt_or_ge i j with h4 | h4
    · have := KOk.lt h i j h4 (by omega); omega
    · have : i = j := by omega
      subst this; exact h3
theorem chkK_ok : ∀ (l : List Knot) (p : Option Knot), chk knotF p l = 0 → (∀ i, i < l.length → (0 ≤ (l.getD i default).at_ ∧ (l.getD i default).at_ ≤ 86399999) ∧ (1 ≤ (l.getD i default).time ∧ (l.getD i default).time ≤ 3600000)) ∧ (∀ i, i + 1 < l.length → (l.getD i default).at_ < (l.getD (i + 1) default).at_) ∧ (0 < l.length → (p = none → (l.getD 0 default).at_ = 0) ∧ ∀ q, p = some q → q.at_ < (l.getD 0 default).at_)
  | [], _, _ => ⟨fun i hi => absurd hi (by simp), fun i hi => absurd hi (by simp), fun h => absurd h (by simp)⟩
  | k :: l, p, h => by
    unfold chk at h
    by_cases h0 : knotF p k = 0
    · rw [if_pos h0] at h
      have ih := chkK_ok l (some k) h
      unfold knotF at h0
      cases h1 : (outB k.at_ 0 (dayMs - 1) || outB k.time 1 3600000) with
      | true => rw [h1, if_pos rfl] at h0; exact absurd h0 (by decide)
      | false =>
        rw [h1] at h0
        rw [if_neg (by simp)] at h0
        rw [Bool.or_eq_false_iff] at h1
        have b1 := outB_false.1 h1.1
        have b2 := outB_false.1 h1.2
        unfold dayMs at b1
        refine ⟨fun i hi => ?_, fun i hi => ?_, fun _ => ⟨fun hp => ?_, fun q hq => ?_⟩⟩
        · cases i with
          | zero => exact ⟨by show 0 ≤ k.at_ ∧ k.at_ ≤ _; omega, b2⟩
          | succ i => exact ih.1 i (by simpa using hi)
        · cases i with
          | zero => exact (ih.2.2 (by simpa using hi)).2 k rfl
          | succ i => exact ih.2.1 i (by simpa using hi)
        · subst hp
          show k.at_ = 0
          by_cases hz : k.at_ = 0
          · exact hz
          · simp [hz] at h0
        · subst hq
          show q.at_ < k.at_
          by_cases hz : k.at_ ≤ q.at_
          · simp [hz] at h0
          · omega
    · rw [if_neg h0] at h; exact absurd h h0
theorem knotsF_chk {l : List Knot} (h : knotsF l = 0) : KOk l := by
  unfold knotsF at h
  by_cases h0 : l.length = 0
  · rw [if_pos h0] at h; exact absurd h (by decide)
  rw [if_neg h0] at h
  by_cases h1 : 48 < l.length
  · rw [if_pos h1] at h; exact absurd h (by decide)
  rw [if_neg h1] at h
  by_cases h2 : chk knotF none l = 0
  · obtain ⟨a, b, c⟩ := chkK_ok l none h2
    exact ⟨by omega, by omega, (c (by omega)).1 rfl, a, b⟩
  · rw [if_neg h2] at h; exact absurd h h2
/-- i is the last knot that is not behind t. -/
theorem seg_of {l : List Knot} (h : KOk l) {t : Int} {i : Nat} (hi : i < l.length) (h1 : (l.getD i default).at_ ≤ t) (h2 : i + 1 < l.length → t < (l.getD (i + 1) default).at_) : segI l t = i := by
  unfold segI
  rw [takeWhile_len l (i + 1) hi (fun m hm hmi => ?_) (fun hk => ?_)]
  · rfl
  · have e : l[m] = l.getD m default := by rw [List.getD_eq_getElem?_getD, List.getElem?_eq_getElem hm]; rfl
    rw [e, decide_eq_true_eq]
    rcases Nat.lt_or_ge m i with h4 | h4
    · have := h.lt m i h4 hi; omega
    · have : m = i := by omega
      subst this; exact h1
  · have e : l[i + 1] = l.getD (i + 1) default := by rw [List.getD_eq_getElem?_getD, List.getElem?_eq_getElem hk]; rfl
    rw [e, decide_eq_false_iff_not]
    have := h2 hk; omega
theorem after_bd {l : List Knot} (h : KOk l) {i : Nat} (hi : i < l.length) : ((l.getD i default).at_ < (afterK l i).at_ ∧ (afterK l i).at_ ≤ 86400000) ∧ (1 ≤ (afterK l i).time ∧ (afterK l i).time ≤ 3600000) := by
  unfold afterK
  by_cases h1 : i + 1 < l.length
  · rw [if_pos h1]
    have a := h.bd (i + 1) h1
    have b := h.up i h1
    omega
  · rw [if_neg h1]
    have a := h.bd i hi
    have b := h.bd 0 h.pos
    simp only [dayMs]
    omega
theorem time_one {l : List Knot} (h : l.length = 1) (hk : KOk l) (at_ : Int) : timeI l at_ = (l.getD 0 default).time := by
  have hs : segI l (at_ % dayMs) = 0 := seg_of hk (by omega) (by
    rw [hk.first]
    have := Int.emod_nonneg at_ (show dayMs ≠ 0 by decide)
    omega) (fun h1 => by omega)
  unfold timeI
  rw [hs]
  have e : afterK l 0 = ⟨dayMs, (l.getD 0 default).time⟩ := by unfold afterK; rw [if_neg (by omega)]
  rw [e]
  unfold lineI
  rw [hk.first]
  simp only [Int.sub_zero]
  rw [← Int.mul_add, show dayMs - at_ % dayMs + at_ % dayMs = dayMs by omega]
  exact Int.mul_ediv_cancel _ (by decide)
end Go.Proofs.YtfkmbeppckelfaaGreatDoor
/- Plain: arcs and bans checked. -/
namespace Go.Proofs.YtfkmbeppckelfaaGreatDoor

structure Arc where
  key : ByteArray
  from_ : ByteArray
  to_ : ByteArray
  long : Int
  ka : Option Addr
  kc : Nat
  knots : List Knot
instance : Inhabited Arc := ⟨⟨default, default, default, 0, none, 0, []⟩⟩
structure Ban where
  from_ : ByteArray
  to_ : ByteArray
instance : Inhabited Ban := ⟨⟨default, default⟩⟩
section
variable {α : Type}
/-- The first place at which something is so. -/
def idxP (p : α → Bool) : List α → Nat → Int
  | [], _ => -1
  | n :: l, i => if p n then (i : Int) else idxP p l (i + 1)
def findI (p : α → Bool) (l : List α) : Int := idxP p l 0
theorem idxP_at [Inhabited α] (p : α → Bool) : ∀ (l : List α) (j k : Nat), k < l.length → p (l.getD k default) = true → (∀ i, i < k → p (l.getD i default) = false) → idxP p l j = ((j + k : Nat) : Int)
  | [], _, k, hk, _, _ => absurd hk (by simp)
  | n :: l, j, 0, _, h, _ => by
    have h' : p n = true := h
    simp [idxP, h']
  | n :: l, j, k + 1, hk, h, hlo => by
    have h0 : p n = false := hlo 0 (by omega)
    rw [idxP, h0, if_neg (by simp), idxP_at p l (j + 1) k (by simpa using hk) h (fun i hi => hlo (i + 1) (by omega))]
    omega
theorem idxP_no [Inhabited α] (p : α → Bool) : ∀ (l : List α) (j : Nat), (∀ k, k < l.length → p (l.getD k default) = false) → idxP p l j = -1
  | [], _, _ => rfl
  | n :: l, j, h => by
    have h0 : p n = false := h 0 (by simp)
    rw [idxP, h0, if_neg (by simp)]
    exact idxP_no p l (j + 1) (fun k hk => h (k + 1) (by simpa using hk))
end

def nodeI (l : List Node) (s : ByteArray) : Int := findI (fun n => decide (n.key = s)) l
/-- Sorted by key. -/
def SortN (l : List Node) : Prop := l.Pairwise fun a b => ltS a.key b.key
end Go.Proofs.YtfkmbeppckelfaaGreatDoor
/- The number of a node. -/
namespace Go.Proofs.YtfkmbeppckelfaaGreatDoor
open Go.RowKit

theorem SortN.at {l : List Node} (h : SortN l) {i j : Nat} (hij : i < j) (hj : j < l.length) : ltS (l.getD i default).key (l.getD j default).key := by
  unfold SortN at h
  rw [List.pairwise_iff_getElem] at h
  have := h i j (by omega) hj hij
  rw [List.getD_eq_getElem?_getD, List.getD_eq_getElem?_getD, List.getElem?_eq_getElem (by omega), List.getElem?_eq_getElem hj]
  exact this
theorem SortN.mono {l : List Node} (h : SortN l) (s : ByteArray) (i j : Nat) (hij : i ≤ j) (hj : j < l.length) (hn : cmpS (l.getD j default).key s < 0) : cmpS (l.getD i default).key s < 0 := by
  rcases Nat.lt_or_ge i j with h1 | h1
  · exact cmpS_neg.2 (ltS_trans (h.at h1 hj) (cmpS_neg.1 hn))
  · have : i = j := by omega
    subst this; exact hn
set_option maxRecDepth 100000 in
set_option maxHeartbeats 1000000 in
theorem w_nodeR (g lo : Nat) (A : Option Addr) (c : Nat) (l : List Node) (s : ByteArray) (w : World) (hg : w.cell? ⟨g, 0, none⟩ = some (.slice A l.length c)) (hR : Rd w lo A 3 encNode l) (hl : l.length ≤ 65536) (hs : SortN l) :
    Calls Tryz.prog 154 #[.pointer (some ⟨g, 0, none⟩), .string s] w fun e w' => e = .returned (.int .i64 (nodeI l s)) ∧ Nx w w' := by
  have hB := w_BsfNode 200 (fun n => cmpS n.key s) s (enters_of Tryz.func200 (by kernel_rfl) rfl) (fun y W => w_node1 y s W) lo A c l w hR hl (fun i j => hs.mono s i j)
  by_cases hex : ∃ k, k < l.length ∧ (l.getD k default).key = s
  · obtain ⟨k, hk, hks⟩ := hex
    have hlo : ∀ i, i < k → cmpS (l.getD i default).key s < 0 := fun i hi => cmpS_neg.2 (by rw [← hks]; exact hs.at hi hk)
    have HI := hide (show nodeI l s = (k : Int) by
      have := idxP_at (fun n : Node => decide (n.key = s)) l 0 k hk (decide_eq_true hks) (fun i hi => decide_eq_false (fun e => by have := hlo i hi; rw [cmpS_zero.2 e] at this; omega))
      rw [Nat.zero_add] at this; exact this)
    have hB2 : Calls Tryz.prog 199 #[.slice A l.length c, .string s, .func (.func 200) #[] #[]] w fun e w' => e = .returned (.tuple #[.int .i64 (k : Int), .bool true]) ∧ Nx w w' := by
      refine hB.mono ?_
      rintro e w' ⟨r, is, rfl, hF, hn⟩
      obtain ⟨rfl, rfl⟩ := found_at hF k hk (cmpS_zero.2 hks) hlo
      exact ⟨rfl, hn⟩
    have HB := hide hB2
    clear hB hB2 hR hs hlo hks hk
    generalize l.length = n at *
    generalize nodeI l s = z at *
    go_enter Tryz.func154, Tryz.ntmps154
    go_wp2_with (go_at_call 199; refine HB.out.mono ?_; rintro e w2 ⟨rfl, hn2⟩)
    go_ret
    exact ⟨ret_int HI.out.symm, hn2⟩
  · have hno : ∀ k, k < l.length → (l.getD k default).key ≠ s := fun k hk e => hex ⟨k, hk, e⟩
    have HI := hide (show nodeI l s = -1 from idxP_no _ l 0 (fun k hk => decide_eq_false (hno k hk)))
    have hB2 : Calls Tryz.prog 199 #[.slice A l.length c, .string s, .func (.func 200) #[] #[]] w fun e w' => ∃ r : Nat, e = .returned (.tuple #[.int .i64 (r : Int), .bool false]) ∧ Nx w w' := by
      refine hB.mono ?_
      rintro e w' ⟨r, is, rfl, hF, hn⟩
      obtain rfl := found_no hF (fun k hk e => hno k hk (cmpS_zero.1 e))
      exact ⟨r, rfl, hn⟩
    have HB := hide hB2
    clear hB hB2 hR hs hno hex
    generalize l.length = n at *
    generalize nodeI l s = z at *
    go_enter Tryz.func154, Tryz.ntmps154
    go_wp2_with (go_at_call 199; refine HB.out.mono ?_; rintro e w2 ⟨r, rfl, hn2⟩)
    go_ret
    exact ⟨ret_int HI.out.symm, hn2⟩
end Go.Proofs.YtfkmbeppckelfaaGreatDoor
/- Knots: what comes behind one; the program's check. -/
namespace Go.Proofs.YtfkmbeppckelfaaGreatDoor
open Go.RowKit

theorem knot_at {l : List Knot} {k : Nat} (hk : k < l.length) : l.getD k default = l[k] := by rw [List.getD_eq_getElem?_getD, List.getElem?_eq_getElem hk]; rfl
set_option maxRecDepth 100000 in
set_option maxHeartbeats 1000000 in
theorem w_After (lo : Nat) (A : Option Addr) (c : Nat) (l : List Knot) (i : Nat) (w : World) (hR : Rd w lo A 2 encKnot l) (hl : l.length ≤ 65536) (hi : i < l.length) :
    Calls Tryz.prog 160 #[.slice A l.length c, .int .i64 (i : Int)] w fun e w' => e = .returned (.agg #[.int .i64 (afterK l i).at_, .int .i64 (afterK l i).time]) ∧ Nx w w' := by
  obtain ⟨b, off, rfl, _, hb, _, hc⟩ := hR.open_ (Nx.refl w) (by omega)
  by_cases hlt : i + 1 < l.length
  · have c0 : w.cell? ⟨b, off + (i + 1) * 2, none⟩ = some (.int .i64 l[i + 1].at_) := hc (i + 1) hlt 0 _ rfl
    have c1 : w.cell? ⟨b, off + (i + 1) * 2 + 1, none⟩ = some (.int .i64 l[i + 1].time) := hc (i + 1) hlt 1 _ rfl
    have HA := hide (show afterK l i = l[i + 1] by unfold afterK; rw [if_pos hlt, knot_at hlt])
    rw [HA.out]
    clear hc hR
    generalize l[i + 1] = y at *
    generalize l.length = n at *
    clear HA
    have q1 : IntKind.i64.wrap ((i : Int) + 1) = ((i + 1 : Nat) : Int) := by rw [IntWalk.i64_in _ (by omega)]; rfl
    have q2 : decide (((i + 1 : Nat) : Int) < (n : Int)) = true := by simp; omega
    have q3 : ((i + 1 : Nat) : Int).toNat = i + 1 := by omega
    go_enter Tryz.func160, Tryz.ntmps160
    go_wp2
    exact bodyPost_ret (v := .agg #[.int .i64 y.at_, .int .i64 y.time]) (by simp [results, Tryz.results160, go_sem]) rfl ⟨rfl, ((Nx.refl _).alloc _)⟩
  · have c1 : w.cell? ⟨b, off + 1, none⟩ = some (.int .i64 (l[0]'(by omega)).time) := by have := hc 0 (by omega) 1 _ rfl; simpa using this
    have HA := hide (show afterK l i = ⟨dayMs, (l[0]'(by omega)).time⟩ by unfold afterK; rw [if_neg hlt, knot_at (by omega)])
    rw [HA.out]
    clear hc hR
    generalize (l[0]'(by omega)).time = y at *
    generalize l.length = n at *
    clear HA
    go_enter Tryz.func160, Tryz.ntmps160
    go_wp2
    exact bodyPost_ret (v := .agg #[.int .i64 dayMs, .int .i64 y]) (by simp [results, Tryz.results160, go_sem, dayMs]) rfl ⟨rfl, ((Nx.refl _).alloc _)⟩
end Go.Proofs.YtfkmbeppckelfaaGreatDoor
