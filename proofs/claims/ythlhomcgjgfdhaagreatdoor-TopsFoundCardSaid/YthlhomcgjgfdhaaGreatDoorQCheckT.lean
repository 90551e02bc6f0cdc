/- The checks of tallies, both ways. -/
import Derived.Test.YthlhomcgjgfdhaaGreatDoorQG6
namespace Go.Proofs.YthlhomcgjgfdhaaGreatDoor
open Go.RowKit Go.Sort Go.Shelf Go.Maps

theorem w_HourFault (x : Int) (w : World) : Calls Tryz.prog 11 #[.int .i64 x] w fun e w' => e = .returned (.int .i64 (hourF x)) ∧ w = w' := by
  have e1 := inB_out x 0 167
  go_enter Tryz.func11, Tryz.ntmps11
  cases h1 : outB x 0 167
  all_goals
    rw [h1] at e1
    go_wp2_with (go_at_call 43; refine (w_in _ _ _ _).mono ?_; rintro e w' ⟨rfl, rfl⟩)
    go_ret
    exact ⟨ret_int (by unfold hourF; simp [h1, argF]), rfl⟩
theorem dom_tally {t : Tally} (h : okTally t) : dom64 (keyT t) := by
  obtain ⟨⟨h1, h2⟩, h3, _⟩ := h
  exact ⟨wf_i64.2 (by show _ ≤ t.x ∧ t.x ≤ _; omega), wf_i64.2 (by show _ ≤ t.y ∧ t.y ≤ _; omega), wf_i64.2 (by show _ ≤ t.hour ∧ t.hour ≤ _; omega)⟩

set_option maxRecDepth 100000 in
set_option maxHeartbeats 2000000 in
theorem w_CheckTallies (lo : Nat) (A : Option Addr) (c : Nat) (l : List Tally) (w : World) (hR : Rd w lo A 4 encTally l) (hl : l.length ≤ 400) :
    Calls Tryz.prog 48 #[.slice A l.length c] w fun e w' => e = .returned (.int .i64 (talliesF l)) ∧ Nx w w' := by
  generalize hn : l.length = n at *
  have HR := hide hR
  have HN := hide hn
  clear hR hn
  go_enter Tryz.func48, Tryz.ntmps48
  go_wp2
  go_loopw [2, 3, 4, 10] (fun _ _ _ i wr => ∃ k : Nat, k ≤ n ∧ i = .int .i64 k ∧ Nx w wr ∧ chk tallyF none l = chk tallyF (prevOf l k) (l.drop k)) (fun _ _ _ i _ => n - (intOf i).toNat)
  case atStart => exact ⟨0, Nat.zero_le _, rfl, Nx.refl _, rfl⟩
  case round =>
    obtain ⟨k, hk, rfl, hbw, hq⟩ := hrel
    have HQ := hide hq
    clear hq
    by_cases hlt : k < n
    · have hlt' : k < l.length := by have := HN.out; omega
      obtain ⟨b, off, rfl, _, hb, hbr, hc⟩ := HR.out.open_ hbw (by omega)
      have c0 : wr.cell? ⟨b, off + k * 4, none⟩ = some (.int .i64 l[k].x) := hc k hlt' 0 _ rfl
      have c1 : wr.cell? ⟨b, off + k * 4 + 1, none⟩ = some (.int .i64 l[k].y) := hc k hlt' 1 _ rfl
      have c2 : wr.cell? ⟨b, off + k * 4 + 2, none⟩ = some (.int .i64 l[k].hour) := hc k hlt' 2 _ rfl
      have c3 : wr.cell? ⟨b, off + k * 4 + 3, none⟩ = some (.int .i64 l[k].many) := hc k hlt' 3 _ rfl
      have HC := hide hc
      clear hc
      have HD := hide (chk_drop tallyF l k hlt')
      cases hp : isPtB l[k].x l[k].y
      · have HV := hide (show tallyF (prevOf l k) l[k] = 1 by unfold tallyF tallyV; rw [hp]; rfl)
        go_wp2_with (first | (go_at_call 87; refine (w_isPoint _ _ _).mono ?_; rintro e w' ⟨rfl, rfl⟩) | (go_at_call 49; first | (rw [show (1000000000 : Int) = maxCents from rfl]; refine (w_Out _ _ _ _).mono ?_; rintro e w' ⟨rfl, rfl⟩) | (refine (w_Out _ _ _ _).mono ?_; rintro e w' ⟨rfl, rfl⟩)))
        go_ret
        exact ⟨ret_int (by unfold talliesF; rw [HQ.out, HD.out, HV.out]; rfl), (by repeat (first | exact hbw | refine Nx.trans ?_ hL.nx | refine Nx.drew ?_ | refine Nx.drewN ?_ _ | refine Nx.alloc ?_ _))⟩
      · cases hh : outB l[k].hour 0 167
        · cases hm : outB l[k].many 1 maxCents
          · have hv : tallyV l[k] = true := by unfold tallyV; rw [hp, hh, hm]; rfl
            by_cases hk0 : 0 < k
            · have HV := hide (show tallyF (prevOf l k) l[k] = if tallyC l[k] (l[k - 1]'(by omega)) ≤ 0 then 7 else 0 by rw [prevOf_pos l k hk0 (by omega)]; unfold tallyF; rw [hv]; rfl)
              have c4 : wr.cell? ⟨b, off + (k - 1) * 4, none⟩ = some (.int .i64 (l[k - 1]'(by omega)).x) := HC.out (k - 1) (by omega) 0 _ rfl
              have c5 : wr.cell? ⟨b, off + (k - 1) * 4 + 1, none⟩ = some (.int .i64 (l[k - 1]'(by omega)).y) := HC.out (k - 1) (by omega) 1 _ rfl
              have c6 : wr.cell? ⟨b, off + (k - 1) * 4 + 2, none⟩ = some (.int .i64 (l[k - 1]'(by omega)).hour) := HC.out (k - 1) (by omega) 2 _ rfl
              have c7 : wr.cell? ⟨b, off + (k - 1) * 4 + 3, none⟩ = some (.int .i64 (l[k - 1]'(by omega)).many) := HC.out (k - 1) (by omega) 3 _ rfl
              generalize l[k - 1]'(by omega) = pv at *
              have q1 : IntKind.i64.wrap ((k : Int) - 1) = (k : Int) - 1 := IntWalk.i64_in _ (by omega)
              have q2 : (1 : Int) ≤ (k : Int) := by omega
              have q3 : ((k : Int) - 1).toNat = k - 1 := by omega
              have q4 : (k : Int) - 1 < (n : Int) := by omega
              by_cases ho : tallyC l[k] pv ≤ 0
              · have t1 : decide (tallyC l[k] pv ≤ 0) = true := by simpa using ho
                go_wp2_with (first | (go_at_call 87; refine (w_isPoint _ _ _).mono ?_; rintro e w' ⟨rfl, rfl⟩) | (go_at_call 49; first | (rw [show (1000000000 : Int) = maxCents from rfl]; refine (w_Out _ _ _ _).mono ?_; rintro e w' ⟨rfl, rfl⟩) | (refine (w_Out _ _ _ _).mono ?_; rintro e w' ⟨rfl, rfl⟩)))
                go_region_held3 (fun w' => w'.cell? ⟨wr.heap.size, 0, none⟩ = some (.int .i64 l[k].x) ∧ w'.cell? ⟨wr.heap.size, 1, none⟩ = some (.int .i64 l[k].y) ∧ w'.cell? ⟨wr.heap.size, 2, none⟩ = some (.int .i64 l[k].hour) ∧ w'.cell? ⟨wr.heap.size, 3, none⟩ = some (.int .i64 l[k].many) ∧ w'.cell? ⟨b, off + (k - 1) * 4, none⟩ = some (.int .i64 pv.x) ∧ w'.cell? ⟨b, off + (k - 1) * 4 + 1, none⟩ = some (.int .i64 pv.y) ∧ w'.cell? ⟨b, off + (k - 1) * 4 + 2, none⟩ = some (.int .i64 pv.hour) ∧ w'.cell? ⟨b, off + (k - 1) * 4 + 3, none⟩ = some (.int .i64 pv.many))
                  (first | go_keep | (go_split_ands; exact ⟨hL.cell ‹_›, hL.cell ‹_›, hL.cell ‹_›, hL.cell ‹_›, hL.cell ‹_›, hL.cell ‹_›, hL.cell ‹_›, hL.cell ‹_›⟩))
                  (first | (go_at_call 88; refine (w_byTally l[k] pv _).mono ?_; rintro e w1 ⟨rfl, hL⟩))
                go_wp2
                go_ret
                exact ⟨ret_int (by unfold talliesF; rw [HQ.out, HD.out, HV.out, if_pos ho]; rfl), (by repeat (first | exact hbw | refine Nx.trans ?_ hL.nx | refine Nx.drew ?_ | refine Nx.drewN ?_ _ | refine Nx.alloc ?_ _))⟩
              · have t1 : decide (tallyC l[k] pv ≤ 0) = false := by simpa using ho
                go_wp2_with (first | (go_at_call 87; refine (w_isPoint _ _ _).mono ?_; rintro e w' ⟨rfl, rfl⟩) | (go_at_call 49; first | (rw [show (1000000000 : Int) = maxCents from rfl]; refine (w_Out _ _ _ _).mono ?_; rintro e w' ⟨rfl, rfl⟩) | (refine (w_Out _ _ _ _).mono ?_; rintro e w' ⟨rfl, rfl⟩)))
                go_region_held3 (fun w' => w'.cell? ⟨wr.heap.size, 0, none⟩ = some (.int .i64 l[k].x) ∧ w'.cell? ⟨wr.heap.size, 1, none⟩ = some (.int .i64 l[k].y) ∧ w'.cell? ⟨wr.heap.size, 2, none⟩ = some (.int .i64 l[k].hour) ∧ w'.cell? ⟨wr.heap.size, 3, none⟩ = some (.int .i64 l[k].many) ∧ w'.cell? ⟨b, off + (k - 1) * 4, none⟩ = some (.int .i64 pv.x) ∧ w'.cell? ⟨b, off + (k - 1) * 4 + 1, none⟩ = some (.int .i64 pv.y) ∧ w'.cell? ⟨b, off + (k - 1) * 4 + 2, none⟩ = some (.int .i64 pv.hour) ∧ w'.cell? ⟨b, off + (k - 1) * 4 + 3, none⟩ = some (.int .i64 pv.many))
                  (first | go_keep | (go_split_ands; exact ⟨hL.cell ‹_›, hL.cell ‹_›, hL.cell ‹_›, hL.cell ‹_›, hL.cell ‹_›, hL.cell ‹_›, hL.cell ‹_›, hL.cell ‹_›⟩))
                  (first | (go_at_call 88; refine (w_byTally l[k] pv _).mono ?_; rintro e w1 ⟨rfl, hL⟩))
                go_wp2
                go_roundw
                case rel => exact ⟨k + 1, by omega, by go_num, (by repeat (first | exact hbw | refine Nx.trans ?_ hL.nx | refine Nx.drew ?_ | refine Nx.drewN ?_ _ | refine Nx.alloc ?_ _)), by rw [HQ.out, HD.out, HV.out, if_neg (show ¬ tallyC l[k] pv ≤ 0 by omega), if_pos rfl]⟩
                case measure => simp [intOf]; omega
            · have HV := hide (show tallyF (prevOf l k) l[k] = 0 by have e : k = 0 := (by omega); subst e; rw [prevOf_zero]; unfold tallyF; rw [hv]; rfl)
              go_wp2_with (first | (go_at_call 87; refine (w_isPoint _ _ _).mono ?_; rintro e w' ⟨rfl, rfl⟩) | (go_at_call 49; first | (rw [show (1000000000 : Int) = maxCents from rfl]; refine (w_Out _ _ _ _).mono ?_; rintro e w' ⟨rfl, rfl⟩) | (refine (w_Out _ _ _ _).mono ?_; rintro e w' ⟨rfl, rfl⟩)))
              have hd : decide (0 < k) = false := by simpa using hk0
              go_quiet (fail)
              go_wp2
              go_roundw
              case rel => exact ⟨k + 1, by omega, by go_num, (hbw.alloc _).drewN _, by rw [HQ.out, HD.out, HV.out, if_pos rfl]⟩
              case measure => simp [intOf]; omega
          · have HV := hide (show tallyF (prevOf l k) l[k] = 1 by unfold tallyF tallyV; rw [hp, hh, hm]; rfl)
            go_wp2_with (first | (go_at_call 87; refine (w_isPoint _ _ _).mono ?_; rintro e w' ⟨rfl, rfl⟩) | (go_at_call 49; first | (rw [show (1000000000 : Int) = maxCents from rfl]; refine (w_Out _ _ _ _).mono ?_; rintro e w' ⟨rfl, rfl⟩) | (refine (w_Out _ _ _ _).mono ?_; rintro e w' ⟨rfl, rfl⟩)))
            go_ret
            exact ⟨ret_int (by unfold talliesF; rw [HQ.out, HD.out, HV.out]; rfl), (by repeat (first | exact hbw | refine Nx.trans ?_ hL.nx | refine Nx.drew ?_ | refine Nx.drewN ?_ _ | refine Nx.alloc ?_ _))⟩
        · have HV := hide (show tallyF (prevOf l k) l[k] = 1 by unfold tallyF tallyV; rw [hp, hh]; rfl)
          go_wp2_with (first | (go_at_call 87; refine (w_isPoint _ _ _).mono ?_; rintro e w' ⟨rfl, rfl⟩) | (go_at_call 49; first | (rw [show (1000000000 : Int) = maxCents from rfl]; refine (w_Out _ _ _ _).mono ?_; rintro e w' ⟨rfl, rfl⟩) | (refine (w_Out _ _ _ _).mono ?_; rintro e w' ⟨rfl, rfl⟩)))
          go_ret
          exact ⟨ret_int (by unfold talliesF; rw [HQ.out, HD.out, HV.out]; rfl), (by repeat (first | exact hbw | refine Nx.trans ?_ hL.nx | refine Nx.drew ?_ | refine Nx.drewN ?_ _ | refine Nx.alloc ?_ _))⟩
    · have HLN : l.length = n := HN.out
      subst HLN
      go_wp2_with (go_at_call 89; refine (w_manyCells _ _ _ _ _ (HR.out.nx hbw) (by have := HN.out; omega)).mono ?_; rintro e w3 ⟨rfl, hn3⟩)
      go_ret
      exact ⟨ret_int (by unfold talliesF; rw [HQ.out, List.drop_of_length_le (by omega)]; rfl), hbw.trans hn3⟩

set_option maxRecDepth 100000 in
set_option maxHeartbeats 2000000 in
theorem w_TalliesFault (lo : Nat) (A : Option Addr) (c : Nat) (l : List Tally) (w : World) (hR : Rd w lo A 4 encTally l) (hl : l.length ≤ 400) :
    Calls Tryz.prog 8 #[.slice A l.length c] w fun e w' => e = .returned (.int .i64 (talliesF l)) ∧ Nx w w' := by
  generalize hn : l.length = n at *
  have HR := hide hR
  have HN := hide hn
  clear hR hn
  go_enter Tryz.func8, Tryz.ntmps8
  go_wp2
  go_loopw [2, 3, 4, 10] (fun _ _ _ i wr => ∃ k : Nat, k ≤ n ∧ i = .int .i64 k ∧ Nx w wr ∧ chk tallyF none l = chk tallyF (prevOf l k) (l.drop k)) (fun _ _ _ i _ => n - (intOf i).toNat)
  case atStart => exact ⟨0, Nat.zero_le _, rfl, Nx.refl _, rfl⟩
  case round =>
    obtain ⟨k, hk, rfl, hbw, hq⟩ := hrel
    have HQ := hide hq
    clear hq
    by_cases hlt : k < n
    · have hlt' : k < l.length := by have := HN.out; omega
      obtain ⟨b, off, rfl, _, hb, hbr, hc⟩ := HR.out.open_ hbw (by omega)
      have c0 : wr.cell? ⟨b, off + k * 4, none⟩ = some (.int .i64 l[k].x) := hc k hlt' 0 _ rfl
      have c1 : wr.cell? ⟨b, off + k * 4 + 1, none⟩ = some (.int .i64 l[k].y) := hc k hlt' 1 _ rfl
      have c2 : wr.cell? ⟨b, off + k * 4 + 2, none⟩ = some (.int .i64 l[k].hour) := hc k hlt' 2 _ rfl
      have c3 : wr.cell? ⟨b, off + k * 4 + 3, none⟩ = some (.int .i64 l[k].many) := hc k hlt' 3 _ rfl
      have HC := hide hc
      clear hc
      have HD := hide (chk_drop tallyF l k hlt')
      cases hp : isPtB l[k].x l[k].y
      · have HV := hide (show tallyF (prevOf l k) l[k] = 1 by unfold tallyF tallyV; rw [hp]; rfl)
        have f1 : ptF l[k].x l[k].y = 1 := by unfold ptF; rw [hp]; rfl
        go_wp2_with (first | (go_at_call 42; refine (w_PointFault _ _ _).mono ?_; rintro e w' ⟨rfl, rfl⟩) | (go_at_call 11; refine (w_HourFault _ _).mono ?_; rintro e w' ⟨rfl, rfl⟩) | (go_at_call 43; rw [show (1000000000 : Int) = maxCents from rfl]; refine (w_in _ _ _ _).mono ?_; rintro e w' ⟨rfl, rfl⟩))
        go_ret
        exact ⟨ret_int (by unfold talliesF; rw [HQ.out, HD.out, HV.out]; rfl), (by repeat (first | exact hbw | refine Nx.trans ?_ hL.nx | refine Nx.drew ?_ | refine Nx.drewN ?_ _ | refine Nx.alloc ?_ _))⟩
      · cases hh : outB l[k].hour 0 167
        · cases hm : outB l[k].many 1 maxCents
          · have hv : tallyV l[k] = true := by unfold tallyV; rw [hp, hh, hm]; rfl
            by_cases hk0 : 0 < k
            · have HV := hide (show tallyF (prevOf l k) l[k] = if tallyC l[k] (l[k - 1]'(by omega)) ≤ 0 then 7 else 0 by rw [prevOf_pos l k hk0 (by omega)]; unfold tallyF; rw [hv]; rfl)
              have c4 : wr.cell? ⟨b, off + (k - 1) * 4, none⟩ = some (.int .i64 (l[k - 1]'(by omega)).x) := HC.out (k - 1) (by omega) 0 _ rfl
              have c5 : wr.cell? ⟨b, off + (k - 1) * 4 + 1, none⟩ = some (.int .i64 (l[k - 1]'(by omega)).y) := HC.out (k - 1) (by omega) 1 _ rfl
              have c6 : wr.cell? ⟨b, off + (k - 1) * 4 + 2, none⟩ = some (.int .i64 (l[k - 1]'(by omega)).hour) := HC.out (k - 1) (by omega) 2 _ rfl
              have c7 : wr.cell? ⟨b, off + (k - 1) * 4 + 3, none⟩ = some (.int .i64 (l[k - 1]'(by omega)).many) := HC.out (k - 1) (by omega) 3 _ rfl
              generalize l[k - 1]'(by omega) = pv at *
              have q1 : IntKind.i64.wrap ((k : Int) - 1) = (k : Int) - 1 := IntWalk.i64_in _ (by omega)
              have q2 : (1 : Int) ≤ (k : Int) := by omega
              have q3 : ((k : Int) - 1).toNat = k - 1 := by omega
              have q4 : (k : Int) - 1 < (n : Int) := by omega
              have f1 : ptF l[k].x l[k].y = 0 := by unfold ptF; rw [hp]; rfl
              have f2 : hourF l[k].hour = 0 := by unfold hourF; rw [hh]; rfl
              have f3 : inB l[k].many 1 maxCents = true := by rw [inB_out, hm]; rfl
              by_cases ho : tallyC l[k] pv ≤ 0
              · have t1 : decide (0 ≤ orI [cellC ⟨pv.x, pv.y⟩ ⟨l[k].x, l[k].y⟩, cmpI pv.hour l[k].hour]) = true := by have h := tallyC_sym.1 ho; unfold tallyC at h; simpa using h
                go_wp2_with (first | (go_at_call 42; refine (w_PointFault _ _ _).mono ?_; rintro e w' ⟨rfl, rfl⟩) | (go_at_call 11; refine (w_HourFault _ _).mono ?_; rintro e w' ⟨rfl, rfl⟩) | (go_at_call 43; rw [show (1000000000 : Int) = maxCents from rfl]; refine (w_in _ _ _ _).mono ?_; rintro e w' ⟨rfl, rfl⟩))
                go_region_held3 (fun w' => w'.cell? ⟨wr.heap.size, 0, none⟩ = some (.int .i64 l[k].x) ∧ w'.cell? ⟨wr.heap.size, 1, none⟩ = some (.int .i64 l[k].y) ∧ w'.cell? ⟨wr.heap.size, 2, none⟩ = some (.int .i64 l[k].hour) ∧ w'.cell? ⟨wr.heap.size, 3, none⟩ = some (.int .i64 l[k].many) ∧ w'.cell? ⟨b, off + (k - 1) * 4, none⟩ = some (.int .i64 pv.x) ∧ w'.cell? ⟨b, off + (k - 1) * 4 + 1, none⟩ = some (.int .i64 pv.y) ∧ w'.cell? ⟨b, off + (k - 1) * 4 + 2, none⟩ = some (.int .i64 pv.hour) ∧ w'.cell? ⟨b, off + (k - 1) * 4 + 3, none⟩ = some (.int .i64 pv.many))
                  (first | go_keep | (go_split_ands; exact ⟨hL.cell ‹_›, hL.cell ‹_›, hL.cell ‹_›, hL.cell ‹_›, hL.cell ‹_›, hL.cell ‹_›, hL.cell ‹_›, hL.cell ‹_›⟩))
                  (first | (go_at_call 45; refine (w_CellOrder ⟨pv.x, pv.y⟩ ⟨l[k].x, l[k].y⟩ _).mono ?_; rintro e w1 ⟨rfl, hL⟩) | (go_at_call 46; refine (w_Compare _ _ _).mono ?_; rintro e w' ⟨rfl, rfl⟩) | (go_at_call 44; first | (refine (w_OrI2 (cellC ⟨pv.x, pv.y⟩ ⟨l[k].x, l[k].y⟩) (cmpI pv.hour l[k].hour) _ _ _ (hnew (by simp))).mono ?_; rintro e w' ⟨rfl, rfl⟩) | (refine (w_OrI2 (cellC ⟨pv.x, pv.y⟩ ⟨l[k].x, l[k].y⟩) (cmpI pv.hour l[k].hour) _ _ _ (hnew_drew (by simp))).mono ?_; rintro e w' ⟨rfl, rfl⟩)))
                go_wp2
                go_ret
                exact ⟨ret_int (by unfold talliesF; rw [HQ.out, HD.out, HV.out, if_pos ho]; rfl), (by repeat (first | exact hbw | refine Nx.trans ?_ hL.nx | refine Nx.drew ?_ | refine Nx.drewN ?_ _ | refine Nx.alloc ?_ _))⟩
              · have t1 : decide (0 ≤ orI [cellC ⟨pv.x, pv.y⟩ ⟨l[k].x, l[k].y⟩, cmpI pv.hour l[k].hour]) = false := by simp; have := @tallyC_sym l[k] pv; unfold tallyC at this ho; omega
                go_wp2_with (first | (go_at_call 42; refine (w_PointFault _ _ _).mono ?_; rintro e w' ⟨rfl, rfl⟩) | (go_at_call 11; refine (w_HourFault _ _).mono ?_; rintro e w' ⟨rfl, rfl⟩) | (go_at_call 43; rw [show (1000000000 : Int) = maxCents from rfl]; refine (w_in _ _ _ _).mono ?_; rintro e w' ⟨rfl, rfl⟩))
                go_region_held3 (fun w' => w'.cell? ⟨wr.heap.size, 0, none⟩ = some (.int .i64 l[k].x) ∧ w'.cell? ⟨wr.heap.size, 1, none⟩ = some (.int .i64 l[k].y) ∧ w'.cell? ⟨wr.heap.size, 2, none⟩ = some (.int .i64 l[k].hour) ∧ w'.cell? ⟨wr.heap.size, 3, none⟩ = some (.int .i64 l[k].many) ∧ w'.cell? ⟨b, off + (k - 1) * 4, none⟩ = some (.int .i64 pv.x) ∧ w'.cell? ⟨b, off + (k - 1) * 4 + 1, none⟩ = some (.int .i64 pv.y) ∧ w'.cell? ⟨b, off + (k - 1) * 4 + 2, none⟩ = some (.int .i64 pv.hour) ∧ w'.cell? ⟨b, off + (k - 1) * 4 + 3, none⟩ = some (.int .i64 pv.many))
                  (first | go_keep | (go_split_ands; exact ⟨hL.cell ‹_›, hL.cell ‹_›, hL.cell ‹_›, hL.cell ‹_›, hL.cell ‹_›, hL.cell ‹_›, hL.cell ‹_›, hL.cell ‹_›⟩))
                  (first | (go_at_call 45; refine (w_CellOrder ⟨pv.x, pv.y⟩ ⟨l[k].x, l[k].y⟩ _).mono ?_; rintro e w1 ⟨rfl, hL⟩) | (go_at_call 46; refine (w_Compare _ _ _).mono ?_; rintro e w' ⟨rfl, rfl⟩) | (go_at_call 44; first | (refine (w_OrI2 (cellC ⟨pv.x, pv.y⟩ ⟨l[k].x, l[k].y⟩) (cmpI pv.hour l[k].hour) _ _ _ (hnew (by simp))).mono ?_; rintro e w' ⟨rfl, rfl⟩) | (refine (w_OrI2 (cellC ⟨pv.x, pv.y⟩ ⟨l[k].x, l[k].y⟩) (cmpI pv.hour l[k].hour) _ _ _ (hnew_drew (by simp))).mono ?_; rintro e w' ⟨rfl, rfl⟩)))
                go_wp2
                go_roundw
                case rel => exact ⟨k + 1, by omega, by go_num, (by repeat (first | exact hbw | refine Nx.trans ?_ hL.nx | refine Nx.drew ?_ | refine Nx.drewN ?_ _ | refine Nx.alloc ?_ _)), by rw [HQ.out, HD.out, HV.out, if_neg (show ¬ tallyC l[k] pv ≤ 0 by omega), if_pos rfl]⟩
                case measure => simp [intOf]; omega
            · have HV := hide (show tallyF (prevOf l k) l[k] = 0 by have e : k = 0 := (by omega); subst e; rw [prevOf_zero]; unfold tallyF; rw [hv]; rfl)
              have f1 : ptF l[k].x l[k].y = 0 := by unfold ptF; rw [hp]; rfl
              have f2 : hourF l[k].hour = 0 := by unfold hourF; rw [hh]; rfl
              have f3 : inB l[k].many 1 maxCents = true := by rw [inB_out, hm]; rfl
              go_wp2_with (first | (go_at_call 42; refine (w_PointFault _ _ _).mono ?_; rintro e w' ⟨rfl, rfl⟩) | (go_at_call 11; refine (w_HourFault _ _).mono ?_; rintro e w' ⟨rfl, rfl⟩) | (go_at_call 43; rw [show (1000000000 : Int) = maxCents from rfl]; refine (w_in _ _ _ _).mono ?_; rintro e w' ⟨rfl, rfl⟩))
              have hd : decide (0 < k) = false := by simpa using hk0
              go_quiet (fail)
              go_wp2
              go_roundw
              case rel => exact ⟨k + 1, by omega, by go_num, (hbw.alloc _).drewN _, by rw [HQ.out, HD.out, HV.out, if_pos rfl]⟩
              case measure => simp [intOf]; omega
          · have HV := hide (show tallyF (prevOf l k) l[k] = 1 by unfold tallyF tallyV; rw [hp, hh, hm]; rfl)
            have f1 : ptF l[k].x l[k].y = 0 := by unfold ptF; rw [hp]; rfl
            have f2 : hourF l[k].hour = 0 := by unfold hourF; rw [hh]; rfl
            have f3 : inB l[k].many 1 maxCents = false := by rw [inB_out, hm]; rfl
            go_wp2_with (first | (go_at_call 42; refine (w_PointFault _ _ _).mono ?_; rintro e w' ⟨rfl, rfl⟩) | (go_at_call 11; refine (w_HourFault _ _).mono ?_; rintro e w' ⟨rfl, rfl⟩) | (go_at_call 43; rw [show (1000000000 : Int) = maxCents from rfl]; refine (w_in _ _ _ _).mono ?_; rintro e w' ⟨rfl, rfl⟩))
            go_ret
            exact ⟨ret_int (by unfold talliesF; rw [HQ.out, HD.out, HV.out]; rfl), (by repeat (first | exact hbw | refine Nx.trans ?_ hL.nx | refine Nx.drew ?_ | refine Nx.drewN ?_ _ | refine Nx.alloc ?_ _))⟩
        · have HV := hide (show tallyF (prevOf l k) l[k] = 1 by unfold tallyF tallyV; rw [hp, hh]; rfl)
          have f1 : ptF l[k].x l[k].y = 0 := by unfold ptF; rw [hp]; rfl
          have f2 : hourF l[k].hour = 1 := by unfold hourF; rw [hh]; rfl
          go_wp2_with (first | (go_at_call 42; refine (w_PointFault _ _ _).mono ?_; rintro e w' ⟨rfl, rfl⟩) | (go_at_call 11; refine (w_HourFault _ _).mono ?_; rintro e w' ⟨rfl, rfl⟩) | (go_at_call 43; rw [show (1000000000 : Int) = maxCents from rfl]; refine (w_in _ _ _ _).mono ?_; rintro e w' ⟨rfl, rfl⟩))
          go_ret
          exact ⟨ret_int (by unfold talliesF; rw [HQ.out, HD.out, HV.out]; rfl), (by repeat (first | exact hbw | refine Nx.trans ?_ hL.nx | refine Nx.drew ?_ | refine Nx.drewN ?_ _ | refine Nx.alloc ?_ _))⟩
    · have HLN : l.length = n := HN.out
      have HDOM : ∀ t ∈ l, dom64 (keyT t) := fun t ht => dom_tally ((talliesF_ok (show talliesF l = 0 by unfold talliesF; rw [HQ.out, List.drop_of_length_le (by have := HN.out; omega)]; rfl)).1 t ht)
      subst HLN
      go_wp2_with (go_at_call 47; refine (w_cellsOf _ _ _ _ _ (HR.out.nx hbw) (by have := HN.out; omega) HDOM).mono ?_; rintro e w3 ⟨m3, hm3, rfl, hn3⟩)
      go_ret
      exact ⟨ret_int (by unfold talliesF; rw [HQ.out, List.drop_of_length_le (by omega)]; rfl), hbw.trans hn3⟩
end Go.Proofs.YthlhomcgjgfdhaaGreatDoor
