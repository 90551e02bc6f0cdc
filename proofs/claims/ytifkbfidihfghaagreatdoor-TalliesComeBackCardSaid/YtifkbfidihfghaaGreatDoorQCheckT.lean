/- The checks of tallies, both ways. -/
import Derived.Test.YtifkbfidihfghaaGreatDoorQG7
namespace Go.Proofs.YtifkbfidihfghaaGreatDoor
open Go.RowKit Go.Sort Go.Shelf Go.Maps

set_option maxRecDepth 100000 in
set_option maxHeartbeats 2000000 in
theorem w_CheckTallies (lo : Nat) (A : Option Addr) (c : Nat) (l : List Tally) (w : World) (hR : Rd w lo A 4 encTally l) (hl : l.length ≤ 400) :
    Calls Tryz.prog 12 #[.slice A l.length c] w fun e w' => e = .returned (.int .i64 (talliesF l)) ∧ Nx w w' := by
  generalize hn : l.length = n at *
  have HR := hide hR
  have HN := hide hn
  clear hR hn
  go_enter Tryz.func12, Tryz.ntmps12
  go_wp2
  go_loopw [2, 3, 4, 10] (fun _ _ _ i wr => ∃ k : Nat, k ≤ n ∧ i = .int .i64 k ∧ Nx w wr ∧ chk tallyF none l = chk tallyF (prevOf l k) (l.drop k)) (fun _ _ _ i _ => n - (intOf i).toNat)
  case atStart => exact ⟨0, Nat.zero_le _, rfl, Nx.refl _, rfl⟩
  case round =>
    obtain ⟨k, hk, rfl, hbw, hq⟩ := hrel
    have HQ := hide hq
    clear hq
    by_cases hlt : k < n
    · have hlt' : k < l.length := by have := HN.out; omega
      obtain ⟨b, off, rfl, _, hb, hbr, hc⟩ := HR.out.open_ hbw (by omega)
      have c0 : wr.cell? ⟨b, off + k * 4, none⟩ = some (.int .i64 l[k].x) := hc k hlt' 0 _ rfl
      have c1 : wr.cell? ⟨b, off + k * 4 + 1, none⟩ = some (.int .i64 l[k].y) := hc k hlt' 1 _ rfl
      have c2 : wr.cell? ⟨b, off + k * 4 + 2, none⟩ = some (.int .i64 l[k].hour) := hc k hlt' 2 _ rfl
      have c3 : wr.cell? ⟨b, off + k * 4 + 3, none⟩ = some (.int .i64 l[k].many) := hc k hlt' 3 _ rfl
      have HC := hide hc
      clear hc
      have HD := hide (chk_drop tallyF l k hlt')
      cases hp : isPtB l[k].x l[k].y
      · have HV := hide (show tallyF (prevOf l k) l[k] = 1 by unfold tallyF tallyV; rw [hp]; rfl)
        go_wp2_with (first | (go_at_call 30; refine (w_isPoint _ _ _).mono ?_; rintro e w' ⟨rfl, rfl⟩) | (go_at_call 31; first | (rw [show (1000000000 : Int) = maxCents from rfl]; refine (w_Out _ _ _ _).mono ?_; rintro e w' ⟨rfl, rfl⟩) | (refine (w_Out _ _ _ _).mono ?_; rintro e w' ⟨rfl, rfl⟩)))
        go_ret
        exact ⟨ret_int (by unfold talliesF; rw [HQ.out, HD.out, HV.out]; rfl), (by repeat (first | exact hbw | refine Nx.trans ?_ hL.nx | refine Nx.drew ?_ | refine Nx.drewN ?_ _ | refine Nx.alloc ?_ _))⟩
      · cases hh : outB l[k].hour 0 167
        · cases hm : outB l[k].many 1 maxCents
          · have hv : tallyV l[k] = true := by unfold tallyV; rw [hp, hh, hm]; rfl
            by_cases hk0 : 0 < k
            · have HV := hide (show tallyF (prevOf l k) l[k] = if tallyC l[k] (l[k - 1]'(by omega)) ≤ 0 then 7 else 0 by rw [prevOf_pos l k hk0 (by omega)]; unfold tallyF; rw [hv]; rfl)
              have c4 : wr.cell? ⟨b, off + (k - 1) * 4, none⟩ = some (.int .i64 (l[k - 1]'(by omega)).x) := HC.out (k - 1) (by omega) 0 _ rfl
              have c5 : wr.cell? ⟨b, off + (k - 1) * 4 + 1, none⟩ = some (.int .i64 (l[k - 1]'(by omega)).y) := HC.out (k - 1) (by omega) 1 _ rfl
              have c6 : wr.cell? ⟨b, off + (k - 1) * 4 + 2, none⟩ = some (.int .i64 (l[k - 1]'(by omega)).hour) := HC.out (k - 1) (by omega) 2 _ rfl
              have c7 : wr.cell? ⟨b, off + (k - 1) * 4 + 3, none⟩ = some (.int .i64 (l[k - 1]'(by omega)).many) := HC.out (k - 1) (by omega) 3 _ rfl
              generalize l[k - 1]'(by omega) = pv at *
              have q1 : IntKind.i64.wrap ((k : Int) - 1) = (k : Int) - 1 := IntWalk.i64_in _ (by omega)
              have q2 : (1 : Int) ≤ (k : Int) := by omega
              have q3 : ((k : Int) - 1).toNat = k - 1 := by omega
              have q4 : (k : Int) - 1 < (n : Int) := by omega
              by_cases ho : tallyC l[k] pv ≤ 0
              · have t1 : decide (tallyC l[k] pv ≤ 0) = true := by simpa using ho
                go_wp2_with (first | (go_at_call 30; refine (w_isPoint _ _ _).mono ?_; rintro e w' ⟨rfl, rfl⟩) | (go_at_call 31; first | (rw [show (1000000000 : Int) = maxCents from rfl]; refine (w_Out _ _ _ _).mono ?_; rintro e w' ⟨rfl, rfl⟩) | (refine (w_Out _ _ _ _).mono ?_; rintro e w' ⟨rfl, rfl⟩)))
                go_region_held3 (fun w' => w'.cell? ⟨wr.heap.size, 0, none⟩ = some (.int .i64 l[k].x) ∧ w'.cell? ⟨wr.heap.size, 1, none⟩ = some (.int .i64 l[k].y) ∧ w'.cell? ⟨wr.heap.size, 2, none⟩ = some (.int .i64 l[k].hour) ∧ w'.cell? ⟨wr.heap.size, 3, none⟩ = some (.int .i64 l[k].many) ∧ w'.cell? ⟨b, off + (k - 1) * 4, none⟩ = some (.int .i64 pv.x) ∧ w'.cell? ⟨b, off + (k - 1) * 4 + 1, none⟩ = some (.int .i64 pv.y) ∧ w'.cell? ⟨b, off + (k - 1) * 4 + 2, none⟩ = some (.int .i64 pv.hour) ∧ w'.cell? ⟨b, off + (k - 1) * 4 + 3, none⟩ = some (.int .i64 pv.many))
                  (first | go_keep | (go_split_ands; exact ⟨hL.cell ‹_›, hL.cell ‹_›, hL.cell ‹_›, hL.cell ‹_›, hL.cell ‹_›, hL.cell ‹_›, hL.cell ‹_›, hL.cell ‹_›⟩))
                  (first | (go_at_call 32; refine (w_byTally l[k] pv _).mono ?_; rintro e w1 ⟨rfl, hL⟩))
                go_wp2
                go_ret
                exact ⟨ret_int (by unfold talliesF; rw [HQ.out, HD.out, HV.out, if_pos ho]; rfl), (by repeat (first | exact hbw | refine Nx.trans ?_ hL.nx | refine Nx.drew ?_ | refine Nx.drewN ?_ _ | refine Nx.alloc ?_ _))⟩
              · have t1 : decide (tallyC l[k] pv ≤ 0) = false := by simpa using ho
                go_wp2_with (first | (go_at_call 30; refine (w_isPoint _ _ _).mono ?_; rintro e w' ⟨rfl, rfl⟩) | (go_at_call 31; first | (rw [show (1000000000 : Int) = maxCents from rfl]; refine (w_Out _ _ _ _).mono ?_; rintro e w' ⟨rfl, rfl⟩) | (refine (w_Out _ _ _ _).mono ?_; rintro e w' ⟨rfl, rfl⟩)))
                go_region_held3 (fun w' => w'.cell? ⟨wr.heap.size, 0, none⟩ = some (.int .i64 l[k].x) ∧ w'.cell? ⟨wr.heap.size, 1, none⟩ = some (.int .i64 l[k].y) ∧ w'.cell? ⟨wr.heap.size, 2, none⟩ = some (.int .i64 l[k].hour) ∧ w'.cell? ⟨wr.heap.size, 3, none⟩ = some (.int .i64 l[k].many) ∧ w'.cell? ⟨b, off + (k - 1) * 4, none⟩ = some (.int .i64 pv.x) ∧ w'.cell? ⟨b, off + (k - 1) * 4 + 1, none⟩ = some (.int .i64 pv.y) ∧ w'.cell? ⟨b, off + (k - 1) * 4 + 2, none⟩ = some (.int .i64 pv.hour) ∧ w'.cell? ⟨b, off + (k - 1) * 4 + 3, none⟩ = some (.int .i64 pv.many))
                  (first | go_keep | (go_split_ands; exact ⟨hL.cell ‹_›, hL.cell ‹_›, hL.cell ‹_›, hL.cell ‹_›, hL.cell ‹_›, hL.cell ‹_›, hL.cell ‹_›, hL.cell ‹_›⟩))
                  (first | (go_at_call 32; refine (w_byTally l[k] pv _).mono ?_; rintro e w1 ⟨rfl, hL⟩))
                go_wp2
                go_roundw
                case rel => exact ⟨k + 1, by omega, by go_num, (by repeat (first | exact hbw | refine Nx.trans ?_ hL.nx | refine Nx.drew ?_ | refine Nx.drewN ?_ _ | refine Nx.alloc ?_ _)), by rw [HQ.out, HD.out, HV.out, if_neg (show ¬ tallyC l[k] pv ≤ 0 by omega), if_pos rfl]⟩
                case measure => simp [intOf]; omega
            · have HV := hide (show tallyF (prevOf l k) l[k] = 0 by have e : k = 0 := (by omega); subst e; rw [prevOf_zero]; unfold tallyF; rw [hv]; rfl)
              go_wp2_with (first | (go_at_call 30; refine (w_isPoint _ _ _).mono ?_; rintro e w' ⟨rfl, rfl⟩) | (go_at_call 31; first | (rw [show (1000000000 : Int) = maxCents from rfl]; refine (w_Out _ _ _ _).mono ?_; rintro e w' ⟨rfl, rfl⟩) | (refine (w_Out _ _ _ _).mono ?_; rintro e w' ⟨rfl, rfl⟩)))
              have hd : decide (0 < k) = false := by simpa using hk0
              go_quiet (fail)
              go_wp2
              go_roundw
              case rel => exact ⟨k + 1, by omega, by go_num, (hbw.alloc _).drewN _, by rw [HQ.out, HD.out, HV.out, if_pos rfl]⟩
              case measure => simp [intOf]; omega
          · have HV := hide (show tallyF (prevOf l k) l[k] = 1 by unfold tallyF tallyV; rw [hp, hh, hm]; rfl)
            go_wp2_with (first | (go_at_call 30; refine (w_isPoint _ _ _).mono ?_; rintro e w' ⟨rfl, rfl⟩) | (go_at_call 31; first | (rw [show (1000000000 : Int) = maxCents from rfl]; refine (w_Out _ _ _ _).mono ?_; rintro e w' ⟨rfl, rfl⟩) | (refine (w_Out _ _ _ _).mono ?_; rintro e w' ⟨rfl, rfl⟩)))
            go_ret
            exact ⟨ret_int (by unfold talliesF; rw [HQ.out, HD.out, HV.out]; rfl), (by repeat (first | exact hbw | refine Nx.trans ?_ hL.nx | refine Nx.drew ?_ | refine Nx.drewN ?_ _ | refine Nx.alloc ?_ _))⟩
        · have HV := hide (show tallyF (prevOf l k) l[k] = 1 by unfold tallyF tallyV; rw [hp, hh]; rfl)
          go_wp2_with (first | (go_at_call 30; refine (w_isPoint _ _ _).mono ?_; rintro e w' ⟨rfl, rfl⟩) | (go_at_call 31; first | (rw [show (1000000000 : Int) = maxCents from rfl]; refine (w_Out _ _ _ _).mono ?_; rintro e w' ⟨rfl, rfl⟩) | (refine (w_Out _ _ _ _).mono ?_; rintro e w' ⟨rfl, rfl⟩)))
          go_ret
          exact ⟨ret_int (by unfold talliesF; rw [HQ.out, HD.out, HV.out]; rfl), (by repeat (first | exact hbw | refine Nx.trans ?_ hL.nx | refine Nx.drew ?_ | refine Nx.drewN ?_ _ | refine Nx.alloc ?_ _))⟩
    · have HLN : l.length = n := HN.out
      subst HLN
      go_wp2_with (go_at_call 33; refine (w_manyCells _ _ _ _ _ (HR.out.nx hbw) (by have := HN.out; omega)).mono ?_; rintro e w3 ⟨rfl, hn3⟩)
      go_ret
      exact ⟨ret_int (by unfold talliesF; rw [HQ.out, List.drop_of_length_le (by omega)]; rfl), hbw.trans hn3⟩

end Go.Proofs.YtifkbfidihfghaaGreatDoor
