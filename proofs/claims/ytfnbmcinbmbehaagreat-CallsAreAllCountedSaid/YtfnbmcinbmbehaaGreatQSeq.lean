/- Structs by value, small loops over lists. -/
import Derived.Test.YtfnbmcinbmbehaaGreatQG0
import Derived.StillTailTactics
namespace Go.Proofs.YtfnbmcinbmbehaaGreat
open Go.RowKit

def encCell (c : Cell) : List Value := [.int .i64 c.x, .int .i64 c.y]
def encCall (c : Call) : List Value := [.int .i64 c.at_, .int .i64 c.x, .int .i64 c.y]
def encTally (c : Tally) : List Value := [.int .i64 c.x, .int .i64 c.y, .int .i64 c.hour, .int .i64 c.many]

theorem w_CellOf_no (x y size : Int) (w : World) (h : (isPtB x y && !outB size 1 10000) = false) :
    Calls Tryz.prog 23 #[.int .i64 x, .int .i64 y, .int .i64 size] w fun e w' => e = .returned (.tuple #[.agg #[.int .i64 0, .int .i64 0], .int .i64 1]) ∧ Nx w w' := by
  cases h1 : isPtB x y
  · go_enter Tryz.func23, Tryz.ntmps23
    go_wp2_with (first | (go_at_call 55; refine (w_isPoint _ _ _).mono ?_; rintro e w' ⟨rfl, rfl⟩) | (go_at_call 31; refine (w_Out _ _ _ _).mono ?_; rintro e w' ⟨rfl, rfl⟩))
    exact bodyPost_ret (v := .tuple #[.agg #[.int .i64 0, .int .i64 0], .int .i64 1]) (by simp [results, Tryz.results23, go_sem]) rfl ⟨rfl, (Nx.refl _).alloc _⟩
  · rw [h1] at h
    cases h2 : outB size 1 10000
    · rw [h2] at h; cases h
    · go_enter Tryz.func23, Tryz.ntmps23
      go_wp2_with (first | (go_at_call 55; refine (w_isPoint _ _ _).mono ?_; rintro e w' ⟨rfl, rfl⟩) | (go_at_call 31; refine (w_Out _ _ _ _).mono ?_; rintro e w' ⟨rfl, rfl⟩))
      exact bodyPost_ret (v := .tuple #[.agg #[.int .i64 0, .int .i64 0], .int .i64 1]) (by simp [results, Tryz.results23, go_sem]) rfl ⟨rfl, (Nx.refl _).alloc _⟩
theorem w_CellOf_yes (x y size : Int) (w : World) (h1 : isPtB x y = true) (h2 : outB size 1 10000 = false) :
    Calls Tryz.prog 23 #[.int .i64 x, .int .i64 y, .int .i64 size] w fun e w' => e = .returned (.tuple #[.agg #[.int .i64 (x / size), .int .i64 (y / size)], .int .i64 0]) ∧ Nx w w' := by
  have g1 := isPtB_true.1 h1
  have g2 := outB_false.1 h2
  go_enter Tryz.func23, Tryz.ntmps23
  go_wp2_with (first | (go_at_call 55; refine (w_isPoint _ _ _).mono ?_; rintro e w' ⟨rfl, rfl⟩) | (go_at_call 31; refine (w_Out _ _ _ _).mono ?_; rintro e w' ⟨rfl, rfl⟩) | (go_at_call 16; refine (w_Down _ _ _ (by omega) (by omega)).mono ?_; rintro e w' ⟨rfl, rfl⟩))
  exact bodyPost_ret (v := .tuple #[.agg #[.int .i64 (x / size), .int .i64 (y / size)], .int .i64 0]) (by simp [results, Tryz.results23, go_sem]) rfl ⟨rfl, (Nx.refl _).alloc _⟩

set_option maxHeartbeats 400000 in
theorem w_OrI (lo : Nat) (A : Option Addr) (c : Nat) (zs : List Int) (w : World) (hR : Rd w lo A 1 encI zs) (hl : zs.length ≤ 65536) :
    Calls Tryz.prog 88 #[.slice A zs.length c] w fun e w' => e = .returned (.int .i64 (orI zs)) ∧ w = w' := by
  generalize hn : zs.length = n at *
  have HR := hide hR
  have HN := hide hn
  clear hR hn
  go_enter Tryz.func88, Tryz.ntmps88
  go_wp2
  go_loop [2, 5, 8] (fun _ _ i => ∃ k : Nat, k ≤ n ∧ i = .int .i64 k ∧ orI zs = orI (zs.drop k)) (fun _ _ i => n - (intOf i).toNat)
  case atStart => exact ⟨0, Nat.zero_le _, rfl, rfl⟩
  case round =>
    obtain ⟨k, hk, rfl, hq⟩ := hrel
    have HQ := hide hq
    clear hq
    by_cases hlt : k < n
    · have hlt' : k < zs.length := by have := HN.out; omega
      obtain ⟨b, off, rfl, _, hb, _, hc⟩ := HR.out.open_ (Nx.refl w) (by omega)
      have c0 : w.cell? ⟨b, off + k, none⟩ = some (.int .i64 zs[k]) := by have := hc k hlt' 0 _ rfl; simpa using this
      clear hc
      have HD := hide (orI_drop zs k hlt')
      by_cases hz : zs[k] = 0
      · have hz' : (zs[k] != 0) = false := by simpa using hz
        generalize zs[k] = z at *
        go_wp2
        go_round
        case rel => exact ⟨k + 1, by omega, by go_num, by rw [HQ.out, HD.out, if_pos hz]⟩
        case measure => simp [intOf]; omega
      · have hz' : (zs[k] != 0) = true := by simpa using hz
        generalize zs[k] = z at *
        go_wp2
        go_ret
        exact ⟨ret_int (by rw [HQ.out, HD.out, if_neg hz]), rfl⟩
    · go_wp2
      go_ret
      exact ⟨ret_int (by rw [HQ.out, List.drop_of_length_le (by have := HN.out; omega)]; rfl), rfl⟩


set_option maxHeartbeats 1000000 in
theorem w_CheckCalls (lo : Nat) (A : Option Addr) (c : Nat) (l : List Call) (w : World) (hR : Rd w lo A 3 encCall l) (hl : l.length ≤ 65536) :
    Calls Tryz.prog 30 #[.slice A l.length c] w fun e w' => e = .returned (.int .i64 (callsF l)) ∧ Nx w w' := by
  generalize hn : l.length = n at *
  have HR := hide hR
  have HN := hide hn
  clear hR hn
  by_cases hbig : 3000 < n
  · go_enter Tryz.func30, Tryz.ntmps30
    go_wp2
    go_ret
    exact ⟨ret_int (by unfold callsF; rw [if_pos (by rw [HN.out]; exact hbig)]), Nx.refl _⟩
  · have HF := hide (show callsF l = chk callF none l by unfold callsF; rw [if_neg (by rw [HN.out]; exact hbig)])
    go_enter Tryz.func30, Tryz.ntmps30
    go_wp2
    go_loopw [2, 3, 4, 10] (fun _ _ _ i wr => ∃ k : Nat, k ≤ n ∧ i = .int .i64 k ∧ Nx w wr ∧ chk callF none l = chk callF (prevOf l k) (l.drop k)) (fun _ _ _ i _ => n - (intOf i).toNat)
    case atStart => exact ⟨0, Nat.zero_le _, rfl, Nx.refl _, rfl⟩
    case round =>
      obtain ⟨k, hk, rfl, hbw, hq⟩ := hrel
      have HQ := hide hq
      clear hq
      by_cases hlt : k < n
      · have hlt' : k < l.length := by have := HN.out; omega
        obtain ⟨b, off, rfl, _, hb, hbr, hc⟩ := HR.out.open_ hbw (by omega)
        have c0 : wr.cell? ⟨b, off + k * 3, none⟩ = some (.int .i64 l[k].at_) := hc k hlt' 0 _ rfl
        have c1 : wr.cell? ⟨b, off + k * 3 + 1, none⟩ = some (.int .i64 l[k].x) := hc k hlt' 1 _ rfl
        have c2 : wr.cell? ⟨b, off + k * 3 + 2, none⟩ = some (.int .i64 l[k].y) := hc k hlt' 2 _ rfl
        have HC := hide hc
        clear hc
        have HD := hide (chk_drop callF l k hlt')
        cases hm : momB l[k].at_
        · have HV := hide (show callF (prevOf l k) l[k] = 1 by unfold callF; rw [hm]; rfl)
          go_wp2_with (first | (go_at_call 47; refine (w_Moment _ _).mono ?_; rintro e w' ⟨rfl, rfl⟩) | (go_at_call 55; refine (w_isPoint _ _ _).mono ?_; rintro e w' ⟨rfl, rfl⟩))
          go_ret
          exact ⟨ret_int (by rw [HF.out, HQ.out, HD.out, HV.out]; rfl), hbw.alloc _⟩
        · cases hp : isPtB l[k].x l[k].y
          · have HV := hide (show callF (prevOf l k) l[k] = 1 by unfold callF; rw [hm, hp]; rfl)
            go_wp2_with (first | (go_at_call 47; refine (w_Moment _ _).mono ?_; rintro e w' ⟨rfl, rfl⟩) | (go_at_call 55; refine (w_isPoint _ _ _).mono ?_; rintro e w' ⟨rfl, rfl⟩))
            go_ret
            exact ⟨ret_int (by rw [HF.out, HQ.out, HD.out, HV.out]; rfl), hbw.alloc _⟩
          · by_cases hk0 : 0 < k
            · have c4 : wr.cell? ⟨b, off + (k - 1) * 3, none⟩ = some (.int .i64 (l[k - 1]'(by omega)).at_) := HC.out (k - 1) (by omega) 0 _ rfl
              have HV := hide (show callF (prevOf l k) l[k] = if l[k].at_ < (l[k - 1]'(by omega)).at_ then 7 else 0 by rw [prevOf_pos l k hk0 (by omega)]; unfold callF; rw [hm, hp]; rfl)
              generalize (l[k - 1]'(by omega)).at_ = p0 at *
              have q1 : IntKind.i64.wrap ((k : Int) - 1) = (k : Int) - 1 := IntWalk.i64_in _ (by omega)
              have q2 : (1 : Int) ≤ (k : Int) := by omega
              have q3 : ((k : Int) - 1).toNat = k - 1 := by omega
              have q4 : (k : Int) - 1 < (n : Int) := by omega
              go_wp2_with (first | (go_at_call 47; refine (w_Moment _ _).mono ?_; rintro e w' ⟨rfl, rfl⟩) | (go_at_call 55; refine (w_isPoint _ _ _).mono ?_; rintro e w' ⟨rfl, rfl⟩))
              go_quiet (fail)
              by_cases ho : l[k].at_ < p0
              · go_wp2
                go_ret
                exact ⟨ret_int (by rw [HF.out, HQ.out, HD.out, HV.out, if_pos ho]; rfl), (hbw.alloc _).drewN _⟩
              · go_wp2
                go_roundw
                case rel => exact ⟨k + 1, by omega, by go_num, (hbw.alloc _).drewN _, by rw [HQ.out, HD.out, HV.out, if_neg ho, if_pos rfl]⟩
                case measure => simp [intOf]; omega
            · have HV := hide (show callF (prevOf l k) l[k] = 0 by have e : k = 0 := (by omega); subst e; rw [prevOf_zero]; unfold callF; rw [hm, hp]; rfl)
              go_wp2_with (first | (go_at_call 47; refine (w_Moment _ _).mono ?_; rintro e w' ⟨rfl, rfl⟩) | (go_at_call 55; refine (w_isPoint _ _ _).mono ?_; rintro e w' ⟨rfl, rfl⟩))
              have hd : decide (0 < k) = false := by simpa using hk0
              go_quiet (fail)
              go_wp2
              go_roundw
              case rel => exact ⟨k + 1, by omega, by go_num, (hbw.alloc _).drewN _, by rw [HQ.out, HD.out, HV.out, if_pos rfl]⟩
              case measure => simp [intOf]; omega
      · go_wp2
        go_ret
        exact ⟨ret_int (by rw [HF.out, HQ.out, List.drop_of_length_le (by have := HN.out; omega)]; rfl), hbw⟩

set_option maxHeartbeats 1000000 in
theorem w_CallsFault (lo : Nat) (A : Option Addr) (c : Nat) (l : List Call) (w : World) (hR : Rd w lo A 3 encCall l) (hl : l.length ≤ 65536) :
    Calls Tryz.prog 10 #[.slice A l.length c] w fun e w' => e = .returned (.int .i64 (callsF l)) ∧ Nx w w' := by
  generalize hn : l.length = n at *
  have HR := hide hR
  have HN := hide hn
  clear hR hn
  by_cases hbig : 3000 < n
  · go_enter Tryz.func10, Tryz.ntmps10
    go_wp2
    go_ret
    exact ⟨ret_int (by unfold callsF; rw [if_pos (by rw [HN.out]; exact hbig)]), Nx.refl _⟩
  · have HF := hide (show callsF l = chk callF none l by unfold callsF; rw [if_neg (by rw [HN.out]; exact hbig)])
    go_enter Tryz.func10, Tryz.ntmps10
    go_wp2
    go_loopw [2, 3, 4, 10] (fun _ _ _ i wr => ∃ k : Nat, k ≤ n ∧ i = .int .i64 k ∧ Nx w wr ∧ chk callF none l = chk callF (prevOf l k) (l.drop k)) (fun _ _ _ i _ => n - (intOf i).toNat)
    case atStart => exact ⟨0, Nat.zero_le _, rfl, Nx.refl _, rfl⟩
    case round =>
      obtain ⟨k, hk, rfl, hbw, hq⟩ := hrel
      have HQ := hide hq
      clear hq
      by_cases hlt : k < n
      · have hlt' : k < l.length := by have := HN.out; omega
        obtain ⟨b, off, rfl, _, hb, hbr, hc⟩ := HR.out.open_ hbw (by omega)
        have c0 : wr.cell? ⟨b, off + k * 3, none⟩ = some (.int .i64 l[k].at_) := hc k hlt' 0 _ rfl
        have c1 : wr.cell? ⟨b, off + k * 3 + 1, none⟩ = some (.int .i64 l[k].x) := hc k hlt' 1 _ rfl
        have c2 : wr.cell? ⟨b, off + k * 3 + 2, none⟩ = some (.int .i64 l[k].y) := hc k hlt' 2 _ rfl
        have HC := hide hc
        clear hc
        have HD := hide (chk_drop callF l k hlt')
        cases hm : momB l[k].at_
        · have HV := hide (show callF (prevOf l k) l[k] = 1 by unfold callF; rw [hm]; rfl)
          have hm' : momF l[k].at_ = 1 := by unfold momF; rw [hm]; rfl
          go_wp2_with (first | (go_at_call 27; refine (w_MomentFault _ _).mono ?_; rintro e w' ⟨rfl, rfl⟩) | (go_at_call 28; refine (w_PointFault _ _ _).mono ?_; rintro e w' ⟨rfl, rfl⟩))
          go_ret
          exact ⟨ret_int (by rw [HF.out, HQ.out, HD.out, HV.out]; rfl), hbw.alloc _⟩
        · cases hp : isPtB l[k].x l[k].y
          · have HV := hide (show callF (prevOf l k) l[k] = 1 by unfold callF; rw [hm, hp]; rfl)
            have hm' : momF l[k].at_ = 0 := by unfold momF; rw [hm]; rfl
            have hp' : ptF l[k].x l[k].y = 1 := by unfold ptF; rw [hp]; rfl
            go_wp2_with (first | (go_at_call 27; refine (w_MomentFault _ _).mono ?_; rintro e w' ⟨rfl, rfl⟩) | (go_at_call 28; refine (w_PointFault _ _ _).mono ?_; rintro e w' ⟨rfl, rfl⟩))
            go_ret
            exact ⟨ret_int (by rw [HF.out, HQ.out, HD.out, HV.out]; rfl), hbw.alloc _⟩
          · have hm' : momF l[k].at_ = 0 := by unfold momF; rw [hm]; rfl
            have hp' : ptF l[k].x l[k].y = 0 := by unfold ptF; rw [hp]; rfl
            by_cases hk0 : 0 < k
            · have c4 : wr.cell? ⟨b, off + (k - 1) * 3, none⟩ = some (.int .i64 (l[k - 1]'(by omega)).at_) := HC.out (k - 1) (by omega) 0 _ rfl
              have HV := hide (show callF (prevOf l k) l[k] = if l[k].at_ < (l[k - 1]'(by omega)).at_ then 7 else 0 by rw [prevOf_pos l k hk0 (by omega)]; unfold callF; rw [hm, hp]; rfl)
              generalize (l[k - 1]'(by omega)).at_ = p0 at *
              have q1 : IntKind.i64.wrap ((k : Int) - 1) = (k : Int) - 1 := IntWalk.i64_in _ (by omega)
              have q2 : (1 : Int) ≤ (k : Int) := by omega
              have q3 : ((k : Int) - 1).toNat = k - 1 := by omega
              have q4 : (k : Int) - 1 < (n : Int) := by omega
              go_wp2_with (first | (go_at_call 27; refine (w_MomentFault _ _).mono ?_; rintro e w' ⟨rfl, rfl⟩) | (go_at_call 28; refine (w_PointFault _ _ _).mono ?_; rintro e w' ⟨rfl, rfl⟩))
              go_quiet (fail)
              by_cases ho : l[k].at_ < p0
              · go_wp2
                go_ret
                exact ⟨ret_int (by rw [HF.out, HQ.out, HD.out, HV.out, if_pos ho]; rfl), (hbw.alloc _).drewN _⟩
              · go_wp2
                go_roundw
                case rel => exact ⟨k + 1, by omega, by go_num, (hbw.alloc _).drewN _, by rw [HQ.out, HD.out, HV.out, if_neg ho, if_pos rfl]⟩
                case measure => simp [intOf]; omega
            · have HV := hide (show callF (prevOf l k) l[k] = 0 by have e : k = 0 := (by omega); subst e; rw [prevOf_zero]; unfold callF; rw [hm, hp]; rfl)
              go_wp2_with (first | (go_at_call 27; refine (w_MomentFault _ _).mono ?_; rintro e w' ⟨rfl, rfl⟩) | (go_at_call 28; refine (w_PointFault _ _ _).mono ?_; rintro e w' ⟨rfl, rfl⟩))
              have hd : decide (0 < k) = false := by simpa using hk0
              go_quiet (fail)
              go_wp2
              go_roundw
              case rel => exact ⟨k + 1, by omega, by go_num, (hbw.alloc _).drewN _, by rw [HQ.out, HD.out, HV.out, if_pos rfl]⟩
              case measure => simp [intOf]; omega
      · go_wp2
        go_ret
        exact ⟨ret_int (by rw [HF.out, HQ.out, List.drop_of_length_le (by have := HN.out; omega)]; rfl), hbw⟩
end Go.Proofs.YtfnbmcinbmbehaaGreat
