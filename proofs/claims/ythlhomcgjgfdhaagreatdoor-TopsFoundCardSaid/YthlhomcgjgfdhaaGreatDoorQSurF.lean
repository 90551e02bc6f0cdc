/- What rides cost where too many are wanted: demand.Surge, the reference's SurgeFault and SurgeOf. -/
import Derived.Test.YthlhomcgjgfdhaaGreatDoorQG3
import Derived.Test.YthlhomcgjgfdhaaGreatDoorQG6
import Derived.BigQuiet
namespace Go.Proofs.YthlhomcgjgfdhaaGreatDoor
open Go.RowKit

def stepS (p : Option Frac) (s : Frac) : Int :=
  if outB s.num 0 1000000 || outB s.den 100 1000 then 1 else (match p with | some q => if s.num ≤ q.num ∨ s.den < q.den then 7 else 0 | none => 0)
def surF (need hv : Int) (steps : List Frac) : Int :=
  if centB need || centB hv then 1 else if 20 < steps.length then 2 else chk stepS none steps
def hitS (need hv num : Int) : Bool := if 0 < hv then decide (num ≤ (need * 100).tdiv hv) else decide (0 < need)
def surP (need hv : Int) : List Frac → Int → Int
  | [], d => d
  | s :: l, d => surP need hv l (if hitS need hv s.num then s.den else d)
theorem surP_app (need hv : Int) (a : List Frac) (s : Frac) (d : Int) : surP need hv (a ++ [s]) d = if hitS need hv s.num then s.den else surP need hv a d := by
  induction a generalizing d with
  | nil => rfl
  | cons x a ih => simp only [List.cons_append, surP]; rw [ih]
theorem surP_take (need hv : Int) (l : List Frac) (k : Nat) (hk : k < l.length) : surP need hv (l.take (k + 1)) 100 = if hitS need hv l[k].num then l[k].den else surP need hv (l.take k) 100 := by
  rw [List.take_succ_eq_append_getElem hk, surP_app]
theorem stepS_bad1 {p : Option Frac} {s : Frac} (h : outB s.num 0 1000000 = true) : stepS p s = 1 := by unfold stepS; rw [h]; rfl
theorem stepS_bad2 {p : Option Frac} {s : Frac} (h : outB s.den 100 1000 = true) : stepS p s = 1 := by unfold stepS; rw [h]; simp
theorem stepS_none {s : Frac} (h1 : outB s.num 0 1000000 = false) (h2 : outB s.den 100 1000 = false) : stepS none s = 0 := by unfold stepS; rw [h1, h2]; rfl
theorem stepS_some {q s : Frac} (h1 : outB s.num 0 1000000 = false) (h2 : outB s.den 100 1000 = false) : stepS (some q) s = if s.num ≤ q.num ∨ s.den < q.den then 7 else 0 := by unfold stepS; rw [h1, h2]; rfl
theorem surF_zero {need hv : Int} {l : List Frac} (h1 : centB need = false) (h2 : centB hv = false) (h3 : ¬ 20 < l.length) : surF need hv l = chk stepS none l := by unfold surF; rw [h1, h2]; simp [h3]
set_option maxRecDepth 100000 in
set_option maxHeartbeats 4000000 in
theorem w_SurgeFault (lo : Nat) (A : Option Addr) (c : Nat) (due late : Int) (l : List Frac) (w : World) (hR : Rd w lo A 2 encFrac l) (hl : l.length ≤ 65536) :
    Calls Tryz.prog 17 #[.int .i64 due, .int .i64 late, .slice A l.length c] w fun e w' => e = .returned (.int .i64 (surF due late l)) ∧ Nx w w' := by
  have i1 := inB_out due 0 maxCt
  have i2 : inB late 0 maxCt = !(centB late) := inB_out late 0 maxCt
  cases hd : centB due
  · cases ht : centB late
    · generalize hn : l.length = n at *
      have HR := hide hR
      have HN := hide hn
      clear hR hn
      rw [ht] at i2
      by_cases h20 : 20 < n
      · have HF := hide (show surF due late l = 2 by unfold surF; rw [hd, ht]; simp [HN.out, h20])
        unfold centB at hd
        rw [hd] at i1
        go_enter Tryz.func17, Tryz.ntmps17
        go_wp2_with (go_at_call 43; first | (rw [show (1000000000 : Int) = maxCt from rfl]; refine (w_in _ _ _ _).mono ?_; rintro e w' ⟨rfl, rfl⟩) | (rw [show (345686400000 : Int) = endMs from rfl]; refine (w_in _ _ _ _).mono ?_; rintro e w' ⟨rfl, rfl⟩) | (refine (w_in _ _ _ _).mono ?_; rintro e w' ⟨rfl, rfl⟩))
        go_ret
        exact ⟨ret_int (by rw [HF.out]), Nx.refl _⟩
      · have HF := hide (show surF due late l = chk stepS none l from surF_zero hd ht (by rw [HN.out]; exact h20))
        unfold centB at hd
        rw [hd] at i1
        go_enter Tryz.func17, Tryz.ntmps17
        go_wp2_with (go_at_call 43; first | (rw [show (1000000000 : Int) = maxCt from rfl]; refine (w_in _ _ _ _).mono ?_; rintro e w' ⟨rfl, rfl⟩) | (rw [show (345686400000 : Int) = endMs from rfl]; refine (w_in _ _ _ _).mono ?_; rintro e w' ⟨rfl, rfl⟩) | (refine (w_in _ _ _ _).mono ?_; rintro e w' ⟨rfl, rfl⟩))
        go_loopw [6, 7, 8, 24, 29, 40] (fun _ _ _ i _ _ wr => ∃ k : Nat, k ≤ n ∧ i = .int .i64 k ∧ Nx w wr ∧ chk stepS none l = chk stepS (prevOf l k) (l.drop k)) (fun _ _ _ i _ _ _ => n - (intOf i).toNat)
        case atStart => exact ⟨0, Nat.zero_le _, rfl, Nx.refl _, rfl⟩
        case round =>
          obtain ⟨k, hk, rfl, hbw, hq⟩ := hrel
          have HQ := hide hq
          clear hq
          by_cases hlt : k < n
          · have hlt' : k < l.length := by have := HN.out; omega
            obtain ⟨b, off, rfl, _, hb, hbr, hc⟩ := HR.out.open_ hbw (by omega)
            have c0 : wr.cell? ⟨b, off + k * 2, none⟩ = some (.int .i64 l[k].num) := hc k hlt' 0 _ rfl
            have c1 : wr.cell? ⟨b, off + k * 2 + 1, none⟩ = some (.int .i64 l[k].den) := hc k hlt' 1 _ rfl
            have HC := hide hc
            clear hc
            have HD := hide (chk_drop stepS l k hlt')
            have i3 := inB_out l[k].num 0 1000000
            have i4 := inB_out l[k].den 100 1000
            cases h1 : outB l[k].num 0 1000000
            · cases h2 : outB l[k].den 100 1000
              · rw [h1] at i3
                rw [h2] at i4
                by_cases hk0 : 0 < k
                · have HV := hide (show stepS (prevOf l k) l[k] = if l[k].num ≤ (l[k - 1]'(by omega)).num ∨ l[k].den < (l[k - 1]'(by omega)).den then 7 else 0 by rw [prevOf_pos l k hk0 (by omega)]; exact stepS_some h1 h2)
                  have c4 : wr.cell? ⟨b, off + (k - 1) * 2, none⟩ = some (.int .i64 (l[k - 1]'(by omega)).num) := HC.out (k - 1) (by omega) 0 _ rfl
                  have c5 : wr.cell? ⟨b, off + (k - 1) * 2 + 1, none⟩ = some (.int .i64 (l[k - 1]'(by omega)).den) := HC.out (k - 1) (by omega) 1 _ rfl
                  generalize (l[k - 1]'(by omega)).num = p0 at *
                  generalize (l[k - 1]'(by omega)).den = p1 at *
                  have q1 : IntKind.i64.wrap ((k : Int) - 1) = (k : Int) - 1 := IntWalk.i64_in _ (by omega)
                  have q2 : (1 : Int) ≤ (k : Int) := by omega
                  have q3 : ((k : Int) - 1).toNat = k - 1 := by omega
                  have q4 : (k : Int) - 1 < (n : Int) := by omega
                  go_wp2_with (go_at_call 43; first | (rw [show (1000000000 : Int) = maxCt from rfl]; refine (w_in _ _ _ _).mono ?_; rintro e w' ⟨rfl, rfl⟩) | (rw [show (345686400000 : Int) = endMs from rfl]; refine (w_in _ _ _ _).mono ?_; rintro e w' ⟨rfl, rfl⟩) | (refine (w_in _ _ _ _).mono ?_; rintro e w' ⟨rfl, rfl⟩))
                  by_cases ho1 : l[k].num ≤ p0
                  · go_quiet (fail)
                    go_wp2
                    go_ret
                    exact ⟨ret_int (by rw [HF.out, HQ.out, HD.out, HV.out]; simp [ho1]), (hbw.alloc _).drewN _⟩
                  · by_cases ho2 : l[k].den < p1
                    · go_quiet (fail)
                      go_wp2
                      go_ret
                      exact ⟨ret_int (by rw [HF.out, HQ.out, HD.out, HV.out]; simp [ho2]), (hbw.alloc _).drewN _⟩
                    · go_quiet (fail)
                      go_wp2
                      go_roundw
                      case rel => exact ⟨k + 1, by omega, by go_num, (hbw.alloc _).drewN _, by rw [HQ.out, HD.out, HV.out]; simp [ho1, ho2]⟩
                      case measure => simp [intOf]; omega
                · have HV := hide (show stepS (prevOf l k) l[k] = 0 by have e : k = 0 := (by omega); subst e; rw [prevOf_zero]; exact stepS_none h1 h2)
                  have hd0 : decide (0 < k) = false := by simpa using hk0
                  go_wp2_with (go_at_call 43; first | (rw [show (1000000000 : Int) = maxCt from rfl]; refine (w_in _ _ _ _).mono ?_; rintro e w' ⟨rfl, rfl⟩) | (rw [show (345686400000 : Int) = endMs from rfl]; refine (w_in _ _ _ _).mono ?_; rintro e w' ⟨rfl, rfl⟩) | (refine (w_in _ _ _ _).mono ?_; rintro e w' ⟨rfl, rfl⟩))
                  go_quiet (fail)
                  go_wp2
                  go_roundw
                  case rel => exact ⟨k + 1, by omega, by go_num, (hbw.alloc _).drewN _, by rw [HQ.out, HD.out, HV.out, if_pos rfl]⟩
                  case measure => simp [intOf]; omega
              · have HV := hide (show stepS (prevOf l k) l[k] = 1 from stepS_bad2 h2)
                rw [h1] at i3
                rw [h2] at i4
                go_wp2_with (go_at_call 43; first | (rw [show (1000000000 : Int) = maxCt from rfl]; refine (w_in _ _ _ _).mono ?_; rintro e w' ⟨rfl, rfl⟩) | (rw [show (345686400000 : Int) = endMs from rfl]; refine (w_in _ _ _ _).mono ?_; rintro e w' ⟨rfl, rfl⟩) | (refine (w_in _ _ _ _).mono ?_; rintro e w' ⟨rfl, rfl⟩))
                go_ret
                exact ⟨ret_int (by rw [HF.out, HQ.out, HD.out, HV.out]; rfl), hbw.alloc _⟩
            · have HV := hide (show stepS (prevOf l k) l[k] = 1 from stepS_bad1 h1)
              rw [h1] at i3
              go_wp2_with (go_at_call 43; first | (rw [show (1000000000 : Int) = maxCt from rfl]; refine (w_in _ _ _ _).mono ?_; rintro e w' ⟨rfl, rfl⟩) | (rw [show (345686400000 : Int) = endMs from rfl]; refine (w_in _ _ _ _).mono ?_; rintro e w' ⟨rfl, rfl⟩) | (refine (w_in _ _ _ _).mono ?_; rintro e w' ⟨rfl, rfl⟩))
              go_ret
              exact ⟨ret_int (by rw [HF.out, HQ.out, HD.out, HV.out]; rfl), hbw.alloc _⟩
          · go_wp2
            go_ret
            exact ⟨ret_int (by rw [HF.out, HQ.out, List.drop_of_length_le (by have := HN.out; omega)]; rfl), hbw⟩
    · have HF := hide (show surF due late l = 1 by unfold surF; rw [hd, ht]; rfl)
      clear hR
      generalize l.length = n at *
      unfold centB at hd
      rw [hd] at i1
      rw [ht] at i2
      go_enter Tryz.func17, Tryz.ntmps17
      go_wp2_with (go_at_call 43; first | (rw [show (1000000000 : Int) = maxCt from rfl]; refine (w_in _ _ _ _).mono ?_; rintro e w' ⟨rfl, rfl⟩) | (rw [show (345686400000 : Int) = endMs from rfl]; refine (w_in _ _ _ _).mono ?_; rintro e w' ⟨rfl, rfl⟩) | (refine (w_in _ _ _ _).mono ?_; rintro e w' ⟨rfl, rfl⟩))
      go_ret
      exact ⟨ret_int (by rw [HF.out]), Nx.refl _⟩
  · have HF := hide (show surF due late l = 1 by unfold surF; rw [hd]; rfl)
    clear hR
    generalize l.length = n at *
    unfold centB at hd
    rw [hd] at i1
    go_enter Tryz.func17, Tryz.ntmps17
    go_wp2_with (go_at_call 43; first | (rw [show (1000000000 : Int) = maxCt from rfl]; refine (w_in _ _ _ _).mono ?_; rintro e w' ⟨rfl, rfl⟩) | (rw [show (345686400000 : Int) = endMs from rfl]; refine (w_in _ _ _ _).mono ?_; rintro e w' ⟨rfl, rfl⟩) | (refine (w_in _ _ _ _).mono ?_; rintro e w' ⟨rfl, rfl⟩))
    go_ret
    exact ⟨ret_int (by rw [HF.out]), Nx.refl _⟩

theorem cent_bdS {x : Int} (h : centB x = false) : 0 ≤ x ∧ x ≤ 1000000000 := by unfold centB at h; have h2 := outB_false.1 h; unfold maxCt at h2; omega
def surV (need hv : Int) (l : List Frac) : Int := if surF need hv l = 0 then surP need hv l 100 else 0
/-- Which test is met. -/
theorem hit_cases (need hv num : Int) (hv0 : 0 ≤ hv) (hn0 : 0 ≤ need) : (0 < hv ∧ num ≤ (need * 100) / hv ∧ hitS need hv num = true) ∨ (0 < hv ∧ ¬ num ≤ (need * 100) / hv ∧ hitS need hv num = false) ∨ (hv = 0 ∧ 0 < need ∧ hitS need hv num = true) ∨ (hv = 0 ∧ need = 0 ∧ hitS need hv num = false) := by
  have e : (need * 100).tdiv hv = (need * 100) / hv := Int.tdiv_eq_ediv_of_nonneg (by omega)
  unfold hitS
  rw [e]
  by_cases h : 0 < hv
  · by_cases h2 : num ≤ (need * 100) / hv
    · exact .inl ⟨h, h2, by simp [h, h2]⟩
    · exact .inr (.inl ⟨h, h2, by simp [h, h2]⟩)
  · by_cases h2 : 0 < need
    · exact .inr (.inr (.inl ⟨by omega, h2, by simp [h, h2]⟩))
    · exact .inr (.inr (.inr ⟨by omega, by omega, by simp [h, h2]⟩))
set_option maxRecDepth 100000 in
set_option maxHeartbeats 4000000 in
theorem w_Surge (lo : Nat) (A : Option Addr) (c : Nat) (due late : Int) (l : List Frac) (w : World) (hR : Rd w lo A 2 encFrac l) (hl : l.length ≤ 65536) :
    Calls Tryz.prog 16 #[.int .i64 due, .int .i64 late, .slice A l.length c] w fun e w' => e = .returned (.tuple #[.int .i64 (surV due late l), .int .i64 (surF due late l)]) ∧ Nx w w' := by
  cases hd : centB due
  · cases ht : centB late
    · generalize hn : l.length = n at *
      have HR := hide hR
      have HN := hide hn
      clear hR hn
      by_cases h20 : 20 < n
      · have HF := hide (show surF due late l = 2 by unfold surF; rw [hd, ht]; simp [HN.out, h20])
        have HV := hide (show surV due late l = 0 by unfold surV; rw [HF.out]; rfl)
        unfold centB at hd ht
        go_enter Tryz.func16, Tryz.ntmps16
        go_wp2_with (go_at_call 49; first | (rw [show (1000000000 : Int) = maxCt from rfl]; refine (w_Out _ _ _ _).mono ?_; rintro e w' ⟨rfl, rfl⟩) | (rw [show (345686400000 : Int) = endMs from rfl]; refine (w_Out _ _ _ _).mono ?_; rintro e w' ⟨rfl, rfl⟩))
        go_ret2
        exact ⟨by rw [HF.out, HV.out]; rfl, Nx.refl _⟩
      · have HF := hide (show surF due late l = chk stepS none l from surF_zero hd ht (by rw [HN.out]; exact h20))
        have hdb := cent_bdS hd
        have htb := cent_bdS ht
        have hw1 : IntKind.i64.wrap (due * 100) = due * 100 := IntWalk.i64_in _ (by omega)
        unfold centB at hd ht
        go_enter Tryz.func16, Tryz.ntmps16
        go_wp2_with (go_at_call 49; first | (rw [show (1000000000 : Int) = maxCt from rfl]; refine (w_Out _ _ _ _).mono ?_; rintro e w' ⟨rfl, rfl⟩) | (rw [show (345686400000 : Int) = endMs from rfl]; refine (w_Out _ _ _ _).mono ?_; rintro e w' ⟨rfl, rfl⟩))
        go_loopw [6, 7, 8, 9, 10, 22] (fun _ _ p _ _ i wr => ∃ k : Nat, k ≤ n ∧ i = .int .i64 k ∧ p = .int .i64 (surP due late (l.take k) 100) ∧ Nx w wr ∧ chk stepS none l = chk stepS (prevOf l k) (l.drop k)) (fun _ _ _ _ _ i _ => n - (intOf i).toNat)
        case atStart => exact ⟨0, Nat.zero_le _, rfl, rfl, Nx.refl _, rfl⟩
        case round =>
          obtain ⟨k, hk, rfl, rfl, hbw, hq⟩ := hrel
          have HQ := hide hq
          clear hq
          by_cases hlt : k < n
          · have hlt' : k < l.length := by have := HN.out; omega
            have HP := hide (surP_take due late l k hlt')
            generalize surP due late (l.take k) 100 = P at *
            obtain ⟨b, off, rfl, _, hb, hbr, hc⟩ := HR.out.open_ hbw (by omega)
            have c0 : wr.cell? ⟨b, off + k * 2, none⟩ = some (.int .i64 l[k].num) := hc k hlt' 0 _ rfl
            have c1 : wr.cell? ⟨b, off + k * 2 + 1, none⟩ = some (.int .i64 l[k].den) := hc k hlt' 1 _ rfl
            have HC := hide hc
            clear hc
            have HD := hide (chk_drop stepS l k hlt')
            cases h1 : outB l[k].num 0 1000000
            · cases h2 : outB l[k].den 100 1000
              · have hdn := outB_false.1 h2
                by_cases hk0 : 0 < k
                · have HV := hide (show stepS (prevOf l k) l[k] = if l[k].num ≤ (l[k - 1]'(by omega)).num ∨ l[k].den < (l[k - 1]'(by omega)).den then 7 else 0 by rw [prevOf_pos l k hk0 (by omega)]; exact stepS_some h1 h2)
                  have c4 : wr.cell? ⟨b, off + (k - 1) * 2, none⟩ = some (.int .i64 (l[k - 1]'(by omega)).num) := HC.out (k - 1) (by omega) 0 _ rfl
                  have c5 : wr.cell? ⟨b, off + (k - 1) * 2 + 1, none⟩ = some (.int .i64 (l[k - 1]'(by omega)).den) := HC.out (k - 1) (by omega) 1 _ rfl
                  generalize (l[k - 1]'(by omega)).num = p0 at *
                  generalize (l[k - 1]'(by omega)).den = p1 at *
                  have q1 : IntKind.i64.wrap ((k : Int) - 1) = (k : Int) - 1 := IntWalk.i64_in _ (by omega)
                  have q2 : (1 : Int) ≤ (k : Int) := by omega
                  have q3 : ((k : Int) - 1).toNat = k - 1 := by omega
                  have q4 : (k : Int) - 1 < (n : Int) := by omega
                  go_wp2_with (go_at_call 49; first | (rw [show (345686400000 : Int) = endMs from rfl]; refine (w_Out _ _ _ _).mono ?_; rintro e w' ⟨rfl, rfl⟩) | (refine (w_Out _ _ _ _).mono ?_; rintro e w' ⟨rfl, rfl⟩))
                  by_cases ho1 : l[k].num ≤ p0
                  · go_quiet (fail)
                    go_wp2
                    go_ret2
                    have HX := hide (show surF due late l = 7 by rw [HF.out, HQ.out, HD.out, HV.out]; simp [ho1])
                    exact ⟨by unfold surV; rw [HX.out]; rfl, (hbw.alloc _).drewN _⟩
                  · by_cases ho2 : l[k].den < p1
                    · go_quiet (fail)
                      go_wp2
                      go_ret2
                      have HX := hide (show surF due late l = 7 by rw [HF.out, HQ.out, HD.out, HV.out]; simp [ho2])
                      exact ⟨by unfold surV; rw [HX.out]; rfl, (hbw.alloc _).drewN _⟩
                    · go_quiet (fail)
                      rcases hit_cases due late l[k].num htb.1 hdb.1 with ⟨u1, u2, hs⟩ | ⟨u1, u2, hs⟩ | ⟨u1, u2, hs⟩ | ⟨u1, u2, hs⟩
                      · have HS := hide hs
                        clear hs
                        have u3 : (late == 0) = false := by simp; omega
                        have u4 : ¬ late = 0 := by omega
                        have u5 : (due * 100).tdiv late = due * 100 / late := Int.tdiv_eq_ediv_of_nonneg (by omega)
                        have u6 : IntKind.i64.wrap (due * 100 / late) = due * 100 / late := IntWalk.i64_in _ (by have h1 := Int.ediv_nonneg (show 0 ≤ due * 100 by omega) (show 0 ≤ late by omega); have h2 := Int.ediv_le_self (a := due * 100) late (by omega); omega)
                        go_wp2_with fail
                        go_quiet (fail)
                        go_wp2_with fail
                        go_roundw
                        case rel => exact ⟨k + 1, by omega, by go_num, by rw [HP.out, HS.out]; rfl, (hbw.alloc _).drewN _, by rw [HQ.out, HD.out, HV.out]; simp [ho1, ho2]⟩
                        case measure => simp [intOf]; omega
                      · have HS := hide hs
                        clear hs
                        have u3 : (late == 0) = false := by simp; omega
                        have u4 : ¬ late = 0 := by omega
                        have u5 : (due * 100).tdiv late = due * 100 / late := Int.tdiv_eq_ediv_of_nonneg (by omega)
                        have u6 : IntKind.i64.wrap (due * 100 / late) = due * 100 / late := IntWalk.i64_in _ (by have h1 := Int.ediv_nonneg (show 0 ≤ due * 100 by omega) (show 0 ≤ late by omega); have h2 := Int.ediv_le_self (a := due * 100) late (by omega); omega)
                        go_wp2_with fail
                        go_quiet (fail)
                        go_wp2_with fail
                        go_roundw
                        case rel => exact ⟨k + 1, by omega, by go_num, by rw [HP.out, HS.out]; rfl, (hbw.alloc _).drewN _, by rw [HQ.out, HD.out, HV.out]; simp [ho1, ho2]⟩
                        case measure => simp [intOf]; omega
                      · have HS := hide hs
                        clear hs
                        subst u1
                        have u3 : ((0 : Int) == 0) = true := rfl
                        go_wp2_with fail
                        go_quiet (fail)
                        go_wp2_with fail
                        go_roundw
                        case rel => exact ⟨k + 1, by omega, by go_num, by rw [HP.out, HS.out]; rfl, (hbw.alloc _).drewN _, by rw [HQ.out, HD.out, HV.out]; simp [ho1, ho2]⟩
                        case measure => simp [intOf]; omega
                      · have HS := hide hs
                        clear hs
                        subst u1
                        have u3 : ((0 : Int) == 0) = true := rfl
                        subst u2
                        go_wp2_with fail
                        go_quiet (fail)
                        go_wp2_with fail
                        go_roundw
                        case rel => exact ⟨k + 1, by omega, by go_num, by rw [HP.out, HS.out]; rfl, (hbw.alloc _).drewN _, by rw [HQ.out, HD.out, HV.out]; simp [ho1, ho2]⟩
                        case measure => simp [intOf]; omega
                · have HV := hide (show stepS (prevOf l k) l[k] = 0 by have e : k = 0 := (by omega); subst e; rw [prevOf_zero]; exact stepS_none h1 h2)
                  have hd0 : decide (0 < k) = false := by simpa using hk0
                  go_wp2_with (go_at_call 49; first | (rw [show (345686400000 : Int) = endMs from rfl]; refine (w_Out _ _ _ _).mono ?_; rintro e w' ⟨rfl, rfl⟩) | (refine (w_Out _ _ _ _).mono ?_; rintro e w' ⟨rfl, rfl⟩))
                  go_quiet (fail)
                  rcases hit_cases due late l[k].num htb.1 hdb.1 with ⟨u1, u2, hs⟩ | ⟨u1, u2, hs⟩ | ⟨u1, u2, hs⟩ | ⟨u1, u2, hs⟩
                  · have HS := hide hs
                    clear hs
                    have u3 : (late == 0) = false := by simp; omega
                    have u4 : ¬ late = 0 := by omega
                    have u5 : (due * 100).tdiv late = due * 100 / late := Int.tdiv_eq_ediv_of_nonneg (by omega)
                    have u6 : IntKind.i64.wrap (due * 100 / late) = due * 100 / late := IntWalk.i64_in _ (by have h1 := Int.ediv_nonneg (show 0 ≤ due * 100 by omega) (show 0 ≤ late by omega); have h2 := Int.ediv_le_self (a := due * 100) late (by omega); omega)
                    go_wp2_with fail
                    go_quiet (fail)
                    go_wp2_with fail
                    go_roundw
                    case rel => exact ⟨k + 1, by omega, by go_num, by rw [HP.out, HS.out]; rfl, (hbw.alloc _).drewN _, by rw [HQ.out, HD.out, HV.out, if_pos rfl]⟩
                    case measure => simp [intOf]; omega
                  · have HS := hide hs
                    clear hs
                    have u3 : (late == 0) = false := by simp; omega
                    have u4 : ¬ late = 0 := by omega
                    have u5 : (due * 100).tdiv late = due * 100 / late := Int.tdiv_eq_ediv_of_nonneg (by omega)
                    have u6 : IntKind.i64.wrap (due * 100 / late) = due * 100 / late := IntWalk.i64_in _ (by have h1 := Int.ediv_nonneg (show 0 ≤ due * 100 by omega) (show 0 ≤ late by omega); have h2 := Int.ediv_le_self (a := due * 100) late (by omega); omega)
                    go_wp2_with fail
                    go_quiet (fail)
                    go_wp2_with fail
                    go_roundw
                    case rel => exact ⟨k + 1, by omega, by go_num, by rw [HP.out, HS.out]; rfl, (hbw.alloc _).drewN _, by rw [HQ.out, HD.out, HV.out, if_pos rfl]⟩
                    case measure => simp [intOf]; omega
                  · have HS := hide hs
                    clear hs
                    subst u1
                    have u3 : ((0 : Int) == 0) = true := rfl
                    go_wp2_with fail
                    go_quiet (fail)
                    go_wp2_with fail
                    go_roundw
                    case rel => exact ⟨k + 1, by omega, by go_num, by rw [HP.out, HS.out]; rfl, (hbw.alloc _).drewN _, by rw [HQ.out, HD.out, HV.out, if_pos rfl]⟩
                    case measure => simp [intOf]; omega
                  · have HS := hide hs
                    clear hs
                    subst u1
                    have u3 : ((0 : Int) == 0) = true := rfl
                    subst u2
                    go_wp2_with fail
                    go_quiet (fail)
                    go_wp2_with fail
                    go_roundw
                    case rel => exact ⟨k + 1, by omega, by go_num, by rw [HP.out, HS.out]; rfl, (hbw.alloc _).drewN _, by rw [HQ.out, HD.out, HV.out, if_pos rfl]⟩
                    case measure => simp [intOf]; omega
              · have HV := hide (show stepS (prevOf l k) l[k] = 1 from stepS_bad2 h2)
                go_wp2_with (go_at_call 49; first | (rw [show (345686400000 : Int) = endMs from rfl]; refine (w_Out _ _ _ _).mono ?_; rintro e w' ⟨rfl, rfl⟩) | (refine (w_Out _ _ _ _).mono ?_; rintro e w' ⟨rfl, rfl⟩))
                go_ret2
                exact ⟨by unfold surV; rw [HF.out, HQ.out, HD.out, HV.out]; rfl, hbw.alloc _⟩
            · have HV := hide (show stepS (prevOf l k) l[k] = 1 from stepS_bad1 h1)
              go_wp2_with (go_at_call 49; first | (rw [show (345686400000 : Int) = endMs from rfl]; refine (w_Out _ _ _ _).mono ?_; rintro e w' ⟨rfl, rfl⟩) | (refine (w_Out _ _ _ _).mono ?_; rintro e w' ⟨rfl, rfl⟩))
              go_ret2
              exact ⟨by unfold surV; rw [HF.out, HQ.out, HD.out, HV.out]; rfl, hbw.alloc _⟩
          · have ek : k = n := by omega
            have HE := hide (show surP due late l 100 = surP due late (l.take k) 100 by rw [List.take_of_length_le (by have := HN.out; omega)])
            have HZ := hide (show surF due late l = 0 by rw [HF.out, HQ.out, List.drop_of_length_le (by have := HN.out; omega)]; rfl)
            generalize surP due late (l.take k) 100 = P at *
            go_wp2
            go_ret2
            exact ⟨by unfold surV; rw [HZ.out, if_pos rfl, HE.out]; rfl, hbw⟩
    · have HF := hide (show surF due late l = 1 by unfold surF; rw [hd, ht]; rfl)
      have HV := hide (show surV due late l = 0 by unfold surV; rw [HF.out]; rfl)
      clear hR
      generalize l.length = n at *
      unfold centB at hd ht
      go_enter Tryz.func16, Tryz.ntmps16
      go_wp2_with (go_at_call 49; first | (rw [show (1000000000 : Int) = maxCt from rfl]; refine (w_Out _ _ _ _).mono ?_; rintro e w' ⟨rfl, rfl⟩) | (rw [show (345686400000 : Int) = endMs from rfl]; refine (w_Out _ _ _ _).mono ?_; rintro e w' ⟨rfl, rfl⟩))
      go_ret2
      exact ⟨by rw [HF.out, HV.out]; rfl, Nx.refl _⟩
  · have HF := hide (show surF due late l = 1 by unfold surF; rw [hd]; rfl)
    have HV := hide (show surV due late l = 0 by unfold surV; rw [HF.out]; rfl)
    clear hR
    generalize l.length = n at *
    unfold centB at hd
    go_enter Tryz.func16, Tryz.ntmps16
    go_wp2_with (go_at_call 49; first | (rw [show (1000000000 : Int) = maxCt from rfl]; refine (w_Out _ _ _ _).mono ?_; rintro e w' ⟨rfl, rfl⟩) | (rw [show (345686400000 : Int) = endMs from rfl]; refine (w_Out _ _ _ _).mono ?_; rintro e w' ⟨rfl, rfl⟩))
    go_ret2
    exact ⟨by rw [HF.out, HV.out]; rfl, Nx.refl _⟩

set_option maxRecDepth 100000 in
set_option maxHeartbeats 4000000 in
theorem w_SurgeOf (lo : Nat) (A : Option Addr) (c : Nat) (due late : Int) (l : List Frac) (w : World) (hR : Rd w lo A 2 encFrac l) (hl : l.length ≤ 65536) (hd : centB due = false) (ht : centB late = false) :
    Calls Tryz.prog 18 #[.int .i64 due, .int .i64 late, .slice A l.length c] w fun e w' => e = .returned (.int .i64 (surP due late l 100)) ∧ Nx w w' := by
  have hdb := cent_bdS hd
  have htb := cent_bdS ht
  have hw1 : IntKind.i64.wrap (due * 100) = due * 100 := IntWalk.i64_in _ (by omega)
  clear hd ht
  generalize hn : l.length = n at *
  have HR := hide hR
  have HN := hide hn
  clear hR hn
  go_enter Tryz.func18, Tryz.ntmps18
  go_wp2
  go_loopw [7, 9, 12] (fun p _ i wr => ∃ k : Nat, k ≤ n ∧ i = .int .i64 k ∧ p = .int .i64 (surP due late (l.take k) 100) ∧ Nx w wr) (fun _ _ i _ => n - (intOf i).toNat)
  case atStart => exact ⟨0, Nat.zero_le _, rfl, rfl, Nx.refl _⟩
  case round =>
    obtain ⟨k, hk, rfl, rfl, hbw⟩ := hrel
    by_cases hlt : k < n
    · have hlt' : k < l.length := by have := HN.out; omega
      have HP := hide (surP_take due late l k hlt')
      generalize surP due late (l.take k) 100 = P at *
      obtain ⟨b, off, rfl, _, hb, hbr, hc⟩ := HR.out.open_ hbw (by omega)
      have c0 : wr.cell? ⟨b, off + k * 2, none⟩ = some (.int .i64 l[k].num) := hc k hlt' 0 _ rfl
      have c1 : wr.cell? ⟨b, off + k * 2 + 1, none⟩ = some (.int .i64 l[k].den) := hc k hlt' 1 _ rfl
      clear hc
      rcases hit_cases due late l[k].num htb.1 hdb.1 with ⟨u1, u2, hs⟩ | ⟨u1, u2, hs⟩ | ⟨u1, u2, hs⟩ | ⟨u1, u2, hs⟩
      · have HS := hide hs
        clear hs
        have u3 : (late == 0) = false := by simp; omega
        have u4 : ¬ late = 0 := by omega
        have u5 : (due * 100).tdiv late = due * 100 / late := Int.tdiv_eq_ediv_of_nonneg (by omega)
        have u6 : IntKind.i64.wrap (due * 100 / late) = due * 100 / late := IntWalk.i64_in _ (by have h1 := Int.ediv_nonneg (show 0 ≤ due * 100 by omega) (show 0 ≤ late by omega); have h2 := Int.ediv_le_self (a := due * 100) late (by omega); omega)
        go_wp2_with fail
        go_quiet (fail)
        go_wp2_with fail
        go_roundw
        case rel => exact ⟨k + 1, by omega, by go_num, by rw [HP.out, HS.out]; rfl, (hbw.alloc _).drewN _⟩
        case measure => simp [intOf]; omega
      · have HS := hide hs
        clear hs
        have u3 : (late == 0) = false := by simp; omega
        have u4 : ¬ late = 0 := by omega
        have u5 : (due * 100).tdiv late = due * 100 / late := Int.tdiv_eq_ediv_of_nonneg (by omega)
        have u6 : IntKind.i64.wrap (due * 100 / late) = due * 100 / late := IntWalk.i64_in _ (by have h1 := Int.ediv_nonneg (show 0 ≤ due * 100 by omega) (show 0 ≤ late by omega); have h2 := Int.ediv_le_self (a := due * 100) late (by omega); omega)
        go_wp2_with fail
        go_quiet (fail)
        go_wp2_with fail
        go_roundw
        case rel => exact ⟨k + 1, by omega, by go_num, by rw [HP.out, HS.out]; rfl, (hbw.alloc _).drewN _⟩
        case measure => simp [intOf]; omega
      · have HS := hide hs
        clear hs
        subst u1
        have u3 : ((0 : Int) == 0) = true := rfl
        go_wp2_with fail
        go_quiet (fail)
        go_wp2_with fail
        go_roundw
        case rel => exact ⟨k + 1, by omega, by go_num, by rw [HP.out, HS.out]; rfl, (hbw.alloc _).drewN _⟩
        case measure => simp [intOf]; omega
      · have HS := hide hs
        clear hs
        subst u1
        have u3 : ((0 : Int) == 0) = true := rfl
        subst u2
        go_wp2_with fail
        go_quiet (fail)
        go_wp2_with fail
        go_roundw
        case rel => exact ⟨k + 1, by omega, by go_num, by rw [HP.out, HS.out]; rfl, (hbw.alloc _).drewN _⟩
        case measure => simp [intOf]; omega
    · have HE := hide (show surP due late l 100 = surP due late (l.take k) 100 by rw [List.take_of_length_le (by have := HN.out; omega)])
      generalize surP due late (l.take k) 100 = P at *
      go_wp2
      go_ret
      exact ⟨ret_int (by rw [HE.out]), hbw⟩
end Go.Proofs.YthlhomcgjgfdhaaGreatDoor
