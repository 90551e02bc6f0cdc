/- What is given back: the program's and the reference's. -/
import Derived.Test.YtjhmgkoghapocaaDoorFault
namespace Go.Proofs.YtjhmgkoghapocaaDoor
open Go.RowKit

theorem refPart_app (late : Int) (a : List Frac) (s : Frac) (d : Int) : refPart late (a ++ [s]) d = if s.num ≤ late then s.den else refPart late a d := by
  induction a generalizing d with
  | nil => rfl
  | cons x a ih => simp only [List.cons_append, refPart]; rw [ih]
theorem refPart_take (late : Int) (l : List Frac) (k : Nat) (hk : k < l.length) : refPart late (l.take (k + 1)) 0 = if l[k].num ≤ late then l[k].den else refPart late (l.take k) 0 := by
  rw [List.take_succ_eq_append_getElem hk, refPart_app]
theorem stepF_bad1 {p : Option Frac} {s : Frac} (h : outB s.num 1 endMs = true) : stepF p s = 1 := by unfold stepF; rw [h]; rfl
theorem stepF_bad2 {p : Option Frac} {s : Frac} (h : outB s.den 0 100 = true) : stepF p s = 1 := by unfold stepF; rw [h]; simp
theorem stepF_none {s : Frac} (h1 : outB s.num 1 endMs = false) (h2 : outB s.den 0 100 = false) : stepF none s = 0 := by unfold stepF; rw [h1, h2]; rfl
theorem stepF_some {q s : Frac} (h1 : outB s.num 1 endMs = false) (h2 : outB s.den 0 100 = false) : stepF (some q) s = if s.num ≤ q.num ∨ s.den < q.den then 7 else 0 := by unfold stepF; rw [h1, h2]; rfl
theorem refF_zero {due late : Int} {l : List Frac} (h1 : centB due = false) (h2 : outB late 0 endMs = false) (h3 : ¬ 20 < l.length) : refF due late l = chk stepF none l := by unfold refF; rw [h1, h2]; simp [h3]
def refV (due late : Int) (l : List Frac) : Int := if refF due late l = 0 then refI due late l else 0

set_option maxRecDepth 100000 in
set_option maxHeartbeats 4000000 in
theorem w_Refund (lo : Nat) (A : Option Addr) (c : Nat) (due late : Int) (l : List Frac) (w : World) (hR : Rd w lo A 2 encFrac l) (hl : l.length ≤ 65536) :
    Calls Tryd.prog 20 #[.int .i64 due, .int .i64 late, .slice A l.length c] w fun e w' => e = .returned (.tuple #[.int .i64 (refV due late l), .int .i64 (refF due late l)]) ∧ Nx w w' := by
  cases hd : centB due
  · cases ht : outB late 0 endMs
    · generalize hn : l.length = n at *
      have HR := hide hR
      have HN := hide hn
      clear hR hn
      by_cases h20 : 20 < n
      · have HF := hide (show refF due late l = 2 by unfold refF; rw [hd, ht]; simp [HN.out, h20])
        have HV := hide (show refV due late l = 0 by unfold refV; rw [HF.out]; rfl)
        unfold centB at hd
        go_enter Tryd.func20, Tryd.ntmps20
        go_wp2_with (go_at_call 60; first | (rw [show (1000000000 : Int) = maxCt from rfl]; refine (w_Out _ _ _ _).mono ?_; rintro e w' ⟨rfl, rfl⟩) | (rw [show (345686400000 : Int) = endMs from rfl]; refine (w_Out _ _ _ _).mono ?_; rintro e w' ⟨rfl, rfl⟩))
        go_ret2
        exact ⟨by rw [HF.out, HV.out]; rfl, Nx.refl _⟩
      · have HF := hide (show refF due late l = chk stepF none l from refF_zero hd ht (by rw [HN.out]; exact h20))
        have hdb := centB_bd hd
        unfold centB at hd
        go_enter Tryd.func20, Tryd.ntmps20
        go_wp2_with (go_at_call 60; first | (rw [show (1000000000 : Int) = maxCt from rfl]; refine (w_Out _ _ _ _).mono ?_; rintro e w' ⟨rfl, rfl⟩) | (rw [show (345686400000 : Int) = endMs from rfl]; refine (w_Out _ _ _ _).mono ?_; rintro e w' ⟨rfl, rfl⟩))
        go_loopw [6, 7, 8, 9, 10, 22] (fun _ _ p _ _ i wr => ∃ k : Nat, k ≤ n ∧ i = .int .i64 k ∧ p = .int .i64 (refPart late (l.take k) 0) ∧ (0 ≤ refPart late (l.take k) 0 ∧ refPart late (l.take k) 0 ≤ 100) ∧ Nx w wr ∧ chk stepF none l = chk stepF (prevOf l k) (l.drop k)) (fun _ _ _ _ _ i _ => n - (intOf i).toNat)
        case atStart => exact ⟨0, Nat.zero_le _, rfl, rfl, by simp [refPart], Nx.refl _, rfl⟩
        case round =>
          obtain ⟨k, hk, rfl, rfl, hpb, hbw, hq⟩ := hrel
          have HQ := hide hq
          clear hq
          by_cases hlt : k < n
          · have hlt' : k < l.length := by have := HN.out; omega
            have HP := hide (refPart_take late l k hlt')
            generalize refPart late (l.take k) 0 = P at *
            obtain ⟨b, off, rfl, _, hb, hbr, hc⟩ := HR.out.open_ hbw (by omega)
            have c0 : wr.cell? ⟨b, off + k * 2, none⟩ = some (.int .i64 l[k].num) := hc k hlt' 0 _ rfl
            have c1 : wr.cell? ⟨b, off + k * 2 + 1, none⟩ = some (.int .i64 l[k].den) := hc k hlt' 1 _ rfl
            have HC := hide hc
            clear hc
            have HD := hide (chk_drop stepF l k hlt')
            cases h1 : outB l[k].num 1 endMs
            · cases h2 : outB l[k].den 0 100
              · have hdn := outB_false.1 h2
                by_cases hk0 : 0 < k
                · have HV := hide (show stepF (prevOf l k) l[k] = if l[k].num ≤ (l[k - 1]'(by omega)).num ∨ l[k].den < (l[k - 1]'(by omega)).den then 7 else 0 by rw [prevOf_pos l k hk0 (by omega)]; exact stepF_some h1 h2)
                  have c4 : wr.cell? ⟨b, off + (k - 1) * 2, none⟩ = some (.int .i64 (l[k - 1]'(by omega)).num) := HC.out (k - 1) (by omega) 0 _ rfl
                  have c5 : wr.cell? ⟨b, off + (k - 1) * 2 + 1, none⟩ = some (.int .i64 (l[k - 1]'(by omega)).den) := HC.out (k - 1) (by omega) 1 _ rfl
                  generalize (l[k - 1]'(by omega)).num = p0 at *
                  generalize (l[k - 1]'(by omega)).den = p1 at *
                  have q1 : IntKind.i64.wrap ((k : Int) - 1) = (k : Int) - 1 := IntWalk.i64_in _ (by omega)
                  have q2 : (1 : Int) ≤ (k : Int) := by omega
                  have q3 : ((k : Int) - 1).toNat = k - 1 := by omega
                  have q4 : (k : Int) - 1 < (n : Int) := by omega
                  go_wp2_with (go_at_call 60; first | (rw [show (345686400000 : Int) = endMs from rfl]; refine (w_Out _ _ _ _).mono ?_; rintro e w' ⟨rfl, rfl⟩) | (refine (w_Out _ _ _ _).mono ?_; rintro e w' ⟨rfl, rfl⟩))
                  by_cases ho1 : l[k].num ≤ p0
                  · go_quiet (fail)
                    go_wp2
                    go_ret2
                    have HX := hide (show refF due late l = 7 by rw [HF.out, HQ.out, HD.out, HV.out]; simp [ho1])
                    exact ⟨by unfold refV; rw [HX.out]; rfl, (hbw.alloc _).drewN _⟩
                  · by_cases ho2 : l[k].den < p1
                    · go_quiet (fail)
                      go_wp2
                      go_ret2
                      have HX := hide (show refF due late l = 7 by rw [HF.out, HQ.out, HD.out, HV.out]; simp [ho2])
                      exact ⟨by unfold refV; rw [HX.out]; rfl, (hbw.alloc _).drewN _⟩
                    · go_quiet (fail)
                      by_cases hlate : l[k].num ≤ late
                      · go_wp2
                        go_roundw
                        case rel => exact ⟨k + 1, by omega, by go_num, by rw [HP.out, if_pos hlate], by rw [HP.out, if_pos hlate]; omega, (hbw.alloc _).drewN _, by rw [HQ.out, HD.out, HV.out]; simp [ho1, ho2]⟩
                        case measure => simp [intOf]; omega
                      · go_wp2
                        go_roundw
                        case rel => exact ⟨k + 1, by omega, by go_num, by rw [HP.out, if_neg hlate], by rw [HP.out, if_neg hlate]; omega, (hbw.alloc _).drewN _, by rw [HQ.out, HD.out, HV.out]; simp [ho1, ho2]⟩
                        case measure => simp [intOf]; omega
                · have HV := hide (show stepF (prevOf l k) l[k] = 0 by have e : k = 0 := (by omega); subst e; rw [prevOf_zero]; exact stepF_none h1 h2)
                  have hd0 : decide (0 < k) = false := by simpa using hk0
                  go_wp2_with (go_at_call 60; first | (rw [show (345686400000 : Int) = endMs from rfl]; refine (w_Out _ _ _ _).mono ?_; rintro e w' ⟨rfl, rfl⟩) | (refine (w_Out _ _ _ _).mono ?_; rintro e w' ⟨rfl, rfl⟩))
                  go_quiet (fail)
                  by_cases hlate : l[k].num ≤ late
                  · go_wp2
                    go_roundw
                    case rel => exact ⟨k + 1, by omega, by go_num, by rw [HP.out, if_pos hlate], by rw [HP.out, if_pos hlate]; omega, (hbw.alloc _).drewN _, by rw [HQ.out, HD.out, HV.out, if_pos rfl]⟩
                    case measure => simp [intOf]; omega
                  · go_wp2
                    go_roundw
                    case rel => exact ⟨k + 1, by omega, by go_num, by rw [HP.out, if_neg hlate], by rw [HP.out, if_neg hlate]; omega, (hbw.alloc _).drewN _, by rw [HQ.out, HD.out, HV.out, if_pos rfl]⟩
                    case measure => simp [intOf]; omega
              · have HV := hide (show stepF (prevOf l k) l[k] = 1 from stepF_bad2 h2)
                go_wp2_with (go_at_call 60; first | (rw [show (345686400000 : Int) = endMs from rfl]; refine (w_Out _ _ _ _).mono ?_; rintro e w' ⟨rfl, rfl⟩) | (refine (w_Out _ _ _ _).mono ?_; rintro e w' ⟨rfl, rfl⟩))
                go_ret2
                exact ⟨by unfold refV; rw [HF.out, HQ.out, HD.out, HV.out]; rfl, hbw.alloc _⟩
            · have HV := hide (show stepF (prevOf l k) l[k] = 1 from stepF_bad1 h1)
              go_wp2_with (go_at_call 60; first | (rw [show (345686400000 : Int) = endMs from rfl]; refine (w_Out _ _ _ _).mono ?_; rintro e w' ⟨rfl, rfl⟩) | (refine (w_Out _ _ _ _).mono ?_; rintro e w' ⟨rfl, rfl⟩))
              go_ret2
              exact ⟨by unfold refV; rw [HF.out, HQ.out, HD.out, HV.out]; rfl, hbw.alloc _⟩
          · have ek : k = n := by omega
            have HE := hide (show refPart late l 0 = refPart late (l.take k) 0 by rw [List.take_of_length_le (by have := HN.out; omega)])
            have HZ := hide (show refF due late l = 0 by rw [HF.out, HQ.out, List.drop_of_length_le (by have := HN.out; omega)]; rfl)
            generalize refPart late (l.take k) 0 = P at *
            have hb0 : 0 ≤ due * P := Int.mul_nonneg hdb.1 hpb.1
            have hb1 : due * P ≤ 100000000000 := by
              have := Int.mul_le_mul hdb.2 hpb.2 hpb.1 (by omega)
              omega
            go_wp2
            go_ret2
            exact ⟨by unfold refV refI; rw [HZ.out, if_pos rfl, HE.out]; rfl, hbw⟩
    · have HF := hide (show refF due late l = 1 by unfold refF; rw [hd, ht]; rfl)
      have HV := hide (show refV due late l = 0 by unfold refV; rw [HF.out]; rfl)
      clear hR
      generalize l.length = n at *
      unfold centB at hd
      go_enter Tryd.func20, Tryd.ntmps20
      go_wp2_with (go_at_call 60; first | (rw [show (1000000000 : Int) = maxCt from rfl]; refine (w_Out _ _ _ _).mono ?_; rintro e w' ⟨rfl, rfl⟩) | (rw [show (345686400000 : Int) = endMs from rfl]; refine (w_Out _ _ _ _).mono ?_; rintro e w' ⟨rfl, rfl⟩))
      go_ret2
      exact ⟨by rw [HF.out, HV.out]; rfl, Nx.refl _⟩
  · have HF := hide (show refF due late l = 1 by unfold refF; rw [hd]; rfl)
    have HV := hide (show refV due late l = 0 by unfold refV; rw [HF.out]; rfl)
    clear hR
    generalize l.length = n at *
    unfold centB at hd
    go_enter Tryd.func20, Tryd.ntmps20
    go_wp2_with (go_at_call 60; first | (rw [show (1000000000 : Int) = maxCt from rfl]; refine (w_Out _ _ _ _).mono ?_; rintro e w' ⟨rfl, rfl⟩) | (rw [show (345686400000 : Int) = endMs from rfl]; refine (w_Out _ _ _ _).mono ?_; rintro e w' ⟨rfl, rfl⟩))
    go_ret2
    exact ⟨by rw [HF.out, HV.out]; rfl, Nx.refl _⟩

set_option maxRecDepth 100000 in
set_option maxHeartbeats 4000000 in
theorem w_RefundFault (lo : Nat) (A : Option Addr) (c : Nat) (due late : Int) (l : List Frac) (w : World) (hR : Rd w lo A 2 encFrac l) (hl : l.length ≤ 65536) :
    Calls Tryd.prog 21 #[.int .i64 due, .int .i64 late, .slice A l.length c] w fun e w' => e = .returned (.int .i64 (refF due late l)) ∧ Nx w w' := by
  have i1 := inB_out due 0 maxCt
  have i2 := inB_out late 0 endMs
  cases hd : centB due
  · cases ht : outB late 0 endMs
    · generalize hn : l.length = n at *
      have HR := hide hR
      have HN := hide hn
      clear hR hn
      rw [ht] at i2
      by_cases h20 : 20 < n
      · have HF := hide (show refF due late l = 2 by unfold refF; rw [hd, ht]; simp [HN.out, h20])
        unfold centB at hd
        rw [hd] at i1
        go_enter Tryd.func21, Tryd.ntmps21
        go_wp2_with (go_at_call 54; first | (rw [show (1000000000 : Int) = maxCt from rfl]; refine (w_in _ _ _ _).mono ?_; rintro e w' ⟨rfl, rfl⟩) | (rw [show (345686400000 : Int) = endMs from rfl]; refine (w_in _ _ _ _).mono ?_; rintro e w' ⟨rfl, rfl⟩) | (refine (w_in _ _ _ _).mono ?_; rintro e w' ⟨rfl, rfl⟩))
        go_ret
        exact ⟨ret_int (by rw [HF.out]), Nx.refl _⟩
      · have HF := hide (show refF due late l = chk stepF none l from refF_zero hd ht (by rw [HN.out]; exact h20))
        unfold centB at hd
        rw [hd] at i1
        go_enter Tryd.func21, Tryd.ntmps21
        go_wp2_with (go_at_call 54; first | (rw [show (1000000000 : Int) = maxCt from rfl]; refine (w_in _ _ _ _).mono ?_; rintro e w' ⟨rfl, rfl⟩) | (rw [show (345686400000 : Int) = endMs from rfl]; refine (w_in _ _ _ _).mono ?_; rintro e w' ⟨rfl, rfl⟩) | (refine (w_in _ _ _ _).mono ?_; rintro e w' ⟨rfl, rfl⟩))
        go_loopw [6, 7, 8, 24, 29, 40] (fun _ _ _ i _ _ wr => ∃ k : Nat, k ≤ n ∧ i = .int .i64 k ∧ Nx w wr ∧ chk stepF none l = chk stepF (prevOf l k) (l.drop k)) (fun _ _ _ i _ _ _ => n - (intOf i).toNat)
        case atStart => exact ⟨0, Nat.zero_le _, rfl, Nx.refl _, rfl⟩
        case round =>
          obtain ⟨k, hk, rfl, hbw, hq⟩ := hrel
          have HQ := hide hq
          clear hq
          by_cases hlt : k < n
          · have hlt' : k < l.length := by have := HN.out; omega
            obtain ⟨b, off, rfl, _, hb, hbr, hc⟩ := HR.out.open_ hbw (by omega)
            have c0 : wr.cell? ⟨b, off + k * 2, none⟩ = some (.int .i64 l[k].num) := hc k hlt' 0 _ rfl
            have c1 : wr.cell? ⟨b, off + k * 2 + 1, none⟩ = some (.int .i64 l[k].den) := hc k hlt' 1 _ rfl
            have HC := hide hc
            clear hc
            have HD := hide (chk_drop stepF l k hlt')
            have i3 := inB_out l[k].num 1 endMs
            have i4 := inB_out l[k].den 0 100
            cases h1 : outB l[k].num 1 endMs
            · cases h2 : outB l[k].den 0 100
              · rw [h1] at i3
                rw [h2] at i4
                by_cases hk0 : 0 < k
                · have HV := hide (show stepF (prevOf l k) l[k] = if l[k].num ≤ (l[k - 1]'(by omega)).num ∨ l[k].den < (l[k - 1]'(by omega)).den then 7 else 0 by rw [prevOf_pos l k hk0 (by omega)]; exact stepF_some h1 h2)
                  have c4 : wr.cell? ⟨b, off + (k - 1) * 2, none⟩ = some (.int .i64 (l[k - 1]'(by omega)).num) := HC.out (k - 1) (by omega) 0 _ rfl
                  have c5 : wr.cell? ⟨b, off + (k - 1) * 2 + 1, none⟩ = some (.int .i64 (l[k - 1]'(by omega)).den) := HC.out (k - 1) (by omega) 1 _ rfl
                  generalize (l[k - 1]'(by omega)).num = p0 at *
                  generalize (l[k - 1]'(by omega)).den = p1 at *
                  have q1 : IntKind.i64.wrap ((k : Int) - 1) = (k : Int) - 1 := IntWalk.i64_in _ (by omega)
                  have q2 : (1 : Int) ≤ (k : Int) := by omega
                  have q3 : ((k : Int) - 1).toNat = k - 1 := by omega
                  have q4 : (k : Int) - 1 < (n : Int) := by omega
                  go_wp2_with (go_at_call 54; first | (rw [show (1000000000 : Int) = maxCt from rfl]; refine (w_in _ _ _ _).mono ?_; rintro e w' ⟨rfl, rfl⟩) | (rw [show (345686400000 : Int) = endMs from rfl]; refine (w_in _ _ _ _).mono ?_; rintro e w' ⟨rfl, rfl⟩) | (refine (w_in _ _ _ _).mono ?_; rintro e w' ⟨rfl, rfl⟩))
                  by_cases ho1 : l[k].num ≤ p0
                  · go_quiet (fail)
                    go_wp2
                    go_ret
                    exact ⟨ret_int (by rw [HF.out, HQ.out, HD.out, HV.out]; simp [ho1]), (hbw.alloc _).drewN _⟩
                  · by_cases ho2 : l[k].den < p1
                    · go_quiet (fail)
                      go_wp2
                      go_ret
                      exact ⟨ret_int (by rw [HF.out, HQ.out, HD.out, HV.out]; simp [ho2]), (hbw.alloc _).drewN _⟩
                    · go_quiet (fail)
                      go_wp2
                      go_roundw
                      case rel => exact ⟨k + 1, by omega, by go_num, (hbw.alloc _).drewN _, by rw [HQ.out, HD.out, HV.out]; simp [ho1, ho2]⟩
                      case measure => simp [intOf]; omega
                · have HV := hide (show stepF (prevOf l k) l[k] = 0 by have e : k = 0 := (by omega); subst e; rw [prevOf_zero]; exact stepF_none h1 h2)
                  have hd0 : decide (0 < k) = false := by simpa using hk0
                  go_wp2_with (go_at_call 54; first | (rw [show (1000000000 : Int) = maxCt from rfl]; refine (w_in _ _ _ _).mono ?_; rintro e w' ⟨rfl, rfl⟩) | (rw [show (345686400000 : Int) = endMs from rfl]; refine (w_in _ _ _ _).mono ?_; rintro e w' ⟨rfl, rfl⟩) | (refine (w_in _ _ _ _).mono ?_; rintro e w' ⟨rfl, rfl⟩))
                  go_quiet (fail)
                  go_wp2
                  go_roundw
                  case rel => exact ⟨k + 1, by omega, by go_num, (hbw.alloc _).drewN _, by rw [HQ.out, HD.out, HV.out, if_pos rfl]⟩
                  case measure => simp [intOf]; omega
              · have HV := hide (show stepF (prevOf l k) l[k] = 1 from stepF_bad2 h2)
                rw [h1] at i3
                rw [h2] at i4
                go_wp2_with (go_at_call 54; first | (rw [show (1000000000 : Int) = maxCt from rfl]; refine (w_in _ _ _ _).mono ?_; rintro e w' ⟨rfl, rfl⟩) | (rw [show (345686400000 : Int) = endMs from rfl]; refine (w_in _ _ _ _).mono ?_; rintro e w' ⟨rfl, rfl⟩) | (refine (w_in _ _ _ _).mono ?_; rintro e w' ⟨rfl, rfl⟩))
                go_ret
                exact ⟨ret_int (by rw [HF.out, HQ.out, HD.out, HV.out]; rfl), hbw.alloc _⟩
            · have HV := hide (show stepF (prevOf l k) l[k] = 1 from stepF_bad1 h1)
              rw [h1] at i3
              go_wp2_with (go_at_call 54; first | (rw [show (1000000000 : Int) = maxCt from rfl]; refine (w_in _ _ _ _).mono ?_; rintro e w' ⟨rfl, rfl⟩) | (rw [show (345686400000 : Int) = endMs from rfl]; refine (w_in _ _ _ _).mono ?_; rintro e w' ⟨rfl, rfl⟩) | (refine (w_in _ _ _ _).mono ?_; rintro e w' ⟨rfl, rfl⟩))
              go_ret
              exact ⟨ret_int (by rw [HF.out, HQ.out, HD.out, HV.out]; rfl), hbw.alloc _⟩
          · go_wp2
            go_ret
            exact ⟨ret_int (by rw [HF.out, HQ.out, List.drop_of_length_le (by have := HN.out; omega)]; rfl), hbw⟩
    · have HF := hide (show refF due late l = 1 by unfold refF; rw [hd, ht]; rfl)
      clear hR
      generalize l.length = n at *
      unfold centB at hd
      rw [hd] at i1
      rw [ht] at i2
      go_enter Tryd.func21, Tryd.ntmps21
      go_wp2_with (go_at_call 54; first | (rw [show (1000000000 : Int) = maxCt from rfl]; refine (w_in _ _ _ _).mono ?_; rintro e w' ⟨rfl, rfl⟩) | (rw [show (345686400000 : Int) = endMs from rfl]; refine (w_in _ _ _ _).mono ?_; rintro e w' ⟨rfl, rfl⟩) | (refine (w_in _ _ _ _).mono ?_; rintro e w' ⟨rfl, rfl⟩))
      go_ret
      exact ⟨ret_int (by rw [HF.out]), Nx.refl _⟩
  · have HF := hide (show refF due late l = 1 by unfold refF; rw [hd]; rfl)
    clear hR
    generalize l.length = n at *
    unfold centB at hd
    rw [hd] at i1
    go_enter Tryd.func21, Tryd.ntmps21
    go_wp2_with (go_at_call 54; first | (rw [show (1000000000 : Int) = maxCt from rfl]; refine (w_in _ _ _ _).mono ?_; rintro e w' ⟨rfl, rfl⟩) | (rw [show (345686400000 : Int) = endMs from rfl]; refine (w_in _ _ _ _).mono ?_; rintro e w' ⟨rfl, rfl⟩) | (refine (w_in _ _ _ _).mono ?_; rintro e w' ⟨rfl, rfl⟩))
    go_ret
    exact ⟨ret_int (by rw [HF.out]), Nx.refl _⟩

/-- What right steps are. -/
theorem stepF_zero {p : Option Frac} {s : Frac} (h : stepF p s = 0) : 0 ≤ s.den ∧ s.den ≤ 100 := by
  cases h1 : outB s.num 1 endMs
  · cases h2 : outB s.den 0 100
    · exact outB_false.1 h2
    · rw [stepF_bad2 h2] at h; omega
  · rw [stepF_bad1 h1] at h; omega
theorem chk_all {α : Type} {f : Option α → α → Int} {Q : α → Prop} (hQ : ∀ p x, f p x = 0 → Q x) : ∀ {l : List α} {p : Option α}, chk f p l = 0 → ∀ x ∈ l, Q x
  | [], _, _, _, hx => by simp at hx
  | c :: l, p, h, x, hx => by
    unfold chk at h
    by_cases h0 : f p c = 0
    · rw [if_pos h0] at h
      rcases List.mem_cons.1 hx with rfl | hx
      · exact hQ _ _ h0
      · exact chk_all hQ h x hx
    · rw [if_neg h0] at h; exact absurd h h0
theorem refF_right {due late : Int} {l : List Frac} (h : refF due late l = 0) : (0 ≤ due ∧ due ≤ 1000000000) ∧ ∀ s ∈ l, 0 ≤ s.den ∧ s.den ≤ 100 := by
  unfold refF at h
  cases hd : centB due
  · cases ht : outB late 0 endMs
    · rw [hd, ht] at h
      by_cases h20 : 20 < l.length
      · simp [h20] at h
      · simp [h20] at h
        exact ⟨centB_bd hd, chk_all (f := stepF) (Q := fun s => 0 ≤ s.den ∧ s.den ≤ 100) (fun p x => stepF_zero) h⟩
    · rw [hd, ht] at h; simp at h
  · rw [hd] at h; simp at h

set_option maxRecDepth 100000 in
set_option maxHeartbeats 4000000 in
theorem w_RefundOf (lo : Nat) (A : Option Addr) (c : Nat) (due late : Int) (l : List Frac) (w : World) (hR : Rd w lo A 2 encFrac l) (hl : l.length ≤ 65536) (h0 : refF due late l = 0) :
    Calls Tryd.prog 23 #[.int .i64 due, .int .i64 late, .slice A l.length c] w fun e w' => e = .returned (.int .i64 (refI due late l)) ∧ Nx w w' := by
  obtain ⟨hdb, hall⟩ := refF_right h0
  generalize hn : l.length = n at *
  have HR := hide hR
  have HN := hide hn
  have HA := hide hall
  clear hR hn hall h0
  go_enter Tryd.func23, Tryd.ntmps23
  go_wp2
  go_loopw [7, 9, 12] (fun p _ i wr => ∃ k : Nat, k ≤ n ∧ i = .int .i64 k ∧ p = .int .i64 (due * refPart late (l.take k) 0 / 100) ∧ Nx w wr) (fun _ _ i _ => n - (intOf i).toNat)
  case atStart => exact ⟨0, Nat.zero_le _, rfl, by simp [refPart], Nx.refl _⟩
  case round =>
    obtain ⟨k, hk, rfl, rfl, hbw⟩ := hrel
    by_cases hlt : k < n
    · have hlt' : k < l.length := by have := HN.out; omega
      have HP := hide (refPart_take late l k hlt')
      generalize refPart late (l.take k) 0 = P at *
      obtain ⟨b, off, rfl, _, hb, hbr, hc⟩ := HR.out.open_ hbw (by omega)
      have c0 : wr.cell? ⟨b, off + k * 2, none⟩ = some (.int .i64 l[k].num) := hc k hlt' 0 _ rfl
      have c1 : wr.cell? ⟨b, off + k * 2 + 1, none⟩ = some (.int .i64 l[k].den) := hc k hlt' 1 _ rfl
      clear hc
      have hdn := HA.out l[k] (List.getElem_mem hlt')
      have hb0 : 0 ≤ due * l[k].den := Int.mul_nonneg hdb.1 hdn.1
      have hb1 : due * l[k].den ≤ 100000000000 := by
        have := Int.mul_le_mul hdb.2 hdn.2 hdn.1 (by omega)
        omega
      by_cases hlate : l[k].num ≤ late
      · go_wp2
        go_roundw
        case rel => exact ⟨k + 1, by omega, by go_num, by rw [HP.out, if_pos hlate], hbw.alloc _⟩
        case measure => simp [intOf]; omega
      · go_wp2
        go_roundw
        case rel => exact ⟨k + 1, by omega, by go_num, by rw [HP.out, if_neg hlate], hbw.alloc _⟩
        case measure => simp [intOf]; omega
    · have HE := hide (show refPart late l 0 = refPart late (l.take k) 0 by rw [List.take_of_length_le (by have := HN.out; omega)])
      generalize refPart late (l.take k) 0 = P at *
      go_wp2
      go_ret
      exact ⟨ret_int (by unfold refI; rw [HE.out]), hbw⟩
end Go.Proofs.YtjhmgkoghapocaaDoor
