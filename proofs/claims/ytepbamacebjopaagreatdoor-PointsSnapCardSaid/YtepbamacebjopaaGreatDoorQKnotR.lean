/- What is wrong with knots: the reference. -/
import Derived.Test.YtepbamacebjopaaGreatDoorQG5
namespace Go.Proofs.YtepbamacebjopaaGreatDoor
open Go.RowKit

set_option maxRecDepth 100000 in
set_option maxHeartbeats 2000000 in
theorem w_knotsFaultQ (lo : Nat) (A : Option Addr) (c : Nat) (l : List Knot) (w : World) (hR : Rd w lo A 2 encKnot l) (hl : l.length ≤ 65536) :
    Calls Tryz.prog 50 #[.slice A l.length c] w fun e w' => e = .returned (.int .i64 (knotsF l)) ∧ Nx w w' := by
  generalize hn : l.length = n at *
  have HR := hide hR
  have HN := hide hn
  clear hR hn
  by_cases h0 : n = 0
  · have t0 : ((n : Int) == 0) = true := by simpa using h0
    have H0 := hide h0
    clear h0
    go_enter Tryz.func50, Tryz.ntmps50
    go_wp2
    go_ret
    exact ⟨ret_int (by unfold knotsF; rw [if_pos (by rw [HN.out]; exact H0.out)]), Nx.refl _⟩
  have t0 : ((n : Int) == 0) = false := by simpa using h0
  have h0' : 0 < n := by omega
  by_cases hbig : 48 < n
  · go_enter Tryz.func50, Tryz.ntmps50
    go_wp2
    go_ret
    exact ⟨ret_int (by unfold knotsF; rw [if_neg (by rw [HN.out]; exact h0), if_pos (by rw [HN.out]; exact hbig)]), Nx.refl _⟩
  · have HF := hide (show knotsF l = if chk knotF none l = 0 then fallF l l.length else chk knotF none l by unfold knotsF; rw [if_neg (by rw [HN.out]; exact h0), if_neg (by rw [HN.out]; exact hbig)])
    clear h0
    go_enter Tryz.func50, Tryz.ntmps50
    go_wp2
    go_loopw [2, 3, 4, 18] (fun _ _ _ i wr => ∃ k : Nat, k ≤ n ∧ i = .int .i64 k ∧ Nx w wr ∧ chk knotF none l = chk knotF (prevOf l k) (l.drop k) ∧ (∀ j, j < k → (0 ≤ (l.getD j default).at_ ∧ (l.getD j default).at_ ≤ 86399999) ∧ (1 ≤ (l.getD j default).time ∧ (l.getD j default).time ≤ 3600000))) (fun _ _ _ i _ => n - (intOf i).toNat)
    case atStart => exact ⟨0, Nat.zero_le _, rfl, Nx.refl _, rfl, fun j hj => by omega⟩
    case round =>
      obtain ⟨k, hk, rfl, hbw, hq, hbd⟩ := hrel
      have HQ := hide hq
      have HBD := hide hbd
      clear hq hbd
      by_cases hlt : k < n
      · have hlt' : k < l.length := by have := HN.out; omega
        obtain ⟨b, off, rfl, _, hb, hbr, hc⟩ := HR.out.open_ hbw (by omega)
        have c0 : wr.cell? ⟨b, off + k * 2, none⟩ = some (.int .i64 l[k].at_) := hc k hlt' 0 _ rfl
        have c1 : wr.cell? ⟨b, off + k * 2 + 1, none⟩ = some (.int .i64 l[k].time) := hc k hlt' 1 _ rfl
        have HC := hide hc
        clear hc
        have HD := hide (chk_drop knotF l k hlt')
        have HE := hide (knot_at hlt')
        cases ho1 : outB l[k].at_ 0 86399999
        · have f1 : inB l[k].at_ 0 86399999 = true := by rw [inB_out, ho1]; rfl
          cases ho2 : outB l[k].time 1 3600000
          · have f2 : inB l[k].time 1 3600000 = true := by rw [inB_out, ho2]; rfl
            have hb1 := outB_false.1 ho1
            have hb2 := outB_false.1 ho2
            have HX := hide (And.intro hb1 hb2)
            by_cases hk0 : 0 < k
            · have c4 : wr.cell? ⟨b, off + (k - 1) * 2, none⟩ = some (.int .i64 (l[k - 1]'(by omega)).at_) := HC.out (k - 1) (by omega) 0 _ rfl
              have HV := hide (show knotF (prevOf l k) l[k] = if l[k].at_ ≤ (l[k - 1]'(by omega)).at_ then 7 else 0 by rw [prevOf_pos l k hk0 (by omega)]; unfold knotF dayMs; rw [show (86400000 : Int) - 1 = 86399999 from rfl, ho1, ho2]; rfl)
              generalize (l[k - 1]'(by omega)).at_ = p0 at *
              have q0 : decide ((0 : Int) < (k : Int)) = true := by simpa using hk0
              have q00 : ((k : Int) == 0) = false := by simp; omega
              have q1 : IntKind.i64.wrap ((k : Int) - 1) = (k : Int) - 1 := IntWalk.i64_in _ (by omega)
              have q2 : (1 : Int) ≤ (k : Int) := by omega
              have q3 : ((k : Int) - 1).toNat = k - 1 := by omega
              have q4 : (k : Int) - 1 < (n : Int) := by omega
              by_cases hle : l[k].at_ ≤ p0
              · have t1 : decide (l[k].at_ ≤ p0) = true := by simpa using hle
                have HLE := hide hle
                clear hle
                go_wp2_with (go_at_call 48; refine (w_in _ _ _ _).mono ?_; rintro e w' ⟨rfl, rfl⟩)
                go_quiet (fail)
                go_wp2
                go_ret
                exact ⟨ret_int (by rw [HF.out, HQ.out, HD.out, HV.out, if_pos HLE.out]; rfl), (hbw.alloc _).drewN _⟩
              · have t1 : decide (l[k].at_ ≤ p0) = false := by simpa using hle
                have HLE := hide hle
                clear hle
                go_wp2_with (go_at_call 48; refine (w_in _ _ _ _).mono ?_; rintro e w' ⟨rfl, rfl⟩)
                go_quiet (fail)
                go_wp2
                go_roundw
                case rel => exact ⟨k + 1, by omega, by go_num, (hbw.alloc _).drewN _, by rw [HQ.out, HD.out, HV.out, if_neg (Int.not_le.2 HLE.out), if_pos rfl], fun j hj => by
                  rcases Nat.lt_or_ge j k with h1 | h1
                  · exact HBD.out j h1
                  · have : j = k := by omega
                    subst this; rw [HE.out]; exact HX.out⟩
                case measure => simp [intOf]; omega
            · have hk1 : k = 0 := by omega
              have HV := hide (show knotF (prevOf l k) l[k] = if l[k].at_ = 0 then 0 else 7 by subst hk1; rw [prevOf_zero]; unfold knotF dayMs; rw [show (86400000 : Int) - 1 = 86399999 from rfl, ho1, ho2]; rfl)
              clear hk1
              have q0 : decide ((0 : Int) < (k : Int)) = false := by simpa using hk0
              have q00 : ((k : Int) == 0) = true := by simp; omega
              by_cases hz : l[k].at_ = 0
              · have t1 : (l[k].at_ != 0) = false := by simpa using hz
                have HZ := hide hz
                clear hz
                go_wp2_with (go_at_call 48; refine (w_in _ _ _ _).mono ?_; rintro e w' ⟨rfl, rfl⟩)
                go_quiet (fail)
                go_wp2
                go_roundw
                case rel => exact ⟨k + 1, by omega, by go_num, (hbw.alloc _).drewN _, by rw [HQ.out, HD.out, HV.out, if_pos HZ.out, if_pos rfl], fun j hj => by
                  have : j = k := by omega
                  subst this; rw [HE.out]; exact HX.out⟩
                case measure => simp [intOf]; omega
              · have t1 : (l[k].at_ != 0) = true := by simpa using hz
                have HZ := hide hz
                clear hz
                go_wp2_with (go_at_call 48; refine (w_in _ _ _ _).mono ?_; rintro e w' ⟨rfl, rfl⟩)
                go_ret
                exact ⟨ret_int (by rw [HF.out, HQ.out, HD.out, HV.out, if_neg HZ.out]; rfl), hbw.alloc _⟩
          · have f2 : inB l[k].time 1 3600000 = false := by rw [inB_out, ho2]; rfl
            have HV := hide (show knotF (prevOf l k) l[k] = 1 by unfold knotF dayMs; rw [show (86400000 : Int) - 1 = 86399999 from rfl, ho1, ho2]; rfl)
            go_wp2_with (go_at_call 48; refine (w_in _ _ _ _).mono ?_; rintro e w' ⟨rfl, rfl⟩)
            go_ret
            exact ⟨ret_int (by rw [HF.out, HQ.out, HD.out, HV.out]; rfl), hbw.alloc _⟩
        · have f1 : inB l[k].at_ 0 86399999 = false := by rw [inB_out, ho1]; rfl
          have HV := hide (show knotF (prevOf l k) l[k] = 1 by unfold knotF dayMs; rw [show (86400000 : Int) - 1 = 86399999 from rfl, ho1]; rfl)
          go_wp2_with (go_at_call 48; refine (w_in _ _ _ _).mono ?_; rintro e w' ⟨rfl, rfl⟩)
          go_ret
          exact ⟨ret_int (by rw [HF.out, HQ.out, HD.out, HV.out]; rfl), hbw.alloc _⟩
      · have hkn : k = n := by omega
        subst hkn
        have H0 := hide (show chk knotF none l = 0 by rw [HQ.out, List.drop_of_length_le (by have := HN.out; omega)]; rfl)
        clear HQ hlt
        go_wp2_with fail
        go_loopw [2, 5, 6, 7, 58] (fun _ _ _ _ i wr => ∃ j : Nat, j ≤ k ∧ i = .int .i64 j ∧ Nx w wr ∧ fallF l l.length = fallF l (l.length - j)) (fun _ _ _ _ i _ => k - (intOf i).toNat)
        case atStart => exact ⟨0, Nat.zero_le _, rfl, hbw, rfl⟩
        case round =>
          clear hbw
          obtain ⟨j, hj, rfl, hbw, hq⟩ := hrel
          have HQ := hide hq
          clear hq
          by_cases hlt : j < k
          · have hlt' : j < l.length := by have := HN.out; omega
            have HFA := hide (fallF_at l j hlt')
            obtain ⟨b, off, rfl, _, hb, hbr, hc⟩ := HR.out.open_ hbw (by omega)
            have c0 : wr.cell? ⟨b, off + j * 2, none⟩ = some (.int .i64 l[j].at_) := hc j hlt' 0 _ rfl
            have c1 : wr.cell? ⟨b, off + j * 2 + 1, none⟩ = some (.int .i64 l[j].time) := hc j hlt' 1 _ rfl
            have cz : wr.cell? ⟨b, off + 1, none⟩ = some (.int .i64 (l[0]'(by omega)).time) := by have := hc 0 (by omega) 1 _ rfl; simpa using this
            have hx := HBD.out j hlt
            have hz := HBD.out 0 (by omega)
            rw [knot_at hlt'] at hx
            rw [knot_at (show 0 < l.length by omega)] at hz
            have HB := hide (show fallsB l j = decide ((afterK l j).at_ - l[j].at_ < l[j].time - (afterK l j).time) by unfold fallsB; rw [knot_at hlt'])
            obtain ⟨⟨hx1, hx2⟩, hx3, hx4⟩ := hx
            obtain ⟨⟨hz1, hz2⟩, hz3, hz4⟩ := hz
            have q1 : IntKind.i64.wrap ((j : Int) + 1) = ((j + 1 : Nat) : Int) := by rw [IntWalk.i64_in _ (by omega)]; rfl
            have q3 : ((j + 1 : Nat) : Int).toNat = j + 1 := by omega
            by_cases h1 : j + 1 < k
            · have hlt2 : j + 1 < l.length := by have := HN.out; omega
              have q2 : decide (((j + 1 : Nat) : Int) < (k : Int)) = true := decide_eq_true (by omega)
              have q4 : ((j + 1 : Nat) : Int) < (k : Int) := by omega
              have q5 : (0 : Int) ≤ ((j + 1 : Nat) : Int) := by omega
              have c2 : wr.cell? ⟨b, off + (j + 1) * 2, none⟩ = some (.int .i64 l[j + 1].at_) := hc (j + 1) hlt2 0 _ rfl
              have c3 : wr.cell? ⟨b, off + (j + 1) * 2 + 1, none⟩ = some (.int .i64 l[j + 1].time) := hc (j + 1) hlt2 1 _ rfl
              have HY := hide (show afterK l j = l[j + 1] by unfold afterK; rw [if_pos hlt2, knot_at hlt2])
              rw [HY.out] at HB
              have hy := HBD.out (j + 1) h1
              rw [knot_at hlt2] at hy
              obtain ⟨⟨hy1, hy2⟩, hy3, hy4⟩ := hy
              clear hc HY
              generalize l[j + 1] = y at *
              generalize l[j] = x at *
              generalize (l[0]'(by omega)).time = z at *
              by_cases hfall : y.at_ - x.at_ < x.time - y.time
              · have t1 : decide (y.at_ - x.at_ < x.time - y.time) = true := by simpa using hfall
                have HFL := hide hfall
                clear hfall
                go_wp2_with fail
                go_ret
                exact ⟨ret_int (by rw [HF.out, if_pos H0.out, HQ.out, HFA.out, HB.out, decide_eq_true HFL.out]; rfl), by repeat (first | exact hbw | refine Nx.alloc ?_ _ | refine Nx.setCell ?_ (by have := hbw.sz; simp; omega) _)⟩
              · have t1 : decide (y.at_ - x.at_ < x.time - y.time) = false := by simpa using hfall
                have HFL := hide hfall
                clear hfall
                go_wp2_with fail
                go_roundw
                case rel => exact ⟨j + 1, by omega, by go_num, (by repeat (first | exact hbw | refine Nx.alloc ?_ _ | refine Nx.setCell ?_ (by have := hbw.sz; simp; omega) _)), by rw [HQ.out, HFA.out, HB.out, decide_eq_false HFL.out]; rfl⟩
                case measure => simp [intOf]; omega
            · have q2 : decide (((j + 1 : Nat) : Int) < (k : Int)) = false := decide_eq_false (by omega)
              have HY := hide (show afterK l j = ⟨86400000, (l[0]'(by omega)).time⟩ by unfold afterK; rw [if_neg (by have := HN.out; omega), knot_at (by omega)]; rfl)
              rw [HY.out] at HB
              clear hc HY
              generalize l[j] = x at *
              generalize (l[0]'(by omega)).time = z at *
              by_cases hfall : 86400000 - x.at_ < x.time - z
              · have t1 : decide (86400000 - x.at_ < x.time - z) = true := by simpa using hfall
                have HFL := hide hfall
                clear hfall
                go_wp2_with fail
                go_ret
                exact ⟨ret_int (by rw [HF.out, if_pos H0.out, HQ.out, HFA.out, HB.out, decide_eq_true HFL.out]; rfl), by repeat (first | exact hbw | refine Nx.alloc ?_ _ | refine Nx.setCell ?_ (by have := hbw.sz; simp; omega) _)⟩
              · have t1 : decide (86400000 - x.at_ < x.time - z) = false := by simpa using hfall
                have HFL := hide hfall
                clear hfall
                go_wp2_with fail
                go_roundw
                case rel => exact ⟨j + 1, by omega, by go_num, (by repeat (first | exact hbw | refine Nx.alloc ?_ _ | refine Nx.setCell ?_ (by have := hbw.sz; simp; omega) _)), by rw [HQ.out, HFA.out, HB.out, decide_eq_false HFL.out]; rfl⟩
                case measure => simp [intOf]; omega
          · go_wp2
            go_ret
            exact ⟨ret_int (by rw [HF.out, if_pos H0.out, HQ.out, show l.length - j = 0 by have := HN.out; omega]; rfl), hbw⟩
end Go.Proofs.YtepbamacebjopaaGreatDoor
