/- What is wrong with knots. -/
import Derived.Test.YthlhomcgjgfdhaaGreatDoorQG32
namespace Go.Proofs.YthlhomcgjgfdhaaGreatDoor
open Go.RowKit

set_option maxRecDepth 100000 in
set_option maxHeartbeats 2000000 in
theorem w_knotsFaultR (lo : Nat) (A : Option Addr) (c : Nat) (l : List Knot) (w : World) (hR : Rd w lo A 2 encKnot l) (hl : l.length ≤ 65536) :
    Calls Tryz.prog 156 #[.slice A l.length c] w fun e w' => e = .returned (.int .i64 (knotsF l)) ∧ Nx w w' := by
  have HA := hide (fun i W h1 h2 => w_After lo A c l i W h1 hl h2)
  generalize hn : l.length = n at *
  have HR := hide hR
  have HN := hide hn
  clear hR hn
  by_cases h0 : n = 0
  · have t0 : ((n : Int) == 0) = true := by simpa using h0
    have H0 := hide h0
    clear h0
    go_enter Tryz.func156, Tryz.ntmps156
    go_wp2
    go_ret
    exact ⟨ret_int (by unfold knotsF; rw [if_pos (by rw [HN.out]; exact H0.out)]), Nx.refl _⟩
  have t0 : ((n : Int) == 0) = false := by simpa using h0
  have h0' : 0 < n := by omega
  by_cases hbig : 48 < n
  · go_enter Tryz.func156, Tryz.ntmps156
    go_wp2
    go_ret
    exact ⟨ret_int (by unfold knotsF; rw [if_neg (by rw [HN.out]; exact h0), if_pos (by rw [HN.out]; exact hbig)]), Nx.refl _⟩
  · have HF := hide (show knotsF l = if chk knotF none l = 0 then fallF l l.length else chk knotF none l by unfold knotsF; rw [if_neg (by rw [HN.out]; exact h0), if_neg (by rw [HN.out]; exact hbig)])
    clear h0
    go_enter Tryz.func156, Tryz.ntmps156
    go_wp2
    go_loopw [2, 3, 4, 18] (fun _ _ _ i wr => ∃ k : Nat, k ≤ n ∧ i = .int .i64 k ∧ Nx w wr ∧ chk knotF none l = chk knotF (prevOf l k) (l.drop k) ∧ (∀ j, j < k → (0 ≤ (l.getD j default).at_ ∧ (l.getD j default).at_ ≤ 86399999) ∧ (1 ≤ (l.getD j default).time ∧ (l.getD j default).time ≤ 3600000))) (fun _ _ _ i _ => n - (intOf i).toNat)
    case atStart => exact ⟨0, Nat.zero_le _, rfl, Nx.refl _, rfl, fun j hj => by omega⟩
    case round =>
      obtain ⟨k, hk, rfl, hbw, hq, hbd⟩ := hrel
      have HQ := hide hq
      have HBD := hide hbd
      clear hq hbd
      by_cases hlt : k < n
      · have hlt' : k < l.length := by have := HN.out; omega
        obtain ⟨b, off, rfl, _, hb, hbr, hc⟩ := HR.out.open_ hbw (by omega)
        have c0 : wr.cell? ⟨b, off + k * 2, none⟩ = some (.int .i64 l[k].at_) := hc k hlt' 0 _ rfl
        have c1 : wr.cell? ⟨b, off + k * 2 + 1, none⟩ = some (.int .i64 l[k].time) := hc k hlt' 1 _ rfl
        have HC := hide hc
        clear hc
        have HD := hide (chk_drop knotF l k hlt')
        have HE := hide (knot_at hlt')
        cases ho1 : outB l[k].at_ 0 86399999
        · cases ho2 : outB l[k].time 1 3600000
          · have hb1 := outB_false.1 ho1
            have hb2 := outB_false.1 ho2
            have HX := hide (And.intro hb1 hb2)
            by_cases hk0 : 0 < k
            · have c4 : wr.cell? ⟨b, off + (k - 1) * 2, none⟩ = some (.int .i64 (l[k - 1]'(by omega)).at_) := HC.out (k - 1) (by omega) 0 _ rfl
              have HV := hide (show knotF (prevOf l k) l[k] = if l[k].at_ ≤ (l[k - 1]'(by omega)).at_ then 7 else 0 by rw [prevOf_pos l k hk0 (by omega)]; unfold knotF dayMs; rw [show (86400000 : Int) - 1 = 86399999 from rfl, ho1, ho2]; rfl)
              generalize (l[k - 1]'(by omega)).at_ = p0 at *
              have q0 : decide ((0 : Int) < (k : Int)) = true := by simpa using hk0
              have q00 : ((k : Int) == 0) = false := by simp; omega
              have q1 : IntKind.i64.wrap ((k : Int) - 1) = (k : Int) - 1 := IntWalk.i64_in _ (by omega)
              have q2 : (1 : Int) ≤ (k : Int) := by omega
              have q3 : ((k : Int) - 1).toNat = k - 1 := by omega
              have q4 : (k : Int) - 1 < (n : Int) := by omega
              by_cases hle : l[k].at_ ≤ p0
              · have t1 : decide (l[k].at_ ≤ p0) = true := by simpa using hle
                have HLE := hide hle
                clear hle
                go_wp2_with (go_at_call 49; refine (w_Out _ _ _ _).mono ?_; rintro e w' ⟨rfl, rfl⟩)
                go_quiet (fail)
                go_wp2
                go_ret
                exact ⟨ret_int (by rw [HF.out, HQ.out, HD.out, HV.out, if_pos HLE.out]; rfl), (hbw.alloc _).drewN _⟩
              · have t1 : decide (l[k].at_ ≤ p0) = false := by simpa using hle
                have HLE := hide hle
                clear hle
                go_wp2_with (go_at_call 49; refine (w_Out _ _ _ _).mono ?_; rintro e w' ⟨rfl, rfl⟩)
                go_quiet (fail)
                go_wp2
                go_roundw
                case rel => exact ⟨k + 1, by omega, by go_num, (hbw.alloc _).drewN _, by rw [HQ.out, HD.out, HV.out, if_neg (Int.not_le.2 HLE.out), if_pos rfl], fun j hj => by
                  rcases Nat.lt_or_ge j k with h1 | h1
                  · exact HBD.out j h1
                  · have : j = k := by omega
                    subst this; rw [HE.out]; exact HX.out⟩
                case measure => simp [intOf]; omega
            · have hk1 : k = 0 := by omega
              have HV := hide (show knotF (prevOf l k) l[k] = if l[k].at_ = 0 then 0 else 7 by subst hk1; rw [prevOf_zero]; unfold knotF dayMs; rw [show (86400000 : Int) - 1 = 86399999 from rfl, ho1, ho2]; rfl)
              clear hk1
              have q0 : decide ((0 : Int) < (k : Int)) = false := by simpa using hk0
              by_cases hz : l[k].at_ = 0
              · have t1 : (l[k].at_ != 0) = false := by simpa using hz
                have HZ := hide hz
                clear hz
                go_wp2_with (go_at_call 49; refine (w_Out _ _ _ _).mono ?_; rintro e w' ⟨rfl, rfl⟩)
                have q00 : ((k : Int) == 0) = true := by simp; omega
                go_quiet (fail)
                clear q00
                go_wp2
                go_roundw
                case rel => exact ⟨k + 1, by omega, by go_num, (hbw.alloc _).drewN _, by rw [HQ.out, HD.out, HV.out, if_pos HZ.out, if_pos rfl], fun j hj => by
                  have : j = k := by omega
                  subst this; rw [HE.out]; exact HX.out⟩
                case measure => simp [intOf]; omega
              · have t1 : (l[k].at_ != 0) = true := by simpa using hz
                have HZ := hide hz
                clear hz
                go_wp2_with (go_at_call 49; refine (w_Out _ _ _ _).mono ?_; rintro e w' ⟨rfl, rfl⟩)
                have q00 : ((k : Int) == 0) = true := by simp; omega
                go_quiet (fail)
                clear q00
                go_wp2
                go_ret
                exact ⟨ret_int (by rw [HF.out, HQ.out, HD.out, HV.out, if_neg HZ.out]; rfl), (hbw.alloc _).drewN _⟩
          · have HV := hide (show knotF (prevOf l k) l[k] = 1 by unfold knotF dayMs; rw [show (86400000 : Int) - 1 = 86399999 from rfl, ho1, ho2]; rfl)
            go_wp2_with (go_at_call 49; refine (w_Out _ _ _ _).mono ?_; rintro e w' ⟨rfl, rfl⟩)
            go_ret
            exact ⟨ret_int (by rw [HF.out, HQ.out, HD.out, HV.out]; rfl), hbw.alloc _⟩
        · have HV := hide (show knotF (prevOf l k) l[k] = 1 by unfold knotF dayMs; rw [show (86400000 : Int) - 1 = 86399999 from rfl, ho1]; rfl)
          go_wp2_with (go_at_call 49; refine (w_Out _ _ _ _).mono ?_; rintro e w' ⟨rfl, rfl⟩)
          go_ret
          exact ⟨ret_int (by rw [HF.out, HQ.out, HD.out, HV.out]; rfl), hbw.alloc _⟩
      · have hkn : k = n := by omega
        subst hkn
        have H0 := hide (show chk knotF none l = 0 by rw [HQ.out, List.drop_of_length_le (by have := HN.out; omega)]; rfl)
        clear HQ hlt
        go_wp2_with fail
        go_loopw [2, 5, 6, 7, 58] (fun _ _ _ _ i wr => ∃ j : Nat, j ≤ k ∧ i = .int .i64 j ∧ Nx w wr ∧ fallF l l.length = fallF l (l.length - j)) (fun _ _ _ _ i _ => k - (intOf i).toNat)
        case atStart => exact ⟨0, Nat.zero_le _, rfl, hbw, rfl⟩
        case round =>
          clear hbw
          obtain ⟨j, hj, rfl, hbw, hq⟩ := hrel
          have HQ := hide hq
          clear hq
          by_cases hlt : j < k
          · have hlt' : j < l.length := by have := HN.out; omega
            have HFA := hide (fallF_at l j hlt')
            obtain ⟨b, off, rfl, _, hb, hbr, hc⟩ := HR.out.open_ hbw (by omega)
            have c0 : wr.cell? ⟨b, off + j * 2, none⟩ = some (.int .i64 l[j].at_) := hc j hlt' 0 _ rfl
            have c1 : wr.cell? ⟨b, off + j * 2 + 1, none⟩ = some (.int .i64 l[j].time) := hc j hlt' 1 _ rfl
            clear hc
            have hx := HBD.out j hlt
            have hy : ((1 ≤ (afterK l j).at_ ∨ 0 ≤ (afterK l j).at_) ∧ (afterK l j).at_ ≤ 86400000) ∧ (1 ≤ (afterK l j).time ∧ (afterK l j).time ≤ 3600000) := by
              unfold afterK
              by_cases h1 : j + 1 < l.length
              · rw [if_pos h1]
                have := HBD.out (j + 1) (by have := HN.out; omega)
                omega
              · rw [if_neg h1]
                have := HBD.out 0 (by omega)
                simp only [dayMs]; omega
            have HB := hide (show fallsB l j = decide ((afterK l j).at_ - l[j].at_ < l[j].time - (afterK l j).time) by unfold fallsB; rw [knot_at hlt'])
            rw [knot_at hlt'] at hx
            have HCA := hide (fun W h1 => HA.out j W h1 hlt)
            generalize afterK l j = y at *
            generalize l[j] = x at *
            obtain ⟨⟨hx1, hx2⟩, hx3, hx4⟩ := hx
            obtain ⟨⟨hy1, hy2⟩, hy3, hy4⟩ := hy
            have hy1' : 0 ≤ y.at_ := by omega
            clear hy1
            by_cases hfall : y.at_ - x.at_ < x.time - y.time
            · have t1 : decide (y.at_ - x.at_ < x.time - y.time) = true := by simpa using hfall
              have HFL := hide hfall
              clear hfall
              go_wp2_with (go_at_call 161; refine (HCA.out _ (HR.out.nx (hbw.alloc _))).mono ?_; rintro e w2 ⟨rfl, hn2⟩; (have e0 : (w2.alloc (.cells #[.int .i64 y.at_, .int .i64 y.time] 122)).cell? ⟨wr.heap.size, 0, none⟩ = some (.int .i64 x.at_) := World.grownBy.cell ((hn2.alloc _).gr none) (show (wr.alloc (.cells #[.int .i64 x.at_, .int .i64 x.time] 122)).cell? ⟨wr.heap.size, 0, none⟩ = some (.int .i64 x.at_) by go_simp) (by simp)); (have e1 : (w2.alloc (.cells #[.int .i64 y.at_, .int .i64 y.time] 122)).cell? ⟨wr.heap.size, 1, none⟩ = some (.int .i64 x.time) := World.grownBy.cell ((hn2.alloc _).gr none) (show (wr.alloc (.cells #[.int .i64 x.at_, .int .i64 x.time] 122)).cell? ⟨wr.heap.size, 1, none⟩ = some (.int .i64 x.time) by go_simp) (by simp)); (have hz2 : wr.heap.size + 1 ≤ w2.heap.size := by have := hn2.sz; simpa using this))
              go_ret
              exact ⟨ret_int (by rw [HF.out, if_pos H0.out, HQ.out, HFA.out, HB.out, decide_eq_true HFL.out]; rfl), ((hbw.alloc _).trans hn2).alloc _⟩
            · have t1 : decide (y.at_ - x.at_ < x.time - y.time) = false := by simpa using hfall
              have HFL := hide hfall
              clear hfall
              go_wp2_with (go_at_call 161; refine (HCA.out _ (HR.out.nx (hbw.alloc _))).mono ?_; rintro e w2 ⟨rfl, hn2⟩; (have e0 : (w2.alloc (.cells #[.int .i64 y.at_, .int .i64 y.time] 122)).cell? ⟨wr.heap.size, 0, none⟩ = some (.int .i64 x.at_) := World.grownBy.cell ((hn2.alloc _).gr none) (show (wr.alloc (.cells #[.int .i64 x.at_, .int .i64 x.time] 122)).cell? ⟨wr.heap.size, 0, none⟩ = some (.int .i64 x.at_) by go_simp) (by simp)); (have e1 : (w2.alloc (.cells #[.int .i64 y.at_, .int .i64 y.time] 122)).cell? ⟨wr.heap.size, 1, none⟩ = some (.int .i64 x.time) := World.grownBy.cell ((hn2.alloc _).gr none) (show (wr.alloc (.cells #[.int .i64 x.at_, .int .i64 x.time] 122)).cell? ⟨wr.heap.size, 1, none⟩ = some (.int .i64 x.time) by go_simp) (by simp)); (have hz2 : wr.heap.size + 1 ≤ w2.heap.size := by have := hn2.sz; simpa using this))
              go_roundw
              case rel => exact ⟨j + 1, by omega, by go_num, ((hbw.alloc _).trans hn2).alloc _, by rw [HQ.out, HFA.out, HB.out, decide_eq_false (Int.not_lt.2 HFL.out)]; rfl⟩
              case measure => simp [intOf]; omega
          · go_wp2
            go_ret
            exact ⟨ret_int (by rw [HF.out, if_pos H0.out, HQ.out, show l.length - j = 0 by have := HN.out; omega]; rfl), hbw⟩
end Go.Proofs.YthlhomcgjgfdhaaGreatDoor
