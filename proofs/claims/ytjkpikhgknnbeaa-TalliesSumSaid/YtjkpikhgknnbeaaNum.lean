/- The walks of the smallest functions of numbers. -/
import Derived.Test.YtjkpikhgknnbeaaRows
import Derived.Test.YtjkpikhgknnbeaaLib
import Derived.Test.YtjkpikhgknnbeaaSpec
import Derived.Deep.QuietTactic
import Derived.BigQuiet
import Derived.Outline
namespace Go.Proofs.Ytjkpikhgknnbeaa
open Go.RowKit

theorem ret_bool {a b : Bool} (h : a = b) : Ending.returned (.bool a) = .returned (.bool b) := by rw [h]
theorem ret_int {k : IntKind} {a b : Int} (h : a = b) : Ending.returned (.int k a) = .returned (.int k b) := by rw [h]

theorem w_Out (n l h : Int) (w : World) : Calls Try.prog 52 #[.int .i64 n, .int .i64 l, .int .i64 h] w fun e w' => e = .returned (.bool (outB n l h)) ∧ w = w' := by
  by_cases h1 : n < l <;> by_cases h2 : h < n
  all_goals
    go_enter Try.func52, Try.ntmps52
    go_wp2
    go_ret
    exact ⟨ret_bool (by unfold outB; simp; omega), rfl⟩

theorem w_in (n l h : Int) (w : World) : Calls Try.prog 54 #[.int .i64 n, .int .i64 l, .int .i64 h] w fun e w' => e = .returned (.bool (inB n l h)) ∧ w = w' := by
  by_cases h1 : l ≤ n <;> by_cases h2 : n ≤ h
  all_goals
    go_enter Try.func54, Try.ntmps54
    go_wp2
    go_ret
    exact ⟨ret_bool (by unfold inB; simp; omega), rfl⟩

theorem w_Moment (n : Int) (w : World) : Calls Try.prog 56 #[.int .i64 n] w fun e w' => e = .returned (.bool (momB n)) ∧ w = w' := by
  have H := hide (show outB n 0 345686399999 = outB n 0 lastMo from rfl)
  go_enter Try.func56, Try.ntmps56
  go_wp2_with (go_at_call 52; rw [show (345686399999 : Int) = lastMo from rfl]; refine (w_Out _ _ _ _).mono ?_; rintro e w' ⟨rfl, rfl⟩)
  go_ret
  exact ⟨ret_bool (by unfold momB; rfl), rfl⟩

theorem w_isPoint (x y : Int) (w : World) : Calls Try.prog 51 #[.int .i64 x, .int .i64 y] w fun e w' => e = .returned (.bool (isPtB x y)) ∧ w = w' := by
  go_enter Try.func51, Try.ntmps51
  cases h1 : outB x (-10000) 10000 <;> cases h2 : outB y (-10000) 10000
  all_goals
    go_wp2_with (go_at_call 52; refine (w_Out _ _ _ _).mono ?_; rintro e w' ⟨rfl, rfl⟩)
    go_ret
    exact ⟨ret_bool (by unfold isPtB; simp [h1, h2]), rfl⟩

theorem w_PointFault (x y : Int) (w : World) : Calls Try.prog 12 #[.int .i64 x, .int .i64 y] w fun e w' => e = .returned (.int .i64 (ptF x y)) ∧ w = w' := by
  have e1 := inB_out x (-10000) 10000
  have e2 := inB_out y (-10000) 10000
  go_enter Try.func12, Try.ntmps12
  cases h1 : outB x (-10000) 10000 <;> cases h2 : outB y (-10000) 10000
  all_goals
    rw [h1] at e1; rw [h2] at e2
    go_wp2_with (go_at_call 54; refine (w_in _ _ _ _).mono ?_; rintro e w' ⟨rfl, rfl⟩)
    go_ret
    exact ⟨ret_int (by unfold ptF isPtB; simp [h1, h2, argF]), rfl⟩

theorem w_SizeFault (x : Int) (w : World) : Calls Try.prog 13 #[.int .i64 x] w fun e w' => e = .returned (.int .i64 (sizeF x)) ∧ w = w' := by
  have e1 := inB_out x 1 10000
  go_enter Try.func13, Try.ntmps13
  cases h1 : outB x 1 10000
  all_goals
    rw [h1] at e1
    go_wp2_with (go_at_call 54; refine (w_in _ _ _ _).mono ?_; rintro e w' ⟨rfl, rfl⟩)
    go_ret
    exact ⟨ret_int (by unfold sizeF; simp [h1, argF]), rfl⟩

theorem w_ZoneFault (x : Int) (w : World) : Calls Try.prog 17 #[.int .i64 x] w fun e w' => e = .returned (.int .i64 (zoneF x)) ∧ w = w' := by
  have e1 := inB_out x (-1440) 1440
  go_enter Try.func17, Try.ntmps17
  cases h1 : outB x (-1440) 1440
  all_goals
    rw [h1] at e1
    go_wp2_with (go_at_call 54; refine (w_in _ _ _ _).mono ?_; rintro e w' ⟨rfl, rfl⟩)
    go_ret
    exact ⟨ret_int (by unfold zoneF; simp [h1, argF]), rfl⟩

theorem w_MomentFault (x : Int) (w : World) : Calls Try.prog 16 #[.int .i64 x] w fun e w' => e = .returned (.int .i64 (momF x)) ∧ w = w' := by
  have e1 := inB_out x 0 lastMo
  go_enter Try.func16, Try.ntmps16
  cases h1 : outB x 0 lastMo
  all_goals
    rw [h1] at e1
    go_wp2_with (go_at_call 54; rw [show (345686399999 : Int) = lastMo from rfl]; refine (w_in _ _ _ _).mono ?_; rintro e w' ⟨rfl, rfl⟩)
    go_ret
    exact ⟨ret_int (by unfold momF momB; simp [h1, argF]), rfl⟩

theorem w_Down (a b : Int) (w : World) (hb : 1 ≤ b ∧ b ≤ 4294967296) (ha : -4611686018427387904 ≤ a ∧ a ≤ 4611686018427387904) :
    Calls Try.prog 53 #[.int .i64 a, .int .i64 b] w fun e w' => e = .returned (.int .i64 (a / b)) ∧ w = w' := by
  have q1 := tdiv_bd a b hb.1
  have q2 : -4611686018427387904 ≤ a.tdiv b ∧ a.tdiv b ≤ 4611686018427387904 := by split at q1 <;> omega
  clear q1
  have b1 : a.tmod b < b := Int.tmod_lt_of_pos a (by omega)
  have b2 : -b < a.tmod b := by have := Int.lt_tmod_of_pos a (b := b) (by omega); omega
  by_cases h : a.tmod b < 0
  · go_enter Try.func53, Try.ntmps53
    go_wp2
    go_ret
    exact ⟨ret_int (floor_neg a b hb.1 h), rfl⟩
  · go_enter Try.func53, Try.ntmps53
    go_wp2
    go_ret
    exact ⟨ret_int (floor_pos a b hb.1 (by omega)), rfl⟩

theorem w_floor (a b : Int) (w : World) (hb : 1 ≤ b ∧ b ≤ 4294967296) (ha : -4611686018427387904 ≤ a ∧ a ≤ 4611686018427387904) :
    Calls Try.prog 55 #[.int .i64 a, .int .i64 b] w fun e w' => e = .returned (.int .i64 (a / b)) ∧ w = w' := by
  have q1 := tdiv_bd a b hb.1
  have q2 : -4611686018427387904 ≤ a.tdiv b ∧ a.tdiv b ≤ 4611686018427387904 := by split at q1 <;> omega
  clear q1
  have b1 : a.tmod b < b := Int.tmod_lt_of_pos a (by omega)
  have b2 : -b < a.tmod b := by have := Int.lt_tmod_of_pos a (b := b) (by omega); omega
  by_cases h : a.tmod b < 0
  · go_enter Try.func55, Try.ntmps55
    go_wp2
    go_ret
    exact ⟨ret_int (floor_neg a b hb.1 h), rfl⟩
  · go_enter Try.func55, Try.ntmps55
    go_wp2
    go_ret
    exact ⟨ret_int (floor_pos a b hb.1 (by omega)), rfl⟩

theorem w_isNaN (a : Int) (w : World) : Calls Try.prog 95 #[.int .i64 a] w fun e w' => e = .returned (.bool false) ∧ w = w' := by
  go_enter Try.func95, Try.ntmps95
  go_wp2
  go_ret
  exact ⟨rfl, rfl⟩

theorem w_Compare (a b : Int) (w : World) : Calls Try.prog 74 #[.int .i64 a, .int .i64 b] w fun e w' => e = .returned (.int .i64 (cmpI a b)) ∧ w = w' := by
  by_cases h1 : a < b
  · go_enter Try.func74, Try.ntmps74
    go_wp2_with (go_at_call 95; refine (w_isNaN _ _).mono ?_; rintro e w' ⟨rfl, rfl⟩)
    go_ret
    exact ⟨ret_int (by unfold cmpI; simp [h1]), rfl⟩
  · by_cases h2 : b < a
    · go_enter Try.func74, Try.ntmps74
      go_wp2_with (go_at_call 95; refine (w_isNaN _ _).mono ?_; rintro e w' ⟨rfl, rfl⟩)
      go_ret
      exact ⟨ret_int (by unfold cmpI; simp [h1, h2]), rfl⟩
    · go_enter Try.func74, Try.ntmps74
      go_wp2_with (go_at_call 95; refine (w_isNaN _ _).mono ?_; rintro e w' ⟨rfl, rfl⟩)
      go_ret
      exact ⟨ret_int (by unfold cmpI; rw [if_neg (by omega), if_neg (by omega)]), rfl⟩

theorem w_inWeek (n : Int) (w : World) (hn : -4611686018427387904 ≤ n ∧ n ≤ 4611686018427387904) : Calls Try.prog 86 #[.int .i64 n] w fun e w' => e = .returned (.int .i64 (n % 604800000)) ∧ w = w' := by
  have q := Int.mul_ediv_add_emod n 604800000
  have q1 := Int.emod_nonneg n (b := 604800000) (by omega)
  have q2 := Int.emod_lt_of_pos n (b := 604800000) (by omega)
  go_enter Try.func86, Try.ntmps86
  go_wp2_with (go_at_call 53; refine (w_Down _ _ _ (by omega) (by omega)).mono ?_; rintro e w' ⟨rfl, rfl⟩)
  go_ret
  exact ⟨ret_int (by omega), rfl⟩

theorem w_hourOf (at_ zone : Int) (w : World) (hn : 0 ≤ at_ ∧ at_ ≤ 345686399999) (hz : -1440 ≤ zone ∧ zone ≤ 1440) :
    Calls Try.prog 57 #[.int .i64 at_, .int .i64 zone] w fun e w' => e = .returned (.int .i64 (hourI at_ zone)) ∧ w = w' := by
  have q1 := Int.emod_nonneg (at_ + zone * 60000) (b := 604800000) (by omega)
  have q2 := Int.emod_lt_of_pos (at_ + zone * 60000) (b := 604800000) (by omega)
  go_enter Try.func57, Try.ntmps57
  go_wp2_with (go_at_call 86; refine (w_inWeek _ _ (by omega)).mono ?_; rintro e w' ⟨rfl, rfl⟩)
  go_ret
  exact ⟨ret_int (by unfold hourI; omega), rfl⟩

theorem w_HourFor (at_ zone : Int) (w : World) (hn : 0 ≤ at_ ∧ at_ ≤ 345686399999) (hz : -1440 ≤ zone ∧ zone ≤ 1440) :
    Calls Try.prog 18 #[.int .i64 at_, .int .i64 zone] w fun e w' => e = .returned (.int .i64 (hourI at_ zone)) ∧ w = w' := by
  go_enter Try.func18, Try.ntmps18
  go_wp2_with (go_at_call 55; refine (w_floor _ _ _ (by omega) (by omega)).mono ?_; rintro e w' ⟨rfl, rfl⟩)
  go_ret
  exact ⟨ret_int (by unfold hourI; omega), rfl⟩

theorem w_HourOf (at_ zone : Int) (w : World) :
    Calls Try.prog 15 #[.int .i64 at_, .int .i64 zone] w fun e w' => e = .returned (.tuple #[.int .i64 (if momB at_ && !outB zone (-1440) 1440 then hourI at_ zone else 0), .int .i64 (argF (momB at_ && !outB zone (-1440) 1440))]) ∧ w = w' := by
  cases h1 : momB at_
  · go_enter Try.func15, Try.ntmps15
    go_wp2_with (go_at_call 56; refine (w_Moment _ _).mono ?_; rintro e w' ⟨rfl, rfl⟩)
    go_ret2
    exact ⟨by simp [argF], rfl⟩
  · have g1 := momB_true.1 h1
    cases h2 : outB zone (-1440) 1440
    · have g2 := outB_false.1 h2
      go_enter Try.func15, Try.ntmps15
      go_wp2_with (first | (go_at_call 56; refine (w_Moment _ _).mono ?_; rintro e w' ⟨rfl, rfl⟩) | (go_at_call 52; refine (w_Out _ _ _ _).mono ?_; rintro e w' ⟨rfl, rfl⟩) | (go_at_call 57; refine (w_hourOf _ _ _ g1 g2).mono ?_; rintro e w' ⟨rfl, rfl⟩))
      go_ret2
      exact ⟨by simp [argF], rfl⟩
    · go_enter Try.func15, Try.ntmps15
      go_wp2_with (first | (go_at_call 56; refine (w_Moment _ _).mono ?_; rintro e w' ⟨rfl, rfl⟩) | (go_at_call 52; refine (w_Out _ _ _ _).mono ?_; rintro e w' ⟨rfl, rfl⟩))
      go_ret2
      exact ⟨by simp [argF], rfl⟩
end Go.Proofs.Ytjkpikhgknnbeaa
