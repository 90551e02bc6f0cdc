/- The stable sort of what is left, of fewer than 20; products and quotients of 64 bits. -/
import Derived.Test.YtfnbmcinbmbehaaGreatDoorQG5
import Derived.Test.YtfnbmcinbmbehaaGreatDoorQG0
import Derived.Test.YtfnbmcinbmbehaaGreatDoorQShelfS
namespace Go.Proofs.YtfnbmcinbmbehaaGreatDoor
open Go.RowKit Go.Sort Go.Proofs Go.Shelf

theorem w_isNaNU (a : Int) (w : World) : Calls Tryz.prog 67 #[.int .u64 a] w fun e w' => e = .returned (.bool false) ∧ w = w' := by
  go_enter Tryz.func67, Tryz.ntmps67
  go_wp2
  go_ret
  exact ⟨rfl, rfl⟩
theorem w_CompareU (a b : Int) (w : World) : Calls Tryz.prog 44 #[.int .u64 a, .int .u64 b] w fun e w' => e = .returned (.int .i64 (cmpI a b)) ∧ w = w' := by
  by_cases h1 : a < b
  · go_enter Tryz.func44, Tryz.ntmps44
    go_wp2_with (go_at_call 67; refine (w_isNaNU _ _).mono ?_; rintro e w' ⟨rfl, rfl⟩)
    go_ret
    exact ⟨ret_int (by unfold cmpI; simp [h1]), rfl⟩
  · by_cases h2 : b < a
    · go_enter Tryz.func44, Tryz.ntmps44
      go_wp2_with (go_at_call 67; refine (w_isNaNU _ _).mono ?_; rintro e w' ⟨rfl, rfl⟩)
      go_ret
      exact ⟨ret_int (by unfold cmpI; simp [h1, h2]), rfl⟩
    · go_enter Tryz.func44, Tryz.ntmps44
      go_wp2_with (go_at_call 67; refine (w_isNaNU _ _).mono ?_; rintro e w' ⟨rfl, rfl⟩)
      go_ret
      exact ⟨ret_int (by unfold cmpI; rw [if_neg (by omega), if_neg (by omega)]), rfl⟩

/-- A number with what is left of it. -/
def encRest (p : Nat × Int) : List Value := [.int .i64 (p.1 : Int), .int .u64 p.2]
theorem encRest_len (p : Nat × Int) : (encRest p).length = 2 := rfl
theorem encRest_one (p : Nat × Int) : ∀ v ∈ encRest p, v.oneCell' = true := by
  intro v hv; simp [encRest] at hv; rcases hv with rfl | rfl <;> rfl
theorem w_cmpRest (x y : Nat × Int) (w : World) : Calls Tryz.prog 43 #[.agg (encRest x).toArray, .agg (encRest y).toArray] w fun e w' => e = .returned (.int .i64 (cmpI y.2 x.2)) ∧ Lays w w' := by
  unfold encRest
  go_enter Tryz.func43, Tryz.ntmps43
  go_wp2_with (go_at_call 44; refine (w_CompareU _ _ _).mono ?_; rintro e w' ⟨rfl, rfl⟩)
  go_ret
  exact ⟨rfl, ((Lays.refl _).alloc _).alloc _⟩
def restC (x y : Nat × Int) : Int := cmpI y.2 x.2
theorem restC_lt (x y : Nat × Int) : ltOf restC x y = true ↔ y.2 < x.2 := by unfold ltOf restC; rw [decide_eq_true_eq]; unfold cmpI; split <;> (try split) <;> omega
/-- Those ahead come first. -/
def Ahead (a b : Nat × Int) : Prop := b.2 < a.2 ∨ (a.2 = b.2 ∧ a.1 < b.1)
theorem rest_stable (d : Array (Nat × Int)) (hS : d.toList.Pairwise (fun a b => a.1 < b.1)) : (insertionSort (ltOf restC) d 0 d.size).toList.Perm d.toList ∧ (insertionSort (ltOf restC) d 0 d.size).toList.Pairwise Ahead :=
  ins_stable (ltOf restC) (R := Ahead) (S := fun a b => a.1 < b.1) (fun x y h => .inl ((restC_lt x y).1 h)) (fun x y h1 h2 => by
    have h3 : ¬ y.2 < x.2 := fun h => by rw [(restC_lt x y).2 h] at h2; cases h2
    unfold Ahead; omega) (fun x y z h1 h2 => by unfold Ahead at *; omega) d hS

set_option maxHeartbeats 1000000 in
theorem w_SortRests {w : World} {base b cap n : Nat} (xs : List (Nat × Int)) (hn : xs.length = n) (hsz : n < 20) (hS : xs.Pairwise (fun a b => a.1 < b.1)) (h : w.ownsRow base 87 2 (.slice (some ⟨b, 0, none⟩) n cap) n (xs.flatMap encRest)) :
    Calls Tryz.prog 42 #[.slice (some ⟨b, 0, none⟩) n cap, .func (.func 43) #[] #[]] w fun en w' => en = .returned (.tuple #[]) ∧
      ∃ ys : List (Nat × Int), ys.Perm xs ∧ ys.Pairwise Ahead ∧ w'.ownsRow base 87 2 (.slice (some ⟨b, 0, none⟩) n cap) n (ys.flatMap encRest) ∧ Gr b w w' := by
  have hlt := (h.lt b rfl)
  have e1 : xs.toArray.size = n := by simpa using hn
  have hH := holds_of_own encRest_len (by omega) hn h
  have hc : CmpLays Tryz.prog 43 #[] encRest 2 restC b 0 xs.toArray.size w := fun m os dk _ x y => by
    rw [Array.append_empty]
    exact w_cmpRest x y _
  have hs := AnyQ.insertionSortCmpFunc Tryz.insRest 2 Tryz.isAgg87 Tryz.sizeOf87 encRest encRest_len encRest_one restC 43 #[] b 0 cap 0 xs.toArray.size xs.toArray w (enters_of Tryz.func43 (by kernel_rfl) rfl) hc hH hlt.2 (Nat.zero_le _) (Nat.le_refl _) (by omega)
  change Calls Tryz.prog 91 _ _ _ at hs
  rw [e1] at hs
  have HS := hide (hs.mono fun en w' ⟨he, m, os, hw⟩ => (show en = Ending.returned (.tuple #[]) ∧ ∃ ys : List (Nat × Int), ys.Perm xs ∧ ys.Pairwise Ahead ∧ w'.ownsRow base 87 2 (.slice (some ⟨b, 0, none⟩) n cap) n (ys.flatMap encRest) ∧ Gr b w w' from by
    have hst := rest_stable xs.toArray (by simpa using hS)
    rw [e1] at hst
    refine ⟨he, (insertionSort (ltOf restC) xs.toArray 0 n).toList, by simpa using hst.1, hst.2, ?_⟩
    have := own_of_sorted encRest_len (by omega) h (insertionSort (ltOf restC) xs.toArray 0 n).toList (by rw [hst.1.length_eq]; simpa using hn) m os
    rw [hw]
    simpa using this))
  clear hs hc hH h hlt e1 hn hS
  have HT := hide (show Calls Tryz.prog 66 #[.slice (some ⟨b, 0, none⟩) n cap, .int .i64 n, .func (.func 43) #[] #[]] w fun en w' => en = .returned (.tuple #[]) ∧
      ∃ ys : List (Nat × Int), ys.Perm xs ∧ ys.Pairwise Ahead ∧ w'.ownsRow base 87 2 (.slice (some ⟨b, 0, none⟩) n cap) n (ys.flatMap encRest) ∧ Gr b w w' from by
    have t1 : decide ((20 : Int) ≤ (n : Int)) = false := decide_eq_false (by omega)
    have t2 : decide ((20 : Int) < (n : Int)) = false := decide_eq_false (by omega)
    go_enter Tryz.func66, Tryz.ntmps66
    go_wp2_with fail
    refine wp_loop_rounds 1 ?_
    rw [rounds_succ]
    go_wp2_with (go_at_call 91; refine (HS.out).mono ?_; rintro e w1 ⟨rfl, hw1⟩)
    refine wp_loop_rounds 1 ?_
    rw [rounds_succ]
    go_wp2_with fail
    go_end0
    exact ⟨rfl, hw1⟩)
  go_enter Tryz.func42, Tryz.ntmps42
  go_wp2_with (go_at_call 66; refine (HT.out).mono ?_; rintro e w1 ⟨rfl, hw1⟩)
  go_end0
  exact ⟨rfl, hw1⟩
end Go.Proofs.YtfnbmcinbmbehaaGreatDoor
/- Products and quotients of 64 bits, whose upper half is 0. -/
namespace Go.Proofs.YtfnbmcinbmbehaaGreatDoor
open Go.RowKit Go.Proofs Go.Shelf

theorem w_Mul64 (x y z : Nat) (w : World) (hx : x ≤ 4294967296) (hy : y ≤ 2147483648) (hz : x * y = z) :
    Calls Tryz.prog 40 #[.int .u64 (x : Int), .int .u64 (y : Int)] w fun e w' => e = .returned (.tuple #[.int .u64 0, .int .u64 (z : Int)]) ∧ w = w' := by
  subst hz
  have hb : x * y ≤ 4294967296 * 2147483648 := Nat.mul_le_mul hx hy
  have hcon := Any.bits_Mul64 Tryz.mul64 x y (by omega) (by omega) w
  change Calls Tryz.prog 40 _ _ _ at hcon
  refine hcon.mono ?_
  rintro e w' ⟨rfl, rfl⟩
  have e1 : x * y / 18446744073709551616 = 0 := Nat.div_eq_of_lt (by omega)
  have e2 : x * y % 18446744073709551616 = x * y := Nat.mod_eq_of_lt (by omega)
  rw [e1, e2]
  exact ⟨rfl, rfl⟩
set_option maxRecDepth 100000 in
theorem w_Div64 (z y q r : Nat) (w : World) (hz : z ≤ 9223372036854775808) (hy : 0 < y) (hy2 : y ≤ 9223372036854775807) (hq : z / y = q) (hr : z % y = r) :
    Calls Tryz.prog 41 #[.int .u64 0, .int .u64 (z : Int), .int .u64 (y : Int)] w fun e w' => e = .returned (.tuple #[.int .u64 (q : Int), .int .u64 (r : Int)]) ∧ ∃ m, w' = w.drewN m := by
  subst hq hr
  have t0 : ((y : Int) == 0) = false := by simp; omega
  have t1 : decide ((y : Int) ≤ 0) = false := decide_eq_false (by omega)
  have hd : z / y ≤ z := Nat.div_le_self z y
  have hm : z % y < y := Nat.mod_lt _ hy
  have d1 : (z : Int).tdiv (y : Int) = ((z / y : Nat) : Int) := by rw [Int.tdiv_eq_ediv_of_nonneg (by omega)]; rfl
  have d2 : (z : Int).tmod (y : Int) = ((z % y : Nat) : Int) := by rw [Int.tmod_eq_emod_of_nonneg (by omega)]; rfl
  generalize z / y = q at *
  generalize z % y = r at *
  have d3 : IntKind.u64.wrap ((q : Nat) : Int) = ((q : Nat) : Int) := by rw [IntKind.wrap_u64]; omega
  have d4 : IntKind.u64.wrap ((r : Nat) : Int) = ((r : Nat) : Int) := by rw [IntKind.wrap_u64]; omega
  go_enter Tryz.func41, Tryz.ntmps41
  go_wp2_with fail
  go_quiet (fail)
  go_wp2_with fail
  go_ret2
  exact ⟨rfl, _, rfl⟩
end Go.Proofs.YtfnbmcinbmbehaaGreatDoor
