/- The stable sort of what is left, of fewer than 20; products and quotients of 64 bits. -/
import Derived.Test.YtjhmgkoghapocaaDoorRowK
import Derived.Test.YtjhmgkoghapocaaDoorNumB
import Derived.Test.YtjhmgkoghapocaaDoorStab
import Derived.Test.YtjhmgkoghapocaaDoorShelfS
namespace Go.Proofs.YtjhmgkoghapocaaDoor
open Go.RowKit Go.Sort Go.Proofs Go.Shelf

theorem w_isNaNU (a : Int) (w : World) : Calls Tryd.prog 116 #[.int .u64 a] w fun e w' => e = .returned (.bool false) ∧ w = w' := by
  go_enter Tryd.func116, Tryd.ntmps116
  go_wp2
  go_ret
  exact ⟨rfl, rfl⟩
theorem w_CompareU (a b : Int) (w : World) : Calls Tryd.prog 96 #[.int .u64 a, .int .u64 b] w fun e w' => e = .returned (.int .i64 (cmpI a b)) ∧ w = w' := by
  by_cases h1 : a < b
  · go_enter Tryd.func96, Tryd.ntmps96
    go_wp2_with (go_at_call 116; refine (w_isNaNU _ _).mono ?_; rintro e w' ⟨rfl, rfl⟩)
    go_ret
    exact ⟨ret_int (by unfold cmpI; simp [h1]), rfl⟩
  · by_cases h2 : b < a
    · go_enter Tryd.func96, Tryd.ntmps96
      go_wp2_with (go_at_call 116; refine (w_isNaNU _ _).mono ?_; rintro e w' ⟨rfl, rfl⟩)
      go_ret
      exact ⟨ret_int (by unfold cmpI; simp [h1, h2]), rfl⟩
    · go_enter Tryd.func96, Tryd.ntmps96
      go_wp2_with (go_at_call 116; refine (w_isNaNU _ _).mono ?_; rintro e w' ⟨rfl, rfl⟩)
      go_ret
      exact ⟨ret_int (by unfold cmpI; rw [if_neg (by omega), if_neg (by omega)]), rfl⟩

/-- A number with what is left of it. -/
def encRest (p : Nat × Int) : List Value := [.int .i64 (p.1 : Int), .int .u64 p.2]
theorem encRest_len (p : Nat × Int) : (encRest p).length = 2 := rfl
theorem encRest_one (p : Nat × Int) : ∀ v ∈ encRest p, v.oneCell' = true := by
  intro v hv; simp [encRest] at hv; rcases hv with rfl | rfl <;> rfl
theorem w_cmpRest (x y : Nat × Int) (w : World) : Calls Tryd.prog 95 #[.agg (encRest x).toArray, .agg (encRest y).toArray] w fun e w' => e = .returned (.int .i64 (cmpI y.2 x.2)) ∧ Lays w w' := by
  unfold encRest
  go_enter Tryd.func95, Tryd.ntmps95
  go_wp2_with (go_at_call 96; refine (w_CompareU _ _ _).mono ?_; rintro e w' ⟨rfl, rfl⟩)
  go_ret
  exact ⟨rfl, ((Lays.refl _).alloc _).alloc _⟩
def restC (x y : Nat × Int) : Int := cmpI y.2 x.2
theorem restC_lt (x y : Nat × Int) : ltOf restC x y = true ↔ y.2 < x.2 := by unfold ltOf restC; rw [decide_eq_true_eq]; unfold cmpI; split <;> (try split) <;> omega
/-- Those ahead come first. -/
def Ahead (a b : Nat × Int) : Prop := b.2 < a.2 ∨ (a.2 = b.2 ∧ a.1 < b.1)
theorem rest_stable (d : Array (Nat × Int)) (hS : d.toList.Pairwise (fun a b => a.1 < b.1)) : (insertionSort (ltOf restC) d 0 d.size).toList.Perm d.toList ∧ (insertionSort (ltOf restC) d 0 d.size).toList.Pairwise Ahead :=
  ins_stable (ltOf restC) (R := Ahead) (S := fun a b => a.1 < b.1) (fun x y h => .inl ((restC_lt x y).1 h)) (fun x y h1 h2 => by
    have h3 : ¬ y.2 < x.2 := fun h => by rw [(restC_lt x y).2 h] at h2; cases h2
    unfold Ahead; omega) (fun x y z h1 h2 => by unfold Ahead at *; omega) d hS

set_option maxHeartbeats 1000000 in
theorem w_SortRests {w : World} {base b cap n : Nat} (xs : List (Nat × Int)) (hn : xs.length = n) (hsz : n < 20) (hS : xs.Pairwise (fun a b => a.1 < b.1)) (h : w.ownsRow base 121 2 (.slice (some ⟨b, 0, none⟩) n cap) n (xs.flatMap encRest)) :
    Calls Tryd.prog 94 #[.slice (some ⟨b, 0, none⟩) n cap, .func (.func 95) #[] #[]] w fun en w' => en = .returned (.tuple #[]) ∧
      ∃ ys : List (Nat × Int), ys.Perm xs ∧ ys.Pairwise Ahead ∧ w'.ownsRow base 121 2 (.slice (some ⟨b, 0, none⟩) n cap) n (ys.flatMap encRest) ∧ Gr b w w' := by
  have hlt := (h.lt b rfl)
  have e1 : xs.toArray.size = n := by simpa using hn
  have hH := holds_of_own encRest_len (by omega) hn h
  have hc : CmpLays Tryd.prog 95 #[] encRest 2 restC b 0 xs.toArray.size w := fun m os dk _ x y => by
    rw [Array.append_empty]
    exact w_cmpRest x y _
  have hs := AnyQ.insertionSortCmpFunc Tryd.insRest 2 Tryd.isAgg121 Tryd.sizeOf121 encRest encRest_len encRest_one restC 95 #[] b 0 cap 0 xs.toArray.size xs.toArray w (enters_of Tryd.func95 (by kernel_rfl) rfl) hc hH hlt.2 (Nat.zero_le _) (Nat.le_refl _) (by omega)
  change Calls Tryd.prog 129 _ _ _ at hs
  rw [e1] at hs
  have HS := hide (hs.mono fun en w' ⟨he, m, os, hw⟩ => (show en = Ending.returned (.tuple #[]) ∧ ∃ ys : List (Nat × Int), ys.Perm xs ∧ ys.Pairwise Ahead ∧ w'.ownsRow base 121 2 (.slice (some ⟨b, 0, none⟩) n cap) n (ys.flatMap encRest) ∧ Gr b w w' from by
    have hst := rest_stable xs.toArray (by simpa using hS)
    rw [e1] at hst
    refine ⟨he, (insertionSort (ltOf restC) xs.toArray 0 n).toList, by simpa using hst.1, hst.2, ?_⟩
    have := own_of_sorted encRest_len (by omega) h (insertionSort (ltOf restC) xs.toArray 0 n).toList (by rw [hst.1.length_eq]; simpa using hn) m os
    rw [hw]
    simpa using this))
  clear hs hc hH h hlt e1 hn hS
  have HT := hide (show Calls Tryd.prog 115 #[.slice (some ⟨b, 0, none⟩) n cap, .int .i64 n, .func (.func 95) #[] #[]] w fun en w' => en = .returned (.tuple #[]) ∧
      ∃ ys : List (Nat × Int), ys.Perm xs ∧ ys.Pairwise Ahead ∧ w'.ownsRow base 121 2 (.slice (some ⟨b, 0, none⟩) n cap) n (ys.flatMap encRest) ∧ Gr b w w' from by
    have t1 : decide ((20 : Int) ≤ (n : Int)) = false := decide_eq_false (by omega)
    have t2 : decide ((20 : Int) < (n : Int)) = false := decide_eq_false (by omega)
    go_enter Tryd.func115, Tryd.ntmps115
    go_wp2_with fail
    refine wp_loop_rounds 1 ?_
    rw [rounds_succ]
    go_wp2_with (go_at_call 129; refine (HS.out).mono ?_; rintro e w1 ⟨rfl, hw1⟩)
    refine wp_loop_rounds 1 ?_
    rw [rounds_succ]
    go_wp2_with fail
    go_end0
    exact ⟨rfl, hw1⟩)
  go_enter Tryd.func94, Tryd.ntmps94
  go_wp2_with (go_at_call 115; refine (HT.out).mono ?_; rintro e w1 ⟨rfl, hw1⟩)
  go_end0
  exact ⟨rfl, hw1⟩
end Go.Proofs.YtjhmgkoghapocaaDoor
