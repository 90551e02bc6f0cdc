/- base.Window and R.WindowFault. -/
import Derived.Test.YtemaiikgnogfhaaGreatDoorQG23
import Derived.Test.YtemaiikgnogfhaaGreatDoorQG1
namespace Go.Proofs.YtemaiikgnogfhaaGreatDoor
open Go.RowKit

theorem w_Win (f t : Int) (w : World) : Calls Tryz.prog 38 #[.agg #[.int .i64 f, .int .i64 t]] w fun e w' => e = .returned (.bool (winB f t)) ∧ Nx w w' := by
  cases h1 : outB f 0 t
  · go_enter Tryz.func38, Tryz.ntmps38
    go_wp2_with (go_at_call 40; refine (w_Out _ _ _ _).mono ?_; rintro e w' ⟨rfl, rfl⟩)
    go_ret
    exact ⟨ret_bool (by unfold winB; rw [h1]; rfl), (Nx.refl _).alloc _⟩
  · go_enter Tryz.func38, Tryz.ntmps38
    go_wp2_with (go_at_call 40; refine (w_Out _ _ _ _).mono ?_; rintro e w' ⟨rfl, rfl⟩)
    go_ret
    exact ⟨ret_bool (by unfold winB; rw [h1]; rfl), (Nx.refl _).alloc _⟩
theorem w_WinF (f t : Int) (w : World) : Calls Tryz.prog 32 #[.agg #[.int .i64 f, .int .i64 t]] w fun e w' => e = .returned (.int .i64 (winF f t)) ∧ Nx w w' := by
  have e1 := inB_out f 0 t
  cases h1 : outB f 0 t
  · rw [h1] at e1
    cases h2 : decide (345686400000 < t)
    · have H := hide h2
      go_enter Tryz.func32, Tryz.ntmps32
      go_wp2_with (go_at_call 35; refine (w_in _ _ _ _).mono ?_; rintro e w' ⟨rfl, rfl⟩)
      go_ret
      exact ⟨ret_int (by have := H.out; rw [decide_eq_false_iff_not] at this; rw [winF, winB, h1, show decide (t ≤ 345686400000) = true from decide_eq_true (by omega)]; rfl), (Nx.refl _).alloc _⟩
    · have H := hide h2
      go_enter Tryz.func32, Tryz.ntmps32
      go_wp2_with (go_at_call 35; refine (w_in _ _ _ _).mono ?_; rintro e w' ⟨rfl, rfl⟩)
      go_ret
      exact ⟨ret_int (by have := H.out; rw [decide_eq_true_iff] at this; rw [winF, winB, h1, show decide (t ≤ 345686400000) = false from decide_eq_false (by omega)]; rfl), (Nx.refl _).alloc _⟩
  · rw [h1] at e1
    go_enter Tryz.func32, Tryz.ntmps32
    go_wp2_with (go_at_call 35; refine (w_in _ _ _ _).mono ?_; rintro e w' ⟨rfl, rfl⟩)
    go_ret
    exact ⟨ret_int (by rw [winF, winB, h1]; rfl), (Nx.refl _).alloc _⟩
end Go.Proofs.YtemaiikgnogfhaaGreatDoor
