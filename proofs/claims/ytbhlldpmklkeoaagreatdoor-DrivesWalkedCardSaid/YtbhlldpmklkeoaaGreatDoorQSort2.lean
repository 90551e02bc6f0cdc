/- Two strings sorted; equal ones thrown together. -/
import Derived.Test.YtbhlldpmklkeoaaGreatDoorQReadyS
import Derived.Test.YtbhlldpmklkeoaaGreatDoorQG12
import Derived.Test.YtbhlldpmklkeoaaGreatDoorQG8
import Derived.Deep.RegionWith
import Derived.Lib.SliceRun
namespace Go.Proofs.YtbhlldpmklkeoaaGreatDoor
open Go.RowKit Go.Proofs Go.Shelf

theorem w_LessG (a b : ByteArray) (w : World) : Calls Tryz.prog 93 #[.string a, .string b] w fun e w' => e = .returned (.bool (Op.bytesLess a.toList b.toList)) ∧ w = w' := by
  go_enter Tryz.func93, Tryz.ntmps93
  go_wp2_with (go_at_call 113; refine (w_isNaNS _ _).mono ?_; rintro e w' ⟨rfl, rfl⟩)
  go_ret
  exact ⟨rfl, rfl⟩
def lo2 (a b : ByteArray) : ByteArray := if Op.bytesLess b.toList a.toList then b else a
def hi2 (a b : ByteArray) : ByteArray := if Op.bytesLess b.toList a.toList then a else b
/-- Two strings in a block, in order. -/
def Two2 (g : Nat) (a b : ByteArray) (w w' : World) : Prop := Gr g w w' ∧ w'.heap[g]? = some (.cells #[.string (lo2 a b), .string (hi2 a b)] 9 (0, 0))
set_option maxRecDepth 100000 in
set_option maxHeartbeats 2000000 in
theorem w_ins2 (g c : Nat) (a b : ByteArray) (w : World) (hg : w.heap[g]? = some (.cells #[.string a, .string b] 9 (0, 0))) :
    Calls Tryz.prog 87 #[.slice (some ⟨g, 0, none⟩) 2 c, .int .i64 0, .int .i64 2] w fun e w' => e = .returned (.tuple #[]) ∧ Two2 g a b w w' := by
  have h0 : w.cell? ⟨g, 0, none⟩ = some (.string a) := cell_of_row w g 0 _ _ _ hg
  have h1 : w.cell? ⟨g, 1, none⟩ = some (.string b) := cell_of_row w g 1 _ _ _ hg
  have f0 : w.frozen? ⟨g, 0, none⟩ = false := by simp [World.frozen?, hg]
  have f1 : w.frozen? ⟨g, 1, none⟩ = false := by simp [World.frozen?, hg]
  have HG := hide hg
  clear hg
  cases t : Op.bytesLess b.toList a.toList
  · have HE := hide (show lo2 a b = a ∧ hi2 a b = b by unfold lo2 hi2; rw [t]; exact ⟨rfl, rfl⟩)
    have hL := fun W => w_LessG b a W
    rw [t] at hL
    have HL := hide hL
    clear hL t
    go_enter Tryz.func87, Tryz.ntmps87
    go_wp2_with fail
    refine wp_loop_rounds 2 ?_
    rw [rounds_succ]
    go_wp2_with fail
    refine wp_loop_rounds 2 ?_
    rw [rounds_succ]
    go_wp2_with fail
    go_quiet ((go_at_call 93; exact Calls.quiet_of_same (flipc (HL.out _))))
    go_wp2_with fail
    rw [rounds_succ]
    go_wp2_with fail
    go_end0
    exact ⟨rfl, (Gr.refl _ _).drewN _, by rw [HE.out.1, HE.out.2]; exact HG.out⟩
  · have HE := hide (show lo2 a b = b ∧ hi2 a b = a by unfold lo2 hi2; rw [t]; exact ⟨rfl, rfl⟩)
    have hL := fun W => w_LessG b a W
    rw [t] at hL
    have HL := hide hL
    clear hL t
    go_enter Tryz.func87, Tryz.ntmps87
    go_wp2_with fail
    refine wp_loop_rounds 2 ?_
    rw [rounds_succ]
    go_wp2_with fail
    refine wp_loop_rounds 2 ?_
    rw [rounds_succ]
    go_wp2_with fail
    go_quiet ((go_at_call 93; exact Calls.quiet_of_same (flipc (HL.out _))))
    go_wp2_with fail
    go_region_with (fail)
    all_goals
      go_wp2_with fail
    all_goals
      rw [rounds_succ]
      go_wp2_with fail
      go_quiet (fail)
      go_wp2_with fail
      rw [rounds_succ]
      go_wp2_with fail
      go_end0
    all_goals
      refine ⟨rfl, (by repeat (first | exact Gr.refl _ _ | refine Gr.drewN ?_ _ | refine Gr.setS ?_ (.inl rfl) _)), ?_⟩
      rw [HE.out.1, HE.out.2]
      first
        | exact heap_set (i := 0) (heap_set (i := 1) (u := .string a) HG.out)
        | exact heap_set (i := 1) (heap_set (i := 0) (u := .string b) HG.out)
set_option maxRecDepth 100000 in
set_option maxHeartbeats 1000000 in
theorem w_pdq2 (g c : Nat) (a b : ByteArray) (z : Int) (w : World) (hg : w.heap[g]? = some (.cells #[.string a, .string b] 9 (0, 0))) :
    Calls Tryz.prog 68 #[.slice (some ⟨g, 0, none⟩) 2 c, .int .i64 0, .int .i64 2, .int .i64 z] w fun e w' => e = .returned (.tuple #[]) ∧ Two2 g a b w w' := by
  go_enter Tryz.func68, Tryz.ntmps68
  go_wp2_with fail
  refine wp_loop_rounds 1 ?_
  rw [rounds_succ]
  go_wp2_with (go_at_call 87; refine (w_ins2 g c a b w hg).mono ?_; rintro e w1 ⟨rfl, hn1⟩)
  exact bodyPost_ret (results_none (by rfl) _ _ _) rfl ⟨rfl, hn1⟩
theorem w_Sort2 (g c : Nat) (a b : ByteArray) (w : World) (hg : w.heap[g]? = some (.cells #[.string a, .string b] 9 (0, 0))) :
    Calls Tryz.prog 45 #[.slice (some ⟨g, 0, none⟩) 2 c] w fun e w' => e = .returned (.tuple #[]) ∧ Two2 g a b w w' := by
  go_enter Tryz.func45, Tryz.ntmps45
  go_wp2_with (first
    | (go_at_call 69; refine (w_Len _ _ (by omega) (by omega)).mono ?_; rintro e w' ⟨z, rfl, rfl⟩)
    | (go_at_call 68; refine (w_pdq2 g c a b _ w hg).mono ?_; rintro e w1 ⟨rfl, hn1⟩))
  go_end0
  exact ⟨rfl, hn1⟩
set_option maxRecDepth 100000 in
set_option maxHeartbeats 1000000 in
/-- Two strings that differ stay. -/
theorem w_Comp2 (g c : Nat) (a b : ByteArray) (w : World) (hg : w.heap[g]? = some (.cells #[.string a, .string b] 9 (0, 0))) (hne : a ≠ b) :
    Calls Tryz.prog 46 #[.slice (some ⟨g, 0, none⟩) 2 c] w fun e w' => e = .returned (.slice (some ⟨g, 0, none⟩) 2 c) ∧ Nx w w' := by
  have h0 : w.cell? ⟨g, 0, none⟩ = some (.string a) := cell_of_row w g 0 _ _ _ hg
  have h1 : w.cell? ⟨g, 1, none⟩ = some (.string b) := cell_of_row w g 1 _ _ _ hg
  have hne : (b.toList == a.toList) = false := by rw [eqS_iff]; exact decide_eq_false (fun e => hne e.symm)
  clear hg
  go_enter Tryz.func46, Tryz.ntmps46
  go_wp2_with fail
  refine wp_loop_rounds 2 ?_
  rw [rounds_succ]
  go_wp2_with fail
  go_quiet (fail)
  go_wp2_with fail
  rw [rounds_succ]
  go_wp2_with fail
  go_ret
  exact ⟨rfl, (Nx.refl _).drewN _⟩
set_option maxRecDepth 100000 in
set_option maxHeartbeats 1000000 in
/-- Of two equal strings one stays. -/
theorem w_Comp1 (g c : Nat) (a : ByteArray) (w : World) (hg : w.heap[g]? = some (.cells #[.string a, .string a] 9 (0, 0))) (hc : 2 ≤ c) :
    Calls Tryz.prog 46 #[.slice (some ⟨g, 0, none⟩) 2 c] w fun e w' => e = .returned (.slice (some ⟨g, 0, none⟩) 1 c) ∧ Gr g w w' ∧ w'.cell? ⟨g, 0, none⟩ = some (.string a) := by
  have h0 : w.cell? ⟨g, 0, none⟩ = some (.string a) := cell_of_row w g 0 _ _ _ hg
  have h1 : w.cell? ⟨g, 1, none⟩ = some (.string a) := cell_of_row w g 1 _ _ _ hg
  have f1 : w.frozen? ⟨g, 1, none⟩ = false := by simp [World.frozen?, hg]
  have hq : (a.toList == a.toList) = true := by simp
  clear hg
  have hcl : ∀ (n : Nat) ty, (Builtin.clear_ #[49] ty #[.slice (some ⟨g, 1, none⟩) 1 (c - 1)]).run Tryz.prog (w.drewN n) = .ok (.tuple #[]) ((w.drewN n).setCells g 1 (List.replicate 1 (.string ByteArray.empty))) := fun n ty =>
    Lib.run_clear_slice (w.drewN n) 49 9 ty (.string ByteArray.empty) Tryz.underlying49 (fun _ => by kernel_rfl) rfl rfl g 1 1 (c - 1) (by omega) (fun i hi => by obtain rfl : i = 0 := (by omega); show (w.cell? ⟨g, 1, none⟩).isSome = true; rw [h1]; rfl) (fun i hi => by obtain rfl : i = 0 := (by omega); exact f1)
  go_enter Tryz.func46, Tryz.ntmps46
  go_wp2_with fail
  refine wp_loop_rounds 2 ?_
  rw [rounds_succ]
  go_wp2_with fail
  go_quiet (fail)
  go_wp2_with fail
  refine wp_loop_rounds 1 ?_
  rw [rounds_succ]
  go_wp2_with (simp only [hcl])
  go_ret
  exact ⟨rfl, ((Gr.refl g w).drewN nq).setS (p := ⟨g, 1, none⟩) (.inl rfl) _, (World.cell?_setCell_other _ _ _ _ (by intro e; injection e with e1 e2; omega)).trans h0⟩
end Go.Proofs.YtbhlldpmklkeoaaGreatDoor
