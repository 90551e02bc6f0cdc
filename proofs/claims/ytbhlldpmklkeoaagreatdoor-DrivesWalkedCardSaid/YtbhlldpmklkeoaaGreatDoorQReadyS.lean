/- Two strings, sorted already: the sort lets them be. -/
import Derived.Test.YtbhlldpmklkeoaaGreatDoorQG4
import Derived.Test.YtbhlldpmklkeoaaGreatDoorQShelfL
namespace Go.Proofs.YtbhlldpmklkeoaaGreatDoor
open Go.RowKit Go.Proofs Go.Shelf

def sX : ByteArray := ⟨#[120]⟩
def sY : ByteArray := ⟨#[121]⟩
theorem w_isNaNS (a : ByteArray) (w : World) : Calls Tryz.prog 113 #[.string a] w fun e w' => e = .returned (.bool false) ∧ w = w' := by
  go_enter Tryz.func113, Tryz.ntmps113
  go_wp2
  go_ret
  exact ⟨rfl, rfl⟩
theorem w_LessYX (w : World) : Calls Tryz.prog 93 #[.string sY, .string sX] w fun e w' => e = .returned (.bool false) ∧ w = w' := by
  have t1 : Op.bytesLess sY.toList sX.toList = false := by rw [Lib.toList_data, Lib.toList_data]; decide
  go_enter Tryz.func93, Tryz.ntmps93
  go_wp2_with (go_at_call 113; refine (w_isNaNS _ _).mono ?_; rintro e w' ⟨rfl, rfl⟩)
  go_ret
  exact ⟨rfl, rfl⟩
set_option maxRecDepth 100000 in
set_option maxHeartbeats 1000000 in
theorem w_insXY (g c : Nat) (w : World) (h0 : w.cell? ⟨g, 0, none⟩ = some (.string sX)) (h1 : w.cell? ⟨g, 1, none⟩ = some (.string sY)) :
    Calls Tryz.prog 87 #[.slice (some ⟨g, 0, none⟩) 2 c, .int .i64 0, .int .i64 2] w fun e w' => e = .returned (.tuple #[]) ∧ Nx w w' := by
  go_enter Tryz.func87, Tryz.ntmps87
  go_wp2_with fail
  refine wp_loop_rounds 2 ?_
  rw [rounds_succ]
  go_wp2_with fail
  refine wp_loop_rounds 2 ?_
  rw [rounds_succ]
  go_wp2_with fail
  go_quiet ((go_at_call 93; exact Calls.quiet_of_same (flipc (w_LessYX _))))
  go_wp2_with fail
  rw [rounds_succ]
  go_wp2_with fail
  go_end0
  exact ⟨rfl, (Nx.refl _).drewN _⟩
set_option maxRecDepth 100000 in
set_option maxHeartbeats 1000000 in
theorem w_pdqXY (g c : Nat) (z : Int) (w : World) (h0 : w.cell? ⟨g, 0, none⟩ = some (.string sX)) (h1 : w.cell? ⟨g, 1, none⟩ = some (.string sY)) :
    Calls Tryz.prog 68 #[.slice (some ⟨g, 0, none⟩) 2 c, .int .i64 0, .int .i64 2, .int .i64 z] w fun e w' => e = .returned (.tuple #[]) ∧ Nx w w' := by
  go_enter Tryz.func68, Tryz.ntmps68
  go_wp2_with fail
  refine wp_loop_rounds 1 ?_
  rw [rounds_succ]
  go_wp2_with (go_at_call 87; refine (w_insXY g c w h0 h1).mono ?_; rintro e w1 ⟨rfl, hn1⟩)
  exact bodyPost_ret (results_none (by rfl) _ _ _) rfl ⟨rfl, hn1⟩
theorem w_Len (x : Int) (w : World) (h0 : 0 ≤ x) (h1 : x ≤ 1000000) : Calls Tryz.prog 69 #[.int .u64 x] w fun e w' => ∃ z : Int, e = .returned (.int .i64 z) ∧ w = w' :=
  (Any.bits_Len Tryz.bitsLen x w h0 (by omega)).mono fun _ _ ⟨h1, h2⟩ => ⟨_, h1, h2.symm⟩
theorem w_SortXY (g c : Nat) (w : World) (h0 : w.cell? ⟨g, 0, none⟩ = some (.string sX)) (h1 : w.cell? ⟨g, 1, none⟩ = some (.string sY)) :
    Calls Tryz.prog 45 #[.slice (some ⟨g, 0, none⟩) 2 c] w fun e w' => e = .returned (.tuple #[]) ∧ Nx w w' := by
  go_enter Tryz.func45, Tryz.ntmps45
  go_wp2_with (first
    | (go_at_call 69; refine (w_Len _ _ (by omega) (by omega)).mono ?_; rintro e w' ⟨z, rfl, rfl⟩)
    | (go_at_call 68; refine (w_pdqXY g c _ w h0 h1).mono ?_; rintro e w1 ⟨rfl, hn1⟩))
  go_end0
  exact ⟨rfl, hn1⟩
end Go.Proofs.YtbhlldpmklkeoaaGreatDoor
