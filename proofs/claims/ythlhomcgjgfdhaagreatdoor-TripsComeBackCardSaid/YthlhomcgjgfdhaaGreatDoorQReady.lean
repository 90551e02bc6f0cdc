/- 'ready' answers true. -/
import Derived.Test.YthlhomcgjgfdhaaGreatDoorQG36
import Derived.Test.YthlhomcgjgfdhaaGreatDoorQReadyE
import Derived.Test.YthlhomcgjgfdhaaGreatDoorQG42
import Derived.Test.YthlhomcgjgfdhaaGreatDoorQG13
namespace Go.Proofs.YthlhomcgjgfdhaaGreatDoor
open Go.RowKit
attribute [local go_sem ↓] neq_Cell eql_Cell

set_option maxRecDepth 100000 in
set_option maxHeartbeats 2000000 in
theorem w_ready (w : World) : Calls Tryz.prog 37 #[] w fun e w' => e = .returned (.bool true) ∧ Nx w w' := by
  have hEF : EvRight := fun W => w_eventFaultEx W
  have hF : partsF 10 [1, 1, 1] = 0 := by decide
  go_enter Tryz.func37, Tryz.ntmps37
  go_wp2_with fail
  have hK : Rd (w.alloc (.cells #[.int .i64 0, .int .i64 100, .int .i64 1000, .int .i64 600] 122)) 0 (some ⟨w.heap.size, 0, none⟩) 2 encKnot exKnots := Rd.lit (hnew rfl) (Nat.zero_le _) encKnot_len rfl
  refine (w_TimeOnEx 0 _ 2 _ hK).mono ?_
  rintro e w1 ⟨rfl, hn1⟩
  have hx1 : Nx w w1 := ((Nx.refl w).alloc _).trans hn1
  clear hK hn1
  go_wp2_with fail
  have hR1 : Rd (w1.alloc (.cells #[.int .i64 1, .int .i64 1, .int .i64 1] 3)) 0 (some ⟨w1.heap.size, 0, none⟩) 1 encI [1, 1, 1] := Rd.lit (hnew rfl) (Nat.zero_le _) (fun _ => rfl) rfl
  refine (w_Divide _ _ _ 10 [1, 1, 1] _ hR1 (by decide)).mono ?_
  rintro e w2 ⟨A, c, zs, rfl, hdv, _, hR2, hn2⟩
  have hz := divided_433 (hdv hF)
  subst hz
  rw [hF]
  have hx2 : Nx w1 w2 := ((Nx.refl w1).alloc _).trans hn2
  clear hdv hR1 hn2
  go_wp2_with fail
  refine (w_RidesEx hEF w2.heap.size 1 _ (hnew rfl)).mono ?_
  rintro e w3 ⟨A3, c3, rfl, hn3⟩
  have hx3 : Nx w2 w3 := ((Nx.refl w2).alloc _).trans hn3
  have hR3 := hR2.nx hx3
  clear hn3 hR2
  go_wp2_with fail
  refine (w_CellOf_yes (-1) 250 100 _ (by decide) (by decide)).mono ?_
  rintro e w4 ⟨rfl, hn4⟩
  have hR4 := hR3.nx hn4
  clear hR3
  have hR5 : Rd ((w4.alloc (.cells #[.int .i64 (-1 / 100), .int .i64 (250 / 100)] 39)).alloc (.cells #[.int .i64 4, .int .i64 3, .int .i64 3] 3)) 0 (some ⟨w4.heap.size + 1, 0, none⟩) 1 encI [4, 3, 3] := Rd.lit (hnew (by simp)) (Nat.zero_le _) (fun _ => rfl) rfl
  go_wp2_with (go_at_call 82; refine (w_EqualI _ _ _ _ _ _ [4, 3, 3] _ (hR4.nx (((Nx.refl _).alloc _).alloc _)) hR5 (by simp)).mono ?_; rintro e w6 ⟨rfl, hn6⟩; (have q0 : w6.cell? ⟨w4.heap.size, 0, none⟩ = some (.int .i64 (-1)) := nx_cell hn6 (by simp <;> omega) (show ((w4.alloc (.cells #[.int .i64 (-1 / 100), .int .i64 (250 / 100)] 39)).alloc (.cells #[.int .i64 4, .int .i64 3, .int .i64 3] 3)).cell? ⟨w4.heap.size, 0, none⟩ = some (.int .i64 (-1)) by go_simp)); (have q1 : w6.cell? ⟨w4.heap.size, 1, none⟩ = some (.int .i64 2) := nx_cell hn6 (by simp <;> omega) (show ((w4.alloc (.cells #[.int .i64 (-1 / 100), .int .i64 (250 / 100)] 39)).alloc (.cells #[.int .i64 4, .int .i64 3, .int .i64 3] 3)).cell? ⟨w4.heap.size, 1, none⟩ = some (.int .i64 2) by go_simp)))
  go_ret
  exact ⟨rfl, (((hx1.trans hx2).trans hx3).trans hn4).trans ((((Nx.refl w4).alloc _).alloc _).trans hn6)⟩
end Go.Proofs.YthlhomcgjgfdhaaGreatDoor
