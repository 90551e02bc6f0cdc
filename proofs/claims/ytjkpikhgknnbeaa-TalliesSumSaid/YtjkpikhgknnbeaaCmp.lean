/- The comparisons. -/
import Derived.Test.YtjkpikhgknnbeaaSeq
import Derived.Sort.Grow
import Derived.Deep.RegionHeld3
namespace Go.Proofs.Ytjkpikhgknnbeaa
open Go.RowKit Go.Sort

/-- Draws, and new blocks that stay as they were laid. -/
def Lays (w w' : World) : Prop := ∃ q os, w' = grow (w.drewN q) os
theorem Lays.refl (w : World) : Lays w w := ⟨0, #[], by simp [grow]; rfl⟩
theorem Lays.trans {a b c : World} (h : Lays a b) (k : Lays b c) : Lays a c := by
  obtain ⟨q, os, rfl⟩ := h
  obtain ⟨q', os', rfl⟩ := k
  refine ⟨q + q', os ++ os', ?_⟩
  have e : (grow (a.drewN q) os).drewN q' = grow ((a.drewN q).drewN q') os := rfl
  rw [e, grow_grow, World.drewN_drewN]
theorem Lays.drew {a w : World} (h : Lays a w) : Lays a w.drew := h.trans ⟨1, #[], by simp [grow]; rfl⟩
theorem Lays.drewN {a w : World} (h : Lays a w) (n : Nat) : Lays a (w.drewN n) := h.trans ⟨n, #[], by simp [grow]; rfl⟩
theorem Lays.alloc {a w : World} (h : Lays a w) (o : Obj) : Lays a (w.alloc o) := h.trans ⟨0, #[o], by rw [alloc_eq_grow]; rfl⟩
theorem Lays.nx {a w : World} (h : Lays a w) : Nx a w := by
  obtain ⟨q, os, rfl⟩ := h
  refine ⟨rfl, rfl, rfl, by simp [grow], fun k hk => ?_⟩
  show ((a.heap ++ os)[k]?) = _
  rw [Array.getElem?_append_left (by exact hk)]
theorem Lays.cell {a w : World} (h : Lays a w) {p : Addr} {v : Value} (hc : a.cell? p = some v) : w.cell? p = some v :=
  (Below.cell h.nx (World.block_lt_of_cell? a _ hc)).trans hc

theorem region_still_tail {P : Program} {id : Nat} {Q : Exit → Act → World → Prop} {a : Act} {w : World} {l : List Oper} (n : Nat) (hm : P.follows .mixedOrders = true) (hB : Region.lexTailB .any l.toArray n = true)
    (h : wpStill P l.toArray w.drew (fun a' => wpList P l.toArray Q (l.drop n) a' w.drew) (l.take n) a) : (Code.region id l.toArray true).wp P Q a w := wp_region_still_tail n hm hB h

set_option maxHeartbeats 1000000 in
theorem w_OrI2 (a b : Int) (g c : Nat) (w : World) (hg : w.heap[g]? = some (.cells #[.int .i64 a, .int .i64 b] 3 (0, 0))) :
    Calls Try.prog 72 #[.slice (some ⟨g, 0, none⟩) 2 c] w fun e w' => e = .returned (.int .i64 (orI [a, b])) ∧ w = w' := by
  have hR : Rd w 0 (some ⟨g, 0, none⟩) 1 encI [a, b] := Rd.lit hg (Nat.zero_le _) (fun _ => rfl) rfl
  exact w_OrI 0 _ c [a, b] w hR (by simp)

set_option maxRecDepth 100000 in
set_option maxHeartbeats 1000000 in
theorem w_byCell (a b : Cell) (w : World) :
    Calls Try.prog 63 #[.agg #[.int .i64 a.x, .int .i64 a.y], .agg #[.int .i64 b.x, .int .i64 b.y]] w fun e w' => e = .returned (.int .i64 (cellC a b)) ∧ Lays w w' := by
  go_enter Try.func63, Try.ntmps63
  go_wp2_with fail
  refine region_still_tail 10 (by kernel_rfl) (by kernel_rfl) ?_
  simp only [List.take_succ_cons, List.take_zero, List.drop_succ_cons, List.drop_zero]
  still_step; still_step; still_step; still_step
  still_call (flipc (w_Compare _ _ _))
  still_step; still_step; still_step; still_step
  still_call (flipc (w_Compare _ _ _))
  refine wpStill_nil ?_
  go_wp2_with (go_at_call 72; refine (w_OrI2 (cmpI a.x b.x) (cmpI a.y b.y) _ _ _ (hnew_drew (by simp))).mono ?_; rintro e w' ⟨rfl, rfl⟩)
  go_ret
  exact ⟨rfl, (((Lays.refl _).alloc _).alloc _).alloc _ |>.drew⟩

set_option maxRecDepth 100000 in
set_option maxHeartbeats 1000000 in
theorem w_byTally (a b : Tally) (w : World) :
    Calls Try.prog 75 #[.agg (encTally a).toArray, .agg (encTally b).toArray] w fun e w' => e = .returned (.int .i64 (tallyC a b)) ∧ Lays w w' := by
  unfold encTally
  go_enter Try.func75, Try.ntmps75
  go_wp2_with fail
  go_region_held3 (fun w' => w'.cell? ⟨w.heap.size, 0, none⟩ = some (.int .i64 a.x) ∧ w'.cell? ⟨w.heap.size, 1, none⟩ = some (.int .i64 a.y) ∧ w'.cell? ⟨w.heap.size, 2, none⟩ = some (.int .i64 a.hour) ∧ w'.cell? ⟨w.heap.size + 1, 0, none⟩ = some (.int .i64 b.x) ∧ w'.cell? ⟨w.heap.size + 1, 1, none⟩ = some (.int .i64 b.y) ∧ w'.cell? ⟨w.heap.size + 1, 2, none⟩ = some (.int .i64 b.hour))
    (first | go_keep | (go_split_ands; exact ⟨hL.cell ‹_›, hL.cell ‹_›, hL.cell ‹_›, hL.cell ‹_›, hL.cell ‹_›, hL.cell ‹_›⟩))
    (first
      | (go_at_call 63; refine (w_byCell ⟨a.x, a.y⟩ ⟨b.x, b.y⟩ _).mono ?_; rintro e w1 ⟨rfl, hL⟩)
      | (go_at_call 74; refine (w_Compare _ _ _).mono ?_; rintro e w' ⟨rfl, rfl⟩)
      | (go_at_call 72; refine (w_OrI2 (cellC ⟨a.x, a.y⟩ ⟨b.x, b.y⟩) (cmpI a.hour b.hour) _ _ _ (hnew (by simp))).mono ?_; rintro e w' ⟨rfl, rfl⟩)
      | (go_at_call 72; refine (w_OrI2 (cellC ⟨a.x, a.y⟩ ⟨b.x, b.y⟩) (cmpI a.hour b.hour) _ _ _ (hnew_drew (by simp))).mono ?_; rintro e w' ⟨rfl, rfl⟩))
  go_wp2
  go_ret
  exact ⟨rfl, by repeat (first | exact Lays.refl _ | refine Lays.trans ?_ hL | refine Lays.drew ?_ | refine Lays.drewN ?_ _ | refine Lays.alloc ?_ _)⟩
set_option maxRecDepth 100000 in
set_option maxHeartbeats 1000000 in
theorem w_CellOrder (a b : Cell) (w : World) :
    Calls Try.prog 62 #[.agg #[.int .i64 a.x, .int .i64 a.y], .agg #[.int .i64 b.x, .int .i64 b.y]] w fun e w' => e = .returned (.int .i64 (cellC a b)) ∧ Lays w w' := by
  go_enter Try.func62, Try.ntmps62
  go_wp2_with fail
  refine region_still_tail 10 (by kernel_rfl) (by kernel_rfl) ?_
  simp only [List.take_succ_cons, List.take_zero, List.drop_succ_cons, List.drop_zero]
  still_step; still_step; still_step; still_step
  still_call (flipc (w_Compare _ _ _))
  still_step; still_step; still_step; still_step
  still_call (flipc (w_Compare _ _ _))
  refine wpStill_nil ?_
  go_wp2_with (go_at_call 72; refine (w_OrI2 (cmpI a.x b.x) (cmpI a.y b.y) _ _ _ (hnew_drew (by simp))).mono ?_; rintro e w' ⟨rfl, rfl⟩)
  go_ret
  exact ⟨rfl, (((Lays.refl _).alloc _).alloc _).alloc _ |>.drew⟩

set_option maxRecDepth 100000 in
set_option maxHeartbeats 1000000 in
theorem w_listed1 (a b : Tally) (w : World) :
    Calls Try.prog 88 #[.agg (encTally a).toArray, .agg (encTally b).toArray] w fun e w' => e = .returned (.int .i64 (tallyC a b)) ∧ Lays w w' := by
  unfold encTally
  go_enter Try.func88, Try.ntmps88
  go_wp2_with fail
  go_region_held3 (fun w' => w'.cell? ⟨w.heap.size, 0, none⟩ = some (.int .i64 a.x) ∧ w'.cell? ⟨w.heap.size, 1, none⟩ = some (.int .i64 a.y) ∧ w'.cell? ⟨w.heap.size, 2, none⟩ = some (.int .i64 a.hour) ∧ w'.cell? ⟨w.heap.size + 1, 0, none⟩ = some (.int .i64 b.x) ∧ w'.cell? ⟨w.heap.size + 1, 1, none⟩ = some (.int .i64 b.y) ∧ w'.cell? ⟨w.heap.size + 1, 2, none⟩ = some (.int .i64 b.hour))
    (first | go_keep | (go_split_ands; exact ⟨hL.cell ‹_›, hL.cell ‹_›, hL.cell ‹_›, hL.cell ‹_›, hL.cell ‹_›, hL.cell ‹_›⟩))
    (first
      | (go_at_call 62; refine (w_CellOrder ⟨a.x, a.y⟩ ⟨b.x, b.y⟩ _).mono ?_; rintro e w1 ⟨rfl, hL⟩)
      | (go_at_call 74; refine (w_Compare _ _ _).mono ?_; rintro e w' ⟨rfl, rfl⟩)
      | (go_at_call 72; refine (w_OrI2 (cellC ⟨a.x, a.y⟩ ⟨b.x, b.y⟩) (cmpI a.hour b.hour) _ _ _ (hnew (by simp))).mono ?_; rintro e w' ⟨rfl, rfl⟩)
      | (go_at_call 72; refine (w_OrI2 (cellC ⟨a.x, a.y⟩ ⟨b.x, b.y⟩) (cmpI a.hour b.hour) _ _ _ (hnew_drew (by simp))).mono ?_; rintro e w' ⟨rfl, rfl⟩))
  go_wp2
  go_ret
  exact ⟨rfl, by repeat (first | exact Lays.refl _ | refine Lays.trans ?_ hL | refine Lays.drew ?_ | refine Lays.drewN ?_ _ | refine Lays.alloc ?_ _)⟩
end Go.Proofs.Ytjkpikhgknnbeaa
