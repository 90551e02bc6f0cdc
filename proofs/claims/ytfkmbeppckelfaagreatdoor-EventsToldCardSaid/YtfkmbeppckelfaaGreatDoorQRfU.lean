/- What a kind uses: the reference's. -/
import Derived.Test.YtfkmbeppckelfaaGreatDoorQRfL
namespace Go.Proofs.YtfkmbeppckelfaaGreatDoor
open Go.RowKit

def xB : ByteArray := ⟨#[120]⟩
theorem pick_x (b : Bool) : (if b = true then xB else eB).toList.isEmpty = !b := by
  rw [Lib.toList_data]; cases b <;> rfl
set_option maxRecDepth 100000 in
set_option maxHeartbeats 2000000 in
theorem w_usesR (k : Int) (w : World) : Calls Tryz.prog 80 #[.int .i64 k] w fun e w' => e = .returned (.agg #[.bool (uRide k), .bool (uCar k), .bool (uNode k), .bool (uUndo k)]) ∧ Nx w w' := by
  have HL := hide (fun W => w_leanEvent ⟨⟨#[]⟩, 0, 0, k, xB, xB, xB, 0, 0, xB, 0⟩ W)
  have p1 := pick_x (uRide k)
  have p2 := pick_x (uCar k)
  have p3 := pick_x (uNode k)
  have p4 := pick_x (uUndo k)
  unfold evA leanE at HL
  simp only at HL
  generalize (if uRide k = true then xB else eB) = s1 at *
  generalize (if uCar k = true then xB else eB) = s2 at *
  generalize (if uNode k = true then xB else eB) = s3 at *
  generalize (if uUndo k = true then xB else eB) = s4 at *
  generalize (if uBook k = true then (0 : Int) else 0) = z1 at *
  generalize (if uUndo k = true then (0 : Int) else 0) = z2 at *
  generalize uRide k = b1 at *
  generalize uCar k = b2 at *
  generalize uNode k = b3 at *
  generalize uUndo k = b4 at *
  unfold xB at HL
  go_enter Tryz.func80, Tryz.ntmps80
  go_upto_region 1 with fail
  have hb1 : (w.alloc (.cells #[.bool false, .bool false, .bool false, .bool false] 142 (0, 0))).heap[w.heap.size]? = some (.cells #[.bool false, .bool false, .bool false, .bool false] 142 (0, 0)) := heap_alloc_new w _
  have hn1 : Nx w (w.alloc (.cells #[.bool false, .bool false, .bool false, .bool false] 142 (0, 0))) := (Nx.refl w).alloc _
  obtain ⟨w1, hw1⟩ : ∃ w1, w1 = w.alloc (.cells #[.bool false, .bool false, .bool false, .bool false] 142 (0, 0)) := ⟨_, rfl⟩
  rw [← hw1] at hb1 hn1 ⊢
  clear hw1
  obtain ⟨g, hg⟩ : ∃ g, g = w.heap.size := ⟨_, rfl⟩
  rw [← hg] at hb1 ⊢
  have hgg : w.heap.size ≤ g := by omega
  have HN1 := hide hn1
  clear hn1 hg
  go_upto_region 2 with (go_at_call 81; refine (HL.out _).mono ?_; rintro e w2 ⟨rfl, hn2⟩)
  have hb2 := (hn2.block _ (Array.getElem?_eq_some_iff.1 hb1).1).trans hb1
  have hgl : g < w2.heap.size := (Array.getElem?_eq_some_iff.1 hb2).1
  have c0 : w2.cell? ⟨g, 0, none⟩ = some (.bool false) := cell_of_row w2 _ 0 _ _ _ hb2
  have c1 : w2.cell? ⟨g, 1, none⟩ = some (.bool false) := cell_of_row w2 _ 1 _ _ _ hb2
  have c2 : w2.cell? ⟨g, 2, none⟩ = some (.bool false) := cell_of_row w2 _ 2 _ _ _ hb2
  have c3 : w2.cell? ⟨g, 3, none⟩ = some (.bool false) := cell_of_row w2 _ 3 _ _ _ hb2
  have hfz : ∀ i, w2.frozen? ⟨g, i, none⟩ = false := fun i => by simp [World.frozen?, hb2]
  have HN2 := hide (HN1.out.trans hn2)
  clear hb1 hb2 hn2
  go_wp2_with fail
  exact bodyPost_ret (v := .agg #[.bool b1, .bool b2, .bool b3, .bool b4]) (by simp [results, Tryz.results80, go_sem, c0, c1, c2, c3, hgl]) rfl ⟨rfl, by repeat (first | with_reducible exact HN2.out | with_reducible refine Nx.alloc ?_ _ | with_reducible refine Nx.drew ?_ | with_reducible refine Nx.setg ?_ hgg _)⟩
end Go.Proofs.YtfkmbeppckelfaaGreatDoor
