/- An event without what its kind does not use: the reference's. -/
import Derived.Test.YtfkmbeppckelfaaGreatDoorQG11
import Derived.RegionTactic
namespace Go.Proofs.YtfkmbeppckelfaaGreatDoor
open Go.RowKit

theorem Nx.setg {a w : World} {g i : Nat} (h : Nx a w) (hg : a.heap.size ≤ g) (u : Value) : Nx a (w.setCell ⟨g, i, none⟩ u) := h.setCell hg u
set_option maxRecDepth 100000 in
set_option maxHeartbeats 2000000 in
theorem w_lean0 (so : ByteArray) (no at_ ki : Int) (ri ca nd : ByteArray) (up dn : Int) (fo : ByteArray) (nu : Int) (w : World) (hk : (ki == 1) = false ∧ (ki == 2) = false ∧ (ki == 3) = false ∧ (ki == 4) = false ∧ (ki == 5) = false ∧ (ki == 6) = false ∧ (ki == 7) = false ∧ (ki == 8) = false ∧ (ki == 9) = false) :
    Calls Tryz.prog 81 #[.agg #[.string so, .int .i64 no, .int .i64 at_, .int .i64 ki, .string ri, .string ca, .string nd, .int .i64 up, .int .i64 dn, .string fo, .int .i64 nu]] w fun e w' => e = .returned (.agg #[.string so, .int .i64 no, .int .i64 at_, .int .i64 ki, .string ⟨#[]⟩, .string ⟨#[]⟩, .string ⟨#[]⟩, .int .i64 0, .int .i64 0, .string ⟨#[]⟩, .int .i64 0]) ∧ Nx w w' := by
  obtain ⟨w2, hw2⟩ : ∃ w2, w2 = (w.alloc (.cells #[.string so, .int .i64 no, .int .i64 at_, .int .i64 ki, .string ri, .string ca, .string nd, .int .i64 up, .int .i64 dn, .string fo, .int .i64 nu] 31 (0, 0))).alloc (.cells #[.string ⟨#[]⟩, .int .i64 0, .int .i64 0, .int .i64 0, .string ⟨#[]⟩, .string ⟨#[]⟩, .string ⟨#[]⟩, .int .i64 0, .int .i64 0, .string ⟨#[]⟩, .int .i64 0] 31 (0, 0)) := ⟨_, rfl⟩
  have hn2 : Nx w w2 := hw2 ▸ ((Nx.refl w).alloc _).alloc _
  have hb : w2.heap[w.heap.size + 1]? = some (.cells #[.string ⟨#[]⟩, .int .i64 0, .int .i64 0, .int .i64 0, .string ⟨#[]⟩, .string ⟨#[]⟩, .string ⟨#[]⟩, .int .i64 0, .int .i64 0, .string ⟨#[]⟩, .int .i64 0] 31 (0, 0)) := by
    rw [hw2]
    have := heap_alloc_new (w.alloc (.cells #[.string so, .int .i64 no, .int .i64 at_, .int .i64 ki, .string ri, .string ca, .string nd, .int .i64 up, .int .i64 dn, .string fo, .int .i64 nu] 31 (0, 0))) (.cells #[.string ⟨#[]⟩, .int .i64 0, .int .i64 0, .int .i64 0, .string ⟨#[]⟩, .string ⟨#[]⟩, .string ⟨#[]⟩, .int .i64 0, .int .i64 0, .string ⟨#[]⟩, .int .i64 0] 31 (0, 0))
    simpa using this
  have ha : w2.heap[w.heap.size]? = some (.cells #[.string so, .int .i64 no, .int .i64 at_, .int .i64 ki, .string ri, .string ca, .string nd, .int .i64 up, .int .i64 dn, .string fo, .int .i64 nu] 31 (0, 0)) := by
    rw [hw2]; exact (((Nx.refl _).alloc _).block _ (by simp)).trans (heap_alloc_new w _)
  have a0 : w2.cell? ⟨w.heap.size, 0, none⟩ = some (.string so) := cell_of_row w2 _ 0 _ _ _ ha
  have a1 : w2.cell? ⟨w.heap.size, 1, none⟩ = some (.int .i64 no) := cell_of_row w2 _ 1 _ _ _ ha
  have a2 : w2.cell? ⟨w.heap.size, 2, none⟩ = some (.int .i64 at_) := cell_of_row w2 _ 2 _ _ _ ha
  have a3 : w2.cell? ⟨w.heap.size, 3, none⟩ = some (.int .i64 ki) := cell_of_row w2 _ 3 _ _ _ ha
  have a4 : w2.cell? ⟨w.heap.size, 4, none⟩ = some (.string ri) := cell_of_row w2 _ 4 _ _ _ ha
  have a5 : w2.cell? ⟨w.heap.size, 5, none⟩ = some (.string ca) := cell_of_row w2 _ 5 _ _ _ ha
  have a6 : w2.cell? ⟨w.heap.size, 6, none⟩ = some (.string nd) := cell_of_row w2 _ 6 _ _ _ ha
  have a7 : w2.cell? ⟨w.heap.size, 7, none⟩ = some (.int .i64 up) := cell_of_row w2 _ 7 _ _ _ ha
  have a8 : w2.cell? ⟨w.heap.size, 8, none⟩ = some (.int .i64 dn) := cell_of_row w2 _ 8 _ _ _ ha
  have a9 : w2.cell? ⟨w.heap.size, 9, none⟩ = some (.string fo) := cell_of_row w2 _ 9 _ _ _ ha
  have a10 : w2.cell? ⟨w.heap.size, 10, none⟩ = some (.int .i64 nu) := cell_of_row w2 _ 10 _ _ _ ha
  have b0 : w2.cell? ⟨w.heap.size + 1, 0, none⟩ = some (.string ⟨#[]⟩) := cell_of_row w2 _ 0 _ _ _ hb
  have b1 : w2.cell? ⟨w.heap.size + 1, 1, none⟩ = some (.int .i64 0) := cell_of_row w2 _ 1 _ _ _ hb
  have b2 : w2.cell? ⟨w.heap.size + 1, 2, none⟩ = some (.int .i64 0) := cell_of_row w2 _ 2 _ _ _ hb
  have b3 : w2.cell? ⟨w.heap.size + 1, 3, none⟩ = some (.int .i64 0) := cell_of_row w2 _ 3 _ _ _ hb
  have b4 : w2.cell? ⟨w.heap.size + 1, 4, none⟩ = some (.string ⟨#[]⟩) := cell_of_row w2 _ 4 _ _ _ hb
  have b5 : w2.cell? ⟨w.heap.size + 1, 5, none⟩ = some (.string ⟨#[]⟩) := cell_of_row w2 _ 5 _ _ _ hb
  have b6 : w2.cell? ⟨w.heap.size + 1, 6, none⟩ = some (.string ⟨#[]⟩) := cell_of_row w2 _ 6 _ _ _ hb
  have b7 : w2.cell? ⟨w.heap.size + 1, 7, none⟩ = some (.int .i64 0) := cell_of_row w2 _ 7 _ _ _ hb
  have b8 : w2.cell? ⟨w.heap.size + 1, 8, none⟩ = some (.int .i64 0) := cell_of_row w2 _ 8 _ _ _ hb
  have b9 : w2.cell? ⟨w.heap.size + 1, 9, none⟩ = some (.string ⟨#[]⟩) := cell_of_row w2 _ 9 _ _ _ hb
  have b10 : w2.cell? ⟨w.heap.size + 1, 10, none⟩ = some (.int .i64 0) := cell_of_row w2 _ 10 _ _ _ hb
  have hfz : ∀ i, w2.frozen? ⟨w.heap.size + 1, i, none⟩ = false := fun i => by simp [World.frozen?, hb]
  have hs2 : w2.heap.size = w.heap.size + 2 := by rw [hw2]; simp
  have HN2 := hide hn2
  have HS2 := hide hs2
  obtain ⟨g, hg⟩ : ∃ g, g = w.heap.size := ⟨_, rfl⟩
  rw [← hg] at a0 a1 a2 a3 a4 a5 a6 a7 a8 a9 a10 b0 b1 b2 b3 b4 b5 b6 b7 b8 b9 b10 hfz
  have hgl : g + 1 < w2.heap.size := by omega
  have hgl0 : g < w2.heap.size := by omega
  clear ha hb hn2 hs2
  obtain ⟨k1, k2, k3, k4, k5, k6, k7, k8, k9⟩ := hk
  go_enter Tryz.func81, Tryz.ntmps81
  go_upto_region 1 with fail
  rw [← hw2, ← hg]
  have HG := hide hg
  clear hw2 hg
  go_wp2_with fail
  all_goals
    have hgg : w.heap.size ≤ g + 1 := by have := HG.out; omega
    exact bodyPost_ret (v := .agg #[.string so, .int .i64 no, .int .i64 at_, .int .i64 ki, .string ⟨#[]⟩, .string ⟨#[]⟩, .string ⟨#[]⟩, .int .i64 0, .int .i64 0, .string ⟨#[]⟩, .int .i64 0]) (by simp [results, Tryz.results81, go_sem, b0, b1, b2, b3, b4, b5, b6, b7, b8, b9, b10, hgl]) rfl ⟨rfl, by repeat (first | with_reducible exact HN2.out | with_reducible refine Nx.alloc ?_ _ | with_reducible refine Nx.drew ?_ | with_reducible refine Nx.setg ?_ hgg _)⟩
set_option maxRecDepth 100000 in
set_option maxHeartbeats 2000000 in
theorem w_lean1 (so : ByteArray) (no at_ : Int) (ri ca nd : ByteArray) (up dn : Int) (fo : ByteArray) (nu : Int) (w : World) :
    Calls Tryz.prog 81 #[.agg #[.string so, .int .i64 no, .int .i64 at_, .int .i64 1, .string ri, .string ca, .string nd, .int .i64 up, .int .i64 dn, .string fo, .int .i64 nu]] w fun e w' => e = .returned (.agg #[.string so, .int .i64 no, .int .i64 at_, .int .i64 1, .string ri, .string ⟨#[]⟩, .string ⟨#[]⟩, .int .i64 up, .int .i64 dn, .string ⟨#[]⟩, .int .i64 0]) ∧ Nx w w' := by
  obtain ⟨w2, hw2⟩ : ∃ w2, w2 = (w.alloc (.cells #[.string so, .int .i64 no, .int .i64 at_, .int .i64 1, .string ri, .string ca, .string nd, .int .i64 up, .int .i64 dn, .string fo, .int .i64 nu] 31 (0, 0))).alloc (.cells #[.string ⟨#[]⟩, .int .i64 0, .int .i64 0, .int .i64 0, .string ⟨#[]⟩, .string ⟨#[]⟩, .string ⟨#[]⟩, .int .i64 0, .int .i64 0, .string ⟨#[]⟩, .int .i64 0] 31 (0, 0)) := ⟨_, rfl⟩
  have hn2 : Nx w w2 := hw2 ▸ ((Nx.refl w).alloc _).alloc _
  have hb : w2.heap[w.heap.size + 1]? = some (.cells #[.string ⟨#[]⟩, .int .i64 0, .int .i64 0, .int .i64 0, .string ⟨#[]⟩, .string ⟨#[]⟩, .string ⟨#[]⟩, .int .i64 0, .int .i64 0, .string ⟨#[]⟩, .int .i64 0] 31 (0, 0)) := by
    rw [hw2]
    have := heap_alloc_new (w.alloc (.cells #[.string so, .int .i64 no, .int .i64 at_, .int .i64 1, .string ri, .string ca, .string nd, .int .i64 up, .int .i64 dn, .string fo, .int .i64 nu] 31 (0, 0))) (.cells #[.string ⟨#[]⟩, .int .i64 0, .int .i64 0, .int .i64 0, .string ⟨#[]⟩, .string ⟨#[]⟩, .string ⟨#[]⟩, .int .i64 0, .int .i64 0, .string ⟨#[]⟩, .int .i64 0] 31 (0, 0))
    simpa using this
  have ha : w2.heap[w.heap.size]? = some (.cells #[.string so, .int .i64 no, .int .i64 at_, .int .i64 1, .string ri, .string ca, .string nd, .int .i64 up, .int .i64 dn, .string fo, .int .i64 nu] 31 (0, 0)) := by
    rw [hw2]; exact (((Nx.refl _).alloc _).block _ (by simp)).trans (heap_alloc_new w _)
  have a0 : w2.cell? ⟨w.heap.size, 0, none⟩ = some (.string so) := cell_of_row w2 _ 0 _ _ _ ha
  have a1 : w2.cell? ⟨w.heap.size, 1, none⟩ = some (.int .i64 no) := cell_of_row w2 _ 1 _ _ _ ha
  have a2 : w2.cell? ⟨w.heap.size, 2, none⟩ = some (.int .i64 at_) := cell_of_row w2 _ 2 _ _ _ ha
  have a3 : w2.cell? ⟨w.heap.size, 3, none⟩ = some (.int .i64 1) := cell_of_row w2 _ 3 _ _ _ ha
  have a4 : w2.cell? ⟨w.heap.size, 4, none⟩ = some (.string ri) := cell_of_row w2 _ 4 _ _ _ ha
  have a5 : w2.cell? ⟨w.heap.size, 5, none⟩ = some (.string ca) := cell_of_row w2 _ 5 _ _ _ ha
  have a6 : w2.cell? ⟨w.heap.size, 6, none⟩ = some (.string nd) := cell_of_row w2 _ 6 _ _ _ ha
  have a7 : w2.cell? ⟨w.heap.size, 7, none⟩ = some (.int .i64 up) := cell_of_row w2 _ 7 _ _ _ ha
  have a8 : w2.cell? ⟨w.heap.size, 8, none⟩ = some (.int .i64 dn) := cell_of_row w2 _ 8 _ _ _ ha
  have a9 : w2.cell? ⟨w.heap.size, 9, none⟩ = some (.string fo) := cell_of_row w2 _ 9 _ _ _ ha
  have a10 : w2.cell? ⟨w.heap.size, 10, none⟩ = some (.int .i64 nu) := cell_of_row w2 _ 10 _ _ _ ha
  have b0 : w2.cell? ⟨w.heap.size + 1, 0, none⟩ = some (.string ⟨#[]⟩) := cell_of_row w2 _ 0 _ _ _ hb
  have b1 : w2.cell? ⟨w.heap.size + 1, 1, none⟩ = some (.int .i64 0) := cell_of_row w2 _ 1 _ _ _ hb
  have b2 : w2.cell? ⟨w.heap.size + 1, 2, none⟩ = some (.int .i64 0) := cell_of_row w2 _ 2 _ _ _ hb
  have b3 : w2.cell? ⟨w.heap.size + 1, 3, none⟩ = some (.int .i64 0) := cell_of_row w2 _ 3 _ _ _ hb
  have b4 : w2.cell? ⟨w.heap.size + 1, 4, none⟩ = some (.string ⟨#[]⟩) := cell_of_row w2 _ 4 _ _ _ hb
  have b5 : w2.cell? ⟨w.heap.size + 1, 5, none⟩ = some (.string ⟨#[]⟩) := cell_of_row w2 _ 5 _ _ _ hb
  have b6 : w2.cell? ⟨w.heap.size + 1, 6, none⟩ = some (.string ⟨#[]⟩) := cell_of_row w2 _ 6 _ _ _ hb
  have b7 : w2.cell? ⟨w.heap.size + 1, 7, none⟩ = some (.int .i64 0) := cell_of_row w2 _ 7 _ _ _ hb
  have b8 : w2.cell? ⟨w.heap.size + 1, 8, none⟩ = some (.int .i64 0) := cell_of_row w2 _ 8 _ _ _ hb
  have b9 : w2.cell? ⟨w.heap.size + 1, 9, none⟩ = some (.string ⟨#[]⟩) := cell_of_row w2 _ 9 _ _ _ hb
  have b10 : w2.cell? ⟨w.heap.size + 1, 10, none⟩ = some (.int .i64 0) := cell_of_row w2 _ 10 _ _ _ hb
  have hfz : ∀ i, w2.frozen? ⟨w.heap.size + 1, i, none⟩ = false := fun i => by simp [World.frozen?, hb]
  have hs2 : w2.heap.size = w.heap.size + 2 := by rw [hw2]; simp
  have HN2 := hide hn2
  have HS2 := hide hs2
  obtain ⟨g, hg⟩ : ∃ g, g = w.heap.size := ⟨_, rfl⟩
  rw [← hg] at a0 a1 a2 a3 a4 a5 a6 a7 a8 a9 a10 b0 b1 b2 b3 b4 b5 b6 b7 b8 b9 b10 hfz
  have hgl : g + 1 < w2.heap.size := by omega
  have hgl0 : g < w2.heap.size := by omega
  clear ha hb hn2 hs2
  go_enter Tryz.func81, Tryz.ntmps81
  go_upto_region 1 with fail
  rw [← hw2, ← hg]
  have HG := hide hg
  clear hw2 hg
  go_upto_region 4 with fail
  go_region
  all_goals (go_wp2_with fail)
  all_goals
    have hgg : w.heap.size ≤ g + 1 := by have := HG.out; omega
    exact bodyPost_ret (v := .agg #[.string so, .int .i64 no, .int .i64 at_, .int .i64 1, .string ri, .string ⟨#[]⟩, .string ⟨#[]⟩, .int .i64 up, .int .i64 dn, .string ⟨#[]⟩, .int .i64 0]) (by simp [results, Tryz.results81, go_sem, b0, b1, b2, b3, b4, b5, b6, b7, b8, b9, b10, hgl]) rfl ⟨rfl, by repeat (first | with_reducible exact HN2.out | with_reducible refine Nx.alloc ?_ _ | with_reducible refine Nx.drew ?_ | with_reducible refine Nx.setg ?_ hgg _)⟩
set_option maxRecDepth 100000 in
set_option maxHeartbeats 2000000 in
theorem w_lean2 (so : ByteArray) (no at_ : Int) (ri ca nd : ByteArray) (up dn : Int) (fo : ByteArray) (nu : Int) (w : World) :
    Calls Tryz.prog 81 #[.agg #[.string so, .int .i64 no, .int .i64 at_, .int .i64 2, .string ri, .string ca, .string nd, .int .i64 up, .int .i64 dn, .string fo, .int .i64 nu]] w fun e w' => e = .returned (.agg #[.string so, .int .i64 no, .int .i64 at_, .int .i64 2, .string ri, .string ca, .string ⟨#[]⟩, .int .i64 0, .int .i64 0, .string ⟨#[]⟩, .int .i64 0]) ∧ Nx w w' := by
  obtain ⟨w2, hw2⟩ : ∃ w2, w2 = (w.alloc (.cells #[.string so, .int .i64 no, .int .i64 at_, .int .i64 2, .string ri, .string ca, .string nd, .int .i64 up, .int .i64 dn, .string fo, .int .i64 nu] 31 (0, 0))).alloc (.cells #[.string ⟨#[]⟩, .int .i64 0, .int .i64 0, .int .i64 0, .string ⟨#[]⟩, .string ⟨#[]⟩, .string ⟨#[]⟩, .int .i64 0, .int .i64 0, .string ⟨#[]⟩, .int .i64 0] 31 (0, 0)) := ⟨_, rfl⟩
  have hn2 : Nx w w2 := hw2 ▸ ((Nx.refl w).alloc _).alloc _
  have hb : w2.heap[w.heap.size + 1]? = some (.cells #[.string ⟨#[]⟩, .int .i64 0, .int .i64 0, .int .i64 0, .string ⟨#[]⟩, .string ⟨#[]⟩, .string ⟨#[]⟩, .int .i64 0, .int .i64 0, .string ⟨#[]⟩, .int .i64 0] 31 (0, 0)) := by
    rw [hw2]
    have := heap_alloc_new (w.alloc (.cells #[.string so, .int .i64 no, .int .i64 at_, .int .i64 2, .string ri, .string ca, .string nd, .int .i64 up, .int .i64 dn, .string fo, .int .i64 nu] 31 (0, 0))) (.cells #[.string ⟨#[]⟩, .int .i64 0, .int .i64 0, .int .i64 0, .string ⟨#[]⟩, .string ⟨#[]⟩, .string ⟨#[]⟩, .int .i64 0, .int .i64 0, .string ⟨#[]⟩, .int .i64 0] 31 (0, 0))
    simpa using this
  have ha : w2.heap[w.heap.size]? = some (.cells #[.string so, .int .i64 no, .int .i64 at_, .int .i64 2, .string ri, .string ca, .string nd, .int .i64 up, .int .i64 dn, .string fo, .int .i64 nu] 31 (0, 0)) := by
    rw [hw2]; exact (((Nx.refl _).alloc _).block _ (by simp)).trans (heap_alloc_new w _)
  have a0 : w2.cell? ⟨w.heap.size, 0, none⟩ = some (.string so) := cell_of_row w2 _ 0 _ _ _ ha
  have a1 : w2.cell? ⟨w.heap.size, 1, none⟩ = some (.int .i64 no) := cell_of_row w2 _ 1 _ _ _ ha
  have a2 : w2.cell? ⟨w.heap.size, 2, none⟩ = some (.int .i64 at_) := cell_of_row w2 _ 2 _ _ _ ha
  have a3 : w2.cell? ⟨w.heap.size, 3, none⟩ = some (.int .i64 2) := cell_of_row w2 _ 3 _ _ _ ha
  have a4 : w2.cell? ⟨w.heap.size, 4, none⟩ = some (.string ri) := cell_of_row w2 _ 4 _ _ _ ha
  have a5 : w2.cell? ⟨w.heap.size, 5, none⟩ = some (.string ca) := cell_of_row w2 _ 5 _ _ _ ha
  have a6 : w2.cell? ⟨w.heap.size, 6, none⟩ = some (.string nd) := cell_of_row w2 _ 6 _ _ _ ha
  have a7 : w2.cell? ⟨w.heap.size, 7, none⟩ = some (.int .i64 up) := cell_of_row w2 _ 7 _ _ _ ha
  have a8 : w2.cell? ⟨w.heap.size, 8, none⟩ = some (.int .i64 dn) := cell_of_row w2 _ 8 _ _ _ ha
  have a9 : w2.cell? ⟨w.heap.size, 9, none⟩ = some (.string fo) := cell_of_row w2 _ 9 _ _ _ ha
  have a10 : w2.cell? ⟨w.heap.size, 10, none⟩ = some (.int .i64 nu) := cell_of_row w2 _ 10 _ _ _ ha
  have b0 : w2.cell? ⟨w.heap.size + 1, 0, none⟩ = some (.string ⟨#[]⟩) := cell_of_row w2 _ 0 _ _ _ hb
  have b1 : w2.cell? ⟨w.heap.size + 1, 1, none⟩ = some (.int .i64 0) := cell_of_row w2 _ 1 _ _ _ hb
  have b2 : w2.cell? ⟨w.heap.size + 1, 2, none⟩ = some (.int .i64 0) := cell_of_row w2 _ 2 _ _ _ hb
  have b3 : w2.cell? ⟨w.heap.size + 1, 3, none⟩ = some (.int .i64 0) := cell_of_row w2 _ 3 _ _ _ hb
  have b4 : w2.cell? ⟨w.heap.size + 1, 4, none⟩ = some (.string ⟨#[]⟩) := cell_of_row w2 _ 4 _ _ _ hb
  have b5 : w2.cell? ⟨w.heap.size + 1, 5, none⟩ = some (.string ⟨#[]⟩) := cell_of_row w2 _ 5 _ _ _ hb
  have b6 : w2.cell? ⟨w.heap.size + 1, 6, none⟩ = some (.string ⟨#[]⟩) := cell_of_row w2 _ 6 _ _ _ hb
  have b7 : w2.cell? ⟨w.heap.size + 1, 7, none⟩ = some (.int .i64 0) := cell_of_row w2 _ 7 _ _ _ hb
  have b8 : w2.cell? ⟨w.heap.size + 1, 8, none⟩ = some (.int .i64 0) := cell_of_row w2 _ 8 _ _ _ hb
  have b9 : w2.cell? ⟨w.heap.size + 1, 9, none⟩ = some (.string ⟨#[]⟩) := cell_of_row w2 _ 9 _ _ _ hb
  have b10 : w2.cell? ⟨w.heap.size + 1, 10, none⟩ = some (.int .i64 0) := cell_of_row w2 _ 10 _ _ _ hb
  have hfz : ∀ i, w2.frozen? ⟨w.heap.size + 1, i, none⟩ = false := fun i => by simp [World.frozen?, hb]
  have hs2 : w2.heap.size = w.heap.size + 2 := by rw [hw2]; simp
  have HN2 := hide hn2
  have HS2 := hide hs2
  obtain ⟨g, hg⟩ : ∃ g, g = w.heap.size := ⟨_, rfl⟩
  rw [← hg] at a0 a1 a2 a3 a4 a5 a6 a7 a8 a9 a10 b0 b1 b2 b3 b4 b5 b6 b7 b8 b9 b10 hfz
  have hgl : g + 1 < w2.heap.size := by omega
  have hgl0 : g < w2.heap.size := by omega
  clear ha hb hn2 hs2
  go_enter Tryz.func81, Tryz.ntmps81
  go_upto_region 1 with fail
  rw [← hw2, ← hg]
  have HG := hide hg
  clear hw2 hg
  go_upto_region 6 with fail
  go_region
  all_goals (go_wp2_with fail)
  all_goals
    have hgg : w.heap.size ≤ g + 1 := by have := HG.out; omega
    exact bodyPost_ret (v := .agg #[.string so, .int .i64 no, .int .i64 at_, .int .i64 2, .string ri, .string ca, .string ⟨#[]⟩, .int .i64 0, .int .i64 0, .string ⟨#[]⟩, .int .i64 0]) (by simp [results, Tryz.results81, go_sem, b0, b1, b2, b3, b4, b5, b6, b7, b8, b9, b10, hgl]) rfl ⟨rfl, by repeat (first | with_reducible exact HN2.out | with_reducible refine Nx.alloc ?_ _ | with_reducible refine Nx.drew ?_ | with_reducible refine Nx.setg ?_ hgg _)⟩
set_option maxRecDepth 100000 in
set_option maxHeartbeats 2000000 in
theorem w_lean3 (so : ByteArray) (no at_ : Int) (ri ca nd : ByteArray) (up dn : Int) (fo : ByteArray) (nu : Int) (w : World) :
    Calls Tryz.prog 81 #[.agg #[.string so, .int .i64 no, .int .i64 at_, .int .i64 3, .string ri, .string ca, .string nd, .int .i64 up, .int .i64 dn, .string fo, .int .i64 nu]] w fun e w' => e = .returned (.agg #[.string so, .int .i64 no, .int .i64 at_, .int .i64 3, .string ri, .string ca, .string nd, .int .i64 0, .int .i64 0, .string ⟨#[]⟩, .int .i64 0]) ∧ Nx w w' := by
  obtain ⟨w2, hw2⟩ : ∃ w2, w2 = (w.alloc (.cells #[.string so, .int .i64 no, .int .i64 at_, .int .i64 3, .string ri, .string ca, .string nd, .int .i64 up, .int .i64 dn, .string fo, .int .i64 nu] 31 (0, 0))).alloc (.cells #[.string ⟨#[]⟩, .int .i64 0, .int .i64 0, .int .i64 0, .string ⟨#[]⟩, .string ⟨#[]⟩, .string ⟨#[]⟩, .int .i64 0, .int .i64 0, .string ⟨#[]⟩, .int .i64 0] 31 (0, 0)) := ⟨_, rfl⟩
  have hn2 : Nx w w2 := hw2 ▸ ((Nx.refl w).alloc _).alloc _
  have hb : w2.heap[w.heap.size + 1]? = some (.cells #[.string ⟨#[]⟩, .int .i64 0, .int .i64 0, .int .i64 0, .string ⟨#[]⟩, .string ⟨#[]⟩, .string ⟨#[]⟩, .int .i64 0, .int .i64 0, .string ⟨#[]⟩, .int .i64 0] 31 (0, 0)) := by
    rw [hw2]
    have := heap_alloc_new (w.alloc (.cells #[.string so, .int .i64 no, .int .i64 at_, .int .i64 3, .string ri, .string ca, .string nd, .int .i64 up, .int .i64 dn, .string fo, .int .i64 nu] 31 (0, 0))) (.cells #[.string ⟨#[]⟩, .int .i64 0, .int .i64 0, .int .i64 0, .string ⟨#[]⟩, .string ⟨#[]⟩, .string ⟨#[]⟩, .int .i64 0, .int .i64 0, .string ⟨#[]⟩, .int .i64 0] 31 (0, 0))
    simpa using this
  have ha : w2.heap[w.heap.size]? = some (.cells #[.string so, .int .i64 no, .int .i64 at_, .int .i64 3, .string ri, .string ca, .string nd, .int .i64 up, .int .i64 dn, .string fo, .int .i64 nu] 31 (0, 0)) := by
    rw [hw2]; exact (((Nx.refl _).alloc _).block _ (by simp)).trans (heap_alloc_new w _)
  have a0 : w2.cell? ⟨w.heap.size, 0, none⟩ = some (.string so) := cell_of_row w2 _ 0 _ _ _ ha
  have a1 : w2.cell? ⟨w.heap.size, 1, none⟩ = some (.int .i64 no) := cell_of_row w2 _ 1 _ _ _ ha
  have a2 : w2.cell? ⟨w.heap.size, 2, none⟩ = some (.int .i64 at_) := cell_of_row w2 _ 2 _ _ _ ha
  have a3 : w2.cell? ⟨w.heap.size, 3, none⟩ = some (.int .i64 3) := cell_of_row w2 _ 3 _ _ _ ha
  have a4 : w2.cell? ⟨w.heap.size, 4, none⟩ = some (.string ri) := cell_of_row w2 _ 4 _ _ _ ha
  have a5 : w2.cell? ⟨w.heap.size, 5, none⟩ = some (.string ca) := cell_of_row w2 _ 5 _ _ _ ha
  have a6 : w2.cell? ⟨w.heap.size, 6, none⟩ = some (.string nd) := cell_of_row w2 _ 6 _ _ _ ha
  have a7 : w2.cell? ⟨w.heap.size, 7, none⟩ = some (.int .i64 up) := cell_of_row w2 _ 7 _ _ _ ha
  have a8 : w2.cell? ⟨w.heap.size, 8, none⟩ = some (.int .i64 dn) := cell_of_row w2 _ 8 _ _ _ ha
  have a9 : w2.cell? ⟨w.heap.size, 9, none⟩ = some (.string fo) := cell_of_row w2 _ 9 _ _ _ ha
  have a10 : w2.cell? ⟨w.heap.size, 10, none⟩ = some (.int .i64 nu) := cell_of_row w2 _ 10 _ _ _ ha
  have b0 : w2.cell? ⟨w.heap.size + 1, 0, none⟩ = some (.string ⟨#[]⟩) := cell_of_row w2 _ 0 _ _ _ hb
  have b1 : w2.cell? ⟨w.heap.size + 1, 1, none⟩ = some (.int .i64 0) := cell_of_row w2 _ 1 _ _ _ hb
  have b2 : w2.cell? ⟨w.heap.size + 1, 2, none⟩ = some (.int .i64 0) := cell_of_row w2 _ 2 _ _ _ hb
  have b3 : w2.cell? ⟨w.heap.size + 1, 3, none⟩ = some (.int .i64 0) := cell_of_row w2 _ 3 _ _ _ hb
  have b4 : w2.cell? ⟨w.heap.size + 1, 4, none⟩ = some (.string ⟨#[]⟩) := cell_of_row w2 _ 4 _ _ _ hb
  have b5 : w2.cell? ⟨w.heap.size + 1, 5, none⟩ = some (.string ⟨#[]⟩) := cell_of_row w2 _ 5 _ _ _ hb
  have b6 : w2.cell? ⟨w.heap.size + 1, 6, none⟩ = some (.string ⟨#[]⟩) := cell_of_row w2 _ 6 _ _ _ hb
  have b7 : w2.cell? ⟨w.heap.size + 1, 7, none⟩ = some (.int .i64 0) := cell_of_row w2 _ 7 _ _ _ hb
  have b8 : w2.cell? ⟨w.heap.size + 1, 8, none⟩ = some (.int .i64 0) := cell_of_row w2 _ 8 _ _ _ hb
  have b9 : w2.cell? ⟨w.heap.size + 1, 9, none⟩ = some (.string ⟨#[]⟩) := cell_of_row w2 _ 9 _ _ _ hb
  have b10 : w2.cell? ⟨w.heap.size + 1, 10, none⟩ = some (.int .i64 0) := cell_of_row w2 _ 10 _ _ _ hb
  have hfz : ∀ i, w2.frozen? ⟨w.heap.size + 1, i, none⟩ = false := fun i => by simp [World.frozen?, hb]
  have hs2 : w2.heap.size = w.heap.size + 2 := by rw [hw2]; simp
  have HN2 := hide hn2
  have HS2 := hide hs2
  obtain ⟨g, hg⟩ : ∃ g, g = w.heap.size := ⟨_, rfl⟩
  rw [← hg] at a0 a1 a2 a3 a4 a5 a6 a7 a8 a9 a10 b0 b1 b2 b3 b4 b5 b6 b7 b8 b9 b10 hfz
  have hgl : g + 1 < w2.heap.size := by omega
  have hgl0 : g < w2.heap.size := by omega
  clear ha hb hn2 hs2
  go_enter Tryz.func81, Tryz.ntmps81
  go_upto_region 1 with fail
  rw [← hw2, ← hg]
  have HG := hide hg
  clear hw2 hg
  go_upto_region 9 with fail
  go_region
  all_goals (go_wp2_with fail)
  all_goals
    have hgg : w.heap.size ≤ g + 1 := by have := HG.out; omega
    exact bodyPost_ret (v := .agg #[.string so, .int .i64 no, .int .i64 at_, .int .i64 3, .string ri, .string ca, .string nd, .int .i64 0, .int .i64 0, .string ⟨#[]⟩, .int .i64 0]) (by simp [results, Tryz.results81, go_sem, b0, b1, b2, b3, b4, b5, b6, b7, b8, b9, b10, hgl]) rfl ⟨rfl, by repeat (first | with_reducible exact HN2.out | with_reducible refine Nx.alloc ?_ _ | with_reducible refine Nx.drew ?_ | with_reducible refine Nx.setg ?_ hgg _)⟩
set_option maxRecDepth 100000 in
set_option maxHeartbeats 2000000 in
theorem w_lean4 (so : ByteArray) (no at_ : Int) (ri ca nd : ByteArray) (up dn : Int) (fo : ByteArray) (nu : Int) (w : World) :
    Calls Tryz.prog 81 #[.agg #[.string so, .int .i64 no, .int .i64 at_, .int .i64 4, .string ri, .string ca, .string nd, .int .i64 up, .int .i64 dn, .string fo, .int .i64 nu]] w fun e w' => e = .returned (.agg #[.string so, .int .i64 no, .int .i64 at_, .int .i64 4, .string ri, .string ca, .string nd, .int .i64 0, .int .i64 0, .string ⟨#[]⟩, .int .i64 0]) ∧ Nx w w' := by
  obtain ⟨w2, hw2⟩ : ∃ w2, w2 = (w.alloc (.cells #[.string so, .int .i64 no, .int .i64 at_, .int .i64 4, .string ri, .string ca, .string nd, .int .i64 up, .int .i64 dn, .string fo, .int .i64 nu] 31 (0, 0))).alloc (.cells #[.string ⟨#[]⟩, .int .i64 0, .int .i64 0, .int .i64 0, .string ⟨#[]⟩, .string ⟨#[]⟩, .string ⟨#[]⟩, .int .i64 0, .int .i64 0, .string ⟨#[]⟩, .int .i64 0] 31 (0, 0)) := ⟨_, rfl⟩
  have hn2 : Nx w w2 := hw2 ▸ ((Nx.refl w).alloc _).alloc _
  have hb : w2.heap[w.heap.size + 1]? = some (.cells #[.string ⟨#[]⟩, .int .i64 0, .int .i64 0, .int .i64 0, .string ⟨#[]⟩, .string ⟨#[]⟩, .string ⟨#[]⟩, .int .i64 0, .int .i64 0, .string ⟨#[]⟩, .int .i64 0] 31 (0, 0)) := by
    rw [hw2]
    have := heap_alloc_new (w.alloc (.cells #[.string so, .int .i64 no, .int .i64 at_, .int .i64 4, .string ri, .string ca, .string nd, .int .i64 up, .int .i64 dn, .string fo, .int .i64 nu] 31 (0, 0))) (.cells #[.string ⟨#[]⟩, .int .i64 0, .int .i64 0, .int .i64 0, .string ⟨#[]⟩, .string ⟨#[]⟩, .string ⟨#[]⟩, .int .i64 0, .int .i64 0, .string ⟨#[]⟩, .int .i64 0] 31 (0, 0))
    simpa using this
  have ha : w2.heap[w.heap.size]? = some (.cells #[.string so, .int .i64 no, .int .i64 at_, .int .i64 4, .string ri, .string ca, .string nd, .int .i64 up, .int .i64 dn, .string fo, .int .i64 nu] 31 (0, 0)) := by
    rw [hw2]; exact (((Nx.refl _).alloc _).block _ (by simp)).trans (heap_alloc_new w _)
  have a0 : w2.cell? ⟨w.heap.size, 0, none⟩ = some (.string so) := cell_of_row w2 _ 0 _ _ _ ha
  have a1 : w2.cell? ⟨w.heap.size, 1, none⟩ = some (.int .i64 no) := cell_of_row w2 _ 1 _ _ _ ha
  have a2 : w2.cell? ⟨w.heap.size, 2, none⟩ = some (.int .i64 at_) := cell_of_row w2 _ 2 _ _ _ ha
  have a3 : w2.cell? ⟨w.heap.size, 3, none⟩ = some (.int .i64 4) := cell_of_row w2 _ 3 _ _ _ ha
  have a4 : w2.cell? ⟨w.heap.size, 4, none⟩ = some (.string ri) := cell_of_row w2 _ 4 _ _ _ ha
  have a5 : w2.cell? ⟨w.heap.size, 5, none⟩ = some (.string ca) := cell_of_row w2 _ 5 _ _ _ ha
  have a6 : w2.cell? ⟨w.heap.size, 6, none⟩ = some (.string nd) := cell_of_row w2 _ 6 _ _ _ ha
  have a7 : w2.cell? ⟨w.heap.size, 7, none⟩ = some (.int .i64 up) := cell_of_row w2 _ 7 _ _ _ ha
  have a8 : w2.cell? ⟨w.heap.size, 8, none⟩ = some (.int .i64 dn) := cell_of_row w2 _ 8 _ _ _ ha
  have a9 : w2.cell? ⟨w.heap.size, 9, none⟩ = some (.string fo) := cell_of_row w2 _ 9 _ _ _ ha
  have a10 : w2.cell? ⟨w.heap.size, 10, none⟩ = some (.int .i64 nu) := cell_of_row w2 _ 10 _ _ _ ha
  have b0 : w2.cell? ⟨w.heap.size + 1, 0, none⟩ = some (.string ⟨#[]⟩) := cell_of_row w2 _ 0 _ _ _ hb
  have b1 : w2.cell? ⟨w.heap.size + 1, 1, none⟩ = some (.int .i64 0) := cell_of_row w2 _ 1 _ _ _ hb
  have b2 : w2.cell? ⟨w.heap.size + 1, 2, none⟩ = some (.int .i64 0) := cell_of_row w2 _ 2 _ _ _ hb
  have b3 : w2.cell? ⟨w.heap.size + 1, 3, none⟩ = some (.int .i64 0) := cell_of_row w2 _ 3 _ _ _ hb
  have b4 : w2.cell? ⟨w.heap.size + 1, 4, none⟩ = some (.string ⟨#[]⟩) := cell_of_row w2 _ 4 _ _ _ hb
  have b5 : w2.cell? ⟨w.heap.size + 1, 5, none⟩ = some (.string ⟨#[]⟩) := cell_of_row w2 _ 5 _ _ _ hb
  have b6 : w2.cell? ⟨w.heap.size + 1, 6, none⟩ = some (.string ⟨#[]⟩) := cell_of_row w2 _ 6 _ _ _ hb
  have b7 : w2.cell? ⟨w.heap.size + 1, 7, none⟩ = some (.int .i64 0) := cell_of_row w2 _ 7 _ _ _ hb
  have b8 : w2.cell? ⟨w.heap.size + 1, 8, none⟩ = some (.int .i64 0) := cell_of_row w2 _ 8 _ _ _ hb
  have b9 : w2.cell? ⟨w.heap.size + 1, 9, none⟩ = some (.string ⟨#[]⟩) := cell_of_row w2 _ 9 _ _ _ hb
  have b10 : w2.cell? ⟨w.heap.size + 1, 10, none⟩ = some (.int .i64 0) := cell_of_row w2 _ 10 _ _ _ hb
  have hfz : ∀ i, w2.frozen? ⟨w.heap.size + 1, i, none⟩ = false := fun i => by simp [World.frozen?, hb]
  have hs2 : w2.heap.size = w.heap.size + 2 := by rw [hw2]; simp
  have HN2 := hide hn2
  have HS2 := hide hs2
  obtain ⟨g, hg⟩ : ∃ g, g = w.heap.size := ⟨_, rfl⟩
  rw [← hg] at a0 a1 a2 a3 a4 a5 a6 a7 a8 a9 a10 b0 b1 b2 b3 b4 b5 b6 b7 b8 b9 b10 hfz
  have hgl : g + 1 < w2.heap.size := by omega
  have hgl0 : g < w2.heap.size := by omega
  clear ha hb hn2 hs2
  go_enter Tryz.func81, Tryz.ntmps81
  go_upto_region 1 with fail
  rw [← hw2, ← hg]
  have HG := hide hg
  clear hw2 hg
  go_upto_region 9 with fail
  go_region
  all_goals (go_wp2_with fail)
  all_goals
    have hgg : w.heap.size ≤ g + 1 := by have := HG.out; omega
    exact bodyPost_ret (v := .agg #[.string so, .int .i64 no, .int .i64 at_, .int .i64 4, .string ri, .string ca, .string nd, .int .i64 0, .int .i64 0, .string ⟨#[]⟩, .int .i64 0]) (by simp [results, Tryz.results81, go_sem, b0, b1, b2, b3, b4, b5, b6, b7, b8, b9, b10, hgl]) rfl ⟨rfl, by repeat (first | with_reducible exact HN2.out | with_reducible refine Nx.alloc ?_ _ | with_reducible refine Nx.drew ?_ | with_reducible refine Nx.setg ?_ hgg _)⟩
set_option maxRecDepth 100000 in
set_option maxHeartbeats 2000000 in
theorem w_lean5 (so : ByteArray) (no at_ : Int) (ri ca nd : ByteArray) (up dn : Int) (fo : ByteArray) (nu : Int) (w : World) :
    Calls Tryz.prog 81 #[.agg #[.string so, .int .i64 no, .int .i64 at_, .int .i64 5, .string ri, .string ca, .string nd, .int .i64 up, .int .i64 dn, .string fo, .int .i64 nu]] w fun e w' => e = .returned (.agg #[.string so, .int .i64 no, .int .i64 at_, .int .i64 5, .string ri, .string ⟨#[]⟩, .string ⟨#[]⟩, .int .i64 0, .int .i64 0, .string ⟨#[]⟩, .int .i64 0]) ∧ Nx w w' := by
  obtain ⟨w2, hw2⟩ : ∃ w2, w2 = (w.alloc (.cells #[.string so, .int .i64 no, .int .i64 at_, .int .i64 5, .string ri, .string ca, .string nd, .int .i64 up, .int .i64 dn, .string fo, .int .i64 nu] 31 (0, 0))).alloc (.cells #[.string ⟨#[]⟩, .int .i64 0, .int .i64 0, .int .i64 0, .string ⟨#[]⟩, .string ⟨#[]⟩, .string ⟨#[]⟩, .int .i64 0, .int .i64 0, .string ⟨#[]⟩, .int .i64 0] 31 (0, 0)) := ⟨_, rfl⟩
  have hn2 : Nx w w2 := hw2 ▸ ((Nx.refl w).alloc _).alloc _
  have hb : w2.heap[w.heap.size + 1]? = some (.cells #[.string ⟨#[]⟩, .int .i64 0, .int .i64 0, .int .i64 0, .string ⟨#[]⟩, .string ⟨#[]⟩, .string ⟨#[]⟩, .int .i64 0, .int .i64 0, .string ⟨#[]⟩, .int .i64 0] 31 (0, 0)) := by
    rw [hw2]
    have := heap_alloc_new (w.alloc (.cells #[.string so, .int .i64 no, .int .i64 at_, .int .i64 5, .string ri, .string ca, .string nd, .int .i64 up, .int .i64 dn, .string fo, .int .i64 nu] 31 (0, 0))) (.cells #[.string ⟨#[]⟩, .int .i64 0, .int .i64 0, .int .i64 0, .string ⟨#[]⟩, .string ⟨#[]⟩, .string ⟨#[]⟩, .int .i64 0, .int .i64 0, .string ⟨#[]⟩, .int .i64 0] 31 (0, 0))
    simpa using this
  have ha : w2.heap[w.heap.size]? = some (.cells #[.string so, .int .i64 no, .int .i64 at_, .int .i64 5, .string ri, .string ca, .string nd, .int .i64 up, .int .i64 dn, .string fo, .int .i64 nu] 31 (0, 0)) := by
    rw [hw2]; exact (((Nx.refl _).alloc _).block _ (by simp)).trans (heap_alloc_new w _)
  have a0 : w2.cell? ⟨w.heap.size, 0, none⟩ = some (.string so) := cell_of_row w2 _ 0 _ _ _ ha
  have a1 : w2.cell? ⟨w.heap.size, 1, none⟩ = some (.int .i64 no) := cell_of_row w2 _ 1 _ _ _ ha
  have a2 : w2.cell? ⟨w.heap.size, 2, none⟩ = some (.int .i64 at_) := cell_of_row w2 _ 2 _ _ _ ha
  have a3 : w2.cell? ⟨w.heap.size, 3, none⟩ = some (.int .i64 5) := cell_of_row w2 _ 3 _ _ _ ha
  have a4 : w2.cell? ⟨w.heap.size, 4, none⟩ = some (.string ri) := cell_of_row w2 _ 4 _ _ _ ha
  have a5 : w2.cell? ⟨w.heap.size, 5, none⟩ = some (.string ca) := cell_of_row w2 _ 5 _ _ _ ha
  have a6 : w2.cell? ⟨w.heap.size, 6, none⟩ = some (.string nd) := cell_of_row w2 _ 6 _ _ _ ha
  have a7 : w2.cell? ⟨w.heap.size, 7, none⟩ = some (.int .i64 up) := cell_of_row w2 _ 7 _ _ _ ha
  have a8 : w2.cell? ⟨w.heap.size, 8, none⟩ = some (.int .i64 dn) := cell_of_row w2 _ 8 _ _ _ ha
  have a9 : w2.cell? ⟨w.heap.size, 9, none⟩ = some (.string fo) := cell_of_row w2 _ 9 _ _ _ ha
  have a10 : w2.cell? ⟨w.heap.size, 10, none⟩ = some (.int .i64 nu) := cell_of_row w2 _ 10 _ _ _ ha
  have b0 : w2.cell? ⟨w.heap.size + 1, 0, none⟩ = some (.string ⟨#[]⟩) := cell_of_row w2 _ 0 _ _ _ hb
  have b1 : w2.cell? ⟨w.heap.size + 1, 1, none⟩ = some (.int .i64 0) := cell_of_row w2 _ 1 _ _ _ hb
  have b2 : w2.cell? ⟨w.heap.size + 1, 2, none⟩ = some (.int .i64 0) := cell_of_row w2 _ 2 _ _ _ hb
  have b3 : w2.cell? ⟨w.heap.size + 1, 3, none⟩ = some (.int .i64 0) := cell_of_row w2 _ 3 _ _ _ hb
  have b4 : w2.cell? ⟨w.heap.size + 1, 4, none⟩ = some (.string ⟨#[]⟩) := cell_of_row w2 _ 4 _ _ _ hb
  have b5 : w2.cell? ⟨w.heap.size + 1, 5, none⟩ = some (.string ⟨#[]⟩) := cell_of_row w2 _ 5 _ _ _ hb
  have b6 : w2.cell? ⟨w.heap.size + 1, 6, none⟩ = some (.string ⟨#[]⟩) := cell_of_row w2 _ 6 _ _ _ hb
  have b7 : w2.cell? ⟨w.heap.size + 1, 7, none⟩ = some (.int .i64 0) := cell_of_row w2 _ 7 _ _ _ hb
  have b8 : w2.cell? ⟨w.heap.size + 1, 8, none⟩ = some (.int .i64 0) := cell_of_row w2 _ 8 _ _ _ hb
  have b9 : w2.cell? ⟨w.heap.size + 1, 9, none⟩ = some (.string ⟨#[]⟩) := cell_of_row w2 _ 9 _ _ _ hb
  have b10 : w2.cell? ⟨w.heap.size + 1, 10, none⟩ = some (.int .i64 0) := cell_of_row w2 _ 10 _ _ _ hb
  have hfz : ∀ i, w2.frozen? ⟨w.heap.size + 1, i, none⟩ = false := fun i => by simp [World.frozen?, hb]
  have hs2 : w2.heap.size = w.heap.size + 2 := by rw [hw2]; simp
  have HN2 := hide hn2
  have HS2 := hide hs2
  obtain ⟨g, hg⟩ : ∃ g, g = w.heap.size := ⟨_, rfl⟩
  rw [← hg] at a0 a1 a2 a3 a4 a5 a6 a7 a8 a9 a10 b0 b1 b2 b3 b4 b5 b6 b7 b8 b9 b10 hfz
  have hgl : g + 1 < w2.heap.size := by omega
  have hgl0 : g < w2.heap.size := by omega
  clear ha hb hn2 hs2
  go_enter Tryz.func81, Tryz.ntmps81
  go_upto_region 1 with fail
  rw [← hw2, ← hg]
  have HG := hide hg
  clear hw2 hg
  go_wp2_with fail
  all_goals
    have hgg : w.heap.size ≤ g + 1 := by have := HG.out; omega
    exact bodyPost_ret (v := .agg #[.string so, .int .i64 no, .int .i64 at_, .int .i64 5, .string ri, .string ⟨#[]⟩, .string ⟨#[]⟩, .int .i64 0, .int .i64 0, .string ⟨#[]⟩, .int .i64 0]) (by simp [results, Tryz.results81, go_sem, b0, b1, b2, b3, b4, b5, b6, b7, b8, b9, b10, hgl]) rfl ⟨rfl, by repeat (first | with_reducible exact HN2.out | with_reducible refine Nx.alloc ?_ _ | with_reducible refine Nx.drew ?_ | with_reducible refine Nx.setg ?_ hgg _)⟩
set_option maxRecDepth 100000 in
set_option maxHeartbeats 2000000 in
theorem w_lean6 (so : ByteArray) (no at_ : Int) (ri ca nd : ByteArray) (up dn : Int) (fo : ByteArray) (nu : Int) (w : World) :
    Calls Tryz.prog 81 #[.agg #[.string so, .int .i64 no, .int .i64 at_, .int .i64 6, .string ri, .string ca, .string nd, .int .i64 up, .int .i64 dn, .string fo, .int .i64 nu]] w fun e w' => e = .returned (.agg #[.string so, .int .i64 no, .int .i64 at_, .int .i64 6, .string ri, .string ⟨#[]⟩, .string ⟨#[]⟩, .int .i64 0, .int .i64 0, .string ⟨#[]⟩, .int .i64 0]) ∧ Nx w w' := by
  obtain ⟨w2, hw2⟩ : ∃ w2, w2 = (w.alloc (.cells #[.string so, .int .i64 no, .int .i64 at_, .int .i64 6, .string ri, .string ca, .string nd, .int .i64 up, .int .i64 dn, .string fo, .int .i64 nu] 31 (0, 0))).alloc (.cells #[.string ⟨#[]⟩, .int .i64 0, .int .i64 0, .int .i64 0, .string ⟨#[]⟩, .string ⟨#[]⟩, .string ⟨#[]⟩, .int .i64 0, .int .i64 0, .string ⟨#[]⟩, .int .i64 0] 31 (0, 0)) := ⟨_, rfl⟩
  have hn2 : Nx w w2 := hw2 ▸ ((Nx.refl w).alloc _).alloc _
  have hb : w2.heap[w.heap.size + 1]? = some (.cells #[.string ⟨#[]⟩, .int .i64 0, .int .i64 0, .int .i64 0, .string ⟨#[]⟩, .string ⟨#[]⟩, .string ⟨#[]⟩, .int .i64 0, .int .i64 0, .string ⟨#[]⟩, .int .i64 0] 31 (0, 0)) := by
    rw [hw2]
    have := heap_alloc_new (w.alloc (.cells #[.string so, .int .i64 no, .int .i64 at_, .int .i64 6, .string ri, .string ca, .string nd, .int .i64 up, .int .i64 dn, .string fo, .int .i64 nu] 31 (0, 0))) (.cells #[.string ⟨#[]⟩, .int .i64 0, .int .i64 0, .int .i64 0, .string ⟨#[]⟩, .string ⟨#[]⟩, .string ⟨#[]⟩, .int .i64 0, .int .i64 0, .string ⟨#[]⟩, .int .i64 0] 31 (0, 0))
    simpa using this
  have ha : w2.heap[w.heap.size]? = some (.cells #[.string so, .int .i64 no, .int .i64 at_, .int .i64 6, .string ri, .string ca, .string nd, .int .i64 up, .int .i64 dn, .string fo, .int .i64 nu] 31 (0, 0)) := by
    rw [hw2]; exact (((Nx.refl _).alloc _).block _ (by simp)).trans (heap_alloc_new w _)
  have a0 : w2.cell? ⟨w.heap.size, 0, none⟩ = some (.string so) := cell_of_row w2 _ 0 _ _ _ ha
  have a1 : w2.cell? ⟨w.heap.size, 1, none⟩ = some (.int .i64 no) := cell_of_row w2 _ 1 _ _ _ ha
  have a2 : w2.cell? ⟨w.heap.size, 2, none⟩ = some (.int .i64 at_) := cell_of_row w2 _ 2 _ _ _ ha
  have a3 : w2.cell? ⟨w.heap.size, 3, none⟩ = some (.int .i64 6) := cell_of_row w2 _ 3 _ _ _ ha
  have a4 : w2.cell? ⟨w.heap.size, 4, none⟩ = some (.string ri) := cell_of_row w2 _ 4 _ _ _ ha
  have a5 : w2.cell? ⟨w.heap.size, 5, none⟩ = some (.string ca) := cell_of_row w2 _ 5 _ _ _ ha
  have a6 : w2.cell? ⟨w.heap.size, 6, none⟩ = some (.string nd) := cell_of_row w2 _ 6 _ _ _ ha
  have a7 : w2.cell? ⟨w.heap.size, 7, none⟩ = some (.int .i64 up) := cell_of_row w2 _ 7 _ _ _ ha
  have a8 : w2.cell? ⟨w.heap.size, 8, none⟩ = some (.int .i64 dn) := cell_of_row w2 _ 8 _ _ _ ha
  have a9 : w2.cell? ⟨w.heap.size, 9, none⟩ = some (.string fo) := cell_of_row w2 _ 9 _ _ _ ha
  have a10 : w2.cell? ⟨w.heap.size, 10, none⟩ = some (.int .i64 nu) := cell_of_row w2 _ 10 _ _ _ ha
  have b0 : w2.cell? ⟨w.heap.size + 1, 0, none⟩ = some (.string ⟨#[]⟩) := cell_of_row w2 _ 0 _ _ _ hb
  have b1 : w2.cell? ⟨w.heap.size + 1, 1, none⟩ = some (.int .i64 0) := cell_of_row w2 _ 1 _ _ _ hb
  have b2 : w2.cell? ⟨w.heap.size + 1, 2, none⟩ = some (.int .i64 0) := cell_of_row w2 _ 2 _ _ _ hb
  have b3 : w2.cell? ⟨w.heap.size + 1, 3, none⟩ = some (.int .i64 0) := cell_of_row w2 _ 3 _ _ _ hb
  have b4 : w2.cell? ⟨w.heap.size + 1, 4, none⟩ = some (.string ⟨#[]⟩) := cell_of_row w2 _ 4 _ _ _ hb
  have b5 : w2.cell? ⟨w.heap.size + 1, 5, none⟩ = some (.string ⟨#[]⟩) := cell_of_row w2 _ 5 _ _ _ hb
  have b6 : w2.cell? ⟨w.heap.size + 1, 6, none⟩ = some (.string ⟨#[]⟩) := cell_of_row w2 _ 6 _ _ _ hb
  have b7 : w2.cell? ⟨w.heap.size + 1, 7, none⟩ = some (.int .i64 0) := cell_of_row w2 _ 7 _ _ _ hb
  have b8 : w2.cell? ⟨w.heap.size + 1, 8, none⟩ = some (.int .i64 0) := cell_of_row w2 _ 8 _ _ _ hb
  have b9 : w2.cell? ⟨w.heap.size + 1, 9, none⟩ = some (.string ⟨#[]⟩) := cell_of_row w2 _ 9 _ _ _ hb
  have b10 : w2.cell? ⟨w.heap.size + 1, 10, none⟩ = some (.int .i64 0) := cell_of_row w2 _ 10 _ _ _ hb
  have hfz : ∀ i, w2.frozen? ⟨w.heap.size + 1, i, none⟩ = false := fun i => by simp [World.frozen?, hb]
  have hs2 : w2.heap.size = w.heap.size + 2 := by rw [hw2]; simp
  have HN2 := hide hn2
  have HS2 := hide hs2
  obtain ⟨g, hg⟩ : ∃ g, g = w.heap.size := ⟨_, rfl⟩
  rw [← hg] at a0 a1 a2 a3 a4 a5 a6 a7 a8 a9 a10 b0 b1 b2 b3 b4 b5 b6 b7 b8 b9 b10 hfz
  have hgl : g + 1 < w2.heap.size := by omega
  have hgl0 : g < w2.heap.size := by omega
  clear ha hb hn2 hs2
  go_enter Tryz.func81, Tryz.ntmps81
  go_upto_region 1 with fail
  rw [← hw2, ← hg]
  have HG := hide hg
  clear hw2 hg
  go_wp2_with fail
  all_goals
    have hgg : w.heap.size ≤ g + 1 := by have := HG.out; omega
    exact bodyPost_ret (v := .agg #[.string so, .int .i64 no, .int .i64 at_, .int .i64 6, .string ri, .string ⟨#[]⟩, .string ⟨#[]⟩, .int .i64 0, .int .i64 0, .string ⟨#[]⟩, .int .i64 0]) (by simp [results, Tryz.results81, go_sem, b0, b1, b2, b3, b4, b5, b6, b7, b8, b9, b10, hgl]) rfl ⟨rfl, by repeat (first | with_reducible exact HN2.out | with_reducible refine Nx.alloc ?_ _ | with_reducible refine Nx.drew ?_ | with_reducible refine Nx.setg ?_ hgg _)⟩
set_option maxRecDepth 100000 in
set_option maxHeartbeats 2000000 in
theorem w_lean7 (so : ByteArray) (no at_ : Int) (ri ca nd : ByteArray) (up dn : Int) (fo : ByteArray) (nu : Int) (w : World) :
    Calls Tryz.prog 81 #[.agg #[.string so, .int .i64 no, .int .i64 at_, .int .i64 7, .string ri, .string ca, .string nd, .int .i64 up, .int .i64 dn, .string fo, .int .i64 nu]] w fun e w' => e = .returned (.agg #[.string so, .int .i64 no, .int .i64 at_, .int .i64 7, .string ⟨#[]⟩, .string ca, .string nd, .int .i64 0, .int .i64 0, .string ⟨#[]⟩, .int .i64 0]) ∧ Nx w w' := by
  obtain ⟨w2, hw2⟩ : ∃ w2, w2 = (w.alloc (.cells #[.string so, .int .i64 no, .int .i64 at_, .int .i64 7, .string ri, .string ca, .string nd, .int .i64 up, .int .i64 dn, .string fo, .int .i64 nu] 31 (0, 0))).alloc (.cells #[.string ⟨#[]⟩, .int .i64 0, .int .i64 0, .int .i64 0, .string ⟨#[]⟩, .string ⟨#[]⟩, .string ⟨#[]⟩, .int .i64 0, .int .i64 0, .string ⟨#[]⟩, .int .i64 0] 31 (0, 0)) := ⟨_, rfl⟩
  have hn2 : Nx w w2 := hw2 ▸ ((Nx.refl w).alloc _).alloc _
  have hb : w2.heap[w.heap.size + 1]? = some (.cells #[.string ⟨#[]⟩, .int .i64 0, .int .i64 0, .int .i64 0, .string ⟨#[]⟩, .string ⟨#[]⟩, .string ⟨#[]⟩, .int .i64 0, .int .i64 0, .string ⟨#[]⟩, .int .i64 0] 31 (0, 0)) := by
    rw [hw2]
    have := heap_alloc_new (w.alloc (.cells #[.string so, .int .i64 no, .int .i64 at_, .int .i64 7, .string ri, .string ca, .string nd, .int .i64 up, .int .i64 dn, .string fo, .int .i64 nu] 31 (0, 0))) (.cells #[.string ⟨#[]⟩, .int .i64 0, .int .i64 0, .int .i64 0, .string ⟨#[]⟩, .string ⟨#[]⟩, .string ⟨#[]⟩, .int .i64 0, .int .i64 0, .string ⟨#[]⟩, .int .i64 0] 31 (0, 0))
    simpa using this
  have ha : w2.heap[w.heap.size]? = some (.cells #[.string so, .int .i64 no, .int .i64 at_, .int .i64 7, .string ri, .string ca, .string nd, .int .i64 up, .int .i64 dn, .string fo, .int .i64 nu] 31 (0, 0)) := by
    rw [hw2]; exact (((Nx.refl _).alloc _).block _ (by simp)).trans (heap_alloc_new w _)
  have a0 : w2.cell? ⟨w.heap.size, 0, none⟩ = some (.string so) := cell_of_row w2 _ 0 _ _ _ ha
  have a1 : w2.cell? ⟨w.heap.size, 1, none⟩ = some (.int .i64 no) := cell_of_row w2 _ 1 _ _ _ ha
  have a2 : w2.cell? ⟨w.heap.size, 2, none⟩ = some (.int .i64 at_) := cell_of_row w2 _ 2 _ _ _ ha
  have a3 : w2.cell? ⟨w.heap.size, 3, none⟩ = some (.int .i64 7) := cell_of_row w2 _ 3 _ _ _ ha
  have a4 : w2.cell? ⟨w.heap.size, 4, none⟩ = some (.string ri) := cell_of_row w2 _ 4 _ _ _ ha
  have a5 : w2.cell? ⟨w.heap.size, 5, none⟩ = some (.string ca) := cell_of_row w2 _ 5 _ _ _ ha
  have a6 : w2.cell? ⟨w.heap.size, 6, none⟩ = some (.string nd) := cell_of_row w2 _ 6 _ _ _ ha
  have a7 : w2.cell? ⟨w.heap.size, 7, none⟩ = some (.int .i64 up) := cell_of_row w2 _ 7 _ _ _ ha
  have a8 : w2.cell? ⟨w.heap.size, 8, none⟩ = some (.int .i64 dn) := cell_of_row w2 _ 8 _ _ _ ha
  have a9 : w2.cell? ⟨w.heap.size, 9, none⟩ = some (.string fo) := cell_of_row w2 _ 9 _ _ _ ha
  have a10 : w2.cell? ⟨w.heap.size, 10, none⟩ = some (.int .i64 nu) := cell_of_row w2 _ 10 _ _ _ ha
  have b0 : w2.cell? ⟨w.heap.size + 1, 0, none⟩ = some (.string ⟨#[]⟩) := cell_of_row w2 _ 0 _ _ _ hb
  have b1 : w2.cell? ⟨w.heap.size + 1, 1, none⟩ = some (.int .i64 0) := cell_of_row w2 _ 1 _ _ _ hb
  have b2 : w2.cell? ⟨w.heap.size + 1, 2, none⟩ = some (.int .i64 0) := cell_of_row w2 _ 2 _ _ _ hb
  have b3 : w2.cell? ⟨w.heap.size + 1, 3, none⟩ = some (.int .i64 0) := cell_of_row w2 _ 3 _ _ _ hb
  have b4 : w2.cell? ⟨w.heap.size + 1, 4, none⟩ = some (.string ⟨#[]⟩) := cell_of_row w2 _ 4 _ _ _ hb
  have b5 : w2.cell? ⟨w.heap.size + 1, 5, none⟩ = some (.string ⟨#[]⟩) := cell_of_row w2 _ 5 _ _ _ hb
  have b6 : w2.cell? ⟨w.heap.size + 1, 6, none⟩ = some (.string ⟨#[]⟩) := cell_of_row w2 _ 6 _ _ _ hb
  have b7 : w2.cell? ⟨w.heap.size + 1, 7, none⟩ = some (.int .i64 0) := cell_of_row w2 _ 7 _ _ _ hb
  have b8 : w2.cell? ⟨w.heap.size + 1, 8, none⟩ = some (.int .i64 0) := cell_of_row w2 _ 8 _ _ _ hb
  have b9 : w2.cell? ⟨w.heap.size + 1, 9, none⟩ = some (.string ⟨#[]⟩) := cell_of_row w2 _ 9 _ _ _ hb
  have b10 : w2.cell? ⟨w.heap.size + 1, 10, none⟩ = some (.int .i64 0) := cell_of_row w2 _ 10 _ _ _ hb
  have hfz : ∀ i, w2.frozen? ⟨w.heap.size + 1, i, none⟩ = false := fun i => by simp [World.frozen?, hb]
  have hs2 : w2.heap.size = w.heap.size + 2 := by rw [hw2]; simp
  have HN2 := hide hn2
  have HS2 := hide hs2
  obtain ⟨g, hg⟩ : ∃ g, g = w.heap.size := ⟨_, rfl⟩
  rw [← hg] at a0 a1 a2 a3 a4 a5 a6 a7 a8 a9 a10 b0 b1 b2 b3 b4 b5 b6 b7 b8 b9 b10 hfz
  have hgl : g + 1 < w2.heap.size := by omega
  have hgl0 : g < w2.heap.size := by omega
  clear ha hb hn2 hs2
  go_enter Tryz.func81, Tryz.ntmps81
  go_upto_region 1 with fail
  rw [← hw2, ← hg]
  have HG := hide hg
  clear hw2 hg
  go_upto_region 14 with fail
  go_region
  all_goals (go_wp2_with fail)
  all_goals
    have hgg : w.heap.size ≤ g + 1 := by have := HG.out; omega
    exact bodyPost_ret (v := .agg #[.string so, .int .i64 no, .int .i64 at_, .int .i64 7, .string ⟨#[]⟩, .string ca, .string nd, .int .i64 0, .int .i64 0, .string ⟨#[]⟩, .int .i64 0]) (by simp [results, Tryz.results81, go_sem, b0, b1, b2, b3, b4, b5, b6, b7, b8, b9, b10, hgl]) rfl ⟨rfl, by repeat (first | with_reducible exact HN2.out | with_reducible refine Nx.alloc ?_ _ | with_reducible refine Nx.drew ?_ | with_reducible refine Nx.setg ?_ hgg _)⟩
set_option maxRecDepth 100000 in
set_option maxHeartbeats 2000000 in
theorem w_lean8 (so : ByteArray) (no at_ : Int) (ri ca nd : ByteArray) (up dn : Int) (fo : ByteArray) (nu : Int) (w : World) :
    Calls Tryz.prog 81 #[.agg #[.string so, .int .i64 no, .int .i64 at_, .int .i64 8, .string ri, .string ca, .string nd, .int .i64 up, .int .i64 dn, .string fo, .int .i64 nu]] w fun e w' => e = .returned (.agg #[.string so, .int .i64 no, .int .i64 at_, .int .i64 8, .string ⟨#[]⟩, .string ca, .string ⟨#[]⟩, .int .i64 0, .int .i64 0, .string ⟨#[]⟩, .int .i64 0]) ∧ Nx w w' := by
  obtain ⟨w2, hw2⟩ : ∃ w2, w2 = (w.alloc (.cells #[.string so, .int .i64 no, .int .i64 at_, .int .i64 8, .string ri, .string ca, .string nd, .int .i64 up, .int .i64 dn, .string fo, .int .i64 nu] 31 (0, 0))).alloc (.cells #[.string ⟨#[]⟩, .int .i64 0, .int .i64 0, .int .i64 0, .string ⟨#[]⟩, .string ⟨#[]⟩, .string ⟨#[]⟩, .int .i64 0, .int .i64 0, .string ⟨#[]⟩, .int .i64 0] 31 (0, 0)) := ⟨_, rfl⟩
  have hn2 : Nx w w2 := hw2 ▸ ((Nx.refl w).alloc _).alloc _
  have hb : w2.heap[w.heap.size + 1]? = some (.cells #[.string ⟨#[]⟩, .int .i64 0, .int .i64 0, .int .i64 0, .string ⟨#[]⟩, .string ⟨#[]⟩, .string ⟨#[]⟩, .int .i64 0, .int .i64 0, .string ⟨#[]⟩, .int .i64 0] 31 (0, 0)) := by
    rw [hw2]
    have := heap_alloc_new (w.alloc (.cells #[.string so, .int .i64 no, .int .i64 at_, .int .i64 8, .string ri, .string ca, .string nd, .int .i64 up, .int .i64 dn, .string fo, .int .i64 nu] 31 (0, 0))) (.cells #[.string ⟨#[]⟩, .int .i64 0, .int .i64 0, .int .i64 0, .string ⟨#[]⟩, .string ⟨#[]⟩, .string ⟨#[]⟩, .int .i64 0, .int .i64 0, .string ⟨#[]⟩, .int .i64 0] 31 (0, 0))
    simpa using this
  have ha : w2.heap[w.heap.size]? = some (.cells #[.string so, .int .i64 no, .int .i64 at_, .int .i64 8, .string ri, .string ca, .string nd, .int .i64 up, .int .i64 dn, .string fo, .int .i64 nu] 31 (0, 0)) := by
    rw [hw2]; exact (((Nx.refl _).alloc _).block _ (by simp)).trans (heap_alloc_new w _)
  have a0 : w2.cell? ⟨w.heap.size, 0, none⟩ = some (.string so) := cell_of_row w2 _ 0 _ _ _ ha
  have a1 : w2.cell? ⟨w.heap.size, 1, none⟩ = some (.int .i64 no) := cell_of_row w2 _ 1 _ _ _ ha
  have a2 : w2.cell? ⟨w.heap.size, 2, none⟩ = some (.int .i64 at_) := cell_of_row w2 _ 2 _ _ _ ha
  have a3 : w2.cell? ⟨w.heap.size, 3, none⟩ = some (.int .i64 8) := cell_of_row w2 _ 3 _ _ _ ha
  have a4 : w2.cell? ⟨w.heap.size, 4, none⟩ = some (.string ri) := cell_of_row w2 _ 4 _ _ _ ha
  have a5 : w2.cell? ⟨w.heap.size, 5, none⟩ = some (.string ca) := cell_of_row w2 _ 5 _ _ _ ha
  have a6 : w2.cell? ⟨w.heap.size, 6, none⟩ = some (.string nd) := cell_of_row w2 _ 6 _ _ _ ha
  have a7 : w2.cell? ⟨w.heap.size, 7, none⟩ = some (.int .i64 up) := cell_of_row w2 _ 7 _ _ _ ha
  have a8 : w2.cell? ⟨w.heap.size, 8, none⟩ = some (.int .i64 dn) := cell_of_row w2 _ 8 _ _ _ ha
  have a9 : w2.cell? ⟨w.heap.size, 9, none⟩ = some (.string fo) := cell_of_row w2 _ 9 _ _ _ ha
  have a10 : w2.cell? ⟨w.heap.size, 10, none⟩ = some (.int .i64 nu) := cell_of_row w2 _ 10 _ _ _ ha
  have b0 : w2.cell? ⟨w.heap.size + 1, 0, none⟩ = some (.string ⟨#[]⟩) := cell_of_row w2 _ 0 _ _ _ hb
  have b1 : w2.cell? ⟨w.heap.size + 1, 1, none⟩ = some (.int .i64 0) := cell_of_row w2 _ 1 _ _ _ hb
  have b2 : w2.cell? ⟨w.heap.size + 1, 2, none⟩ = some (.int .i64 0) := cell_of_row w2 _ 2 _ _ _ hb
  have b3 : w2.cell? ⟨w.heap.size + 1, 3, none⟩ = some (.int .i64 0) := cell_of_row w2 _ 3 _ _ _ hb
  have b4 : w2.cell? ⟨w.heap.size + 1, 4, none⟩ = some (.string ⟨#[]⟩) := cell_of_row w2 _ 4 _ _ _ hb
  have b5 : w2.cell? ⟨w.heap.size + 1, 5, none⟩ = some (.string ⟨#[]⟩) := cell_of_row w2 _ 5 _ _ _ hb
  have b6 : w2.cell? ⟨w.heap.size + 1, 6, none⟩ = some (.string ⟨#[]⟩) := cell_of_row w2 _ 6 _ _ _ hb
  have b7 : w2.cell? ⟨w.heap.size + 1, 7, none⟩ = some (.int .i64 0) := cell_of_row w2 _ 7 _ _ _ hb
  have b8 : w2.cell? ⟨w.heap.size + 1, 8, none⟩ = some (.int .i64 0) := cell_of_row w2 _ 8 _ _ _ hb
  have b9 : w2.cell? ⟨w.heap.size + 1, 9, none⟩ = some (.string ⟨#[]⟩) := cell_of_row w2 _ 9 _ _ _ hb
  have b10 : w2.cell? ⟨w.heap.size + 1, 10, none⟩ = some (.int .i64 0) := cell_of_row w2 _ 10 _ _ _ hb
  have hfz : ∀ i, w2.frozen? ⟨w.heap.size + 1, i, none⟩ = false := fun i => by simp [World.frozen?, hb]
  have hs2 : w2.heap.size = w.heap.size + 2 := by rw [hw2]; simp
  have HN2 := hide hn2
  have HS2 := hide hs2
  obtain ⟨g, hg⟩ : ∃ g, g = w.heap.size := ⟨_, rfl⟩
  rw [← hg] at a0 a1 a2 a3 a4 a5 a6 a7 a8 a9 a10 b0 b1 b2 b3 b4 b5 b6 b7 b8 b9 b10 hfz
  have hgl : g + 1 < w2.heap.size := by omega
  have hgl0 : g < w2.heap.size := by omega
  clear ha hb hn2 hs2
  go_enter Tryz.func81, Tryz.ntmps81
  go_upto_region 1 with fail
  rw [← hw2, ← hg]
  have HG := hide hg
  clear hw2 hg
  go_wp2_with fail
  all_goals
    have hgg : w.heap.size ≤ g + 1 := by have := HG.out; omega
    exact bodyPost_ret (v := .agg #[.string so, .int .i64 no, .int .i64 at_, .int .i64 8, .string ⟨#[]⟩, .string ca, .string ⟨#[]⟩, .int .i64 0, .int .i64 0, .string ⟨#[]⟩, .int .i64 0]) (by simp [results, Tryz.results81, go_sem, b0, b1, b2, b3, b4, b5, b6, b7, b8, b9, b10, hgl]) rfl ⟨rfl, by repeat (first | with_reducible exact HN2.out | with_reducible refine Nx.alloc ?_ _ | with_reducible refine Nx.drew ?_ | with_reducible refine Nx.setg ?_ hgg _)⟩
set_option maxRecDepth 100000 in
set_option maxHeartbeats 2000000 in
theorem w_lean9 (so : ByteArray) (no at_ : Int) (ri ca nd : ByteArray) (up dn : Int) (fo : ByteArray) (nu : Int) (w : World) :
    Calls Tryz.prog 81 #[.agg #[.string so, .int .i64 no, .int .i64 at_, .int .i64 9, .string ri, .string ca, .string nd, .int .i64 up, .int .i64 dn, .string fo, .int .i64 nu]] w fun e w' => e = .returned (.agg #[.string so, .int .i64 no, .int .i64 at_, .int .i64 9, .string ⟨#[]⟩, .string ⟨#[]⟩, .string ⟨#[]⟩, .int .i64 0, .int .i64 0, .string fo, .int .i64 nu]) ∧ Nx w w' := by
  obtain ⟨w2, hw2⟩ : ∃ w2, w2 = (w.alloc (.cells #[.string so, .int .i64 no, .int .i64 at_, .int .i64 9, .string ri, .string ca, .string nd, .int .i64 up, .int .i64 dn, .string fo, .int .i64 nu] 31 (0, 0))).alloc (.cells #[.string ⟨#[]⟩, .int .i64 0, .int .i64 0, .int .i64 0, .string ⟨#[]⟩, .string ⟨#[]⟩, .string ⟨#[]⟩, .int .i64 0, .int .i64 0, .string ⟨#[]⟩, .int .i64 0] 31 (0, 0)) := ⟨_, rfl⟩
  have hn2 : Nx w w2 := hw2 ▸ ((Nx.refl w).alloc _).alloc _
  have hb : w2.heap[w.heap.size + 1]? = some (.cells #[.string ⟨#[]⟩, .int .i64 0, .int .i64 0, .int .i64 0, .string ⟨#[]⟩, .string ⟨#[]⟩, .string ⟨#[]⟩, .int .i64 0, .int .i64 0, .string ⟨#[]⟩, .int .i64 0] 31 (0, 0)) := by
    rw [hw2]
    have := heap_alloc_new (w.alloc (.cells #[.string so, .int .i64 no, .int .i64 at_, .int .i64 9, .string ri, .string ca, .string nd, .int .i64 up, .int .i64 dn, .string fo, .int .i64 nu] 31 (0, 0))) (.cells #[.string ⟨#[]⟩, .int .i64 0, .int .i64 0, .int .i64 0, .string ⟨#[]⟩, .string ⟨#[]⟩, .string ⟨#[]⟩, .int .i64 0, .int .i64 0, .string ⟨#[]⟩, .int .i64 0] 31 (0, 0))
    simpa using this
  have ha : w2.heap[w.heap.size]? = some (.cells #[.string so, .int .i64 no, .int .i64 at_, .int .i64 9, .string ri, .string ca, .string nd, .int .i64 up, .int .i64 dn, .string fo, .int .i64 nu] 31 (0, 0)) := by
    rw [hw2]; exact (((Nx.refl _).alloc _).block _ (by simp)).trans (heap_alloc_new w _)
  have a0 : w2.cell? ⟨w.heap.size, 0, none⟩ = some (.string so) := cell_of_row w2 _ 0 _ _ _ ha
  have a1 : w2.cell? ⟨w.heap.size, 1, none⟩ = some (.int .i64 no) := cell_of_row w2 _ 1 _ _ _ ha
  have a2 : w2.cell? ⟨w.heap.size, 2, none⟩ = some (.int .i64 at_) := cell_of_row w2 _ 2 _ _ _ ha
  have a3 : w2.cell? ⟨w.heap.size, 3, none⟩ = some (.int .i64 9) := cell_of_row w2 _ 3 _ _ _ ha
  have a4 : w2.cell? ⟨w.heap.size, 4, none⟩ = some (.string ri) := cell_of_row w2 _ 4 _ _ _ ha
  have a5 : w2.cell? ⟨w.heap.size, 5, none⟩ = some (.string ca) := cell_of_row w2 _ 5 _ _ _ ha
  have a6 : w2.cell? ⟨w.heap.size, 6, none⟩ = some (.string nd) := cell_of_row w2 _ 6 _ _ _ ha
  have a7 : w2.cell? ⟨w.heap.size, 7, none⟩ = some (.int .i64 up) := cell_of_row w2 _ 7 _ _ _ ha
  have a8 : w2.cell? ⟨w.heap.size, 8, none⟩ = some (.int .i64 dn) := cell_of_row w2 _ 8 _ _ _ ha
  have a9 : w2.cell? ⟨w.heap.size, 9, none⟩ = some (.string fo) := cell_of_row w2 _ 9 _ _ _ ha
  have a10 : w2.cell? ⟨w.heap.size, 10, none⟩ = some (.int .i64 nu) := cell_of_row w2 _ 10 _ _ _ ha
  have b0 : w2.cell? ⟨w.heap.size + 1, 0, none⟩ = some (.string ⟨#[]⟩) := cell_of_row w2 _ 0 _ _ _ hb
  have b1 : w2.cell? ⟨w.heap.size + 1, 1, none⟩ = some (.int .i64 0) := cell_of_row w2 _ 1 _ _ _ hb
  have b2 : w2.cell? ⟨w.heap.size + 1, 2, none⟩ = some (.int .i64 0) := cell_of_row w2 _ 2 _ _ _ hb
  have b3 : w2.cell? ⟨w.heap.size + 1, 3, none⟩ = some (.int .i64 0) := cell_of_row w2 _ 3 _ _ _ hb
  have b4 : w2.cell? ⟨w.heap.size + 1, 4, none⟩ = some (.string ⟨#[]⟩) := cell_of_row w2 _ 4 _ _ _ hb
  have b5 : w2.cell? ⟨w.heap.size + 1, 5, none⟩ = some (.string ⟨#[]⟩) := cell_of_row w2 _ 5 _ _ _ hb
  have b6 : w2.cell? ⟨w.heap.size + 1, 6, none⟩ = some (.string ⟨#[]⟩) := cell_of_row w2 _ 6 _ _ _ hb
  have b7 : w2.cell? ⟨w.heap.size + 1, 7, none⟩ = some (.int .i64 0) := cell_of_row w2 _ 7 _ _ _ hb
  have b8 : w2.cell? ⟨w.heap.size + 1, 8, none⟩ = some (.int .i64 0) := cell_of_row w2 _ 8 _ _ _ hb
  have b9 : w2.cell? ⟨w.heap.size + 1, 9, none⟩ = some (.string ⟨#[]⟩) := cell_of_row w2 _ 9 _ _ _ hb
  have b10 : w2.cell? ⟨w.heap.size + 1, 10, none⟩ = some (.int .i64 0) := cell_of_row w2 _ 10 _ _ _ hb
  have hfz : ∀ i, w2.frozen? ⟨w.heap.size + 1, i, none⟩ = false := fun i => by simp [World.frozen?, hb]
  have hs2 : w2.heap.size = w.heap.size + 2 := by rw [hw2]; simp
  have HN2 := hide hn2
  have HS2 := hide hs2
  obtain ⟨g, hg⟩ : ∃ g, g = w.heap.size := ⟨_, rfl⟩
  rw [← hg] at a0 a1 a2 a3 a4 a5 a6 a7 a8 a9 a10 b0 b1 b2 b3 b4 b5 b6 b7 b8 b9 b10 hfz
  have hgl : g + 1 < w2.heap.size := by omega
  have hgl0 : g < w2.heap.size := by omega
  clear ha hb hn2 hs2
  go_enter Tryz.func81, Tryz.ntmps81
  go_upto_region 1 with fail
  rw [← hw2, ← hg]
  have HG := hide hg
  clear hw2 hg
  go_upto_region 18 with fail
  go_region
  all_goals (go_wp2_with fail)
  all_goals
    have hgg : w.heap.size ≤ g + 1 := by have := HG.out; omega
    exact bodyPost_ret (v := .agg #[.string so, .int .i64 no, .int .i64 at_, .int .i64 9, .string ⟨#[]⟩, .string ⟨#[]⟩, .string ⟨#[]⟩, .int .i64 0, .int .i64 0, .string fo, .int .i64 nu]) (by simp [results, Tryz.results81, go_sem, b0, b1, b2, b3, b4, b5, b6, b7, b8, b9, b10, hgl]) rfl ⟨rfl, by repeat (first | with_reducible exact HN2.out | with_reducible refine Nx.alloc ?_ _ | with_reducible refine Nx.drew ?_ | with_reducible refine Nx.setg ?_ hgg _)⟩
theorem w_leanEvent (x : Ev) (w : World) : Calls Tryz.prog 81 #[.agg (evA x)] w fun e w' => e = .returned (.agg (evA (leanE x))) ∧ Nx w w' := by
  obtain ⟨so, no, at_, ki, ri, ca, nd, up, dn, fo, nu⟩ := x
  by_cases hk : (ki == 1) = false ∧ (ki == 2) = false ∧ (ki == 3) = false ∧ (ki == 4) = false ∧ (ki == 5) = false ∧ (ki == 6) = false ∧ (ki == 7) = false ∧ (ki == 8) = false ∧ (ki == 9) = false
  · have he : leanE ⟨so, no, at_, ki, ri, ca, nd, up, dn, fo, nu⟩ = ⟨so, no, at_, ki, ⟨#[]⟩, ⟨#[]⟩, ⟨#[]⟩, 0, 0, ⟨#[]⟩, 0⟩ := by
      obtain ⟨k1, k2, k3, k4, k5, k6, k7, k8, k9⟩ := hk
      simp [leanE, uRide, uCar, uNode, uBook, uUndo, k1, k2, k3, k4, k5, k6, k7, k8, k9, eB]
    rw [he]
    exact w_lean0 so no at_ ki ri ca nd up dn fo nu w hk
  · have hk : ki = 1 ∨ ki = 2 ∨ ki = 3 ∨ ki = 4 ∨ ki = 5 ∨ ki = 6 ∨ ki = 7 ∨ ki = 8 ∨ ki = 9 := by
      simp only [beq_eq_false_iff_ne] at hk; omega
    rcases hk with rfl | rfl | rfl | rfl | rfl | rfl | rfl | rfl | rfl
    · exact w_lean1 so no at_ ri ca nd up dn fo nu w
    · exact w_lean2 so no at_ ri ca nd up dn fo nu w
    · exact w_lean3 so no at_ ri ca nd up dn fo nu w
    · exact w_lean4 so no at_ ri ca nd up dn fo nu w
    · exact w_lean5 so no at_ ri ca nd up dn fo nu w
    · exact w_lean6 so no at_ ri ca nd up dn fo nu w
    · exact w_lean7 so no at_ ri ca nd up dn fo nu w
    · exact w_lean8 so no at_ ri ca nd up dn fo nu w
    · exact w_lean9 so no at_ ri ca nd up dn fo nu w
end Go.Proofs.YtfkmbeppckelfaaGreatDoor
