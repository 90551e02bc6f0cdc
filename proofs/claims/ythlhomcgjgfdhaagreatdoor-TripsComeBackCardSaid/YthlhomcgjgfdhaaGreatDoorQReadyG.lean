/- One event followed: the day. -/
import Derived.Test.YthlhomcgjgfdhaaGreatDoorQReadyF
namespace Go.Proofs.YthlhomcgjgfdhaaGreatDoor
open Go.RowKit Go.Maps

/-- The day behind one booking. -/
def DayEx (w : World) (e : Ending) (w' : World) : Prop :=
  ∃ (d rb p : Nat), e = .returned (.pointer (some ⟨d, 0, none⟩)) ∧ w'.cell? ⟨d, 1, none⟩ = some (.map (some rb)) ∧ w.heap.size ≤ p ∧ p ≠ rb ∧ w.heap.size ≤ rb ∧ w'.heap[p]? = some (.cells exSt 177 (0, 0)) ∧ MpSP w' rb 1 (fun k => if k = sR then some (some p) else none) ∧ Nx w w'
set_option maxRecDepth 100000 in
set_option maxHeartbeats 4000000 in
theorem w_followEx (g c : Nat) (w : World) (hg : w.heap[g]? = some (.cells exEv 130 (0, 0))) :
    Calls Tryz.prog 118 #[.slice (some ⟨g, 0, none⟩) 1 c, .int .i64 3, .nilFunc] w (DayEx w) := by
  have hgl : g < w.heap.size := (Array.getElem?_eq_some_iff.1 hg).1
  have hmm := @run_makeMap Tryz.prog
  have hnf : ∀ w, (binOp .neq 170 .nilFunc .nilFunc).run Tryz.prog w = .ok (.bool false) w := fun w => by kernel_rfl
  have hne : ¬ (⟨⟨#[]⟩, 0⟩ : EvName) = exName := by decide
  have HG := hide hg
  clear hg
  go_enter Tryz.func118, Tryz.ntmps118
  go_wp2_with fail
  obtain ⟨w5, hw5⟩ : ∃ w5, w5 = ((((w.alloc (.map #[] 0)).alloc (.map #[] 0)).alloc (.map #[] 0)).alloc (.map #[] 0)).alloc (.cells #[.slice (some ⟨g, 0, none⟩) 1 c, .map (some w.heap.size), .map (some (w.heap.size + 1)), .slice none 0 0, .map (some (w.heap.size + 1 + 1)), .map (some (w.heap.size + 1 + 1 + 1)), .nilFunc] 172) := ⟨_, rfl⟩
  have hx5 : Nx w w5 := hw5 ▸ (((((Nx.refl w).alloc _).alloc _).alloc _).alloc _).alloc _
  have hM5 : MpSP w5 w.heap.size 0 (fun _ => none) := by
    rw [hw5]; exact (MgI.made w).nx (((((Nx.refl _).alloc _).alloc _).alloc _).alloc _)
  have hG5 : MpII w5 (w.heap.size + 1 + 1) 0 (fun _ => none) := by
    have h : MpII (((w.alloc (.map #[] 0)).alloc (.map #[] 0)).alloc (.map #[] 0)) ((w.alloc (.map #[] 0)).alloc (.map #[] 0)).heap.size 0 (fun _ => none) := MgI.made ((w.alloc (.map #[] 0)).alloc (.map #[] 0))
    rw [show ((w.alloc (.map #[] 0)).alloc (.map #[] 0)).heap.size = w.heap.size + 1 + 1 by simp] at h
    rw [hw5]; exact h.nx (((Nx.refl _).alloc _).alloc _)
  have hd5 : w.heap.size + 1 + 1 + 1 + 1 < w5.heap.size := by rw [hw5]; simp
  have y1 : w5.cell? ⟨w.heap.size + 1 + 1 + 1 + 1, 1, none⟩ = some (.map (some w.heap.size)) := by rw [hw5]; go_simp
  have y4 : w5.cell? ⟨w.heap.size + 1 + 1 + 1 + 1, 4, none⟩ = some (.map (some (w.heap.size + 1 + 1))) := by rw [hw5]; go_simp
  have y6 : w5.cell? ⟨w.heap.size + 1 + 1 + 1 + 1, 6, none⟩ = some .nilFunc := by rw [hw5]; go_simp
  have hg5 := nx_heap hx5 HG.out
  rw [← hw5]
  clear hw5
  obtain ⟨rb, hrb⟩ : ∃ rb, rb = w.heap.size := ⟨_, rfl⟩
  rw [← hrb] at hM5 hG5 hd5 y1 y4 y6 ⊢
  refine (w_byNameEx g c w5 hg5).mono ?_
  rintro e w6 ⟨nb, rfl, hnb, hN6, hn6⟩
  have hM6 := hM5.nx hn6
  have hG6 := hG5.nx hn6
  have z1 := nx_cell hn6 hd5 y1
  have z4 := nx_cell hn6 hd5 y4
  have z6 := nx_cell hn6 hd5 y6
  have hd6 := Nat.lt_of_lt_of_le hd5 hn6.sz
  have hg6 := nx_heap hn6 hg5
  have hgl6 : g < w6.heap.size := (Array.getElem?_eq_some_iff.1 hg6).1
  have a0 := cell_of_row w6 g 0 _ _ _ hg6
  have a1 := cell_of_row w6 g 1 _ _ _ hg6
  have a2 := cell_of_row w6 g 2 _ _ _ hg6
  have a3 := cell_of_row w6 g 3 _ _ _ hg6
  have a4 := cell_of_row w6 g 4 _ _ _ hg6
  have a5 := cell_of_row w6 g 5 _ _ _ hg6
  have a6 := cell_of_row w6 g 6 _ _ _ hg6
  have a7 := cell_of_row w6 g 7 _ _ _ hg6
  have a8 := cell_of_row w6 g 8 _ _ _ hg6
  have a9 := cell_of_row w6 g 9 _ _ _ hg6
  have a10 := cell_of_row w6 g 10 _ _ _ hg6
  simp [exEv] at a0 a1 a2 a3 a4 a5 a6 a7 a8 a9 a10
  have HRB := hide hrb
  have HG5 := hide hg5
  have HG6 := hide hg6
  have hdn : domName ⟨⟨#[]⟩, 0⟩ := ⟨by decide, by decide⟩
  obtain ⟨kl, hkey⟩ := key_name ⟨⟨#[]⟩, 0⟩ hdn
  clear hmm hrb hM5 hG5 y1 y4 y6 hg5 hg6
  go_wp2_with fail
  refine wp_loop_rounds 2 ?_
  rw [rounds_succ]
  go_wp2_with (at_lookup; refine wpMgLookOk _ rfl _ _ _ rfl intE law_name Tryz.underlying221 (z := (0 : Int)) (by decide) (zeroIntE _) nb 1 _ rfl (hN6.nx ((Nx.refl _).alloc _)) ⟨⟨#[]⟩, 0⟩ rfl hdn _ hkey ?_)
  rw [rounds_succ]
  go_wp2_with fail
  refine wp_loop_rounds 2 ?_
  rw [rounds_succ]
  have hn8 : Nx w6 ((w6.alloc (.cells #[.string sS, .int .i64 1, .int .i64 0, .int .i64 1, .string sR, .string ⟨#[]⟩, .string ⟨#[]⟩, .int .i64 5, .int .i64 9, .string ⟨#[]⟩, .int .i64 0] 130)).alloc (.cells #[.string sS, .int .i64 1, .int .i64 0, .int .i64 1, .string sR, .string ⟨#[]⟩, .string ⟨#[]⟩, .int .i64 5, .int .i64 9, .string ⟨#[]⟩, .int .i64 0] 130)) := ((Nx.refl w6).alloc _).alloc _
  have k1 := nx_cell hn8 hd6 z1
  have k4 := nx_cell hn8 hd6 z4
  have k6 := nx_cell hn8 hd6 z6
  have hst := w_stepEx (rb + 1 + 1 + 1 + 1) rb nb _ (by omega) k1 (hM6.nx hn8)
  have HST := hide hst
  have HK6 := hide k6
  clear k1 k6 hst
  have hdi : domI 0 := by unfold domI; decide
  go_wp2_with (at_lookup; refine wpMgLookOk _ rfl _ _ _ rfl intE law_intE Tryz.underlying168 (z := (0 : Int)) (by decide) (zeroIntE _) (rb + 1 + 1) 0 _ rfl (hG6.nx (((Nx.refl _).alloc _).alloc _)) 0 rfl hdi _ (key_int hdi) ?_)
  have hst := HST.out
  unfold exEv at hst
  refine hst.mono ?_
  rintro e w9 ⟨A9, c9, p, rfl, hp1, hp2, hp3, hM9, hg9⟩
  have m6 : w9.cell? ⟨rb + 1 + 1 + 1 + 1, 6, none⟩ = some .nilFunc := World.grownBy.cell hg9 HK6.out (by simp; omega)
  have m1 : w9.cell? ⟨rb + 1 + 1 + 1 + 1, 1, none⟩ = some (.map (some rb)) := World.grownBy.cell hg9 (nx_cell hn8 hd6 z1) (by simp; omega)
  have hend : Nx w w9 := Nx.of_gr (((Gr.of_nx ((hx5.trans hn6).trans hn8))).trans hg9) (by rw [HRB.out]; exact Nat.le_refl _)
  have hpw : w.heap.size ≤ p := Nat.le_trans ((hx5.trans hn6).trans hn8).sz hp1
  clear hst HST HK6 k4 a0 a1 a2 a3 a4 a5 a6 a7 a8 a9 a10 z1 z4 z6
  go_wp2_with fail
  rw [rounds_succ]
  go_wp2_with fail
  go_ret
  exact ⟨_, rb, p, rfl, m1, hpw, hp2, by rw [HRB.out]; exact Nat.le_refl _, hp3, hM9, hend⟩
end Go.Proofs.YthlhomcgjgfdhaaGreatDoor
