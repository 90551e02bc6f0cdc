/- One event: the program's check of events. -/
import Derived.Test.YthlhomcgjgfdhaaGreatDoorQG36
import Derived.Deep.QuietTactic
import Derived.BigQuiet
namespace Go.Proofs.YthlhomcgjgfdhaaGreatDoor
open Go.RowKit Go.Maps

/-- The event by itself is right. -/
def EvRight : Prop := ∀ W : World, Calls Tryz.prog 203 #[.agg exEv] W fun e w' => e = .returned (.int .i64 0) ∧ Nx W w'
set_option maxRecDepth 100000 in
set_option maxHeartbeats 4000000 in
theorem w_CheckEventsEx (hEF : EvRight) (g c : Nat) (w : World) (hg : w.heap[g]? = some (.cells exEv 130 (0, 0))) :
    Calls Tryz.prog 162 #[.slice (some ⟨g, 0, none⟩) 1 c] w fun e w' => e = .returned (.int .i64 0) ∧ Nx w w' := by
  have hgl : g < w.heap.size := (Array.getElem?_eq_some_iff.1 hg).1
  have a0 := cell_of_row w g 0 _ _ _ hg
  have a1 := cell_of_row w g 1 _ _ _ hg
  have a2 := cell_of_row w g 2 _ _ _ hg
  have a3 := cell_of_row w g 3 _ _ _ hg
  have a4 := cell_of_row w g 4 _ _ _ hg
  have a5 := cell_of_row w g 5 _ _ _ hg
  have a6 := cell_of_row w g 6 _ _ _ hg
  have a7 := cell_of_row w g 7 _ _ _ hg
  have a8 := cell_of_row w g 8 _ _ _ hg
  have a9 := cell_of_row w g 9 _ _ _ hg
  have a10 := cell_of_row w g 10 _ _ _ hg
  simp [exEv] at a0 a1 a2 a3 a4 a5 a6 a7 a8 a9 a10
  have hmm := @run_makeMap Tryz.prog
  have HEF := hide hEF
  unfold EvRight exEv at HEF
  clear hEF
  clear hg
  go_enter Tryz.func162, Tryz.ntmps162
  go_wp2_with fail
  clear hmm
  have hM0 : MpSI (w.alloc (.map #[] 0)) w.heap.size 0 (fun _ => none) := MgI.made w
  have HM0 := hide hM0
  clear hM0
  refine wp_loop_rounds 2 ?_
  rw [rounds_succ]
  go_wp2_with fail
  refine (HEF.out _).mono ?_
  rintro e w1 ⟨rfl, hn1⟩
  have hx1 : Nx (w.alloc (.map #[] 0)) w1 := ((Nx.refl _).alloc _).trans hn1
  have HM1 := hide (HM0.out.nx hx1)
  have hs1 : w.heap.size + 1 < w1.heap.size := by have := hn1.sz; simp at this; omega
  have d0 : w1.cell? ⟨w.heap.size + 1, 0, none⟩ = some (.string sS) := nx_cell hn1 (by simp) (show ((w.alloc (.map #[] 0)).alloc (.cells #[.string sS, .int .i64 1, .int .i64 0, .int .i64 1, .string sR, .string ⟨#[]⟩, .string ⟨#[]⟩, .int .i64 5, .int .i64 9, .string ⟨#[]⟩, .int .i64 0] 130)).cell? ⟨w.heap.size + 1, 0, none⟩ = some (.string sS) by go_simp)
  have d1 : w1.cell? ⟨w.heap.size + 1, 1, none⟩ = some (.int .i64 1) := nx_cell hn1 (by simp) (show ((w.alloc (.map #[] 0)).alloc (.cells #[.string sS, .int .i64 1, .int .i64 0, .int .i64 1, .string sR, .string ⟨#[]⟩, .string ⟨#[]⟩, .int .i64 5, .int .i64 9, .string ⟨#[]⟩, .int .i64 0] 130)).cell? ⟨w.heap.size + 1, 1, none⟩ = some (.int .i64 1) by go_simp)
  clear a0 a1 a2 a3 a4 a5 a6 a7 a8 a9 a10 HM0 HEF
  go_wp2_with fail
  go_quiet (fail)
  have hds : domS sS := by unfold domS; decide
  have hM2 := HM1.out.nx ((Nx.refl w1).drewN nq)
  go_wp2_with (first
    | (at_lookup; refine wpMgLook _ rfl _ _ _ rfl intE law_strE Tryz.underlying259 (by decide) (zeroIntE _) w.heap.size 0 _ rfl hM2 sS rfl hds _ (keyS_mk Tryz.underlying9 hds) ?_)
    | (at_mapUpdate; refine wpMgPut _ rfl _ _ _ _ rfl intE law_strE strV_inj Tryz.underlying259 w.heap.size 0 _ rfl hM2 (by decide) sS rfl hds _ (keyS_mk Tryz.underlying9 hds) 1 rfl (by decide) ?_; intro w2 hM3 hg2))
  obtain ⟨D3, ho3, _⟩ := hM3
  have hsz := ho3.size_le
  rw [rounds_succ]
  go_wp2_with (at_len; refine wpList_len_own _ rfl _ _ rfl 9 3 Tryz.underlying259 _ w.heap.size _ D3 rfl ho3 ?_)
  go_ret
  exact ⟨rfl, Nx.of_gr ((Gr.of_nx ((((Nx.refl w).alloc _).trans hx1).drewN _)).trans hg2) (Nat.le_refl _)⟩

theorem w_momentFaultEx (hEF : EvRight) (g c : Nat) (w : World) (hg : w.heap[g]? = some (.cells exEv 130 (0, 0))) :
    Calls Tryz.prog 117 #[.slice (some ⟨g, 0, none⟩) 1 c, .int .i64 3] w fun e w' => e = .returned (.int .i64 0) ∧ Nx w w' := by
  have HC := hide (w_CheckEventsEx hEF g c w hg)
  have hm3 : momB 3 = true := by decide
  clear hg
  go_enter Tryz.func117, Tryz.ntmps117
  go_wp2_with (first
    | (go_at_call 162; refine HC.out.mono ?_; rintro e w1 ⟨rfl, hn1⟩)
    | (go_at_call 115; refine (w_Moment _ _).mono ?_; rintro e w' ⟨rfl, rfl⟩))
  go_ret
  exact ⟨rfl, hn1⟩
end Go.Proofs.YthlhomcgjgfdhaaGreatDoor
