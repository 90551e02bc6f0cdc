/- One event followed. -/
import Derived.Test.YthlhomcgjgfdhaaGreatDoorQReadyC
import Derived.Deep.RegionHeld3
namespace Go.Proofs.YthlhomcgjgfdhaaGreatDoor
open Go.RowKit Go.Maps

def exName : EvName := ⟨sS, 1⟩
set_option maxRecDepth 100000 in
set_option maxHeartbeats 4000000 in
theorem w_byNameEx (g c : Nat) (w : World) (hg : w.heap[g]? = some (.cells exEv 130 (0, 0))) :
    Calls Tryz.prog 163 #[.slice (some ⟨g, 0, none⟩) 1 c] w fun e w' => ∃ b : Nat, e = .returned (.map (some b)) ∧ w.heap.size ≤ b ∧ MpNI w' b 1 (fun k => if k = exName then some 0 else none) ∧ Nx w w' := by
  have a0 := cell_of_row w g 0 _ _ _ hg
  have a1 := cell_of_row w g 1 _ _ _ hg
  have a2 := cell_of_row w g 2 _ _ _ hg
  have a3 := cell_of_row w g 3 _ _ _ hg
  have a4 := cell_of_row w g 4 _ _ _ hg
  have a5 := cell_of_row w g 5 _ _ _ hg
  have a6 := cell_of_row w g 6 _ _ _ hg
  have a7 := cell_of_row w g 7 _ _ _ hg
  have a8 := cell_of_row w g 8 _ _ _ hg
  have a9 := cell_of_row w g 9 _ _ _ hg
  have a10 := cell_of_row w g 10 _ _ _ hg
  simp [exEv] at a0 a1 a2 a3 a4 a5 a6 a7 a8 a9 a10
  have hgl : g < w.heap.size := (Array.getElem?_eq_some_iff.1 hg).1
  have hmm := @run_makeMap Tryz.prog
  have hdn : domName exName := ⟨by decide, by decide⟩
  obtain ⟨kl, hkey⟩ := key_name exName hdn
  clear hg
  go_enter Tryz.func163, Tryz.ntmps163
  go_wp2_with fail
  clear hmm
  have hM0 : MpNI (w.alloc (.map #[] 0)) w.heap.size 0 (fun _ => none) := MgI.made w
  refine wp_loop_rounds 2 ?_
  rw [rounds_succ]
  go_wp2_with (at_mapUpdate; refine wpMgPut _ rfl _ _ _ _ rfl intE law_name ekName_inj Tryz.underlying221 w.heap.size 0 _ rfl (hM0.nx ((Nx.refl _).alloc _)) (by decide) exName rfl hdn _ hkey 0 rfl (by decide) ?_; intro w2 hM3 hg2)
  rw [rounds_succ]
  go_wp2_with fail
  go_ret
  exact ⟨_, rfl, Nat.le_refl _, hM3, Nx.of_gr ((Gr.of_nx (((Nx.refl w).alloc _).alloc _)).trans hg2) (Nat.le_refl _)⟩

theorem nx_heap {w w' : World} {p : Nat} {o : Obj} (hn : Nx w w') (h : w.heap[p]? = some o) : w'.heap[p]? = some o := (hn.block p (Array.getElem?_eq_some_iff.1 h).1).trans h
def exSt : Array Value := #[.string sR, .string ⟨#[]⟩, .int .i64 1, .int .i64 5, .int .i64 9, .int .i64 0, .int .i64 0]
/-- A booking, followed. -/
def Booked (rb : Nat) (w : World) (e : Ending) (w' : World) : Prop :=
  ∃ (A : Option Addr) (c p : Nat), e = .returned (.tuple #[.slice A 1 c, .int .i64 0]) ∧ w.heap.size ≤ p ∧ p ≠ rb ∧ w'.heap[p]? = some (.cells exSt 177 (0, 0)) ∧ MpSP w' rb 1 (fun k => if k = sR then some (some p) else none) ∧ Gr rb w w'
set_option maxRecDepth 100000 in
set_option maxHeartbeats 4000000 in
theorem w_stepEx (d rb nb : Nat) (w : World) (hdr : d ≠ rb) (hd : w.cell? ⟨d, 1, none⟩ = some (.map (some rb))) (hM : MpSP w rb 0 (fun _ => none)) :
    Calls Tryz.prog 164 #[.pointer (some ⟨d, 0, none⟩), .int .i64 0, .agg exEv, .map (some nb)] w (Booked rb w) := by
  have hdl : d < w.heap.size := World.block_lt_of_cell? w _ hd
  have hrl := hM.lt
  obtain ⟨wa, hwa⟩ : ∃ wa, wa = w.alloc (.cells #[.string sS, .int .i64 1, .int .i64 0, .int .i64 1, .string sR, .string ⟨#[]⟩, .string ⟨#[]⟩, .int .i64 5, .int .i64 9, .string ⟨#[]⟩, .int .i64 0] 130) := ⟨_, rfl⟩
  have hna : Nx w wa := hwa ▸ (Nx.refl w).alloc _
  have hgw : w.heap.size < wa.heap.size := by rw [hwa]; simp
  have hda := nx_cell hna hdl hd
  have hMa := hM.nx hna
  have hds : domS sR := by unfold domS; decide
  have hlk : ∀ n, (Instr.lookup 165 (.map (some rb)) (.string sR) false).run Tryz.prog (wa.drewN n) = .ok (.pointer none) (wa.drewN n) := fun n =>
    ((hMa.nx ((Nx.refl wa).drewN n)).look (z := (none : Option Nat)) elemPtr law_strE Tryz.underlying165 trivial (zeroPtrE _) hds (keyS_mk Tryz.underlying9 hds)).1
  unfold exEv
  go_enter Tryz.func164, Tryz.ntmps164
  go_wp2_with fail
  rw [← hwa]
  have b4 : wa.cell? ⟨w.heap.size, 4, none⟩ = some (.string sR) := by rw [hwa]; go_simp
  have b7 : wa.cell? ⟨w.heap.size, 7, none⟩ = some (.int .i64 5) := by rw [hwa]; go_simp
  have b8 : wa.cell? ⟨w.heap.size, 8, none⟩ = some (.int .i64 9) := by rw [hwa]; go_simp
  have HWA := hide hwa
  clear hwa
  have hlk0 := hlk 0
  have hlk1 := hlk 1
  go_quiet (fail)
  clear hlk hlk0 hlk1
  obtain ⟨wq, hwq⟩ : ∃ wq, wq = wa.drewN nq := ⟨_, rfl⟩
  have hnq : Nx wa wq := hwq ▸ (Nx.refl wa).drewN _
  rw [← hwq]
  have hgw' : w.heap.size < wq.heap.size := Nat.lt_of_lt_of_le hgw hnq.sz
  have hdq := nx_cell hnq (Nat.lt_of_lt_of_le hdl hna.sz) hda
  have c4 := nx_cell hnq hgw b4
  have c7 := nx_cell hnq hgw b7
  have c8 := nx_cell hnq hgw b8
  have hdq' : d < wq.heap.size := Nat.lt_of_lt_of_le hdl (hna.trans hnq).sz
  have hMq := (hMa.nx hnq).nx (((Nx.refl wq).alloc (.cells #[.string sR, .string ⟨#[]⟩, .int .i64 1, .int .i64 5, .int .i64 9, .int .i64 0, .int .i64 0] 177)).drew)
  obtain ⟨w3, hup, hM3, hg3⟩ := hMq.upd elemPtr law_strE strV_inj Tryz.underlying165 (by decide) hds (keyS_mk Tryz.underlying9 hds) (some wq.heap.size) trivial
  have HM3 := hide hM3
  have hup' : (Instr.mapUpdate 165 (.map (some rb)) (.string sR) (.pointer (some ⟨wq.heap.size, 0, none⟩))).run Tryz.prog (wq.alloc (.cells #[.string sR, .string ⟨#[]⟩, .int .i64 1, .int .i64 5, .int .i64 9, .int .i64 0, .int .i64 0] 177)).drew = .ok () w3 := hup
  clear hup hM3 hwq hMa hMq hM hda b4 b7 b8
  have hrb : rb ≠ w.heap.size := by omega
  have hrq : rb ≠ wq.heap.size := by omega
  have f4 : w3.cell? ⟨w.heap.size, 4, none⟩ = some (.string sR) := World.grownBy.cell hg3 (nx_cell (((Nx.refl wq).alloc _).drew) hgw' c4) (by simp; omega)
  have f1 : w3.cell? ⟨d, 1, none⟩ = some (.map (some rb)) := World.grownBy.cell hg3 (nx_cell (((Nx.refl wq).alloc _).drew) hdq' hdq) (by simp; omega)
  have f7 : w3.cell? ⟨w.heap.size, 7, none⟩ = some (.int .i64 5) := World.grownBy.cell hg3 (nx_cell (((Nx.refl wq).alloc _).drew) hgw' c7) (by simp; omega)
  have f8 : w3.cell? ⟨w.heap.size, 8, none⟩ = some (.int .i64 9) := World.grownBy.cell hg3 (nx_cell (((Nx.refl wq).alloc _).drew) hgw' c8) (by simp; omega)
  have HF := hide (And.intro f1 (And.intro f4 (And.intro f7 f8)))
  clear f1 f4 f7 f8
  go_wp2_with fail
  go_region_held3 (fun w' => w'.cell? ⟨d, 1, none⟩ = some (.map (some rb)) ∧ w'.cell? ⟨w.heap.size, 4, none⟩ = some (.string sR) ∧ w'.cell? ⟨w.heap.size, 7, none⟩ = some (.int .i64 5) ∧ w'.cell? ⟨w.heap.size, 8, none⟩ = some (.int .i64 9))
    (first | exact HF.out | go_keep)
    (fail)
  obtain ⟨f1, f4, f7, f8⟩ := HF.out
  have hp : w3.heap[wq.heap.size]? = some (.cells exSt 177 (0, 0)) := (hg3.block wq.heap.size (by simp) (by intro e; injection e with e; omega)).trans (heap_alloc_new wq _)
  have hgr : Gr rb w w3 := ((Gr.of_nx (((hna.trans hnq).alloc _).drew)).trans hg3)
  have hpl : w.heap.size ≤ wq.heap.size := by omega
  go_wp2_with fail
  go_ret2
  exact ⟨_, _, wq.heap.size, rfl, hpl, by omega, nx_heap ((Nx.refl w3).alloc _) hp, HM3.out.nx ((Nx.refl w3).alloc _), hgr.alloc _⟩
end Go.Proofs.YthlhomcgjgfdhaaGreatDoor
