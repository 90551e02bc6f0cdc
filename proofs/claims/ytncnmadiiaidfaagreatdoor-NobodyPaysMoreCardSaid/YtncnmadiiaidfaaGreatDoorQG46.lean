/- One event followed. -/
import Derived.Test.YtncnmadiiaidfaaGreatDoorQReadyC
import Derived.Deep.RegionHeld3
import Derived.Test.YtncnmadiiaidfaaGreatDoorQG42
import Derived.Test.YtncnmadiiaidfaaGreatDoorQG2
import Derived.StillTailTactics
import Derived.Laws.StructEq
import Derived.Test.YtncnmadiiaidfaaGreatDoorQG7
import Derived.Test.YtncnmadiiaidfaaGreatDoorQG14
import Derived.Test.YtncnmadiiaidfaaGreatDoorQPasF
namespace Go.Proofs.YtncnmadiiaidfaaGreatDoor
open Go.RowKit Go.Maps

def exName : EvName := ⟨sS, 1⟩
set_option maxRecDepth 100000 in
set_option maxHeartbeats 4000000 in
theorem w_byNameEx (g c : Nat) (w : World) (hg : w.heap[g]? = some (.cells exEv 92 (0, 0))) :
    Calls Tryz.prog 104 #[.slice (some ⟨g, 0, none⟩) 1 c] w fun e w' => ∃ b : Nat, e = .returned (.map (some b)) ∧ w.heap.size ≤ b ∧ MpNI w' b 1 (fun k => if k = exName then some 0 else none) ∧ Nx w w' := by
  have a0 := cell_of_row w g 0 _ _ _ hg
  have a1 := cell_of_row w g 1 _ _ _ hg
  have a2 := cell_of_row w g 2 _ _ _ hg
  have a3 := cell_of_row w g 3 _ _ _ hg
  have a4 := cell_of_row w g 4 _ _ _ hg
  have a5 := cell_of_row w g 5 _ _ _ hg
  have a6 := cell_of_row w g 6 _ _ _ hg
  have a7 := cell_of_row w g 7 _ _ _ hg
  have a8 := cell_of_row w g 8 _ _ _ hg
  have a9 := cell_of_row w g 9 _ _ _ hg
  have a10 := cell_of_row w g 10 _ _ _ hg
  simp [exEv] at a0 a1 a2 a3 a4 a5 a6 a7 a8 a9 a10
  have hgl : g < w.heap.size := (Array.getElem?_eq_some_iff.1 hg).1
  have hmm := @run_makeMap Tryz.prog
  have hdn : domName exName := ⟨by decide, by decide⟩
  obtain ⟨kl, hkey⟩ := key_name exName hdn
  clear hg
  go_enter Tryz.func104, Tryz.ntmps104
  go_wp2_with fail
  clear hmm
  have hM0 : MpNI (w.alloc (.map #[] 0)) w.heap.size 0 (fun _ => none) := MgI.made w
  refine wp_loop_rounds 2 ?_
  rw [rounds_succ]
  go_wp2_with (at_mapUpdate; refine wpMgPut _ rfl _ _ _ _ rfl intE law_name ekName_inj Tryz.underlying183 w.heap.size 0 _ rfl (hM0.nx ((Nx.refl _).alloc _)) (by decide) exName rfl hdn _ hkey 0 rfl (by decide) ?_; intro w2 hM3 hg2)
  rw [rounds_succ]
  go_wp2_with fail
  go_ret
  exact ⟨_, rfl, Nat.le_refl _, hM3, Nx.of_gr ((Gr.of_nx (((Nx.refl w).alloc _).alloc _)).trans hg2) (Nat.le_refl _)⟩

theorem nx_heap {w w' : World} {p : Nat} {o : Obj} (hn : Nx w w') (h : w.heap[p]? = some o) : w'.heap[p]? = some o := (hn.block p (Array.getElem?_eq_some_iff.1 h).1).trans h
def exSt : Array Value := #[.string sR, .string ⟨#[]⟩, .int .i64 1, .int .i64 5, .int .i64 9, .int .i64 0, .int .i64 0]
/-- A booking, followed. -/
def Booked (rb : Nat) (w : World) (e : Ending) (w' : World) : Prop :=
  ∃ (A : Option Addr) (c p : Nat), e = .returned (.tuple #[.slice A 1 c, .int .i64 0]) ∧ w.heap.size ≤ p ∧ p ≠ rb ∧ w'.heap[p]? = some (.cells exSt 134 (0, 0)) ∧ MpSP w' rb 1 (fun k => if k = sR then some (some p) else none) ∧ Gr rb w w'
set_option maxRecDepth 100000 in
set_option maxHeartbeats 4000000 in
theorem w_stepEx (d rb nb : Nat) (w : World) (hdr : d ≠ rb) (hd : w.cell? ⟨d, 1, none⟩ = some (.map (some rb))) (hM : MpSP w rb 0 (fun _ => none)) :
    Calls Tryz.prog 105 #[.pointer (some ⟨d, 0, none⟩), .int .i64 0, .agg exEv, .map (some nb)] w (Booked rb w) := by
  have hdl : d < w.heap.size := World.block_lt_of_cell? w _ hd
  have hrl := hM.lt
  obtain ⟨wa, hwa⟩ : ∃ wa, wa = w.alloc (.cells #[.string sS, .int .i64 1, .int .i64 0, .int .i64 1, .string sR, .string ⟨#[]⟩, .string ⟨#[]⟩, .int .i64 5, .int .i64 9, .string ⟨#[]⟩, .int .i64 0] 92) := ⟨_, rfl⟩
  have hna : Nx w wa := hwa ▸ (Nx.refl w).alloc _
  have hgw : w.heap.size < wa.heap.size := by rw [hwa]; simp
  have hda := nx_cell hna hdl hd
  have hMa := hM.nx hna
  have hds : domS sR := by unfold domS; decide
  have hlk : ∀ n, (Instr.lookup 122 (.map (some rb)) (.string sR) false).run Tryz.prog (wa.drewN n) = .ok (.pointer none) (wa.drewN n) := fun n =>
    ((hMa.nx ((Nx.refl wa).drewN n)).look (z := (none : Option Nat)) elemPtr law_strE Tryz.underlying122 trivial (zeroPtrE _) hds (keyS_mk Tryz.underlying9 hds)).1
  unfold exEv
  go_enter Tryz.func105, Tryz.ntmps105
  go_wp2_with fail
  rw [← hwa]
  have b4 : wa.cell? ⟨w.heap.size, 4, none⟩ = some (.string sR) := by rw [hwa]; go_simp
  have b7 : wa.cell? ⟨w.heap.size, 7, none⟩ = some (.int .i64 5) := by rw [hwa]; go_simp
  have b8 : wa.cell? ⟨w.heap.size, 8, none⟩ = some (.int .i64 9) := by rw [hwa]; go_simp
  have HWA := hide hwa
  clear hwa
  have hlk0 := hlk 0
  have hlk1 := hlk 1
  go_quiet (fail)
  clear hlk hlk0 hlk1
  obtain ⟨wq, hwq⟩ : ∃ wq, wq = wa.drewN nq := ⟨_, rfl⟩
  have hnq : Nx wa wq := hwq ▸ (Nx.refl wa).drewN _
  rw [← hwq]
  have hgw' : w.heap.size < wq.heap.size := Nat.lt_of_lt_of_le hgw hnq.sz
  have hdq := nx_cell hnq (Nat.lt_of_lt_of_le hdl hna.sz) hda
  have c4 := nx_cell hnq hgw b4
  have c7 := nx_cell hnq hgw b7
  have c8 := nx_cell hnq hgw b8
  have hdq' : d < wq.heap.size := Nat.lt_of_lt_of_le hdl (hna.trans hnq).sz
  have hMq := (hMa.nx hnq).nx (((Nx.refl wq).alloc (.cells #[.string sR, .string ⟨#[]⟩, .int .i64 1, .int .i64 5, .int .i64 9, .int .i64 0, .int .i64 0] 134)).drew)
  obtain ⟨w3, hup, hM3, hg3⟩ := hMq.upd elemPtr law_strE strV_inj Tryz.underlying122 (by decide) hds (keyS_mk Tryz.underlying9 hds) (some wq.heap.size) trivial
  have HM3 := hide hM3
  have hup' : (Instr.mapUpdate 122 (.map (some rb)) (.string sR) (.pointer (some ⟨wq.heap.size, 0, none⟩))).run Tryz.prog (wq.alloc (.cells #[.string sR, .string ⟨#[]⟩, .int .i64 1, .int .i64 5, .int .i64 9, .int .i64 0, .int .i64 0] 134)).drew = .ok () w3 := hup
  clear hup hM3 hwq hMa hMq hM hda b4 b7 b8
  have hrb : rb ≠ w.heap.size := by omega
  have hrq : rb ≠ wq.heap.size := by omega
  have f4 : w3.cell? ⟨w.heap.size, 4, none⟩ = some (.string sR) := World.grownBy.cell hg3 (nx_cell (((Nx.refl wq).alloc _).drew) hgw' c4) (by simp; omega)
  have f1 : w3.cell? ⟨d, 1, none⟩ = some (.map (some rb)) := World.grownBy.cell hg3 (nx_cell (((Nx.refl wq).alloc _).drew) hdq' hdq) (by simp; omega)
  have f7 : w3.cell? ⟨w.heap.size, 7, none⟩ = some (.int .i64 5) := World.grownBy.cell hg3 (nx_cell (((Nx.refl wq).alloc _).drew) hgw' c7) (by simp; omega)
  have f8 : w3.cell? ⟨w.heap.size, 8, none⟩ = some (.int .i64 9) := World.grownBy.cell hg3 (nx_cell (((Nx.refl wq).alloc _).drew) hgw' c8) (by simp; omega)
  have HF := hide (And.intro f1 (And.intro f4 (And.intro f7 f8)))
  clear f1 f4 f7 f8
  go_wp2_with fail
  go_region_held3 (fun w' => w'.cell? ⟨d, 1, none⟩ = some (.map (some rb)) ∧ w'.cell? ⟨w.heap.size, 4, none⟩ = some (.string sR) ∧ w'.cell? ⟨w.heap.size, 7, none⟩ = some (.int .i64 5) ∧ w'.cell? ⟨w.heap.size, 8, none⟩ = some (.int .i64 9))
    (first | exact HF.out | go_keep)
    (fail)
  obtain ⟨f1, f4, f7, f8⟩ := HF.out
  have hp : w3.heap[wq.heap.size]? = some (.cells exSt 134 (0, 0)) := (hg3.block wq.heap.size (by simp) (by intro e; injection e with e; omega)).trans (heap_alloc_new wq _)
  have hgr : Gr rb w w3 := ((Gr.of_nx (((hna.trans hnq).alloc _).drew)).trans hg3)
  have hpl : w.heap.size ≤ wq.heap.size := by omega
  go_wp2_with fail
  go_ret2
  exact ⟨_, _, wq.heap.size, rfl, hpl, by omega, nx_heap ((Nx.refl w3).alloc _) hp, HM3.out.nx ((Nx.refl w3).alloc _), hgr.alloc _⟩
end Go.Proofs.YtncnmadiiaidfaaGreatDoor
/- One event followed: the day. -/
namespace Go.Proofs.YtncnmadiiaidfaaGreatDoor
open Go.RowKit Go.Maps

/-- The day behind one booking. -/
def DayEx (w : World) (e : Ending) (w' : World) : Prop :=
  ∃ (d rb p : Nat), e = .returned (.pointer (some ⟨d, 0, none⟩)) ∧ w'.cell? ⟨d, 1, none⟩ = some (.map (some rb)) ∧ w.heap.size ≤ p ∧ p ≠ rb ∧ w.heap.size ≤ rb ∧ w'.heap[p]? = some (.cells exSt 134 (0, 0)) ∧ MpSP w' rb 1 (fun k => if k = sR then some (some p) else none) ∧ Nx w w'
set_option maxRecDepth 100000 in
set_option maxHeartbeats 4000000 in
theorem w_followEx (g c : Nat) (w : World) (hg : w.heap[g]? = some (.cells exEv 92 (0, 0))) :
    Calls Tryz.prog 58 #[.slice (some ⟨g, 0, none⟩) 1 c, .int .i64 3, .nilFunc] w (DayEx w) := by
  have hgl : g < w.heap.size := (Array.getElem?_eq_some_iff.1 hg).1
  have hmm := @run_makeMap Tryz.prog
  have hnf : ∀ w, (binOp .neq 127 .nilFunc .nilFunc).run Tryz.prog w = .ok (.bool false) w := fun w => by kernel_rfl
  have hne : ¬ (⟨⟨#[]⟩, 0⟩ : EvName) = exName := by decide
  have HG := hide hg
  clear hg
  go_enter Tryz.func58, Tryz.ntmps58
  go_wp2_with fail
  obtain ⟨w5, hw5⟩ : ∃ w5, w5 = ((((w.alloc (.map #[] 0)).alloc (.map #[] 0)).alloc (.map #[] 0)).alloc (.map #[] 0)).alloc (.cells #[.slice (some ⟨g, 0, none⟩) 1 c, .map (some w.heap.size), .map (some (w.heap.size + 1)), .slice none 0 0, .map (some (w.heap.size + 1 + 1)), .map (some (w.heap.size + 1 + 1 + 1)), .nilFunc] 129) := ⟨_, rfl⟩
  have hx5 : Nx w w5 := hw5 ▸ (((((Nx.refl w).alloc _).alloc _).alloc _).alloc _).alloc _
  have hM5 : MpSP w5 w.heap.size 0 (fun _ => none) := by
    rw [hw5]; exact (MgI.made w).nx (((((Nx.refl _).alloc _).alloc _).alloc _).alloc _)
  have hG5 : MpII w5 (w.heap.size + 1 + 1) 0 (fun _ => none) := by
    have h : MpII (((w.alloc (.map #[] 0)).alloc (.map #[] 0)).alloc (.map #[] 0)) ((w.alloc (.map #[] 0)).alloc (.map #[] 0)).heap.size 0 (fun _ => none) := MgI.made ((w.alloc (.map #[] 0)).alloc (.map #[] 0))
    rw [show ((w.alloc (.map #[] 0)).alloc (.map #[] 0)).heap.size = w.heap.size + 1 + 1 by simp] at h
    rw [hw5]; exact h.nx (((Nx.refl _).alloc _).alloc _)
  have hd5 : w.heap.size + 1 + 1 + 1 + 1 < w5.heap.size := by rw [hw5]; simp
  have y1 : w5.cell? ⟨w.heap.size + 1 + 1 + 1 + 1, 1, none⟩ = some (.map (some w.heap.size)) := by rw [hw5]; go_simp
  have y4 : w5.cell? ⟨w.heap.size + 1 + 1 + 1 + 1, 4, none⟩ = some (.map (some (w.heap.size + 1 + 1))) := by rw [hw5]; go_simp
  have y6 : w5.cell? ⟨w.heap.size + 1 + 1 + 1 + 1, 6, none⟩ = some .nilFunc := by rw [hw5]; go_simp
  have hg5 := nx_heap hx5 HG.out
  rw [← hw5]
  clear hw5
  obtain ⟨rb, hrb⟩ : ∃ rb, rb = w.heap.size := ⟨_, rfl⟩
  rw [← hrb] at hM5 hG5 hd5 y1 y4 y6 ⊢
  refine (w_byNameEx g c w5 hg5).mono ?_
  rintro e w6 ⟨nb, rfl, hnb, hN6, hn6⟩
  have hM6 := hM5.nx hn6
  have hG6 := hG5.nx hn6
  have z1 := nx_cell hn6 hd5 y1
  have z4 := nx_cell hn6 hd5 y4
  have z6 := nx_cell hn6 hd5 y6
  have hd6 := Nat.lt_of_lt_of_le hd5 hn6.sz
  have hg6 := nx_heap hn6 hg5
  have hgl6 : g < w6.heap.size := (Array.getElem?_eq_some_iff.1 hg6).1
  have a0 := cell_of_row w6 g 0 _ _ _ hg6
  have a1 := cell_of_row w6 g 1 _ _ _ hg6
  have a2 := cell_of_row w6 g 2 _ _ _ hg6
  have a3 := cell_of_row w6 g 3 _ _ _ hg6
  have a4 := cell_of_row w6 g 4 _ _ _ hg6
  have a5 := cell_of_row w6 g 5 _ _ _ hg6
  have a6 := cell_of_row w6 g 6 _ _ _ hg6
  have a7 := cell_of_row w6 g 7 _ _ _ hg6
  have a8 := cell_of_row w6 g 8 _ _ _ hg6
  have a9 := cell_of_row w6 g 9 _ _ _ hg6
  have a10 := cell_of_row w6 g 10 _ _ _ hg6
  simp [exEv] at a0 a1 a2 a3 a4 a5 a6 a7 a8 a9 a10
  have HRB := hide hrb
  have HG5 := hide hg5
  have HG6 := hide hg6
  have hdn : domName ⟨⟨#[]⟩, 0⟩ := ⟨by decide, by decide⟩
  obtain ⟨kl, hkey⟩ := key_name ⟨⟨#[]⟩, 0⟩ hdn
  clear hmm hrb hM5 hG5 y1 y4 y6 hg5 hg6
  go_wp2_with fail
  refine wp_loop_rounds 2 ?_
  rw [rounds_succ]
  go_wp2_with (at_lookup; refine wpMgLookOk _ rfl _ _ _ rfl intE law_name Tryz.underlying183 (z := (0 : Int)) (by decide) (zeroIntE _) nb 1 _ rfl (hN6.nx ((Nx.refl _).alloc _)) ⟨⟨#[]⟩, 0⟩ rfl hdn _ hkey ?_)
  rw [rounds_succ]
  go_wp2_with fail
  refine wp_loop_rounds 2 ?_
  rw [rounds_succ]
  have hn8 : Nx w6 ((w6.alloc (.cells #[.string sS, .int .i64 1, .int .i64 0, .int .i64 1, .string sR, .string ⟨#[]⟩, .string ⟨#[]⟩, .int .i64 5, .int .i64 9, .string ⟨#[]⟩, .int .i64 0] 92)).alloc (.cells #[.string sS, .int .i64 1, .int .i64 0, .int .i64 1, .string sR, .string ⟨#[]⟩, .string ⟨#[]⟩, .int .i64 5, .int .i64 9, .string ⟨#[]⟩, .int .i64 0] 92)) := ((Nx.refl w6).alloc _).alloc _
  have k1 := nx_cell hn8 hd6 z1
  have k4 := nx_cell hn8 hd6 z4
  have k6 := nx_cell hn8 hd6 z6
  have hst := w_stepEx (rb + 1 + 1 + 1 + 1) rb nb _ (by omega) k1 (hM6.nx hn8)
  have HST := hide hst
  have HK6 := hide k6
  clear k1 k6 hst
  have hdi : domI 0 := by unfold domI; decide
  go_wp2_with (at_lookup; refine wpMgLookOk _ rfl _ _ _ rfl intE law_intE Tryz.underlying125 (z := (0 : Int)) (by decide) (zeroIntE _) (rb + 1 + 1) 0 _ rfl (hG6.nx (((Nx.refl _).alloc _).alloc _)) 0 rfl hdi _ (key_int hdi) ?_)
  have hst := HST.out
  unfold exEv at hst
  refine hst.mono ?_
  rintro e w9 ⟨A9, c9, p, rfl, hp1, hp2, hp3, hM9, hg9⟩
  have m6 : w9.cell? ⟨rb + 1 + 1 + 1 + 1, 6, none⟩ = some .nilFunc := World.grownBy.cell hg9 HK6.out (by simp; omega)
  have m1 : w9.cell? ⟨rb + 1 + 1 + 1 + 1, 1, none⟩ = some (.map (some rb)) := World.grownBy.cell hg9 (nx_cell hn8 hd6 z1) (by simp; omega)
  have hend : Nx w w9 := Nx.of_gr (((Gr.of_nx ((hx5.trans hn6).trans hn8))).trans hg9) (by rw [HRB.out]; exact Nat.le_refl _)
  have hpw : w.heap.size ≤ p := Nat.le_trans ((hx5.trans hn6).trans hn8).sz hp1
  clear hst HST HK6 k4 a0 a1 a2 a3 a4 a5 a6 a7 a8 a9 a10 z1 z4 z6
  go_wp2_with fail
  rw [rounds_succ]
  go_wp2_with fail
  go_ret
  exact ⟨_, rb, p, rfl, m1, hpw, hp2, by rw [HRB.out]; exact Nat.le_refl _, hp3, hM9, hend⟩
end Go.Proofs.YtncnmadiiaidfaaGreatDoor
/- The rides behind one booking. -/
namespace Go.Proofs.YtncnmadiiaidfaaGreatDoor
open Go.RowKit Go.Maps

theorem hMD_has {P : Program} {K : TypeId} {κ V : Type} {ek : κ → Value} {dom : κ → Prop} {dv : V → DataW Unit} {D : DataW Unit} {f : κ → Option V} (h : MgD P K ek dom dv D f) {k : κ} (hd : dom k) {l : Lit} (hkey : keyOf P K (ek k) = some l) : Maps.has D l = (f k).isSome := h.has_ hd hkey
theorem hA5' {w : World} {base : Nat} {e : TypeId} {c : Nat} (A : Option Addr) (h : ∀ a, A = some a → ∃ g, a = ⟨g, 0, none⟩ ∧ base ≤ g ∧ g < w.heap.size) {L : List Value} (ho : w.ownsRow base e 7 (.slice A 1 c) 1 L) : ∃ g, A = some ⟨g, 0, none⟩ ∧ base ≤ g ∧ g < w.heap.size := by
  rcases ho.2 with ⟨hv, h0⟩ | ⟨g, cap, cur, hv, _⟩
  · cases h0
  · injection hv with h1 _ _
    obtain ⟨g', e1, e2⟩ := h _ h1
    exact ⟨g', by rw [h1, e1], e2⟩
theorem el_State : ElemOf Tryz.prog 88 134 7 72 := ElemOf.mk' (z := .agg #[.string ByteArray.empty, .string ByteArray.empty, .int .i64 0, .int .i64 0, .int .i64 0, .int .i64 0, .int .i64 0]) Tryz.underlying88 (by kernel_rfl) rfl
def encSt (_ : Unit) : List Value := exSt.toList
theorem encSt_len (x : Unit) : (encSt x).length = 7 := rfl
theorem encSt_one (x : Unit) : ∀ v ∈ encSt x, v.oneCell' = true := by
  intro v hv; simp [encSt, exSt] at hv; rcases hv with rfl | rfl | rfl | rfl | rfl | rfl <;> rfl
set_option maxRecDepth 100000 in
set_option maxHeartbeats 1000000 in
theorem w_insSt (g c : Nat) (fv : Value) (w : World) :
    Calls Tryz.prog 153 #[.slice (some ⟨g, 0, none⟩) 1 c, .int .i64 0, .int .i64 1, fv] w fun e w' => e = .returned (.tuple #[]) ∧ w = w' := by
  go_enter Tryz.func153, Tryz.ntmps153
  go_wp2_with fail
  refine wp_loop_rounds 1 ?_
  rw [rounds_succ]
  go_wp2_with fail
  go_end0
  exact ⟨rfl, rfl⟩
set_option maxRecDepth 100000 in
set_option maxHeartbeats 1000000 in
theorem w_pdqSt (g c : Nat) (z : Int) (fv : Value) (w : World) :
    Calls Tryz.prog 106 #[.slice (some ⟨g, 0, none⟩) 1 c, .int .i64 0, .int .i64 1, .int .i64 z, fv] w fun e w' => e = .returned (.tuple #[]) ∧ w = w' := by
  go_enter Tryz.func106, Tryz.ntmps106
  go_wp2_with fail
  refine wp_loop_rounds 1 ?_
  rw [rounds_succ]
  go_wp2_with (go_at_call 153; refine (w_insSt g c fv w).mono ?_; rintro e w1 ⟨rfl, rfl⟩)
  exact bodyPost_ret (results_none (by rfl) _ _ _) rfl ⟨rfl, rfl⟩
theorem w_SortSt (g c : Nat) (fv : Value) (w : World) :
    Calls Tryz.prog 59 #[.slice (some ⟨g, 0, none⟩) 1 c, fv] w fun e w' => e = .returned (.tuple #[]) ∧ w = w' := by
  go_enter Tryz.func59, Tryz.ntmps59
  go_wp2_with (first
    | (go_at_call 88; refine (w_Len _ _ (by omega) (by omega)).mono ?_; rintro e w' ⟨z, rfl, rfl⟩)
    | (go_at_call 106; refine (w_pdqSt g c _ fv _).mono ?_; rintro e w1 ⟨rfl, rfl⟩))
  go_end0
  exact ⟨rfl, rfl⟩

set_option maxRecDepth 100000 in
set_option maxHeartbeats 4000000 in
theorem w_RidesEx (hEF : EvRight) (g c : Nat) (w : World) (hg : w.heap[g]? = some (.cells exEv 92 (0, 0))) :
    Calls Tryz.prog 35 #[.slice (some ⟨g, 0, none⟩) 1 c, .int .i64 3] w fun e w' => ∃ (A : Option Addr) (cc : Nat), e = .returned (.tuple #[.slice A 1 cc, .int .i64 0]) ∧ Nx w w' := by
  have HMF := hide (w_momentFaultEx hEF g c w hg)
  have HG := hide hg
  clear hg
  go_enter Tryz.func35, Tryz.ntmps35
  go_wp2_with fail
  refine HMF.out.mono ?_
  rintro e w1 ⟨rfl, hn1⟩
  have HFO := hide (w_followEx g c w1 (nx_heap hn1 HG.out))
  go_wp2_with fail
  refine HFO.out.mono ?_
  rintro e w2 ⟨d, rb, p, rfl, hd, hp1, hp2, hrb, hp3, hM, hn2⟩
  obtain ⟨D, hown, hMD⟩ := hM
  have hds : domS sR := by unfold domS; decide
  have hkl := keyS_mk (P := Tryz.prog) Tryz.underlying9 hds
  have hhas : Maps.has D (litS sR) = true := by rw [hMD.has_ hds hkl]; simp
  have hHAS := hide hhas
  have HMD := hide hMD
  clear hhas hMD
  go_wp2_with (at_range; refine wpList_range_own _ rfl _ _ rfl 9 132 law_strE Tryz.underlying122 _ rb 1 _ rfl hown ?_; intro w3 hrg3 hg3 hs3)
  go_frame
  have hx3 : Nx w2 w3 := (Nx.refl w2).grown hg3 (fun j hj => by cases hj)
  have hown0 : ∀ W : World, W.ownsRow (w2.heap.size + 1) 134 7 (.slice none 0 0) ([] : List Unit).length (([] : List Unit).flatMap encSt) := fun W => World.ownsRow_nil _ _ _ _
  have HO0 := hide hown0
  have HS3 := hide hs3
  clear hs3 hown0
  refine wp_loop_rounds 2 ?_
  rw [rounds_succ]
  go_wp2_with (at_next; refine wpList_next_ranges _ rfl _ rfl 9 law_strE ptrElem Value.string ptrV (fun key kl hkey => (by obtain ⟨x, rfl, _⟩ := keyS_inv Tryz.underlying9 hkey; exact ⟨x, rfl⟩)) (fun v y hv => (by obtain ⟨q, _, h, _⟩ := elemPtr.inv v y.1 y.2 hv; exact ⟨q, h⟩)) rb w2.heap.size 1 _ _ _ rfl hrg3 ?_ ?_)
  · intro _ hl0
    exact absurd (hl0 (litS sR)) (by rw [hHAS.out]; simp)
  · intro k c kl y ps w4 cnt4 hkey hlk hRv hat hrg4 hlt4 hg4 hs4 hen
    obtain ⟨k0, ek, hdk, rfl⟩ := keyS_inv Tryz.underlying9 hkey
    obtain rfl := strV_inj _ _ ek
    have hfs : (if k = sR then some (some p) else none : Option (Option Nat)).isSome = true := by
      rw [← hMD_has HMD.out hdk (keyS_mk Tryz.underlying9 hdk)]; exact hlk
    have hk : k = sR := by
      by_cases e : k = sR
      · exact e
      · rw [if_neg e] at hfs; cases hfs
    subst hk
    have hc : c = some p := by
      obtain ⟨q, _, e1, e2⟩ := elemPtr.inv _ _ _ hRv
      have e3 := HMD.out.at_ sR (litS sR) hds hkl (.lit (.bool true))
      rw [hat] at e3
      simp at e3
      rw [e2] at e3
      have e4 := elemPtr.inj _ _ e3
      subst e4
      cases c with
      | none => cases e1
      | some q2 => simp [ptrV] at e1; rw [e1]
    subst hc
    have hpl : p < w2.heap.size := (Array.getElem?_eq_some_iff.1 hp3).1
    have hrl : rb < w2.heap.size := hown.lt
    have hp4 : w4.heap[p]? = some (.cells exSt 134 (0, 0)) := (hg4.block p (Nat.lt_of_lt_of_le hpl hx3.sz) (by intro e; injection e with e; omega)).trans (nx_heap hx3 hp3)
    have b0 := cell_of_row w4 p 0 _ _ _ hp4
    have b1 := cell_of_row w4 p 1 _ _ _ hp4
    have b2 := cell_of_row w4 p 2 _ _ _ hp4
    have b3 := cell_of_row w4 p 3 _ _ _ hp4
    have b4 := cell_of_row w4 p 4 _ _ _ hp4
    have b5 := cell_of_row w4 p 5 _ _ _ hp4
    have b6 := cell_of_row w4 p 6 _ _ _ hp4
    simp [exSt] at b0 b1 b2 b3 b4 b5 b6
    have hsz4 : w2.heap.size < w4.heap.size := by rw [hs4, HS3.out]; omega
    have hen' : (Instr.entry (.pointer (some ⟨w2.heap.size, 0, none⟩))).run Tryz.prog w4 = .ok (.tuple #[.string sR, .pointer (some ⟨p, 0, none⟩)]) w4 := hen
    have hx4 : Nx w2 w4 := hx3.grown hg4 (fun j hj => by injection hj with hj; omega)
    clear hen hp4 hs4 hRv hat
    go_wp2_with (at_builtin; refine wpApp rfl _ _ _ rfl el_State encSt encSt_len encSt_one (by omega) (by omega) (w2.heap.size + 1) _ [] rfl (HO0.out _) _ () _ rfl (hnew rfl) rfl (by simp) (by simp; omega) ?_; intro v5 w5 hown5 hg5)
    have hrg5 := (hrg4.alloc (.cells exSt 134)).kept hg5 (fun e => by cases e) (fun e => by cases e)
    have hx5 : Nx w2 w5 := (hx4.alloc _).grown hg5 (fun j hj => by cases hj)
    obtain ⟨A5, c5, ev, _, hA5⟩ := Rd.of_own encSt_len rfl hown5
    obtain rfl := ev
    have HL := hide hlk
    clear hlk hlt4 b0 b1 b2 b3 b4 b5 b6
    rw [rounds_succ]
    go_wp2_with (at_next; refine wpList_next_ranges _ rfl _ rfl 9 law_strE ptrElem Value.string ptrV (fun key kl hkey => (by obtain ⟨x, rfl, _⟩ := keyS_inv Tryz.underlying9 hkey; exact ⟨x, rfl⟩)) (fun v y hv => (by obtain ⟨q, _, h, _⟩ := elemPtr.inv v y.1 y.2 hv; exact ⟨q, h⟩)) rb w2.heap.size 1 _ _ _ rfl hrg5 ?_ ?_)
    · intro _ hl0
      obtain ⟨g5, hg5e, _, _⟩ := hA5' A5 hA5 hown5
      subst hg5e
      go_wp2_with (go_at_call 59; refine (w_SortSt g5 c5 _ _).mono ?_; rintro e w6 ⟨rfl, rfl⟩)
      go_ret2
      exact ⟨_, _, rfl, (hn1.trans hn2).trans hx5⟩
    · intro k c kl y' ps' w6 cnt6 hkey6 hlk6 hsk6 _ _ _ _ _ _ _
      exfalso
      obtain ⟨k0, ek, hdk6, rfl⟩ := keyS_inv Tryz.underlying9 hkey6
      obtain rfl := strV_inj _ _ ek
      have hfs : (if k = sR then some (some p) else none : Option (Option Nat)).isSome = true := by
        rw [← hMD_has HMD.out hdk6 (keyS_mk Tryz.underlying9 hdk6)]; exact hlk6
      have hk : k = sR := by
        by_cases e : k = sR
        · exact e
        · rw [if_neg e] at hfs; cases hfs
      rw [hk, sameS_self] at hsk6
      cases hsk6
end Go.Proofs.YtncnmadiiaidfaaGreatDoor
/- Structs by value, small loops over lists. -/
namespace Go.Proofs.YtncnmadiiaidfaaGreatDoor
open Go.RowKit

theorem w_CellOf_yes (x y size : Int) (w : World) (h1 : isPtB x y = true) (h2 : outB size 1 10000 = false) :
    Calls Tryz.prog 36 #[.int .i64 x, .int .i64 y, .int .i64 size] w fun e w' => e = .returned (.tuple #[.agg #[.int .i64 (x / size), .int .i64 (y / size)], .int .i64 0]) ∧ Nx w w' := by
  have g1 := isPtB_true.1 h1
  have g2 := outB_false.1 h2
  go_enter Tryz.func36, Tryz.ntmps36
  go_wp2_with (first | (go_at_call 62; refine (w_isPoint _ _ _).mono ?_; rintro e w' ⟨rfl, rfl⟩) | (go_at_call 40; refine (w_Out _ _ _ _).mono ?_; rintro e w' ⟨rfl, rfl⟩) | (go_at_call 63; refine (w_Down _ _ _ (by omega) (by omega)).mono ?_; rintro e w' ⟨rfl, rfl⟩))
  exact bodyPost_ret (v := .tuple #[.agg #[.int .i64 (x / size), .int .i64 (y / size)], .int .i64 0]) (by simp [results, Tryz.results36, go_sem]) rfl ⟨rfl, (Nx.refl _).alloc _⟩

end Go.Proofs.YtncnmadiiaidfaaGreatDoor
/- '==' and '!=' on structs. -/
namespace Go.Proofs.YtncnmadiiaidfaaGreatDoor
open Go.RowKit

theorem sin_Cell (d : Nat) (x y a b : Int) (w : World) : (Op.equalIn (d + 2) 95 (.agg #[.int .i64 x, .int .i64 y]) (.agg #[.int .i64 a, .int .i64 b])).run Tryz.prog w = .ok (x == a && y == b) w := by
  have u3 := Tryz.underlying3
  have a3 := Tryz.isAgg3
  have z3 := Tryz.sizeOf3
  have hS : Tryz.prog.underlying 95 = some (.struct (Tryz.prog.fieldsOf 95)) := by kernel_rfl
  have hp : Tryz.prog.stoodInHeld 95 = false := by kernel_rfl
  rw [run_equalIn_agg w (d + 1) 95 _ _ hS hp]
  simp only [Program.fieldsOf, Tryz.underlying95]
  go_simp
  by_cases h1 : x = a <;> by_cases h2 : y = b <;> simp [h1, h2]
theorem neq_Cell (x y a b : Int) (w : World) : (binOp .neq 95 (.agg #[.int .i64 x, .int .i64 y]) (.agg #[.int .i64 a, .int .i64 b])).run Tryz.prog w = .ok (.bool (!(x == a && y == b))) w := by
  rw [run_neq_struct, show (10000 : Nat) = 9998 + 2 from rfl, sin_Cell]; rfl
theorem eql_Cell (x y a b : Int) (w : World) : (binOp .eql 95 (.agg #[.int .i64 x, .int .i64 y]) (.agg #[.int .i64 a, .int .i64 b])).run Tryz.prog w = .ok (.bool (x == a && y == b)) w := by
  rw [run_eql_struct, show (10000 : Nat) = 9998 + 2 from rfl, sin_Cell]; rfl
end Go.Proofs.YtncnmadiiaidfaaGreatDoor
/- A drawn statement over a stream and a pass's cells; passes in the making. -/
namespace Go.Proofs.YtncnmadiiaidfaaGreatDoor
open Go.RowKit Go.Sort Go.Proofs Go.Shelf

/-- A pass with no giants. -/
structure okX (x : Pass) : Prop where
  key : x.key.size ≤ 1000
  rider : x.rider.size ≤ 1000
/-- A literal of n small strings in a block of its own, made since. -/
def ShLN (lo s b n : Nat) (v : Value) (w : World) : Prop :=
  ∃ (g : Nat) (zs : List ByteArray), v = .slice (some ⟨g, 0, none⟩) n n ∧ zs.length = n ∧ (∀ z ∈ zs, z.size ≤ 1000) ∧ g ≠ s ∧ g ≠ b ∧ w.heap[g]? = some (.cells (zs.map Value.string).toArray 9 (0, 0)) ∧ lo ≤ g
theorem ShLN.keep {lo s b n : Nat} {v : Value} {w w' : World} (h : ShLN lo s b n v w) (k : Two s b w w') : ShLN lo s b n v w' := by
  obtain ⟨g, zs, h1, h2, h3, h4, h5, h6, h7⟩ := h
  exact ⟨g, zs, h1, h2, h3, h4, h5, (k.2.2.2.2 g (Array.getElem?_eq_some_iff.1 h6).1 h4 h5).trans h6, h7⟩
theorem ShLN.lt {lo s b n : Nat} {v : Value} {w : World} (h : ShLN lo s b n v w) : ShLT s b n v w := by
  obtain ⟨g, zs, h1, h2, h3, h4, h5, h6, _⟩ := h
  exact ⟨g, zs, h1, h2, h3, h4, h5, h6⟩
theorem el_PassS : ElemOf Tryz.prog 31 55 7 88 := ElemOf.mk' (z := .agg #[.string ByteArray.empty, .string ByteArray.empty, .int .i64 0, .int .i64 0, .slice none 0 0, .int .i64 0, .int .i64 0]) Tryz.underlying31 (by kernel_rfl) rfl
theorem encX_len (x : Pass) : (encX x).length = 7 := rfl
theorem encX_one (x : Pass) : ∀ v ∈ encX x, v.oneCell' = true := by
  intro v hv; simp [encX] at hv; rcases hv with rfl | rfl | rfl | rfl | rfl | rfl | rfl <;> rfl
/-- A pass that stands fast: its zones a row of the call's own. -/
structure XRow (w : World) (base : Nat) (x : Pass) : Prop where
  row : w.ownsRow base 9 1 (.slice x.a x.zones.length x.sc) x.zones.length (x.zones.flatMap encS)
  small : Small x.zones
  few : x.zones.length ≤ 4
  ok : okX x
def OwnPas (w : World) (base : Nat) (v : Value) (ps : List Pass) : Prop :=
  w.ownsRow base 55 7 v ps.length (ps.flatMap encX) ∧ ∀ x ∈ ps, XRow w base x
theorem XRow.gr {w w' : World} {s base : Nat} {x : Pass} (h : XRow w base x) (hn : Gr s w w') (hs : s < base) : XRow w' base x := ⟨own_gr h.row hn hs, h.small, h.few, h.ok⟩
theorem OwnPas.gr {w w' : World} {s base : Nat} {v : Value} {ps : List Pass} (h : OwnPas w base v ps) (hn : Gr s w w') (hs : s < base) : OwnPas w' base v ps :=
  ⟨own_gr h.1 hn hs, fun x hx => (h.2 x hx).gr hn hs⟩
theorem OwnPas.nx {w w' : World} {base : Nat} {v : Value} {ps : List Pass} (h : OwnPas w base v ps) (hn : Nx w w') : OwnPas w' base v ps :=
  ⟨own_nx h.1 hn, fun x hx => ⟨own_nx (h.2 x hx).row hn, (h.2 x hx).small, (h.2 x hx).few, (h.2 x hx).ok⟩⟩
theorem OwnPas.rd {w : World} {base : Nat} {A : Option Addr} {cap : Nat} {ps : List Pass} (h : OwnPas w base (.slice A ps.length cap) ps) : RdPasses w base A ps :=
  ⟨rd_ownv encX_len rfl h.1, fun x hx => by
    have hx' := h.2 x hx
    exact ⟨rd_ownv encS_len rfl hx'.row, hx'.small, by have := hx'.few; omega, by have := hx'.ok.key; omega, by have := hx'.ok.rider; omega⟩⟩
/-- Some passes. -/
def StrPasses (s k : Nat) (w : World) (e : Ending) (w' : World) : Prop :=
  ∃ (A : Option Addr) (c : Nat) (ps : List Pass), e = .returned (.slice A ps.length c) ∧ ps.length ≤ 3 ∧ ps.length ≤ c ∧ RdPasses w' w.heap.size A ps ∧ Gr s w w' ∧ Str w' s k
/-- The passes' row. -/
structure BoxX (g m c base : Nat) (w : World) (us : List Pass) : Prop where
  len : us.length = m
  row : w.ownsRow base 55 7 (.slice (some ⟨g, 0, none⟩) m c) m (us.flatMap encX)
  each : ∀ x ∈ us, XRow w base x
theorem BoxX.put {g m c base q j : Nat} {w : World} {us : List Pass} (h : BoxX g m c base w us) (hq : q < us.length) (u : Value) (y : Pass) (hj : j < 7) (he : encX y = (encX us[q]).set j u) (hy : XRow w base y) : BoxX g m c base (w.setCell ⟨g, q * 7 + j, none⟩ u) (us.set q y) := by
  have ho := own_set encX_len h.len h.row q hq j hj u y he _ rfl
  have keep : ∀ x, XRow w base x → XRow (w.setCell ⟨g, q * 7 + j, none⟩ u) base x := fun x hx =>
    ⟨hx.row.kept ((Gr.refl g w).setS (p := ⟨g, q * 7 + j, none⟩) (.inl rfl) u) (own_apart hx.row h.row (by decide)), hx.small, hx.few, hx.ok⟩
  exact ⟨by rw [List.length_set]; exact h.len, ho, fun x hx => by
    rcases List.mem_or_eq_of_mem_set hx with hx | rfl
    · exact keep x (h.each x hx)
    · exact keep x hy⟩
theorem BoxX.gr {g m c base s : Nat} {w w' : World} {us : List Pass} (h : BoxX g m c base w us) (hn : Gr s w w') (hs : s < base) : BoxX g m c base w' us :=
  ⟨h.len, own_gr h.row hn hs, fun x hx => (h.each x hx).gr hn hs⟩
end Go.Proofs.YtncnmadiiaidfaaGreatDoor
