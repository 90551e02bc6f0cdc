/- The queue: what is in it; Push and Pop of its own. -/
import Derived.Test.YtklgknepamebdaaGreatDoorQHeapN
import Derived.Deep.DeepCutAuto
namespace Go.Proofs.YtklgknepamebdaaGreatDoor
open Go.RowKit

/-- All stays but block gq and rows of exits from base on. -/
def KeepQ (base gq : Nat) (w w' : World) : Prop :=
  w'.os = w.os ∧ w'.tape = w.tape ∧ w'.output = w.output ∧ w.heap.size ≤ w'.heap.size ∧ ∀ k o, w.heap[k]? = some o → k ≠ gq → (k < base ∨ ∀ cs z, o ≠ .cells cs 219 z) → w'.heap[k]? = some o
section
variable {base gq : Nat} {w w' w'' : World} {v : Value} {l : List Ext}
theorem lt_of_heap {w : World} {k : Nat} {o : Obj} (h : w.heap[k]? = some o) : k < w.heap.size := (Array.getElem?_eq_some_iff.1 h).1
theorem KeepQ.refl (w : World) : KeepQ base gq w w := ⟨rfl, rfl, rfl, Nat.le_refl _, fun _ _ h _ _ => h⟩
theorem KeepQ.trans (h : KeepQ base gq w w') (k : KeepQ base gq w' w'') : KeepQ base gq w w'' :=
  ⟨k.1.trans h.1, k.2.1.trans h.2.1, k.2.2.1.trans h.2.2.1, Nat.le_trans h.2.2.2.1 k.2.2.2.1, fun i o ho hi hn => k.2.2.2.2 i o (h.2.2.2.2 i o ho hi hn) hi hn⟩
theorem KeepQ.of_nx (h : Nx w w') : KeepQ base gq w w' :=
  ⟨h.os, h.tape, h.output, h.sz, fun i _ ho _ _ => (h.block i (lt_of_heap ho)).trans ho⟩
theorem KeepQ.of_grown (hO : ORow base w v l) (h : w.grownBy w' v.ownBlock) : KeepQ base gq w w' :=
  ⟨h.os, h.tape, h.output, h.size, fun i o ho _ hn => (h.block i (lt_of_heap ho) (fun e => by
    rcases hO.2 with ⟨rfl, _⟩ | ⟨g, cap, cur, rfl, hb, hg, _⟩
    · cases e
    · injection e with e
      subst e
      rw [hg] at ho
      injection ho with ho
      rcases hn with hn | hn
      · omega
      · exact hn _ _ ho.symm)).trans ho⟩
theorem KeepQ.set (h : KeepQ base gq w w') (i : Nat) (u : Value) : KeepQ base gq w (w'.setCell ⟨gq, i, none⟩ u) :=
  ⟨h.1, h.2.1, h.2.2.1, by simpa [World.setCell] using h.2.2.2.1, fun k o ho hk hn => (Below.heap_setCell w' ⟨gq, i, none⟩ u k hk).trans (h.2.2.2.2 k o ho hk hn)⟩
theorem KeepQ.drew (h : KeepQ base gq w w') : KeepQ base gq w w'.drew := h.trans (.of_nx (Nx.refl _).drew)
theorem KeepQ.sz (h : KeepQ base gq w w') : w.heap.size ≤ w'.heap.size := h.2.2.2.1
/-- The queue's variable is block gq; its exits lie in a row from base on. -/
def QM (base gq : Nat) (w : World) (l : List Ext) : Prop := ∃ v, w.heap[gq]? = some (.cells #[v] 213 (0, 0)) ∧ ORow base w v l ∧ gq < base ∧ base ≤ w.heap.size
theorem QM.nx (h : QM base gq w l) (hn : Nx w w') : QM base gq w' l := by
  obtain ⟨v, h1, h2, h3, h4⟩ := h
  exact ⟨v, (hn.block gq (lt_of_heap h1)).trans h1, own_nx h2 hn, h3, Nat.le_trans h4 hn.sz⟩
theorem QM.cell (h : QM base gq w l) (h0 : 0 < l.length) : ∃ g cap, w.cell? ⟨gq, 0, none⟩ = some (.slice (some ⟨g, 0, none⟩) l.length cap) ∧ ORow base w (.slice (some ⟨g, 0, none⟩) l.length cap) l ∧ base ≤ g ∧ gq < base := by
  obtain ⟨v, h1, h2, h3, h4⟩ := h
  obtain ⟨g, cap, rfl, hb, _⟩ := h2.form h0
  exact ⟨g, cap, (cell_of_row w gq 0 _ _ _ h1).trans rfl, h2, hb, h3⟩
end
theorem ORow.app {base : Nat} {w : World} {v : Value} {l : List Ext} {x : Ext} (h : w.ownsRow base 219 2 v (l.length + 1) (l.flatMap encExt ++ [.int .i64 x.at_, .int .i64 (x.arc : Int)])) : ORow base w v (l ++ [x]) := by
  unfold ORow
  rw [List.length_append, List.flatMap_append]
  exact h
/-- The queue's row does not lie in block ex. -/
def NotOwn (gq ex : Nat) (w : World) : Prop := ∀ v z, w.heap[gq]? = some (.cells #[v] 213 z) → v.ownBlock ≠ some ex
/-- A block that is no part of the queue stays, and stays none. -/
def FrQ (gq : Nat) (w w' : World) : Prop := ∀ ex, ex < w.heap.size → ex ≠ gq → NotOwn gq ex w → w'.heap[ex]? = w.heap[ex]? ∧ NotOwn gq ex w'
theorem FrQ.trans {gq : Nat} {w w' w'' : World} (h : FrQ gq w w') (k : FrQ gq w' w'') : FrQ gq w w'' := fun ex h1 h2 h3 => by
  obtain ⟨a, b⟩ := h ex h1 h2 h3
  have hlt : ex < w'.heap.size := by
    rw [Array.getElem?_eq_getElem h1] at a
    exact (Array.getElem?_eq_some_iff.1 a).1
  obtain ⟨c, d⟩ := k ex hlt h2 b
  exact ⟨c.trans a, d⟩
theorem FrQ.nx {gq : Nat} {w w' : World} (hq : gq < w.heap.size) (h : Nx w w') : FrQ gq w w' := fun ex h1 _ h3 => ⟨h.block ex h1, fun v z hv => h3 v z ((h.block gq hq).symm.trans hv)⟩
theorem FrQ.set {gq : Nat} {w : World} {p : Addr} {u : Value} (hp : p.block ≠ gq) (hx : ∀ ex, ex = p.block → NotOwn gq ex w → False) : FrQ gq w (w.setCell p u) := fun ex _ _ h3 =>
  ⟨Below.heap_setCell w p u ex (fun e => hx ex e h3), fun v z hv => h3 v z ((Below.heap_setCell w p u gq (Ne.symm hp)).symm.trans hv)⟩
theorem frozen_blkQ {w : World} {g j : Nat} {cs : Array Value} {t : TypeId} (h : w.heap[g]? = some (.cells cs t (0, 0))) : w.frozen? ⟨g, j, none⟩ = false := by simp [World.frozen?, h]
theorem q_assert (T : TypeId) (x y : Int) (W : World) : (Instr.typeAssert (.iface 219 (.agg #[.int .i64 x, .int .i64 y])) T 219 false).run Tryz.prog W = .ok (.agg #[.int .i64 x, .int .i64 y]) W := by kernel_rfl
set_option maxRecDepth 100000 in
set_option maxHeartbeats 2000000 in
theorem w_QPush (base gq : Nat) (l : List Ext) (x : Ext) (w : World) (h : QM base gq w l) (hl : l.length ≤ 1000000) :
    Calls Tryz.prog 277 #[.pointer (some ⟨gq, 0, none⟩), .iface 219 (.agg #[.int .i64 x.at_, .int .i64 (x.arc : Int)])] w fun e w' => e = .returned (.tuple #[]) ∧ QM base gq w' (l ++ [x]) ∧ KeepQ base gq w w' ∧ FrQ gq w w' := by
  obtain ⟨v, h1, h2, h3, h4⟩ := h
  have hgl := lt_of_heap h1
  have c0 : w.cell? ⟨gq, 0, none⟩ = some v := (cell_of_row w gq 0 _ _ _ h1).trans rfl
  have cA : ∀ o, (w.alloc o).cell? ⟨gq, 0, none⟩ = some v := fun o => nx_cell ((Nx.refl w).alloc o) hgl c0
  have H1 := hide h1
  have HO := hide h2
  have hTA := q_assert
  obtain ⟨iA, zA, e1, e2, e3, e4, e5⟩ := el_Ext.hi
  have E1 := hide e1
  have E2 := hide e2
  have E3 := hide e3
  have E4 := hide e4
  have E5 := hide e5
  clear h1 h2 e1 e2 e3 e4 e5
  go_enter Tryz.func277, Tryz.ntmps277
  go_wp2_with fail
  go_region_law
    (first
      | (refine step_append_lies _ rfl _ _ _ rfl base _ iA zA 2 16 Tryz.underlying213 E1.out E2.out E3.out E4.out E5.out (by omega) v l.length (l.flatMap encExt) rfl (World.ownsRow.alloc HO.out _) _ 1 1 [.int .i64 x.at_, .int .i64 (x.arc : Int)] rfl rfl (news_of (hnew rfl) rfl) (by intro u hu; simp at hu; rcases hu with rfl | rfl <;> rfl) (by omega) (by unfold maxLen; omega) (by omega) (by simp; omega) _ rfl ?_; intro g6 c6 w6 hown6 hg6 hat6 hlt6; (have b6 : w6.heap[gq]? = some (.cells #[v] 213 (0, 0)) := (hg6.block gq (by simp; omega) (fun e => by have := own_blk_lt HO.out gq e.symm; omega)).trans ((((Nx.refl w).alloc _).block gq hgl).trans H1.out)); (have d6 : w6.cell? ⟨gq, 0, none⟩ = some v := (cell_of_row w6 gq 0 _ _ _ b6).trans rfl); (have f6 := frozen_blkQ (j := 0) b6)))
  all_goals
    go_wp2_with fail
    go_end0
    have hb6 := own_blk_lt hown6 g6 rfl
    refine ⟨rfl, ⟨_, heap_set b6, ORow.app (World.ownsRow.kept hown6 ((Gr.refl gq w6).setS (p := ⟨gq, 0, none⟩) (.inl rfl) _) (.inr (fun e => by injection e with e; have e : g6 = gq := e; omega))), h3, by simp [World.setCell]; omega⟩, ?_⟩
    have hk : ∀ W, Nx w W → W.grownBy w6 v.ownBlock → KeepQ base gq w (w6.setCell ⟨gq, 0, none⟩ (.slice (some ⟨g6, 0, none⟩) (l.length + 1) c6)) := fun W hx hg => ((KeepQ.of_nx hx).trans (KeepQ.of_grown (own_nx HO.out hx) hg)).set _ _
    have hk2 := hk _ (by repeat (first | with_reducible exact Nx.refl _ | with_reducible refine Nx.drew ?_ | with_reducible refine Nx.alloc ?_ _)) hg6
    have hf : ∀ W, Nx w W → W.grownBy w6 v.ownBlock → (v.ownBlock = some g6 ∨ g6 = W.heap.size) → FrQ gq w (w6.setCell ⟨gq, 0, none⟩ (.slice (some ⟨g6, 0, none⟩) (l.length + 1) c6)) := fun W hx hg ha ex h1 h2 h3 => by
      have hv := h3 v _ H1.out
      refine ⟨(Below.heap_setCell _ _ _ _ h2).trans ((hg.block ex (Nat.lt_of_lt_of_le h1 hx.sz) (fun e => hv e.symm)).trans (hx.block ex h1)), fun v' z hv' => ?_⟩
      rw [heap_set b6] at hv'
      injection hv' with hv'
      injection hv' with hv' _ _
      have e : v' = .slice (some ⟨g6, 0, none⟩) (l.length + 1) c6 := by
        have := congrArg (fun x : Array Value => x[0]?) hv'
        simpa using this.symm
      rw [e]
      intro e2
      have e2 : some g6 = some ex := e2
      rcases ha with ha | ha
      · exact hv (ha.trans e2)
      · injection e2 with e2
        have := hx.sz
        omega
    have hf2 := hf _ (by repeat (first | with_reducible exact Nx.refl _ | with_reducible refine Nx.drew ?_ | with_reducible refine Nx.alloc ?_ _)) hg6 hat6
    first | exact ⟨hk2, hf2⟩ | exact ⟨hk2.drew, fun ex h1 h2 h3 => hf2 ex h1 h2 h3⟩
end Go.Proofs.YtklgknepamebdaaGreatDoor
