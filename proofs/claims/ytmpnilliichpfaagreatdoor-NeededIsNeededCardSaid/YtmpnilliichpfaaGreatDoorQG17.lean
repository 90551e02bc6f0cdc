/- The queue: what is in it; Push and Pop of its own. -/
import Derived.Test.YtmpnilliichpfaaGreatDoorQHeapN
import Derived.Deep.DeepCutAuto
import Derived.Test.YtmpnilliichpfaaGreatDoorQHeapU
import Derived.Test.YtmpnilliichpfaaGreatDoorQG15
import Derived.Test.YtmpnilliichpfaaGreatDoorQTimeO
import Derived.Test.YtmpnilliichpfaaGreatDoorQG8
import Derived.Deep.RegionHeld3
import Derived.Test.YtmpnilliichpfaaGreatDoorQG11
import Derived.Deep.RegionWith
import Derived.Test.YtmpnilliichpfaaGreatDoorQG1
import Derived.Test.YtmpnilliichpfaaGreatDoorQShelfS
import Derived.Laws.OwnMore
import Derived.Laws.CopyOwn
namespace Go.Proofs.YtmpnilliichpfaaGreatDoor
open Go.RowKit

/-- All stays but block gq and rows of exits from base on. -/
def KeepQ (base gq : Nat) (w w' : World) : Prop :=
  w'.os = w.os ∧ w'.tape = w.tape ∧ w'.output = w.output ∧ w.heap.size ≤ w'.heap.size ∧ ∀ k o, w.heap[k]? = some o → k ≠ gq → (k < base ∨ ∀ cs z, o ≠ .cells cs 264 z) → w'.heap[k]? = some o
section
variable {base gq : Nat} {w w' w'' : World} {v : Value} {l : List Ext}
theorem lt_of_heap {w : World} {k : Nat} {o : Obj} (h : w.heap[k]? = some o) : k < w.heap.size := (Array.getElem?_eq_some_iff.1 h).1
theorem KeepQ.refl (w : World) : KeepQ base gq w w := ⟨rfl, rfl, rfl, Nat.le_refl _, fun _ _ h _ _ => h⟩
theorem KeepQ.trans (h : KeepQ base gq w w') (k : KeepQ base gq w' w'') : KeepQ base gq w w'' :=
  ⟨k.1.trans h.1, k.2.1.trans h.2.1, k.2.2.1.trans h.2.2.1, Nat.le_trans h.2.2.2.1 k.2.2.2.1, fun i o ho hi hn => k.2.2.2.2 i o (h.2.2.2.2 i o ho hi hn) hi hn⟩
theorem KeepQ.of_nx (h : Nx w w') : KeepQ base gq w w' :=
  ⟨h.os, h.tape, h.output, h.sz, fun i _ ho _ _ => (h.block i (lt_of_heap ho)).trans ho⟩
theorem KeepQ.of_grown (hO : ORow base w v l) (h : w.grownBy w' v.ownBlock) : KeepQ base gq w w' :=
  ⟨h.os, h.tape, h.output, h.size, fun i o ho _ hn => (h.block i (lt_of_heap ho) (fun e => by
    rcases hO.2 with ⟨rfl, _⟩ | ⟨g, cap, cur, rfl, hb, hg, _⟩
    · cases e
    · injection e with e
      subst e
      rw [hg] at ho
      injection ho with ho
      rcases hn with hn | hn
      · omega
      · exact hn _ _ ho.symm)).trans ho⟩
theorem KeepQ.set (h : KeepQ base gq w w') (i : Nat) (u : Value) : KeepQ base gq w (w'.setCell ⟨gq, i, none⟩ u) :=
  ⟨h.1, h.2.1, h.2.2.1, by simpa [World.setCell] using h.2.2.2.1, fun k o ho hk hn => (Below.heap_setCell w' ⟨gq, i, none⟩ u k hk).trans (h.2.2.2.2 k o ho hk hn)⟩
theorem KeepQ.drew (h : KeepQ base gq w w') : KeepQ base gq w w'.drew := h.trans (.of_nx (Nx.refl _).drew)
theorem KeepQ.sz (h : KeepQ base gq w w') : w.heap.size ≤ w'.heap.size := h.2.2.2.1
/-- The queue's variable is block gq; its exits lie in a row from base on. -/
def QM (base gq : Nat) (w : World) (l : List Ext) : Prop := ∃ v, w.heap[gq]? = some (.cells #[v] 260 (0, 0)) ∧ ORow base w v l ∧ gq < base ∧ base ≤ w.heap.size
theorem QM.nx (h : QM base gq w l) (hn : Nx w w') : QM base gq w' l := by
  obtain ⟨v, h1, h2, h3, h4⟩ := h
  exact ⟨v, (hn.block gq (lt_of_heap h1)).trans h1, own_nx h2 hn, h3, Nat.le_trans h4 hn.sz⟩
theorem QM.cell (h : QM base gq w l) (h0 : 0 < l.length) : ∃ g cap, w.cell? ⟨gq, 0, none⟩ = some (.slice (some ⟨g, 0, none⟩) l.length cap) ∧ ORow base w (.slice (some ⟨g, 0, none⟩) l.length cap) l ∧ base ≤ g ∧ gq < base := by
  obtain ⟨v, h1, h2, h3, h4⟩ := h
  obtain ⟨g, cap, rfl, hb, _⟩ := h2.form h0
  exact ⟨g, cap, (cell_of_row w gq 0 _ _ _ h1).trans rfl, h2, hb, h3⟩
end
theorem ORow.app {base : Nat} {w : World} {v : Value} {l : List Ext} {x : Ext} (h : w.ownsRow base 264 2 v (l.length + 1) (l.flatMap encExt ++ [.int .i64 x.at_, .int .i64 (x.arc : Int)])) : ORow base w v (l ++ [x]) := by
  unfold ORow
  rw [List.length_append, List.flatMap_append]
  exact h
/-- The queue's row does not lie in block ex. -/
def NotOwn (gq ex : Nat) (w : World) : Prop := ∀ v z, w.heap[gq]? = some (.cells #[v] 260 z) → v.ownBlock ≠ some ex
/-- A block that is no part of the queue stays, and stays none. -/
def FrQ (gq : Nat) (w w' : World) : Prop := ∀ ex, ex < w.heap.size → ex ≠ gq → NotOwn gq ex w → w'.heap[ex]? = w.heap[ex]? ∧ NotOwn gq ex w'
theorem FrQ.trans {gq : Nat} {w w' w'' : World} (h : FrQ gq w w') (k : FrQ gq w' w'') : FrQ gq w w'' := fun ex h1 h2 h3 => by
  obtain ⟨a, b⟩ := h ex h1 h2 h3
  have hlt : ex < w'.heap.size := by
    rw [Array.getElem?_eq_getElem h1] at a
    exact (Array.getElem?_eq_some_iff.1 a).1
  obtain ⟨c, d⟩ := k ex hlt h2 b
  exact ⟨c.trans a, d⟩
theorem FrQ.nx {gq : Nat} {w w' : World} (hq : gq < w.heap.size) (h : Nx w w') : FrQ gq w w' := fun ex h1 _ h3 => ⟨h.block ex h1, fun v z hv => h3 v z ((h.block gq hq).symm.trans hv)⟩
theorem FrQ.set {gq : Nat} {w : World} {p : Addr} {u : Value} (hp : p.block ≠ gq) (hx : ∀ ex, ex = p.block → NotOwn gq ex w → False) : FrQ gq w (w.setCell p u) := fun ex _ _ h3 =>
  ⟨Below.heap_setCell w p u ex (fun e => hx ex e h3), fun v z hv => h3 v z ((Below.heap_setCell w p u gq (Ne.symm hp)).symm.trans hv)⟩
theorem frozen_blkQ {w : World} {g j : Nat} {cs : Array Value} {t : TypeId} (h : w.heap[g]? = some (.cells cs t (0, 0))) : w.frozen? ⟨g, j, none⟩ = false := by simp [World.frozen?, h]
theorem q_assert (T : TypeId) (x y : Int) (W : World) : (Instr.typeAssert (.iface 264 (.agg #[.int .i64 x, .int .i64 y])) T 264 false).run Tryz.prog W = .ok (.agg #[.int .i64 x, .int .i64 y]) W := by kernel_rfl
set_option maxRecDepth 100000 in
set_option maxHeartbeats 2000000 in
theorem w_QPush (base gq : Nat) (l : List Ext) (x : Ext) (w : World) (h : QM base gq w l) (hl : l.length ≤ 1000000) :
    Calls Tryz.prog 326 #[.pointer (some ⟨gq, 0, none⟩), .iface 264 (.agg #[.int .i64 x.at_, .int .i64 (x.arc : Int)])] w fun e w' => e = .returned (.tuple #[]) ∧ QM base gq w' (l ++ [x]) ∧ KeepQ base gq w w' ∧ FrQ gq w w' := by
  obtain ⟨v, h1, h2, h3, h4⟩ := h
  have hgl := lt_of_heap h1
  have c0 : w.cell? ⟨gq, 0, none⟩ = some v := (cell_of_row w gq 0 _ _ _ h1).trans rfl
  have cA : ∀ o, (w.alloc o).cell? ⟨gq, 0, none⟩ = some v := fun o => nx_cell ((Nx.refl w).alloc o) hgl c0
  have H1 := hide h1
  have HO := hide h2
  have hTA := q_assert
  obtain ⟨iA, zA, e1, e2, e3, e4, e5⟩ := el_Ext.hi
  have E1 := hide e1
  have E2 := hide e2
  have E3 := hide e3
  have E4 := hide e4
  have E5 := hide e5
  clear h1 h2 e1 e2 e3 e4 e5
  go_enter Tryz.func326, Tryz.ntmps326
  go_wp2_with fail
  go_region_law
    (first
      | (refine step_append_lies _ rfl _ _ _ rfl base _ iA zA 2 16 Tryz.underlying260 E1.out E2.out E3.out E4.out E5.out (by omega) v l.length (l.flatMap encExt) rfl (World.ownsRow.alloc HO.out _) _ 1 1 [.int .i64 x.at_, .int .i64 (x.arc : Int)] rfl rfl (news_of (hnew rfl) rfl) (by intro u hu; simp at hu; rcases hu with rfl | rfl <;> rfl) (by omega) (by unfold maxLen; omega) (by omega) (by simp; omega) _ rfl ?_; intro g6 c6 w6 hown6 hg6 hat6 hlt6; (have b6 : w6.heap[gq]? = some (.cells #[v] 260 (0, 0)) := (hg6.block gq (by simp; omega) (fun e => by have := own_blk_lt HO.out gq e.symm; omega)).trans ((((Nx.refl w).alloc _).block gq hgl).trans H1.out)); (have d6 : w6.cell? ⟨gq, 0, none⟩ = some v := (cell_of_row w6 gq 0 _ _ _ b6).trans rfl); (have f6 := frozen_blkQ (j := 0) b6)))
  all_goals
    go_wp2_with fail
    go_end0
    have hb6 := own_blk_lt hown6 g6 rfl
    refine ⟨rfl, ⟨_, heap_set b6, ORow.app (World.ownsRow.kept hown6 ((Gr.refl gq w6).setS (p := ⟨gq, 0, none⟩) (.inl rfl) _) (.inr (fun e => by injection e with e; have e : g6 = gq := e; omega))), h3, by simp [World.setCell]; omega⟩, ?_⟩
    have hk : ∀ W, Nx w W → W.grownBy w6 v.ownBlock → KeepQ base gq w (w6.setCell ⟨gq, 0, none⟩ (.slice (some ⟨g6, 0, none⟩) (l.length + 1) c6)) := fun W hx hg => ((KeepQ.of_nx hx).trans (KeepQ.of_grown (own_nx HO.out hx) hg)).set _ _
    have hk2 := hk _ (by repeat (first | with_reducible exact Nx.refl _ | with_reducible refine Nx.drew ?_ | with_reducible refine Nx.alloc ?_ _)) hg6
    have hf : ∀ W, Nx w W → W.grownBy w6 v.ownBlock → (v.ownBlock = some g6 ∨ g6 = W.heap.size) → FrQ gq w (w6.setCell ⟨gq, 0, none⟩ (.slice (some ⟨g6, 0, none⟩) (l.length + 1) c6)) := fun W hx hg ha ex h1 h2 h3 => by
      have hv := h3 v _ H1.out
      refine ⟨(Below.heap_setCell _ _ _ _ h2).trans ((hg.block ex (Nat.lt_of_lt_of_le h1 hx.sz) (fun e => hv e.symm)).trans (hx.block ex h1)), fun v' z hv' => ?_⟩
      rw [heap_set b6] at hv'
      injection hv' with hv'
      injection hv' with hv' _ _
      have e : v' = .slice (some ⟨g6, 0, none⟩) (l.length + 1) c6 := by
        have := congrArg (fun x : Array Value => x[0]?) hv'
        simpa using this.symm
      rw [e]
      intro e2
      have e2 : some g6 = some ex := e2
      rcases ha with ha | ha
      · exact hv (ha.trans e2)
      · injection e2 with e2
        have := hx.sz
        omega
    have hf2 := hf _ (by repeat (first | with_reducible exact Nx.refl _ | with_reducible refine Nx.drew ?_ | with_reducible refine Nx.alloc ?_ _)) hg6 hat6
    first | exact ⟨hk2, hf2⟩ | exact ⟨hk2.drew, fun ex h1 h2 h3 => hf2 ex h1 h2 h3⟩
end Go.Proofs.YtmpnilliichpfaaGreatDoor
/- The library's heap over the queue: Push, Pop. -/
namespace Go.Proofs.YtmpnilliichpfaaGreatDoor
open Go.RowKit

section
variable {base gq : Nat} {w w' : World} {l : List Ext}
theorem QM.qa (h : QM base gq w l) (h0 : 0 < l.length) : ∃ g cap, QA base gq g cap w l ∧ base ≤ g := by
  obtain ⟨v, h1, h2, h3, h4⟩ := h
  obtain ⟨g, cap, rfl, hb, _⟩ := h2.form h0
  exact ⟨g, cap, ⟨h1, h2, h3⟩, hb⟩
theorem QA.qm {g cap : Nat} (h : QA base gq g cap w l) (hb : base ≤ w.heap.size) : QM base gq w l := ⟨_, h.1, h.2.1, h.2.2, hb⟩
theorem KeepQ.of_qa {g cap : Nat} (h : QA base gq g cap w l) (hg : Gr g w w') : KeepQ base gq w w' := KeepQ.of_grown h.2.1 hg
theorem FrQ.of_qa {g cap : Nat} {l' : List Ext} (h : QA base gq g cap w l) (h' : QA base gq g cap w' l') (hg : Gr g w w') : FrQ gq w w' := fun ex h1 _ h3 => by
  have hv := h3 _ _ h.1
  refine ⟨World.grownBy.block (row := some g) hg ex h1 (fun e => hv e.symm), fun v z hz => ?_⟩
  rw [h'.1] at hz
  injection hz with hz
  injection hz with hz _ _
  have e : v = .slice (some ⟨g, 0, none⟩) l'.length cap := by
    have := congrArg (fun x : Array Value => x[0]?) hz
    simpa using this.symm
  rw [e]
  exact hv
theorem own_take {e : TypeId} {K n cap g k : Nat} {xs : List Value} (h : w.ownsRow base e K (.slice (some ⟨g, 0, none⟩) n cap) n xs) (hk : k ≤ n) : w.ownsRow base e K (.slice (some ⟨g, 0, none⟩) k cap) k (xs.take (k * K)) := by
  obtain ⟨h1, h2⟩ := h
  have hkK : k * K ≤ n * K := Nat.mul_le_mul_right K hk
  refine ⟨by rw [List.length_take]; omega, .inr ?_⟩
  rcases h2 with ⟨h2, _⟩ | ⟨g', cap', cur, h2, hb, hg, hn, hm, hs, ht⟩
  · cases h2
  · injection h2 with a1 a2 a3
    injection a1 with a1
    injection a1 with a1
    subst a1 a3
    exact ⟨g, cap, cur, rfl, hb, hg, by omega, hm, hs, by rw [← ht, List.take_take, Nat.min_eq_left hkK]⟩
theorem own_cap {e : TypeId} {K n cap g : Nat} {xs : List Value} (h : w.ownsRow base e K (.slice (some ⟨g, 0, none⟩) n cap) n xs) : n ≤ cap := by
  rcases h.2 with ⟨h2, _⟩ | ⟨g', cap', cur, h2, hb, hg, hn, _⟩
  · cases h2
  · injection h2 with _ _ a3; omega
theorem flat_take {α : Type} {enc : α → List Value} {K : Nat} (hk : ∀ x, (enc x).length = K) : ∀ (l : List α) (k : Nat), (l.flatMap enc).take (k * K) = (l.take k).flatMap enc
  | [], k => by simp
  | x :: l, 0 => by simp
  | x :: l, k + 1 => by
    rw [List.take_succ_cons, List.flatMap_cons, List.flatMap_cons, List.take_append, hk, List.take_of_length_le (by rw [hk, Nat.add_mul]; omega), show (k + 1) * K - K = k * K by rw [Nat.add_mul]; omega, flat_take hk l k]
theorem ORow.take {g cap : Nat} (h : ORow base w (.slice (some ⟨g, 0, none⟩) l.length cap) l) (k : Nat) (hk : k ≤ l.length) : ORow base w (.slice (some ⟨g, 0, none⟩) k cap) (l.take k) := by
  have h1 := own_take h hk
  rw [flat_take encExt_len] at h1
  unfold ORow
  rw [List.length_take, Nat.min_eq_left hk]
  exact h1
end
set_option maxRecDepth 100000 in
set_option maxHeartbeats 4000000 in
theorem w_QPop (base gq g cap : Nat) (l : List Ext) (w : World) (hQ : QA base gq g cap w l) (h0 : 0 < l.length) (hl : l.length ≤ 1000000) (hb : base ≤ w.heap.size) :
    Calls Tryz.prog 325 #[.pointer (some ⟨gq, 0, none⟩)] w fun e w' => e = .returned (.iface 264 (.agg #[.int .i64 (gx l (l.length - 1)).at_, .int .i64 ((gx l (l.length - 1)).arc : Int)])) ∧ QM base gq w' (l.take (l.length - 1)) ∧ KeepQ base gq w w' := by
  have c0 := hQ.cell
  obtain ⟨n, hn⟩ : ∃ n, l.length = n + 1 := ⟨l.length - 1, by omega⟩
  have hi : n < l.length := by omega
  have c1 : w.cell? ⟨g, n * 2, none⟩ = some (.int .i64 l[n].at_) := by have := own_cell encExt_len rfl hQ.2.1 n hi 0 _ rfl; simpa using this
  have c2 : w.cell? ⟨g, n * 2 + 1, none⟩ = some (.int .i64 (l[n].arc : Int)) := own_cell encExt_len rfl hQ.2.1 n hi 1 _ rfl
  have hgq := (Array.getElem?_eq_some_iff.1 hQ.1).1
  have hgg := (hQ.2.1.lt g rfl).2
  have hcap := own_cap hQ.2.1
  have hgne := hQ.ne
  have HQ := hide hQ
  have hge : gx l (l.length - 1) = l[n] := by rw [gx_lt (by omega)]; congr 1; omega
  rw [hge]
  rw [hn] at c0
  have HT := hide (hQ.2.1.take n (by omega))
  have e1 : l.length - 1 = n := by omega
  rw [e1]
  have HN := hide hn
  clear hQ hge hn e1 h0
  generalize l[n] = x at *
  have hn2 : n ≤ 1000000 := by have := HN.out; omega
  have f0 := frozen_blkQ (j := 0) HQ.out.1
  go_enter Tryz.func325, Tryz.ntmps325
  go_wp2_with fail
  go_ret
  have hg3 : w.grownBy (w.setCell ⟨gq, 0, none⟩ (.slice (some ⟨g, 0, none⟩) n cap)) (some gq) := (Gr.refl gq w).setS (.inl rfl) _
  have hq3 : QM base gq (w.setCell ⟨gq, 0, none⟩ (.slice (some ⟨g, 0, none⟩) n cap)) (l.take n) := by
    refine ⟨_, heap_set HQ.out.1, ?_, HQ.out.2.2, by simpa [World.setCell] using hb⟩
    unfold ORow
    rw [List.length_take, Nat.min_eq_left (by omega)]
    have h4 := HT.out
    unfold ORow at h4
    rw [List.length_take, Nat.min_eq_left (by omega)] at h4
    exact World.ownsRow.kept h4 hg3 (.inr fun e => by injection e with e; exact hgne e.symm)
  exact ⟨rfl, hq3.nx ((Nx.refl _).alloc _), ((KeepQ.refl w).set _ _).trans (KeepQ.of_nx ((Nx.refl _).alloc _))⟩
set_option maxRecDepth 100000 in
set_option maxHeartbeats 4000000 in
theorem w_HPush (base gq : Nat) (l : List Ext) (x : Ext) (w : World) (h : QM base gq w l) (hl : l.length < 1000000) :
    Calls Tryz.prog 180 #[.iface 262 (.pointer (some ⟨gq, 0, none⟩)), .iface 264 (.agg #[.int .i64 x.at_, .int .i64 (x.arc : Int)])] w fun e w' => e = .returned (.tuple #[]) ∧ QM base gq w' (hpush l x) ∧ KeepQ base gq w w' ∧ FrQ gq w w' := by
  have HP := hide (w_QPush base gq l x w h (by omega))
  have hMP := m_Push ⟨gq, 0, none⟩ w
  have HL := hide hl
  clear h hl
  go_enter Tryz.func180, Tryz.ntmps180
  go_wp2_with fail
  refine HP.out.mono ?_
  rintro e w1 ⟨rfl, hQ1, hk1, hf1⟩
  have hlen : (l ++ [x]).length = l.length + 1 := by simp
  obtain ⟨g, cap, hQA, hb⟩ := hQ1.qa (by omega)
  have hML := m_Len gq (some ⟨g, 0, none⟩) (l ++ [x]).length cap w1 hQA.cell
  have hll := HL.out
  have HU := hide (w_hup base gq g cap (l ++ [x]) l.length w1 hQA (by omega) (by omega))
  have HQ1 := hide hQA
  have HB := hide (show base ≤ w1.heap.size by obtain ⟨_, _, _, _, h4⟩ := hQ1; exact h4)
  rw [hlen] at hML
  clear hQ1 hQA hlen
  have HR := hide (show hup (l ++ [x]) l.length = hpush l x from rfl)
  generalize l.length = n at *
  go_wp2_with (go_at_call 322; refine (w_QLen _ _ _ _).mono ?_; rintro e w2 ⟨rfl, rfl⟩)
  refine HU.out.mono ?_
  rintro e w3 ⟨rfl, hQ3, hg3⟩
  go_wp2_with fail
  go_end0
  refine ⟨rfl, ?_, hk1.trans (KeepQ.of_qa HQ1.out hg3), hf1.trans (FrQ.of_qa HQ1.out hQ3 hg3)⟩
  rw [← HR.out]
  exact hQ3.qm (Nat.le_trans HB.out hg3.sz)
set_option maxRecDepth 100000 in
set_option maxHeartbeats 4000000 in
theorem w_HPop (base gq : Nat) (l : List Ext) (w : World) (h : QM base gq w l) (h0 : l ≠ []) (hl : l.length ≤ 1000000) :
    Calls Tryz.prog 181 #[.iface 262 (.pointer (some ⟨gq, 0, none⟩))] w fun e w' => e = .returned (.iface 264 (.agg #[.int .i64 (gx l 0).at_, .int .i64 ((gx l 0).arc : Int)])) ∧ QM base gq w' (hrest l) ∧ KeepQ base gq w w' := by
  have hpos := List.length_pos_iff.2 h0
  obtain ⟨g, cap, hQA, hb⟩ := h.qa hpos
  have HBS := hide (show base ≤ w.heap.size by obtain ⟨_, _, _, _, h4⟩ := h; exact h4)
  obtain ⟨n, hn⟩ : ∃ n, l.length = n + 1 := ⟨l.length - 1, by omega⟩
  have hML := m_Len gq (some ⟨g, 0, none⟩) l.length cap w hQA.cell
  have hMS := m_Swap gq (some ⟨g, 0, none⟩) l.length cap w hQA.cell
  have HSW := hide (w_QSwap base g cap l 0 n w hQA.2.1 (by omega) (by omega))
  have HQ := hide hQA
  have HN := hide hn
  have HTOP := hide (hpop_top l h0)
  have HREST := hide (show hrest l = (hdown (swapL l 0 (l.length - 1)) 0 (l.length - 1)).take (l.length - 1) from rfl)
  rw [hn] at HSW hML hMS HTOP HREST
  have HL := hide hl
  have hn6 : n + 1 ≤ 1000000 := by omega
  clear hQA h h0 hn hpos hl hb
  generalize hD : hdown (swapL l 0 (n + 1 - 1)) 0 (n + 1 - 1) = D at *
  have HDD := hide hD
  clear hD
  generalize gx l 0 = x at *
  generalize hrest l = R at *
  go_enter Tryz.func181, Tryz.ntmps181
  go_wp2_with (go_at_call 322; refine (w_QLen _ _ _ _).mono ?_; rintro e w2 ⟨rfl, rfl⟩)
  refine HSW.out.mono ?_
  rintro e w3 ⟨rfl, hO3, hg3⟩
  have hQ3 : QA base gq g cap w3 (swapL l 0 n) := HQ.out.gr (swapL_len _ _ _) hg3 (by rw [HN.out]; exact hO3)
  have HDN := hide (w_hdown base gq g cap (swapL l 0 n) n w3 hQ3 (by rw [swapL_len, HN.out]; omega) (by rw [swapL_len]; exact HL.out))
  have HD2 := hide (show hdown (swapL l 0 n) 0 n = D from HDD.out)
  rw [HD2.out] at HDN
  clear hMS hML hO3 HSW
  go_wp2_with fail
  refine HDN.out.mono ?_
  rintro e w4 ⟨⟨b4, rfl⟩, hQ4, hg4⟩
  have hlD : D.length = n + 1 := by rw [← HD2.out, hdown_len, swapL_len, HN.out]
  have hMP := m_Pop ⟨gq, 0, none⟩ w4
  have hge := gx_lt (l := D) (k := n) (by omega)
  have HPP := hide (w_QPop base gq g cap D w4 hQ4 (by omega) (by omega) (Nat.le_trans HBS.out (Nat.le_trans (World.grownBy.size hg3) (World.grownBy.size hg4))))
  have e1 : D.length - 1 = n := by omega
  have HT2 := hide (show gx D n = x from HTOP.out)
  have HR2 := hide (show R = D.take n from HREST.out)
  rw [e1, HT2.out] at HPP
  have HK := hide (show KeepQ base gq w w4 from (KeepQ.of_qa HQ.out hg3).trans (KeepQ.of_qa hQ3 hg4))
  clear e1 hlD hge hQ4 hQ3 HDN HD2 HTOP HREST
  go_wp2_with fail
  refine HPP.out.mono ?_
  rintro e w5 ⟨rfl, hQ5, hk5⟩
  go_wp2_with fail
  go_ret
  exact ⟨rfl, by rw [HR2.out]; exact hQ5, HK.out.trans hk5⟩
end Go.Proofs.YtmpnilliichpfaaGreatDoor
/- A search's memory. -/
namespace Go.Proofs.YtmpnilliichpfaaGreatDoor
open Go.RowKit Go.Maps

/-- Blocks with what they hold, no block twice. -/
def Mem (w : World) (l : List (Nat × Obj)) : Prop := (l.map (·.1)).Nodup ∧ ∀ p ∈ l, w.heap[p.1]? = some p.2
section
variable {w w' : World} {l l1 l2 : List (Nat × Obj)}
theorem Mem.set {k i : Nat} {cs : Array Value} {t : TypeId} (h : Mem w (l1 ++ (k, .cells cs t (0, 0)) :: l2)) (u : Value) : Mem (w.setCell ⟨k, i, none⟩ u) (l1 ++ (k, .cells (cs.setIfInBounds i u) t (0, 0)) :: l2) := by
  obtain ⟨h1, h2⟩ := h
  refine ⟨by simpa using h1, fun p hp => ?_⟩
  rw [List.map_append, List.map_cons, List.nodup_append] at h1
  rcases List.mem_append.1 hp with hp | hp
  · have hne : p.1 ≠ k := h1.2.2 p.1 (List.mem_map_of_mem hp) k (by simp)
    exact (Below.heap_setCell w ⟨k, i, none⟩ u p.1 hne).trans (h2 p (List.mem_append_left _ hp))
  · rcases List.mem_cons.1 hp with rfl | hp
    · exact heap_set (h2 (k, .cells cs t (0, 0)) (by simp))
    · have hne : p.1 ≠ k := fun e => (List.nodup_cons.1 h1.2.1).1 (show k ∈ l2.map (·.1) from e ▸ List.mem_map_of_mem (f := fun p : Nat × Obj => p.1) hp)
      exact (Below.heap_setCell w ⟨k, i, none⟩ u p.1 hne).trans (h2 p (List.mem_append_right _ (List.mem_cons_of_mem _ hp)))
theorem Mem.nx (h : Mem w l) (hn : Nx w w') : Mem w' l := ⟨h.1, fun p hp => (hn.block p.1 (lt_of_heap (h.2 p hp))).trans (h.2 p hp)⟩
theorem Mem.keep {base gq : Nat} (h : Mem w l) (hk : KeepQ base gq w w') (hb : ∀ p ∈ l, p.1 < base ∧ p.1 ≠ gq) : Mem w' l :=
  ⟨h.1, fun p hp => hk.2.2.2.2 _ _ (h.2 p hp) (hb p hp).2 (.inl (hb p hp).1)⟩
end
theorem QM.head {base gq : Nat} {w : World} {l : List Ext} (h : QM base gq w l) : ∃ A c, w.cell? ⟨gq, 0, none⟩ = some (.slice A l.length c) := by
  obtain ⟨v, h1, h2, _, _⟩ := h
  rcases h2.2 with ⟨rfl, h0⟩ | ⟨g, cap, cur, rfl, _⟩
  · exact ⟨none, 0, (cell_of_row w gq 0 _ _ _ h1).trans (by rw [h0]; rfl)⟩
  · exact ⟨_, _, (cell_of_row w gq 0 _ _ _ h1).trans rfl⟩
/-- Where a search's parts lie. -/
structure SA where
  bx : Nat
  T : Nat
  bt : Nat
  gF : Nat
  gL : Nat
  gP : Nat
  gB : Nat
  gD : Nat
  bb : Nat
  gq : Nat
  base : Nat
def intRow (l : List Int) : Obj := .cells (l.map (Value.int .i64)).toArray 3 (0, 0)
def boolRow (l : List Bool) : Obj := .cells (l.map Value.bool).toArray 4 (0, 0)
/-- A search's memory. -/
def memOf (a : SA) (bm fr nn m : Nat) (at_ : Int) (s : Sr) : List (Nat × Obj) :=
  [(a.bx, .cells #[.pointer (some ⟨bm, 0, none⟩)] 126 (0, 0)),
   (a.T, .cells #[.pointer (some ⟨bm, 0, none⟩), .int .i64 (fr : Int), .int .i64 at_, .slice (some ⟨a.gF, 0, none⟩) nn nn, .slice (some ⟨a.gL, 0, none⟩) nn nn, .slice (some ⟨a.gP, 0, none⟩) m m] 195 (0, 0)),
   (a.bt, .cells #[.pointer (some ⟨a.T, 0, none⟩)] 188 (0, 0)),
   (a.bb, .cells #[.slice (some ⟨a.gB, 0, none⟩) m m] 22 (0, 0)),
   (a.gF, intRow s.first), (a.gL, intRow s.last), (a.gP, intRow s.prev), (a.gB, intRow s.best), (a.gD, boolRow s.done)]
structure SM (w0 w : World) (a : SA) (bm fr nn m : Nat) (at_ : Int) (s : Sr) : Prop where
  nx : Nx w0 w
  mem : Mem w (memOf a bm fr nn m at_ s)
  q : QM a.base a.gq w s.q
  lo : ∀ b ∈ [a.bx, a.T, a.bt, a.bb, a.gF, a.gL, a.gP, a.gB, a.gD], w0.heap.size ≤ b ∧ b < a.base ∧ b ≠ a.gq
  lq : w0.heap.size ≤ a.gq
  lF : s.first.length = nn
  lL : s.last.length = nn
  lP : s.prev.length = m
  lB : s.best.length = m
  lD : s.done.length = m
theorem intRow_set (l : List Int) (i : Nat) (v : Int) : (l.map (Value.int .i64)).toArray.setIfInBounds i (.int .i64 v) = ((l.set i v).map (Value.int .i64)).toArray := by
  apply Array.ext'
  simp [List.map_set]
theorem boolRow_set (l : List Bool) (i : Nat) (v : Bool) : (l.map Value.bool).toArray.setIfInBounds i (.bool v) = ((l.set i v).map Value.bool).toArray := by
  apply Array.ext'
  simp [List.map_set]
section
variable {w0 w w' : World} {a : SA} {bm fr nn m : Nat} {at_ : Int} {s : Sr}
theorem SM.blocks (p : Nat × Obj) (hp : p ∈ memOf a bm fr nn m at_ s) : p.1 ∈ [a.bx, a.T, a.bt, a.bb, a.gF, a.gL, a.gP, a.gB, a.gD] := by
  simp only [memOf, List.mem_cons, List.not_mem_nil, or_false] at hp
  rcases hp with rfl | rfl | rfl | rfl | rfl | rfl | rfl | rfl | rfl <;> simp
theorem SM.step (h : SM w0 w a bm fr nn m at_ s) (hn : Nx w w') : SM w0 w' a bm fr nn m at_ s :=
  ⟨h.nx.trans hn, h.mem.nx hn, h.q.nx hn, h.lo, h.lq, h.lF, h.lL, h.lP, h.lB, h.lD⟩
theorem SM.keep (h : SM w0 w a bm fr nn m at_ s) (hk : KeepQ a.base a.gq w w') {q : List Ext} (hq : QM a.base a.gq w' q) : SM w0 w' a bm fr nn m at_ { s with q := q } := by
  refine ⟨?_, h.mem.keep hk (fun p hp => ?_), hq, h.lo, h.lq, h.lF, h.lL, h.lP, h.lB, h.lD⟩
  · refine ⟨hk.1.trans h.nx.os, hk.2.1.trans h.nx.tape, hk.2.2.1.trans h.nx.output, Nat.le_trans h.nx.sz hk.2.2.2.1, fun k hk1 => ?_⟩
    have e1 := h.nx.block k hk1
    have hb := (h.lo a.bx (by simp))
    cases ho : w0.heap[k]? with
    | none => rw [Array.getElem?_eq_none_iff] at ho; omega
    | some o => rw [ho] at e1; exact hk.2.2.2.2 k o e1 (by have := h.lq; omega) (.inl (by omega))
  · have := h.lo p.1 (SM.blocks p hp)
    exact ⟨this.2.1, this.2.2⟩
theorem SM.q_set (h : SM w0 w a bm fr nn m at_ s) {k i : Nat} (hk : k ∈ [a.bx, a.T, a.bt, a.bb, a.gF, a.gL, a.gP, a.gB, a.gD]) (u : Value) : QM a.base a.gq (w.setCell ⟨k, i, none⟩ u) s.q := by
  obtain ⟨v, h1, h2, h3, h4⟩ := h.q
  have hb := h.lo k hk
  refine ⟨v, (Below.heap_setCell w ⟨k, i, none⟩ u a.gq (Ne.symm hb.2.2)).trans h1, World.ownsRow.kept h2 (show w.grownBy (w.setCell ⟨k, i, none⟩ u) (some k) from (Gr.refl k w).setS (.inl rfl) u) (.inr fun e => ?_), h3, by simpa [World.setCell] using h4⟩
  have := own_blk_lt h2 k e
  omega
theorem SM.setB (h : SM w0 w a bm fr nn m at_ s) (i : Nat) (v : Int) : SM w0 (w.setCell ⟨a.gB, i, none⟩ (.int .i64 v)) a bm fr nn m at_ { s with best := s.best.set i v } := by
  refine ⟨h.nx.setCell (h.lo a.gB (by simp)).1 _, ?_, h.q_set (by simp) _, h.lo, h.lq, h.lF, h.lL, h.lP, by simpa using h.lB, h.lD⟩
  have := Mem.set (l1 := [_, _, _, _, _, _, _]) (i := i) (show Mem w ([_, _, _, _, _, _, _] ++ (a.gB, intRow s.best) :: [_]) from h.mem) (.int .i64 v)
  rw [intRow_set] at this
  exact this
theorem SM.setP (h : SM w0 w a bm fr nn m at_ s) (i : Nat) (v : Int) : SM w0 (w.setCell ⟨a.gP, i, none⟩ (.int .i64 v)) a bm fr nn m at_ { s with prev := s.prev.set i v } := by
  refine ⟨h.nx.setCell (h.lo a.gP (by simp)).1 _, ?_, h.q_set (by simp) _, h.lo, h.lq, h.lF, h.lL, by simpa using h.lP, h.lB, h.lD⟩
  have := Mem.set (l1 := [_, _, _, _, _, _]) (i := i) (show Mem w ([_, _, _, _, _, _] ++ (a.gP, intRow s.prev) :: [_, _]) from h.mem) (.int .i64 v)
  rw [intRow_set] at this
  exact this
theorem SM.setF (h : SM w0 w a bm fr nn m at_ s) (i : Nat) (v : Int) : SM w0 (w.setCell ⟨a.gF, i, none⟩ (.int .i64 v)) a bm fr nn m at_ { s with first := s.first.set i v } := by
  refine ⟨h.nx.setCell (h.lo a.gF (by simp)).1 _, ?_, h.q_set (by simp) _, h.lo, h.lq, by simpa using h.lF, h.lL, h.lP, h.lB, h.lD⟩
  have := Mem.set (l1 := [_, _, _, _]) (i := i) (show Mem w ([_, _, _, _] ++ (a.gF, intRow s.first) :: [_, _, _, _]) from h.mem) (.int .i64 v)
  rw [intRow_set] at this
  exact this
theorem SM.setL (h : SM w0 w a bm fr nn m at_ s) (i : Nat) (v : Int) : SM w0 (w.setCell ⟨a.gL, i, none⟩ (.int .i64 v)) a bm fr nn m at_ { s with last := s.last.set i v } := by
  refine ⟨h.nx.setCell (h.lo a.gL (by simp)).1 _, ?_, h.q_set (by simp) _, h.lo, h.lq, h.lF, by simpa using h.lL, h.lP, h.lB, h.lD⟩
  have := Mem.set (l1 := [_, _, _, _, _]) (i := i) (show Mem w ([_, _, _, _, _] ++ (a.gL, intRow s.last) :: [_, _, _]) from h.mem) (.int .i64 v)
  rw [intRow_set] at this
  exact this
theorem SM.setD (h : SM w0 w a bm fr nn m at_ s) (i : Nat) (v : Bool) : SM w0 (w.setCell ⟨a.gD, i, none⟩ (.bool v)) a bm fr nn m at_ { s with done := s.done.set i v } := by
  refine ⟨h.nx.setCell (h.lo a.gD (by simp)).1 _, ?_, h.q_set (by simp) _, h.lo, h.lq, h.lF, h.lL, h.lP, h.lB, by simpa using h.lD⟩
  have := Mem.set (l1 := [_, _, _, _, _, _, _, _]) (i := i) (show Mem w ([_, _, _, _, _, _, _, _] ++ (a.gD, boolRow s.done) :: []) from h.mem) (.bool v)
  rw [boolRow_set] at this
  exact this
theorem intRow_cell {g : Nat} {l : List Int} (h : w.heap[g]? = some (intRow l)) {i : Nat} (hi : i < l.length) : w.cell? ⟨g, i, none⟩ = some (.int .i64 (gi l i)) := by
  refine (cell_of_row w g i _ _ _ h).trans ?_
  rw [← Array.getElem?_toList]
  simp [hi, gi]
theorem boolRow_cell {g : Nat} {l : List Bool} (h : w.heap[g]? = some (boolRow l)) {i : Nat} (hi : i < l.length) : w.cell? ⟨g, i, none⟩ = some (.bool (gb l i)) := by
  refine (cell_of_row w g i _ _ _ h).trans ?_
  rw [← Array.getElem?_toList]
  simp [hi, gb]
theorem SM.hbx (h : SM w0 w a bm fr nn m at_ s) : w.cell? ⟨a.bx, 0, none⟩ = some (.pointer (some ⟨bm, 0, none⟩)) := (cell_of_row w _ 0 _ _ _ (h.mem.2 _ (.head _))).trans rfl
theorem SM.hbt (h : SM w0 w a bm fr nn m at_ s) : w.cell? ⟨a.bt, 0, none⟩ = some (.pointer (some ⟨a.T, 0, none⟩)) := (cell_of_row w _ 0 _ _ _ (h.mem.2 _ (.tail _ (.tail _ (.head _))))).trans rfl
theorem SM.hbb (h : SM w0 w a bm fr nn m at_ s) : w.cell? ⟨a.bb, 0, none⟩ = some (.slice (some ⟨a.gB, 0, none⟩) m m) := (cell_of_row w _ 0 _ _ _ (h.mem.2 _ (.tail _ (.tail _ (.tail _ (.head _)))))).trans rfl
theorem SM.hTb (h : SM w0 w a bm fr nn m at_ s) : w.heap[a.T]? = some (.cells #[.pointer (some ⟨bm, 0, none⟩), .int .i64 (fr : Int), .int .i64 at_, .slice (some ⟨a.gF, 0, none⟩) nn nn, .slice (some ⟨a.gL, 0, none⟩) nn nn, .slice (some ⟨a.gP, 0, none⟩) m m] 195 (0, 0)) := h.mem.2 _ (.tail _ (.head _))
theorem SM.hF (h : SM w0 w a bm fr nn m at_ s) : w.heap[a.gF]? = some (intRow s.first) := h.mem.2 _ (.tail _ (.tail _ (.tail _ (.tail _ (.head _)))))
theorem SM.hL (h : SM w0 w a bm fr nn m at_ s) : w.heap[a.gL]? = some (intRow s.last) := h.mem.2 _ (.tail _ (.tail _ (.tail _ (.tail _ (.tail _ (.head _))))))
theorem SM.hP (h : SM w0 w a bm fr nn m at_ s) : w.heap[a.gP]? = some (intRow s.prev) := h.mem.2 _ (.tail _ (.tail _ (.tail _ (.tail _ (.tail _ (.tail _ (.head _)))))))
theorem SM.hB (h : SM w0 w a bm fr nn m at_ s) : w.heap[a.gB]? = some (intRow s.best) := h.mem.2 _ (.tail _ (.tail _ (.tail _ (.tail _ (.tail _ (.tail _ (.tail _ (.head _))))))))
theorem SM.hD (h : SM w0 w a bm fr nn m at_ s) : w.heap[a.gD]? = some (boolRow s.done) := h.mem.2 _ (.tail _ (.tail _ (.tail _ (.tail _ (.tail _ (.tail _ (.tail _ (.tail _ (.head _)))))))))
end
end Go.Proofs.YtmpnilliichpfaaGreatDoor
/- How long arcs are: the program. -/
namespace Go.Proofs.YtmpnilliichpfaaGreatDoor
open Go.RowKit

def lenF (ns : List Node) (rs : List Arc) (bs : List Ban) (l : List ByteArray) : Int := if roadsF ns rs bs = 0 then chainF rs bs ByteArray.empty none l else roadsF ns rs bs
def lenI (ns : List Node) (rs : List Arc) (bs : List Ban) (l : List ByteArray) : Int := if lenF ns rs bs l = 0 then lengthI rs l else 0
theorem chain_ok (rs : List Arc) (bs : List Ban) : ∀ (l : List ByteArray) (fr : ByteArray) (p : Option ByteArray), chainF rs bs fr p l = 0 → ∀ k ∈ l, 0 ≤ arcI rs k
  | [], _, _, _ => fun _ h => absurd h (by simp)
  | s :: l, fr, p, h => by
    unfold chainF at h
    split at h
    · exact absurd h (by decide)
    rename_i h1
    split at h
    · exact absurd h (by decide)
    split at h
    · exact absurd h (by decide)
    intro k hk
    rcases List.mem_cons.1 hk with rfl | hk
    · omega
    · exact chain_ok rs bs l _ _ h k hk
theorem arc_found {rs : List Arc} {s : ByteArray} (h : 0 ≤ arcI rs s) : ∃ i : Nat, i < rs.length ∧ arcI rs s = (i : Int) ∧ ∀ hi : i < rs.length, arcAt rs s = rs[i] := by
  rcases findI_bd (fun n : Arc => decide (n.key = s)) rs with h1 | ⟨i, hi, e⟩
  · exact absurd h (by unfold arcI; omega)
  · refine ⟨i, hi, e, fun _ => ?_⟩
    unfold arcAt
    rw [show arcI rs s = (i : Int) from e, List.getD_eq_getElem?_getD, List.getElem?_eq_getElem (show (i : Int).toNat < rs.length from hi)]
    rfl
theorem long_bd {ns : List Node} {rs : List Arc} (h : chk (arcF ns) none rs = 0) : ∀ x ∈ rs, 1 ≤ x.long ∧ x.long ≤ 1000000 :=
  chk_all (F := arcF ns) (fun _ _ hx => outB_false.1 (arcG_ok (arcF_ok hx).2).2.2.2.1) rs none h
theorem knots_ok {ns : List Node} {rs : List Arc} (h : chk (arcF ns) none rs = 0) : ∀ x ∈ rs, KOk x.knots :=
  chk_all (F := arcF ns) (fun _ _ hx => knotsF_chk (arcG_ok (arcF_ok hx).2).2.2.2.2) rs none h
theorem length_drop (rs : List Arc) (l : List ByteArray) (k : Nat) (hk : k < l.length) : lengthI rs (l.drop k) = (arcAt rs l[k]).long + lengthI rs (l.drop (k + 1)) := by
  rw [List.drop_eq_getElem_cons hk, lengthI]

end Go.Proofs.YtmpnilliichpfaaGreatDoor
/- When one comes out of each of some arcs: the program. -/
namespace Go.Proofs.YtmpnilliichpfaaGreatDoor
open Go.RowKit

theorem time_bd {l : List Knot} (h : KOk l) (at_ : Int) : 0 ≤ timeI l at_ ∧ timeI l at_ ≤ 622080000000000 := by
  unfold timeI
  generalize ht : at_ % dayMs = t
  have htb : 0 ≤ t ∧ t ≤ 86399999 := by unfold dayMs at ht; omega
  obtain ⟨i, hi, h1, h2⟩ := seg_ex h htb.1
  rw [seg_of h hi h1 h2]
  have hab := after_bd h hi
  have hkb := h.bd i hi
  have haf : t < (afterK l i).at_ := by
    unfold afterK
    by_cases h3 : i + 1 < l.length
    · rw [if_pos h3]; exact h2 h3
    · rw [if_neg h3]; show t < dayMs; unfold dayMs; omega
  generalize afterK l i = y at *
  generalize l.getD i default = x at *
  unfold lineI
  have m1 : 0 ≤ x.time * (y.at_ - t) ∧ x.time * (y.at_ - t) ≤ 3600000 * 86400000 := ⟨Int.mul_nonneg (by omega) (by omega), Int.mul_le_mul (by omega) (by omega) (by omega) (by omega)⟩
  have m2 : 0 ≤ y.time * (t - x.at_) ∧ y.time * (t - x.at_) ≤ 3600000 * 86400000 := ⟨Int.mul_nonneg (by omega) (by omega), Int.mul_le_mul (by omega) (by omega) (by omega) (by omega)⟩
  have h3 := Int.ediv_nonneg (a := x.time * (y.at_ - t) + y.time * (t - x.at_)) (b := y.at_ - x.at_) (by omega) (by omega)
  have h4 := Int.ediv_le_self (a := x.time * (y.at_ - t) + y.time * (t - x.at_)) (y.at_ - x.at_) (by omega)
  omega
def walkF (ns : List Node) (rs : List Arc) (bs : List Ban) (fr : ByteArray) (at_ : Int) (l : List ByteArray) : Int :=
  if roadsF ns rs bs = 0 then (if nodeI ns fr < 0 then 8 else if momB at_ then (if chainF rs bs fr none l = 0 then (if (walkO rs at_ l).isSome then 0 else 12) else chainF rs bs fr none l) else 1) else roadsF ns rs bs
def walkL (ns : List Node) (rs : List Arc) (bs : List Ban) (fr : ByteArray) (at_ : Int) (l : List ByteArray) : List Int :=
  if walkF ns rs bs fr at_ l = 0 then at_ :: (walkO rs at_ l).getD [] else []
theorem walk_drop (rs : List Arc) (l : List ByteArray) (k : Nat) (hk : k < l.length) (a : Int) : walkO rs a (l.drop k) = if 345686400000 ≤ outAt rs a l[k] then none else (walkO rs (outAt rs a l[k]) (l.drop (k + 1))).map (outAt rs a l[k] :: ·) := by
  rw [List.drop_eq_getElem_cons hk, walkO]

set_option maxRecDepth 100000 in
set_option maxHeartbeats 8000000 in
theorem w_Walk (lo : Nat) (A B C : Option Addr) (ca cb cc : Nat) (ns : List Node) (rs : List Arc) (bs : List Ban) (lo2 : Nat) (D : Option Addr) (cd : Nat) (l : List ByteArray) (fr : ByteArray) (at_ : Int) (w : World)
    (hN : Rd w lo A 3 encNode ns) (hS : SmallN ns) (hnl : ns.length ≤ 400) (hA : RdArcs w lo B rs) (hal : rs.length ≤ 400) (hB : Rd w lo C 2 encBan bs) (hbl : bs.length ≤ 400) (hR : Rd w lo2 D 1 encS l) (hl : l.length ≤ 100) :
    Calls Tryz.prog 58 #[.agg #[.slice A ns.length ca, .slice B rs.length cb, .slice C bs.length cc], .string fr, .slice D l.length cd, .int .i64 at_] w fun e w' => ∃ (Z : Option Addr) (cz : Nat), e = .returned (.tuple #[.slice Z (walkL ns rs bs fr at_ l).length cz, .int .i64 (walkF ns rs bs fr at_ l)]) ∧ Rd w' 0 Z 1 encI (walkL ns rs bs fr at_ l) ∧ Nx w w' := by
  obtain ⟨wa, hwa⟩ : ∃ wa, wa = w.alloc (.cells #[.slice A ns.length ca, .slice B rs.length cb, .slice C bs.length cc] 30) := ⟨_, rfl⟩
  have hna : Nx w wa := hwa ▸ (Nx.refl w).alloc _
  have hgw : w.heap.size < wa.heap.size := by rw [hwa]; simp
  have b0 : wa.cell? ⟨w.heap.size, 0, none⟩ = some (.slice A ns.length ca) := by rw [hwa]; go_simp
  have b1 : wa.cell? ⟨w.heap.size, 1, none⟩ = some (.slice B rs.length cb) := by rw [hwa]; go_simp
  have b2 : wa.cell? ⟨w.heap.size, 2, none⟩ = some (.slice C bs.length cc) := by rw [hwa]; go_simp
  have hBox : BoxR wa w.heap.size lo A B C ca cb cc ns rs bs := ⟨b0, b1, b2, hgw, hN.nx hna, hA.nx hna, hB.nx hna, hnl, hal, hbl⟩
  have HCR := hide (w_CheckRoads lo lo lo A B C ca cb cc ns rs bs wa (hN.nx hna) hS hnl (hA.nx hna) hal (hB.nx hna) hbl)
  have HRA := hide (hA.nx hna)
  have HRL := hide (hR.nx hna)
  have HWF := hide (show walkF ns rs bs fr at_ l = if roadsF ns rs bs = 0 then (if nodeI ns fr < 0 then 8 else if momB at_ then (if chainF rs bs fr none l = 0 then (if (walkO rs at_ l).isSome then 0 else 12) else chainF rs bs fr none l) else 1) else roadsF ns rs bs from rfl)
  have HWL := hide (show walkL ns rs bs fr at_ l = if walkF ns rs bs fr at_ l = 0 then at_ :: (walkO rs at_ l).getD [] else [] from rfl)
  have HND := hide (fun (hso : SortN ns) s W (hx : Nx wa W) => w_nodeR w.heap.size lo A ca ns s W (nx_cell hx hgw b0) ((hN.nx hna).nx hx) (by omega) hso)
  generalize walkF ns rs bs fr at_ l = F at *
  generalize walkL ns rs bs fr at_ l = L at *
  have nilc : ∀ (W : World), F ≠ 0 → ∃ (Z : Option Addr) (cz : Nat), (.slice none 0 0 : Value) = .slice Z L.length cz ∧ Rd W 0 Z 1 encI L := fun W h => by
    have e : L = [] := by rw [HWL.out, if_neg h]
    rw [e]; exact ⟨none, 0, rfl, Rd.nil⟩
  have HNIL := hide nilc
  clear nilc
  by_cases hF : roadsF ns rs bs = 0
  · obtain ⟨o1, o2, o3⟩ := roads_ok hF
    have HAR := hide (fun s W (hx : Nx wa W) => w_arcR w.heap.size lo B cb rs s W (hBox.nx hx).g1 (hBox.nx hx).hA.1 (by omega) (sortA_of o2))
    have HCF := hide (fun W (hx : Nx wa W) => w_chainFault (hBox.nx hx) (sortA_of o2) (chkB_sorted rs bs none o3).1 fr lo2 D cd l ((hR.nx hna).nx hx) (by omega))
    have HND := hide (fun W (hx : Nx wa W) => HND.out (sortN_of o1) fr W hx)
    have HKO := hide (knots_ok o2)
    have HWF := hide (HWF.out.trans (if_pos hF))
    rw [hF] at HCR
    have HOK := hide (chain_ok rs bs l fr none)
    clear hN hS hA hB hR hBox hF o1 o2 o3
    generalize hn : l.length = n at *
    generalize hm : rs.length = m at *
    have HN := hide hn
    have HM := hide hm
    clear hn hm
    go_enter Tryz.func58, Tryz.ntmps58
    go_wp2_with fail
    rw [← hwa]
    refine HCR.out.mono ?_
    rintro e w1 ⟨rfl, hn1⟩
    have HWA := hide hwa
    clear hwa HCR b0 b2
    have HGW := hide (show w.heap.size ≤ wa.heap.size by omega)
    generalize hgg : w.heap.size = g at *
    have HGG := hide hgg
    clear hgg
    by_cases hnf : nodeI ns fr < 0
    · have tf : decide (nodeI ns fr < 0) = true := decide_eq_true hnf
      have hF8 := HWF.out.trans (if_pos hnf)
      clear hnf
      go_wp2_with fail
      refine (HND.out _ hn1).mono ?_
      rintro e w2 ⟨rfl, hn2⟩
      go_wp2_with fail
      go_ret2
      obtain ⟨Z, cz, e1, e2⟩ := HNIL.out w2 (by rw [hF8]; decide)
      exact ⟨Z, cz, by rw [← e1, hF8]; rfl, e2, hna.trans (hn1.trans hn2)⟩
    have tf : decide (nodeI ns fr < 0) = false := decide_eq_false hnf
    have HWF := hide (HWF.out.trans (if_neg hnf))
    clear hnf
    go_wp2_with fail
    refine (HND.out _ hn1).mono ?_
    rintro e w2 ⟨rfl, hn2⟩
    have hn12 := hn1.trans hn2
    cases hmb : momB at_
    · have hF1 : F = 1 := by rw [HWF.out, hmb]; rfl
      go_wp2_with (go_at_call 126; refine (w_Moment _ _).mono ?_; rintro e w' ⟨rfl, rfl⟩)
      go_ret2
      obtain ⟨Z, cz, e1, e2⟩ := HNIL.out w2 (by rw [hF1]; decide)
      exact ⟨Z, cz, by rw [← e1, hF1]; rfl, e2, hna.trans hn12⟩
    have hab := outB_false.1 (show outB at_ 0 lastMo = false by unfold momB at hmb; simpa using hmb)
    unfold lastMo at hab
    have HWF := hide (HWF.out.trans (by rw [hmb, if_pos rfl]))
    go_wp2_with (go_at_call 126; refine (w_Moment _ _).mono ?_; rintro e w' ⟨rfl, rfl⟩)
    refine (HCF.out _ hn12).mono ?_
    rintro e w3 ⟨rfl, hn3⟩
    have hn13 := hn12.trans hn3
    by_cases hc : chainF rs bs fr none l = 0
    · rw [hc]
      have HOK2 := hide (HOK.out hc)
      have HWF := hide (HWF.out.trans (if_pos hc))
      have hown0 : (w3.alloc (.cells #[.int .i64 at_] 3)).ownsRow wa.heap.size 3 1 (.slice (some ⟨w3.heap.size, 0, none⟩) 1 1) ([at_] : List Int).length (([at_] : List Int).flatMap encI) := own_lit (xs := [at_]) encI_len (hnew rfl) hn13.sz rfl rfl (Nat.le_refl _) (by unfold maxLen; omega)
      have HO0 := hide hown0
      clear hc hown0
      go_wp2_with fail
      go_loopw [3, 12, 38] (fun va vo i wr => ∃ (k : Nat) (a : Int) (zs : List Int), k ≤ n ∧ va = .int .i64 a ∧ i = .int .i64 k ∧ zs.length ≤ k + 1 ∧ wr.ownsRow wa.heap.size 3 1 vo zs.length (zs.flatMap encI) ∧ Nx wa wr ∧ 0 ≤ a ∧ a ≤ 345686399999 ∧ (walkO rs at_ l).map (at_ :: ·) = (walkO rs a (l.drop k)).map (zs ++ ·)) (fun _ _ i _ => n - (intOf i).toNat)
      case atStart => exact ⟨0, at_, [at_], Nat.zero_le _, rfl, rfl, Nat.le_refl _, HO0.out, hn13.alloc _, hab.1, hab.2, rfl⟩
      case round =>
        obtain ⟨k, a, zs, hk, rfl, rfl, hzl, hown, hbw, ha1, ha2, hq⟩ := hrel
        have HQ := hide hq
        have HOW := hide hown
        clear hq
        by_cases hlt : k < n
        · have hlt' : k < l.length := by have := HN.out; omega
          have HD := hide (walk_drop rs l k hlt' a)
          obtain ⟨b, off, rfl, _, hb, hbr, hc⟩ := HRL.out.open_ hbw (by have := HN.out; omega)
          have c0 : wr.cell? ⟨b, off + k, none⟩ = some (.string l[k]) := by have := hc k hlt' 0 _ rfl; simpa using this
          obtain ⟨i, hi, ei, hai⟩ := arc_found (HOK2.out l[k] (List.getElem_mem hlt'))
          have hao : outAt rs a l[k] = a + timeI rs[i].knots a := by unfold outAt; rw [hai hi]
          have hARs := fun W hx => HAR.out l[k] W hx
          rw [ei] at hARs
          have HARs := hide hARs
          rw [hao] at HD
          clear hc hai hao ei hARs
          generalize l[k] = s at *
          have him : i < m := by have := HM.out; omega
          have gg1 := nx_cell hbw hgw b1
          have hgr := Nat.lt_of_lt_of_le hgw hbw.sz
          obtain ⟨hKx, hLx, _⟩ := HRA.out.2 rs[i] (List.getElem_mem hi)
          have hko := HKO.out rs[i] (List.getElem_mem hi)
          obtain ⟨ba, offa, rfl, _, hba, hbar, hca⟩ := HRA.out.1.open_ hbw (by omega)
          have a4 : wr.cell? ⟨ba, offa + i * 5 + 4, none⟩ = some (.slice rs[i].ka rs[i].knots.length rs[i].kc) := hca i hi 4 _ rfl
          have htb := time_bd hko a
          have HTI := hide (fun W (hx : Nx wr W) => w_TimeO ba (offa + i * 5) lo rs[i].ka rs[i].kc rs[i].knots a W (nx_cell hx hbar a4) (Nat.lt_of_lt_of_le hbar hx.sz) ((hKx.nx hbw).nx hx) hko ⟨ha1, ha2⟩)
          clear hca hKx hLx hko a4
          generalize timeI rs[i].knots a = z at *
          have i1 : (0 : Int) ≤ (i : Int) := by omega
          have i2 : (i : Int) < (m : Int) := by omega
          have q1 : IntKind.i64.wrap (a + z) = a + z := IntWalk.i64_in _ (by omega)
          obtain ⟨Zo, co, eo, _, _⟩ := Rd.of_own encI_len rfl hown
          subst eo
          clear hown
          go_upto_region 15 with fail
          go_cut [3] (fun v wx => v = .int .i64 (a + z) ∧ Nx wr wx)
          case first =>
            go_region_held3 (fun w' => w'.cell? ⟨g, 1, none⟩ = some (.slice (some ⟨ba, offa, none⟩) m cb))
              (first | exact nx_cell hn5 (Nat.lt_of_lt_of_le hgr hn4.sz) ‹_› | exact nx_cell hn4 hgr ‹_› | go_keep)
              (first
                | (go_at_call 101; refine (HARs.out _ hbw.drew).mono ?_; rintro e w4 ⟨rfl, hn4⟩)
                | (go_at_call 127; refine (HTI.out _ ((Nx.refl wr).drew.trans hn4)).mono ?_; rintro e w5 ⟨rfl, hn5⟩))
            go_wp2
            go_meet
            exact ⟨rfl, ((Nx.refl wr).drew.trans hn4).trans hn5⟩
          case rest =>
            obtain ⟨rfl, hx⟩ := hcut
            by_cases hend : 345686400000 ≤ a + z
            · have te : decide (345686400000 ≤ a + z) = true := decide_eq_true hend
              have hF12 : F = 12 := by
                have h1 := HQ.out
                rw [HD.out, if_pos hend] at h1
                have h2 : walkO rs at_ l = none := by
                  cases h : walkO rs at_ l with
                  | none => rfl
                  | some r => rw [h] at h1; cases h1
                rw [HWF.out, h2]; rfl
              clear hend
              go_wp2_with fail
              go_ret2
              obtain ⟨Z, cz, e1, e2⟩ := HNIL.out wc (by rw [hF12]; decide)
              exact ⟨Z, cz, by rw [← e1, hF12]; rfl, e2, hna.trans (hbw.trans hx)⟩
            · have te : decide (345686400000 ≤ a + z) = false := decide_eq_false hend
              have hD2 := HD.out.trans (if_neg hend)
              have HOX := hide (own_nx HOW.out hx)
              have hsz := (hbw.trans hx).sz
              go_wp2_with (at_builtin; refine wpApp rfl _ _ _ rfl el_Int encI encI_len encI_one (by omega) (by omega) wa.heap.size _ zs rfl (HOX.out.alloc _) _ (a + z) _ rfl (hnew rfl) rfl (by omega) (by simp; omega) ?_; intro v5 w5 hown5 hg5)
              go_roundw
              case rel =>
                refine ⟨k + 1, a + z, zs ++ [a + z], by omega, rfl, by go_num, by rw [List.length_append]; show zs.length + 1 ≤ _; omega, hown5, ((hbw.trans hx).alloc _).grown hg5 (own_blk_lt HOX.out), by omega, by omega, ?_⟩
                rw [HQ.out, hD2, Option.map_map]
                congr 1
                funext r
                show zs ++ ((a + z) :: r) = (zs ++ [a + z]) ++ r
                rw [List.append_assoc]; rfl
              case measure => simp [intOf]; omega
        · have hL : L = zs ∧ F = 0 := by
            have h1 := HQ.out
            rw [List.drop_of_length_le (by have := HN.out; omega)] at h1
            cases h : walkO rs at_ l with
            | none => rw [h] at h1; cases h1
            | some r =>
              rw [h] at h1
              have h2 : at_ :: r = zs := by
                have h3 : some (at_ :: r) = some (zs ++ []) := h1
                injection h3 with h3
                rw [h3, List.append_nil]
              have hF0 : F = 0 := by rw [HWF.out, h]; rfl
              exact ⟨by rw [HWL.out, if_pos hF0, h]; exact h2, hF0⟩
          obtain ⟨Zo, co, eo, hRz, _⟩ := Rd.of_own encI_len rfl hown
          subst eo
          have HRZ := hide hRz
          clear hown hRz
          go_wp2_with fail
          go_ret2
          obtain ⟨rfl, hF0⟩ := hL
          exact ⟨Zo, co, by rw [hF0]; rfl, HRZ.out.low (Nat.zero_le _), hna.trans hbw⟩
    · have tz : (chainF rs bs fr none l != 0) = true := by simpa using hc
      have hFc := HWF.out.trans (if_neg hc)
      have HZ := hide hc
      clear hc
      go_wp2_with fail
      go_ret2
      obtain ⟨Z, cz, e1, e2⟩ := HNIL.out w3 (by rw [hFc]; exact HZ.out)
      exact ⟨Z, cz, by rw [← e1, hFc]; rfl, e2, hna.trans hn13⟩
  · have hFr := HWF.out.trans (if_neg hF)
    have tz : (roadsF ns rs bs != 0) = true := by simpa using hF
    have HZ := hide hF
    clear hN hS hA hB hR hBox hF
    go_enter Tryz.func58, Tryz.ntmps58
    go_wp2_with fail
    rw [← hwa]
    refine HCR.out.mono ?_
    rintro e w1 ⟨rfl, hn1⟩
    go_wp2_with fail
    go_ret2
    obtain ⟨Z, cz, e1, e2⟩ := HNIL.out w1 (by rw [hFr]; exact HZ.out)
    exact ⟨Z, cz, by rw [← e1, hFr]; rfl, e2, hna.trans hn1⟩
end Go.Proofs.YtmpnilliichpfaaGreatDoor
/- An arc is entered in a search. -/
namespace Go.Proofs.YtmpnilliichpfaaGreatDoor
open Go.RowKit Go.Maps

/-- Blocks made since stay, but the queue's. -/
def FrE (a : SA) (w w' : World) : Prop := ∀ ex, a.base ≤ ex → ex < w.heap.size → NotOwn a.gq ex w → w'.heap[ex]? = w.heap[ex]? ∧ NotOwn a.gq ex w'
theorem FrE.refl {a : SA} {w : World} : FrE a w w := fun _ _ _ h => ⟨rfl, h⟩
theorem FrE.trans {a : SA} {w w' w'' : World} (h : FrE a w w') (k : FrE a w' w'') : FrE a w w'' := fun ex h0 h1 h3 => by
  obtain ⟨x, y⟩ := h ex h0 h1 h3
  have hlt : ex < w'.heap.size := by
    rw [Array.getElem?_eq_getElem h1] at x
    exact (Array.getElem?_eq_some_iff.1 x).1
  obtain ⟨c, d⟩ := k ex h0 hlt y
  exact ⟨c.trans x, d⟩
theorem FrE.nx {a : SA} {w w' : World} (hq : a.gq < w.heap.size) (h : Nx w w') : FrE a w w' := fun ex _ h1 h3 => ⟨h.block ex h1, fun v z hv => h3 v z ((h.block a.gq hq).symm.trans hv)⟩
theorem FrE.set {a : SA} {w : World} {k i : Nat} {u : Value} (hk : k < a.base) (hq : k ≠ a.gq) : FrE a w (w.setCell ⟨k, i, none⟩ u) := fun ex h0 _ h3 =>
  ⟨Below.heap_setCell w ⟨k, i, none⟩ u ex (by show ex ≠ k; omega), fun v z hv => h3 v z ((Below.heap_setCell w ⟨k, i, none⟩ u a.gq (Ne.symm hq)).symm.trans hv)⟩
theorem FrE.drew {a : SA} {w w' : World} (h : FrE a w w') : FrE a w w'.drew := h
theorem FrE.of_q {a : SA} {w w' : World} (hb : a.gq < a.base) (h : FrQ a.gq w w') : FrE a w w' := fun ex h0 h1 h3 => h ex h1 (by omega) h3
set_option maxRecDepth 100000 in
set_option maxHeartbeats 4000000 in
theorem w_enter (w0 w : World) (a : SA) (bm fr nn : Nat) (ad : Int) (s : Sr) (g0 lo : Nat) (A B C : Option Addr) (ca cb cc : Nat) (M : MapA) (ns : List Node) (rs : List Arc) (bs : List Ban) (arc : Nat) (p t : Int)
    (hM : MapR w0 bm g0 lo A B C ca cb cc M ns rs bs) (hKO : ∀ x ∈ rs, KOk x.knots) (hS : SM w0 w a bm fr nn rs.length ad s) (ha : arc < rs.length) (ht : 0 ≤ t ∧ t ≤ 345686399999) (hq : s.q.length < 1000000) :
    Calls Tryz.prog 179 #[.int .i64 (arc : Int), .int .i64 p, .int .i64 t, .pointer (some ⟨a.bx, 0, none⟩), .pointer (some ⟨a.bb, 0, none⟩), .pointer (some ⟨a.bt, 0, none⟩), .pointer (some ⟨a.gq, 0, none⟩)] w
      fun e w' => e = .returned (.tuple #[]) ∧ SM w0 w' a bm fr nn rs.length ad (enterG (gphOf ns rs bs) s arc p t) ∧ FrE a w w' := by
  have hMw := hM.nx hS.nx
  have c0 := hMw.c0
  have g1 := hMw.box.g1
  obtain ⟨hKx, hLx, hSx⟩ := hMw.box.hA.2 rs[arc] (List.getElem_mem ha)
  have hko := hKO rs[arc] (List.getElem_mem ha)
  obtain ⟨b, off, rfl, _, hb, hbr, hc⟩ := hMw.box.hA.1.open_ (Nx.refl w) (by omega)
  have a4 : w.cell? ⟨b, off + arc * 5 + 4, none⟩ = some (.slice rs[arc].ka rs[arc].knots.length rs[arc].kc) := hc arc ha 4 _ rfl
  have hal := hMw.box.al
  have HT := hide (w_TimeO b (off + arc * 5) lo rs[arc].ka rs[arc].kc rs[arc].knots t w a4 hb hKx hko ht)
  have htb := time_bd hko t
  have HOUT := hide (show (gphOf ns rs bs).out arc t = t + timeI rs[arc].knots t by show t + timeI (arcX rs arc).knots t = _; rw [arcX_get ha])
  have k1 := hS.hbx
  have k2 := hS.hbb
  have k3 := hS.hbt
  have k4 : w.cell? ⟨a.T, 5, none⟩ = some (.slice (some ⟨a.gP, 0, none⟩) rs.length rs.length) := (cell_of_row w _ 5 _ _ _ hS.hTb).trans rfl
  have HSM := hide hS
  have HQ := hide hq
  have HA := hide ha
  clear hM hS hMw hKx hLx hSx hko hKO hc a4 hq
  generalize timeI rs[arc].knots t = z at *
  generalize hm : rs.length = m at *
  have i1 : (0 : Int) ≤ (arc : Int) := by omega
  have i2 : (arc : Int) < (m : Int) := by omega
  have q1 : IntKind.i64.wrap (t + z) = t + z := IntWalk.i64_in _ (by omega)
  have HST := hide (show enterG (gphOf ns rs bs) s arc p t = if (t + z < endT ∧ (gi s.best arc < 0 ∨ t + z < gi s.best arc)) then { s with best := s.best.set arc (t + z), prev := s.prev.set arc p, q := hpush s.q ⟨t + z, arc⟩ } else s by unfold enterG; rw [HOUT.out])
  generalize enterG (gphOf ns rs bs) s arc p t = R at *
  clear HOUT
  go_enter Tryz.func179, Tryz.ntmps179
  go_wp2_with fail
  refine HT.out.mono ?_
  rintro e w1 ⟨rfl, hn1⟩
  clear k1 k2 k3 k4 c0 g1
  have HS1 := hide (HSM.out.step hn1)
  have hgqw : a.gq < w.heap.size := by obtain ⟨_, _, _, h3, h4⟩ := HSM.out.q; omega
  have HF1 := hide (FrE.nx (a := a) hgqw hn1)
  have k2 := HS1.out.hbb
  have k3 := HS1.out.hbt
  have k4 : w1.cell? ⟨a.T, 5, none⟩ = some (.slice (some ⟨a.gP, 0, none⟩) m m) := (cell_of_row w1 _ 5 _ _ _ HS1.out.hTb).trans rfl
  have k5 := intRow_cell HS1.out.hB (show arc < s.best.length by rw [HS1.out.lB]; exact HA.out)
  have k6 := intRow_cell HS1.out.hP (show arc < s.prev.length by rw [HS1.out.lP]; exact HA.out)
  have f5 := frozen_blkQ (j := arc) HS1.out.hB
  have f6 := frozen_blkQ (j := arc) HS1.out.hP
  have hTq : t + z ≤ 1000000000000000 := by omega
  clear HT hb hbr
  obtain ⟨X, hX⟩ : ∃ X : Bool, X = decide (t + z < endT ∧ (gi s.best arc < 0 ∨ t + z < gi s.best arc)) := ⟨_, rfl⟩
  have HX := hide hX
  clear hX
  generalize gi s.best arc = bv at *
  generalize gi s.prev arc = pv at *
  go_upto_region 1 with fail
  go_cut [39] (fun v wx => v = .bool X ∧ w1 = wx)
  case first =>
    clear k3 k4 k6 f5 f6
    by_cases hE : t + z < 345686400000
    · have tE : decide (t + z < 345686400000) = true := decide_eq_true hE
      by_cases hB : bv < 0
      · have tB : decide (bv < 0) = true := decide_eq_true hB
        have hx : X = true := by rw [HX.out]; exact decide_eq_true ⟨hE, .inl hB⟩
        subst hx
        clear hE hB
        go_wp2_with fail
        go_meet
        exact ⟨rfl, rfl⟩
      · have tB : decide (bv < 0) = false := decide_eq_false hB
        by_cases hL : t + z < bv
        · have tL : decide (t + z < bv) = true := decide_eq_true hL
          have hx : X = true := by rw [HX.out]; exact decide_eq_true ⟨hE, .inr hL⟩
          subst hx
          clear hE hB hL
          go_wp2_with fail
          go_meet
          exact ⟨rfl, rfl⟩
        · have tL : decide (t + z < bv) = false := decide_eq_false hL
          have hx : X = false := by rw [HX.out]; exact decide_eq_false (fun h => h.2.elim hB hL)
          subst hx
          clear hE hB hL
          go_wp2_with fail
          go_meet
          exact ⟨rfl, rfl⟩
    · have tE : decide (t + z < 345686400000) = false := decide_eq_false hE
      have hx : X = false := by rw [HX.out]; exact decide_eq_false (fun h => hE h.1)
      subst hx
      clear hE
      go_wp2_with fail
      go_meet
      exact ⟨rfl, rfl⟩
  case rest =>
    obtain ⟨rfl, rfl⟩ := hcut
    cases X
    · have hR : R = s := by
        rw [HST.out, if_neg]
        exact of_decide_eq_false HX.out.symm
      go_wp2_with fail
      go_end0
      exact ⟨rfl, by rw [hR]; exact HS1.out, HF1.out⟩
    · have hR : R = { s with best := s.best.set arc (t + z), prev := s.prev.set arc p, q := hpush s.q ⟨t + z, arc⟩ } := by
        rw [HST.out, if_pos]
        exact of_decide_eq_true HX.out.symm
      have HR := hide hR
      clear hR
      have hS2 := (HS1.out.setB arc (t + z)).setP arc p
      have hS3 := (HS1.out.setP arc p).setB arc (t + z)
      have HW2 := hide hS2
      have HW3 := hide hS3
      have hne : a.gB ≠ a.gP := by
        have h := HS1.out.mem.1
        simp only [memOf, List.map_cons, List.map_nil, List.nodup_cons, List.mem_cons, List.not_mem_nil, or_false, not_or] at h
        exact fun e => h.2.2.2.2.2.2.1.1 e.symm
      clear hS2 hS3
      go_upto_region 2 with fail
      go_cut [50] (fun _ wx => SM w0 wx a bm fr nn m ad { s with best := s.best.set arc (t + z), prev := s.prev.set arc p } ∧ FrE a w wx)
      case first =>
        have hlB := HS1.out.lo a.gB (by simp)
        have hlP := HS1.out.lo a.gP (by simp)
        go_region_with (fail)
        all_goals
          go_wp2
          go_meet
          have hfB : ∀ {W : World} {i : Nat} {u : Value}, FrE a W (W.setCell ⟨a.gB, i, none⟩ u) := FrE.set hlB.2.1 hlB.2.2
          have hfP : ∀ {W : World} {i : Nat} {u : Value}, FrE a W (W.setCell ⟨a.gP, i, none⟩ u) := FrE.set hlP.2.1 hlP.2.2
          first | exact ⟨HW2.out, HF1.out.trans (hfB.trans hfP)⟩ | exact ⟨HW3.out, HF1.out.trans (hfP.trans hfB)⟩ | exact ⟨HW2.out.step (Nx.refl _).drew, (HF1.out.trans (hfB.trans hfP)).drew⟩ | exact ⟨HW3.out.step (Nx.refl _).drew, (HF1.out.trans (hfP.trans hfB)).drew⟩
      case rest =>
        have HSC := hide hcut.1
        have HFC := hide hcut.2
        have HPU := hide (w_HPush a.base a.gq s.q ⟨t + z, arc⟩ wc hcut.1.q HQ.out)
        clear hcut k2 k3 k4 k5 k6 f5 f6 hne
        go_wp2_with fail
        refine HPU.out.mono ?_
        rintro e w5 ⟨rfl, hQ5, hk5, hf5⟩
        go_wp2_with fail
        go_end0
        refine ⟨rfl, ?_, HFC.out.trans (FrE.of_q (by obtain ⟨_, _, _, h3, _⟩ := HSC.out.q; exact h3) hf5)⟩
        rw [HR.out]
        exact HSC.out.keep hk5 hQ5
end Go.Proofs.YtmpnilliichpfaaGreatDoor
/- slices.Repeat of one number. -/
namespace Go.Proofs.YtmpnilliichpfaaGreatDoor
open Go.RowKit Go.Proofs Go.Shelf

theorem run_make_intsC (n : Nat) (hn : n ≤ 100000) (w : World) : (Instr.makeSlice 22 (.int .i64 (n : Int)) (.int .i64 (n : Int))).run Tryz.prog w = .ok (.slice (some ⟨w.heap.size, 0, none⟩) n n) (w.alloc (.cells (madeCells #[.int .i64 0] n) 3)) := by
  obtain ⟨i, h1, h2, h3, h4⟩ := info_parts (show (Tryz.prog.info? 3).map (fun i => (i.zero, i.size, i.bytes)) = some (some (.int .i64 0), 1, 8) by kernel_rfl)
  have h := run_make (P := Tryz.prog) w 22 3 i (.int .i64 0) Tryz.underlying22 h1 h2 .i64 .i64 (n : Int) (n : Int) (by omega) (by omega) (by rw [h4]; omega) (by omega)
  rw [h]
  simp [h3, Value.cells]
theorem made_intsC (n : Nat) : (madeCells #[.int .i64 0] n).toList = (List.replicate n (0 : Int)).flatMap encI := by
  rw [toList_madeCells_one]
  induction n with
  | zero => rfl
  | succ n ih => rw [List.replicate_succ, List.replicate_succ, List.flatMap_cons, ih]; rfl
theorem own_madeC (w : World) (n base : Nat) (hn : n ≤ 100000) (hb : base ≤ w.heap.size) {Z : Array Value} (hZ : Z.toList = (List.replicate n (0 : Int)).flatMap encI) : (w.alloc (.cells Z 3)).ownsRow base 3 1 (.slice (some ⟨w.heap.size, 0, none⟩) n n) n ((List.replicate n (0 : Int)).flatMap encI) := by
  have := own_lit (w := w.alloc (.cells Z 3)) (e := 3) (g := w.heap.size) (n := n) (m := n) (base := base) (xs := List.replicate n (0 : Int)) encI_len (hnew rfl) hb hZ (by simp) (Nat.le_refl _) (by unfold maxLen; omega)
  rwa [List.take_of_length_le (by simp)] at this
theorem w_Mul64C (x y z : Nat) (w : World) (hx : x ≤ 4294967296) (hy : y ≤ 2147483648) (hz : x * y = z) :
    Calls Tryz.prog 159 #[.int .u64 (x : Int), .int .u64 (y : Int)] w fun e w' => e = .returned (.tuple #[.int .u64 0, .int .u64 (z : Int)]) ∧ w = w' := by
  subst hz
  have hb : x * y ≤ 4294967296 * 2147483648 := Nat.mul_le_mul hx hy
  have hcon := Any.bits_Mul64 Tryz.mul64 x y (by omega) (by omega) w
  change Calls Tryz.prog 159 _ _ _ at hcon
  refine hcon.mono ?_
  rintro e w' ⟨rfl, rfl⟩
  have e1 : x * y / 18446744073709551616 = 0 := Nat.div_eq_of_lt (by omega)
  have e2 : x * y % 18446744073709551616 = x * y := Nat.mod_eq_of_lt (by omega)
  rw [e1, e2]
  exact ⟨rfl, rfl⟩
theorem w_MulUC (x y z : Nat) (w : World) (hx : x ≤ 4294967296) (hy : y ≤ 2147483648) (hz : x * y = z) :
    Calls Tryz.prog 228 #[.int .u64 (x : Int), .int .u64 (y : Int)] w fun e w' => e = .returned (.tuple #[.int .u64 0, .int .u64 (z : Int)]) ∧ w = w' := by
  go_enter Tryz.func228, Tryz.ntmps228
  go_wp2_with (go_at_call 159; refine (w_Mul64C x y z _ hx hy hz).mono ?_; rintro e w' ⟨rfl, rfl⟩)
  go_ret2
  exact ⟨rfl, rfl⟩

def rowC (c : Int) (n m : Nat) : List Int := List.replicate m c ++ List.replicate (n - m) 0
theorem rowC_len (c : Int) (n m : Nat) (_h : m ≤ n) : (rowC c n m).length = n := by unfold rowC; simp; omega
theorem mapIC (l : List Int) : l.flatMap encI = l.map (Value.int .i64) := by
  induction l with
  | nil => rfl
  | cons x l ih => rw [List.flatMap_cons, ih]; rfl
theorem rowC_more (c : Int) (n m q : Nat) (_h : m + q ≤ n) : (rowC c n m).take m ++ List.replicate q c ++ (rowC c n m).drop (m + q) = rowC c n (m + q) := by
  have e1 : (rowC c n m).take m = List.replicate m c := by
    unfold rowC
    rw [List.take_append_of_le_length (by simp)]; simp
  have e2 : (rowC c n m).drop (m + q) = List.replicate (n - (m + q)) 0 := by
    unfold rowC
    rw [List.drop_append]
    simp
    omega
  rw [e1, e2, List.replicate_append_replicate]
  rfl

set_option maxRecDepth 100000 in
set_option maxHeartbeats 2000000 in
theorem w_RepeatC1 (c : Int) (n gl : Nat) (w : World) (hn : 1 ≤ n) (hn2 : n ≤ 1000) (hg : w.heap[gl]? = some (.cells #[.int .i64 c] 3 (0, 0))) :
    Calls Tryz.prog 178 #[.slice (some ⟨gl, 0, none⟩) 1 1, .int .i64 (n : Int)] w fun e w' => ∃ g, e = .returned (.slice (some ⟨g, 0, none⟩) n n) ∧ g = w.heap.size ∧ w'.heap[g]? = some (.cells ((List.replicate n c).map (Value.int .i64)).toArray 3 (0, 0)) ∧ Nx w w' := by
  have hgl : gl < w.heap.size := (Array.getElem?_eq_some_iff.1 hg).1
  have hmk := fun w => run_make_intsC n (by omega) w
  obtain ⟨Z, hZ⟩ : ∃ Z : Array Value, madeCells #[.int .i64 0] n = Z := ⟨_, rfl⟩
  have hZl := made_intsC n
  rw [hZ] at hmk hZl
  have hs1 : (Tryz.prog.info? 3).map (·.size) = some 1 := by kernel_rfl
  have t1 : decide ((n : Int) < 0) = false := decide_eq_false (by omega)
  have t2 : IntKind.u64.wrap (n : Int) = (n : Int) := by rw [IntKind.wrap_u64]; omega
  have t3 : IntKind.i64.wrap (n : Int) = (n : Int) := IntWalk.i64_in _ (by omega)
  have t4 : decide ((n : Int) > 9223372036854775807) = false := decide_eq_false (by omega)
  have t5 : ¬ (9223372036854775807 : Int) < (n : Int) := by omega
  have hl0 : Z.toList = (rowC c n 0).map (Value.int .i64) := by rw [hZl, mapIC]; simp [rowC]
  have hcp : ∀ ty, (Builtin.copy_ #[22, 22] ty #[.slice (some ⟨w.heap.size, 0, none⟩) n n, .slice (some ⟨gl, 0, none⟩) 1 1]).run Tryz.prog (w.alloc (.cells Z 3)) = .ok (goInt 1) ((w.alloc (.cells Z 3)).setRow w.heap.size ((rowC c n 1).map (Value.int .i64)).toArray) := by
    intro ty
    have h := run_copy_row (P := Tryz.prog) (w.alloc (.cells Z 3)) 22 22 ty 3 w.heap.size 0 n n ⟨gl, 0, none⟩ 1 1 Z 3 [.int .i64 c] Tryz.underlying22 hs1 (hnew rfl) (by show 1 = min 1 n; omega) (fun j v hj => by
      rcases j with _ | j
      · simp at hj; subst hj
        exact cell_of_row _ gl 0 _ _ _ ((((Nx.refl w).alloc _).block gl hgl).trans hg)
      · simp at hj) (by rw [← Array.length_toList, hl0]; simp [rowC_len c n 0 (by omega)]; omega) (by intro v hv; simp at hv; subst hv; rfl)
    rw [h]
    congr 2
    have := rowC_more c n 0 1 (by omega)
    rw [Nat.zero_add] at this
    rw [hl0, ← this]
    simp
  go_enter Tryz.func178, Tryz.ntmps178
  go_wp2_with (go_at_call 228; refine (w_MulUC 1 n n _ (by omega) (by omega) (by omega)).mono ?_; rintro e w' ⟨rfl, rfl⟩)
  have hrow1 : ((w.alloc (.cells Z 3)).setRow w.heap.size ((rowC c n 1).map (Value.int .i64)).toArray).heap[w.heap.size]? = some (.cells ((rowC c n 1).map (Value.int .i64)).toArray 3 (0, 0)) := setRow_heap _ _ _ _ _ _ (hnew rfl)
  have hnx1 : Nx w ((w.alloc (.cells Z 3)).setRow w.heap.size ((rowC c n 1).map (Value.int .i64)).toArray) := by
    have h0 := (Nx.refl w).alloc (.cells Z 3)
    refine ⟨h0.os, h0.tape, h0.output, by simp [World.setRow], fun i hi => ?_⟩
    rw [← h0.block i hi]
    simp only [World.setRow]
    rw [Array.getElem?_modify, if_neg (by omega)]
  have HST := hide (And.intro hrow1 hnx1)
  clear hrow1 hnx1 hcp hmk hZ hZl hl0
  go_loopw [8] (fun u wr => ∃ m : Nat, 1 ≤ m ∧ m ≤ n ∧ u = .int .i64 m ∧ wr.heap[w.heap.size]? = some (.cells ((rowC c n m).map (Value.int .i64)).toArray 3 (0, 0)) ∧ Nx w wr) (fun u _ => n - (intOf u).toNat)
  case atStart => exact ⟨1, by omega, hn, rfl, HST.out.1, HST.out.2⟩
  case round =>
    clear HST
    obtain ⟨m, hm1, hmn, rfl, hrow, hnx⟩ := hrel
    by_cases hlt : m < n
    · have q1 : (m : Int) ≤ (n : Int) := by omega
      have q2 : (0 : Int) ≤ (m : Int) := by omega
      obtain ⟨q, hq⟩ : ∃ q, q = min m (n - m) := ⟨_, rfl⟩
      have hq1 : 1 ≤ q ∧ m + q ≤ n := by omega
      have q3 : IntKind.i64.wrap ((m : Int) + (q : Int)) = (m : Int) + (q : Int) := IntWalk.i64_in _ (by omega)
      obtain ⟨C, hC⟩ : ∃ C : List Value, (rowC c n m).map (Value.int .i64) = C := ⟨_, rfl⟩
      obtain ⟨cs, hcs⟩ : ∃ cs : List Value, List.replicate q (Value.int .i64 c) = cs := ⟨_, rfl⟩
      have hcl : cs.length = q := by rw [← hcs, List.length_replicate]
      have hCl : C.length = n := by rw [← hC, List.length_map, rowC_len c n m hmn]
      have HSRC := hide (show ∀ j v, cs[j]? = some v → wr.cell? ((⟨w.heap.size, 0, none⟩ : Addr).add j) = some v from by
        intro j v hj
        have hjq : j < q := by have := (List.getElem?_eq_some_iff.1 hj).1; omega
        have e1 : (⟨w.heap.size, 0, none⟩ : Addr).add j = ⟨w.heap.size, j, none⟩ := by unfold Addr.add; split <;> simp_all
        rw [e1, cell_of_row _ _ j _ _ _ hrow, ← Array.getElem?_toList]
        rw [← hcs, List.getElem?_replicate, if_pos hjq] at hj
        rw [← hj]
        unfold rowC
        rw [List.map_append, List.getElem?_append_left (by simp; omega), List.getElem?_map, List.getElem?_replicate, if_pos (by omega)]; rfl)
      have H1 := hide (show ∀ v ∈ cs, v.oneCell' = true from by
        intro v hv; rw [← hcs] at hv; obtain ⟨_, rfl⟩ := List.mem_replicate.1 hv; rfl)
      have HSP := hide (show splice C m cs = (rowC c n (m + q)).map (Value.int .i64) from by
        unfold splice
        rw [← rowC_more c n m q hq1.2, hcl, ← hC, ← hcs]
        simp)
      rw [hC] at hrow
      have HROW := hide hrow
      have HN := hide hnx
      have HCL := hide (And.intro hcl (And.intro hCl hq))
      clear hC hcs hcl hCl hq hrow hnx
      go_wp2_with fail
      go_region_law (refine step_copy_splice rfl (.tmp 41) (.tmp 44) 22 22 rfl 3 Tryz.underlying22 hs1 (some ⟨w.heap.size, m, none⟩) (some ⟨w.heap.size, 0, none⟩) (n - m) (n - m) m n (by simp [Act.eval, Act.put]; omega) (by simp [Act.eval, Act.put]) w.heap.size m C 3 HROW.out cs (by rw [HCL.out.1, HCL.out.2.2]) (fun _ => ⟨rfl, _, rfl, HSRC.out⟩) (by rw [HCL.out.1, HCL.out.2.1]; exact hq1.2) H1.out w.heap.size w (HN.out.drew) (Nat.le_refl _) ?_; intro w4 hg4 hb4; rw [HCL.out.1])
      have hl4 := hg4.out
      rw [HSP.out] at hl4
      have HL4 := hide hl4
      clear hg4 hl4
      go_wp2_with fail
      go_roundw
      case rel => exact ⟨m + q, by omega, hq1.2, by go_num, HL4.out, hb4⟩
      case measure => simp [intOf]; omega
    · have em : m = n := by omega
      subst em
      go_wp2_with fail
      go_ret
      refine ⟨w.heap.size, rfl, rfl, ?_, hnx⟩
      rw [hrow]
      simp [rowC]
set_option maxRecDepth 100000 in
set_option maxHeartbeats 2000000 in
theorem w_RepeatC0 (c : Int) (gl : Nat) (w : World) (_hg : w.heap[gl]? = some (.cells #[.int .i64 c] 3 (0, 0))) :
    Calls Tryz.prog 178 #[.slice (some ⟨gl, 0, none⟩) 1 1, .int .i64 0] w fun e w' => ∃ g, e = .returned (.slice (some ⟨g, 0, none⟩) 0 0) ∧ g = w.heap.size ∧ w'.heap[g]? = some (.cells #[] 3 (0, 0)) ∧ Nx w w' := by
  have hmk := fun w => (show (Instr.makeSlice 22 (.int .i64 0) (.int .i64 0)).run Tryz.prog w = .ok (.slice (some ⟨w.heap.size, 0, none⟩) 0 0) (w.alloc (.cells (madeCells #[.int .i64 0] 0) 3)) from run_make_intsC 0 (by omega) w)
  rw [show madeCells #[.int .i64 0] 0 = #[] from Array.ext' (by rw [toList_madeCells_one]; rfl)] at hmk
  go_enter Tryz.func178, Tryz.ntmps178
  have hs1 : (Tryz.prog.info? 3).map (·.size) = some 1 := by kernel_rfl
  have hcp : ∀ ty, (Builtin.copy_ #[22, 22] ty #[.slice (some ⟨w.heap.size, 0, none⟩) 0 0, .slice (some ⟨gl, 0, none⟩) 1 1]).run Tryz.prog (w.alloc (.cells #[] 3)) = .ok (goInt 0) ((w.alloc (.cells #[] 3)).setRow w.heap.size #[]) := by
    intro ty
    have h := run_copy_row (P := Tryz.prog) (w.alloc (.cells #[] 3)) 22 22 ty 3 w.heap.size 0 0 0 ⟨gl, 0, none⟩ 1 1 #[] 3 [] Tryz.underlying22 hs1 (hnew rfl) (by simp) (fun j v hj => by simp at hj) (by simp) (by intro v hv; simp at hv)
    rw [h]
    rfl
  go_wp2_with (go_at_call 228; refine (w_MulUC 1 0 0 _ (by omega) (by omega) (by omega)).mono ?_; rintro e w' ⟨rfl, rfl⟩)
  refine wp_loop_rounds 1 ?_
  rw [rounds_succ]
  go_wp2_with fail
  go_ret
  refine ⟨w.heap.size, rfl, rfl, setRow_heap _ _ _ _ _ _ (hnew rfl), ?_⟩
  have h0 := (Nx.refl w).alloc (.cells #[] 3)
  refine ⟨h0.os, h0.tape, h0.output, by simp [World.setRow], fun i hi => ?_⟩
  rw [← h0.block i hi]
  simp only [World.setRow]
  rw [Array.getElem?_modify, if_neg (by omega)]
/-- slices.Repeat of [c]. -/
theorem w_RepeatC (c : Int) (n gl : Nat) (w : World) (hn2 : n ≤ 1000) (hg : w.heap[gl]? = some (.cells #[.int .i64 c] 3 (0, 0))) :
    Calls Tryz.prog 178 #[.slice (some ⟨gl, 0, none⟩) 1 1, .int .i64 (n : Int)] w fun e w' => ∃ g, e = .returned (.slice (some ⟨g, 0, none⟩) n n) ∧ g = w.heap.size ∧ w'.heap[g]? = some (.cells ((List.replicate n c).map (Value.int .i64)).toArray 3 (0, 0)) ∧ Nx w w' := by
  rcases Nat.eq_zero_or_pos n with rfl | h
  · exact w_RepeatC0 c gl w hg
  · exact w_RepeatC1 c n gl w h hn2 hg
end Go.Proofs.YtmpnilliichpfaaGreatDoor
/- Ways are searched: the beginning. -/
namespace Go.Proofs.YtmpnilliichpfaaGreatDoor
open Go.RowKit Go.Maps

/-- The tree's block, while its rows are made. -/
def TreeIs (T bm fr : Nat) (ad : Int) (w : World) (c3 c4 c5 : Value) : Prop := w.heap[T]? = some (.cells #[.pointer (some ⟨bm, 0, none⟩), .int .i64 (fr : Int), .int .i64 ad, c3, c4, c5] 195 (0, 0))
section
variable {T bm fr : Nat} {ad : Int} {w w' : World} {c3 c4 c5 x : Value}
theorem TreeIs.lt (h : TreeIs T bm fr ad w c3 c4 c5) : T < w.heap.size := lt_of_heap h
theorem TreeIs.nx (h : TreeIs T bm fr ad w c3 c4 c5) (hn : Nx w w') : TreeIs T bm fr ad w' c3 c4 c5 := (hn.block T h.lt).trans h
theorem TreeIs.drew (h : TreeIs T bm fr ad w c3 c4 c5) : TreeIs T bm fr ad w.drew c3 c4 c5 := h
theorem TreeIs.alloc (h : TreeIs T bm fr ad w c3 c4 c5) (o : Obj) : TreeIs T bm fr ad (w.alloc o) c3 c4 c5 := h.nx ((Nx.refl w).alloc o)
theorem TreeIs.set3 (h : TreeIs T bm fr ad w c3 c4 c5) : TreeIs T bm fr ad (w.setCell ⟨T, 3, none⟩ x) x c4 c5 := heap_set h
theorem TreeIs.set4 (h : TreeIs T bm fr ad w c3 c4 c5) : TreeIs T bm fr ad (w.setCell ⟨T, 4, none⟩ x) c3 x c5 := heap_set h
theorem TreeIs.set5 (h : TreeIs T bm fr ad w c3 c4 c5) : TreeIs T bm fr ad (w.setCell ⟨T, 5, none⟩ x) c3 c4 x := heap_set h
end
/-- .. whatever its first two rows are. -/
def TreeE (T bm fr : Nat) (ad : Int) (w : World) : Prop := ∃ c3 c4, TreeIs T bm fr ad w c3 c4 (.slice none 0 0)
section
variable {T bm fr : Nat} {ad : Int} {w w' : World} {x : Value}
theorem TreeE.nx (h : TreeE T bm fr ad w) (hn : Nx w w') : TreeE T bm fr ad w' := by obtain ⟨a, b, h⟩ := h; exact ⟨a, b, h.nx hn⟩
theorem TreeE.drew (h : TreeE T bm fr ad w) : TreeE T bm fr ad w.drew := h
theorem TreeE.alloc (h : TreeE T bm fr ad w) (o : Obj) : TreeE T bm fr ad (w.alloc o) := h.nx ((Nx.refl w).alloc o)
theorem TreeE.set3 (h : TreeE T bm fr ad w) : TreeE T bm fr ad (w.setCell ⟨T, 3, none⟩ x) := by obtain ⟨a, b, h⟩ := h; exact ⟨_, b, h.set3⟩
theorem TreeE.set4 (h : TreeE T bm fr ad w) : TreeE T bm fr ad (w.setCell ⟨T, 4, none⟩ x) := by obtain ⟨a, b, h⟩ := h; exact ⟨a, _, h.set4⟩
end
theorem TreeIs.fro {T bm fr : Nat} {ad : Int} {w : World} {c3 c4 c5 : Value} (h : TreeIs T bm fr ad w c3 c4 c5) (j : Nat) : w.frozen? ⟨T, j, none⟩ = false := frozen_blkQ h
theorem TreeIs.cell3 {T bm fr : Nat} {ad : Int} {w : World} {c3 c4 c5 : Value} (h : TreeIs T bm fr ad w c3 c4 c5) : w.cell? ⟨T, 3, none⟩ = some c3 := (cell_of_row w _ 3 _ _ _ h).trans rfl
theorem TreeIs.cell4 {T bm fr : Nat} {ad : Int} {w : World} {c3 c4 c5 : Value} (h : TreeIs T bm fr ad w c3 c4 c5) : w.cell? ⟨T, 4, none⟩ = some c4 := (cell_of_row w _ 4 _ _ _ h).trans rfl
theorem TreeIs.cell5 {T bm fr : Nat} {ad : Int} {w : World} {c3 c4 c5 : Value} (h : TreeIs T bm fr ad w c3 c4 c5) : w.cell? ⟨T, 5, none⟩ = some c5 := (cell_of_row w _ 5 _ _ _ h).trans rfl
/-- A block, behind what is done to others. -/
def RowAt (w : World) (g : Nat) (o : Obj) : Prop := w.heap[g]? = some o
section
variable {w w' : World} {g : Nat} {o : Obj}
theorem RowAt.nx (h : RowAt w g o) (hn : Nx w w') : RowAt w' g o := (hn.block g (lt_of_heap h)).trans h
theorem RowAt.drew (h : RowAt w g o) : RowAt w.drew g o := h
theorem RowAt.alloc (h : RowAt w g o) (x : Obj) : RowAt (w.alloc x) g o := h.nx ((Nx.refl w).alloc x)
theorem RowAt.set {p : Addr} (h : RowAt w g o) (u : Value) (hne : g ≠ p.block) : RowAt (w.setCell p u) g o := (Below.heap_setCell w p u g hne).trans h
theorem RowAt.new' {w : World} {g : Nat} {x : Obj} (h : g = w.heap.size) : RowAt (w.alloc x) g x := hnew h
theorem RowAt.new (w : World) (x : Obj) : RowAt (w.alloc x) w.heap.size x := hnew rfl
end
theorem Gr.chain {s i : Nat} {a w : World} (h : Gr s a w) (u : Value) : Gr s a (w.setCell ⟨s, i, none⟩ u) := h.setS (.inl rfl) u
theorem run_make_boolsR (n : Nat) (hn : n ≤ 100000) (w : World) : (Instr.makeSlice 129 (.int .i64 (n : Int)) (.int .i64 (n : Int))).run Tryz.prog w = .ok (.slice (some ⟨w.heap.size, 0, none⟩) n n) (w.alloc (boolRow (List.replicate n false))) := by
  obtain ⟨i, h1, h2, h3, h4⟩ := info_parts (show (Tryz.prog.info? 4).map (fun i => (i.zero, i.size, i.bytes)) = some (some (.bool false), 1, 1) by kernel_rfl)
  have h := run_make (P := Tryz.prog) w 129 4 i (.bool false) Tryz.underlying129 h1 h2 .i64 .i64 (n : Int) (n : Int) (by omega) (by omega) (by rw [h4]; omega) (by omega)
  rw [h]
  have e : madeCells #[.bool false] n = ((List.replicate n false).map Value.bool).toArray := by
    apply Array.ext'
    rw [toList_madeCells_one]
    simp
  simp [h3, Value.cells, e, boolRow]
/-- What slices.Repeat gives of [-1]. -/
def RepOk (n : Nat) (R : Obj) : Prop := ∀ (gl : Nat) (W : World), RowAt W gl (.cells #[.int .i64 (-1)] 3 (0, 0)) → Calls Tryz.prog 178 #[.slice (some ⟨gl, 0, none⟩) 1 1, .int .i64 (n : Int)] W fun e w' => ∃ g, e = .returned (.slice (some ⟨g, 0, none⟩) n n) ∧ W.heap.size ≤ g ∧ g < w'.heap.size ∧ RowAt w' g R ∧ Nx W w'
theorem repOk (n : Nat) (hn : n ≤ 1000) : RepOk n (intRow (List.replicate n (-1))) := fun gl W h => (w_RepeatC (-1) n gl W hn h).mono (by
  rintro e w' ⟨g, rfl, rfl, h1, h2⟩
  exact ⟨_, rfl, Nat.le_refl _, lt_of_heap h1, h1, h2⟩)
end Go.Proofs.YtmpnilliichpfaaGreatDoor
