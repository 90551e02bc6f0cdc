/- The queue: what is in it; Push and Pop of its own. -/
import Derived.Test.YtbjbeddjaajdaaaGreatDoorQHeapN
import Derived.Deep.DeepCutAuto
import Derived.Test.YtbjbeddjaajdaaaGreatDoorQHeapU
import Derived.Test.YtbjbeddjaajdaaaGreatDoorQG14
import Derived.Test.YtbjbeddjaajdaaaGreatDoorQTimeO
import Derived.Test.YtbjbeddjaajdaaaGreatDoorQG7
import Derived.Deep.RegionHeld3
import Derived.Deep.AppendLies
import Derived.Deep.RegionWith
namespace Go.Proofs.YtbjbeddjaajdaaaGreatDoor
open Go.RowKit

/-- All stays but block gq and rows of exits from base on. -/
def KeepQ (base gq : Nat) (w w' : World) : Prop :=
  w'.os = w.os ∧ w'.tape = w.tape ∧ w'.output = w.output ∧ w.heap.size ≤ w'.heap.size ∧ ∀ k o, w.heap[k]? = some o → k ≠ gq → (k < base ∨ ∀ cs z, o ≠ .cells cs 234 z) → w'.heap[k]? = some o
section
variable {base gq : Nat} {w w' w'' : World} {v : Value} {l : List Ext}
theorem lt_of_heap {w : World} {k : Nat} {o : Obj} (h : w.heap[k]? = some o) : k < w.heap.size := (Array.getElem?_eq_some_iff.1 h).1
theorem KeepQ.refl (w : World) : KeepQ base gq w w := ⟨rfl, rfl, rfl, Nat.le_refl _, fun _ _ h _ _ => h⟩
theorem KeepQ.trans (h : KeepQ base gq w w') (k : KeepQ base gq w' w'') : KeepQ base gq w w'' :=
  ⟨k.1.trans h.1, k.2.1.trans h.2.1, k.2.2.1.trans h.2.2.1, Nat.le_trans h.2.2.2.1 k.2.2.2.1, fun i o ho hi hn => k.2.2.2.2 i o (h.2.2.2.2 i o ho hi hn) hi hn⟩
theorem KeepQ.of_nx (h : Nx w w') : KeepQ base gq w w' :=
  ⟨h.os, h.tape, h.output, h.sz, fun i _ ho _ _ => (h.block i (lt_of_heap ho)).trans ho⟩
theorem KeepQ.of_grown (hO : ORow base w v l) (h : w.grownBy w' v.ownBlock) : KeepQ base gq w w' :=
  ⟨h.os, h.tape, h.output, h.size, fun i o ho _ hn => (h.block i (lt_of_heap ho) (fun e => by
    rcases hO.2 with ⟨rfl, _⟩ | ⟨g, cap, cur, rfl, hb, hg, _⟩
    · cases e
    · injection e with e
      subst e
      rw [hg] at ho
      injection ho with ho
      rcases hn with hn | hn
      · omega
      · exact hn _ _ ho.symm)).trans ho⟩
theorem KeepQ.set (h : KeepQ base gq w w') (i : Nat) (u : Value) : KeepQ base gq w (w'.setCell ⟨gq, i, none⟩ u) :=
  ⟨h.1, h.2.1, h.2.2.1, by simpa [World.setCell] using h.2.2.2.1, fun k o ho hk hn => (Below.heap_setCell w' ⟨gq, i, none⟩ u k hk).trans (h.2.2.2.2 k o ho hk hn)⟩
theorem KeepQ.drew (h : KeepQ base gq w w') : KeepQ base gq w w'.drew := h.trans (.of_nx (Nx.refl _).drew)
theorem KeepQ.sz (h : KeepQ base gq w w') : w.heap.size ≤ w'.heap.size := h.2.2.2.1
/-- The queue's variable is block gq; its exits lie in a row from base on. -/
def QM (base gq : Nat) (w : World) (l : List Ext) : Prop := ∃ v, w.heap[gq]? = some (.cells #[v] 230 (0, 0)) ∧ ORow base w v l ∧ gq < base ∧ base ≤ w.heap.size
theorem QM.nx (h : QM base gq w l) (hn : Nx w w') : QM base gq w' l := by
  obtain ⟨v, h1, h2, h3, h4⟩ := h
  exact ⟨v, (hn.block gq (lt_of_heap h1)).trans h1, own_nx h2 hn, h3, Nat.le_trans h4 hn.sz⟩
theorem QM.cell (h : QM base gq w l) (h0 : 0 < l.length) : ∃ g cap, w.cell? ⟨gq, 0, none⟩ = some (.slice (some ⟨g, 0, none⟩) l.length cap) ∧ ORow base w (.slice (some ⟨g, 0, none⟩) l.length cap) l ∧ base ≤ g ∧ gq < base := by
  obtain ⟨v, h1, h2, h3, h4⟩ := h
  obtain ⟨g, cap, rfl, hb, _⟩ := h2.form h0
  exact ⟨g, cap, (cell_of_row w gq 0 _ _ _ h1).trans rfl, h2, hb, h3⟩
end
theorem ORow.app {base : Nat} {w : World} {v : Value} {l : List Ext} {x : Ext} (h : w.ownsRow base 234 2 v (l.length + 1) (l.flatMap encExt ++ [.int .i64 x.at_, .int .i64 (x.arc : Int)])) : ORow base w v (l ++ [x]) := by
  unfold ORow
  rw [List.length_append, List.flatMap_append]
  exact h
/-- The queue's row does not lie in block ex. -/
def NotOwn (gq ex : Nat) (w : World) : Prop := ∀ v z, w.heap[gq]? = some (.cells #[v] 230 z) → v.ownBlock ≠ some ex
/-- A block that is no part of the queue stays, and stays none. -/
def FrQ (gq : Nat) (w w' : World) : Prop := ∀ ex, ex < w.heap.size → ex ≠ gq → NotOwn gq ex w → w'.heap[ex]? = w.heap[ex]? ∧ NotOwn gq ex w'
theorem FrQ.trans {gq : Nat} {w w' w'' : World} (h : FrQ gq w w') (k : FrQ gq w' w'') : FrQ gq w w'' := fun ex h1 h2 h3 => by
  obtain ⟨a, b⟩ := h ex h1 h2 h3
  have hlt : ex < w'.heap.size := by
    rw [Array.getElem?_eq_getElem h1] at a
    exact (Array.getElem?_eq_some_iff.1 a).1
  obtain ⟨c, d⟩ := k ex hlt h2 b
  exact ⟨c.trans a, d⟩
theorem FrQ.nx {gq : Nat} {w w' : World} (hq : gq < w.heap.size) (h : Nx w w') : FrQ gq w w' := fun ex h1 _ h3 => ⟨h.block ex h1, fun v z hv => h3 v z ((h.block gq hq).symm.trans hv)⟩
theorem FrQ.set {gq : Nat} {w : World} {p : Addr} {u : Value} (hp : p.block ≠ gq) (hx : ∀ ex, ex = p.block → NotOwn gq ex w → False) : FrQ gq w (w.setCell p u) := fun ex _ _ h3 =>
  ⟨Below.heap_setCell w p u ex (fun e => hx ex e h3), fun v z hv => h3 v z ((Below.heap_setCell w p u gq (Ne.symm hp)).symm.trans hv)⟩
theorem frozen_blkQ {w : World} {g j : Nat} {cs : Array Value} {t : TypeId} (h : w.heap[g]? = some (.cells cs t (0, 0))) : w.frozen? ⟨g, j, none⟩ = false := by simp [World.frozen?, h]
theorem q_assert (T : TypeId) (x y : Int) (W : World) : (Instr.typeAssert (.iface 234 (.agg #[.int .i64 x, .int .i64 y])) T 234 false).run Tryz.prog W = .ok (.agg #[.int .i64 x, .int .i64 y]) W := by kernel_rfl
set_option maxRecDepth 100000 in
set_option maxHeartbeats 2000000 in
theorem w_QPush (base gq : Nat) (l : List Ext) (x : Ext) (w : World) (h : QM base gq w l) (hl : l.length ≤ 1000000) :
    Calls Tryz.prog 285 #[.pointer (some ⟨gq, 0, none⟩), .iface 234 (.agg #[.int .i64 x.at_, .int .i64 (x.arc : Int)])] w fun e w' => e = .returned (.tuple #[]) ∧ QM base gq w' (l ++ [x]) ∧ KeepQ base gq w w' ∧ FrQ gq w w' := by
  obtain ⟨v, h1, h2, h3, h4⟩ := h
  have hgl := lt_of_heap h1
  have c0 : w.cell? ⟨gq, 0, none⟩ = some v := (cell_of_row w gq 0 _ _ _ h1).trans rfl
  have cA : ∀ o, (w.alloc o).cell? ⟨gq, 0, none⟩ = some v := fun o => nx_cell ((Nx.refl w).alloc o) hgl c0
  have H1 := hide h1
  have HO := hide h2
  have hTA := q_assert
  obtain ⟨iA, zA, e1, e2, e3, e4, e5⟩ := el_Ext.hi
  have E1 := hide e1
  have E2 := hide e2
  have E3 := hide e3
  have E4 := hide e4
  have E5 := hide e5
  clear h1 h2 e1 e2 e3 e4 e5
  go_enter Tryz.func285, Tryz.ntmps285
  go_wp2_with fail
  go_region_law
    (first
      | (refine step_append_lies _ rfl _ _ _ rfl base _ iA zA 2 16 Tryz.underlying230 E1.out E2.out E3.out E4.out E5.out (by omega) v l.length (l.flatMap encExt) rfl (World.ownsRow.alloc HO.out _) _ 1 1 [.int .i64 x.at_, .int .i64 (x.arc : Int)] rfl rfl (news_of (hnew rfl) rfl) (by intro u hu; simp at hu; rcases hu with rfl | rfl <;> rfl) (by omega) (by unfold maxLen; omega) (by omega) (by simp; omega) _ rfl ?_; intro g6 c6 w6 hown6 hg6 hat6 hlt6; (have b6 : w6.heap[gq]? = some (.cells #[v] 230 (0, 0)) := (hg6.block gq (by simp; omega) (fun e => by have := own_blk_lt HO.out gq e.symm; omega)).trans ((((Nx.refl w).alloc _).block gq hgl).trans H1.out)); (have d6 : w6.cell? ⟨gq, 0, none⟩ = some v := (cell_of_row w6 gq 0 _ _ _ b6).trans rfl); (have f6 := frozen_blkQ (j := 0) b6)))
  all_goals
    go_wp2_with fail
    go_end0
    have hb6 := own_blk_lt hown6 g6 rfl
    refine ⟨rfl, ⟨_, heap_set b6, ORow.app (World.ownsRow.kept hown6 ((Gr.refl gq w6).setS (p := ⟨gq, 0, none⟩) (.inl rfl) _) (.inr (fun e => by injection e with e; have e : g6 = gq := e; omega))), h3, by simp [World.setCell]; omega⟩, ?_⟩
    have hk : ∀ W, Nx w W → W.grownBy w6 v.ownBlock → KeepQ base gq w (w6.setCell ⟨gq, 0, none⟩ (.slice (some ⟨g6, 0, none⟩) (l.length + 1) c6)) := fun W hx hg => ((KeepQ.of_nx hx).trans (KeepQ.of_grown (own_nx HO.out hx) hg)).set _ _
    have hk2 := hk _ (by repeat (first | with_reducible exact Nx.refl _ | with_reducible refine Nx.drew ?_ | with_reducible refine Nx.alloc ?_ _)) hg6
    have hf : ∀ W, Nx w W → W.grownBy w6 v.ownBlock → (v.ownBlock = some g6 ∨ g6 = W.heap.size) → FrQ gq w (w6.setCell ⟨gq, 0, none⟩ (.slice (some ⟨g6, 0, none⟩) (l.length + 1) c6)) := fun W hx hg ha ex h1 h2 h3 => by
      have hv := h3 v _ H1.out
      refine ⟨(Below.heap_setCell _ _ _ _ h2).trans ((hg.block ex (Nat.lt_of_lt_of_le h1 hx.sz) (fun e => hv e.symm)).trans (hx.block ex h1)), fun v' z hv' => ?_⟩
      rw [heap_set b6] at hv'
      injection hv' with hv'
      injection hv' with hv' _ _
      have e : v' = .slice (some ⟨g6, 0, none⟩) (l.length + 1) c6 := by
        have := congrArg (fun x : Array Value => x[0]?) hv'
        simpa using this.symm
      rw [e]
      intro e2
      have e2 : some g6 = some ex := e2
      rcases ha with ha | ha
      · exact hv (ha.trans e2)
      · injection e2 with e2
        have := hx.sz
        omega
    have hf2 := hf _ (by repeat (first | with_reducible exact Nx.refl _ | with_reducible refine Nx.drew ?_ | with_reducible refine Nx.alloc ?_ _)) hg6 hat6
    first | exact ⟨hk2, hf2⟩ | exact ⟨hk2.drew, fun ex h1 h2 h3 => hf2 ex h1 h2 h3⟩
end Go.Proofs.YtbjbeddjaajdaaaGreatDoor
/- The library's heap over the queue: Push, Pop. -/
namespace Go.Proofs.YtbjbeddjaajdaaaGreatDoor
open Go.RowKit

section
variable {base gq : Nat} {w w' : World} {l : List Ext}
theorem QM.qa (h : QM base gq w l) (h0 : 0 < l.length) : ∃ g cap, QA base gq g cap w l ∧ base ≤ g := by
  obtain ⟨v, h1, h2, h3, h4⟩ := h
  obtain ⟨g, cap, rfl, hb, _⟩ := h2.form h0
  exact ⟨g, cap, ⟨h1, h2, h3⟩, hb⟩
theorem QA.qm {g cap : Nat} (h : QA base gq g cap w l) (hb : base ≤ w.heap.size) : QM base gq w l := ⟨_, h.1, h.2.1, h.2.2, hb⟩
theorem KeepQ.of_qa {g cap : Nat} (h : QA base gq g cap w l) (hg : Gr g w w') : KeepQ base gq w w' := KeepQ.of_grown h.2.1 hg
theorem FrQ.of_qa {g cap : Nat} {l' : List Ext} (h : QA base gq g cap w l) (h' : QA base gq g cap w' l') (hg : Gr g w w') : FrQ gq w w' := fun ex h1 _ h3 => by
  have hv := h3 _ _ h.1
  refine ⟨World.grownBy.block (row := some g) hg ex h1 (fun e => hv e.symm), fun v z hz => ?_⟩
  rw [h'.1] at hz
  injection hz with hz
  injection hz with hz _ _
  have e : v = .slice (some ⟨g, 0, none⟩) l'.length cap := by
    have := congrArg (fun x : Array Value => x[0]?) hz
    simpa using this.symm
  rw [e]
  exact hv
theorem own_take {e : TypeId} {K n cap g k : Nat} {xs : List Value} (h : w.ownsRow base e K (.slice (some ⟨g, 0, none⟩) n cap) n xs) (hk : k ≤ n) : w.ownsRow base e K (.slice (some ⟨g, 0, none⟩) k cap) k (xs.take (k * K)) := by
  obtain ⟨h1, h2⟩ := h
  have hkK : k * K ≤ n * K := Nat.mul_le_mul_right K hk
  refine ⟨by rw [List.length_take]; omega, .inr ?_⟩
  rcases h2 with ⟨h2, _⟩ | ⟨g', cap', cur, h2, hb, hg, hn, hm, hs, ht⟩
  · cases h2
  · injection h2 with a1 a2 a3
    injection a1 with a1
    injection a1 with a1
    subst a1 a3
    exact ⟨g, cap, cur, rfl, hb, hg, by omega, hm, hs, by rw [← ht, List.take_take, Nat.min_eq_left hkK]⟩
theorem own_cap {e : TypeId} {K n cap g : Nat} {xs : List Value} (h : w.ownsRow base e K (.slice (some ⟨g, 0, none⟩) n cap) n xs) : n ≤ cap := by
  rcases h.2 with ⟨h2, _⟩ | ⟨g', cap', cur, h2, hb, hg, hn, _⟩
  · cases h2
  · injection h2 with _ _ a3; omega
theorem flat_take {α : Type} {enc : α → List Value} {K : Nat} (hk : ∀ x, (enc x).length = K) : ∀ (l : List α) (k : Nat), (l.flatMap enc).take (k * K) = (l.take k).flatMap enc
  | [], k => by simp
  | x :: l, 0 => by simp
  | x :: l, k + 1 => by
    rw [List.take_succ_cons, List.flatMap_cons, List.flatMap_cons, List.take_append, hk, List.take_of_length_le (by rw [hk, Nat.add_mul]; omega), show (k + 1) * K - K = k * K by rw [Nat.add_mul]; omega, flat_take hk l k]
theorem ORow.take {g cap : Nat} (h : ORow base w (.slice (some ⟨g, 0, none⟩) l.length cap) l) (k : Nat) (hk : k ≤ l.length) : ORow base w (.slice (some ⟨g, 0, none⟩) k cap) (l.take k) := by
  have h1 := own_take h hk
  rw [flat_take encExt_len] at h1
  unfold ORow
  rw [List.length_take, Nat.min_eq_left hk]
  exact h1
end
set_option maxRecDepth 100000 in
set_option maxHeartbeats 4000000 in
theorem w_QPop (base gq g cap : Nat) (l : List Ext) (w : World) (hQ : QA base gq g cap w l) (h0 : 0 < l.length) (hl : l.length ≤ 1000000) (hb : base ≤ w.heap.size) :
    Calls Tryz.prog 284 #[.pointer (some ⟨gq, 0, none⟩)] w fun e w' => e = .returned (.iface 234 (.agg #[.int .i64 (gx l (l.length - 1)).at_, .int .i64 ((gx l (l.length - 1)).arc : Int)])) ∧ QM base gq w' (l.take (l.length - 1)) ∧ KeepQ base gq w w' := by
  have c0 := hQ.cell
  obtain ⟨n, hn⟩ : ∃ n, l.length = n + 1 := ⟨l.length - 1, by omega⟩
  have hi : n < l.length := by omega
  have c1 : w.cell? ⟨g, n * 2, none⟩ = some (.int .i64 l[n].at_) := by have := own_cell encExt_len rfl hQ.2.1 n hi 0 _ rfl; simpa using this
  have c2 : w.cell? ⟨g, n * 2 + 1, none⟩ = some (.int .i64 (l[n].arc : Int)) := own_cell encExt_len rfl hQ.2.1 n hi 1 _ rfl
  have hgq := (Array.getElem?_eq_some_iff.1 hQ.1).1
  have hgg := (hQ.2.1.lt g rfl).2
  have hcap := own_cap hQ.2.1
  have hgne := hQ.ne
  have HQ := hide hQ
  have hge : gx l (l.length - 1) = l[n] := by rw [gx_lt (by omega)]; congr 1; omega
  rw [hge]
  rw [hn] at c0
  have HT := hide (hQ.2.1.take n (by omega))
  have e1 : l.length - 1 = n := by omega
  rw [e1]
  have HN := hide hn
  clear hQ hge hn e1 h0
  generalize l[n] = x at *
  have hn2 : n ≤ 1000000 := by have := HN.out; omega
  have f0 := frozen_blkQ (j := 0) HQ.out.1
  go_enter Tryz.func284, Tryz.ntmps284
  go_wp2_with fail
  go_ret
  have hg3 : w.grownBy (w.setCell ⟨gq, 0, none⟩ (.slice (some ⟨g, 0, none⟩) n cap)) (some gq) := (Gr.refl gq w).setS (.inl rfl) _
  have hq3 : QM base gq (w.setCell ⟨gq, 0, none⟩ (.slice (some ⟨g, 0, none⟩) n cap)) (l.take n) := by
    refine ⟨_, heap_set HQ.out.1, ?_, HQ.out.2.2, by simpa [World.setCell] using hb⟩
    unfold ORow
    rw [List.length_take, Nat.min_eq_left (by omega)]
    have h4 := HT.out
    unfold ORow at h4
    rw [List.length_take, Nat.min_eq_left (by omega)] at h4
    exact World.ownsRow.kept h4 hg3 (.inr fun e => by injection e with e; exact hgne e.symm)
  exact ⟨rfl, hq3.nx ((Nx.refl _).alloc _), ((KeepQ.refl w).set _ _).trans (KeepQ.of_nx ((Nx.refl _).alloc _))⟩
set_option maxRecDepth 100000 in
set_option maxHeartbeats 4000000 in
theorem w_HPush (base gq : Nat) (l : List Ext) (x : Ext) (w : World) (h : QM base gq w l) (hl : l.length < 1000000) :
    Calls Tryz.prog 142 #[.iface 232 (.pointer (some ⟨gq, 0, none⟩)), .iface 234 (.agg #[.int .i64 x.at_, .int .i64 (x.arc : Int)])] w fun e w' => e = .returned (.tuple #[]) ∧ QM base gq w' (hpush l x) ∧ KeepQ base gq w w' ∧ FrQ gq w w' := by
  have HP := hide (w_QPush base gq l x w h (by omega))
  have hMP := m_Push ⟨gq, 0, none⟩ w
  have HL := hide hl
  clear h hl
  go_enter Tryz.func142, Tryz.ntmps142
  go_wp2_with fail
  refine HP.out.mono ?_
  rintro e w1 ⟨rfl, hQ1, hk1, hf1⟩
  have hlen : (l ++ [x]).length = l.length + 1 := by simp
  obtain ⟨g, cap, hQA, hb⟩ := hQ1.qa (by omega)
  have hML := m_Len gq (some ⟨g, 0, none⟩) (l ++ [x]).length cap w1 hQA.cell
  have hll := HL.out
  have HU := hide (w_hup base gq g cap (l ++ [x]) l.length w1 hQA (by omega) (by omega))
  have HQ1 := hide hQA
  have HB := hide (show base ≤ w1.heap.size by obtain ⟨_, _, _, _, h4⟩ := hQ1; exact h4)
  rw [hlen] at hML
  clear hQ1 hQA hlen
  have HR := hide (show hup (l ++ [x]) l.length = hpush l x from rfl)
  generalize l.length = n at *
  go_wp2_with (go_at_call 281; refine (w_QLen _ _ _ _).mono ?_; rintro e w2 ⟨rfl, rfl⟩)
  refine HU.out.mono ?_
  rintro e w3 ⟨rfl, hQ3, hg3⟩
  go_wp2_with fail
  go_end0
  refine ⟨rfl, ?_, hk1.trans (KeepQ.of_qa HQ1.out hg3), hf1.trans (FrQ.of_qa HQ1.out hQ3 hg3)⟩
  rw [← HR.out]
  exact hQ3.qm (Nat.le_trans HB.out hg3.sz)
set_option maxRecDepth 100000 in
set_option maxHeartbeats 4000000 in
theorem w_HPop (base gq : Nat) (l : List Ext) (w : World) (h : QM base gq w l) (h0 : l ≠ []) (hl : l.length ≤ 1000000) :
    Calls Tryz.prog 143 #[.iface 232 (.pointer (some ⟨gq, 0, none⟩))] w fun e w' => e = .returned (.iface 234 (.agg #[.int .i64 (gx l 0).at_, .int .i64 ((gx l 0).arc : Int)])) ∧ QM base gq w' (hrest l) ∧ KeepQ base gq w w' := by
  have hpos := List.length_pos_iff.2 h0
  obtain ⟨g, cap, hQA, hb⟩ := h.qa hpos
  have HBS := hide (show base ≤ w.heap.size by obtain ⟨_, _, _, _, h4⟩ := h; exact h4)
  obtain ⟨n, hn⟩ : ∃ n, l.length = n + 1 := ⟨l.length - 1, by omega⟩
  have hML := m_Len gq (some ⟨g, 0, none⟩) l.length cap w hQA.cell
  have hMS := m_Swap gq (some ⟨g, 0, none⟩) l.length cap w hQA.cell
  have HSW := hide (w_QSwap base g cap l 0 n w hQA.2.1 (by omega) (by omega))
  have HQ := hide hQA
  have HN := hide hn
  have HTOP := hide (hpop_top l h0)
  have HREST := hide (show hrest l = (hdown (swapL l 0 (l.length - 1)) 0 (l.length - 1)).take (l.length - 1) from rfl)
  rw [hn] at HSW hML hMS HTOP HREST
  have HL := hide hl
  have hn6 : n + 1 ≤ 1000000 := by omega
  clear hQA h h0 hn hpos hl hb
  generalize hD : hdown (swapL l 0 (n + 1 - 1)) 0 (n + 1 - 1) = D at *
  have HDD := hide hD
  clear hD
  generalize gx l 0 = x at *
  generalize hrest l = R at *
  go_enter Tryz.func143, Tryz.ntmps143
  go_wp2_with (go_at_call 281; refine (w_QLen _ _ _ _).mono ?_; rintro e w2 ⟨rfl, rfl⟩)
  refine HSW.out.mono ?_
  rintro e w3 ⟨rfl, hO3, hg3⟩
  have hQ3 : QA base gq g cap w3 (swapL l 0 n) := HQ.out.gr (swapL_len _ _ _) hg3 (by rw [HN.out]; exact hO3)
  have HDN := hide (w_hdown base gq g cap (swapL l 0 n) n w3 hQ3 (by rw [swapL_len, HN.out]; omega) (by rw [swapL_len]; exact HL.out))
  have HD2 := hide (show hdown (swapL l 0 n) 0 n = D from HDD.out)
  rw [HD2.out] at HDN
  clear hMS hML hO3 HSW
  go_wp2_with fail
  refine HDN.out.mono ?_
  rintro e w4 ⟨⟨b4, rfl⟩, hQ4, hg4⟩
  have hlD : D.length = n + 1 := by rw [← HD2.out, hdown_len, swapL_len, HN.out]
  have hMP := m_Pop ⟨gq, 0, none⟩ w4
  have hge := gx_lt (l := D) (k := n) (by omega)
  have HPP := hide (w_QPop base gq g cap D w4 hQ4 (by omega) (by omega) (Nat.le_trans HBS.out (Nat.le_trans (World.grownBy.size hg3) (World.grownBy.size hg4))))
  have e1 : D.length - 1 = n := by omega
  have HT2 := hide (show gx D n = x from HTOP.out)
  have HR2 := hide (show R = D.take n from HREST.out)
  rw [e1, HT2.out] at HPP
  have HK := hide (show KeepQ base gq w w4 from (KeepQ.of_qa HQ.out hg3).trans (KeepQ.of_qa hQ3 hg4))
  clear e1 hlD hge hQ4 hQ3 HDN HD2 HTOP HREST
  go_wp2_with fail
  refine HPP.out.mono ?_
  rintro e w5 ⟨rfl, hQ5, hk5⟩
  go_wp2_with fail
  go_ret
  exact ⟨rfl, by rw [HR2.out]; exact hQ5, HK.out.trans hk5⟩
end Go.Proofs.YtbjbeddjaajdaaaGreatDoor
/- A search's memory. -/
namespace Go.Proofs.YtbjbeddjaajdaaaGreatDoor
open Go.RowKit Go.Maps

/-- Blocks with what they hold, no block twice. -/
def Mem (w : World) (l : List (Nat × Obj)) : Prop := (l.map (·.1)).Nodup ∧ ∀ p ∈ l, w.heap[p.1]? = some p.2
section
variable {w w' : World} {l l1 l2 : List (Nat × Obj)}
theorem Mem.set {k i : Nat} {cs : Array Value} {t : TypeId} (h : Mem w (l1 ++ (k, .cells cs t (0, 0)) :: l2)) (u : Value) : Mem (w.setCell ⟨k, i, none⟩ u) (l1 ++ (k, .cells (cs.setIfInBounds i u) t (0, 0)) :: l2) := by
  obtain ⟨h1, h2⟩ := h
  refine ⟨by simpa using h1, fun p hp => ?_⟩
  rw [List.map_append, List.map_cons, List.nodup_append] at h1
  rcases List.mem_append.1 hp with hp | hp
  · have hne : p.1 ≠ k := h1.2.2 p.1 (List.mem_map_of_mem hp) k (by simp)
    exact (Below.heap_setCell w ⟨k, i, none⟩ u p.1 hne).trans (h2 p (List.mem_append_left _ hp))
  · rcases List.mem_cons.1 hp with rfl | hp
    · exact heap_set (h2 (k, .cells cs t (0, 0)) (by simp))
    · have hne : p.1 ≠ k := fun e => (List.nodup_cons.1 h1.2.1).1 (show k ∈ l2.map (·.1) from e ▸ List.mem_map_of_mem (f := fun p : Nat × Obj => p.1) hp)
      exact (Below.heap_setCell w ⟨k, i, none⟩ u p.1 hne).trans (h2 p (List.mem_append_right _ (List.mem_cons_of_mem _ hp)))
theorem Mem.nx (h : Mem w l) (hn : Nx w w') : Mem w' l := ⟨h.1, fun p hp => (hn.block p.1 (lt_of_heap (h.2 p hp))).trans (h.2 p hp)⟩
theorem Mem.keep {base gq : Nat} (h : Mem w l) (hk : KeepQ base gq w w') (hb : ∀ p ∈ l, p.1 < base ∧ p.1 ≠ gq) : Mem w' l :=
  ⟨h.1, fun p hp => hk.2.2.2.2 _ _ (h.2 p hp) (hb p hp).2 (.inl (hb p hp).1)⟩
end
theorem QM.head {base gq : Nat} {w : World} {l : List Ext} (h : QM base gq w l) : ∃ A c, w.cell? ⟨gq, 0, none⟩ = some (.slice A l.length c) := by
  obtain ⟨v, h1, h2, _, _⟩ := h
  rcases h2.2 with ⟨rfl, h0⟩ | ⟨g, cap, cur, rfl, _⟩
  · exact ⟨none, 0, (cell_of_row w gq 0 _ _ _ h1).trans (by rw [h0]; rfl)⟩
  · exact ⟨_, _, (cell_of_row w gq 0 _ _ _ h1).trans rfl⟩
/-- Where a search's parts lie. -/
structure SA where
  bx : Nat
  T : Nat
  bt : Nat
  gF : Nat
  gL : Nat
  gP : Nat
  gB : Nat
  gD : Nat
  bb : Nat
  gq : Nat
  base : Nat
def intRow (l : List Int) : Obj := .cells (l.map (Value.int .i64)).toArray 3 (0, 0)
def boolRow (l : List Bool) : Obj := .cells (l.map Value.bool).toArray 4 (0, 0)
/-- A search's memory. -/
def memOf (a : SA) (bm fr nn m : Nat) (at_ : Int) (s : Sr) : List (Nat × Obj) :=
  [(a.bx, .cells #[.pointer (some ⟨bm, 0, none⟩)] 106 (0, 0)),
   (a.T, .cells #[.pointer (some ⟨bm, 0, none⟩), .int .i64 (fr : Int), .int .i64 at_, .slice (some ⟨a.gF, 0, none⟩) nn nn, .slice (some ⟨a.gL, 0, none⟩) nn nn, .slice (some ⟨a.gP, 0, none⟩) m m] 161 (0, 0)),
   (a.bt, .cells #[.pointer (some ⟨a.T, 0, none⟩)] 158 (0, 0)),
   (a.bb, .cells #[.slice (some ⟨a.gB, 0, none⟩) m m] 22 (0, 0)),
   (a.gF, intRow s.first), (a.gL, intRow s.last), (a.gP, intRow s.prev), (a.gB, intRow s.best), (a.gD, boolRow s.done)]
structure SM (w0 w : World) (a : SA) (bm fr nn m : Nat) (at_ : Int) (s : Sr) : Prop where
  nx : Nx w0 w
  mem : Mem w (memOf a bm fr nn m at_ s)
  q : QM a.base a.gq w s.q
  lo : ∀ b ∈ [a.bx, a.T, a.bt, a.bb, a.gF, a.gL, a.gP, a.gB, a.gD], w0.heap.size ≤ b ∧ b < a.base ∧ b ≠ a.gq
  lq : w0.heap.size ≤ a.gq
  lF : s.first.length = nn
  lL : s.last.length = nn
  lP : s.prev.length = m
  lB : s.best.length = m
  lD : s.done.length = m
theorem intRow_set (l : List Int) (i : Nat) (v : Int) : (l.map (Value.int .i64)).toArray.setIfInBounds i (.int .i64 v) = ((l.set i v).map (Value.int .i64)).toArray := by
  apply Array.ext'
  simp [List.map_set]
theorem boolRow_set (l : List Bool) (i : Nat) (v : Bool) : (l.map Value.bool).toArray.setIfInBounds i (.bool v) = ((l.set i v).map Value.bool).toArray := by
  apply Array.ext'
  simp [List.map_set]
section
variable {w0 w w' : World} {a : SA} {bm fr nn m : Nat} {at_ : Int} {s : Sr}
theorem SM.blocks (p : Nat × Obj) (hp : p ∈ memOf a bm fr nn m at_ s) : p.1 ∈ [a.bx, a.T, a.bt, a.bb, a.gF, a.gL, a.gP, a.gB, a.gD] := by
  simp only [memOf, List.mem_cons, List.not_mem_nil, or_false] at hp
  rcases hp with rfl | rfl | rfl | rfl | rfl | rfl | rfl | rfl | rfl <;> simp
theorem SM.step (h : SM w0 w a bm fr nn m at_ s) (hn : Nx w w') : SM w0 w' a bm fr nn m at_ s :=
  ⟨h.nx.trans hn, h.mem.nx hn, h.q.nx hn, h.lo, h.lq, h.lF, h.lL, h.lP, h.lB, h.lD⟩
theorem SM.keep (h : SM w0 w a bm fr nn m at_ s) (hk : KeepQ a.base a.gq w w') {q : List Ext} (hq : QM a.base a.gq w' q) : SM w0 w' a bm fr nn m at_ { s with q := q } := by
  refine ⟨?_, h.mem.keep hk (fun p hp => ?_), hq, h.lo, h.lq, h.lF, h.lL, h.lP, h.lB, h.lD⟩
  · refine ⟨hk.1.trans h.nx.os, hk.2.1.trans h.nx.tape, hk.2.2.1.trans h.nx.output, Nat.le_trans h.nx.sz hk.2.2.2.1, fun k hk1 => ?_⟩
    have e1 := h.nx.block k hk1
    have hb := (h.lo a.bx (by simp))
    cases ho : w0.heap[k]? with
    | none => rw [Array.getElem?_eq_none_iff] at ho; omega
    | some o => rw [ho] at e1; exact hk.2.2.2.2 k o e1 (by have := h.lq; omega) (.inl (by omega))
  · have := h.lo p.1 (SM.blocks p hp)
    exact ⟨this.2.1, this.2.2⟩
theorem SM.q_set (h : SM w0 w a bm fr nn m at_ s) {k i : Nat} (hk : k ∈ [a.bx, a.T, a.bt, a.bb, a.gF, a.gL, a.gP, a.gB, a.gD]) (u : Value) : QM a.base a.gq (w.setCell ⟨k, i, none⟩ u) s.q := by
  obtain ⟨v, h1, h2, h3, h4⟩ := h.q
  have hb := h.lo k hk
  refine ⟨v, (Below.heap_setCell w ⟨k, i, none⟩ u a.gq (Ne.symm hb.2.2)).trans h1, World.ownsRow.kept h2 (show w.grownBy (w.setCell ⟨k, i, none⟩ u) (some k) from (Gr.refl k w).setS (.inl rfl) u) (.inr fun e => ?_), h3, by simpa [World.setCell] using h4⟩
  have := own_blk_lt h2 k e
  omega
theorem SM.setB (h : SM w0 w a bm fr nn m at_ s) (i : Nat) (v : Int) : SM w0 (w.setCell ⟨a.gB, i, none⟩ (.int .i64 v)) a bm fr nn m at_ { s with best := s.best.set i v } := by
  refine ⟨h.nx.setCell (h.lo a.gB (by simp)).1 _, ?_, h.q_set (by simp) _, h.lo, h.lq, h.lF, h.lL, h.lP, by simpa using h.lB, h.lD⟩
  have := Mem.set (l1 := [_, _, _, _, _, _, _]) (i := i) (show Mem w ([_, _, _, _, _, _, _] ++ (a.gB, intRow s.best) :: [_]) from h.mem) (.int .i64 v)
  rw [intRow_set] at this
  exact this
theorem SM.setP (h : SM w0 w a bm fr nn m at_ s) (i : Nat) (v : Int) : SM w0 (w.setCell ⟨a.gP, i, none⟩ (.int .i64 v)) a bm fr nn m at_ { s with prev := s.prev.set i v } := by
  refine ⟨h.nx.setCell (h.lo a.gP (by simp)).1 _, ?_, h.q_set (by simp) _, h.lo, h.lq, h.lF, h.lL, by simpa using h.lP, h.lB, h.lD⟩
  have := Mem.set (l1 := [_, _, _, _, _, _]) (i := i) (show Mem w ([_, _, _, _, _, _] ++ (a.gP, intRow s.prev) :: [_, _]) from h.mem) (.int .i64 v)
  rw [intRow_set] at this
  exact this
theorem SM.setF (h : SM w0 w a bm fr nn m at_ s) (i : Nat) (v : Int) : SM w0 (w.setCell ⟨a.gF, i, none⟩ (.int .i64 v)) a bm fr nn m at_ { s with first := s.first.set i v } := by
  refine ⟨h.nx.setCell (h.lo a.gF (by simp)).1 _, ?_, h.q_set (by simp) _, h.lo, h.lq, by simpa using h.lF, h.lL, h.lP, h.lB, h.lD⟩
  have := Mem.set (l1 := [_, _, _, _]) (i := i) (show Mem w ([_, _, _, _] ++ (a.gF, intRow s.first) :: [_, _, _, _]) from h.mem) (.int .i64 v)
  rw [intRow_set] at this
  exact this
theorem SM.setL (h : SM w0 w a bm fr nn m at_ s) (i : Nat) (v : Int) : SM w0 (w.setCell ⟨a.gL, i, none⟩ (.int .i64 v)) a bm fr nn m at_ { s with last := s.last.set i v } := by
  refine ⟨h.nx.setCell (h.lo a.gL (by simp)).1 _, ?_, h.q_set (by simp) _, h.lo, h.lq, h.lF, by simpa using h.lL, h.lP, h.lB, h.lD⟩
  have := Mem.set (l1 := [_, _, _, _, _]) (i := i) (show Mem w ([_, _, _, _, _] ++ (a.gL, intRow s.last) :: [_, _, _]) from h.mem) (.int .i64 v)
  rw [intRow_set] at this
  exact this
theorem SM.setD (h : SM w0 w a bm fr nn m at_ s) (i : Nat) (v : Bool) : SM w0 (w.setCell ⟨a.gD, i, none⟩ (.bool v)) a bm fr nn m at_ { s with done := s.done.set i v } := by
  refine ⟨h.nx.setCell (h.lo a.gD (by simp)).1 _, ?_, h.q_set (by simp) _, h.lo, h.lq, h.lF, h.lL, h.lP, h.lB, by simpa using h.lD⟩
  have := Mem.set (l1 := [_, _, _, _, _, _, _, _]) (i := i) (show Mem w ([_, _, _, _, _, _, _, _] ++ (a.gD, boolRow s.done) :: []) from h.mem) (.bool v)
  rw [boolRow_set] at this
  exact this
theorem intRow_cell {g : Nat} {l : List Int} (h : w.heap[g]? = some (intRow l)) {i : Nat} (hi : i < l.length) : w.cell? ⟨g, i, none⟩ = some (.int .i64 (gi l i)) := by
  refine (cell_of_row w g i _ _ _ h).trans ?_
  rw [← Array.getElem?_toList]
  simp [hi, gi]
theorem boolRow_cell {g : Nat} {l : List Bool} (h : w.heap[g]? = some (boolRow l)) {i : Nat} (hi : i < l.length) : w.cell? ⟨g, i, none⟩ = some (.bool (gb l i)) := by
  refine (cell_of_row w g i _ _ _ h).trans ?_
  rw [← Array.getElem?_toList]
  simp [hi, gb]
theorem SM.hbx (h : SM w0 w a bm fr nn m at_ s) : w.cell? ⟨a.bx, 0, none⟩ = some (.pointer (some ⟨bm, 0, none⟩)) := (cell_of_row w _ 0 _ _ _ (h.mem.2 _ (.head _))).trans rfl
theorem SM.hbt (h : SM w0 w a bm fr nn m at_ s) : w.cell? ⟨a.bt, 0, none⟩ = some (.pointer (some ⟨a.T, 0, none⟩)) := (cell_of_row w _ 0 _ _ _ (h.mem.2 _ (.tail _ (.tail _ (.head _))))).trans rfl
theorem SM.hbb (h : SM w0 w a bm fr nn m at_ s) : w.cell? ⟨a.bb, 0, none⟩ = some (.slice (some ⟨a.gB, 0, none⟩) m m) := (cell_of_row w _ 0 _ _ _ (h.mem.2 _ (.tail _ (.tail _ (.tail _ (.head _)))))).trans rfl
theorem SM.hTb (h : SM w0 w a bm fr nn m at_ s) : w.heap[a.T]? = some (.cells #[.pointer (some ⟨bm, 0, none⟩), .int .i64 (fr : Int), .int .i64 at_, .slice (some ⟨a.gF, 0, none⟩) nn nn, .slice (some ⟨a.gL, 0, none⟩) nn nn, .slice (some ⟨a.gP, 0, none⟩) m m] 161 (0, 0)) := h.mem.2 _ (.tail _ (.head _))
theorem SM.hF (h : SM w0 w a bm fr nn m at_ s) : w.heap[a.gF]? = some (intRow s.first) := h.mem.2 _ (.tail _ (.tail _ (.tail _ (.tail _ (.head _)))))
theorem SM.hL (h : SM w0 w a bm fr nn m at_ s) : w.heap[a.gL]? = some (intRow s.last) := h.mem.2 _ (.tail _ (.tail _ (.tail _ (.tail _ (.tail _ (.head _))))))
theorem SM.hP (h : SM w0 w a bm fr nn m at_ s) : w.heap[a.gP]? = some (intRow s.prev) := h.mem.2 _ (.tail _ (.tail _ (.tail _ (.tail _ (.tail _ (.tail _ (.head _)))))))
theorem SM.hB (h : SM w0 w a bm fr nn m at_ s) : w.heap[a.gB]? = some (intRow s.best) := h.mem.2 _ (.tail _ (.tail _ (.tail _ (.tail _ (.tail _ (.tail _ (.tail _ (.head _))))))))
theorem SM.hD (h : SM w0 w a bm fr nn m at_ s) : w.heap[a.gD]? = some (boolRow s.done) := h.mem.2 _ (.tail _ (.tail _ (.tail _ (.tail _ (.tail _ (.tail _ (.tail _ (.tail _ (.head _)))))))))
end
end Go.Proofs.YtbjbeddjaajdaaaGreatDoor
/- The stream's drives. -/
namespace Go.Proofs.YtbjbeddjaajdaaaGreatDoor
open Go.RowKit

theorem el_SD : ElemOf Tryz.prog 34 9 1 16 := ElemOf.mk' (z := .string ByteArray.empty) Tryz.underlying34 (by kernel_rfl) rfl
theorem idxP_mem {α : Type} (p : α → Bool) : ∀ (l : List α) (j : Nat), (∃ a ∈ l, p a = true) → 0 ≤ idxP p l j
  | [], _, h => by obtain ⟨_, h, _⟩ := h; exact absurd h (by simp)
  | n :: l, j, h => by
    unfold idxP
    split
    · omega
    · rename_i hn
      obtain ⟨a, ha, hp⟩ := h
      rcases List.mem_cons.1 ha with rfl | ha
      · exact absurd hp hn
      · exact idxP_mem p l (j + 1) ⟨a, ha, hp⟩
theorem arcI_mem {rs : List Arc} {s : ByteArray} (h : ∃ a ∈ rs, a.key = s) : 0 ≤ arcI rs s := by
  obtain ⟨a, ha, e⟩ := h
  exact idxP_mem _ rs 0 ⟨a, ha, decide_eq_true e⟩
/-- Some strings in a row of the call's own. -/
def StrDr (s k : Nat) (w : World) (e : Ending) (w' : World) : Prop := ∃ (Z : Option Addr) (cz : Nat) (l : List ByteArray), e = .returned (.slice Z l.length cz) ∧ l.length ≤ 6 ∧ Rd w' w.heap.size Z 1 encS l ∧ Gr s w w' ∧ Str w' s k
end Go.Proofs.YtbjbeddjaajdaaaGreatDoor
/- Strings the other way round. -/
namespace Go.Proofs.YtbjbeddjaajdaaaGreatDoor
open Go.RowKit

/-- The first i and the last i have changed places. -/
def RevI (l zs : List ByteArray) (i : Nat) : Prop := zs.length = l.length ∧ ∀ p, p < l.length → zs.getD p default = if p < i ∨ l.length - i ≤ p then l.getD (l.length - 1 - p) default else l.getD p default
theorem revI_zero (l : List ByteArray) : RevI l l 0 := ⟨rfl, fun p hp => by rw [if_neg (by omega)]⟩
theorem revI_step {l zs : List ByteArray} {i : Nat} (h : RevI l zs i) (hi : i < l.length - 1 - i) : RevI l ((zs.set i (zs.getD (l.length - 1 - i) default)).set (l.length - 1 - i) (zs.getD i default)) (i + 1) := by
  obtain ⟨h1, h2⟩ := h
  refine ⟨by simpa using h1, fun p hp => ?_⟩
  have e1 := h2 i (by omega)
  have e2 := h2 (l.length - 1 - i) (by omega)
  have e3 := h2 p hp
  rw [if_neg (by omega)] at e1 e2
  rw [List.getD_eq_getElem?_getD, List.getElem?_set, List.getElem?_set]
  by_cases a : l.length - 1 - i = p
  · subst a
    rw [if_pos rfl, if_pos (by simp; omega), if_pos (by omega), e1]
    show l.getD i default = _
    congr 1; omega
  · rw [if_neg a]
    by_cases b : i = p
    · subst b
      rw [if_pos rfl, if_pos (by omega), if_pos (by omega), e2]
      rfl
    · rw [if_neg b, ← List.getD_eq_getElem?_getD, e3]
      by_cases c : p < i ∨ l.length - i ≤ p
      · rw [if_pos c, if_pos (by omega)]
      · rw [if_neg c, if_neg (by omega)]
theorem revI_end {l zs : List ByteArray} {i : Nat} (h : RevI l zs i) (hi : ¬ i < l.length - 1 - i) : zs = l.reverse := by
  obtain ⟨h1, h2⟩ := h
  apply List.ext_getElem (by simpa using h1)
  intro p hp1 hp2
  have hp : p < l.length := by omega
  have e := h2 p hp
  rw [List.getD_eq_getElem?_getD, List.getElem?_eq_getElem hp1] at e
  have e : zs[p] = _ := e
  rw [e, List.getElem_reverse]
  by_cases c : p < i ∨ l.length - i ≤ p
  · rw [if_pos c, List.getD_eq_getElem?_getD, List.getElem?_eq_getElem (by omega)]; rfl
  · rw [if_neg c, List.getD_eq_getElem?_getD, List.getElem?_eq_getElem hp]
    show l[p] = _
    congr 1; omega
set_option maxRecDepth 100000 in
set_option maxHeartbeats 4000000 in
theorem w_RevS (base : Nat) (v : Value) (l : List ByteArray) (w : World) (hown : w.ownsRow base 9 1 v l.length (l.flatMap encS)) (hl : l.length ≤ 65536) :
    Calls Tryz.prog 146 #[v] w fun e w' => e = .returned (.tuple #[]) ∧ w'.ownsRow base 9 1 v l.length (l.reverse.flatMap encS) ∧ w.grownBy w' v.ownBlock := by
  by_cases h0 : l.length = 0
  · have hb : l = [] := List.eq_nil_of_length_eq_zero h0
    subst hb
    have HO := hide hown
    obtain ⟨A, c, rfl, _, _⟩ := Rd.of_own encS_len rfl hown
    clear hown h0
    go_enter Tryz.func146, Tryz.ntmps146
    go_wp2_with fail
    refine wp_loop_rounds 1 ?_
    rw [rounds_succ]
    go_wp2_with fail
    go_end0
    exact ⟨rfl, HO.out, World.grownBy.refl _ _⟩
  · obtain ⟨g, cap, rfl⟩ : ∃ g cap, v = .slice (some ⟨g, 0, none⟩) l.length cap := by
      rcases hown.2 with ⟨_, h⟩ | ⟨g, cap, cur, e, _⟩
      · exact absurd h h0
      · exact ⟨g, cap, e⟩
    have HR0 := hide (revI_zero l)
    have HRS := hide (fun zs i => @revI_step l zs i)
    have HRE := hide (fun zs i => @revI_end l zs i)
    generalize hn : l.length = n at *
    have HO := hide hown
    have HN := hide hn
    clear hown hn
    have n1 : IntKind.i64.wrap ((n : Int) - 1) = ((n - 1 : Nat) : Int) := by rw [IntWalk.i64_in _ (by omega)]; omega
    go_enter Tryz.func146, Tryz.ntmps146
    go_wp2_with fail
    go_loopw [2, 3] (fun vi vj wr => ∃ (i j : Nat) (zs : List ByteArray), vi = .int .i64 i ∧ vj = .int .i64 j ∧ i + j = n - 1 ∧ i ≤ n - 1 ∧ RevI l zs i ∧ wr.ownsRow base 9 1 (.slice (some ⟨g, 0, none⟩) n cap) n (zs.flatMap encS) ∧ Gr g w wr) (fun vi vj _ => (intOf vj).toNat - (intOf vi).toNat)
    case atStart => exact ⟨0, n - 1, l, rfl, rfl, by omega, by omega, HR0.out, HO.out, Gr.refl _ _⟩
    case round =>
      obtain ⟨i, j, zs, rfl, rfl, hj, hin, hz, hown, hgr⟩ := hrel
      have HZ := hide hz
      have HZL := hide hz.1
      clear hz
      by_cases hlt : i < j
      · have hi : i < zs.length := by have := HZL.out; have := HN.out; omega
        have hj' : j < zs.length := by have := HZL.out; have := HN.out; omega
        have hzn : zs.length = n := by have := HZL.out; have := HN.out; omega
        have c0 : wr.cell? ⟨g, i, none⟩ = some (.string zs[i]) := by have := own_cell encS_len hzn hown i hi 0 _ rfl; simpa using this
        have c2 : wr.cell? ⟨g, j, none⟩ = some (.string zs[j]) := by have := own_cell encS_len hzn hown j hj' 0 _ rfl; simpa using this
        have f0 := hown.frozenAt i
        have f2 := hown.frozenAt j
        have HOW := hide hown
        have hi2 : (i : Int) < (n : Int) := by omega
        have hj2 : (j : Int) < (n : Int) := by omega
        have hi0 : (0 : Int) ≤ (i : Int) := by omega
        have hj0 : (0 : Int) ≤ (j : Int) := by omega
        have HST := hide (show RevI l ((zs.set i zs[j]).set j zs[i]) (i + 1) by
          have h := HRS.out zs i HZ.out (by omega)
          have hj : j = n - 1 - i := by omega
          rw [← hj, List.getD_eq_getElem?_getD, List.getElem?_eq_getElem hj', List.getD_eq_getElem?_getD, List.getElem?_eq_getElem hi] at h
          exact h)
        have HIL := hide hi
        have HJL := hide hj'
        have HZN := hide hzn
        generalize zs[i] = x at *
        generalize zs[j] = y at *
        clear hown hi hj' hzn
        go_wp2_with fail
        go_region_with (fail)
        all_goals
          go_wp2_with fail
          first
            | (have o1 := own_set encS_len HZN.out HOW.out i HIL.out 0 (by omega) (.string y) y rfl i (by omega)
               have o2 := own_set encS_len (by simpa using HZN.out) o1 j (by simpa using HJL.out) 0 (by omega) (.string x) x (by simp [encS]) j (by omega)
               go_roundw
               case rel => exact ⟨i + 1, j - 1, _, by go_num, by (congr 1; omega), by omega, by omega, HST.out, o2, ((hgr.setS (p := ⟨g, i, none⟩) (.inl rfl) _).setS (p := ⟨g, j, none⟩) (.inl rfl) _).drew⟩
               case measure => simp [intOf]; omega)
            | (have o1 := own_set encS_len HZN.out HOW.out j HJL.out 0 (by omega) (.string x) x rfl j (by omega)
               have o2 := own_set encS_len (by simpa using HZN.out) o1 i (by simpa using HIL.out) 0 (by omega) (.string y) y (by simp [encS]) i (by omega)
               go_roundw
               case rel => exact ⟨i + 1, j - 1, (zs.set j x).set i y, by go_num, by (congr 1; omega), by omega, by omega, by rw [List.set_comm _ _ (by omega : j ≠ i)]; exact HST.out, o2, ((hgr.setS (p := ⟨g, j, none⟩) (.inl rfl) _).setS (p := ⟨g, i, none⟩) (.inl rfl) _).drew⟩
               case measure => simp [intOf]; omega)
      · have HE := hide (HRE.out zs i HZ.out (by omega))
        go_wp2_with fail
        go_end0
        exact ⟨rfl, by rw [← HE.out]; exact hown, hgr⟩
end Go.Proofs.YtbjbeddjaajdaaaGreatDoor
