/- The library's heap over the queue: Push, Pop. -/
import Derived.Test.YtklgknepamebdaaGreatDoorQG31
import Derived.Test.YtklgknepamebdaaGreatDoorQHeapU
import Derived.Test.YtklgknepamebdaaGreatDoorQG21
import Derived.Test.YtklgknepamebdaaGreatDoorQTimeO
import Derived.Test.YtklgknepamebdaaGreatDoorQG23
import Derived.Test.YtklgknepamebdaaGreatDoorQG17
import Derived.Test.YtklgknepamebdaaGreatDoorQG8
import Derived.Deep.RegionHeld3
import Derived.Deep.AppendLies
import Derived.Deep.RegionWith
import Derived.Test.YtklgknepamebdaaGreatDoorQG29
import Derived.Deep.RegionHeld
import Derived.Deep.Onto
import Derived.Deep.LoopGhost
import Derived.Deep.DeepCutAuto
import Derived.Test.YtklgknepamebdaaGreatDoorQG27
import Derived.Test.YtklgknepamebdaaGreatDoorQNewW
import Derived.Test.YtklgknepamebdaaGreatDoorQG25
namespace Go.Proofs.YtklgknepamebdaaGreatDoor
open Go.RowKit

section
variable {base gq : Nat} {w w' : World} {l : List Ext}
theorem QM.qa (h : QM base gq w l) (h0 : 0 < l.length) : ∃ g cap, QA base gq g cap w l ∧ base ≤ g := by
  obtain ⟨v, h1, h2, h3, h4⟩ := h
  obtain ⟨g, cap, rfl, hb, _⟩ := h2.form h0
  exact ⟨g, cap, ⟨h1, h2, h3⟩, hb⟩
theorem QA.qm {g cap : Nat} (h : QA base gq g cap w l) (hb : base ≤ w.heap.size) : QM base gq w l := ⟨_, h.1, h.2.1, h.2.2, hb⟩
theorem KeepQ.of_qa {g cap : Nat} (h : QA base gq g cap w l) (hg : Gr g w w') : KeepQ base gq w w' := KeepQ.of_grown h.2.1 hg
theorem FrQ.of_qa {g cap : Nat} {l' : List Ext} (h : QA base gq g cap w l) (h' : QA base gq g cap w' l') (hg : Gr g w w') : FrQ gq w w' := fun ex h1 _ h3 => by
  have hv := h3 _ _ h.1
  refine ⟨World.grownBy.block (row := some g) hg ex h1 (fun e => hv e.symm), fun v z hz => ?_⟩
  rw [h'.1] at hz
  injection hz with hz
  injection hz with hz _ _
  have e : v = .slice (some ⟨g, 0, none⟩) l'.length cap := by
    have := congrArg (fun x : Array Value => x[0]?) hz
    simpa using this.symm
  rw [e]
  exact hv
theorem own_take {e : TypeId} {K n cap g k : Nat} {xs : List Value} (h : w.ownsRow base e K (.slice (some ⟨g, 0, none⟩) n cap) n xs) (hk : k ≤ n) : w.ownsRow base e K (.slice (some ⟨g, 0, none⟩) k cap) k (xs.take (k * K)) := by
  obtain ⟨h1, h2⟩ := h
  have hkK : k * K ≤ n * K := Nat.mul_le_mul_right K hk
  refine ⟨by rw [List.length_take]; omega, .inr ?_⟩
  rcases h2 with ⟨h2, _⟩ | ⟨g', cap', cur, h2, hb, hg, hn, hm, hs, ht⟩
  · cases h2
  · injection h2 with a1 a2 a3
    injection a1 with a1
    injection a1 with a1
    subst a1 a3
    exact ⟨g, cap, cur, rfl, hb, hg, by omega, hm, hs, by rw [← ht, List.take_take, Nat.min_eq_left hkK]⟩
theorem own_cap {e : TypeId} {K n cap g : Nat} {xs : List Value} (h : w.ownsRow base e K (.slice (some ⟨g, 0, none⟩) n cap) n xs) : n ≤ cap := by
  rcases h.2 with ⟨h2, _⟩ | ⟨g', cap', cur, h2, hb, hg, hn, _⟩
  · cases h2
  · injection h2 with _ _ a3; omega
theorem flat_take {α : Type} {enc : α → List Value} {K : Nat} (hk : ∀ x, (enc x).length = K) : ∀ (l : List α) (k : Nat), (l.flatMap enc).take (k * K) = (l.take k).flatMap enc
  | [], k => by simp
  | x :: l, 0 => by simp
  | x :: l, k + 1 => by
    rw [List.take_succ_cons, List.flatMap_cons, List.flatMap_cons, List.take_append, hk, List.take_of_length_le (by rw [hk, Nat.add_mul]; omega), show (k + 1) * K - K = k * K by rw [Nat.add_mul]; omega, flat_take hk l k]
theorem ORow.take {g cap : Nat} (h : ORow base w (.slice (some ⟨g, 0, none⟩) l.length cap) l) (k : Nat) (hk : k ≤ l.length) : ORow base w (.slice (some ⟨g, 0, none⟩) k cap) (l.take k) := by
  have h1 := own_take h hk
  rw [flat_take encExt_len] at h1
  unfold ORow
  rw [List.length_take, Nat.min_eq_left hk]
  exact h1
end
set_option maxRecDepth 100000 in
set_option maxHeartbeats 4000000 in
theorem w_QPop (base gq g cap : Nat) (l : List Ext) (w : World) (hQ : QA base gq g cap w l) (h0 : 0 < l.length) (hl : l.length ≤ 1000000) (hb : base ≤ w.heap.size) :
    Calls Tryz.prog 276 #[.pointer (some ⟨gq, 0, none⟩)] w fun e w' => e = .returned (.iface 219 (.agg #[.int .i64 (gx l (l.length - 1)).at_, .int .i64 ((gx l (l.length - 1)).arc : Int)])) ∧ QM base gq w' (l.take (l.length - 1)) ∧ KeepQ base gq w w' := by
  have c0 := hQ.cell
  obtain ⟨n, hn⟩ : ∃ n, l.length = n + 1 := ⟨l.length - 1, by omega⟩
  have hi : n < l.length := by omega
  have c1 : w.cell? ⟨g, n * 2, none⟩ = some (.int .i64 l[n].at_) := by have := own_cell encExt_len rfl hQ.2.1 n hi 0 _ rfl; simpa using this
  have c2 : w.cell? ⟨g, n * 2 + 1, none⟩ = some (.int .i64 (l[n].arc : Int)) := own_cell encExt_len rfl hQ.2.1 n hi 1 _ rfl
  have hgq := (Array.getElem?_eq_some_iff.1 hQ.1).1
  have hgg := (hQ.2.1.lt g rfl).2
  have hcap := own_cap hQ.2.1
  have hgne := hQ.ne
  have HQ := hide hQ
  have hge : gx l (l.length - 1) = l[n] := by rw [gx_lt (by omega)]; congr 1; omega
  rw [hge]
  rw [hn] at c0
  have HT := hide (hQ.2.1.take n (by omega))
  have e1 : l.length - 1 = n := by omega
  rw [e1]
  have HN := hide hn
  clear hQ hge hn e1 h0
  generalize l[n] = x at *
  have hn2 : n ≤ 1000000 := by have := HN.out; omega
  have f0 := frozen_blkQ (j := 0) HQ.out.1
  go_enter Tryz.func276, Tryz.ntmps276
  go_wp2_with fail
  go_ret
  have hg3 : w.grownBy (w.setCell ⟨gq, 0, none⟩ (.slice (some ⟨g, 0, none⟩) n cap)) (some gq) := (Gr.refl gq w).setS (.inl rfl) _
  have hq3 : QM base gq (w.setCell ⟨gq, 0, none⟩ (.slice (some ⟨g, 0, none⟩) n cap)) (l.take n) := by
    refine ⟨_, heap_set HQ.out.1, ?_, HQ.out.2.2, by simpa [World.setCell] using hb⟩
    unfold ORow
    rw [List.length_take, Nat.min_eq_left (by omega)]
    have h4 := HT.out
    unfold ORow at h4
    rw [List.length_take, Nat.min_eq_left (by omega)] at h4
    exact World.ownsRow.kept h4 hg3 (.inr fun e => by injection e with e; exact hgne e.symm)
  exact ⟨rfl, hq3.nx ((Nx.refl _).alloc _), ((KeepQ.refl w).set _ _).trans (KeepQ.of_nx ((Nx.refl _).alloc _))⟩
set_option maxRecDepth 100000 in
set_option maxHeartbeats 4000000 in
theorem w_HPush (base gq : Nat) (l : List Ext) (x : Ext) (w : World) (h : QM base gq w l) (hl : l.length < 1000000) :
    Calls Tryz.prog 145 #[.iface 217 (.pointer (some ⟨gq, 0, none⟩)), .iface 219 (.agg #[.int .i64 x.at_, .int .i64 (x.arc : Int)])] w fun e w' => e = .returned (.tuple #[]) ∧ QM base gq w' (hpush l x) ∧ KeepQ base gq w w' ∧ FrQ gq w w' := by
  have HP := hide (w_QPush base gq l x w h (by omega))
  have hMP := m_Push ⟨gq, 0, none⟩ w
  have HL := hide hl
  clear h hl
  go_enter Tryz.func145, Tryz.ntmps145
  go_wp2_with fail
  refine HP.out.mono ?_
  rintro e w1 ⟨rfl, hQ1, hk1, hf1⟩
  have hlen : (l ++ [x]).length = l.length + 1 := by simp
  obtain ⟨g, cap, hQA, hb⟩ := hQ1.qa (by omega)
  have hML := m_Len gq (some ⟨g, 0, none⟩) (l ++ [x]).length cap w1 hQA.cell
  have hll := HL.out
  have HU := hide (w_hup base gq g cap (l ++ [x]) l.length w1 hQA (by omega) (by omega))
  have HQ1 := hide hQA
  have HB := hide (show base ≤ w1.heap.size by obtain ⟨_, _, _, _, h4⟩ := hQ1; exact h4)
  rw [hlen] at hML
  clear hQ1 hQA hlen
  have HR := hide (show hup (l ++ [x]) l.length = hpush l x from rfl)
  generalize l.length = n at *
  go_wp2_with (go_at_call 273; refine (w_QLen _ _ _ _).mono ?_; rintro e w2 ⟨rfl, rfl⟩)
  refine HU.out.mono ?_
  rintro e w3 ⟨rfl, hQ3, hg3⟩
  go_wp2_with fail
  go_end0
  refine ⟨rfl, ?_, hk1.trans (KeepQ.of_qa HQ1.out hg3), hf1.trans (FrQ.of_qa HQ1.out hQ3 hg3)⟩
  rw [← HR.out]
  exact hQ3.qm (Nat.le_trans HB.out hg3.sz)
set_option maxRecDepth 100000 in
set_option maxHeartbeats 4000000 in
theorem w_HPop (base gq : Nat) (l : List Ext) (w : World) (h : QM base gq w l) (h0 : l ≠ []) (hl : l.length ≤ 1000000) :
    Calls Tryz.prog 146 #[.iface 217 (.pointer (some ⟨gq, 0, none⟩))] w fun e w' => e = .returned (.iface 219 (.agg #[.int .i64 (gx l 0).at_, .int .i64 ((gx l 0).arc : Int)])) ∧ QM base gq w' (hrest l) ∧ KeepQ base gq w w' := by
  have hpos := List.length_pos_iff.2 h0
  obtain ⟨g, cap, hQA, hb⟩ := h.qa hpos
  have HBS := hide (show base ≤ w.heap.size by obtain ⟨_, _, _, _, h4⟩ := h; exact h4)
  obtain ⟨n, hn⟩ : ∃ n, l.length = n + 1 := ⟨l.length - 1, by omega⟩
  have hML := m_Len gq (some ⟨g, 0, none⟩) l.length cap w hQA.cell
  have hMS := m_Swap gq (some ⟨g, 0, none⟩) l.length cap w hQA.cell
  have HSW := hide (w_QSwap base g cap l 0 n w hQA.2.1 (by omega) (by omega))
  have HQ := hide hQA
  have HN := hide hn
  have HTOP := hide (hpop_top l h0)
  have HREST := hide (show hrest l = (hdown (swapL l 0 (l.length - 1)) 0 (l.length - 1)).take (l.length - 1) from rfl)
  rw [hn] at HSW hML hMS HTOP HREST
  have HL := hide hl
  have hn6 : n + 1 ≤ 1000000 := by omega
  clear hQA h h0 hn hpos hl hb
  generalize hD : hdown (swapL l 0 (n + 1 - 1)) 0 (n + 1 - 1) = D at *
  have HDD := hide hD
  clear hD
  generalize gx l 0 = x at *
  generalize hrest l = R at *
  go_enter Tryz.func146, Tryz.ntmps146
  go_wp2_with (go_at_call 273; refine (w_QLen _ _ _ _).mono ?_; rintro e w2 ⟨rfl, rfl⟩)
  refine HSW.out.mono ?_
  rintro e w3 ⟨rfl, hO3, hg3⟩
  have hQ3 : QA base gq g cap w3 (swapL l 0 n) := HQ.out.gr (swapL_len _ _ _) hg3 (by rw [HN.out]; exact hO3)
  have HDN := hide (w_hdown base gq g cap (swapL l 0 n) n w3 hQ3 (by rw [swapL_len, HN.out]; omega) (by rw [swapL_len]; exact HL.out))
  have HD2 := hide (show hdown (swapL l 0 n) 0 n = D from HDD.out)
  rw [HD2.out] at HDN
  clear hMS hML hO3 HSW
  go_wp2_with fail
  refine HDN.out.mono ?_
  rintro e w4 ⟨⟨b4, rfl⟩, hQ4, hg4⟩
  have hlD : D.length = n + 1 := by rw [← HD2.out, hdown_len, swapL_len, HN.out]
  have hMP := m_Pop ⟨gq, 0, none⟩ w4
  have hge := gx_lt (l := D) (k := n) (by omega)
  have HPP := hide (w_QPop base gq g cap D w4 hQ4 (by omega) (by omega) (Nat.le_trans HBS.out (Nat.le_trans (World.grownBy.size hg3) (World.grownBy.size hg4))))
  have e1 : D.length - 1 = n := by omega
  have HT2 := hide (show gx D n = x from HTOP.out)
  have HR2 := hide (show R = D.take n from HREST.out)
  rw [e1, HT2.out] at HPP
  have HK := hide (show KeepQ base gq w w4 from (KeepQ.of_qa HQ.out hg3).trans (KeepQ.of_qa hQ3 hg4))
  clear e1 hlD hge hQ4 hQ3 HDN HD2 HTOP HREST
  go_wp2_with fail
  refine HPP.out.mono ?_
  rintro e w5 ⟨rfl, hQ5, hk5⟩
  go_wp2_with fail
  go_ret
  exact ⟨rfl, by rw [HR2.out]; exact hQ5, HK.out.trans hk5⟩
end Go.Proofs.YtklgknepamebdaaGreatDoor
/- A search's memory. -/
namespace Go.Proofs.YtklgknepamebdaaGreatDoor
open Go.RowKit Go.Maps

/-- Blocks with what they hold, no block twice. -/
def Mem (w : World) (l : List (Nat × Obj)) : Prop := (l.map (·.1)).Nodup ∧ ∀ p ∈ l, w.heap[p.1]? = some p.2
section
variable {w w' : World} {l l1 l2 : List (Nat × Obj)}
theorem Mem.set {k i : Nat} {cs : Array Value} {t : TypeId} (h : Mem w (l1 ++ (k, .cells cs t (0, 0)) :: l2)) (u : Value) : Mem (w.setCell ⟨k, i, none⟩ u) (l1 ++ (k, .cells (cs.setIfInBounds i u) t (0, 0)) :: l2) := by
  obtain ⟨h1, h2⟩ := h
  refine ⟨by simpa using h1, fun p hp => ?_⟩
  rw [List.map_append, List.map_cons, List.nodup_append] at h1
  rcases List.mem_append.1 hp with hp | hp
  · have hne : p.1 ≠ k := h1.2.2 p.1 (List.mem_map_of_mem hp) k (by simp)
    exact (Below.heap_setCell w ⟨k, i, none⟩ u p.1 hne).trans (h2 p (List.mem_append_left _ hp))
  · rcases List.mem_cons.1 hp with rfl | hp
    · exact heap_set (h2 (k, .cells cs t (0, 0)) (by simp))
    · have hne : p.1 ≠ k := fun e => (List.nodup_cons.1 h1.2.1).1 (show k ∈ l2.map (·.1) from e ▸ List.mem_map_of_mem (f := fun p : Nat × Obj => p.1) hp)
      exact (Below.heap_setCell w ⟨k, i, none⟩ u p.1 hne).trans (h2 p (List.mem_append_right _ (List.mem_cons_of_mem _ hp)))
theorem Mem.nx (h : Mem w l) (hn : Nx w w') : Mem w' l := ⟨h.1, fun p hp => (hn.block p.1 (lt_of_heap (h.2 p hp))).trans (h.2 p hp)⟩
theorem Mem.keep {base gq : Nat} (h : Mem w l) (hk : KeepQ base gq w w') (hb : ∀ p ∈ l, p.1 < base ∧ p.1 ≠ gq) : Mem w' l :=
  ⟨h.1, fun p hp => hk.2.2.2.2 _ _ (h.2 p hp) (hb p hp).2 (.inl (hb p hp).1)⟩
end
theorem QM.head {base gq : Nat} {w : World} {l : List Ext} (h : QM base gq w l) : ∃ A c, w.cell? ⟨gq, 0, none⟩ = some (.slice A l.length c) := by
  obtain ⟨v, h1, h2, _, _⟩ := h
  rcases h2.2 with ⟨rfl, h0⟩ | ⟨g, cap, cur, rfl, _⟩
  · exact ⟨none, 0, (cell_of_row w gq 0 _ _ _ h1).trans (by rw [h0]; rfl)⟩
  · exact ⟨_, _, (cell_of_row w gq 0 _ _ _ h1).trans rfl⟩
/-- Where a search's parts lie. -/
structure SA where
  bx : Nat
  T : Nat
  bt : Nat
  gF : Nat
  gL : Nat
  gP : Nat
  gB : Nat
  gD : Nat
  bb : Nat
  gq : Nat
  base : Nat
def intRow (l : List Int) : Obj := .cells (l.map (Value.int .i64)).toArray 3 (0, 0)
def boolRow (l : List Bool) : Obj := .cells (l.map Value.bool).toArray 4 (0, 0)
/-- A search's memory. -/
def memOf (a : SA) (bm fr nn m : Nat) (at_ : Int) (s : Sr) : List (Nat × Obj) :=
  [(a.bx, .cells #[.pointer (some ⟨bm, 0, none⟩)] 125 (0, 0)),
   (a.T, .cells #[.pointer (some ⟨bm, 0, none⟩), .int .i64 (fr : Int), .int .i64 at_, .slice (some ⟨a.gF, 0, none⟩) nn nn, .slice (some ⟨a.gL, 0, none⟩) nn nn, .slice (some ⟨a.gP, 0, none⟩) m m] 159 (0, 0)),
   (a.bt, .cells #[.pointer (some ⟨a.T, 0, none⟩)] 155 (0, 0)),
   (a.bb, .cells #[.slice (some ⟨a.gB, 0, none⟩) m m] 22 (0, 0)),
   (a.gF, intRow s.first), (a.gL, intRow s.last), (a.gP, intRow s.prev), (a.gB, intRow s.best), (a.gD, boolRow s.done)]
structure SM (w0 w : World) (a : SA) (bm fr nn m : Nat) (at_ : Int) (s : Sr) : Prop where
  nx : Nx w0 w
  mem : Mem w (memOf a bm fr nn m at_ s)
  q : QM a.base a.gq w s.q
  lo : ∀ b ∈ [a.bx, a.T, a.bt, a.bb, a.gF, a.gL, a.gP, a.gB, a.gD], w0.heap.size ≤ b ∧ b < a.base ∧ b ≠ a.gq
  lq : w0.heap.size ≤ a.gq
  lF : s.first.length = nn
  lL : s.last.length = nn
  lP : s.prev.length = m
  lB : s.best.length = m
  lD : s.done.length = m
theorem intRow_set (l : List Int) (i : Nat) (v : Int) : (l.map (Value.int .i64)).toArray.setIfInBounds i (.int .i64 v) = ((l.set i v).map (Value.int .i64)).toArray := by
  apply Array.ext'
  simp [List.map_set]
theorem boolRow_set (l : List Bool) (i : Nat) (v : Bool) : (l.map Value.bool).toArray.setIfInBounds i (.bool v) = ((l.set i v).map Value.bool).toArray := by
  apply Array.ext'
  simp [List.map_set]
section
variable {w0 w w' : World} {a : SA} {bm fr nn m : Nat} {at_ : Int} {s : Sr}
theorem SM.blocks (p : Nat × Obj) (hp : p ∈ memOf a bm fr nn m at_ s) : p.1 ∈ [a.bx, a.T, a.bt, a.bb, a.gF, a.gL, a.gP, a.gB, a.gD] := by
  simp only [memOf, List.mem_cons, List.not_mem_nil, or_false] at hp
  rcases hp with rfl | rfl | rfl | rfl | rfl | rfl | rfl | rfl | rfl <;> simp
theorem SM.step (h : SM w0 w a bm fr nn m at_ s) (hn : Nx w w') : SM w0 w' a bm fr nn m at_ s :=
  ⟨h.nx.trans hn, h.mem.nx hn, h.q.nx hn, h.lo, h.lq, h.lF, h.lL, h.lP, h.lB, h.lD⟩
theorem SM.keep (h : SM w0 w a bm fr nn m at_ s) (hk : KeepQ a.base a.gq w w') {q : List Ext} (hq : QM a.base a.gq w' q) : SM w0 w' a bm fr nn m at_ { s with q := q } := by
  refine ⟨?_, h.mem.keep hk (fun p hp => ?_), hq, h.lo, h.lq, h.lF, h.lL, h.lP, h.lB, h.lD⟩
  · refine ⟨hk.1.trans h.nx.os, hk.2.1.trans h.nx.tape, hk.2.2.1.trans h.nx.output, Nat.le_trans h.nx.sz hk.2.2.2.1, fun k hk1 => ?_⟩
    have e1 := h.nx.block k hk1
    have hb := (h.lo a.bx (by simp))
    cases ho : w0.heap[k]? with
    | none => rw [Array.getElem?_eq_none_iff] at ho; omega
    | some o => rw [ho] at e1; exact hk.2.2.2.2 k o e1 (by have := h.lq; omega) (.inl (by omega))
  · have := h.lo p.1 (SM.blocks p hp)
    exact ⟨this.2.1, this.2.2⟩
theorem SM.q_set (h : SM w0 w a bm fr nn m at_ s) {k i : Nat} (hk : k ∈ [a.bx, a.T, a.bt, a.bb, a.gF, a.gL, a.gP, a.gB, a.gD]) (u : Value) : QM a.base a.gq (w.setCell ⟨k, i, none⟩ u) s.q := by
  obtain ⟨v, h1, h2, h3, h4⟩ := h.q
  have hb := h.lo k hk
  refine ⟨v, (Below.heap_setCell w ⟨k, i, none⟩ u a.gq (Ne.symm hb.2.2)).trans h1, World.ownsRow.kept h2 (show w.grownBy (w.setCell ⟨k, i, none⟩ u) (some k) from (Gr.refl k w).setS (.inl rfl) u) (.inr fun e => ?_), h3, by simpa [World.setCell] using h4⟩
  have := own_blk_lt h2 k e
  omega
theorem SM.setB (h : SM w0 w a bm fr nn m at_ s) (i : Nat) (v : Int) : SM w0 (w.setCell ⟨a.gB, i, none⟩ (.int .i64 v)) a bm fr nn m at_ { s with best := s.best.set i v } := by
  refine ⟨h.nx.setCell (h.lo a.gB (by simp)).1 _, ?_, h.q_set (by simp) _, h.lo, h.lq, h.lF, h.lL, h.lP, by simpa using h.lB, h.lD⟩
  have := Mem.set (l1 := [_, _, _, _, _, _, _]) (i := i) (show Mem w ([_, _, _, _, _, _, _] ++ (a.gB, intRow s.best) :: [_]) from h.mem) (.int .i64 v)
  rw [intRow_set] at this
  exact this
theorem SM.setP (h : SM w0 w a bm fr nn m at_ s) (i : Nat) (v : Int) : SM w0 (w.setCell ⟨a.gP, i, none⟩ (.int .i64 v)) a bm fr nn m at_ { s with prev := s.prev.set i v } := by
  refine ⟨h.nx.setCell (h.lo a.gP (by simp)).1 _, ?_, h.q_set (by simp) _, h.lo, h.lq, h.lF, h.lL, by simpa using h.lP, h.lB, h.lD⟩
  have := Mem.set (l1 := [_, _, _, _, _, _]) (i := i) (show Mem w ([_, _, _, _, _, _] ++ (a.gP, intRow s.prev) :: [_, _]) from h.mem) (.int .i64 v)
  rw [intRow_set] at this
  exact this
theorem SM.setF (h : SM w0 w a bm fr nn m at_ s) (i : Nat) (v : Int) : SM w0 (w.setCell ⟨a.gF, i, none⟩ (.int .i64 v)) a bm fr nn m at_ { s with first := s.first.set i v } := by
  refine ⟨h.nx.setCell (h.lo a.gF (by simp)).1 _, ?_, h.q_set (by simp) _, h.lo, h.lq, by simpa using h.lF, h.lL, h.lP, h.lB, h.lD⟩
  have := Mem.set (l1 := [_, _, _, _]) (i := i) (show Mem w ([_, _, _, _] ++ (a.gF, intRow s.first) :: [_, _, _, _]) from h.mem) (.int .i64 v)
  rw [intRow_set] at this
  exact this
theorem SM.setL (h : SM w0 w a bm fr nn m at_ s) (i : Nat) (v : Int) : SM w0 (w.setCell ⟨a.gL, i, none⟩ (.int .i64 v)) a bm fr nn m at_ { s with last := s.last.set i v } := by
  refine ⟨h.nx.setCell (h.lo a.gL (by simp)).1 _, ?_, h.q_set (by simp) _, h.lo, h.lq, h.lF, by simpa using h.lL, h.lP, h.lB, h.lD⟩
  have := Mem.set (l1 := [_, _, _, _, _]) (i := i) (show Mem w ([_, _, _, _, _] ++ (a.gL, intRow s.last) :: [_, _, _]) from h.mem) (.int .i64 v)
  rw [intRow_set] at this
  exact this
theorem SM.setD (h : SM w0 w a bm fr nn m at_ s) (i : Nat) (v : Bool) : SM w0 (w.setCell ⟨a.gD, i, none⟩ (.bool v)) a bm fr nn m at_ { s with done := s.done.set i v } := by
  refine ⟨h.nx.setCell (h.lo a.gD (by simp)).1 _, ?_, h.q_set (by simp) _, h.lo, h.lq, h.lF, h.lL, h.lP, h.lB, by simpa using h.lD⟩
  have := Mem.set (l1 := [_, _, _, _, _, _, _, _]) (i := i) (show Mem w ([_, _, _, _, _, _, _, _] ++ (a.gD, boolRow s.done) :: []) from h.mem) (.bool v)
  rw [boolRow_set] at this
  exact this
theorem intRow_cell {g : Nat} {l : List Int} (h : w.heap[g]? = some (intRow l)) {i : Nat} (hi : i < l.length) : w.cell? ⟨g, i, none⟩ = some (.int .i64 (gi l i)) := by
  refine (cell_of_row w g i _ _ _ h).trans ?_
  rw [← Array.getElem?_toList]
  simp [hi, gi]
theorem boolRow_cell {g : Nat} {l : List Bool} (h : w.heap[g]? = some (boolRow l)) {i : Nat} (hi : i < l.length) : w.cell? ⟨g, i, none⟩ = some (.bool (gb l i)) := by
  refine (cell_of_row w g i _ _ _ h).trans ?_
  rw [← Array.getElem?_toList]
  simp [hi, gb]
theorem SM.hbx (h : SM w0 w a bm fr nn m at_ s) : w.cell? ⟨a.bx, 0, none⟩ = some (.pointer (some ⟨bm, 0, none⟩)) := (cell_of_row w _ 0 _ _ _ (h.mem.2 _ (.head _))).trans rfl
theorem SM.hbt (h : SM w0 w a bm fr nn m at_ s) : w.cell? ⟨a.bt, 0, none⟩ = some (.pointer (some ⟨a.T, 0, none⟩)) := (cell_of_row w _ 0 _ _ _ (h.mem.2 _ (.tail _ (.tail _ (.head _))))).trans rfl
theorem SM.hbb (h : SM w0 w a bm fr nn m at_ s) : w.cell? ⟨a.bb, 0, none⟩ = some (.slice (some ⟨a.gB, 0, none⟩) m m) := (cell_of_row w _ 0 _ _ _ (h.mem.2 _ (.tail _ (.tail _ (.tail _ (.head _)))))).trans rfl
theorem SM.hTb (h : SM w0 w a bm fr nn m at_ s) : w.heap[a.T]? = some (.cells #[.pointer (some ⟨bm, 0, none⟩), .int .i64 (fr : Int), .int .i64 at_, .slice (some ⟨a.gF, 0, none⟩) nn nn, .slice (some ⟨a.gL, 0, none⟩) nn nn, .slice (some ⟨a.gP, 0, none⟩) m m] 159 (0, 0)) := h.mem.2 _ (.tail _ (.head _))
theorem SM.hF (h : SM w0 w a bm fr nn m at_ s) : w.heap[a.gF]? = some (intRow s.first) := h.mem.2 _ (.tail _ (.tail _ (.tail _ (.tail _ (.head _)))))
theorem SM.hL (h : SM w0 w a bm fr nn m at_ s) : w.heap[a.gL]? = some (intRow s.last) := h.mem.2 _ (.tail _ (.tail _ (.tail _ (.tail _ (.tail _ (.head _))))))
theorem SM.hP (h : SM w0 w a bm fr nn m at_ s) : w.heap[a.gP]? = some (intRow s.prev) := h.mem.2 _ (.tail _ (.tail _ (.tail _ (.tail _ (.tail _ (.tail _ (.head _)))))))
theorem SM.hB (h : SM w0 w a bm fr nn m at_ s) : w.heap[a.gB]? = some (intRow s.best) := h.mem.2 _ (.tail _ (.tail _ (.tail _ (.tail _ (.tail _ (.tail _ (.tail _ (.head _))))))))
theorem SM.hD (h : SM w0 w a bm fr nn m at_ s) : w.heap[a.gD]? = some (boolRow s.done) := h.mem.2 _ (.tail _ (.tail _ (.tail _ (.tail _ (.tail _ (.tail _ (.tail _ (.tail _ (.head _)))))))))
end
end Go.Proofs.YtklgknepamebdaaGreatDoor
/- The stream's drives. -/
namespace Go.Proofs.YtklgknepamebdaaGreatDoor
open Go.RowKit

theorem el_SD : ElemOf Tryz.prog 32 9 1 16 := ElemOf.mk' (z := .string ByteArray.empty) Tryz.underlying32 (by kernel_rfl) rfl
theorem idxP_mem {α : Type} (p : α → Bool) : ∀ (l : List α) (j : Nat), (∃ a ∈ l, p a = true) → 0 ≤ idxP p l j
  | [], _, h => by obtain ⟨_, h, _⟩ := h; exact absurd h (by simp)
  | n :: l, j, h => by
    unfold idxP
    split
    · omega
    · rename_i hn
      obtain ⟨a, ha, hp⟩ := h
      rcases List.mem_cons.1 ha with rfl | ha
      · exact absurd hp hn
      · exact idxP_mem p l (j + 1) ⟨a, ha, hp⟩
theorem arcI_mem {rs : List Arc} {s : ByteArray} (h : ∃ a ∈ rs, a.key = s) : 0 ≤ arcI rs s := by
  obtain ⟨a, ha, e⟩ := h
  exact idxP_mem _ rs 0 ⟨a, ha, decide_eq_true e⟩
/-- Some strings in a row of the call's own. -/
def StrDr (s k : Nat) (w : World) (e : Ending) (w' : World) : Prop := ∃ (Z : Option Addr) (cz : Nat) (l : List ByteArray), e = .returned (.slice Z l.length cz) ∧ l.length ≤ 6 ∧ Rd w' w.heap.size Z 1 encS l ∧ Gr s w w' ∧ Str w' s k
end Go.Proofs.YtklgknepamebdaaGreatDoor
/- Strings the other way round. -/
namespace Go.Proofs.YtklgknepamebdaaGreatDoor
open Go.RowKit

/-- The first i and the last i have changed places. -/
def RevI (l zs : List ByteArray) (i : Nat) : Prop := zs.length = l.length ∧ ∀ p, p < l.length → zs.getD p default = if p < i ∨ l.length - i ≤ p then l.getD (l.length - 1 - p) default else l.getD p default
theorem revI_zero (l : List ByteArray) : RevI l l 0 := ⟨rfl, fun p hp => by rw [if_neg (by omega)]⟩
theorem revI_step {l zs : List ByteArray} {i : Nat} (h : RevI l zs i) (hi : i < l.length - 1 - i) : RevI l ((zs.set i (zs.getD (l.length - 1 - i) default)).set (l.length - 1 - i) (zs.getD i default)) (i + 1) := by
  obtain ⟨h1, h2⟩ := h
  refine ⟨by simpa using h1, fun p hp => ?_⟩
  have e1 := h2 i (by omega)
  have e2 := h2 (l.length - 1 - i) (by omega)
  have e3 := h2 p hp
  rw [if_neg (by omega)] at e1 e2
  rw [List.getD_eq_getElem?_getD, List.getElem?_set, List.getElem?_set]
  by_cases a : l.length - 1 - i = p
  · subst a
    rw [if_pos rfl, if_pos (by simp; omega), if_pos (by omega), e1]
    show l.getD i default = _
    congr 1; omega
  · rw [if_neg a]
    by_cases b : i = p
    · subst b
      rw [if_pos rfl, if_pos (by omega), if_pos (by omega), e2]
      rfl
    · rw [if_neg b, ← List.getD_eq_getElem?_getD, e3]
      by_cases c : p < i ∨ l.length - i ≤ p
      · rw [if_pos c, if_pos (by omega)]
      · rw [if_neg c, if_neg (by omega)]
theorem revI_end {l zs : List ByteArray} {i : Nat} (h : RevI l zs i) (hi : ¬ i < l.length - 1 - i) : zs = l.reverse := by
  obtain ⟨h1, h2⟩ := h
  apply List.ext_getElem (by simpa using h1)
  intro p hp1 hp2
  have hp : p < l.length := by omega
  have e := h2 p hp
  rw [List.getD_eq_getElem?_getD, List.getElem?_eq_getElem hp1] at e
  have e : zs[p] = _ := e
  rw [e, List.getElem_reverse]
  by_cases c : p < i ∨ l.length - i ≤ p
  · rw [if_pos c, List.getD_eq_getElem?_getD, List.getElem?_eq_getElem (by omega)]; rfl
  · rw [if_neg c, List.getD_eq_getElem?_getD, List.getElem?_eq_getElem hp]
    show l[p] = _
    congr 1; omega
set_option maxRecDepth 100000 in
set_option maxHeartbeats 4000000 in
theorem w_RevS (base : Nat) (v : Value) (l : List ByteArray) (w : World) (hown : w.ownsRow base 9 1 v l.length (l.flatMap encS)) (hl : l.length ≤ 65536) :
    Calls Tryz.prog 147 #[v] w fun e w' => e = .returned (.tuple #[]) ∧ w'.ownsRow base 9 1 v l.length (l.reverse.flatMap encS) ∧ w.grownBy w' v.ownBlock := by
  by_cases h0 : l.length = 0
  · have hb : l = [] := List.eq_nil_of_length_eq_zero h0
    subst hb
    have HO := hide hown
    obtain ⟨A, c, rfl, _, _⟩ := Rd.of_own encS_len rfl hown
    clear hown h0
    go_enter Tryz.func147, Tryz.ntmps147
    go_wp2_with fail
    refine wp_loop_rounds 1 ?_
    rw [rounds_succ]
    go_wp2_with fail
    go_end0
    exact ⟨rfl, HO.out, World.grownBy.refl _ _⟩
  · obtain ⟨g, cap, rfl⟩ : ∃ g cap, v = .slice (some ⟨g, 0, none⟩) l.length cap := by
      rcases hown.2 with ⟨_, h⟩ | ⟨g, cap, cur, e, _⟩
      · exact absurd h h0
      · exact ⟨g, cap, e⟩
    have HR0 := hide (revI_zero l)
    have HRS := hide (fun zs i => @revI_step l zs i)
    have HRE := hide (fun zs i => @revI_end l zs i)
    generalize hn : l.length = n at *
    have HO := hide hown
    have HN := hide hn
    clear hown hn
    have n1 : IntKind.i64.wrap ((n : Int) - 1) = ((n - 1 : Nat) : Int) := by rw [IntWalk.i64_in _ (by omega)]; omega
    go_enter Tryz.func147, Tryz.ntmps147
    go_wp2_with fail
    go_loopw [2, 3] (fun vi vj wr => ∃ (i j : Nat) (zs : List ByteArray), vi = .int .i64 i ∧ vj = .int .i64 j ∧ i + j = n - 1 ∧ i ≤ n - 1 ∧ RevI l zs i ∧ wr.ownsRow base 9 1 (.slice (some ⟨g, 0, none⟩) n cap) n (zs.flatMap encS) ∧ Gr g w wr) (fun vi vj _ => (intOf vj).toNat - (intOf vi).toNat)
    case atStart => exact ⟨0, n - 1, l, rfl, rfl, by omega, by omega, HR0.out, HO.out, Gr.refl _ _⟩
    case round =>
      obtain ⟨i, j, zs, rfl, rfl, hj, hin, hz, hown, hgr⟩ := hrel
      have HZ := hide hz
      have HZL := hide hz.1
      clear hz
      by_cases hlt : i < j
      · have hi : i < zs.length := by have := HZL.out; have := HN.out; omega
        have hj' : j < zs.length := by have := HZL.out; have := HN.out; omega
        have hzn : zs.length = n := by have := HZL.out; have := HN.out; omega
        have c0 : wr.cell? ⟨g, i, none⟩ = some (.string zs[i]) := by have := own_cell encS_len hzn hown i hi 0 _ rfl; simpa using this
        have c2 : wr.cell? ⟨g, j, none⟩ = some (.string zs[j]) := by have := own_cell encS_len hzn hown j hj' 0 _ rfl; simpa using this
        have f0 := hown.frozenAt i
        have f2 := hown.frozenAt j
        have HOW := hide hown
        have hi2 : (i : Int) < (n : Int) := by omega
        have hj2 : (j : Int) < (n : Int) := by omega
        have hi0 : (0 : Int) ≤ (i : Int) := by omega
        have hj0 : (0 : Int) ≤ (j : Int) := by omega
        have HST := hide (show RevI l ((zs.set i zs[j]).set j zs[i]) (i + 1) by
          have h := HRS.out zs i HZ.out (by omega)
          have hj : j = n - 1 - i := by omega
          rw [← hj, List.getD_eq_getElem?_getD, List.getElem?_eq_getElem hj', List.getD_eq_getElem?_getD, List.getElem?_eq_getElem hi] at h
          exact h)
        have HIL := hide hi
        have HJL := hide hj'
        have HZN := hide hzn
        generalize zs[i] = x at *
        generalize zs[j] = y at *
        clear hown hi hj' hzn
        go_wp2_with fail
        go_region_with (fail)
        all_goals
          go_wp2_with fail
          first
            | (have o1 := own_set encS_len HZN.out HOW.out i HIL.out 0 (by omega) (.string y) y rfl i (by omega)
               have o2 := own_set encS_len (by simpa using HZN.out) o1 j (by simpa using HJL.out) 0 (by omega) (.string x) x (by simp [encS]) j (by omega)
               go_roundw
               case rel => exact ⟨i + 1, j - 1, _, by go_num, by (congr 1; omega), by omega, by omega, HST.out, o2, ((hgr.setS (p := ⟨g, i, none⟩) (.inl rfl) _).setS (p := ⟨g, j, none⟩) (.inl rfl) _).drew⟩
               case measure => simp [intOf]; omega)
            | (have o1 := own_set encS_len HZN.out HOW.out j HJL.out 0 (by omega) (.string x) x rfl j (by omega)
               have o2 := own_set encS_len (by simpa using HZN.out) o1 i (by simpa using HIL.out) 0 (by omega) (.string y) y (by simp [encS]) i (by omega)
               go_roundw
               case rel => exact ⟨i + 1, j - 1, (zs.set j x).set i y, by go_num, by (congr 1; omega), by omega, by omega, by rw [List.set_comm _ _ (by omega : j ≠ i)]; exact HST.out, o2, ((hgr.setS (p := ⟨g, j, none⟩) (.inl rfl) _).setS (p := ⟨g, i, none⟩) (.inl rfl) _).drew⟩
               case measure => simp [intOf]; omega)
      · have HE := hide (HRE.out zs i HZ.out (by omega))
        go_wp2_with fail
        go_end0
        exact ⟨rfl, by rw [← HE.out]; exact hown, hgr⟩
end Go.Proofs.YtklgknepamebdaaGreatDoor
/- The way out of a search's tree. -/
namespace Go.Proofs.YtklgknepamebdaaGreatDoor
open Go.RowKit

/-- A tree, read. -/
structure TreeR (w : World) (a : SA) (bm fr nn m : Nat) (ad : Int) (s : Sr) : Prop where
  hT : w.heap[a.T]? = some (.cells #[.pointer (some ⟨bm, 0, none⟩), .int .i64 (fr : Int), .int .i64 ad, .slice (some ⟨a.gF, 0, none⟩) nn nn, .slice (some ⟨a.gL, 0, none⟩) nn nn, .slice (some ⟨a.gP, 0, none⟩) m m] 159 (0, 0))
  hF : w.heap[a.gF]? = some (intRow s.first)
  hL : w.heap[a.gL]? = some (intRow s.last)
  hP : w.heap[a.gP]? = some (intRow s.prev)
  lF : s.first.length = nn
  lL : s.last.length = nn
  lP : s.prev.length = m
theorem TreeR.nx {w w' : World} {a : SA} {bm fr nn m : Nat} {ad : Int} {s : Sr} (h : TreeR w a bm fr nn m ad s) (hn : Nx w w') : TreeR w' a bm fr nn m ad s :=
  ⟨(hn.block _ (lt_of_heap h.hT)).trans h.hT, (hn.block _ (lt_of_heap h.hF)).trans h.hF, (hn.block _ (lt_of_heap h.hL)).trans h.hL, (hn.block _ (lt_of_heap h.hP)).trans h.hP, h.lF, h.lL, h.lP⟩
theorem SM.tree {w0 w : World} {a : SA} {bm fr nn m : Nat} {ad : Int} {s : Sr} (h : SM w0 w a bm fr nn m ad s) : TreeR w a bm fr nn m ad s := ⟨h.hTb, h.hF, h.hL, h.hP, h.lF, h.lL, h.lP⟩
abbrev GrO (wr wx : World) (ex : Nat) (own : Option Nat) : Prop := KpA wr own ex wx
set_option maxRecDepth 100000 in
set_option maxHeartbeats 4000000 in
theorem w_WayNo (w : World) (a : SA) (bm fr nn m b : Nat) (ad : Int) (s : Sr) (hT : TreeR w a bm fr nn m ad s) (hb : b < nn) (hf : gi s.first b < 0) :
    Calls Tryz.prog 85 #[.pointer (some ⟨a.T, 0, none⟩), .int .i64 (b : Int)] w fun e w' => e = .returned (.tuple #[.agg #[.slice none 0 0, .int .i64 0, .int .i64 0], .bool false]) ∧ Nx w w' := by
  have t3 : w.cell? ⟨a.T, 3, none⟩ = some (.slice (some ⟨a.gF, 0, none⟩) nn nn) := (cell_of_row w _ 3 _ _ _ hT.hT).trans rfl
  have x0 := intRow_cell hT.hF (i := b) (by rw [hT.lF]; exact hb)
  have hTl := lt_of_heap hT.hT
  have hFl := lt_of_heap hT.hF
  have i1 : (0 : Int) ≤ (b : Int) := by omega
  have i2 : (b : Int) < (nn : Int) := by omega
  have tf : decide (gi s.first b < 0) = true := decide_eq_true hf
  generalize gi s.first b = z at *
  clear hT
  go_enter Tryz.func85, Tryz.ntmps85
  go_wp2_with fail
  exact bodyPost_ret (v := .tuple #[.agg #[.slice none 0 0, .int .i64 0, .int .i64 0], .bool false]) (by simp [results, Tryz.results85, go_sem]) rfl ⟨rfl, (Nx.refl w).alloc _⟩
def WayOut (w : World) (ad f : Int) (keys : List ByteArray) (e : Ending) (w' : World) : Prop := ∃ (Z : Option Addr) (c : Nat), e = .returned (.tuple #[.agg #[.slice Z keys.length c, .int .i64 ad, .int .i64 f], .bool true]) ∧ Rd w' w.heap.size Z 1 encS keys ∧ Nx w w'
set_option maxRecDepth 100000 in
set_option maxHeartbeats 4000000 in
theorem w_WayYes (w : World) (a : SA) (bm g0 lo fr nn b : Nat) (ad : Int) (s : Sr) (A B C : Option Addr) (ca cb cc : Nat) (M : MapA) (ns : List Node) (rs : List Arc) (bs : List Ban) (l : List Nat) (hT : TreeR w a bm fr nn rs.length ad s) (hM : MapR w bm g0 lo A B C ca cb cc M ns rs bs) (hb : b < nn) (hf : 0 ≤ gi s.first b) (hch : Chain rs.length s.prev (gi s.last b) l) (hll : l.length ≤ 400) :
    Calls Tryz.prog 85 #[.pointer (some ⟨a.T, 0, none⟩), .int .i64 (b : Int)] w (WayOut w ad (gi s.first b) (keysOf rs l.reverse)) := by
  have t2 : w.cell? ⟨a.T, 2, none⟩ = some (.int .i64 ad) := (cell_of_row w _ 2 _ _ _ hT.hT).trans rfl
  have t3 : w.cell? ⟨a.T, 3, none⟩ = some (.slice (some ⟨a.gF, 0, none⟩) nn nn) := (cell_of_row w _ 3 _ _ _ hT.hT).trans rfl
  have x0 := intRow_cell hT.hF (i := b) (by rw [hT.lF]; exact hb)
  have hTl := lt_of_heap hT.hT
  have hFl := lt_of_heap hT.hF
  have i1 : (0 : Int) ≤ (b : Int) := by omega
  have i2 : (b : Int) < (nn : Int) := by omega
  have tf : decide (gi s.first b < 0) = false := decide_eq_false (by omega)
  have HT := hide hT
  have HM := hide hM
  have HCH := hide hch
  generalize gi s.first b = z at *
  clear hT hM hch
  go_enter Tryz.func85, Tryz.ntmps85
  go_upto_region 3 with fail
  obtain ⟨wA, hwA⟩ : ∃ wA, wA = w.alloc (.cells #[.slice none 0 0, .int .i64 0, .int .i64 0] 62) := ⟨_, rfl⟩
  have hnA : Nx w wA := hwA ▸ (Nx.refl w).alloc _
  have HELD := hide (fun W (hx : Nx wA W) => (⟨nx_cell (hnA.trans hx) hTl t2, nx_cell (hnA.trans hx) hTl t3, nx_cell (hnA.trans hx) hFl x0⟩ : W.cell? ⟨a.T, 2, none⟩ = some (.int .i64 ad) ∧ W.cell? ⟨a.T, 3, none⟩ = some (.slice (some ⟨a.gF, 0, none⟩) nn nn) ∧ W.cell? ⟨a.gF, b, none⟩ = some (.int .i64 z)))
  rw [← hwA]
  have HWA := hide hwA
  clear hwA t2 t3 x0
  go_cut [6] (fun v wx => v = .pointer (some ⟨wA.heap.size, 0, none⟩) ∧ wx.heap[wA.heap.size]? = some (.cells #[.slice none 0 0, .int .i64 ad, .int .i64 z] 62 (0, 0)) ∧ Nx wA wx)
  case first =>
    refine wp_region_held_drew (S := fun w' => w'.cell? ⟨a.T, 2, none⟩ = some (.int .i64 ad) ∧ w'.cell? ⟨a.T, 3, none⟩ = some (.slice (some ⟨a.gF, 0, none⟩) nn nn) ∧ w'.cell? ⟨a.gF, b, none⟩ = some (.int .i64 z)) (by kernel_rfl) ?_ (fun hHeld => ?_)
    · exact HELD.out _ (Nx.refl _).drew
    refine wpAnyH_take (i := 0) (oi := ⟨some 17, _, _, _, _, _⟩) (v := ?_) rfl (by kernel_rfl) (by kernel_rfl) (by kernel_rfl) (fun _ _ _ h => h) (Or.inl ⟨by rfl, ?_⟩) (by assumption) ?_
    rotate_left 1
    · intro w hSw
      (try dsimp only at hSw)
      go_simp
      try with_reducible rfl
    try simp only [Act.put, List.setIfInBounds_toArray, List.set_cons_zero, List.set_cons_succ]
    refine wpAnyH_take (i := 1) (oi := ⟨some 18, _, _, _, _, _⟩) (v := ?_) rfl (by kernel_rfl) (by kernel_rfl) (by kernel_rfl) (fun _ _ _ h => h) (Or.inl ⟨by rfl, ?_⟩) (by assumption) ?_
    rotate_left 1
    · intro w hSw
      (try dsimp only at hSw)
      go_simp
      try with_reducible rfl
    try simp only [Act.put, List.setIfInBounds_toArray, List.set_cons_zero, List.set_cons_succ]
    refine wpAnyH_take (i := 2) (oi := ⟨some 19, _, _, _, _, _⟩) (v := ?_) rfl (by kernel_rfl) (by kernel_rfl) (by kernel_rfl) (fun _ _ _ h => h) (Or.inl ⟨by rfl, ?_⟩) (by assumption) ?_
    rotate_left 1
    · intro w hSw
      (try dsimp only at hSw)
      go_simp
      try with_reducible rfl
    try simp only [Act.put, List.setIfInBounds_toArray, List.set_cons_zero, List.set_cons_succ]
    refine wpAnyH_take (i := 3) (oi := ⟨some 20, _, _, _, _, _⟩) (v := ?_) rfl (by kernel_rfl) (by kernel_rfl) (by kernel_rfl) (fun _ _ _ h => h) (Or.inl ⟨by rfl, ?_⟩) (by assumption) ?_
    rotate_left 1
    · intro w hSw
      (try dsimp only at hSw)
      go_simp
      try with_reducible rfl
    try simp only [Act.put, List.setIfInBounds_toArray, List.set_cons_zero, List.set_cons_succ]
    refine wpAnyH_take (i := 4) (oi := ⟨some 21, _, _, _, _, _⟩) (v := ?_) rfl (by kernel_rfl) (by kernel_rfl) (by kernel_rfl) (fun _ _ _ h => h) (Or.inl ⟨by rfl, ?_⟩) (by assumption) ?_
    rotate_left 1
    · intro w hSw
      (try dsimp only at hSw)
      go_simp
      try with_reducible rfl
    try simp only [Act.put, List.setIfInBounds_toArray, List.set_cons_zero, List.set_cons_succ]
    refine wpAnyH_take (i := 5) (oi := ⟨some 22, _, _, _, _, _⟩) (v := ?_) rfl (by kernel_rfl) (by kernel_rfl) (by kernel_rfl) (fun _ _ _ h => h) (Or.inl ⟨by rfl, ?_⟩) (by assumption) ?_
    rotate_left 1
    · intro w hSw
      (try dsimp only at hSw)
      go_simp
      try with_reducible rfl
    try simp only [Act.put, List.setIfInBounds_toArray, List.set_cons_zero, List.set_cons_succ]
    refine wpAnyH_take (i := 6) (oi := ⟨some 23, _, _, _, _, _⟩) (v := ?_) rfl (by kernel_rfl) (by kernel_rfl) (by kernel_rfl) (fun _ _ _ h => h) (Or.inl ⟨by rfl, ?_⟩) (by assumption) ?_
    rotate_left 1
    · intro w hSw
      (try dsimp only at hSw)
      go_simp
      try with_reducible rfl
    try simp only [Act.put, List.setIfInBounds_toArray, List.set_cons_zero, List.set_cons_succ]
    refine wpAnyH_take (i := 7) (oi := ⟨some 24, _, _, _, _, _⟩) (v := ?_) rfl (by kernel_rfl) (by kernel_rfl) (by kernel_rfl) (fun _ _ _ h => h) (Or.inl ⟨by rfl, ?_⟩) (by assumption) ?_
    rotate_left 1
    · intro w hSw
      (try dsimp only at hSw)
      go_simp
      try with_reducible rfl
    try simp only [Act.put, List.setIfInBounds_toArray, List.set_cons_zero, List.set_cons_succ]
    refine wpAnyH_take (i := 8) (oi := ⟨some 25, _, _, _, _, _⟩) (v := ?_) rfl (by kernel_rfl) (by kernel_rfl) (by kernel_rfl) (fun _ _ _ h => h) (Or.inl ⟨by rfl, ?_⟩) (by assumption) ?_
    rotate_left 1
    · intro w hSw
      (try dsimp only at hSw)
      go_simp
      try with_reducible rfl
    try simp only [Act.put, List.setIfInBounds_toArray, List.set_cons_zero, List.set_cons_succ]
    refine wpAnyH_take (i := 9) (oi := ⟨some 26, _, _, _, _, _⟩) (v := ?_) rfl (by kernel_rfl) (by kernel_rfl) (by kernel_rfl) (fun _ _ _ h => h) (Or.inl ⟨by rfl, ?_⟩) (by assumption) ?_
    rotate_left 1
    · intro w hSw
      (try dsimp only at hSw)
      go_simp
      try with_reducible rfl
    try simp only [Act.put, List.setIfInBounds_toArray, List.set_cons_zero, List.set_cons_succ]
    refine wpAnyH_take (i := 10) (oi := ⟨some 27, _, _, _, _, _⟩) (v := ?_) rfl (by kernel_rfl) (by kernel_rfl) (by kernel_rfl) (fun _ _ _ h => h) (Or.inl ⟨by rfl, ?_⟩) (by assumption) ?_
    rotate_left 1
    · intro w hSw
      (try dsimp only at hSw)
      go_simp
      try with_reducible rfl
    try simp only [Act.put, List.setIfInBounds_toArray, List.set_cons_zero, List.set_cons_succ]
    refine wpAnyH_take (i := 11) (oi := ⟨some 28, _, _, _, _, _⟩) (v := ?_) rfl (by kernel_rfl) (by kernel_rfl) (by kernel_rfl) (fun _ _ _ h => h) (Or.inl ⟨by rfl, ?_⟩) (by assumption) ?_
    rotate_left 1
    · intro w hSw
      (try dsimp only at hSw)
      go_simp
      try with_reducible rfl
    try simp only [Act.put, List.setIfInBounds_toArray, List.set_cons_zero, List.set_cons_succ]
    refine wpAnyH_ready (rs := [12]) (by kernel_rfl) (by simp) ?_
    refine AllReadyH.cons rfl (fun K hK => ?_) ?_
    · go_simp
      refine hK.out _ _ (HELD.out _ (by repeat (first | with_reducible exact Nx.refl _ | with_reducible refine Nx.drew ?_ | with_reducible refine Nx.alloc ?_ _ | (with_reducible refine Nx.setCell ?_ (by simp) _)))) (fun hHeld => ?_)
      clear hK K
      try simp only [Act.put, List.setIfInBounds_toArray, List.set_cons_zero, List.set_cons_succ]
      refine wpAnyH_ready (rs := [13]) (by kernel_rfl) (by simp) ?_
      refine AllReadyH.cons rfl (fun K hK => ?_) ?_
      · go_simp
        refine hK.out _ _ (HELD.out _ (by repeat (first | with_reducible exact Nx.refl _ | with_reducible refine Nx.drew ?_ | with_reducible refine Nx.alloc ?_ _ | (with_reducible refine Nx.setCell ?_ (by simp) _)))) (fun hHeld => ?_)
        clear hK K
        try simp only [Act.put, List.setIfInBounds_toArray, List.set_cons_zero, List.set_cons_succ]
        refine wpAnyH_done (by kernel_rfl) ?_ _
        go_wp2
        go_meet
        exact ⟨rfl, hnew rfl, ((Nx.refl _).alloc _).drew⟩
      · exact AllReadyH.nil
    · exact AllReadyH.nil
  case rest =>
    obtain ⟨rfl, hbx, hx⟩ := hcut
    have hnc := hnA.trans hx
    have hexl : wA.heap.size < wc.heap.size := lt_of_heap hbx
    have hexw : w.heap.size ≤ wA.heap.size := hnA.sz
    have HBX0 := hide hbx
    have HHX := hide hx
    clear hbx hx
    generalize hexq : wA.heap.size = ex at *
    have HEXQ := hide hexq
    clear hexq
    have t4 : wc.cell? ⟨a.T, 4, none⟩ = some (.slice (some ⟨a.gL, 0, none⟩) nn nn) := (cell_of_row wc _ 4 _ _ _ (HT.out.nx hnc).hT).trans rfl
    have x1 := intRow_cell (HT.out.nx hnc).hL (i := b) (by rw [HT.out.lL]; exact hb)
    generalize gi s.last b = z1 at *
    obtain ⟨bz, hbz⟩ : ∃ bz, bz = wc.heap.size := ⟨_, rfl⟩
    have hexl' : ex < bz := by omega
    have hro : wc.ownsRow bz 9 1 (.slice none 0 0) ([] : List ByteArray).length (([] : List ByteArray).flatMap encS) := World.ownsRow_nil _ _ _ _
    have HRO := hide hro
    clear hro HELD tf
    have hal := HM.out.box.al
    go_wp2_with fail
    clear t4 x1
    go_loopg [7] l.length (fun f v wr => ∃ (k : Int) (rest : List Nat) (acc : List ByteArray) (vr : Value), v = .int .i64 k ∧ Chain rs.length s.prev k rest ∧ keysOf rs l = acc ++ keysOf rs rest ∧ acc.length + rest.length = l.length ∧ rest.length ≤ f ∧ wr.heap[ex]? = some (.cells #[vr, .int .i64 ad, .int .i64 z] 62 (0, 0)) ∧ wr.ownsRow bz 9 1 vr acc.length (acc.flatMap encS) ∧ Gr ex wc wr)
    case atStart => exact ⟨z1, l, [], .slice none 0 0, rfl, HCH.out, rfl, by simp, Nat.le_refl _, HBX0.out, HRO.out, Gr.refl _ _⟩
    case round =>
      clear HBX0 HRO HCH
      obtain ⟨k, rest, acc, vr, rfl, hch, hkeys, hlen, hfl, hbx, hrow, hgr⟩ := hrel
      have HBX := hide hbx
      have HROW := hide hrow
      have HGR := hide hgr
      have HKEYS := hide hkeys
      have HLEN := hide hlen
      have hnw : Nx w wr := Nx.of_gr ((Gr.of_nx hnc).trans hgr) hexw
      have hsz := hgr.sz
      clear hkeys hrow hbx
      cases hch with
      | nil =>
        obtain ⟨Z, cz, rfl, _, _⟩ := Rd.of_own encS_len rfl HROW.out
        have hky : keysOf rs l = acc := by rw [HKEYS.out]; simp [keysOf]
        have HKY := hide hky
        clear hky
        have x4 : wr.cell? ⟨ex, 0, none⟩ = some (.slice Z acc.length cz) := (cell_of_row wr _ 0 _ _ _ HBX.out).trans rfl
        have hal2 : acc.length ≤ 65536 := by have := HLEN.out; simp at this; omega
        have hlo := own_blk_lt HROW.out
        have HLO := hide hlo
        have tk : decide ((0 : Int) ≤ (-1 : Int)) = false := by decide
        clear hlo
        have HK := hide (w_RevS bz _ acc wr HROW.out hal2)
        have hr4 : wr.heap[w.heap.size]? = some (.cells #[.slice none 0 0, .int .i64 0, .int .i64 0] 62 (0, 0)) := by
          have h0 : wA.heap[w.heap.size]? = some (.cells #[.slice none 0 0, .int .i64 0, .int .i64 0] 62 (0, 0)) := by rw [HWA.out]; exact hnew rfl
          have hwA : w.heap.size < wA.heap.size := lt_of_heap h0
          exact (HGR.out.block _ (lt_of_heap ((HHX.out.block _ hwA).trans h0)) (fun e => by have := HEXQ.out; injection e with e; omega)).trans ((HHX.out.block _ hwA).trans h0)
        have HR4 := hide hr4
        have hne4 : w.heap.size ≠ ex := by
          have h0 : w.heap.size < wA.heap.size := by rw [HWA.out]; simp
          have := HEXQ.out
          omega
        go_wp2_with fail
        refine (HK.out).mono ?_
        rintro e w' ⟨rfl, hown, hg⟩
        have b7 : w'.heap[ex]? = some (.cells #[.slice Z acc.length cz, .int .i64 ad, .int .i64 z] 62 (0, 0)) := (hg.block ex (by have := lt_of_heap HBX.out; omega) (fun e => by have := HLO.out _ e.symm; omega)).trans HBX.out
        have b4 : w'.heap[w.heap.size]? = some (.cells #[.slice none 0 0, .int .i64 0, .int .i64 0] 62 (0, 0)) := (hg.block _ (lt_of_heap HR4.out) (fun e => by have := HLO.out _ e.symm; omega)).trans HR4.out
        have HOWN := hide hown
        have HG := hide hg
        clear hown hg hr4 x4
        have y0 : w'.cell? ⟨ex, 0, none⟩ = some (.slice Z acc.length cz) := (cell_of_row w' _ 0 _ _ _ b7).trans rfl
        have y1 : w'.cell? ⟨ex, 1, none⟩ = some (.int .i64 ad) := (cell_of_row w' _ 1 _ _ _ b7).trans rfl
        have y2 : w'.cell? ⟨ex, 2, none⟩ = some (.int .i64 z) := (cell_of_row w' _ 2 _ _ _ b7).trans rfl
        have p0 : w'.cell? ⟨w.heap.size, 0, none⟩ = some (.slice none 0 0) := (cell_of_row w' _ 0 _ _ _ b4).trans rfl
        have p1 : w'.cell? ⟨w.heap.size, 1, none⟩ = some (.int .i64 0) := (cell_of_row w' _ 1 _ _ _ b4).trans rfl
        have p2 : w'.cell? ⟨w.heap.size, 2, none⟩ = some (.int .i64 0) := (cell_of_row w' _ 2 _ _ _ b4).trans rfl
        have f0 := frozen_blkQ (j := 0) b4
        have f1 := frozen_blkQ (j := 1) b4
        have f2 := frozen_blkQ (j := 2) b4
        go_wp2_with fail
        have hk : keysOf rs l.reverse = acc.reverse := by rw [← HKY.out]; simp [keysOf, List.map_reverse]
        have hGw : Gr ex wc w' := HGR.out.grown HG.out (fun k hk => .inr (by have := HLO.out k hk; omega))
        have hnw' : Nx w w' := Nx.of_gr ((Gr.of_nx hnc).trans hGw) hexw
        have s1 := Gr.setS (Gr.refl w.heap.size w') (p := ⟨w.heap.size, 0, none⟩) (Or.inl rfl) (.slice Z acc.length cz)
        have s2 := Gr.setS s1 (p := ⟨w.heap.size, 1, none⟩) (Or.inl rfl) (.int .i64 ad)
        have hg3 := Gr.setS s2 (p := ⟨w.heap.size, 2, none⟩) (Or.inl rfl) (.int .i64 z)
        have hW := Nx.of_gr ((Gr.of_nx (s := w.heap.size) hnw').trans hg3) (Nat.le_refl _)
        have hO2 := World.ownsRow.mono (base' := w.heap.size) (World.ownsRow.kept HOWN.out hg3 (.inr (fun e => by have := HLO.out _ e; omega))) (by omega)
        obtain ⟨Z2, c2, e2, rd2, _⟩ := Rd.of_own encS_len (by simp) hO2
        injection e2 with e2 e3 e4
        subst e2
        exact bodyPost_ret (v := .tuple #[.agg #[.slice Z acc.length cz, .int .i64 ad, .int .i64 z], .bool true]) (by simp [results, Tryz.results85, go_sem, p0, p1, p2]) rfl ⟨Z, cz, by rw [hk]; simp, hk ▸ rd2, hW⟩
      | cons kk rest' hkk hch' =>
        have HC2 := hide hch'
        have hMw := HM.out.nx hnw
        obtain ⟨bA, oA, eB, _, hbA, _, hc⟩ := HM.out.box.hA.1.open_ hnw (by omega)
        have hky : wr.cell? ⟨bA, oA + kk * 5, none⟩ = some (.string (arcX rs kk).key) := by rw [arcX_get hkk]; exact hc kk hkk 0 _ rfl
        have t0 : wr.cell? ⟨a.T, 0, none⟩ = some (.pointer (some ⟨bm, 0, none⟩)) := (cell_of_row wr _ 0 _ _ _ (HT.out.nx hnw).hT).trans rfl
        have c0 := hMw.c0
        have g1 : wr.cell? ⟨g0, 1, none⟩ = some (.slice (some ⟨bA, oA, none⟩) rs.length cb) := by rw [hMw.box.g1, eB]
        have hlT := lt_of_heap HT.out.hT
        have hlb := HM.out.lt
        have hlg := HM.out.box.gl
        have hlo := own_blk_lt HROW.out
        have HS7 := hide (fun W (hk : KpA wr vr.ownBlock ex W) => (⟨hk.cell (by omega) t0 (fun e => by have := hlo _ e.symm; omega) (by omega), hk.cell (by omega) c0 (fun e => by have := hlo _ e.symm; omega) (by omega), hk.cell (by omega) g1 (fun e => by have := hlo _ e.symm; omega) (by omega), hk.cell (by omega) hky (fun e => by have := hlo _ e.symm; omega) (by omega)⟩ : W.cell? ⟨a.T, 0, none⟩ = some (.pointer (some ⟨bm, 0, none⟩)) ∧ W.cell? ⟨bm, 0, none⟩ = some (.pointer (some ⟨g0, 0, none⟩)) ∧ W.cell? ⟨g0, 1, none⟩ = some (.slice (some ⟨bA, oA, none⟩) rs.length cb) ∧ W.cell? ⟨bA, oA + kk * 5, none⟩ = some (.string (arcX rs kk).key)))
        have HLO := hide hlo
        have x4 : wr.cell? ⟨ex, 0, none⟩ = some vr := (cell_of_row wr _ 0 _ _ _ HBX.out).trans rfl
        have x4A : ∀ o, (wr.alloc o).cell? ⟨ex, 0, none⟩ = some vr := fun o => nx_cell ((Nx.refl wr).alloc o) (lt_of_heap HBX.out) x4
        have j1 : (0 : Int) ≤ (kk : Int) := by omega
        have j2 : (kk : Int) < (rs.length : Int) := by omega
        have hal2 : acc.length ≤ 400 := by have := HLEN.out; omega
        have hexl2 := lt_of_heap HBX.out
        obtain ⟨iS, zS, q1, q2, q3, q4, q5⟩ := el_SD.hi
        have E1 := hide q1
        have E2 := hide q2
        have E3 := hide q3
        have E4 := hide q4
        have E5 := hide q5
        have HKL := hide (show keysOf rs (kk :: rest') = (arcX rs kk).key :: keysOf rs rest' from rfl)
        have tk : decide ((0 : Int) ≤ (kk : Int)) = true := decide_eq_true j1
        clear q1 q2 q3 q4 q5 hc hlo hMw
        generalize (arcX rs kk).key = ky at *
        go_wp2_with fail
        refine wp_region_held_drew (S := fun w' => w'.cell? ⟨a.T, 0, none⟩ = some (.pointer (some ⟨bm, 0, none⟩)) ∧ w'.cell? ⟨bm, 0, none⟩ = some (.pointer (some ⟨g0, 0, none⟩)) ∧ w'.cell? ⟨g0, 1, none⟩ = some (.slice (some ⟨bA, oA, none⟩) rs.length cb) ∧ w'.cell? ⟨bA, oA + kk * 5, none⟩ = some (.string ky)) (by kernel_rfl) ?_ (fun hHeld => ?_)
        · exact HS7.out _ (KpA.nx (Nx.refl _).drew)
        refine wpAnyH_take (i := 0) (oi := ⟨some 45, _, _, _, _, _⟩) (v := ?_) rfl (by kernel_rfl) (by kernel_rfl) (by kernel_rfl) (fun _ _ _ h => h) (Or.inl ⟨by rfl, ?_⟩) (by assumption) ?_
        rotate_left 1
        · intro w hSw
          (try dsimp only at hSw)
          go_simp
          try with_reducible rfl
        try simp only [Act.put, List.setIfInBounds_toArray, List.set_cons_zero, List.set_cons_succ]
        refine wpAnyH_take (i := 2) (oi := ⟨some 47, _, _, _, _, _⟩) (v := ?_) rfl (by kernel_rfl) (by kernel_rfl) (by kernel_rfl) (fun _ _ _ h => h) (Or.inl ⟨by rfl, ?_⟩) (by assumption) ?_
        rotate_left 1
        · intro w hSw
          (try dsimp only at hSw)
          go_simp
          try with_reducible rfl
        try simp only [Act.put, List.setIfInBounds_toArray, List.set_cons_zero, List.set_cons_succ]
        refine wpAnyH_take (i := 3) (oi := ⟨some 48, _, _, _, _, _⟩) (v := ?_) rfl (by kernel_rfl) (by kernel_rfl) (by kernel_rfl) (fun _ _ _ h => h) (Or.inl ⟨by rfl, ?_⟩) (by assumption) ?_
        rotate_left 1
        · intro w hSw
          (try dsimp only at hSw)
          go_simp
          try with_reducible rfl
        try simp only [Act.put, List.setIfInBounds_toArray, List.set_cons_zero, List.set_cons_succ]
        refine wpAnyH_take (i := 4) (oi := ⟨some 49, _, _, _, _, _⟩) (v := ?_) rfl (by kernel_rfl) (by kernel_rfl) (by kernel_rfl) (fun _ _ _ h => h) (Or.inl ⟨by rfl, ?_⟩) (by assumption) ?_
        rotate_left 1
        · intro w hSw
          (try dsimp only at hSw)
          go_simp
          try with_reducible rfl
        try simp only [Act.put, List.setIfInBounds_toArray, List.set_cons_zero, List.set_cons_succ]
        refine wpAnyH_take (i := 5) (oi := ⟨some 50, _, _, _, _, _⟩) (v := ?_) rfl (by kernel_rfl) (by kernel_rfl) (by kernel_rfl) (fun _ _ _ h => h) (Or.inl ⟨by rfl, ?_⟩) (by assumption) ?_
        rotate_left 1
        · intro w hSw
          (try dsimp only at hSw)
          go_simp
          try with_reducible rfl
        try simp only [Act.put, List.setIfInBounds_toArray, List.set_cons_zero, List.set_cons_succ]
        refine wpAnyH_take (i := 6) (oi := ⟨some 51, _, _, _, _, _⟩) (v := ?_) rfl (by kernel_rfl) (by kernel_rfl) (by kernel_rfl) (fun _ _ _ h => h) (Or.inl ⟨by rfl, ?_⟩) (by assumption) ?_
        rotate_left 1
        · intro w hSw
          (try dsimp only at hSw)
          go_simp
          try with_reducible rfl
        try simp only [Act.put, List.setIfInBounds_toArray, List.set_cons_zero, List.set_cons_succ]
        refine wpAnyH_take (i := 7) (oi := ⟨some 52, _, _, _, _, _⟩) (v := ?_) rfl (by kernel_rfl) (by kernel_rfl) (by kernel_rfl) (fun _ _ _ h => h) (Or.inl ⟨by rfl, ?_⟩) (by assumption) ?_
        rotate_left 1
        · intro w hSw
          (try dsimp only at hSw)
          go_simp
          try with_reducible rfl
        try simp only [Act.put, List.setIfInBounds_toArray, List.set_cons_zero, List.set_cons_succ]
        refine wpAnyH_take (i := 8) (oi := ⟨some 53, _, _, _, _, _⟩) (v := ?_) rfl (by kernel_rfl) (by kernel_rfl) (by kernel_rfl) (fun _ _ _ h => h) (Or.inl ⟨by rfl, ?_⟩) (by assumption) ?_
        rotate_left 1
        · intro w hSw
          (try dsimp only at hSw)
          go_simp
          try with_reducible rfl
        try simp only [Act.put, List.setIfInBounds_toArray, List.set_cons_zero, List.set_cons_succ]
        refine wpAnyH_take (i := 9) (oi := ⟨some 54, _, _, _, _, _⟩) (v := ?_) rfl (by kernel_rfl) (by kernel_rfl) (by kernel_rfl) (fun _ _ _ h => h) (Or.inl ⟨by rfl, ?_⟩) (by assumption) ?_
        rotate_left 1
        · intro w hSw
          (try dsimp only at hSw)
          go_simp
          try with_reducible rfl
        try simp only [Act.put, List.setIfInBounds_toArray, List.set_cons_zero, List.set_cons_succ]
        refine wpAnyH_take (i := 10) (oi := ⟨some 55, _, _, _, _, _⟩) (v := ?_) rfl (by kernel_rfl) (by kernel_rfl) (by kernel_rfl) (fun _ _ _ h => h) (Or.inl ⟨by rfl, ?_⟩) (by assumption) ?_
        rotate_left 1
        · intro w hSw
          (try dsimp only at hSw)
          go_simp
          try with_reducible rfl
        try simp only [Act.put, List.setIfInBounds_toArray, List.set_cons_zero, List.set_cons_succ]
        refine wpAnyH_take (i := 11) (oi := ⟨some 56, _, _, _, _, _⟩) (v := ?_) rfl (by kernel_rfl) (by kernel_rfl) (by kernel_rfl) (fun _ _ _ h => h) (Or.inl ⟨by rfl, ?_⟩) (by assumption) ?_
        rotate_left 1
        · intro w hSw
          (try dsimp only at hSw)
          go_simp
          try with_reducible rfl
        try simp only [Act.put, List.setIfInBounds_toArray, List.set_cons_zero, List.set_cons_succ]
        refine wpAnyH_take (i := 12) (oi := ⟨some 57, _, _, _, _, _⟩) (v := ?_) rfl (by kernel_rfl) (by kernel_rfl) (by kernel_rfl) (fun _ _ _ h => h) (Or.inl ⟨by rfl, ?_⟩) (by assumption) ?_
        rotate_left 1
        · intro w hSw
          (try dsimp only at hSw)
          go_simp
          try with_reducible rfl
        try simp only [Act.put, List.setIfInBounds_toArray, List.set_cons_zero, List.set_cons_succ]
        refine wpAnyH_take (i := 13) (oi := ⟨some 58, _, _, _, _, _⟩) (v := ?_) rfl (by kernel_rfl) (by kernel_rfl) (by kernel_rfl) (fun _ _ _ h => h) (Or.inl ⟨by rfl, ?_⟩) (by assumption) ?_
        rotate_left 1
        · intro w hSw
          (try dsimp only at hSw)
          go_simp
          try with_reducible rfl
        try simp only [Act.put, List.setIfInBounds_toArray, List.set_cons_zero, List.set_cons_succ]
        refine wpAnyH_take (i := 14) (oi := ⟨some 59, _, _, _, _, _⟩) (v := ?_) rfl (by kernel_rfl) (by kernel_rfl) (by kernel_rfl) (fun _ _ _ h => h) (Or.inl ⟨by rfl, ?_⟩) (by assumption) ?_
        rotate_left 1
        · intro w hSw
          (try dsimp only at hSw)
          go_simp
          try with_reducible rfl
        try simp only [Act.put, List.setIfInBounds_toArray, List.set_cons_zero, List.set_cons_succ]
        refine wpAnyH_take (i := 15) (oi := ⟨some 60, _, _, _, _, _⟩) (v := ?_) rfl (by kernel_rfl) (by kernel_rfl) (by kernel_rfl) (fun _ _ _ h => h) (Or.inl ⟨by rfl, ?_⟩) (by assumption) ?_
        rotate_left 1
        · intro w hSw
          (try dsimp only at hSw)
          go_simp
          try with_reducible rfl
        try simp only [Act.put, List.setIfInBounds_toArray, List.set_cons_zero, List.set_cons_succ]
        refine wpAnyH_ready (rs := [1, 16]) (by kernel_rfl) (by simp) ?_
        refine AllReadyH.cons rfl (fun K hK => ?_) ?_
        · go_simp
          refine hK.out _ _ (HS7.out _ (by repeat (first | assumption | (with_reducible refine KpA.set ?_ _) | (with_reducible refine KpA.drew ?_) | (refine KpA.nx (by repeat (first | with_reducible exact Nx.refl _ | with_reducible refine Nx.drew ?_ | with_reducible refine Nx.alloc ?_ _)))))) (fun hHeld => ?_)
          clear hK K
          try simp only [Act.put, List.setIfInBounds_toArray, List.set_cons_zero, List.set_cons_succ]
          refine wpAnyH_ready (rs := [16]) (by kernel_rfl) (by simp) ?_
          refine AllReadyH.cons rfl (fun K hK => ?_) ?_
          · go_simp
            refine hK.out _ _ (HS7.out _ (by repeat (first | assumption | (with_reducible refine KpA.set ?_ _) | (with_reducible refine KpA.drew ?_) | (refine KpA.nx (by repeat (first | with_reducible exact Nx.refl _ | with_reducible refine Nx.drew ?_ | with_reducible refine Nx.alloc ?_ _)))))) (fun hHeld => ?_)
            clear hK K
            try simp only [Act.put, List.setIfInBounds_toArray, List.set_cons_zero, List.set_cons_succ]
            refine wpAnyH_ready (rs := [17]) (by kernel_rfl) (by simp) ?_
            refine AllReadyH.cons rfl (fun K hK => ?_) ?_
            · (refine step_append_lies _ rfl _ _ _ rfl bz _ iS zS 1 16 Tryz.underlying32 E1.out E2.out E3.out E4.out E5.out (by omega) vr acc.length (acc.flatMap encS) rfl (own_nx HROW.out (by repeat (first | with_reducible exact Nx.refl _ | with_reducible refine Nx.drew ?_ | with_reducible refine Nx.alloc ?_ _))) _ 1 1 [.string ky] rfl rfl (news_of (hnew rfl) rfl) (by intro u hu; simp at hu; subst hu; rfl) (by omega) (by unfold maxLen; omega) (by omega) (by simp; omega) _ rfl ?_; intro g6 c6 w6 hown6 hg6 hat6 hlt6; (have hkp6 : KpA wr vr.ownBlock ex w6 := KpA.app (by repeat (first | with_reducible exact Nx.refl _ | with_reducible refine Nx.drew ?_ | with_reducible refine Nx.alloc ?_ _)) hg6); (have b7 : w6.heap[ex]? = some (.cells #[vr, .int .i64 ad, .int .i64 z] 62 (0, 0)) := (hg6.block ex (by simp; omega) (fun e => by have := HLO.out _ e.symm; omega)).trans ((((Nx.refl wr).alloc _).block _ (by omega)).trans HBX.out)); (have x4 : w6.cell? ⟨ex, 0, none⟩ = some vr := (cell_of_row w6 _ 0 _ _ _ b7).trans rfl); (have f4 := frozen_blkQ (j := 0) b7))
              refine hK.out _ _ (HS7.out _ (by repeat (first | assumption | (with_reducible refine KpA.set ?_ _) | (with_reducible refine KpA.drew ?_) | (refine KpA.nx (by repeat (first | with_reducible exact Nx.refl _ | with_reducible refine Nx.drew ?_ | with_reducible refine Nx.alloc ?_ _)))))) (fun hHeld => ?_)
              clear hK K
              try simp only [Act.put, List.setIfInBounds_toArray]
              refine wpAnyH_take (i := 18) (oi := ⟨some 63, _, _, _, _, _⟩) (v := ?_) rfl (by kernel_rfl) (by kernel_rfl) (by kernel_rfl) (fun _ _ _ h => h) (Or.inl ⟨by rfl, ?_⟩) (by assumption) ?_
              rotate_left 1
              · intro w hSw
                (try dsimp only at hSw)
                go_simp
                try with_reducible rfl
              try simp only [Act.put]
              refine wpAnyH_ready (rs := [19]) (by kernel_rfl) (by simp) ?_
              refine AllReadyH.cons rfl (fun K hK => ?_) ?_
              · go_simp
                refine hK.out _ _ (HS7.out _ (by repeat (first | assumption | (with_reducible refine KpA.set ?_ _) | (with_reducible refine KpA.drew ?_) | (refine KpA.nx (by repeat (first | with_reducible exact Nx.refl _ | with_reducible refine Nx.drew ?_ | with_reducible refine Nx.alloc ?_ _)))))) (fun hHeld => ?_)
                clear hK K
                try simp only [Act.put, List.setIfInBounds_toArray, List.set_cons_zero, List.set_cons_succ]
                refine wpAnyH_done (by kernel_rfl) ?_ _
                have hB : (w6.setCell ⟨ex, 0, none⟩ (.slice (some ⟨g6, 0, none⟩) (acc.length + 1) c6)).heap[ex]? = some (.cells #[.slice (some ⟨g6, 0, none⟩) (acc.length + 1) c6, .int .i64 ad, .int .i64 z] 62 (0, 0)) := heap_set b7
                have hO : (w6.setCell ⟨ex, 0, none⟩ (.slice (some ⟨g6, 0, none⟩) (acc.length + 1) c6)).ownsRow bz 9 1 (.slice (some ⟨g6, 0, none⟩) (acc.length + 1) c6) (acc.length + 1) (acc.flatMap encS ++ [.string ky]) := World.ownsRow.kept hown6 (show w6.grownBy _ (some ex) from (Gr.refl ex w6).setS (.inl rfl) _) (.inr (fun e => by have := own_blk_lt hown6 _ e; omega))
                have hG : Gr ex wc (w6.setCell ⟨ex, 0, none⟩ (.slice (some ⟨g6, 0, none⟩) (acc.length + 1) c6)) := ((Gr.trans (Gr.trans HGR.out (Gr.of_nx (by repeat (first | with_reducible exact Nx.refl _ | with_reducible refine Nx.drew ?_ | with_reducible refine Nx.alloc ?_ _)))) (Gr.refl ex _)).grown hg6 (fun k hk => .inr (by have := HLO.out k hk; omega))).setS (.inl rfl) _
                clear x4 x4A f4 b7 hkp6 hown6 hg6
                generalize w6.setCell ⟨ex, 0, none⟩ (.slice (some ⟨g6, 0, none⟩) (acc.length + 1) c6) = wx at *
                generalize (Value.slice (some ⟨g6, 0, none⟩) (acc.length + 1) c6) = v6 at *
                have hnx : Nx w wx := Nx.of_gr ((Gr.of_nx hnc).trans hG) hexw
                have t5 : wx.cell? ⟨a.T, 5, none⟩ = some (.slice (some ⟨a.gP, 0, none⟩) rs.length rs.length) := (cell_of_row wx _ 5 _ _ _ (HT.out.nx hnx).hT).trans rfl
                have x5 := intRow_cell (HT.out.nx hnx).hP (i := kk) (by rw [HT.out.lP]; exact hkk)
                have HB := hide hB
                have HO := hide hO
                have HG := hide hG
                clear hB hO hG t0 c0 g1
                generalize hz5 : gi s.prev kk = z5 at *
                have HC5 := hide (show Chain rs.length s.prev z5 rest' from hz5 ▸ HC2.out)
                clear hz5
                go_wp2_with fail
                go_roundg (gk - 1)
                case rel => exact ⟨z5, rest', acc ++ [ky], v6, rfl, HC5.out, by rw [HKEYS.out, HKL.out]; simp, by have := HLEN.out; simp at *; omega, by simp at hfl; omega, HB.out, by rw [show (acc ++ [ky]).length = acc.length + 1 by simp, show (acc ++ [ky]).flatMap encS = acc.flatMap encS ++ [.string ky] by simp [encS]]; exact HO.out, HG.out⟩
                case measure => simp at hfl; omega
              · exact AllReadyH.nil
            · exact AllReadyH.nil
          · exact AllReadyH.nil
        refine AllReadyH.cons rfl (fun K hK => ?_) ?_
        · go_simp
          refine hK.out _ _ (HS7.out _ (by repeat (first | assumption | (with_reducible refine KpA.set ?_ _) | (with_reducible refine KpA.drew ?_) | (refine KpA.nx (by repeat (first | with_reducible exact Nx.refl _ | with_reducible refine Nx.drew ?_ | with_reducible refine Nx.alloc ?_ _)))))) (fun hHeld => ?_)
          clear hK K
          try simp only [Act.put, List.setIfInBounds_toArray, List.set_cons_zero, List.set_cons_succ]
          refine wpAnyH_ready (rs := [1]) (by kernel_rfl) (by simp) ?_
          refine AllReadyH.cons rfl (fun K hK => ?_) ?_
          · go_simp
            refine hK.out _ _ (HS7.out _ (by repeat (first | assumption | (with_reducible refine KpA.set ?_ _) | (with_reducible refine KpA.drew ?_) | (refine KpA.nx (by repeat (first | with_reducible exact Nx.refl _ | with_reducible refine Nx.drew ?_ | with_reducible refine Nx.alloc ?_ _)))))) (fun hHeld => ?_)
            clear hK K
            try simp only [Act.put, List.setIfInBounds_toArray, List.set_cons_zero, List.set_cons_succ]
            refine wpAnyH_ready (rs := [17]) (by kernel_rfl) (by simp) ?_
            refine AllReadyH.cons rfl (fun K hK => ?_) ?_
            · (refine step_append_lies _ rfl _ _ _ rfl bz _ iS zS 1 16 Tryz.underlying32 E1.out E2.out E3.out E4.out E5.out (by omega) vr acc.length (acc.flatMap encS) rfl (own_nx HROW.out (by repeat (first | with_reducible exact Nx.refl _ | with_reducible refine Nx.drew ?_ | with_reducible refine Nx.alloc ?_ _))) _ 1 1 [.string ky] rfl rfl (news_of (hnew rfl) rfl) (by intro u hu; simp at hu; subst hu; rfl) (by omega) (by unfold maxLen; omega) (by omega) (by simp; omega) _ rfl ?_; intro g6 c6 w6 hown6 hg6 hat6 hlt6; (have hkp6 : KpA wr vr.ownBlock ex w6 := KpA.app (by repeat (first | with_reducible exact Nx.refl _ | with_reducible refine Nx.drew ?_ | with_reducible refine Nx.alloc ?_ _)) hg6); (have b7 : w6.heap[ex]? = some (.cells #[vr, .int .i64 ad, .int .i64 z] 62 (0, 0)) := (hg6.block ex (by simp; omega) (fun e => by have := HLO.out _ e.symm; omega)).trans ((((Nx.refl wr).alloc _).block _ (by omega)).trans HBX.out)); (have x4 : w6.cell? ⟨ex, 0, none⟩ = some vr := (cell_of_row w6 _ 0 _ _ _ b7).trans rfl); (have f4 := frozen_blkQ (j := 0) b7))
              refine hK.out _ _ (HS7.out _ (by repeat (first | assumption | (with_reducible refine KpA.set ?_ _) | (with_reducible refine KpA.drew ?_) | (refine KpA.nx (by repeat (first | with_reducible exact Nx.refl _ | with_reducible refine Nx.drew ?_ | with_reducible refine Nx.alloc ?_ _)))))) (fun hHeld => ?_)
              clear hK K
              try simp only [Act.put, List.setIfInBounds_toArray]
              refine wpAnyH_take (i := 18) (oi := ⟨some 63, _, _, _, _, _⟩) (v := ?_) rfl (by kernel_rfl) (by kernel_rfl) (by kernel_rfl) (fun _ _ _ h => h) (Or.inl ⟨by rfl, ?_⟩) (by assumption) ?_
              rotate_left 1
              · intro w hSw
                (try dsimp only at hSw)
                go_simp
                try with_reducible rfl
              try simp only [Act.put]
              refine wpAnyH_ready (rs := [19]) (by kernel_rfl) (by simp) ?_
              refine AllReadyH.cons rfl (fun K hK => ?_) ?_
              · go_simp
                refine hK.out _ _ (HS7.out _ (by repeat (first | assumption | (with_reducible refine KpA.set ?_ _) | (with_reducible refine KpA.drew ?_) | (refine KpA.nx (by repeat (first | with_reducible exact Nx.refl _ | with_reducible refine Nx.drew ?_ | with_reducible refine Nx.alloc ?_ _)))))) (fun hHeld => ?_)
                clear hK K
                try simp only [Act.put, List.setIfInBounds_toArray, List.set_cons_zero, List.set_cons_succ]
                refine wpAnyH_done (by kernel_rfl) ?_ _
                have hB : (w6.setCell ⟨ex, 0, none⟩ (.slice (some ⟨g6, 0, none⟩) (acc.length + 1) c6)).heap[ex]? = some (.cells #[.slice (some ⟨g6, 0, none⟩) (acc.length + 1) c6, .int .i64 ad, .int .i64 z] 62 (0, 0)) := heap_set b7
                have hO : (w6.setCell ⟨ex, 0, none⟩ (.slice (some ⟨g6, 0, none⟩) (acc.length + 1) c6)).ownsRow bz 9 1 (.slice (some ⟨g6, 0, none⟩) (acc.length + 1) c6) (acc.length + 1) (acc.flatMap encS ++ [.string ky]) := World.ownsRow.kept hown6 (show w6.grownBy _ (some ex) from (Gr.refl ex w6).setS (.inl rfl) _) (.inr (fun e => by have := own_blk_lt hown6 _ e; omega))
                have hG : Gr ex wc (w6.setCell ⟨ex, 0, none⟩ (.slice (some ⟨g6, 0, none⟩) (acc.length + 1) c6)) := ((Gr.trans (Gr.trans HGR.out (Gr.of_nx (by repeat (first | with_reducible exact Nx.refl _ | with_reducible refine Nx.drew ?_ | with_reducible refine Nx.alloc ?_ _)))) (Gr.refl ex _)).grown hg6 (fun k hk => .inr (by have := HLO.out k hk; omega))).setS (.inl rfl) _
                clear x4 x4A f4 b7 hkp6 hown6 hg6
                generalize w6.setCell ⟨ex, 0, none⟩ (.slice (some ⟨g6, 0, none⟩) (acc.length + 1) c6) = wx at *
                generalize (Value.slice (some ⟨g6, 0, none⟩) (acc.length + 1) c6) = v6 at *
                have hnx : Nx w wx := Nx.of_gr ((Gr.of_nx hnc).trans hG) hexw
                have t5 : wx.cell? ⟨a.T, 5, none⟩ = some (.slice (some ⟨a.gP, 0, none⟩) rs.length rs.length) := (cell_of_row wx _ 5 _ _ _ (HT.out.nx hnx).hT).trans rfl
                have x5 := intRow_cell (HT.out.nx hnx).hP (i := kk) (by rw [HT.out.lP]; exact hkk)
                have HB := hide hB
                have HO := hide hO
                have HG := hide hG
                clear hB hO hG t0 c0 g1
                generalize hz5 : gi s.prev kk = z5 at *
                have HC5 := hide (show Chain rs.length s.prev z5 rest' from hz5 ▸ HC2.out)
                clear hz5
                go_wp2_with fail
                go_roundg (gk - 1)
                case rel => exact ⟨z5, rest', acc ++ [ky], v6, rfl, HC5.out, by rw [HKEYS.out, HKL.out]; simp, by have := HLEN.out; simp at *; omega, by simp at hfl; omega, HB.out, by rw [show (acc ++ [ky]).length = acc.length + 1 by simp, show (acc ++ [ky]).flatMap encS = acc.flatMap encS ++ [.string ky] by simp [encS]]; exact HO.out, HG.out⟩
                case measure => simp at hfl; omega
              · exact AllReadyH.nil
            · exact AllReadyH.nil
          · exact AllReadyH.nil
        exact AllReadyH.nil
end Go.Proofs.YtklgknepamebdaaGreatDoor
/- Both ends of a way asked for: what is wrong. -/
namespace Go.Proofs.YtklgknepamebdaaGreatDoor
open Go.RowKit
set_option maxRecDepth 100000 in
set_option maxHeartbeats 4000000 in
theorem w_EndsBad (g0 lo : Nat) (A B C : Option Addr) (ca cb cc : Nat) (ns : List Node) (rs : List Arc) (bs : List Ban) (f t : ByteArray) (ad : Int) (w : World) (hBox : BoxR w g0 lo A B C ca cb cc ns rs bs) (hS : SmallN ns) (hE : endsF ns rs bs f t ad ≠ 0) :
    Calls Tryz.prog 83 #[.pointer (some ⟨g0, 0, none⟩), .string f, .string t, .int .i64 ad] w fun e w' => e = .returned (.tuple #[.pointer none, .int .i64 0, .int .i64 0, .int .i64 (endsF ns rs bs f t ad)]) ∧ Nx w w' := by
  have b0 := hBox.g0
  have b1 := hBox.g1
  have b2 := hBox.g2
  have HC := hide (w_CheckRoads lo lo lo A B C ca cb cc ns rs bs w hBox.hN hS hBox.nl hBox.hA hBox.al hBox.hB hBox.bl)
  have HB := hide hBox
  obtain ⟨E, hEE⟩ : ∃ E, E = endsF ns rs bs f t ad := ⟨_, rfl⟩
  rw [← hEE] at hE ⊢
  have HE := hide (show E = if roadsF ns rs bs = 0 then (if nodeI ns f < 0 ∨ nodeI ns t < 0 then 8 else if momB ad then 0 else 1) else roadsF ns rs bs from hEE)
  clear hEE hBox
  by_cases hF : roadsF ns rs bs = 0
  · have HE := hide (HE.out.trans (if_pos hF))
    have HSN := hide (sortN_of (roads_ok hF).1)
    rw [hF] at HC
    clear hF
    have HNE := hide hE
    clear hE
    go_enter Tryz.func83, Tryz.ntmps83
    go_wp2_with fail
    refine (HC.out).mono ?_
    rintro e w1 ⟨rfl, hn1⟩
    clear b0 b1 b2
    have HN1 := hide hn1
    clear hn1
    go_wp2_with fail
    have hb1 := HB.out.nx HN1.out
    refine (w_nodeR g0 lo A ca ns f w1 hb1.g0 hb1.hN (by have := hb1.nl; omega) HSN.out).mono ?_
    rintro e w2 ⟨rfl, hn2⟩
    have HN2 := hide (HN1.out.trans hn2)
    clear hn2 hb1
    go_wp2_with fail
    have hb1 := HB.out.nx HN2.out
    refine (w_nodeR g0 lo A ca ns t w2 hb1.g0 hb1.hN (by have := hb1.nl; omega) HSN.out).mono ?_
    rintro e w3 ⟨rfl, hn3⟩
    have HN3 := hide (HN2.out.trans hn3)
    clear hn3 hb1
    generalize nodeI ns f = i at *
    generalize nodeI ns t = j at *
    by_cases hij : i < 0 ∨ j < 0
    · have hE8 := HE.out.trans (if_pos hij)
      subst hE8
      by_cases hi : i < 0
      · have ti : decide (i < 0) = true := decide_eq_true hi
        clear hi hij
        go_wp2_with fail
        exact bodyPost_ret (v := .tuple #[.pointer none, .int .i64 0, .int .i64 0, .int .i64 8]) (by simp [results, Tryz.results83, go_sem]) rfl ⟨rfl, HN3.out⟩
      · have ti : decide (i < 0) = false := decide_eq_false hi
        have tj : decide (j < 0) = true := decide_eq_true (by omega)
        clear hi hij
        go_wp2_with fail
        exact bodyPost_ret (v := .tuple #[.pointer none, .int .i64 0, .int .i64 0, .int .i64 8]) (by simp [results, Tryz.results83, go_sem]) rfl ⟨rfl, HN3.out⟩
    · have hE1 := HE.out.trans (if_neg hij)
      have ti : decide (i < 0) = false := decide_eq_false (by omega)
      have tj : decide (j < 0) = false := decide_eq_false (by omega)
      have hm : momB ad = false := by
        cases hm : momB ad with
        | false => rfl
        | true => rw [hm, if_pos rfl] at hE1; exact absurd hE1 HNE.out
      rw [hm, if_neg (by simp)] at hE1
      subst hE1
      clear hij
      go_wp2_with fail
      refine (w_Moment _ _).mono ?_
      rintro e w4 ⟨rfl, rfl⟩
      rw [hm]
      go_wp2_with fail
      exact bodyPost_ret (v := .tuple #[.pointer none, .int .i64 0, .int .i64 0, .int .i64 1]) (by simp [results, Tryz.results83, go_sem]) rfl ⟨rfl, HN3.out⟩
  · have hE1 := HE.out.trans (if_neg hF)
    rw [← hE1] at HC
    clear hF hE1
    have tE : (E == 0) = false := by simpa using hE
    have tE2 : (E != 0) = true := by simpa using hE
    go_enter Tryz.func83, Tryz.ntmps83
    go_wp2_with fail
    refine (HC.out).mono ?_
    rintro e w1 ⟨rfl, hn1⟩
    clear b0 b1 b2
    go_wp2_with fail
    exact bodyPost_ret (v := .tuple #[.pointer none, .int .i64 0, .int .i64 0, .int .i64 E]) (by simp [results, Tryz.results83, go_sem]) rfl ⟨rfl, hn1⟩
set_option maxRecDepth 100000 in
set_option maxHeartbeats 4000000 in
theorem w_FastBad (lo : Nat) (A B C : Option Addr) (ca cb cc : Nat) (ns : List Node) (rs : List Arc) (bs : List Ban) (f t : ByteArray) (ad : Int) (w : World)
    (hN : Rd w lo A 3 encNode ns) (hA : RdArcs w lo B rs) (hB : Rd w lo C 2 encBan bs) (hnl : ns.length ≤ 400) (hal : rs.length ≤ 400) (hbl : bs.length ≤ 400)
    (hS : SmallN ns) (hE : endsF ns rs bs f t ad ≠ 0) :
    Calls Tryz.prog 28 #[.agg #[.slice A ns.length ca, .slice B rs.length cb, .slice C bs.length cc], .string f, .string t, .int .i64 ad] w fun e w' => e = .returned (.tuple #[.agg #[.slice none 0 0, .int .i64 0, .int .i64 0], .bool false, .int .i64 (endsF ns rs bs f t ad)]) ∧ Nx w w' := by
  obtain ⟨wa, hwa⟩ : ∃ wa, wa = w.alloc (.cells #[.slice A ns.length ca, .slice B rs.length cb, .slice C bs.length cc] 30) := ⟨_, rfl⟩
  have hna : Nx w wa := hwa ▸ (Nx.refl w).alloc _
  have hgw : w.heap.size < wa.heap.size := by rw [hwa]; simp
  have b0 : wa.cell? ⟨w.heap.size, 0, none⟩ = some (.slice A ns.length ca) := by rw [hwa]; go_simp
  have b1 : wa.cell? ⟨w.heap.size, 1, none⟩ = some (.slice B rs.length cb) := by rw [hwa]; go_simp
  have b2 : wa.cell? ⟨w.heap.size, 2, none⟩ = some (.slice C bs.length cc) := by rw [hwa]; go_simp
  have hBox : BoxR wa w.heap.size lo A B C ca cb cc ns rs bs := ⟨b0, b1, b2, hgw, hN.nx hna, hA.nx hna, hB.nx hna, hnl, hal, hbl⟩
  have HC := hide (fun W (hx : Nx wa W) => w_EndsBad w.heap.size lo A B C ca cb cc ns rs bs f t ad W (hBox.nx hx) hS hE)
  clear hBox b0 b1 b2 hN hA hB
  generalize endsF ns rs bs f t ad = E at *
  have tE : (E == 0) = false := by simpa using hE
  have tE2 : (E != 0) = true := by simpa using hE
  clear hE
  have HWA := hide hwa
  go_enter Tryz.func28, Tryz.ntmps28
  go_wp2_with fail
  rw [show w.heap.size + 1 = wa.heap.size by rw [hwa]; simp]
  rw [← hwa]
  clear hwa
  refine (HC.out _ ((Nx.refl _).alloc _)).mono ?_
  rintro e w3 ⟨rfl, hn3⟩
  have b8 : w3.heap[wa.heap.size]? = some (.cells #[.slice none 0 0, .int .i64 0, .int .i64 0] 62 (0, 0)) := (hn3.block _ (by simp)).trans (hnew rfl)
  have q0 : w3.cell? ⟨wa.heap.size, 0, none⟩ = some (.slice none 0 0) := (cell_of_row w3 _ 0 _ _ _ b8).trans rfl
  have q1 : w3.cell? ⟨wa.heap.size, 1, none⟩ = some (.int .i64 0) := (cell_of_row w3 _ 1 _ _ _ b8).trans rfl
  have q2 : w3.cell? ⟨wa.heap.size, 2, none⟩ = some (.int .i64 0) := (cell_of_row w3 _ 2 _ _ _ b8).trans rfl
  have f0 := frozen_blkQ (j := 0) b8
  have f1 := frozen_blkQ (j := 1) b8
  have f2 := frozen_blkQ (j := 2) b8
  have hx8 := lt_of_heap b8
  have HNN := hide (hna.trans (((Nx.refl wa).alloc _).trans hn3))
  clear hn3
  go_wp2_with fail
  have s1 := Gr.setS (Gr.of_nx (s := wa.heap.size) HNN.out) (p := ⟨wa.heap.size, 0, none⟩) (Or.inl rfl) (.slice none 0 0)
  have s2 := Gr.setS s1 (p := ⟨wa.heap.size, 1, none⟩) (Or.inl rfl) (.int .i64 0)
  have s3 := Gr.setS s2 (p := ⟨wa.heap.size, 2, none⟩) (Or.inl rfl) (.int .i64 0)
  have hW := Nx.of_gr s3 hna.sz
  exact bodyPost_ret (v := .tuple #[.agg #[.slice none 0 0, .int .i64 0, .int .i64 0], .bool false, .int .i64 E]) (by simp [results, Tryz.results28, go_sem, q0, q1, q2]) rfl ⟨rfl, hW⟩
end Go.Proofs.YtklgknepamebdaaGreatDoor
/- Right roads are what New wants. -/
namespace Go.Proofs.YtklgknepamebdaaGreatDoor
open Go.RowKit

theorem nodeF_key {p : Option Node} {n : Node} (h : nodeF p n = 0) : keyB n.key = true := by
  unfold nodeF at h
  cases hk : keyB n.key with
  | true => rfl
  | false => rw [hk, if_neg (by simp)] at h; exact absurd h (by decide)
theorem nodes_keys {ns : List Node} (h : nodesF ns = 0) : ∀ x ∈ ns, keyB x.key = true := by
  unfold nodesF at h
  by_cases h0 : 500 < ns.length
  · rw [if_pos h0] at h; exact absurd h (by decide)
  · rw [if_neg h0] at h
    exact chk_all (F := nodeF) (Q := fun n => keyB n.key = true) (fun p x hx => nodeF_key hx) ns none h
theorem mem_getD {α : Type} [Inhabited α] {l : List α} {k : Nat} (h : k < l.length) : l.getD k default ∈ l := by
  rw [List.getD_eq_getElem?_getD, List.getElem?_eq_getElem h]
  exact List.getElem_mem h
theorem arc_key_found {rs : List Arc} {s : ByteArray} (h : 0 ≤ arcI rs s) : ∃ a ∈ rs, a.key = s := by
  rcases findI_bd (fun n : Arc => decide (n.key = s)) rs with h1 | ⟨i, hi, e⟩
  · exact absurd h (by unfold arcI; omega)
  · exact ⟨rs.getD i default, mem_getD hi, by simpa using (findI_sat _ rs e).2⟩
theorem banF_ok {rs : List Arc} {p : Option Ban} {b : Ban} (h : banF rs p b = 0) : 0 ≤ arcI rs b.from_ ∧ 0 ≤ arcI rs b.to_ := by
  unfold banF at h
  by_cases hg : banG rs b = 0
  · unfold banG at hg
    split at hg
    · exact absurd hg (by decide)
    · omega
  · rw [if_neg hg] at h; exact absurd h hg
theorem newOk_of {ns : List Node} {rs : List Arc} {bs : List Ban} (h : roadsF ns rs bs = 0) : NewOk ns rs bs := by
  obtain ⟨h1, h2, h3⟩ := roads_ok h
  have hkn : ∀ x ∈ ns, domS x.key := fun x hx => key_small (nodes_keys h1 x hx)
  have hk : ∀ x ∈ rs, keyB x.key = true ∧ arcG ns x = 0 := chk_all (F := arcF ns) (Q := fun a => keyB a.key = true ∧ arcG ns a = 0) (fun p x hx => arcF_ok hx) rs none h2
  have hnode : ∀ s, 0 ≤ nodeI ns s → domS s := fun s hs => by
    obtain ⟨i, hi, _, e⟩ := node_found hs
    rw [← e]
    exact hkn _ (mem_getD hi)
  have harc : ∀ s, 0 ≤ arcI rs s → domS s := fun s hs => by
    obtain ⟨a, ha, e⟩ := arc_key_found hs
    rw [← e]
    exact key_small (hk a ha).1
  refine ⟨sortN_of h1, sortA_of h2, hkn, fun x hx => ?_, fun x hx => ?_⟩
  · obtain ⟨a1, a2, _, _, _⟩ := arcG_ok (hk x hx).2
    exact ⟨key_small (hk x hx).1, hnode _ a1, hnode _ a2, a1, a2⟩
  · have := chk_all (F := banF rs) (Q := fun b => 0 ≤ arcI rs b.from_ ∧ 0 ≤ arcI rs b.to_) (fun p x hx => banF_ok hx) bs none h3 x hx
    exact ⟨harc _ this.1, harc _ this.2, this.1, this.2⟩
theorem nodeI_small {ns : List Node} {rs : List Arc} {bs : List Ban} (h : roadsF ns rs bs = 0) {s : ByteArray} (hs : 0 ≤ nodeI ns s) : domS s := by
  obtain ⟨i, hi, _, e⟩ := node_found hs
  rw [← e]
  exact (newOk_of h).kn _ (mem_getD hi)
end Go.Proofs.YtklgknepamebdaaGreatDoor
/- A region that draws, walked by hand: the condition may be made stronger on the way. Of no program. -/
namespace Go.Proofs.YtklgknepamebdaaGreatDoor
open Go

section
variable {P : Program} {ops : Array Oper} {Q : Exit → Act → World → Prop} {md : Region.Mode} {S S' : World → Prop}
/-- From here on more holds than S. -/
theorem wpAnyH_more (h : ∀ w, S' w → S w) : ∀ (fuel : Nat) (listed : Array Bool) (a : Act) (w : World), wpAnyH P md ops Q S' fuel listed a w → wpAnyH P md ops Q S fuel listed a w
  | 0, _, _, _, hh => hh
  | fuel + 1, _, _, _, hh => ⟨hh.1, fun i hi => wpOp_mono (fun a' w' h' => ⟨h w' h'.1, wpAnyH_more h fuel _ a' w' h'.2⟩) (hh.2 i hi)⟩
end
end Go.Proofs.YtklgknepamebdaaGreatDoor
/- An arc is entered in a search. -/
namespace Go.Proofs.YtklgknepamebdaaGreatDoor
open Go.RowKit Go.Maps

/-- Blocks made since stay, but the queue's. -/
def FrE (a : SA) (w w' : World) : Prop := ∀ ex, a.base ≤ ex → ex < w.heap.size → NotOwn a.gq ex w → w'.heap[ex]? = w.heap[ex]? ∧ NotOwn a.gq ex w'
theorem FrE.refl {a : SA} {w : World} : FrE a w w := fun _ _ _ h => ⟨rfl, h⟩
theorem FrE.trans {a : SA} {w w' w'' : World} (h : FrE a w w') (k : FrE a w' w'') : FrE a w w'' := fun ex h0 h1 h3 => by
  obtain ⟨x, y⟩ := h ex h0 h1 h3
  have hlt : ex < w'.heap.size := by
    rw [Array.getElem?_eq_getElem h1] at x
    exact (Array.getElem?_eq_some_iff.1 x).1
  obtain ⟨c, d⟩ := k ex h0 hlt y
  exact ⟨c.trans x, d⟩
theorem FrE.nx {a : SA} {w w' : World} (hq : a.gq < w.heap.size) (h : Nx w w') : FrE a w w' := fun ex _ h1 h3 => ⟨h.block ex h1, fun v z hv => h3 v z ((h.block a.gq hq).symm.trans hv)⟩
theorem FrE.set {a : SA} {w : World} {k i : Nat} {u : Value} (hk : k < a.base) (hq : k ≠ a.gq) : FrE a w (w.setCell ⟨k, i, none⟩ u) := fun ex h0 _ h3 =>
  ⟨Below.heap_setCell w ⟨k, i, none⟩ u ex (by show ex ≠ k; omega), fun v z hv => h3 v z ((Below.heap_setCell w ⟨k, i, none⟩ u a.gq (Ne.symm hq)).symm.trans hv)⟩
theorem FrE.drew {a : SA} {w w' : World} (h : FrE a w w') : FrE a w w'.drew := h
theorem FrE.of_q {a : SA} {w w' : World} (hb : a.gq < a.base) (h : FrQ a.gq w w') : FrE a w w' := fun ex h0 h1 h3 => h ex h1 (by omega) h3
set_option maxRecDepth 100000 in
set_option maxHeartbeats 4000000 in
theorem w_enter (w0 w : World) (a : SA) (bm fr nn : Nat) (ad : Int) (s : Sr) (g0 lo : Nat) (A B C : Option Addr) (ca cb cc : Nat) (M : MapA) (ns : List Node) (rs : List Arc) (bs : List Ban) (arc : Nat) (p t : Int)
    (hM : MapR w0 bm g0 lo A B C ca cb cc M ns rs bs) (hKO : ∀ x ∈ rs, KOk x.knots) (hS : SM w0 w a bm fr nn rs.length ad s) (ha : arc < rs.length) (ht : 0 ≤ t ∧ t ≤ 345686399999) (hq : s.q.length < 1000000) :
    Calls Tryz.prog 143 #[.int .i64 (arc : Int), .int .i64 p, .int .i64 t, .pointer (some ⟨a.bx, 0, none⟩), .pointer (some ⟨a.bb, 0, none⟩), .pointer (some ⟨a.bt, 0, none⟩), .pointer (some ⟨a.gq, 0, none⟩)] w
      fun e w' => e = .returned (.tuple #[]) ∧ SM w0 w' a bm fr nn rs.length ad (enterG (gphOf ns rs bs) s arc p t) ∧ FrE a w w' := by
  have hMw := hM.nx hS.nx
  have c0 := hMw.c0
  have g1 := hMw.box.g1
  obtain ⟨hKx, hLx, hSx⟩ := hMw.box.hA.2 rs[arc] (List.getElem_mem ha)
  have hko := hKO rs[arc] (List.getElem_mem ha)
  obtain ⟨b, off, rfl, _, hb, hbr, hc⟩ := hMw.box.hA.1.open_ (Nx.refl w) (by omega)
  have a4 : w.cell? ⟨b, off + arc * 5 + 4, none⟩ = some (.slice rs[arc].ka rs[arc].knots.length rs[arc].kc) := hc arc ha 4 _ rfl
  have hal := hMw.box.al
  have HT := hide (w_TimeO b (off + arc * 5) lo rs[arc].ka rs[arc].kc rs[arc].knots t w a4 hb hKx hko ht)
  have htb := time_bd hko t
  have HOUT := hide (show (gphOf ns rs bs).out arc t = t + timeI rs[arc].knots t by show t + timeI (arcX rs arc).knots t = _; rw [arcX_get ha])
  have k1 := hS.hbx
  have k2 := hS.hbb
  have k3 := hS.hbt
  have k4 : w.cell? ⟨a.T, 5, none⟩ = some (.slice (some ⟨a.gP, 0, none⟩) rs.length rs.length) := (cell_of_row w _ 5 _ _ _ hS.hTb).trans rfl
  have HSM := hide hS
  have HQ := hide hq
  have HA := hide ha
  clear hM hS hMw hKx hLx hSx hko hKO hc a4 hq
  generalize timeI rs[arc].knots t = z at *
  generalize hm : rs.length = m at *
  have i1 : (0 : Int) ≤ (arc : Int) := by omega
  have i2 : (arc : Int) < (m : Int) := by omega
  have q1 : IntKind.i64.wrap (t + z) = t + z := IntWalk.i64_in _ (by omega)
  have HST := hide (show enterG (gphOf ns rs bs) s arc p t = if (t + z < endT ∧ (gi s.best arc < 0 ∨ t + z < gi s.best arc)) then { s with best := s.best.set arc (t + z), prev := s.prev.set arc p, q := hpush s.q ⟨t + z, arc⟩ } else s by unfold enterG; rw [HOUT.out])
  generalize enterG (gphOf ns rs bs) s arc p t = R at *
  clear HOUT
  go_enter Tryz.func143, Tryz.ntmps143
  go_wp2_with fail
  refine HT.out.mono ?_
  rintro e w1 ⟨rfl, hn1⟩
  clear k1 k2 k3 k4 c0 g1
  have HS1 := hide (HSM.out.step hn1)
  have hgqw : a.gq < w.heap.size := by obtain ⟨_, _, _, h3, h4⟩ := HSM.out.q; omega
  have HF1 := hide (FrE.nx (a := a) hgqw hn1)
  have k2 := HS1.out.hbb
  have k3 := HS1.out.hbt
  have k4 : w1.cell? ⟨a.T, 5, none⟩ = some (.slice (some ⟨a.gP, 0, none⟩) m m) := (cell_of_row w1 _ 5 _ _ _ HS1.out.hTb).trans rfl
  have k5 := intRow_cell HS1.out.hB (show arc < s.best.length by rw [HS1.out.lB]; exact HA.out)
  have k6 := intRow_cell HS1.out.hP (show arc < s.prev.length by rw [HS1.out.lP]; exact HA.out)
  have f5 := frozen_blkQ (j := arc) HS1.out.hB
  have f6 := frozen_blkQ (j := arc) HS1.out.hP
  have hTq : t + z ≤ 1000000000000000 := by omega
  clear HT hb hbr
  obtain ⟨X, hX⟩ : ∃ X : Bool, X = decide (t + z < endT ∧ (gi s.best arc < 0 ∨ t + z < gi s.best arc)) := ⟨_, rfl⟩
  have HX := hide hX
  clear hX
  generalize gi s.best arc = bv at *
  generalize gi s.prev arc = pv at *
  go_upto_region 1 with fail
  go_cut [39] (fun v wx => v = .bool X ∧ w1 = wx)
  case first =>
    clear k3 k4 k6 f5 f6
    by_cases hE : t + z < 345686400000
    · have tE : decide (t + z < 345686400000) = true := decide_eq_true hE
      by_cases hB : bv < 0
      · have tB : decide (bv < 0) = true := decide_eq_true hB
        have hx : X = true := by rw [HX.out]; exact decide_eq_true ⟨hE, .inl hB⟩
        subst hx
        clear hE hB
        go_wp2_with fail
        go_meet
        exact ⟨rfl, rfl⟩
      · have tB : decide (bv < 0) = false := decide_eq_false hB
        by_cases hL : t + z < bv
        · have tL : decide (t + z < bv) = true := decide_eq_true hL
          have hx : X = true := by rw [HX.out]; exact decide_eq_true ⟨hE, .inr hL⟩
          subst hx
          clear hE hB hL
          go_wp2_with fail
          go_meet
          exact ⟨rfl, rfl⟩
        · have tL : decide (t + z < bv) = false := decide_eq_false hL
          have hx : X = false := by rw [HX.out]; exact decide_eq_false (fun h => h.2.elim hB hL)
          subst hx
          clear hE hB hL
          go_wp2_with fail
          go_meet
          exact ⟨rfl, rfl⟩
    · have tE : decide (t + z < 345686400000) = false := decide_eq_false hE
      have hx : X = false := by rw [HX.out]; exact decide_eq_false (fun h => hE h.1)
      subst hx
      clear hE
      go_wp2_with fail
      go_meet
      exact ⟨rfl, rfl⟩
  case rest =>
    obtain ⟨rfl, rfl⟩ := hcut
    cases X
    · have hR : R = s := by
        rw [HST.out, if_neg]
        exact of_decide_eq_false HX.out.symm
      go_wp2_with fail
      go_end0
      exact ⟨rfl, by rw [hR]; exact HS1.out, HF1.out⟩
    · have hR : R = { s with best := s.best.set arc (t + z), prev := s.prev.set arc p, q := hpush s.q ⟨t + z, arc⟩ } := by
        rw [HST.out, if_pos]
        exact of_decide_eq_true HX.out.symm
      have HR := hide hR
      clear hR
      have hS2 := (HS1.out.setB arc (t + z)).setP arc p
      have hS3 := (HS1.out.setP arc p).setB arc (t + z)
      have HW2 := hide hS2
      have HW3 := hide hS3
      have hne : a.gB ≠ a.gP := by
        have h := HS1.out.mem.1
        simp only [memOf, List.map_cons, List.map_nil, List.nodup_cons, List.mem_cons, List.not_mem_nil, or_false, not_or] at h
        exact fun e => h.2.2.2.2.2.2.1.1 e.symm
      clear hS2 hS3
      go_upto_region 2 with fail
      go_cut [50] (fun _ wx => SM w0 wx a bm fr nn m ad { s with best := s.best.set arc (t + z), prev := s.prev.set arc p } ∧ FrE a w wx)
      case first =>
        have hlB := HS1.out.lo a.gB (by simp)
        have hlP := HS1.out.lo a.gP (by simp)
        go_region_with (fail)
        all_goals
          go_wp2
          go_meet
          have hfB : ∀ {W : World} {i : Nat} {u : Value}, FrE a W (W.setCell ⟨a.gB, i, none⟩ u) := FrE.set hlB.2.1 hlB.2.2
          have hfP : ∀ {W : World} {i : Nat} {u : Value}, FrE a W (W.setCell ⟨a.gP, i, none⟩ u) := FrE.set hlP.2.1 hlP.2.2
          first | exact ⟨HW2.out, HF1.out.trans (hfB.trans hfP)⟩ | exact ⟨HW3.out, HF1.out.trans (hfP.trans hfB)⟩ | exact ⟨HW2.out.step (Nx.refl _).drew, (HF1.out.trans (hfB.trans hfP)).drew⟩ | exact ⟨HW3.out.step (Nx.refl _).drew, (HF1.out.trans (hfP.trans hfB)).drew⟩
      case rest =>
        have HSC := hide hcut.1
        have HFC := hide hcut.2
        have HPU := hide (w_HPush a.base a.gq s.q ⟨t + z, arc⟩ wc hcut.1.q HQ.out)
        clear hcut k2 k3 k4 k5 k6 f5 f6 hne
        go_wp2_with fail
        refine HPU.out.mono ?_
        rintro e w5 ⟨rfl, hQ5, hk5, hf5⟩
        go_wp2_with fail
        go_end0
        refine ⟨rfl, ?_, HFC.out.trans (FrE.of_q (by obtain ⟨_, _, _, h3, _⟩ := HSC.out.q; exact h3) hf5)⟩
        rw [HR.out]
        exact HSC.out.keep hk5 hQ5
end Go.Proofs.YtklgknepamebdaaGreatDoor
