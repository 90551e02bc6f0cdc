/- Worlds that only draw and lay blocks. Of no program. -/
import Derived.Test.YtdnmcpojjndjbaaGreatDoorQG1
import Derived.Sort.Grow
import Derived.Deep.RegionHeld3
import Derived.StillTailTactics
import Derived.Shelf.SlSortCmp.InsertionK
import Derived.Sort.WalkA
import Derived.Test.YtdnmcpojjndjbaaGreatDoorQShelfS
import Derived.Test.YtdnmcpojjndjbaaGreatDoorQG0
import Derived.Laws.OwnMore
import Derived.Laws.Bits64
import Derived.WalkKit
import Derived.IntWalk
namespace Go.Proofs.YtdnmcpojjndjbaaGreatDoor
open Go.RowKit Go.Sort

/-- Draws, and new blocks that stay as they were laid. -/
def Lays (w w' : World) : Prop := ∃ q os, w' = grow (w.drewN q) os
theorem Lays.refl (w : World) : Lays w w := ⟨0, #[], by simp [grow]; rfl⟩
theorem Lays.trans {a b c : World} (h : Lays a b) (k : Lays b c) : Lays a c := by
  obtain ⟨q, os, rfl⟩ := h
  obtain ⟨q', os', rfl⟩ := k
  refine ⟨q + q', os ++ os', ?_⟩
  have e : (grow (a.drewN q) os).drewN q' = grow ((a.drewN q).drewN q') os := rfl
  rw [e, grow_grow, World.drewN_drewN]
theorem Lays.drew {a w : World} (h : Lays a w) : Lays a w.drew := h.trans ⟨1, #[], by simp [grow]; rfl⟩
theorem Lays.drewN {a w : World} (h : Lays a w) (n : Nat) : Lays a (w.drewN n) := h.trans ⟨n, #[], by simp [grow]; rfl⟩
theorem Lays.alloc {a w : World} (h : Lays a w) (o : Obj) : Lays a (w.alloc o) := h.trans ⟨0, #[o], by rw [alloc_eq_grow]; rfl⟩
theorem Lays.nx {a w : World} (h : Lays a w) : Nx a w := by
  obtain ⟨q, os, rfl⟩ := h
  refine ⟨rfl, rfl, rfl, by simp [grow], fun k hk => ?_⟩
  show ((a.heap ++ os)[k]?) = _
  rw [Array.getElem?_append_left (by exact hk)]
theorem Lays.cell {a w : World} (h : Lays a w) {p : Addr} {v : Value} (hc : a.cell? p = some v) : w.cell? p = some v :=
  (Below.cell h.nx (World.block_lt_of_cell? a _ hc)).trans hc

end Go.Proofs.YtdnmcpojjndjbaaGreatDoor
/- A row of the call's own, as the sort's contracts read it. Of no program. -/
namespace Go.Proofs.YtdnmcpojjndjbaaGreatDoor
open Go.RowKit Go.Sort Go.Proofs Go.Shelf

section
variable {α : Type} [Inhabited α] {enc : α → List Value} {K : Nat}
theorem flatK_toList (hk : ∀ x, (enc x).length = K) (hK : 0 < K) (d : Array α) : (flatK enc K d).toList = d.toList.flatMap enc := by
  apply List.ext_getElem?
  intro t
  by_cases ht : t < d.size * K
  · have h1 : t / K < d.size := (Nat.div_lt_iff_lt_mul hK).2 ht
    have h2 : t % K < K := Nat.mod_lt _ hK
    have e : t / K * K + t % K = t := by rw [Nat.mul_comm]; exact Nat.div_add_mod t K
    have hx : d.toList[t / K]? = some d[t / K]! := by
      rw [Array.getElem?_toList, getElem!_pos d _ h1, Array.getElem?_eq_getElem h1]
    have hu : (enc d[t / K]!)[t % K]? = some (enc d[t / K]!)[t % K]! := by
      have h5 : t % K < (enc d[t / K]!).length := by rw [hk]; exact h2
      rw [getElem!_pos (enc d[t / K]!) (t % K) h5]
      exact List.getElem?_eq_getElem h5
    have h3 := flat_get (xs := d.toList) hk (t / K) _ hx (t % K) _ hu
    rw [e] at h3
    rw [h3, Array.getElem?_toList]
    have hs : t < (flatK enc K d).size := by rw [size_flatK]; exact ht
    rw [Array.getElem?_eq_getElem hs, ← getElem!_pos (flatK enc K d) t hs, get_flatK _ _ _ _ ht]
  · rw [List.getElem?_eq_none (by rw [Array.length_toList, size_flatK]; omega), List.getElem?_eq_none (by rw [flat_len hk, Array.length_toList]; omega)]

variable {w : World} {base g cap n : Nat} {e : TypeId} {xs : List α}
theorem holds_of_own (hk : ∀ x, (enc x).length = K) (hK : 0 < K) (hn : xs.length = n) (h : w.ownsRow base e K (.slice (some ⟨g, 0, none⟩) n cap) n (xs.flatMap enc)) : HoldsK enc K w g 0 xs.toArray := by
  intro j hj
  rw [size_flatK] at hj
  have hj' : j < n * K := by rw [← hn]; simpa using hj
  have hs : j < (flatK enc K xs.toArray).size := by rw [size_flatK]; exact hj
  refine ⟨?_, by rw [Nat.zero_add]; exact h.frozenAt j⟩
  rw [Nat.zero_add, h.cellAt j hj', ← flatK_toList hk hK xs.toArray, Array.getElem?_toList, Array.getElem?_eq_getElem hs, getElem!_pos (flatK enc K xs.toArray) j hs]
  rfl

theorem own_of_sorted (hk : ∀ x, (enc x).length = K) (hK : 0 < K) (h : w.ownsRow base e K (.slice (some ⟨g, 0, none⟩) n cap) n (xs.flatMap enc)) (ys : List α) (hy : ys.length = n) (m : Nat) (os : Array Obj) :
    (sortWorldK enc K w g 0 m ys.toArray os).ownsRow base e K (.slice (some ⟨g, 0, none⟩) n cap) n (ys.flatMap enc) ∧ Gr g w (sortWorldK enc K w g 0 m ys.toArray os) := by
  have hlt := (h.lt g rfl)
  have hF : (flatK enc K ys.toArray).size = n * K := by rw [size_flatK]; simp [hy]
  constructor
  · rcases h.2 with ⟨h0, _⟩ | ⟨g', cap', cur, hv, hg, hh, hnc, hcm, hcs, ht⟩
    · cases h0
    · cases hv
      refine ⟨by rw [flat_len hk, hy], .inr ⟨g, cap, putCells id 0 (flatK enc K ys.toArray) cur, rfl, hlt.1, ?_, hnc, hcm, by simp [putCells, hcs], ?_⟩⟩
      · unfold sortWorldK
        rw [heap_grow_old _ _ (by simpa [putRowK] using hlt.2)]
        simp [putRowK, putRow, mapBlock, Sort.ahead, Array.getElem?_modify, hh, onCells]
      · have hle : n * K ≤ cur.size := by rw [hcs]; exact Nat.mul_le_mul_right K hnc
        apply List.ext_getElem?
        intro j
        by_cases hj : j < n * K
        · rw [List.getElem?_take_of_lt hj, Array.getElem?_toList]
          have hjc : j < cur.size := by omega
          have hs : j < (flatK enc K ys.toArray).size := by rw [hF]; exact hj
          have e1 := flatK_toList hk hK ys.toArray
          have e2 : (ys.flatMap enc)[j]? = some (flatK enc K ys.toArray)[j]! := by
            show (ys.toArray.toList.flatMap enc)[j]? = _
            rw [← e1, Array.getElem?_toList, Array.getElem?_eq_getElem hs, getElem!_pos (flatK enc K ys.toArray) j hs]
          rw [e2]
          simp [putCells, hjc, hF, hj]
        · rw [List.getElem?_take_eq_none (by omega), List.getElem?_eq_none (by rw [flat_len hk, hy]; omega)]
  · refine ⟨rfl, rfl, rfl, by simp [sortWorldK, putRowK, grow], fun k hkk hne => ?_⟩
    unfold sortWorldK
    rw [heap_grow_old _ _ (by simpa [putRowK] using hkk)]
    have : g ≠ k := fun e => hne (by rw [e])
    simp [putRowK, putRow, mapBlock, Sort.ahead, Array.getElem?_modify, this]
end

end Go.Proofs.YtdnmcpojjndjbaaGreatDoor
/- Plain: sorting by insertion is stable. -/
namespace Go.Proofs.YtdnmcpojjndjbaaGreatDoor
open Go.Sort Go.Proofs
variable {α : Type} [Inhabited α]
theorem get_bang {d : Array α} {pre suf : List α} {x : α} (h : d.toList = pre ++ x :: suf) : d[pre.length]! = x := by
  have h1 : d[pre.length]? = some x := by rw [← Array.getElem?_toList, h, List.getElem?_append_right (Nat.le_refl _)]; simp
  rw [getElem!_def, h1]
theorem swp_list {d : Array α} {q suf : List α} {x y : α} (h : d.toList = q ++ y :: x :: suf) : (swp d (q.length + 1) q.length).toList = q ++ x :: y :: suf := by
  have h1 : d[q.length]! = y := get_bang h
  have h2 : d[q.length + 1]! = x := by
    have : d.toList = (q ++ [y]) ++ x :: suf := by rw [h]; simp
    have := get_bang this
    simpa using this
  unfold swp
  rw [h1, h2]
  simp only [Array.toList_setIfInBounds, h]
  rw [List.set_append_right _ _ (by omega), show q.length + 1 - q.length = 1 by omega, List.set_cons_succ, List.set_cons_zero, List.set_append_right _ _ (by omega), Nat.sub_self, List.set_cons_zero]
theorem inner_list (lt : α → α → Bool) : ∀ (n : Nat) (pre suf : List α) (x : α) (d : Array α), pre.length = n → d.toList = pre ++ x :: suf → ∃ p1 p2, pre = p1 ++ p2 ∧ (insInner lt 0 n d).toList = p1 ++ x :: (p2 ++ suf) ∧ (∀ y ∈ p2, lt x y = true) ∧ (∀ q y, p1 = q ++ [y] → lt x y = false)
  | 0, pre, suf, x, d, hn, hd => by
    have : pre = [] := List.eq_nil_of_length_eq_zero hn
    subst this
    exact ⟨[], [], rfl, by simpa [insInner] using hd, by simp, by simp⟩
  | n + 1, pre, suf, x, d, hn, hd => by
    have hne : pre ≠ [] := by intro e; subst e; simp at hn
    obtain ⟨q, y, rfl⟩ : ∃ q y, pre = q ++ [y] := ⟨pre.dropLast, pre.getLast hne, (List.dropLast_concat_getLast hne).symm⟩
    have hq : q.length = n := by simpa using hn
    have hx : d[n + 1]! = x := by rw [← hn]; exact get_bang hd
    have hy : d[n]! = y := by rw [← hq]; exact get_bang (suf := x :: suf) (by rw [hd]; simp)
    unfold insInner
    rw [hx, hy]
    by_cases hl : lt x y = true
    · rw [if_pos (by simp [hl])]
      obtain ⟨p1, p2, e1, e2, e3, e4⟩ := inner_list lt n q (y :: suf) x (swp d (n + 1) n) hq (by rw [← hq]; exact swp_list (by rw [hd]; simp))
      refine ⟨p1, p2 ++ [y], by rw [e1]; simp, by rw [e2]; simp, fun z hz => ?_, e4⟩
      rcases List.mem_append.1 hz with hz | hz
      · exact e3 z hz
      · simp at hz; subst hz; exact hl
    · rw [if_neg (by simp [hl])]
      refine ⟨q ++ [y], [], by simp, by simpa using hd, by simp, fun q' y' e => ?_⟩
      have := List.append_inj' e rfl
      simp at this
      rw [← this.2]
      simpa using hl
/-- Sorting by insertion is stable: S is the order at first, R the order behind it. -/
theorem outer_list (lt : α → α → Bool) {R S : α → α → Prop} (h1 : ∀ x y, lt x y = true → R x y) (h2 : ∀ x y, S y x → lt x y = false → R y x) (htr : ∀ x y z, R x y → R y z → R x z) :
    ∀ (m : Nat) (b i : Nat) (d : Array α) (pre suf : List α), b - i = m → i ≤ b → pre.length = i → d.toList = pre ++ suf → b = (pre ++ suf).length → pre.Pairwise R → (∀ y ∈ pre, ∀ x ∈ suf, S y x) → suf.Pairwise S → ((insOuter lt 0 b i d).toList.Perm (pre ++ suf) ∧ (insOuter lt 0 b i d).toList.Pairwise R)
  | 0, b, i, d, pre, suf, hm, hib, hp, hd, hb, hR, hS, hs => by
    have : suf = [] := List.eq_nil_of_length_eq_zero (by simp at hb; omega)
    subst this
    rw [insOuter_stop lt 0 b i d (by omega), hd]
    exact ⟨List.Perm.refl _, by simpa using hR⟩
  | m + 1, b, i, d, pre, suf, hm, hib, hp, hd, hb, hR, hS, hs => by
    cases suf with
    | nil => simp at hb; omega
    | cons x suf =>
      rw [insOuter_go lt 0 b i d (by omega)]
      obtain ⟨p1, p2, e1, e2, e3, e4⟩ := inner_list lt i pre suf x d hp hd
      have hsx := List.pairwise_cons.1 hs
      have hR' : (p1 ++ x :: p2).Pairwise R := by
        subst e1
        rw [List.pairwise_append] at hR ⊢
        have hlast : ∀ y ∈ p1, R y x := by
          intro y hy
          have hne : p1 ≠ [] := List.ne_nil_of_mem hy
          obtain ⟨q, z, e⟩ : ∃ q z, p1 = q ++ [z] := ⟨p1.dropLast, p1.getLast hne, (List.dropLast_concat_getLast hne).symm⟩
          have hz : R z x := h2 x z (hS z (by simp [e]) x (by simp)) (e4 q z e)
          rw [e] at hy
          rcases List.mem_append.1 hy with hy | hy
          · have hp := hR.1
            rw [e, List.pairwise_append] at hp
            exact htr y z x (hp.2.2 y hy z (by simp)) hz
          · simp at hy; subst hy; exact hz
        refine ⟨hR.1, List.pairwise_cons.2 ⟨fun y hy => h1 x y (e3 y hy), hR.2.1⟩, fun y hy z hz => ?_⟩
        rcases List.mem_cons.1 hz with rfl | hz
        · exact hlast y hy
        · exact hR.2.2 y hy z hz
      have hperm : (p1 ++ x :: p2).Perm (pre ++ [x]) := by
        subst e1
        exact (List.perm_middle).trans (List.perm_append_singleton x (p1 ++ p2)).symm
      have hl : (p1 ++ x :: p2).length = i + 1 := by have := hperm.length_eq; simp at this ⊢; omega
      have ih := outer_list lt h1 h2 htr m b (i + 1) (insInner lt 0 i d) (p1 ++ x :: p2) suf (by omega) (by simp at hb; omega) hl (by rw [e2]; simp) (by simp at hb hl ⊢; omega) hR'
        (fun y hy z hz => by
          have hy' := hperm.mem_iff.1 hy
          rcases List.mem_append.1 hy' with hy' | hy'
          · exact hS y hy' z (by simp [hz])
          · simp at hy'; subst hy'; exact hsx.1 z hz) hsx.2
      refine ⟨ih.1.trans ?_, ih.2⟩
      have := hperm.append_right suf
      simpa using this
theorem ins_stable (lt : α → α → Bool) {R S : α → α → Prop} (h1 : ∀ x y, lt x y = true → R x y) (h2 : ∀ x y, S y x → lt x y = false → R y x) (htr : ∀ x y z, R x y → R y z → R x z) (d : Array α) (hS : d.toList.Pairwise S) :
    (insertionSort lt d 0 d.size).toList.Perm d.toList ∧ (insertionSort lt d 0 d.size).toList.Pairwise R := by
  unfold insertionSort
  cases hd : d.toList with
  | nil =>
    have : d.size = 0 := by rw [← Array.length_toList, hd]; rfl
    rw [insOuter_stop lt 0 _ _ d (by omega), hd]
    exact ⟨List.Perm.refl _, List.Pairwise.nil⟩
  | cons x l =>
    rw [hd] at hS
    have hx := List.pairwise_cons.1 hS
    have hsz : d.size = l.length + 1 := by rw [← Array.length_toList, hd]; rfl
    exact outer_list lt h1 h2 htr _ d.size 1 d [x] l rfl (by omega) rfl hd (by rw [hsz]; simp) (by simp) (fun y hy z hz => by simp at hy; subst hy; exact hx.1 z hz) hx.2
end Go.Proofs.YtdnmcpojjndjbaaGreatDoor
/- The stable sort of what is left, of fewer than 20; products and quotients of 64 bits. -/
namespace Go.Proofs.YtdnmcpojjndjbaaGreatDoor
open Go.RowKit Go.Sort Go.Proofs Go.Shelf

theorem w_isNaNU (a : Int) (w : World) : Calls Tryz.prog 83 #[.int .u64 a] w fun e w' => e = .returned (.bool false) ∧ w = w' := by
  go_enter Tryz.func83, Tryz.ntmps83
  go_wp2
  go_ret
  exact ⟨rfl, rfl⟩
theorem w_CompareU (a b : Int) (w : World) : Calls Tryz.prog 69 #[.int .u64 a, .int .u64 b] w fun e w' => e = .returned (.int .i64 (cmpI a b)) ∧ w = w' := by
  by_cases h1 : a < b
  · go_enter Tryz.func69, Tryz.ntmps69
    go_wp2_with (go_at_call 83; refine (w_isNaNU _ _).mono ?_; rintro e w' ⟨rfl, rfl⟩)
    go_ret
    exact ⟨ret_int (by unfold cmpI; simp [h1]), rfl⟩
  · by_cases h2 : b < a
    · go_enter Tryz.func69, Tryz.ntmps69
      go_wp2_with (go_at_call 83; refine (w_isNaNU _ _).mono ?_; rintro e w' ⟨rfl, rfl⟩)
      go_ret
      exact ⟨ret_int (by unfold cmpI; simp [h1, h2]), rfl⟩
    · go_enter Tryz.func69, Tryz.ntmps69
      go_wp2_with (go_at_call 83; refine (w_isNaNU _ _).mono ?_; rintro e w' ⟨rfl, rfl⟩)
      go_ret
      exact ⟨ret_int (by unfold cmpI; rw [if_neg (by omega), if_neg (by omega)]), rfl⟩

/-- A number with what is left of it. -/
def encRest (p : Nat × Int) : List Value := [.int .i64 (p.1 : Int), .int .u64 p.2]
theorem encRest_len (p : Nat × Int) : (encRest p).length = 2 := rfl
theorem encRest_one (p : Nat × Int) : ∀ v ∈ encRest p, v.oneCell' = true := by
  intro v hv; simp [encRest] at hv; rcases hv with rfl | rfl <;> rfl
theorem w_cmpRest (x y : Nat × Int) (w : World) : Calls Tryz.prog 68 #[.agg (encRest x).toArray, .agg (encRest y).toArray] w fun e w' => e = .returned (.int .i64 (cmpI y.2 x.2)) ∧ Lays w w' := by
  unfold encRest
  go_enter Tryz.func68, Tryz.ntmps68
  go_wp2_with (go_at_call 69; refine (w_CompareU _ _ _).mono ?_; rintro e w' ⟨rfl, rfl⟩)
  go_ret
  exact ⟨rfl, ((Lays.refl _).alloc _).alloc _⟩
def restC (x y : Nat × Int) : Int := cmpI y.2 x.2
theorem restC_lt (x y : Nat × Int) : ltOf restC x y = true ↔ y.2 < x.2 := by unfold ltOf restC; rw [decide_eq_true_eq]; unfold cmpI; split <;> (try split) <;> omega
/-- Those ahead come first. -/
def Ahead (a b : Nat × Int) : Prop := b.2 < a.2 ∨ (a.2 = b.2 ∧ a.1 < b.1)
theorem rest_stable (d : Array (Nat × Int)) (hS : d.toList.Pairwise (fun a b => a.1 < b.1)) : (insertionSort (ltOf restC) d 0 d.size).toList.Perm d.toList ∧ (insertionSort (ltOf restC) d 0 d.size).toList.Pairwise Ahead :=
  ins_stable (ltOf restC) (R := Ahead) (S := fun a b => a.1 < b.1) (fun x y h => .inl ((restC_lt x y).1 h)) (fun x y h1 h2 => by
    have h3 : ¬ y.2 < x.2 := fun h => by rw [(restC_lt x y).2 h] at h2; cases h2
    unfold Ahead; omega) (fun x y z h1 h2 => by unfold Ahead at *; omega) d hS

set_option maxHeartbeats 1000000 in
theorem w_SortRests {w : World} {base b cap n : Nat} (xs : List (Nat × Int)) (hn : xs.length = n) (hsz : n < 20) (hS : xs.Pairwise (fun a b => a.1 < b.1)) (h : w.ownsRow base 95 2 (.slice (some ⟨b, 0, none⟩) n cap) n (xs.flatMap encRest)) :
    Calls Tryz.prog 67 #[.slice (some ⟨b, 0, none⟩) n cap, .func (.func 68) #[] #[]] w fun en w' => en = .returned (.tuple #[]) ∧
      ∃ ys : List (Nat × Int), ys.Perm xs ∧ ys.Pairwise Ahead ∧ w'.ownsRow base 95 2 (.slice (some ⟨b, 0, none⟩) n cap) n (ys.flatMap encRest) ∧ Gr b w w' := by
  have hlt := (h.lt b rfl)
  have e1 : xs.toArray.size = n := by simpa using hn
  have hH := holds_of_own encRest_len (by omega) hn h
  have hc : CmpLays Tryz.prog 68 #[] encRest 2 restC b 0 xs.toArray.size w := fun m os dk _ x y => by
    rw [Array.append_empty]
    exact w_cmpRest x y _
  have hs := AnyQ.insertionSortCmpFunc Tryz.insRest 2 Tryz.isAgg95 Tryz.sizeOf95 encRest encRest_len encRest_one restC 68 #[] b 0 cap 0 xs.toArray.size xs.toArray w (enters_of Tryz.func68 (by kernel_rfl) rfl) hc hH hlt.2 (Nat.zero_le _) (Nat.le_refl _) (by omega)
  change Calls Tryz.prog 94 _ _ _ at hs
  rw [e1] at hs
  have HS := hide (hs.mono fun en w' ⟨he, m, os, hw⟩ => (show en = Ending.returned (.tuple #[]) ∧ ∃ ys : List (Nat × Int), ys.Perm xs ∧ ys.Pairwise Ahead ∧ w'.ownsRow base 95 2 (.slice (some ⟨b, 0, none⟩) n cap) n (ys.flatMap encRest) ∧ Gr b w w' from by
    have hst := rest_stable xs.toArray (by simpa using hS)
    rw [e1] at hst
    refine ⟨he, (insertionSort (ltOf restC) xs.toArray 0 n).toList, by simpa using hst.1, hst.2, ?_⟩
    have := own_of_sorted encRest_len (by omega) h (insertionSort (ltOf restC) xs.toArray 0 n).toList (by rw [hst.1.length_eq]; simpa using hn) m os
    rw [hw]
    simpa using this))
  clear hs hc hH h hlt e1 hn hS
  have HT := hide (show Calls Tryz.prog 82 #[.slice (some ⟨b, 0, none⟩) n cap, .int .i64 n, .func (.func 68) #[] #[]] w fun en w' => en = .returned (.tuple #[]) ∧
      ∃ ys : List (Nat × Int), ys.Perm xs ∧ ys.Pairwise Ahead ∧ w'.ownsRow base 95 2 (.slice (some ⟨b, 0, none⟩) n cap) n (ys.flatMap encRest) ∧ Gr b w w' from by
    have t1 : decide ((20 : Int) ≤ (n : Int)) = false := decide_eq_false (by omega)
    have t2 : decide ((20 : Int) < (n : Int)) = false := decide_eq_false (by omega)
    go_enter Tryz.func82, Tryz.ntmps82
    go_wp2_with fail
    refine wp_loop_rounds 1 ?_
    rw [rounds_succ]
    go_wp2_with (go_at_call 94; refine (HS.out).mono ?_; rintro e w1 ⟨rfl, hw1⟩)
    refine wp_loop_rounds 1 ?_
    rw [rounds_succ]
    go_wp2_with fail
    go_end0
    exact ⟨rfl, hw1⟩)
  go_enter Tryz.func67, Tryz.ntmps67
  go_wp2_with (go_at_call 82; refine (HT.out).mono ?_; rintro e w1 ⟨rfl, hw1⟩)
  go_end0
  exact ⟨rfl, hw1⟩
end Go.Proofs.YtdnmcpojjndjbaaGreatDoor
/- Products and quotients of 64 bits, whose upper half is 0. -/
namespace Go.Proofs.YtdnmcpojjndjbaaGreatDoor
open Go.RowKit Go.Proofs Go.Shelf

theorem w_Mul64 (x y z : Nat) (w : World) (hx : x ≤ 4294967296) (hy : y ≤ 2147483648) (hz : x * y = z) :
    Calls Tryz.prog 65 #[.int .u64 (x : Int), .int .u64 (y : Int)] w fun e w' => e = .returned (.tuple #[.int .u64 0, .int .u64 (z : Int)]) ∧ w = w' := by
  subst hz
  have hb : x * y ≤ 4294967296 * 2147483648 := Nat.mul_le_mul hx hy
  have hcon := Any.bits_Mul64 Tryz.mul64 x y (by omega) (by omega) w
  change Calls Tryz.prog 65 _ _ _ at hcon
  refine hcon.mono ?_
  rintro e w' ⟨rfl, rfl⟩
  have e1 : x * y / 18446744073709551616 = 0 := Nat.div_eq_of_lt (by omega)
  have e2 : x * y % 18446744073709551616 = x * y := Nat.mod_eq_of_lt (by omega)
  rw [e1, e2]
  exact ⟨rfl, rfl⟩
set_option maxRecDepth 100000 in
theorem w_Div64 (z y q r : Nat) (w : World) (hz : z ≤ 9223372036854775808) (hy : 0 < y) (hy2 : y ≤ 9223372036854775807) (hq : z / y = q) (hr : z % y = r) :
    Calls Tryz.prog 66 #[.int .u64 0, .int .u64 (z : Int), .int .u64 (y : Int)] w fun e w' => e = .returned (.tuple #[.int .u64 (q : Int), .int .u64 (r : Int)]) ∧ ∃ m, w' = w.drewN m := by
  subst hq hr
  have t0 : ((y : Int) == 0) = false := by simp; omega
  have t1 : decide ((y : Int) ≤ 0) = false := decide_eq_false (by omega)
  have hd : z / y ≤ z := Nat.div_le_self z y
  have hm : z % y < y := Nat.mod_lt _ hy
  have d1 : (z : Int).tdiv (y : Int) = ((z / y : Nat) : Int) := by rw [Int.tdiv_eq_ediv_of_nonneg (by omega)]; rfl
  have d2 : (z : Int).tmod (y : Int) = ((z % y : Nat) : Int) := by rw [Int.tmod_eq_emod_of_nonneg (by omega)]; rfl
  generalize z / y = q at *
  generalize z % y = r at *
  have d3 : IntKind.u64.wrap ((q : Nat) : Int) = ((q : Nat) : Int) := by rw [IntKind.wrap_u64]; omega
  have d4 : IntKind.u64.wrap ((r : Nat) : Int) = ((r : Nat) : Int) := by rw [IntKind.wrap_u64]; omega
  go_enter Tryz.func66, Tryz.ntmps66
  go_wp2_with fail
  go_quiet (fail)
  go_wp2_with fail
  go_ret2
  exact ⟨rfl, _, rfl⟩
end Go.Proofs.YtdnmcpojjndjbaaGreatDoor
/- A whole given out by parts: the program's. -/
namespace Go.Proofs.YtdnmcpojjndjbaaGreatDoor
open Go.RowKit Go.Sort Go.Proofs Go.Shelf

theorem el_Int : ElemOf Tryz.prog 22 3 1 8 := ElemOf.mk' (z := .int .i64 0) Tryz.underlying22 (by kernel_rfl) rfl
theorem el_Rest : ElemOf Tryz.prog 89 95 2 16 := ElemOf.mk' (z := .agg #[.int .i64 0, .int .u64 0]) Tryz.underlying89 (by kernel_rfl) rfl
theorem encI_len (x : Int) : (encI x).length = 1 := rfl
theorem encI_one (x : Int) : ∀ v ∈ encI x, v.oneCell' = true := by
  intro v hv; simp [encI] at hv; subst hv; rfl
/-- Rows of two types lie in blocks of their own. -/
theorem own_apart {w : World} {b1 b2 : Nat} {e1 e2 : TypeId} {K1 K2 n1 n2 : Nat} {v1 v2 : Value} {xs1 xs2 : List Value} (h1 : w.ownsRow b1 e1 K1 v1 n1 xs1) (h2 : w.ownsRow b2 e2 K2 v2 n2 xs2) (hne : e1 ≠ e2) : v1.ownBlock = none ∨ v1.ownBlock ≠ v2.ownBlock := by
  rcases h1.2 with ⟨rfl, _⟩ | ⟨g, cap, cur, rfl, _, hg, _⟩
  · exact .inl rfl
  · right
    intro e
    rcases h2.2 with ⟨rfl, _⟩ | ⟨g2, cap2, cur2, rfl, _, hg2, _⟩
    · cases e
    · have e3 : g = g2 := by injection e
      subst e3
      rw [hg] at hg2
      injection hg2 with hg2
      injection hg2 with _ h2 _
      exact hne h2
theorem sumL_mem : ∀ {l : List Int} {p : Int}, (∀ x ∈ l, 0 ≤ x) → p ∈ l → p ≤ sumL l
  | x :: l, p, h, hp => by
    have h0 := (sumL_bd l 0 0 |> fun f => f) 
    have h1 : 0 ≤ sumL l := by
      clear h0 hp
      induction l with
      | nil => simp [sumL]
      | cons y l ih =>
        have h2 := h y (by simp)
        have h3 := ih (fun z hz => h z (by simp at hz ⊢; rcases hz with rfl | hz <;> simp_all))
        simp only [sumL]; omega
    have hx := h x (by simp)
    simp only [sumL]
    rcases List.mem_cons.1 hp with rfl | hp
    · omega
    · have := sumL_mem (fun z hz => h z (List.mem_cons_of_mem _ hz)) hp
      omega
theorem q_bd {cents S : Int} {parts : List Int} (hc : 0 ≤ cents) (hp : ∀ p ∈ parts, 0 ≤ p) (hS : sumL parts = S) (h0 : 0 < S) : ∀ q ∈ qsN (numsD cents parts) S, 0 ≤ q ∧ q ≤ cents := by
  intro q hq
  unfold qsN numsD at hq
  rw [List.map_map] at hq
  obtain ⟨p, hpm, rfl⟩ := List.mem_map.1 hq
  have h1 := hp p hpm
  have h2 := sumL_mem hp hpm
  rw [hS] at h2
  refine ⟨Int.ediv_nonneg (Int.mul_nonneg hc h1) (by omega), ?_⟩
  refine Int.ediv_le_of_le_mul h0 ?_
  exact Int.mul_le_mul_of_nonneg_left h2 hc
/-- The remainders with their places. -/
def restsN (rs : List Int) (k : Nat) : List (Nat × Int) := (List.range k).map (fun i => (i, rs.getD i 0))
theorem restsN_snoc (rs : List Int) (k : Nat) : restsN rs (k + 1) = restsN rs k ++ [(k, rs.getD k 0)] := by unfold restsN; rw [List.range_succ, List.map_append]; rfl
theorem restsN_len (rs : List Int) (k : Nat) : (restsN rs k).length = k := by simp [restsN]
theorem restsN_pw (rs : List Int) (k : Nat) : (restsN rs k).Pairwise (fun a b => a.1 < b.1) := by
  unfold restsN
  rw [List.pairwise_map]
  exact List.pairwise_lt_range
theorem qs_take (cents S : Int) (parts : List Int) (k : Nat) (hk : k < parts.length) : (qsN (numsD cents parts) S).take (k + 1) = (qsN (numsD cents parts) S).take k ++ [cents * parts[k] / S] := by
  rw [List.take_succ_eq_append_getElem (by unfold qsN numsD; simpa using hk)]
  simp [qsN, numsD]
theorem rs_at (cents S : Int) (parts : List Int) (k : Nat) (hk : k < parts.length) : (rsN (numsD cents parts) S).getD k 0 = cents * parts[k] % S := by
  unfold rsN numsD
  rw [List.getD_eq_getElem?_getD, List.getElem?_eq_getElem (by simpa using hk)]
  simp
set_option maxRecDepth 100000 in
set_option maxHeartbeats 4000000 in
theorem w_DivideB (lo : Nat) (A : Option Addr) (c : Nat) (cents : Int) (parts : List Int) (w : World) (hR : Rd w lo A 1 encI parts) (hl : parts.length < 20) (hc0 : 0 ≤ cents ∧ cents ≤ 1000000000) (hp0 : ∀ p ∈ parts, 0 ≤ p ∧ p ≤ 1000000000) (hs0 : 0 < sumL parts) :
    Calls Tryz.prog 52 #[.int .i64 cents, .slice A parts.length c] w fun e w' => ∃ (A' : Option Addr) (c' : Nat) (zs : List Int), e = .returned (.slice A' zs.length c') ∧ Divided cents parts zs ∧ Rd w' w.heap.size A' 1 encI zs ∧ Nx w w' := by
  obtain ⟨cn, rfl⟩ := Int.eq_ofNat_of_zero_le hc0.1
  generalize hn : parts.length = n at *
  have HR := hide hR
  have HN := hide hn
  have HP := hide hp0
  have HS0 := hide hs0
  clear hR hn hp0 hs0
  have hsb := hide (fun k => sumL_bd (parts.take k) 0 1000000000 (fun x hx => HP.out x (List.mem_of_mem_take hx)))
  go_enter Tryz.func52, Tryz.ntmps52
  go_wp2
  go_loop [5, 7, 21] (fun s _ i => ∃ k : Nat, k ≤ n ∧ i = .int .i64 k ∧ s = .int .i64 (sumL (parts.take k))) (fun _ _ i => n - (intOf i).toNat)
  case atStart => exact ⟨0, Nat.zero_le _, rfl, rfl⟩
  case round =>
    obtain ⟨k, hk, rfl, rfl⟩ := hrel
    have hb := hsb.out k
    have hkl : (parts.take k).length ≤ k := List.length_take_le _ _
    by_cases hlt : k < n
    · have hlt' : k < parts.length := by have := HN.out; omega
      have HT := hide (sumL_take parts k hlt')
      generalize sumL (parts.take k) = s at *
      have hpk := HP.out parts[k] (List.getElem_mem hlt')
      obtain ⟨b, off, rfl, _, hb, _, hc⟩ := HR.out.open_ (Nx.refl w) (by omega)
      have c0 : w.cell? ⟨b, off + k, none⟩ = some (.int .i64 parts[k]) := by have := hc k hlt' 0 _ rfl; simpa using this
      clear hc
      go_wp2
      go_round
      case rel => exact ⟨k + 1, by omega, by go_num, by rw [HT.out]⟩
      case measure => simp [intOf]; omega
    · have HK := hide (show parts.take k = parts from List.take_of_length_le (by have := HN.out; omega))
      have hS1 := HS0.out
      rw [← HK.out] at hS1
      generalize hSd : sumL (parts.take k) = S at *
      have HSD := hide (show sumL parts = S by rw [← HK.out, hSd])
      clear hSd
      have ek : k = n := by omega
      subst ek
      clear hlt hk
      obtain ⟨sn, rfl⟩ := Int.eq_ofNat_of_zero_le (show 0 ≤ S by omega)
      have hsn : 0 < sn := by omega
      have hsn2 : sn ≤ 20000000000 := by omega
      go_wp2_with fail
      obtain ⟨nums, hnums⟩ : ∃ x, x = numsD (cn : Int) parts := ⟨_, rfl⟩
      have HNU := hide hnums
      have hnl : nums.length = k := by rw [hnums]; unfold numsD; rw [List.length_map]; exact HN.out
      have HNL := hide hnl
      clear hnums hnl
      have HQ1 := hide (fun (pn : Nat) (hm : (pn : Int) ∈ parts) => (show 0 ≤ (cn : Int) * (pn : Int) / (sn : Int) ∧ (cn : Int) * (pn : Int) / (sn : Int) ≤ 1000000000 from by
        have := q_bd (cents := (cn : Int)) (by omega) (fun p hp => (HP.out p hp).1) HSD.out (by omega) ((cn : Int) * (pn : Int) / (sn : Int)) (by unfold qsN numsD; rw [List.map_map]; exact List.mem_map.2 ⟨_, hm, rfl⟩)
        omega))
      have HQB := hide (fun j => (show 0 ≤ sumL ((qsN nums sn).take j) ∧ sumL ((qsN nums sn).take j) ≤ 20000000000 from by
        have h1 := sumL_bd ((qsN nums sn).take j) 0 1000000000 (fun x hx => by
          have h2 := List.mem_of_mem_take hx
          rw [HNU.out] at h2
          have := q_bd (cents := (cn : Int)) (by omega) (fun p hp => (HP.out p hp).1) HSD.out (by omega) x h2
          omega)
        have h2 : ((qsN nums sn).take j).length ≤ (qsN nums sn).length := by rw [List.length_take]; omega
        rw [qsN_len, HNL.out] at h2
        omega))
      go_loopw [8, 9, 10, 32] (fun v8 v9 l i wr => ∃ j : Nat, j ≤ k ∧ i = .int .i64 j ∧ wr.ownsRow w.heap.size 3 1 v8 ((qsN nums sn).take j).length (((qsN nums sn).take j).flatMap encI) ∧ wr.ownsRow w.heap.size 95 2 v9 (restsN (rsN nums sn) j).length ((restsN (rsN nums sn) j).flatMap encRest) ∧ l = .int .i64 ((cn : Int) - sumL ((qsN nums sn).take j)) ∧ Nx w wr) (fun _ _ _ i _ => k - (intOf i).toNat)
      case atStart => exact ⟨0, Nat.zero_le _, rfl, World.ownsRow_nil _ _ _ _, World.ownsRow_nil _ _ _ _, by simp [sumL], Nx.refl _⟩
      case round =>
        obtain ⟨j, hj, rfl, h8, h9, rfl, hbw⟩ := hrel
        by_cases hlt : j < k
        · have hlt' : j < parts.length := by have := HN.out; omega
          have hpk := HP.out parts[j] (List.getElem_mem hlt')
          obtain ⟨b, off, rfl, _, hb, hbr, hc⟩ := HR.out.open_ hbw (by omega)
          have c0 : wr.cell? ⟨b, off + j, none⟩ = some (.int .i64 parts[j]) := by have := hc j hlt' 0 _ rfl; simpa using this
          clear hc
          have HT := hide (show (qsN nums sn).take (j + 1) = (qsN nums sn).take j ++ [(cn : Int) * parts[j] / sn] by rw [HNU.out]; exact qs_take _ _ _ _ hlt')
          have HX := hide (show restsN (rsN nums sn) (j + 1) = restsN (rsN nums sn) j ++ [(j, (cn : Int) * parts[j] % sn)] by rw [restsN_snoc, HNU.out, rs_at _ _ _ _ hlt'])
          have hsb8 := HQB.out j
          have hln : ((qsN nums sn).take j).length ≤ j := List.length_take_le _ _
          have hln9 : (restsN (rsN nums sn) j).length = j := restsN_len _ _
          have HLN9 := hide hln9
          clear hln9
          generalize (qsN nums sn).take j = L8 at *
          generalize restsN (rsN nums sn) j = L9 at *
          obtain ⟨pn, hpn⟩ := Int.eq_ofNat_of_zero_le hpk.1
          rw [hpn] at c0 hpk HT HX
          have hmb : cn * pn ≤ 1000000000 * 1000000000 := Nat.mul_le_mul (by omega) (by omega)
          have hqb := HQ1.out pn (by rw [← hpn]; exact List.getElem_mem hlt')
          have eq1 : (cn : Int) * (pn : Int) / (sn : Int) = ((cn * pn / sn : Nat) : Int) := by rw [Int.natCast_ediv, Int.natCast_mul]
          have eq2 : (cn : Int) * (pn : Int) % (sn : Int) = ((cn * pn % sn : Nat) : Int) := by rw [Int.natCast_emod, Int.natCast_mul]
          rw [eq1] at HT hqb
          rw [eq2] at HX
          clear hpn eq1 eq2
          generalize hz : cn * pn = z at *
          have hrb : z % sn < sn := Nat.mod_lt _ hsn
          generalize hqd : z / sn = q at *
          generalize hrd : z % sn = r at *
          have HM := hide (fun w => w_Mul64 cn pn z w (by omega) (by omega) hz)
          have HDv := hide (fun w => w_Div64 z sn q r w (by omega) hsn (by omega) hqd hrd)
          have HAP := hide (own_apart h8 h9 (by decide))
          have HAP2 := hide (own_apart h9 h8 (by decide))
          clear hz hqd hrd
          have u1 : IntKind.u64.wrap (cn : Int) = (cn : Int) := by rw [IntKind.wrap_u64]; omega
          have u2 : IntKind.u64.wrap (pn : Int) = (pn : Int) := by rw [IntKind.wrap_u64]; omega
          have u3 : IntKind.u64.wrap (sn : Int) = (sn : Int) := by rw [IntKind.wrap_u64]; omega
          have hsz := hbw.sz
          go_wp2_with (first
            | (go_at_call 65; refine (HM.out _).mono ?_; rintro e w1 ⟨rfl, rfl⟩)
            | (go_at_call 66; refine (HDv.out _).mono ?_; rintro e w1 ⟨rfl, m1, rfl⟩)
            | (at_builtin; refine wpApp rfl _ _ _ rfl el_Int encI encI_len encI_one (by omega) (by omega) w.heap.size _ L8 rfl ((own_nx h8 ((Nx.refl _).drewN m1)).alloc _) _ (q : Int) _ rfl (hnew rfl) rfl (by omega) (by simp; omega) ?_; intro v2 w2 hown2 hg2; (have h9' := ((own_nx h9 ((Nx.refl _).drewN m1)).alloc (.cells #[.int .i64 (q : Int)] 3)).kept hg2 HAP2.out); (have hbw2 := ((hbw.drewN m1).alloc (.cells #[.int .i64 (q : Int)] 3)).grown hg2 (own_blk_lt h8)))
            | (at_builtin; refine wpApp rfl _ _ _ rfl el_Rest encRest encRest_len encRest_one (by omega) (by omega) w.heap.size _ L9 rfl (h9'.alloc _) _ (j, (r : Int)) _ rfl (hnew rfl) rfl (by have := HLN9.out; omega) (by have := hbw2.sz; simp; omega) ?_; intro v3 w3 hown3 hg3))
          have h8' := (hown2.alloc (.cells #[.int .i64 (j : Int), .int .u64 (r : Int)] 95)).kept hg3 (own_apart hown2 h9' (by decide))
          have hbw3 := (hbw2.alloc (.cells #[.int .i64 (j : Int), .int .u64 (r : Int)] 95)).grown hg3 (own_blk_lt h9')
          go_roundw
          case rel => exact ⟨j + 1, by omega, by go_num, by rw [HT.out]; exact h8', by rw [HX.out]; exact hown3, by rw [HT.out, sumL_snoc]; go_num, hbw3⟩
          case measure => simp [intOf]; omega
        · have ej : j = k := by omega
          subst ej
          clear hlt hj
          have hql : (qsN nums sn).length = j := by rw [qsN_len, HNL.out]
          have hrl : (rsN nums sn).length = j := by rw [rsN_len, HNL.out]
          have hj1 : 0 < j := by
            rcases Nat.eq_zero_or_pos j with h0 | h0
            · have e1 : parts = [] := List.eq_nil_of_length_eq_zero (by rw [HN.out, h0])
              have e2 := HSD.out
              rw [e1] at e2
              simp only [sumL] at e2
              omega
            · exact h0
          rw [restsN_len] at h9
          have e8 : (qsN nums sn).take j = qsN nums sn := List.take_of_length_le (by omega)
          rw [e8] at h8 ⊢
          rw [hql] at h8
          have hLb := leftN_bd (nums := nums) (F := (sn : Int)) (c := (cn : Int)) (by omega) (by rw [HNU.out, numsD_sum, HSD.out])
          have HLd := hide (show leftN (cn : Int) nums sn = (cn : Int) - sumL (qsN nums sn) from rfl)
          rw [← HLd.out]
          rw [HNL.out] at hLb
          generalize hLe : leftN (cn : Int) nums sn = L at *
          obtain ⟨ln, rfl⟩ := Int.eq_ofNat_of_zero_le hLb.1
          have HLE := hide hLe
          have hR9 := hide hrl
          have hQ8 := hide hql
          clear hLe e8 hql
          have HAP := own_apart h8 h9 (by decide)
          have HAP2 := own_apart h9 h8 (by decide)
          rcases h9.2 with ⟨rfl, h0⟩ | ⟨g9, cap9, cur9, rfl, hg9, hh9, hjc9, hcm9, _⟩
          · omega
          rcases h8.2 with ⟨rfl, h0⟩ | ⟨g8, cap8, cur8, rfl, hg8, hh8, _, _⟩
          · omega
          clear hh9 hh8
          have HSo := hide (fun W (h : W.ownsRow w.heap.size 95 2 (.slice (some ⟨g9, 0, none⟩) j cap9) j ((restsN (rsN nums sn) j).flatMap encRest)) => w_SortRests (w := W) (restsN (rsN nums sn) j) (restsN_len _ _) hl (restsN_pw _ _) h)
          have hne : g8 ≠ g9 := by
            rcases HAP with h | h
            · cases h
            · intro e; exact h (by rw [e]; rfl)
          unfold maxLen at hcm9
          go_wp2_with (go_at_call 67; refine (HSo.out _ h9).mono ?_; rintro e w3 ⟨rfl, ys, hperm, hpw, h9', hgr9⟩)
          have h8' := h8.kept hgr9 HAP
          have hbw3 := hbw.grown hgr9 (fun k hk => by injection hk with hk; omega)
          have HUP := hide (fun m => sorted_up (rs := rsN nums sn) (ys := ys) (by rw [hR9.out]; exact hperm) hpw m)
          have hyl : ys.length = j := by rw [hperm.length_eq, restsN_len]
          have HYL := hide hyl
          have HYM := hide (fun a (ha : a ∈ ys) => (show a.1 < j from by
            have := hperm.mem_iff.1 ha
            unfold restsN at this
            obtain ⟨i, hi, rfl⟩ := List.mem_map.1 this
            exact List.mem_range.1 hi))
          have HQE := hide (fun q (hq : q ∈ qsN nums sn) => (show 0 ≤ q ∧ q ≤ 1000000000 from by
            rw [HNU.out] at hq
            have := q_bd (cents := (cn : Int)) (by omega) (fun p hp => (HP.out p hp).1) HSD.out (by omega) q hq
            omega))
          clear hyl hperm hpw HAP HAP2 h8 h9 hbw
          go_loopw [18, 75] (fun _ i wr => ∃ m : Nat, m ≤ ln ∧ i = .int .i64 m ∧ wr.ownsRow w.heap.size 3 1 (.slice (some ⟨g8, 0, none⟩) j cap8) j ((bump (qsN nums sn) ((ys.map (·.1)).take m)).flatMap encI) ∧ wr.ownsRow w.heap.size 95 2 (.slice (some ⟨g9, 0, none⟩) j cap9) j (ys.flatMap encRest) ∧ Nx w wr) (fun _ i _ => ln - (intOf i).toNat)
          case atStart => exact ⟨0, Nat.zero_le _, rfl, by rw [List.take_zero, bump_nil]; exact h8', h9', hbw3⟩
          case round =>
            clear h8' h9' hbw3
            obtain ⟨m, hm, rfl, h8, h9, hbw⟩ := hrel
            by_cases hlt : m < ln
            · have hmy : m < ys.length := by have := HYL.out; omega
              have hcx : ((ys.map (·.1)).take (m + 1)) = (ys.map (·.1)).take m ++ [ys[m].1] := by rw [List.take_succ_eq_append_getElem (by simpa using hmy)]; simp
              have hnd := (HUP.out (m + 1)).nd
              rw [hcx] at hnd
              have hnot : ys[m].1 ∉ (ys.map (·.1)).take m := fun h => (List.nodup_append.1 hnd).2.2 _ h _ (by simp) rfl
              have haj := HYM.out ys[m] (List.getElem_mem hmy)
              have c0 : wr.cell? ⟨g9, m * 2, none⟩ = some (.int .i64 (ys[m].1 : Int)) := own_cell encRest_len HYL.out h9 m hmy 0 _ rfl
              have c1 : wr.cell? ⟨g9, m * 2 + 1, none⟩ = some (.int .u64 ys[m].2) := own_cell encRest_len HYL.out h9 m hmy 1 _ rfl
              have hbl : (bump (qsN nums sn) ((ys.map (·.1)).take m)).length = j := by rw [bump_len, hQ8.out]
              have hin : ys[m].1 < (bump (qsN nums sn) ((ys.map (·.1)).take m)).length := by omega
              have hbs := bump_snoc (qsN nums sn) _ _ hnot hin
              have hbg := bump_get (qsN nums sn) ((ys.map (·.1)).take m) ys[m].1 hin
              rw [if_neg hnot] at hbg
              have hqb := HQE.out _ (List.getElem_mem (l := qsN nums sn) (n := ys[m].1) (by rw [hQ8.out]; exact haj))
              rw [← hbg] at hqb
              have d0 : wr.cell? ⟨g8, ys[m].1, none⟩ = some (.int .i64 ((bump (qsN nums sn) ((ys.map (·.1)).take m))[ys[m].1]'hin)) := by have := own_cell encI_len hbl h8 ys[m].1 hin 0 _ rfl; simpa using this
              have f0 : wr.frozen? ⟨g8, ys[m].1, none⟩ = false := h8.frozenAt _
              rw [← hcx] at hbs
              clear hbg hnd hnot hcx
              generalize (bump (qsN nums sn) ((ys.map (·.1)).take m)) = B at *
              have HBS := hide hbs
              clear hbs
              have hlt8 := h8.lt g8 rfl
              have hlt9 := h9.lt g9 rfl
              have h8s := (own_set encI_len hbl h8 ys[m].1 hin 0 (by omega) (.int .i64 (B[ys[m].1]'hin + 1)) (B[ys[m].1]'hin + 1) rfl ys[m].1 (by omega)).alloc (.cells #[.int .i64 (ys[m].1 : Int), .int .u64 ys[m].2] 95)
              have h9s := (h9.kept ((Gr.refl g8 _).setS (p := ⟨g8, ys[m].1, none⟩) (.inl rfl) (.int .i64 (B[ys[m].1]'hin + 1))) (.inr (by intro e; injection e with e; exact hne e.symm))).alloc (.cells #[.int .i64 (ys[m].1 : Int), .int .u64 ys[m].2] 95)
              have hbws := (hbw.setCell (p := ⟨g8, ys[m].1, none⟩) hg8 (.int .i64 (B[ys[m].1]'hin + 1))).alloc (.cells #[.int .i64 (ys[m].1 : Int), .int .u64 ys[m].2] 95)
              generalize (B[ys[m].1]'hin) = z at *
              generalize hyd : ys[m].1 = a at *
              generalize ys[m].2 = r2 at *
              go_wp2
              go_roundw
              case rel => exact ⟨m + 1, by omega, by go_num, by rw [← HBS.out]; exact h8s, h9s, hbws⟩
              case measure => simp [intOf]; omega
            · have em : m = ln := by omega
              go_wp2
              go_ret
              have hz : (bump (qsN nums sn) ((ys.map (·.1)).take m)).length = j := by rw [bump_len, hQ8.out]
              obtain ⟨A', c', ev, hR', _⟩ := Rd.of_own encI_len hz.symm h8
              refine ⟨A', c', _, congrArg Ending.returned ev, ?_, hR', hbw⟩
              unfold Divided Handed
              rw [HSD.out, ← HNU.out, HLE.out]
              refine ⟨_, HUP.out m, ?_, rfl⟩
              rw [List.length_take, List.length_map, HYL.out, em]
              show min ln j = ((ln : Nat) : Int).toNat
              rw [Int.toNat_natCast]
              omega
end Go.Proofs.YtdnmcpojjndjbaaGreatDoor
/- What is wrong with costs and dues: the program's and the reference's words. -/
namespace Go.Proofs.YtdnmcpojjndjbaaGreatDoor
open Go.RowKit

theorem centB_bd {n : Int} (h : centB n = false) : 0 ≤ n ∧ n ≤ 1000000000 := by have := outB_false.1 h; unfold maxCt at this; exact this
end Go.Proofs.YtdnmcpojjndjbaaGreatDoor
/- fare.Divide, whatever it is handed; what is wrong with parts; 'priced' answers true. -/
namespace Go.Proofs.YtdnmcpojjndjbaaGreatDoor
open Go.RowKit Go.Sort Go.Proofs Go.Shelf

theorem partsF_cents {cents : Int} {parts : List Int} (h : centB cents = true) : partsF cents parts = 1 := by unfold partsF; rw [h]; rfl
theorem partsF_any {cents : Int} {parts : List Int} (h : centB cents = false) (h2 : parts.length < 20) (h3 : parts.any centB = true) : partsF cents parts = 1 := by
  unfold partsF; rw [h, h3]; simp; omega
theorem partsF_sum {cents : Int} {parts : List Int} (h : centB cents = false) (h2 : parts.length < 20) (h3 : parts.any centB = false) : partsF cents parts = if sumL parts = 0 then 8 else 0 := by
  unfold partsF; rw [h, h3]; simp; omega
theorem any_at {l : List Int} {p : Int → Bool} {k : Nat} (hk : k < l.length) (h : p l[k] = true) : l.any p = true := List.any_eq_true.2 ⟨_, List.getElem_mem hk, h⟩
theorem any_step {l : List Int} {p : Int → Bool} {k : Nat} (hk : k < l.length) (h : (l.take k).any p = false) (h2 : p l[k] = false) : (l.take (k + 1)).any p = false := by
  rw [List.take_succ_eq_append_getElem hk, List.any_append, h]; simp [h2]
theorem sum_right {l : List Int} (h : l.any centB = false) : 0 ≤ sumL l ∧ sumL l ≤ l.length * 1000000000 := by
  have := sumL_bd l 0 1000000000 (fun x hx => centB_bd (by
    cases h1 : centB x
    · rfl
    · exact absurd (List.any_eq_true.2 ⟨x, hx, h1⟩) (by rw [h]; simp)))
  omega
/-- Cents given out, or a fault. -/
def DivU (F cents : Int) (parts : List Int) (w : World) (e : Ending) (w' : World) : Prop :=
  ∃ (A : Option Addr) (c : Nat) (zs : List Int), e = .returned (.tuple #[.slice A zs.length c, .int .i64 F]) ∧ (F = 0 → Divided cents parts zs) ∧ (F ≠ 0 → zs = []) ∧ Rd w' w.heap.size A 1 encI zs ∧ Nx w w'
theorem DivU.no {F cents : Int} {parts : List Int} {w w' : World} (h : F ≠ 0) (hn : Nx w w') : DivU F cents parts w (.returned (.tuple #[.slice none 0 0, .int .i64 F])) w' := ⟨none, 0, [], rfl, fun h0 => absurd h0 h, fun _ => rfl, Rd.nil, hn⟩

set_option maxRecDepth 100000 in
set_option maxHeartbeats 1000000 in
theorem w_Divide (lo : Nat) (A : Option Addr) (c : Nat) (cents : Int) (parts : List Int) (w : World) (hR : Rd w lo A 1 encI parts) (hl : parts.length < 20) :
    Calls Tryz.prog 39 #[.int .i64 cents, .slice A parts.length c] w (DivU (partsF cents parts) cents parts w) := by
  cases hd : centB cents
  · have HD := hide hd
    have hcb := centB_bd hd
    have HPO := hide (fun h3 => partsF_sum (parts := parts) hd hl h3)
    have HPA := hide (fun h3 => partsF_any (parts := parts) hd hl h3)
    have HDB := hide (fun h3 h4 => w_DivideB lo A c cents parts w hR hl hcb h3 h4)
    generalize hn : parts.length = n at *
    have HR := hide hR
    have HN := hide hn
    unfold centB at hd
    clear hR hn
    go_enter Tryz.func39, Tryz.ntmps39
    go_wp2_with (go_at_call 28; first | (rw [show (1000000000 : Int) = maxCt from rfl]; refine (w_Out _ _ _ _).mono ?_; rintro e w' ⟨rfl, rfl⟩))
    go_loop [4, 5, 6, 8, 16] (fun _ _ s _ i => ∃ k : Nat, k ≤ n ∧ i = .int .i64 k ∧ s = .int .i64 (sumL (parts.take k)) ∧ (parts.take k).any centB = false) (fun _ _ _ _ i => n - (intOf i).toNat)
    case atStart => exact ⟨0, Nat.zero_le _, rfl, rfl, rfl⟩
    case round =>
      obtain ⟨k, hk, rfl, rfl, hq⟩ := hrel
      have hsb := sum_right hq
      have hkl : (parts.take k).length ≤ k := List.length_take_le _ _
      have HQ := hide hq
      clear hq
      by_cases hlt : k < n
      · have hlt' : k < parts.length := by have := HN.out; omega
        have HT := hide (sumL_take parts k hlt')
        obtain ⟨b, off, rfl, _, hb, _, hc⟩ := HR.out.open_ (Nx.refl w) (by omega)
        have c0 : w.cell? ⟨b, off + k, none⟩ = some (.int .i64 parts[k]) := by have := hc k hlt' 0 _ rfl; simpa using this
        clear hc
        cases hx : centB parts[k]
        · have HX := hide (any_step hlt' HQ.out hx)
          have hxb := centB_bd hx
          unfold centB at hx
          generalize sumL (parts.take k) = s at *
          go_wp2_with (go_at_call 28; first | (rw [show (1000000000 : Int) = maxCt from rfl]; refine (w_Out _ _ _ _).mono ?_; rintro e w' ⟨rfl, rfl⟩))
          go_round
          case rel => exact ⟨k + 1, by omega, by go_num, by rw [HT.out], HX.out⟩
          case measure => simp [intOf]; omega
        · have HF := hide (HPA.out (any_at hlt' hx))
          unfold centB at hx
          go_wp2_with (go_at_call 28; first | (rw [show (1000000000 : Int) = maxCt from rfl]; refine (w_Out _ _ _ _).mono ?_; rintro e w' ⟨rfl, rfl⟩))
          go_ret2
          rw [HF.out]
          exact DivU.no (by omega) (Nx.refl _)
      · have HK := hide (show parts.take k = parts from List.take_of_length_le (by have := HN.out; omega))
        rw [HK.out] at hsb HQ ⊢
        have HF := hide (HPO.out HQ.out)
        by_cases hz : sumL parts = 0
        · have t1 : (sumL parts == 0) = true := by simpa using hz
          have HZ := hide hz
          clear hz
          go_wp2_with fail
          go_ret2
          rw [HF.out, if_pos HZ.out]
          exact DivU.no (by omega) (Nx.refl _)
        · have t1 : (sumL parts == 0) = false := by simpa using hz
          have HZ := hide hz
          clear hz
          go_wp2_with (go_at_call 52; refine (HDB.out (fun p hp => centB_bd (by cases h1 : centB p; rfl; exact absurd (List.any_eq_true.2 ⟨p, hp, h1⟩) (by rw [HQ.out]; simp))) (by have := HZ.out; omega)).mono ?_; rintro e w2 ⟨A', c', zs, rfl, hdv, hR2, hn2⟩)
          go_ret2
          rw [HF.out, if_neg HZ.out]
          exact ⟨A', c', zs, rfl, fun _ => hdv, fun h => absurd rfl h, hR2, hn2⟩
  · have HF := hide (partsF_cents (parts := parts) hd)
    clear hR
    generalize parts.length = n at *
    unfold centB at hd
    go_enter Tryz.func39, Tryz.ntmps39
    go_wp2_with (go_at_call 28; first | (rw [show (1000000000 : Int) = maxCt from rfl]; refine (w_Out _ _ _ _).mono ?_; rintro e w' ⟨rfl, rfl⟩))
    go_ret2
    rw [HF.out]
    exact DivU.no (by omega) (Nx.refl _)

set_option maxRecDepth 100000 in
set_option maxHeartbeats 1000000 in
theorem w_EqualI (lo lo' : Nat) (A B : Option Addr) (c d : Nat) (l : List Int) (w : World) (hA : Rd w lo A 1 encI l) (hB : Rd w lo' B 1 encI l) (hl : l.length ≤ 65536) :
    Calls Tryz.prog 40 #[.slice A l.length c, .slice B l.length d] w fun e w' => e = .returned (.bool true) ∧ Nx w w' := by
  generalize hn : l.length = n at *
  have HA := hide hA
  have HB := hide hB
  have HN := hide hn
  clear hA hB hn
  go_enter Tryz.func40, Tryz.ntmps40
  go_wp2
  go_loopw [5, 13] (fun _ i wr => ∃ k : Nat, k ≤ n ∧ i = .int .i64 k ∧ Nx w wr) (fun _ i _ => n - (intOf i).toNat)
  case atStart => exact ⟨0, Nat.zero_le _, rfl, Nx.refl _⟩
  case round =>
    obtain ⟨k, hk, rfl, hbw⟩ := hrel
    by_cases hlt : k < n
    · have hlt' : k < l.length := by have := HN.out; omega
      obtain ⟨b, off, rfl, _, hb, hbr, hc⟩ := HA.out.open_ hbw (by omega)
      obtain ⟨b', off', rfl, _, hb', hbr', hc'⟩ := HB.out.open_ hbw (by omega)
      have c0 : wr.cell? ⟨b, off + k, none⟩ = some (.int .i64 l[k]) := by have := hc k hlt' 0 _ rfl; simpa using this
      have d0 : wr.cell? ⟨b', off' + k, none⟩ = some (.int .i64 l[k]) := by have := hc' k hlt' 0 _ rfl; simpa using this
      clear hc hc'
      have q1 : (0 : Int) ≤ (k : Int) := by omega
      have q2 : (k : Int) < (n : Int) := by omega
      go_wp2_with fail
      go_quiet (fail)
      go_wp2
      go_roundw
      case rel => exact ⟨k + 1, by omega, by go_num, hbw.drewN _⟩
      case measure => simp [intOf]; omega
    · go_wp2
      go_ret
      exact ⟨rfl, hbw⟩

set_option maxRecDepth 100000 in
theorem w_priced (w : World) : Calls Tryz.prog 17 #[] w fun e w' => e = .returned (.bool true) ∧ Nx w w' := by
  have hF : partsF 10 [1, 1, 1] = 0 := by decide
  go_enter Tryz.func17, Tryz.ntmps17
  go_wp2_with fail
  have hR1 : Rd (w.alloc (.cells #[.int .i64 1, .int .i64 1, .int .i64 1] 3)) 0 (some ⟨w.heap.size, 0, none⟩) 1 encI [1, 1, 1] := Rd.lit (hnew rfl) (Nat.zero_le _) (fun _ => rfl) rfl
  refine (w_Divide _ _ _ 10 [1, 1, 1] _ hR1 (by decide)).mono ?_
  rintro e w2 ⟨A, c, zs, rfl, hdv, _, hR2, hn2⟩
  have hz := divided_433 (hdv hF)
  subst hz
  rw [hF]
  clear hdv hR1
  go_wp2_with fail
  have hR3 : Rd (w2.alloc (.cells #[.int .i64 4, .int .i64 3, .int .i64 3] 3)) 0 (some ⟨w2.heap.size, 0, none⟩) 1 encI [4, 3, 3] := Rd.lit (hnew rfl) (Nat.zero_le _) (fun _ => rfl) rfl
  refine (w_EqualI _ _ _ _ _ _ [4, 3, 3] _ (hR2.nx ((Nx.refl _).alloc _)) hR3 (by simp)).mono ?_
  rintro e w3 ⟨rfl, hn3⟩
  go_wp2_with fail
  go_ret
  exact ⟨rfl, ((((Nx.refl _).alloc _).trans hn2).alloc _).trans hn3⟩
end Go.Proofs.YtdnmcpojjndjbaaGreatDoor
/- More words for memory, of no program: rows out of literals, prefixes of rows, rows that stay while others turn. -/
namespace Go.Proofs.YtdnmcpojjndjbaaGreatDoor
open Go.RowKit

section
variable {α : Type} {w w' : World} {lo K : Nat} {A : Option Addr} {enc : α → List Value} {xs : List α}
/-- The first ones of a slice. -/
theorem Rd.take (h : Rd w lo A K enc xs) (n : Nat) : Rd w lo A K enc (xs.take n) := fun hp => by
  have hp' : 0 < xs.length := by rw [List.length_take] at hp; omega
  obtain ⟨b, off, e, h1, hb, hc⟩ := h hp'
  refine ⟨b, off, e, h1, hb, fun i x hx j u hu => hc i x ?_ j u hu⟩
  have hi : i < (xs.take n).length := (List.getElem?_eq_some_iff.1 hx).1
  rw [List.length_take] at hi
  rw [← hx, List.getElem?_take_of_lt (by omega)]
/-- A row of the call's own out of a literal: its first n elements. -/
theorem own_lit {e : TypeId} {g n m : Nat} {cs : Array Value} {base : Nat} (hk : ∀ x, (enc x).length = K) (hg : w.heap[g]? = some (.cells cs e (0, 0))) (hb : base ≤ g) (hcs : cs.toList = xs.flatMap enc) (hm : xs.length = m) (hn : n ≤ m) (hmax : m ≤ maxLen) :
    w.ownsRow base e K (.slice (some ⟨g, 0, none⟩) n m) n ((xs.take n).flatMap enc) := by
  have hl : (xs.take n).length = n := by rw [List.length_take]; omega
  refine ⟨by rw [flat_len hk, hl], .inr ⟨g, m, cs, rfl, hb, hg, hn, hmax, ?_, ?_⟩⟩
  · rw [← Array.length_toList, hcs, flat_len hk, hm]
  · rw [hcs]
    have e1 : xs.flatMap enc = (xs.take n).flatMap enc ++ (xs.drop n).flatMap enc := by rw [← List.flatMap_append, List.take_append_drop]
    rw [e1, List.take_append_of_le_length (by rw [flat_len hk, hl]; exact Nat.le_refl _), List.take_of_length_le (by rw [flat_len hk, hl]; exact Nat.le_refl _)]
end
end Go.Proofs.YtdnmcpojjndjbaaGreatDoor
/- What is handed out: the reference's. -/
namespace Go.Proofs.YtdnmcpojjndjbaaGreatDoor
open Go.RowKit Go.Sort Go.Proofs Go.Shelf

/-- The first of the greatest of the first k. -/
structure FM (cs : List Int) (k b : Nat) : Prop where
  at_ : b < cs.length
  in_ : b < k ∨ (k = 0 ∧ b = 0)
  up : ∀ j, j < k → cs.getD j 0 < cs.getD b 0 ∨ (cs.getD j 0 = cs.getD b 0 ∧ b ≤ j)
theorem FM.more {cs : List Int} {k b : Nat} (h : FM cs k b) (hk : k < cs.length) (hlt : cs.getD b 0 < cs.getD k 0) : FM cs (k + 1) k :=
  ⟨hk, .inl (by omega), fun j hj => by
    rcases Nat.lt_or_ge j k with h1 | h1
    · have := h.up j h1; omega
    · have e : j = k := by omega
      subst e; exact .inr ⟨rfl, Nat.le_refl _⟩⟩
theorem FM.same {cs : List Int} {k b : Nat} (h : FM cs k b) (hlt : ¬ cs.getD b 0 < cs.getD k 0) : FM cs (k + 1) b :=
  ⟨h.at_, .inl (by have := h.in_; omega), fun j hj => by
    rcases Nat.lt_or_ge j k with h1 | h1
    · exact h.up j h1
    · have e : j = k := by omega
      subst e
      have := h.in_
      omega⟩
end Go.Proofs.YtdnmcpojjndjbaaGreatDoor
/- Groups that would pay less alone. -/
namespace Go.Proofs.YtdnmcpojjndjbaaGreatDoor
open Go.RowKit Go.Sort Go.Proofs Go.Shelf

theorem el_S : ElemOf Tryz.prog 40 9 1 16 := ElemOf.mk' (z := .string ByteArray.empty) Tryz.underlying40 (by kernel_rfl) rfl
theorem encS_len (x : ByteArray) : (encS x).length = 1 := rfl
theorem encS_one (x : ByteArray) : ∀ v ∈ encS x, v.oneCell' = true := by
  intro v hv; simp [encS] at hv; subst hv; rfl
/-- Keys, or a fault. -/
def KeysU (F : Int) (who : List ByteArray) (w : World) (e : Ending) (w' : World) : Prop :=
  ∃ (A : Option Addr) (c : Nat) (zs : List ByteArray), e = .returned (.tuple #[.slice A zs.length c, .int .i64 F]) ∧ zs = (if F = 0 then who else []) ∧ Rd w' w.heap.size A 1 encS zs ∧ Nx w w'
theorem KeysU.no {F : Int} {who : List ByteArray} {w w' : World} (h : F ≠ 0) (hn : Nx w w') : KeysU F who w (.returned (.tuple #[.slice none 0 0, .int .i64 F])) w' := ⟨none, 0, [], rfl, by rw [if_neg h], Rd.nil, hn⟩

end Go.Proofs.YtdnmcpojjndjbaaGreatDoor
