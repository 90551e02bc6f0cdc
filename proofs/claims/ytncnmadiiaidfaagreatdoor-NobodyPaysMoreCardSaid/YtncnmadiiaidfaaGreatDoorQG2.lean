/- A row of the call's own, as the sort's contracts read it. Of no program. -/
import Derived.Test.YtncnmadiiaidfaaGreatDoorQG1
import Derived.Shelf.SlSortCmp.InsertionK
import Derived.Sort.WalkA
import Derived.Test.YtncnmadiiaidfaaGreatDoorQShelfS
import Derived.Test.YtncnmadiiaidfaaGreatDoorQKey
import Derived.Test.YtncnmadiiaidfaaGreatDoorQG0
import Derived.Test.YtncnmadiiaidfaaGreatDoorQShelfZ
import Derived.Shelf.Spec.SearchS
import Derived.Shelf.Slices.Turned
namespace Go.Proofs.YtncnmadiiaidfaaGreatDoor
open Go.RowKit Go.Sort Go.Proofs Go.Shelf

section
variable {α : Type} [Inhabited α] {enc : α → List Value} {K : Nat}
theorem flatK_toList (hk : ∀ x, (enc x).length = K) (hK : 0 < K) (d : Array α) : (flatK enc K d).toList = d.toList.flatMap enc := by
  apply List.ext_getElem?
  intro t
  by_cases ht : t < d.size * K
  · have h1 : t / K < d.size := (Nat.div_lt_iff_lt_mul hK).2 ht
    have h2 : t % K < K := Nat.mod_lt _ hK
    have e : t / K * K + t % K = t := by rw [Nat.mul_comm]; exact Nat.div_add_mod t K
    have hx : d.toList[t / K]? = some d[t / K]! := by
      rw [Array.getElem?_toList, getElem!_pos d _ h1, Array.getElem?_eq_getElem h1]
    have hu : (enc d[t / K]!)[t % K]? = some (enc d[t / K]!)[t % K]! := by
      have h5 : t % K < (enc d[t / K]!).length := by rw [hk]; exact h2
      rw [getElem!_pos (enc d[t / K]!) (t % K) h5]
      exact List.getElem?_eq_getElem h5
    have h3 := flat_get (xs := d.toList) hk (t / K) _ hx (t % K) _ hu
    rw [e] at h3
    rw [h3, Array.getElem?_toList]
    have hs : t < (flatK enc K d).size := by rw [size_flatK]; exact ht
    rw [Array.getElem?_eq_getElem hs, ← getElem!_pos (flatK enc K d) t hs, get_flatK _ _ _ _ ht]
  · rw [List.getElem?_eq_none (by rw [Array.length_toList, size_flatK]; omega), List.getElem?_eq_none (by rw [flat_len hk, Array.length_toList]; omega)]

variable {w : World} {base g cap n : Nat} {e : TypeId} {xs : List α}
theorem holds_of_own (hk : ∀ x, (enc x).length = K) (hK : 0 < K) (hn : xs.length = n) (h : w.ownsRow base e K (.slice (some ⟨g, 0, none⟩) n cap) n (xs.flatMap enc)) : HoldsK enc K w g 0 xs.toArray := by
  intro j hj
  rw [size_flatK] at hj
  have hj' : j < n * K := by rw [← hn]; simpa using hj
  have hs : j < (flatK enc K xs.toArray).size := by rw [size_flatK]; exact hj
  refine ⟨?_, by rw [Nat.zero_add]; exact h.frozenAt j⟩
  rw [Nat.zero_add, h.cellAt j hj', ← flatK_toList hk hK xs.toArray, Array.getElem?_toList, Array.getElem?_eq_getElem hs, getElem!_pos (flatK enc K xs.toArray) j hs]
  rfl

theorem own_of_sorted (hk : ∀ x, (enc x).length = K) (hK : 0 < K) (h : w.ownsRow base e K (.slice (some ⟨g, 0, none⟩) n cap) n (xs.flatMap enc)) (ys : List α) (hy : ys.length = n) (m : Nat) (os : Array Obj) :
    (sortWorldK enc K w g 0 m ys.toArray os).ownsRow base e K (.slice (some ⟨g, 0, none⟩) n cap) n (ys.flatMap enc) ∧ Gr g w (sortWorldK enc K w g 0 m ys.toArray os) := by
  have hlt := (h.lt g rfl)
  have hF : (flatK enc K ys.toArray).size = n * K := by rw [size_flatK]; simp [hy]
  constructor
  · rcases h.2 with ⟨h0, _⟩ | ⟨g', cap', cur, hv, hg, hh, hnc, hcm, hcs, ht⟩
    · cases h0
    · cases hv
      refine ⟨by rw [flat_len hk, hy], .inr ⟨g, cap, putCells id 0 (flatK enc K ys.toArray) cur, rfl, hlt.1, ?_, hnc, hcm, by simp [putCells, hcs], ?_⟩⟩
      · unfold sortWorldK
        rw [heap_grow_old _ _ (by simpa [putRowK] using hlt.2)]
        simp [putRowK, putRow, mapBlock, Sort.ahead, Array.getElem?_modify, hh, onCells]
      · have hle : n * K ≤ cur.size := by rw [hcs]; exact Nat.mul_le_mul_right K hnc
        apply List.ext_getElem?
        intro j
        by_cases hj : j < n * K
        · rw [List.getElem?_take_of_lt hj, Array.getElem?_toList]
          have hjc : j < cur.size := by omega
          have hs : j < (flatK enc K ys.toArray).size := by rw [hF]; exact hj
          have e1 := flatK_toList hk hK ys.toArray
          have e2 : (ys.flatMap enc)[j]? = some (flatK enc K ys.toArray)[j]! := by
            show (ys.toArray.toList.flatMap enc)[j]? = _
            rw [← e1, Array.getElem?_toList, Array.getElem?_eq_getElem hs, getElem!_pos (flatK enc K ys.toArray) j hs]
          rw [e2]
          simp [putCells, hjc, hF, hj]
        · rw [List.getElem?_take_eq_none (by omega), List.getElem?_eq_none (by rw [flat_len hk, hy]; omega)]
  · refine ⟨rfl, rfl, rfl, by simp [sortWorldK, putRowK, grow], fun k hkk hne => ?_⟩
    unfold sortWorldK
    rw [heap_grow_old _ _ (by simpa [putRowK] using hkk)]
    have : g ≠ k := fun e => hne (by rw [e])
    simp [putRowK, putRow, mapBlock, Sort.ahead, Array.getElem?_modify, this]
end

end Go.Proofs.YtncnmadiiaidfaaGreatDoor
/- Plain: sorting by insertion is stable. -/
namespace Go.Proofs.YtncnmadiiaidfaaGreatDoor
open Go.Sort Go.Proofs
variable {α : Type} [Inhabited α]
theorem get_bang {d : Array α} {pre suf : List α} {x : α} (h : d.toList = pre ++ x :: suf) : d[pre.length]! = x := by
  have h1 : d[pre.length]? = some x := by rw [← Array.getElem?_toList, h, List.getElem?_append_right (Nat.le_refl _)]; simp
  rw [getElem!_def, h1]
theorem swp_list {d : Array α} {q suf : List α} {x y : α} (h : d.toList = q ++ y :: x :: suf) : (swp d (q.length + 1) q.length).toList = q ++ x :: y :: suf := by
  have h1 : d[q.length]! = y := get_bang h
  have h2 : d[q.length + 1]! = x := by
    have : d.toList = (q ++ [y]) ++ x :: suf := by rw [h]; simp
    have := get_bang this
    simpa using this
  unfold swp
  rw [h1, h2]
  simp only [Array.toList_setIfInBounds, h]
  rw [List.set_append_right _ _ (by omega), show q.length + 1 - q.length = 1 by omega, List.set_cons_succ, List.set_cons_zero, List.set_append_right _ _ (by omega), Nat.sub_self, List.set_cons_zero]
theorem inner_list (lt : α → α → Bool) : ∀ (n : Nat) (pre suf : List α) (x : α) (d : Array α), pre.length = n → d.toList = pre ++ x :: suf → ∃ p1 p2, pre = p1 ++ p2 ∧ (insInner lt 0 n d).toList = p1 ++ x :: (p2 ++ suf) ∧ (∀ y ∈ p2, lt x y = true) ∧ (∀ q y, p1 = q ++ [y] → lt x y = false)
  | 0, pre, suf, x, d, hn, hd => by
    have : pre = [] := List.eq_nil_of_length_eq_zero hn
    subst this
    exact ⟨[], [], rfl, by simpa [insInner] using hd, by simp, by simp⟩
  | n + 1, pre, suf, x, d, hn, hd => by
    have hne : pre ≠ [] := by intro e; subst e; simp at hn
    obtain ⟨q, y, rfl⟩ : ∃ q y, pre = q ++ [y] := ⟨pre.dropLast, pre.getLast hne, (List.dropLast_concat_getLast hne).symm⟩
    have hq : q.length = n := by simpa using hn
    have hx : d[n + 1]! = x := by rw [← hn]; exact get_bang hd
    have hy : d[n]! = y := by rw [← hq]; exact get_bang (suf := x :: suf) (by rw [hd]; simp)
    unfold insInner
    rw [hx, hy]
    by_cases hl : lt x y = true
    · rw [if_pos (by simp [hl])]
      obtain ⟨p1, p2, e1, e2, e3, e4⟩ := inner_list lt n q (y :: suf) x (swp d (n + 1) n) hq (by rw [← hq]; exact swp_list (by rw [hd]; simp))
      refine ⟨p1, p2 ++ [y], by rw [e1]; simp, by rw [e2]; simp, fun z hz => ?_, e4⟩
      rcases List.mem_append.1 hz with hz | hz
      · exact e3 z hz
      · simp at hz; subst hz; exact hl
    · rw [if_neg (by simp [hl])]
      refine ⟨q ++ [y], [], by simp, by simpa using hd, by simp, fun q' y' e => ?_⟩
      have := List.append_inj' e rfl
      simp at this
      rw [← this.2]
      simpa using hl
/-- Sorting by insertion is stable: S is the order at first, R the order behind it. -/
theorem outer_list (lt : α → α → Bool) {R S : α → α → Prop} (h1 : ∀ x y, lt x y = true → R x y) (h2 : ∀ x y, S y x → lt x y = false → R y x) (htr : ∀ x y z, R x y → R y z → R x z) :
    ∀ (m : Nat) (b i : Nat) (d : Array α) (pre suf : List α), b - i = m → i ≤ b → pre.length = i → d.toList = pre ++ suf → b = (pre ++ suf).length → pre.Pairwise R → (∀ y ∈ pre, ∀ x ∈ suf, S y x) → suf.Pairwise S → ((insOuter lt 0 b i d).toList.Perm (pre ++ suf) ∧ (insOuter lt 0 b i d).toList.Pairwise R)
  | 0, b, i, d, pre, suf, hm, hib, hp, hd, hb, hR, hS, hs => by
    have : suf = [] := List.eq_nil_of_length_eq_zero (by simp at hb; omega)
    subst this
    rw [insOuter_stop lt 0 b i d (by omega), hd]
    exact ⟨List.Perm.refl _, by simpa using hR⟩
  | m + 1, b, i, d, pre, suf, hm, hib, hp, hd, hb, hR, hS, hs => by
    cases suf with
    | nil => simp at hb; omega
    | cons x suf =>
      rw [insOuter_go lt 0 b i d (by omega)]
      obtain ⟨p1, p2, e1, e2, e3, e4⟩ := inner_list lt i pre suf x d hp hd
      have hsx := List.pairwise_cons.1 hs
      have hR' : (p1 ++ x :: p2).Pairwise R := by
        subst e1
        rw [List.pairwise_append] at hR ⊢
        have hlast : ∀ y ∈ p1, R y x := by
          intro y hy
          have hne : p1 ≠ [] := List.ne_nil_of_mem hy
          obtain ⟨q, z, e⟩ : ∃ q z, p1 = q ++ [z] := ⟨p1.dropLast, p1.getLast hne, (List.dropLast_concat_getLast hne).symm⟩
          have hz : R z x := h2 x z (hS z (by simp [e]) x (by simp)) (e4 q z e)
          rw [e] at hy
          rcases List.mem_append.1 hy with hy | hy
          · have hp := hR.1
            rw [e, List.pairwise_append] at hp
            exact htr y z x (hp.2.2 y hy z (by simp)) hz
          · simp at hy; subst hy; exact hz
        refine ⟨hR.1, List.pairwise_cons.2 ⟨fun y hy => h1 x y (e3 y hy), hR.2.1⟩, fun y hy z hz => ?_⟩
        rcases List.mem_cons.1 hz with rfl | hz
        · exact hlast y hy
        · exact hR.2.2 y hy z hz
      have hperm : (p1 ++ x :: p2).Perm (pre ++ [x]) := by
        subst e1
        exact (List.perm_middle).trans (List.perm_append_singleton x (p1 ++ p2)).symm
      have hl : (p1 ++ x :: p2).length = i + 1 := by have := hperm.length_eq; simp at this ⊢; omega
      have ih := outer_list lt h1 h2 htr m b (i + 1) (insInner lt 0 i d) (p1 ++ x :: p2) suf (by omega) (by simp at hb; omega) hl (by rw [e2]; simp) (by simp at hb hl ⊢; omega) hR'
        (fun y hy z hz => by
          have hy' := hperm.mem_iff.1 hy
          rcases List.mem_append.1 hy' with hy' | hy'
          · exact hS y hy' z (by simp [hz])
          · simp at hy'; subst hy'; exact hsx.1 z hz) hsx.2
      refine ⟨ih.1.trans ?_, ih.2⟩
      have := hperm.append_right suf
      simpa using this
theorem ins_stable (lt : α → α → Bool) {R S : α → α → Prop} (h1 : ∀ x y, lt x y = true → R x y) (h2 : ∀ x y, S y x → lt x y = false → R y x) (htr : ∀ x y z, R x y → R y z → R x z) (d : Array α) (hS : d.toList.Pairwise S) :
    (insertionSort lt d 0 d.size).toList.Perm d.toList ∧ (insertionSort lt d 0 d.size).toList.Pairwise R := by
  unfold insertionSort
  cases hd : d.toList with
  | nil =>
    have : d.size = 0 := by rw [← Array.length_toList, hd]; rfl
    rw [insOuter_stop lt 0 _ _ d (by omega), hd]
    exact ⟨List.Perm.refl _, List.Pairwise.nil⟩
  | cons x l =>
    rw [hd] at hS
    have hx := List.pairwise_cons.1 hS
    have hsz : d.size = l.length + 1 := by rw [← Array.length_toList, hd]; rfl
    exact outer_list lt h1 h2 htr _ d.size 1 d [x] l rfl (by omega) rfl hd (by rw [hsz]; simp) (by simp) (fun y hy z hz => by simp at hy; subst hy; exact hx.1 z hz) hx.2
end Go.Proofs.YtncnmadiiaidfaaGreatDoor
/- The stable sort of what is left, of fewer than 20; products and quotients of 64 bits. -/
namespace Go.Proofs.YtncnmadiiaidfaaGreatDoor
open Go.RowKit Go.Sort Go.Proofs Go.Shelf

theorem w_isNaNU (a : Int) (w : World) : Calls Tryz.prog 146 #[.int .u64 a] w fun e w' => e = .returned (.bool false) ∧ w = w' := by
  go_enter Tryz.func146, Tryz.ntmps146
  go_wp2
  go_ret
  exact ⟨rfl, rfl⟩
theorem w_CompareU (a b : Int) (w : World) : Calls Tryz.prog 102 #[.int .u64 a, .int .u64 b] w fun e w' => e = .returned (.int .i64 (cmpI a b)) ∧ w = w' := by
  by_cases h1 : a < b
  · go_enter Tryz.func102, Tryz.ntmps102
    go_wp2_with (go_at_call 146; refine (w_isNaNU _ _).mono ?_; rintro e w' ⟨rfl, rfl⟩)
    go_ret
    exact ⟨ret_int (by unfold cmpI; simp [h1]), rfl⟩
  · by_cases h2 : b < a
    · go_enter Tryz.func102, Tryz.ntmps102
      go_wp2_with (go_at_call 146; refine (w_isNaNU _ _).mono ?_; rintro e w' ⟨rfl, rfl⟩)
      go_ret
      exact ⟨ret_int (by unfold cmpI; simp [h1, h2]), rfl⟩
    · go_enter Tryz.func102, Tryz.ntmps102
      go_wp2_with (go_at_call 146; refine (w_isNaNU _ _).mono ?_; rintro e w' ⟨rfl, rfl⟩)
      go_ret
      exact ⟨ret_int (by unfold cmpI; rw [if_neg (by omega), if_neg (by omega)]), rfl⟩

/-- A number with what is left of it. -/
def encRest (p : Nat × Int) : List Value := [.int .i64 (p.1 : Int), .int .u64 p.2]
theorem encRest_len (p : Nat × Int) : (encRest p).length = 2 := rfl
theorem encRest_one (p : Nat × Int) : ∀ v ∈ encRest p, v.oneCell' = true := by
  intro v hv; simp [encRest] at hv; rcases hv with rfl | rfl <;> rfl
theorem w_cmpRest (x y : Nat × Int) (w : World) : Calls Tryz.prog 101 #[.agg (encRest x).toArray, .agg (encRest y).toArray] w fun e w' => e = .returned (.int .i64 (cmpI y.2 x.2)) ∧ Lays w w' := by
  unfold encRest
  go_enter Tryz.func101, Tryz.ntmps101
  go_wp2_with (go_at_call 102; refine (w_CompareU _ _ _).mono ?_; rintro e w' ⟨rfl, rfl⟩)
  go_ret
  exact ⟨rfl, ((Lays.refl _).alloc _).alloc _⟩
def restC (x y : Nat × Int) : Int := cmpI y.2 x.2
theorem restC_lt (x y : Nat × Int) : ltOf restC x y = true ↔ y.2 < x.2 := by unfold ltOf restC; rw [decide_eq_true_eq]; unfold cmpI; split <;> (try split) <;> omega
/-- Those ahead come first. -/
def Ahead (a b : Nat × Int) : Prop := b.2 < a.2 ∨ (a.2 = b.2 ∧ a.1 < b.1)
theorem rest_stable (d : Array (Nat × Int)) (hS : d.toList.Pairwise (fun a b => a.1 < b.1)) : (insertionSort (ltOf restC) d 0 d.size).toList.Perm d.toList ∧ (insertionSort (ltOf restC) d 0 d.size).toList.Pairwise Ahead :=
  ins_stable (ltOf restC) (R := Ahead) (S := fun a b => a.1 < b.1) (fun x y h => .inl ((restC_lt x y).1 h)) (fun x y h1 h2 => by
    have h3 : ¬ y.2 < x.2 := fun h => by rw [(restC_lt x y).2 h] at h2; cases h2
    unfold Ahead; omega) (fun x y z h1 h2 => by unfold Ahead at *; omega) d hS

set_option maxHeartbeats 1000000 in
theorem w_SortRests {w : World} {base b cap n : Nat} (xs : List (Nat × Int)) (hn : xs.length = n) (hsz : n < 20) (hS : xs.Pairwise (fun a b => a.1 < b.1)) (h : w.ownsRow base 178 2 (.slice (some ⟨b, 0, none⟩) n cap) n (xs.flatMap encRest)) :
    Calls Tryz.prog 100 #[.slice (some ⟨b, 0, none⟩) n cap, .func (.func 101) #[] #[]] w fun en w' => en = .returned (.tuple #[]) ∧
      ∃ ys : List (Nat × Int), ys.Perm xs ∧ ys.Pairwise Ahead ∧ w'.ownsRow base 178 2 (.slice (some ⟨b, 0, none⟩) n cap) n (ys.flatMap encRest) ∧ Gr b w w' := by
  have hlt := (h.lt b rfl)
  have e1 : xs.toArray.size = n := by simpa using hn
  have hH := holds_of_own encRest_len (by omega) hn h
  have hc : CmpLays Tryz.prog 101 #[] encRest 2 restC b 0 xs.toArray.size w := fun m os dk _ x y => by
    rw [Array.append_empty]
    exact w_cmpRest x y _
  have hs := AnyQ.insertionSortCmpFunc Tryz.insRest 2 Tryz.isAgg178 Tryz.sizeOf178 encRest encRest_len encRest_one restC 101 #[] b 0 cap 0 xs.toArray.size xs.toArray w (enters_of Tryz.func101 (by kernel_rfl) rfl) hc hH hlt.2 (Nat.zero_le _) (Nat.le_refl _) (by omega)
  change Calls Tryz.prog 194 _ _ _ at hs
  rw [e1] at hs
  have HS := hide (hs.mono fun en w' ⟨he, m, os, hw⟩ => (show en = Ending.returned (.tuple #[]) ∧ ∃ ys : List (Nat × Int), ys.Perm xs ∧ ys.Pairwise Ahead ∧ w'.ownsRow base 178 2 (.slice (some ⟨b, 0, none⟩) n cap) n (ys.flatMap encRest) ∧ Gr b w w' from by
    have hst := rest_stable xs.toArray (by simpa using hS)
    rw [e1] at hst
    refine ⟨he, (insertionSort (ltOf restC) xs.toArray 0 n).toList, by simpa using hst.1, hst.2, ?_⟩
    have := own_of_sorted encRest_len (by omega) h (insertionSort (ltOf restC) xs.toArray 0 n).toList (by rw [hst.1.length_eq]; simpa using hn) m os
    rw [hw]
    simpa using this))
  clear hs hc hH h hlt e1 hn hS
  have HT := hide (show Calls Tryz.prog 145 #[.slice (some ⟨b, 0, none⟩) n cap, .int .i64 n, .func (.func 101) #[] #[]] w fun en w' => en = .returned (.tuple #[]) ∧
      ∃ ys : List (Nat × Int), ys.Perm xs ∧ ys.Pairwise Ahead ∧ w'.ownsRow base 178 2 (.slice (some ⟨b, 0, none⟩) n cap) n (ys.flatMap encRest) ∧ Gr b w w' from by
    have t1 : decide ((20 : Int) ≤ (n : Int)) = false := decide_eq_false (by omega)
    have t2 : decide ((20 : Int) < (n : Int)) = false := decide_eq_false (by omega)
    go_enter Tryz.func145, Tryz.ntmps145
    go_wp2_with fail
    refine wp_loop_rounds 1 ?_
    rw [rounds_succ]
    go_wp2_with (go_at_call 194; refine (HS.out).mono ?_; rintro e w1 ⟨rfl, hw1⟩)
    refine wp_loop_rounds 1 ?_
    rw [rounds_succ]
    go_wp2_with fail
    go_end0
    exact ⟨rfl, hw1⟩)
  go_enter Tryz.func100, Tryz.ntmps100
  go_wp2_with (go_at_call 145; refine (HT.out).mono ?_; rintro e w1 ⟨rfl, hw1⟩)
  go_end0
  exact ⟨rfl, hw1⟩
end Go.Proofs.YtncnmadiiaidfaaGreatDoor
/- Products and quotients of 64 bits, whose upper half is 0. -/
namespace Go.Proofs.YtncnmadiiaidfaaGreatDoor
open Go.RowKit Go.Proofs Go.Shelf

theorem w_Mul64 (x y z : Nat) (w : World) (hx : x ≤ 4294967296) (hy : y ≤ 2147483648) (hz : x * y = z) :
    Calls Tryz.prog 98 #[.int .u64 (x : Int), .int .u64 (y : Int)] w fun e w' => e = .returned (.tuple #[.int .u64 0, .int .u64 (z : Int)]) ∧ w = w' := by
  subst hz
  have hb : x * y ≤ 4294967296 * 2147483648 := Nat.mul_le_mul hx hy
  have hcon := Any.bits_Mul64 Tryz.mul64 x y (by omega) (by omega) w
  change Calls Tryz.prog 98 _ _ _ at hcon
  refine hcon.mono ?_
  rintro e w' ⟨rfl, rfl⟩
  have e1 : x * y / 18446744073709551616 = 0 := Nat.div_eq_of_lt (by omega)
  have e2 : x * y % 18446744073709551616 = x * y := Nat.mod_eq_of_lt (by omega)
  rw [e1, e2]
  exact ⟨rfl, rfl⟩
set_option maxRecDepth 100000 in
theorem w_Div64 (z y q r : Nat) (w : World) (hz : z ≤ 9223372036854775808) (hy : 0 < y) (hy2 : y ≤ 9223372036854775807) (hq : z / y = q) (hr : z % y = r) :
    Calls Tryz.prog 99 #[.int .u64 0, .int .u64 (z : Int), .int .u64 (y : Int)] w fun e w' => e = .returned (.tuple #[.int .u64 (q : Int), .int .u64 (r : Int)]) ∧ ∃ m, w' = w.drewN m := by
  subst hq hr
  have t0 : ((y : Int) == 0) = false := by simp; omega
  have t1 : decide ((y : Int) ≤ 0) = false := decide_eq_false (by omega)
  have hd : z / y ≤ z := Nat.div_le_self z y
  have hm : z % y < y := Nat.mod_lt _ hy
  have d1 : (z : Int).tdiv (y : Int) = ((z / y : Nat) : Int) := by rw [Int.tdiv_eq_ediv_of_nonneg (by omega)]; rfl
  have d2 : (z : Int).tmod (y : Int) = ((z % y : Nat) : Int) := by rw [Int.tmod_eq_emod_of_nonneg (by omega)]; rfl
  generalize z / y = q at *
  generalize z % y = r at *
  have d3 : IntKind.u64.wrap ((q : Nat) : Int) = ((q : Nat) : Int) := by rw [IntKind.wrap_u64]; omega
  have d4 : IntKind.u64.wrap ((r : Nat) : Int) = ((r : Nat) : Int) := by rw [IntKind.wrap_u64]; omega
  go_enter Tryz.func99, Tryz.ntmps99
  go_wp2_with fail
  go_quiet (fail)
  go_wp2_with fail
  go_ret2
  exact ⟨rfl, _, rfl⟩
end Go.Proofs.YtncnmadiiaidfaaGreatDoor
/- cmp.Or of errors. -/
namespace Go.Proofs.YtncnmadiiaidfaaGreatDoor
open Go.RowKit

def encI (n : Int) : List Value := [.int .i64 n]
theorem orI_drop (zs : List Int) (k : Nat) (hk : k < zs.length) : orI (zs.drop k) = if zs[k] = 0 then orI (zs.drop (k + 1)) else zs[k] := by
  rw [List.drop_eq_getElem_cons hk]; rfl
end Go.Proofs.YtncnmadiiaidfaaGreatDoor
/- Sorted keys: the program's check and the reference's. -/
namespace Go.Proofs.YtncnmadiiaidfaaGreatDoor
open Go.RowKit

def Small (l : List ByteArray) : Prop := ∀ s ∈ l, s.size ≤ 1000000
theorem Small.at {l : List ByteArray} (h : Small l) (k : Nat) (hk : k < l.length) : l[k].size ≤ 1000000 := h _ (List.getElem_mem hk)

end Go.Proofs.YtncnmadiiaidfaaGreatDoor
/- slices.ContainsFunc over numbers and dues, slices.EqualFunc of keys and dues: each for every function value that answers plainly. -/
namespace Go.Proofs.YtncnmadiiaidfaaGreatDoor
open Go.RowKit

def Enters (g : Nat) : Prop := ∀ args w, (callFunc g args).run Tryz.prog w = .ok (.enter g args) w

set_option maxHeartbeats 1000000 in
theorem w_IndexFI (g : Nat) (p : Int → Bool) (eg : Enters g) (hcl : ∀ x W, Calls Tryz.prog g #[.int .i64 x] W fun e w' => e = .returned (.bool (p x)) ∧ W = w')
    (lo : Nat) (A : Option Addr) (c : Nat) (l : List Int) (w : World) (hR : Rd w lo A 1 encI l) (hl : l.length ≤ 65536) :
    Calls Tryz.prog 47 #[.slice A l.length c, .func (.func g) #[] #[]] w fun e w' => ∃ r : Int, e = .returned (.int .i64 r) ∧ decide (0 ≤ r) = l.any p ∧ w = w' := by
  generalize hn : l.length = n at *
  have HR := hide hR
  have HN := hide hn
  have HC0 := hide hcl
  clear hR hn hcl
  unfold Enters at eg
  go_enter Tryz.func47, Tryz.ntmps47
  go_wp2
  go_loop [5, 8] (fun _ i => ∃ k : Nat, k ≤ n ∧ i = .int .i64 k ∧ (l.take k).any p = false) (fun _ i => n - (intOf i).toNat)
  case atStart => exact ⟨0, Nat.zero_le _, rfl, rfl⟩
  case round =>
    obtain ⟨k, hk, rfl, hq⟩ := hrel
    have HQ := hide hq
    clear hq
    by_cases hlt : k < n
    · have hlt' : k < l.length := by have := HN.out; omega
      obtain ⟨b, off, rfl, _, hb, _, hc⟩ := HR.out.open_ (Nx.refl w) (by omega)
      have c0 : w.cell? ⟨b, off + k, none⟩ = some (.int .i64 l[k]) := by have := hc k hlt' 0 _ rfl; simpa using this
      clear hc
      cases hbig : p l[k]
      · have HB := hide hbig
        have hcl := HC0.out l[k]
        rw [hbig] at hcl
        have HCL := hide hcl
        clear hbig hcl
        go_wp2_with (go_at_fn g; refine (HCL.out _).mono ?_; rintro e w2 ⟨rfl, rfl⟩)
        go_round
        case rel => exact ⟨k + 1, by omega, by go_num, by rw [List.take_succ_eq_append_getElem hlt', List.any_append, HQ.out]; simp [HB.out]⟩
        case measure => simp [intOf]; omega
      · have HB := hide hbig
        have hcl := HC0.out l[k]
        rw [hbig] at hcl
        have HCL := hide hcl
        clear hbig hcl
        go_wp2_with (go_at_fn g; refine (HCL.out _).mono ?_; rintro e w2 ⟨rfl, rfl⟩)
        go_ret
        refine ⟨_, rfl, ?_, rfl⟩
        rw [show l.any p = true from List.any_eq_true.2 ⟨l[k], List.getElem_mem hlt', HB.out⟩]
        simp
    · go_wp2
      go_ret
      refine ⟨_, rfl, ?_, rfl⟩
      have := HQ.out
      rw [List.take_of_length_le (by have := HN.out; omega)] at this
      rw [this]; rfl
theorem w_ContFI (g : Nat) (p : Int → Bool) (eg : Enters g) (hcl : ∀ x W, Calls Tryz.prog g #[.int .i64 x] W fun e w' => e = .returned (.bool (p x)) ∧ W = w')
    (lo : Nat) (A : Option Addr) (c : Nat) (l : List Int) (w : World) (hR : Rd w lo A 1 encI l) (hl : l.length ≤ 65536) :
    Calls Tryz.prog 26 #[.slice A l.length c, .func (.func g) #[] #[]] w fun e w' => e = .returned (.bool (l.any p)) ∧ w = w' := by
  have hcon := fun W => w_IndexFI g p eg hcl lo A c l W
  clear hcl eg
  go_enter Tryz.func26, Tryz.ntmps26
  go_wp2_with (go_at_call 47; refine (hcon _ hR hl).mono ?_; rintro e w2 ⟨r, rfl, hr, rfl⟩)
  go_ret
  exact ⟨rfl, rfl⟩

theorem eqS_iff (s t : ByteArray) : (s.toList == t.toList) = decide (s = t) := by
  rw [Bool.eq_iff_iff, beq_iff_eq, decide_eq_true_eq, Lib.toList_data, Lib.toList_data]
  constructor
  · intro h
    rcases s with ⟨⟨s⟩⟩
    rcases t with ⟨⟨t⟩⟩
    simp at h
    rw [h]
  · rintro rfl; rfl

end Go.Proofs.YtncnmadiiaidfaaGreatDoor
/- What is wrong with costs and dues: the program's and the reference's words. -/
namespace Go.Proofs.YtncnmadiiaidfaaGreatDoor
open Go.RowKit

theorem centB_bd {n : Int} (h : centB n = false) : 0 ≤ n ∧ n ≤ 1000000000 := by have := outB_false.1 h; unfold maxCt at this; exact this
end Go.Proofs.YtncnmadiiaidfaaGreatDoor
/- Strings in a list: by halving a sorted one, by looking at all. -/
namespace Go.Proofs.YtncnmadiiaidfaaGreatDoor
open Go.RowKit Go.Proofs Go.Shelf

theorem less_iff (a b : ByteArray) : Op.bytesLess a.toList b.toList = true ↔ ltS a b := by
  rw [bytesLess_eq, Lib.toList_data, Lib.toList_data, decide_eq_true_eq]; rfl
/-- Where x would stand in a sorted list. -/
theorem place (x : ByteArray) : ∀ l : List ByteArray, l.Pairwise ltS → ∃ k, k ≤ l.length ∧ (∀ t (h : t < l.length), t < k → ltS l[t] x) ∧ (∀ t (h : t < l.length), k ≤ t → ¬ ltS l[t] x)
  | [], _ => ⟨0, by simp, fun t h => absurd h (by simp), fun t h => absurd h (by simp)⟩
  | a :: l, hs => by
    rw [List.pairwise_cons] at hs
    obtain ⟨k, h1, h2, h3⟩ := place x l hs.2
    by_cases ha : ltS a x
    · refine ⟨k + 1, by simp; omega, fun t h ht => ?_, fun t h ht => ?_⟩
      · rcases t with _ | t
        · exact ha
        · exact h2 t (by simpa using h) (by omega)
      · rcases t with _ | t
        · omega
        · exact h3 t (by simpa using h) (by omega)
    · refine ⟨0, by simp, fun t h ht => by omega, fun t h ht hl => ?_⟩
      rcases t with _ | t
      · exact ha hl
      · have hm : l[t]'(by simpa using h) ∈ l := List.getElem_mem _
        exact ha (ltS_trans (hs.1 _ hm) hl)
theorem pair_lt {l : List ByteArray} (hs : l.Pairwise ltS) (i j : Nat) (hij : i < j) (hj : j < l.length) : ltS (l[i]'(by omega)) l[j] := by
  rw [List.pairwise_iff_getElem] at hs
  exact hs i j (by omega) hj hij

theorem w_BinS (lo : Nat) (A : Option Addr) (c : Nat) (l : List ByteArray) (x : ByteArray) (w : World) (hR : Rd w lo A 1 encS l) (hl : l.length ≤ 65536) (hs : l.Pairwise ltS) :
    Calls Tryz.prog 171 #[.slice A l.length c, .string x] w fun e w' => ∃ r : Int, e = .returned (.tuple #[.int .i64 r, .bool (memB l x)]) ∧ Nx w w' := by
  by_cases h0 : l.length = 0
  · have e : l = [] := List.eq_nil_of_length_eq_zero h0
    subst e
    have hcon := Any2.slices_BinarySearch_string_empty Tryz.binStr A c x w
    change Calls Tryz.prog 171 _ _ _ at hcon
    exact hcon.mono fun _ _ ⟨h1, h2⟩ => ⟨0, h1, h2 ▸ Nx.refl _⟩
  · obtain ⟨b, off, rfl, _, hb, _, hc⟩ := hR.open_ (Nx.refl w) (by omega)
    have hcell : ∀ j, j < l.length → w.cell? ⟨b, off + j, none⟩ = some (.string (l.getD j x)) := fun j hj => by
      have := hc j hj 0 _ rfl
      rw [List.getD_eq_getElem?_getD, List.getElem?_eq_getElem hj]
      simpa using this
    have hcon := Any2.slices_BinarySearch_string Tryz.binStr b off l.length c (fun t => l.getD t x) x w (by omega) hcell
    change Calls Tryz.prog 171 _ _ _ at hcon
    obtain ⟨k, h1, h2, h3⟩ := place x l hs
    have hg : ∀ t (h : t < l.length), l.getD t x = l[t] := fun t h => by rw [List.getD_eq_getElem?_getD, List.getElem?_eq_getElem h]; rfl
    have hbs : Lib.bsGo (fun t => Op.bytesLess (l.getD t x).toList x.toList) l.length 0 l.length = k := by
      refine Lib.bsGo_spec _ k (fun t ht => ?_) (fun t ht => ?_) _ _ _ (by omega) (by omega) h1
      · show Op.bytesLess (l.getD t x).toList x.toList = true
        rw [less_iff, hg t (by omega)]
        exact h2 t (by omega) ht
      · show Op.bytesLess (l.getD t x).toList x.toList = false
        rw [← Bool.not_eq_true, less_iff]
        by_cases hlt : t < l.length
        · rw [hg t hlt]; exact h3 t hlt ht
        · rw [List.getD_eq_getElem?_getD, List.getElem?_eq_none (by omega)]
          exact ltS_irrefl _
    rw [hbs] at hcon
    refine hcon.mono ?_
    rintro e w' ⟨he, q, rfl⟩
    refine ⟨k, ?_, (Nx.refl _).drewN q⟩
    suffices hbm : decide (k < l.length ∧ l.getD k x = x) = memB l x by rw [he, hbm]
    rw [Bool.eq_iff_iff, decide_eq_true_eq, memB_iff]
    constructor
    · rintro ⟨hk, e⟩
      have e2 : l[k] = x := by rw [← hg k hk]; exact e
      rw [← e2]; exact List.getElem_mem hk
    · intro hm
      obtain ⟨i, hi, e⟩ := List.mem_iff_getElem.1 hm
      have hik : k ≤ i := by
        refine Classical.byContradiction fun hc => ?_
        have := h2 i hi (by omega)
        rw [e] at this; exact ltS_irrefl _ this
      have ek : i = k := by
        refine Classical.byContradiction fun hc => ?_
        have := pair_lt hs k i (by omega) hi
        rw [e] at this
        exact h3 k (by omega) (Nat.le_refl _) this
      subst ek
      exact ⟨hi, by rw [hg i hi, e]⟩
theorem w_ContS (lo : Nat) (A : Option Addr) (c : Nat) (l : List ByteArray) (x : ByteArray) (w : World) (hR : Rd w lo A 1 encS l) (hl : l.length ≤ 65536) :
    Calls Tryz.prog 117 #[.slice A l.length c, .string x] w fun e w' => e = .returned (.bool (memB l x)) ∧ Nx w w' := by
  by_cases h0 : l.length = 0
  · have e : l = [] := List.eq_nil_of_length_eq_zero h0
    subst e
    have hcon := Any.slices_Contains_string_empty Tryz.containsStr A c x w
    change Calls Tryz.prog 117 _ _ _ at hcon
    exact hcon.mono fun _ _ ⟨h1, h2⟩ => ⟨h1, h2 ▸ Nx.refl _⟩
  · obtain ⟨b, off, rfl, _, hb, _, hc⟩ := hR.open_ (Nx.refl w) (by omega)
    have hcell : ∀ j, j < l.length → w.cell? ⟨b, off + j, none⟩ = some (.string (l.getD j ByteArray.empty)) := fun j hj => by
      have := hc j hj 0 _ rfl
      rw [List.getD_eq_getElem?_getD, List.getElem?_eq_getElem hj]
      simpa using this
    have hcon := Any.slices_Contains_string Tryz.containsStr b off l.length c l x w (Nat.le_refl _) (by omega) hcell
    change Calls Tryz.prog 117 _ _ _ at hcon
    have e : Lib.containsS (l.take l.length) x = memB l x := by
      rw [List.take_length, Bool.eq_iff_iff, Lib.containsS_iff, memB_iff]
    rw [e] at hcon
    exact hcon.mono fun _ _ ⟨h1, h2⟩ => ⟨h1, h2 ▸ Nx.refl _⟩
end Go.Proofs.YtncnmadiiaidfaaGreatDoor
