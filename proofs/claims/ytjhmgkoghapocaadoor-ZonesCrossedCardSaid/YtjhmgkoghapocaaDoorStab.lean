/- Plain: sorting by insertion is stable. -/
import Derived.Sort.WalkA
namespace Go.Proofs.YtjhmgkoghapocaaDoor
open Go.Sort Go.Proofs
variable {α : Type} [Inhabited α]
theorem get_bang {d : Array α} {pre suf : List α} {x : α} (h : d.toList = pre ++ x :: suf) : d[pre.length]! = x := by
  have h1 : d[pre.length]? = some x := by rw [← Array.getElem?_toList, h, List.getElem?_append_right (Nat.le_refl _)]; simp
  rw [getElem!_def, h1]
theorem swp_list {d : Array α} {q suf : List α} {x y : α} (h : d.toList = q ++ y :: x :: suf) : (swp d (q.length + 1) q.length).toList = q ++ x :: y :: suf := by
  have h1 : d[q.length]! = y := get_bang h
  have h2 : d[q.length + 1]! = x := by
    have : d.toList = (q ++ [y]) ++ x :: suf := by rw [h]; simp
    have := get_bang this
    simpa using this
  unfold swp
  rw [h1, h2]
  simp only [Array.toList_setIfInBounds, h]
  rw [List.set_append_right _ _ (by omega), show q.length + 1 - q.length = 1 by omega, List.set_cons_succ, List.set_cons_zero, List.set_append_right _ _ (by omega), Nat.sub_self, List.set_cons_zero]
theorem inner_list (lt : α → α → Bool) : ∀ (n : Nat) (pre suf : List α) (x : α) (d : Array α), pre.length = n → d.toList = pre ++ x :: suf → ∃ p1 p2, pre = p1 ++ p2 ∧ (insInner lt 0 n d).toList = p1 ++ x :: (p2 ++ suf) ∧ (∀ y ∈ p2, lt x y = true) ∧ (∀ q y, p1 = q ++ [y] → lt x y = false)
  | 0, pre, suf, x, d, hn, hd => by
    have : pre = [] := List.eq_nil_of_length_eq_zero hn
    subst this
    exact ⟨[], [], rfl, by simpa [insInner] using hd, by simp, by simp⟩
  | n + 1, pre, suf, x, d, hn, hd => by
    have hne : pre ≠ [] := by intro e; subst e; simp at hn
    obtain ⟨q, y, rfl⟩ : ∃ q y, pre = q ++ [y] := ⟨pre.dropLast, pre.getLast hne, (List.dropLast_concat_getLast hne).symm⟩
    have hq : q.length = n := by simpa using hn
    have hx : d[n + 1]! = x := by rw [← hn]; exact get_bang hd
    have hy : d[n]! = y := by rw [← hq]; exact get_bang (suf := x :: suf) (by rw [hd]; simp)
    unfold insInner
    rw [hx, hy]
    by_cases hl : lt x y = true
    · rw [if_pos (by simp [hl])]
      obtain ⟨p1, p2, e1, e2, e3, e4⟩ := inner_list lt n q (y :: suf) x (swp d (n + 1) n) hq (by rw [← hq]; exact swp_list (by rw [hd]; simp))
      refine ⟨p1, p2 ++ [y], by rw [e1]; simp, by rw [e2]; simp, fun z hz => ?_, e4⟩
      rcases List.mem_append.1 hz with hz | hz
      · exact e3 z hz
      · simp at hz; subst hz; exact hl
    · rw [if_neg (by simp [hl])]
      refine ⟨q ++ [y], [], by simp, by simpa using hd, by simp, fun q' y' e => ?_⟩
      have := List.append_inj' e rfl
      simp at this
      rw [← this.2]
      simpa using hl
/-- Sorting by insertion is stable: S is the order at first, R the order behind it. -/
theorem outer_list (lt : α → α → Bool) {R S : α → α → Prop} (h1 : ∀ x y, lt x y = true → R x y) (h2 : ∀ x y, S y x → lt x y = false → R y x) (htr : ∀ x y z, R x y → R y z → R x z) :
    ∀ (m : Nat) (b i : Nat) (d : Array α) (pre suf : List α), b - i = m → i ≤ b → pre.length = i → d.toList = pre ++ suf → b = (pre ++ suf).length → pre.Pairwise R → (∀ y ∈ pre, ∀ x ∈ suf, S y x) → suf.Pairwise S → ((insOuter lt 0 b i d).toList.Perm (pre ++ suf) ∧ (insOuter lt 0 b i d).toList.Pairwise R)
  | 0, b, i, d, pre, suf, hm, hib, hp, hd, hb, hR, hS, hs => by
    have : suf = [] := List.eq_nil_of_length_eq_zero (by simp at hb; omega)
    subst this
    rw [insOuter_stop lt 0 b i d (by omega), hd]
    exact ⟨List.Perm.refl _, by simpa using hR⟩
  | m + 1, b, i, d, pre, suf, hm, hib, hp, hd, hb, hR, hS, hs => by
    cases suf with
    | nil => simp at hb; omega
    | cons x suf =>
      rw [insOuter_go lt 0 b i d (by omega)]
      obtain ⟨p1, p2, e1, e2, e3, e4⟩ := inner_list lt i pre suf x d hp hd
      have hsx := List.pairwise_cons.1 hs
      have hR' : (p1 ++ x :: p2).Pairwise R := by
        subst e1
        rw [List.pairwise_append] at hR ⊢
        have hlast : ∀ y ∈ p1, R y x := by
          intro y hy
          have hne : p1 ≠ [] := List.ne_nil_of_mem hy
          obtain ⟨q, z, e⟩ : ∃ q z, p1 = q ++ [z] := ⟨p1.dropLast, p1.getLast hne, (List.dropLast_concat_getLast hne).symm⟩
          have hz : R z x := h2 x z (hS z (by simp [e]) x (by simp)) (e4 q z e)
          rw [e] at hy
          rcases List.mem_append.1 hy with hy | hy
          · have hp := hR.1
            rw [e, List.pairwise_append] at hp
            exact htr y z x (hp.2.2 y hy z (by simp)) hz
          · simp at hy; subst hy; exact hz
        refine ⟨hR.1, List.pairwise_cons.2 ⟨fun y hy => h1 x y (e3 y hy), hR.2.1⟩, fun y hy z hz => ?_⟩
        rcases List.mem_cons.1 hz with rfl | hz
        · exact hlast y hy
        · exact hR.2.2 y hy z hz
      have hperm : (p1 ++ x :: p2).Perm (pre ++ [x]) := by
        subst e1
        exact (List.perm_middle).trans (List.perm_append_singleton x (p1 ++ p2)).symm
      have hl : (p1 ++ x :: p2).length = i + 1 := by have := hperm.length_eq; simp at this ⊢; omega
      have ih := outer_list lt h1 h2 htr m b (i + 1) (insInner lt 0 i d) (p1 ++ x :: p2) suf (by omega) (by simp at hb; omega) hl (by rw [e2]; simp) (by simp at hb hl ⊢; omega) hR'
        (fun y hy z hz => by
          have hy' := hperm.mem_iff.1 hy
          rcases List.mem_append.1 hy' with hy' | hy'
          · exact hS y hy' z (by simp [hz])
          · simp at hy'; subst hy'; exact hsx.1 z hz) hsx.2
      refine ⟨ih.1.trans ?_, ih.2⟩
      have := hperm.append_right suf
      simpa using this
theorem ins_stable (lt : α → α → Bool) {R S : α → α → Prop} (h1 : ∀ x y, lt x y = true → R x y) (h2 : ∀ x y, S y x → lt x y = false → R y x) (htr : ∀ x y z, R x y → R y z → R x z) (d : Array α) (hS : d.toList.Pairwise S) :
    (insertionSort lt d 0 d.size).toList.Perm d.toList ∧ (insertionSort lt d 0 d.size).toList.Pairwise R := by
  unfold insertionSort
  cases hd : d.toList with
  | nil =>
    have : d.size = 0 := by rw [← Array.length_toList, hd]; rfl
    rw [insOuter_stop lt 0 _ _ d (by omega), hd]
    exact ⟨List.Perm.refl _, List.Pairwise.nil⟩
  | cons x l =>
    rw [hd] at hS
    have hx := List.pairwise_cons.1 hS
    have hsz : d.size = l.length + 1 := by rw [← Array.length_toList, hd]; rfl
    exact outer_list lt h1 h2 htr _ d.size 1 d [x] l rfl (by omega) rfl hd (by rw [hsz]; simp) (by simp) (fun y hy z hz => by simp at hy; subst hy; exact hx.1 z hz) hx.2
end Go.Proofs.YtjhmgkoghapocaaDoor
