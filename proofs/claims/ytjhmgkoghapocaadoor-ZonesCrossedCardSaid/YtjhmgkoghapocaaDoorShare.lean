/- Plain functions: what is left is given out one by one; sorting in place. -/
namespace Go.Proofs.YtjhmgkoghapocaaDoor
/-- i gets one of what is left ahead of j. -/
def beats (rs : List Int) (i j : Nat) : Prop := rs.getD j 0 < rs.getD i 0 ∨ (rs.getD i 0 = rs.getD j 0 ∧ i < j)
theorem beats_asymm {rs : List Int} {i j : Nat} (h : beats rs i j) (k : beats rs j i) : False := by unfold beats at h k; omega
structure UpSet (rs : List Int) (T : List Nat) : Prop where
  nd : T.Nodup
  lt : ∀ i ∈ T, i < rs.length
  up : ∀ i ∈ T, ∀ j, j < rs.length → j ∉ T → beats rs i j
theorem nodup_len : ∀ {l m : List Nat}, l.Nodup → (∀ x ∈ l, x ∈ m) → l.length ≤ m.length
  | [], _, _, _ => by simp
  | x :: l, m, hn, hs => by
    have h1 := List.nodup_cons.1 hn
    have h2 : l.length ≤ (m.erase x).length := nodup_len h1.2 (fun y hy => by
      have hne : y ≠ x := fun e => h1.1 (e ▸ hy)
      exact (List.mem_erase_of_ne hne).2 (hs y (List.mem_cons_of_mem _ hy)))
    have h3 := List.length_erase_of_mem (hs x (by simp))
    have h4 : 0 < m.length := List.length_pos_of_mem (hs x (by simp))
    simp only [List.length_cons]
    omega
theorem UpSet.sub {rs : List Int} {S T : List Nat} (hS : UpSet rs S) (hT : UpSet rs T) (hl : S.length = T.length) : ∀ i ∈ S, i ∈ T := by
  intro a ha
  refine Classical.byContradiction fun hna => ?_
  have hb : ∃ b ∈ T, b ∉ S := by
    refine Classical.byContradiction fun hno => ?_
    have hsub : ∀ x ∈ T, x ∈ S.erase a := fun x hx => by
      have hxS : x ∈ S := Classical.byContradiction fun h => hno ⟨x, hx, h⟩
      have hne : x ≠ a := fun e => hna (e ▸ hx)
      exact (List.mem_erase_of_ne hne).2 hxS
    have h1 := nodup_len hT.nd hsub
    have h2 := List.length_erase_of_mem ha
    have h3 : 0 < S.length := List.length_pos_of_mem ha
    omega
  obtain ⟨b, hb, hbS⟩ := hb
  exact beats_asymm (hS.up a ha b (hT.lt b hb) hbS) (hT.up b hb a (hS.lt a ha) hna)
theorem UpSet.same {rs : List Int} {S T : List Nat} (hS : UpSet rs S) (hT : UpSet rs T) (hl : S.length = T.length) (i : Nat) : i ∈ S ↔ i ∈ T :=
  ⟨hS.sub hT hl i, hT.sub hS hl.symm i⟩
/-- One more for those in T. -/
def bump (qs : List Int) (T : List Nat) : List Int := qs.mapIdx (fun i q => if i ∈ T then q + 1 else q)
theorem bump_len (qs : List Int) (T : List Nat) : (bump qs T).length = qs.length := by simp [bump]
theorem bump_nil (qs : List Int) : bump qs [] = qs := by
  apply List.ext_getElem
  · simp [bump]
  · intro i h1 h2; simp [bump]
theorem bump_get (qs : List Int) (T : List Nat) (i : Nat) (h : i < (bump qs T).length) : (bump qs T)[i] = if i ∈ T then qs[i]'(by rw [bump_len] at h; exact h) + 1 else qs[i]'(by rw [bump_len] at h; exact h) := by simp [bump]
theorem bump_same {qs : List Int} {S T : List Nat} (h : ∀ i, i ∈ S ↔ i ∈ T) : bump qs S = bump qs T := by
  unfold bump; congr 1; funext i q; simp [h i]
theorem bump_snoc (qs : List Int) (T : List Nat) (b : Nat) (hb : b ∉ T) (hl' : b < (bump qs T).length) : (bump qs T).set b ((bump qs T)[b] + 1) = bump qs (T ++ [b]) := by
  apply List.ext_getElem
  · simp [bump]
  · intro i h1 h2
    simp only [List.getElem_set, bump_get]
    by_cases e : b = i
    · subst e; simp [hb]
    · simp [e]
      by_cases h : i ∈ T
      · simp [h]
      · have : ¬ i = b := fun h => e h.symm
        simp [h, this]
/-- What is given out: rounded down, and what is left one by one to those ahead. -/
def Dealt (qs rs : List Int) (left : Nat) (zs : List Int) : Prop := ∃ T, UpSet rs T ∧ T.length = left ∧ zs = bump qs T
theorem Dealt.unique {qs rs : List Int} {left : Nat} {zs zs' : List Int} (h : Dealt qs rs left zs) (h' : Dealt qs rs left zs') : zs = zs' := by
  obtain ⟨S, hS, hl, rfl⟩ := h
  obtain ⟨T, hT, hl', rfl⟩ := h'
  exact bump_same (hS.same hT (hl.trans hl'.symm))
/-- What the reference still looks at. -/
def cur (rs : List Int) (T : List Nat) : List Int := rs.mapIdx (fun i r => if i ∈ T then -1 else r)
theorem cur_len (rs : List Int) (T : List Nat) : (cur rs T).length = rs.length := by simp [cur]
theorem cur_get (rs : List Int) (T : List Nat) (i : Nat) (h : i < rs.length) : (cur rs T).getD i 0 = if i ∈ T then -1 else rs.getD i 0 := by
  rw [List.getD_eq_getElem?_getD, List.getElem?_eq_getElem (by rw [cur_len]; exact h)]
  simp [cur, List.getD_eq_getElem?_getD, List.getElem?_eq_getElem h]
theorem cur_snoc (rs : List Int) (T : List Nat) (b : Nat) : (cur rs T).set b (-1) = cur rs (T ++ [b]) := by
  apply List.ext_getElem
  · simp [cur]
  · intro i h1 h2
    rw [List.getElem_set]
    by_cases e : b = i
    · subst e; simp [cur]
    · have : ¬ i = b := fun h => e h.symm
      simp [cur, e, this]
/-- The first of the greatest. -/
def FirstMax (cs : List Int) (b : Nat) : Prop := b < cs.length ∧ ∀ j, j < cs.length → cs.getD j 0 < cs.getD b 0 ∨ (cs.getD j 0 = cs.getD b 0 ∧ b ≤ j)
theorem UpSet.next {rs : List Int} {T : List Nat} {b : Nat} (h : UpSet rs T) (hr : ∀ i, i < rs.length → 0 ≤ rs.getD i 0) (hT : T.length < rs.length) (hb : FirstMax (cur rs T) b) : b ∉ T ∧ UpSet rs (T ++ [b]) := by
  obtain ⟨hbl, hm⟩ := hb
  rw [cur_len] at hbl hm
  have hfree : ∃ j, j < rs.length ∧ j ∉ T := by
    refine Classical.byContradiction fun hno => ?_
    have : ∀ x ∈ List.range rs.length, x ∈ T := fun x hx => Classical.byContradiction fun h => hno ⟨x, List.mem_range.1 hx, h⟩
    have := nodup_len List.nodup_range this
    rw [List.length_range] at this
    omega
  have hbT : b ∉ T := by
    intro hbT
    obtain ⟨j, hj, hjT⟩ := hfree
    have h1 := hm j hj
    rw [cur_get _ _ _ hj, cur_get _ _ _ hbl, if_neg hjT, if_pos hbT] at h1
    have := hr j hj
    omega
  refine ⟨hbT, ?_, ?_, ?_⟩
  · rw [List.nodup_append]
    refine ⟨h.nd, by simp, fun x hx y hy => ?_⟩
    simp at hy; subst hy
    exact fun e => hbT (e ▸ hx)
  · intro i hi
    rcases List.mem_append.1 hi with hi | hi
    · exact h.lt i hi
    · simp at hi; subst hi; exact hbl
  · intro i hi j hj hjT
    have hj1 : j ∉ T := fun h => hjT (List.mem_append_left _ h)
    have hj2 : j ≠ b := fun e => hjT (by simp [e])
    rcases List.mem_append.1 hi with hi | hi
    · exact h.up i hi j hj hj1
    · simp at hi; subst hi
      have h1 := hm j hj
      rw [cur_get _ _ _ hj, cur_get _ _ _ hbl, if_neg hj1, if_neg hbT] at h1
      unfold beats
      omega
theorem UpSet.nil (rs : List Int) : UpSet rs [] := ⟨List.nodup_nil, by simp, by simp⟩
/-- The first ones of all, in order. -/
theorem UpSet.take {rs : List Int} {l : List Nat} (hp : l.Perm (List.range rs.length)) (hs : l.Pairwise (beats rs)) (k : Nat) : UpSet rs (l.take k) := by
  have hnd : l.Nodup := hp.nodup_iff.2 List.nodup_range
  refine ⟨?_, ?_, ?_⟩
  · exact List.Nodup.sublist (List.take_sublist k l) hnd
  · intro i hi
    exact List.mem_range.1 (hp.mem_iff.1 (List.mem_of_mem_take hi))
  · intro i hi j hj hjT
    have hjl : j ∈ l := hp.mem_iff.2 (List.mem_range.2 hj)
    have hjd : j ∈ l.drop k := by
      rw [← List.take_append_drop k l] at hjl
      exact (List.mem_append.1 hjl).resolve_left hjT
    rw [← List.take_append_drop k l] at hs
    exact (List.pairwise_append.1 hs).2.2 i hi j hjd
/-- An element is put into its place among sorted ones: R is the order of all. -/
theorem ins_place {α : Type} {R : α → α → Prop} (pre suf : List α) (x : α) (h : (pre ++ suf).Pairwise R) (h1 : ∀ y ∈ pre, R y x) (h2 : ∀ y ∈ suf, R x y) : (pre ++ x :: suf).Pairwise R := by
  rw [List.pairwise_append] at h ⊢
  refine ⟨h.1, List.pairwise_cons.2 ⟨h2, h.2.1⟩, fun a ha b hb => ?_⟩
  rcases List.mem_cons.1 hb with rfl | hb
  · exact h1 a ha
  · exact h.2.2 a ha b hb
/-- Numbers with what is left of each, sorted: those ahead. -/
theorem sorted_up {rs : List Int} {ys : List (Nat × Int)} (hp : ys.Perm ((List.range rs.length).map (fun i => (i, rs.getD i 0)))) (hs : ys.Pairwise (fun a b => b.2 < a.2 ∨ (a.2 = b.2 ∧ a.1 < b.1))) (k : Nat) : UpSet rs ((ys.map (·.1)).take k) := by
  have hv : ∀ a ∈ ys, a.2 = rs.getD a.1 0 := fun a ha => by
    obtain ⟨i, _, rfl⟩ := List.mem_map.1 (hp.mem_iff.1 ha)
    rfl
  refine UpSet.take ?_ ?_ k
  · have := hp.map (·.1)
    rw [List.map_map] at this
    have e : ((fun x : Nat × Int => x.1) ∘ fun i => (i, rs.getD i 0)) = id := rfl
    rw [e, List.map_id] at this
    exact this
  · rw [List.pairwise_map]
    refine List.Pairwise.imp_of_mem (fun ha hb h => ?_) hs
    unfold beats
    rw [← hv _ ha, ← hv _ hb]
    exact h
end Go.Proofs.YtjhmgkoghapocaaDoor
