/- A map of rows of strings, each row a block of its own: 'm[k] = append(m[k], s)'. -/
import Derived.Test.YtepbamacebjopaaGreatDoorQG10
import Derived.Test.YtepbamacebjopaaGreatDoorQG15
import Derived.Test.YtepbamacebjopaaGreatDoorQG19
namespace Go.Proofs.YtepbamacebjopaaGreatDoor
open Go.RowKit Go.Maps

/-- A slice as a map's element. -/
structure SlV where
  a : Option (Nat × Nat)
  n : Nat
  c : Nat
def slVal : SlV → Value
  | ⟨none, n, c⟩ => .slice none n c
  | ⟨some (b, o), n, c⟩ => .slice (some ⟨b, o, none⟩) n c
def slD : SlV → DataW Unit
  | ⟨none, n, c⟩ => .agg [.lit (.int .i64 (n : Int)), .lit (.int .i64 (c : Int))]
  | ⟨some (b, o), n, c⟩ => .agg [.lit (.int .i64 (b : Int)), .lit (.int .i64 (o : Int)), .lit (.int .i64 (n : Int)), .lit (.int .i64 (c : Int))]
def slElem : Value → Option (DataW Unit × List MemPlace)
  | .slice none n c => some (slD ⟨none, n, c⟩, [])
  | .slice (some ⟨b, o, none⟩) n c => some (slD ⟨some (b, o), n, c⟩, [])
  | _ => none
theorem elemSl : ElemR slElem slVal slD (fun _ => True) where
  make v _ := by
    obtain ⟨a, n, c⟩ := v
    cases a with
    | none => exact ⟨[], rfl⟩
    | some p => exact ⟨[], rfl⟩
  inv x d ps h := by
    unfold slElem at h
    split at h
    · rename_i n c
      injection h with h; injection h with h1 h2
      exact ⟨⟨none, n, c⟩, trivial, rfl, h1.symm⟩
    · rename_i b o n c
      injection h with h; injection h with h1 h2
      exact ⟨⟨some (b, o), n, c⟩, trivial, rfl, h1.symm⟩
    · cases h
  inj a b h := by
    obtain ⟨a, n, c⟩ := a
    obtain ⟨b, n', c'⟩ := b
    cases a with
    | none =>
      cases b with
      | none => simp [slD] at h; simp; omega
      | some q => simp [slD] at h
    | some p =>
      cases b with
      | none => simp [slD] at h
      | some q =>
        obtain ⟨p1, p2⟩ := p
        obtain ⟨q1, q2⟩ := q
        simp [slD] at h
        simp
        omega
/-- A map from strings to rows of strings. -/
abbrev MpSW (w : World) (b n : Nat) (f : ByteArray → Option SlV) : Prop := MgI Tryz.prog 9 Value.string domS slElem slD w b n f
/-- Each row is a block of its own. -/
structure NextI (w : World) (mb base N : Nat) (f : ByteArray → Option SlV) (L : ByteArray → List ByteArray) : Prop where
  map : MpSW w mb N f
  no : ∀ s, f s = none → L s = []
  rows : ∀ s v, f s = some v → w.ownsRow base 9 1 (slVal v) (L s).length ((L s).flatMap encS)
  dist : ∀ s t v u, f s = some v → f t = some u → s ≠ t → (slVal v).ownBlock = none ∨ (slVal v).ownBlock ≠ (slVal u).ownBlock
theorem own_notMap {w : World} {base K n : Nat} {e : TypeId} {v : Value} {xs : List Value} {g : Nat} {es : Array MapEntry} {t : Nat} (h : w.ownsRow base e K v n xs) (hb : w.heap[g]? = some (.map es t)) : v.ownBlock ≠ some g := by
  rcases h.2 with ⟨rfl, _⟩ | ⟨g', cap, cur, rfl, _, hg, _⟩
  · intro e; cases e
  · intro e
    injection e with e
    subst e
    rw [hb] at hg
    cases hg
theorem MgI.isMap {κ V : Type} {P : Program} {K : TypeId} {ek : κ → Value} {dom : κ → Prop} {R : Value → Option (DataW Unit × List MemPlace)} {dv : V → DataW Unit} {w : World} {b n : Nat} {f : κ → Option V} (h : MgI P K ek dom R dv w b n f) : ∃ es t, w.heap[b]? = some (.map es t) := by
  obtain ⟨D, ⟨es, clock, h1, _⟩, _⟩ := h
  exact ⟨es, clock, h1⟩
section
variable {w w' : World} {mb base N : Nat} {f : ByteArray → Option SlV} {L : ByteArray → List ByteArray}
theorem NextI.nx (h : NextI w mb base N f L) (hn : Nx w w') : NextI w' mb base N f L := ⟨h.map.nx hn, h.no, fun s v hv => own_nx (h.rows s v hv) hn, h.dist⟩
theorem NextI.made (_ : World) (hb : w.heap[mb]? = some (.map #[] 0)) (base : Nat) : NextI w mb base 0 (fun _ => Option.none) (fun _ => []) := ⟨MgI.fresh hb, fun _ _ => rfl, (fun s v h => (by cases h)), (fun s t v u h => (by cases h))⟩
/-- The row at a key, nil where the key is new. -/
theorem NextI.at_ (h : NextI w mb base N f L) (s : ByteArray) : w.ownsRow base 9 1 (slVal ((f s).getD ⟨none, 0, 0⟩)) (L s).length ((L s).flatMap encS) := by
  cases hf : f s with
  | none =>
    rw [h.no s hf]
    exact World.ownsRow_nil _ _ _ _
  | some v => exact h.rows s v hf
/-- A row has grown, and is put back. -/
theorem NextI.put {w1 w2 : World} {v : SlV} {s x : ByteArray} (h : NextI w mb base N f L) (hg : w.grownBy w1 (slVal ((f s).getD ⟨none, 0, 0⟩)).ownBlock) (hown : w1.ownsRow base 9 1 (slVal v) (L s ++ [x]).length ((L s ++ [x]).flatMap encS)) (hat : ∀ b, (slVal v).ownBlock = some b → (slVal ((f s).getD ⟨none, 0, 0⟩)).ownBlock = some b ∨ w.heap.size ≤ b)
    (hM : MpSW w2 mb (N + 1) (fun t => if t = s then some v else f t)) (hg2 : Gr mb w1 w2) (hmb : ∃ es t, w1.heap[mb]? = some (.map es t)) : NextI w2 mb base (N + 1) (fun t => if t = s then some v else f t) (fun t => if t = s then L s ++ [x] else L t) := by
  obtain ⟨es, tt, hmb⟩ := hmb
  have key : ∀ t u, t ≠ s → f t = some u → (slVal u).ownBlock = Option.none ∨ (slVal u).ownBlock ≠ (slVal ((f s).getD ⟨Option.none, 0, 0⟩)).ownBlock := fun t u ht hu => by
    cases hf : f s with
    | none =>
      rcases hb : (slVal u).ownBlock with _ | b
      · exact .inl rfl
      · right; intro e; cases e
    | some v0 => exact h.dist t s u v0 hu hf ht
  have hlt : ∀ t u i, f t = some u → (slVal u).ownBlock = some i → i < w.heap.size := fun t u i hu hi => ((h.rows t u hu).lt i hi).2
  refine ⟨hM, fun t ht => ?_, fun t u hu => ?_, fun t t' u u' hu hu' hne => ?_⟩
  · by_cases e : t = s
    · rw [if_pos e] at ht; cases ht
    · rw [if_neg e] at ht ⊢
      exact h.no t ht
  · by_cases e : t = s
    · rw [if_pos e] at hu ⊢
      injection hu with hu
      subst hu
      exact hown.kept (row := some mb) hg2 (.inr (own_notMap hown hmb))
    · rw [if_neg e] at hu ⊢
      have h1 := (h.rows t u hu).kept hg (key t u e hu)
      exact h1.kept (row := some mb) hg2 (.inr (own_notMap h1 hmb))
  · by_cases e : t = s
    · rw [if_pos e] at hu
      injection hu with hu
      subst hu
      have e' : t' ≠ s := fun h => hne (e.trans h.symm)
      rw [if_neg e'] at hu'
      rcases hb : (slVal v).ownBlock with _ | b
      · exact .inl rfl
      · right
        rw [← hb]
        intro e2
        rcases hat b hb with h1 | h1
        · rcases key t' u' e' hu' with h2 | h2
          · rw [h2, hb] at e2; cases e2
          · exact h2 (e2.symm.trans (hb.trans h1.symm))
        · have := hlt t' u' b hu' (e2.symm.trans hb)
          omega
    · rw [if_neg e] at hu
      by_cases e' : t' = s
      · rw [if_pos e'] at hu'
        injection hu' with hu'
        subst hu'
        rcases hb : (slVal u).ownBlock with _ | b
        · exact .inl rfl
        · right
          intro e2
          rcases hat b e2.symm with h1 | h1
          · rcases key t u e hu with h2 | h2
            · rw [h2] at hb; cases hb
            · exact h2 (hb.trans h1.symm)
          · have := hlt t u b hu hb
            omega
      · rw [if_neg e'] at hu'
        exact h.dist t t' u u' hu hu' hne
end
end Go.Proofs.YtepbamacebjopaaGreatDoor
/- Which nodes one comes to (plain): what 'reached' does. -/
namespace Go.Proofs.YtepbamacebjopaaGreatDoor

/-- The heads of the arcs out of a node. -/
def rowE (E : List (ByteArray × ByteArray)) (s : ByteArray) : List ByteArray := (E.filter fun e => decide (e.1 = s)).map (·.2)
theorem rowE_add (E : List (ByteArray × ByteArray)) (a b : ByteArray) : rowE (E ++ [(a, b)]) = fun t => if t = a then rowE E a ++ [b] else rowE E t := by
  funext t
  unfold rowE
  by_cases e : t = a
  · subst e; simp
  · have : ¬ a = t := fun h => e h.symm
    simp [e, this]
theorem rowE_mem {E : List (ByteArray × ByteArray)} {s y : ByteArray} : y ∈ rowE E s ↔ (s, y) ∈ E := by
  unfold rowE
  constructor
  · intro h
    obtain ⟨e, he, rfl⟩ := List.mem_map.1 h
    obtain ⟨h1, h2⟩ := List.mem_filter.1 he
    have h2 : e.1 = s := by simpa using h2
    subst h2
    exact h1
  · intro h
    exact List.mem_map.2 ⟨(s, y), List.mem_filter.2 ⟨h, by simp⟩, rfl⟩
theorem rowE_len (E : List (ByteArray × ByteArray)) (s : ByteArray) : (rowE E s).length ≤ E.length := by
  unfold rowE
  rw [List.length_map]
  exact List.length_filter_le _ _
theorem nodupS_len : ∀ (l m : List ByteArray), l.Nodup → (∀ x ∈ l, x ∈ m) → l.length ≤ m.length
  | [], m, _, _ => by simp
  | x :: l, m, hn, hs => by
    have hx := hs x (by simp)
    obtain ⟨s, t, rfl⟩ := List.append_of_mem hx
    have hn2 := List.nodup_cons.1 hn
    have := nodupS_len l (s ++ t) hn2.2 (fun y hy => by
      have h1 := hs y (by simp [hy])
      have h2 : y ≠ x := fun e => hn2.1 (e ▸ hy)
      simp only [List.mem_append, List.mem_cons] at h1 ⊢
      rcases h1 with h1 | h1 | h1
      · exact .inl h1
      · exact absurd h1 h2
      · exact .inr h1)
    simp only [List.length_append, List.length_cons] at this ⊢
    omega
inductive ReachE (E : List (ByteArray × ByteArray)) (a : ByteArray) : ByteArray → Prop
  | refl : ReachE E a a
  | step {x y : ByteArray} : ReachE E a x → (x, y) ∈ E → ReachE E a y
/-- While one looks: vs are seen, of l's the arcs are still to come, and of n's those from j on. -/
structure Dfs (E : List (ByteArray × ByteArray)) (a : ByteArray) (vs l : List ByteArray) : Prop where
  nodup : vs.Nodup
  start : a ∈ vs
  sub : ∀ x ∈ l, x ∈ vs
  rch : ∀ x ∈ vs, ReachE E a x
  shut : ∀ x ∈ vs, x ∉ l → ∀ y, (x, y) ∈ E → y ∈ vs
structure DfsIn (E : List (ByteArray × ByteArray)) (a n : ByteArray) (j : Nat) (vs l : List ByteArray) : Prop where
  nodup : vs.Nodup
  start : a ∈ vs
  sub : ∀ x ∈ l, x ∈ vs
  rch : ∀ x ∈ vs, ReachE E a x
  shut : ∀ x ∈ vs, x ∉ l → x ≠ n → ∀ y, (x, y) ∈ E → y ∈ vs
  at_ : n ∈ vs
  part : ∀ y ∈ (rowE E n).take j, y ∈ vs
section
variable {E : List (ByteArray × ByteArray)} {a n : ByteArray} {j : Nat} {vs l : List ByteArray}
theorem Dfs.first (E : List (ByteArray × ByteArray)) (a : ByteArray) : Dfs E a [a] [a] :=
  ⟨by simp, by simp, fun x h => h, fun x h => by rw [List.mem_singleton.1 h]; exact .refl, fun x h h2 => absurd h h2⟩
theorem Dfs.pop (h : Dfs E a vs (l ++ [n])) : DfsIn E a n 0 vs l :=
  ⟨h.nodup, h.start, fun x hx => h.sub x (by simp [hx]), h.rch, fun x hx h1 h2 => h.shut x hx (by simp [h1, h2]), h.sub n (by simp), fun y hy => by simp at hy⟩
theorem takeE_next {α : Type} {l : List α} {j : Nat} (hj : j < l.length) : l.take (j + 1) = l.take j ++ [l[j]] := by rw [List.take_succ_eq_append_getElem hj]
theorem DfsIn.old (h : DfsIn E a n j vs l) (hj : j < (rowE E n).length) (hy : (rowE E n)[j] ∈ vs) : DfsIn E a n (j + 1) vs l :=
  ⟨h.nodup, h.start, h.sub, h.rch, h.shut, h.at_, fun y hy2 => by
    rw [takeE_next hj] at hy2
    rcases List.mem_append.1 hy2 with h1 | h1
    · exact h.part y h1
    · rw [List.mem_singleton.1 h1]; exact hy⟩
theorem DfsIn.new_ (h : DfsIn E a n j vs l) (hj : j < (rowE E n).length) (hy : (rowE E n)[j] ∉ vs) : DfsIn E a n (j + 1) (vs ++ [(rowE E n)[j]]) (l ++ [(rowE E n)[j]]) := by
  have hm : (n, (rowE E n)[j]) ∈ E := rowE_mem.1 (List.getElem_mem hj)
  generalize hz : (rowE E n)[j] = z at *
  refine ⟨?_, by simp [h.start], fun x hx => ?_, fun x hx => ?_, fun x hx h1 h2 y hE => ?_, by simp [h.at_], fun y hy2 => ?_⟩
  · rw [List.nodup_append]
    refine ⟨h.nodup, by simp, fun x hx y hy2 e => ?_⟩
    rw [List.mem_singleton.1 hy2] at e
    exact hy (e ▸ hx)
  · rcases List.mem_append.1 hx with h1 | h1
    · simp [h.sub x h1]
    · simp [List.mem_singleton.1 h1]
  · rcases List.mem_append.1 hx with h1 | h1
    · exact h.rch x h1
    · rw [List.mem_singleton.1 h1]
      exact .step (h.rch n h.at_) hm
  · have h3 : x ∉ l := fun e => h1 (by simp [e])
    have h4 : x ≠ z := fun e => h1 (by simp [e])
    rcases List.mem_append.1 hx with h5 | h5
    · have := h.shut x h5 h3 h2 y hE
      simp [this]
    · exact absurd (List.mem_singleton.1 h5) h4
  · rw [takeE_next hj, hz] at hy2
    rcases List.mem_append.1 hy2 with h1 | h1
    · have := h.part y h1
      simp [this]
    · simp [List.mem_singleton.1 h1]
theorem DfsIn.done (h : DfsIn E a n (rowE E n).length vs l) : Dfs E a vs l :=
  ⟨h.nodup, h.start, h.sub, h.rch, fun x hx h1 y hE => by
    by_cases e : x = n
    · subst e
      exact h.part y (by rw [List.take_of_length_le (Nat.le_refl _)]; exact rowE_mem.2 hE)
    · exact h.shut x hx h1 e y hE⟩
theorem reachE_in (x : ByteArray) (h : ReachE E a x) : x ∈ a :: E.map (·.2) := by
  cases h with
  | refl => simp
  | step h1 h2 => exact List.mem_cons_of_mem _ (List.mem_map.2 ⟨_, h2, rfl⟩)
theorem DfsIn.len (h : DfsIn E a n j vs l) : vs.length ≤ E.length + 1 := by
  have := nodupS_len _ _ h.nodup (fun x hx => reachE_in x (h.rch x hx))
  simpa using this
theorem Dfs.len (h : Dfs E a vs l) : vs.length ≤ E.length + 1 := by
  have := nodupS_len _ _ h.nodup (fun x hx => reachE_in x (h.rch x hx))
  simpa using this
theorem Dfs.all (h : Dfs E a vs []) (x : ByteArray) : x ∈ vs ↔ ReachE E a x := by
  refine ⟨h.rch x, fun hr => ?_⟩
  induction hr with
  | refl => exact h.start
  | step _ h2 ih => exact h.shut _ ih (by simp) _ h2
end
/-- What has been seen, as a map has it. -/
def seenF (vs : List ByteArray) (x : ByteArray) : Option Bool := if vs.any (fun y => decide (y = x)) then some true else none
theorem seenF_in {vs : List ByteArray} {x : ByteArray} (h : x ∈ vs) : seenF vs x = some true := if_pos (List.any_eq_true.2 ⟨x, h, by simp⟩)
theorem seenF_out {vs : List ByteArray} {x : ByteArray} (h : x ∉ vs) : seenF vs x = none := if_neg (fun e => by
  obtain ⟨y, hy, e⟩ := List.any_eq_true.1 e
  have e : y = x := by simpa using e
  exact h (e ▸ hy))
theorem seenF_add (vs : List ByteArray) (k : ByteArray) : seenF (vs ++ [k]) = fun x => if x = k then some true else seenF vs x := by
  funext x
  by_cases e : x = k
  · rw [if_pos e, seenF_in (by simp [e])]
  · rw [if_neg e]
    by_cases h : x ∈ vs
    · rw [seenF_in h, seenF_in (by simp [h])]
    · rw [seenF_out h, seenF_out (by simp [h, e])]
end Go.Proofs.YtepbamacebjopaaGreatDoor
