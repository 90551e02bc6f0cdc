/- Plain: zones, what is wrong with them; the zone of a node; the zones to which nodes come. -/
import Derived.Test.YtjhmgkoghapocaaDoorSumK
import Derived.Lib.SlicesCompact
import Derived.Lib.Strings
namespace Go.Proofs.YtjhmgkoghapocaaDoor

structure Zone where
  key : ByteArray
  a : Option Addr
  cap : Nat
  nodes : List ByteArray
instance : Inhabited Zone := ⟨⟨default, none, 0, []⟩⟩
def encZone (z : Zone) : List Value := [.string z.key, .slice z.a z.nodes.length z.cap]
def memB (l : List ByteArray) (s : ByteArray) : Bool := l.any (fun x => decide (x = s))
theorem memB_iff {l : List ByteArray} {s : ByteArray} : memB l s = true ↔ s ∈ l := by
  unfold memB
  rw [List.any_eq_true]
  constructor
  · rintro ⟨x, hx, h⟩
    rw [decide_eq_true_eq] at h; subst h; exact hx
  · intro h
    exact ⟨s, h, by simp⟩
/-- A node: its name, its order, whether it was seen. -/
def nodeE (seen : List ByteArray) (p : Option ByteArray) (s : ByteArray) : Int := if strF p s = 0 then (if memB seen s = true then 6 else 0) else strF p s
def chkN : List ByteArray → Option ByteArray → List ByteArray → Int
  | _, _, [] => 0
  | seen, p, s :: l => if nodeE seen p s = 0 then chkN (seen ++ [s]) (some s) l else nodeE seen p s
def zoneE (p : Option ByteArray) (z : Zone) : Int := if strF p z.key = 0 then (if 500 < z.nodes.length then 2 else 0) else strF p z.key
def chkZ : List ByteArray → Option ByteArray → List Zone → Int
  | _, _, [] => 0
  | seen, p, z :: l => if zoneE p z = 0 then (if chkN seen none z.nodes = 0 then chkZ (seen ++ z.nodes) (some z.key) l else chkN seen none z.nodes) else zoneE p z
def zonesF (zs : List Zone) : Int := if 100 < zs.length then 2 else chkZ [] none zs
def zoneO : List Zone → ByteArray → ByteArray
  | [], _ => ByteArray.empty
  | z :: l, s => if memB z.nodes s = true then z.key else zoneO l s
def namesF (l : List ByteArray) (most : Nat) : Int := if most < l.length then 2 else if l.all keyB then 0 else 5
def namF (s : ByteArray) : Int := if keyB s then 0 else 5

theorem strLe_lt {s q : ByteArray} (h : strLe s q = false) : ltS q s := by
  unfold strLe at h
  rw [Bool.or_eq_false_iff, Proofs.bytesLess_eq, Lib.toList_data, Lib.toList_data] at h
  unfold ltS
  have h1 : ¬ s.data.toList < q.data.toList := by simpa using h.1
  have h2 : s.data.toList ≠ q.data.toList := by simpa using h.2
  have h3 : q.data.toList ≤ s.data.toList := List.not_lt.1 h1
  refine Classical.byContradiction fun hc => h2 (List.le_antisymm (List.not_lt.1 hc) h3)
theorem strF_lt {q s : ByteArray} (h : strF (some q) s = 0) : ltS q s := by
  unfold strF at h
  cases hk : keyB s with
  | false => simp [hk] at h
  | true =>
    rw [hk, if_pos rfl] at h
    cases hl : strLe s q with
    | false => exact strLe_lt hl
    | true => simp [hl] at h
theorem chkN_sorted : ∀ (seen : List ByteArray) (p : Option ByteArray) (l : List ByteArray), chkN seen p l = 0 → l.Pairwise ltS ∧ ∀ q, p = some q → ∀ s ∈ l, ltS q s
  | _, _, [], _ => by simp
  | seen, p, s :: l, h => by
    unfold chkN at h
    split at h
    · rename_i he
      obtain ⟨h1, h2⟩ := chkN_sorted _ _ l h
      have hp : strF p s = 0 := by
        unfold nodeE at he
        split at he
        · assumption
        · assumption
      have h3 : ∀ q, p = some q → ltS q s := fun q e => by subst e; exact strF_lt hp
      refine ⟨List.pairwise_cons.2 ⟨fun y hy => h2 s rfl y hy, h1⟩, fun q e y hy => ?_⟩
      rcases List.mem_cons.1 hy with rfl | hy
      · exact h3 q e
      · exact ltS_trans (h3 q e) (h2 s rfl y hy)
    · rename_i he
      exact absurd h he
theorem chkZ_sorted : ∀ (seen : List ByteArray) (p : Option ByteArray) (l : List Zone), chkZ seen p l = 0 → ∀ z ∈ l, z.nodes.Pairwise ltS
  | _, _, [], _ => by simp
  | seen, p, z :: l, h => by
    unfold chkZ at h
    split at h
    · split at h
      · rename_i hn
        have ih := chkZ_sorted _ _ l h
        intro y hy
        rcases List.mem_cons.1 hy with rfl | hy
        · exact (chkN_sorted _ _ _ hn).1
        · exact ih y hy
      · rename_i hn; exact absurd h hn
    · rename_i hn; exact absurd h hn
theorem zonesF_sorted {zs : List Zone} (h : zonesF zs = 0) : ∀ z ∈ zs, z.nodes.Pairwise ltS := by
  unfold zonesF at h
  split at h
  · exact absurd h (by decide)
  · exact chkZ_sorted _ _ _ h
theorem chkN_drop (seen : List ByteArray) (l : List ByteArray) (k : Nat) (hk : k < l.length) : chkN (seen ++ l.take k) (prevOf l k) (l.drop k) = if nodeE (seen ++ l.take k) (prevOf l k) l[k] = 0 then chkN (seen ++ l.take (k + 1)) (prevOf l (k + 1)) (l.drop (k + 1)) else nodeE (seen ++ l.take k) (prevOf l k) l[k] := by
  rw [List.drop_eq_getElem_cons hk]
  have e1 : prevOf l (k + 1) = some l[k] := prevOf_pos l (k + 1) (by omega) (by omega)
  rw [e1, List.take_succ_eq_append_getElem hk, ← List.append_assoc]
  rfl

/-- The nodes of the first k zones. -/
def seenZ (zs : List Zone) (k : Nat) : List ByteArray := (zs.take k).flatMap Zone.nodes
theorem seenZ_succ (zs : List Zone) (k : Nat) (hk : k < zs.length) : seenZ zs (k + 1) = seenZ zs k ++ zs[k].nodes := by
  unfold seenZ
  rw [List.take_succ_eq_append_getElem hk, List.flatMap_append]; simp
def prevZ (zs : List Zone) (k : Nat) : Option ByteArray := prevOf (zs.map Zone.key) k
theorem chkZ_drop (zs : List Zone) (k : Nat) (hk : k < zs.length) : chkZ (seenZ zs k) (prevZ zs k) (zs.drop k) = if zoneE (prevZ zs k) zs[k] = 0 then (if chkN (seenZ zs k) none zs[k].nodes = 0 then chkZ (seenZ zs (k + 1)) (prevZ zs (k + 1)) (zs.drop (k + 1)) else chkN (seenZ zs k) none zs[k].nodes) else zoneE (prevZ zs k) zs[k] := by
  rw [List.drop_eq_getElem_cons hk]
  have e1 : prevZ zs (k + 1) = some zs[k].key := by
    unfold prevZ
    rw [prevOf_pos _ (k + 1) (by omega) (by rw [List.length_map]; omega)]
    simp
  rw [e1, seenZ_succ zs k hk]
  rfl
theorem zoneO_drop (zs : List Zone) (s : ByteArray) (k : Nat) (hk : k < zs.length) : zoneO (zs.drop k) s = if memB zs[k].nodes s = true then zs[k].key else zoneO (zs.drop (k + 1)) s := by
  rw [List.drop_eq_getElem_cons hk]; rfl

/-- The zones of some nodes, those that have one. -/
def filtO (zs : List Zone) (l : List ByteArray) : List ByteArray := (l.map (zoneO zs)).filter (fun z => !decide (z = ByteArray.empty))
theorem filtO_take (zs : List Zone) (l : List ByteArray) (k : Nat) (hk : k < l.length) : filtO zs (l.take (k + 1)) = if zoneO zs l[k] = ByteArray.empty then filtO zs (l.take k) else filtO zs (l.take k) ++ [zoneO zs l[k]] := by
  unfold filtO
  rw [List.take_succ_eq_append_getElem hk, List.map_append, List.filter_append]
  by_cases h : zoneO zs l[k] = ByteArray.empty
  · rw [if_pos h]; simp [h]
  · rw [if_neg h]; simp [h]

section
variable {α β : Type} [Inhabited α] [DecidableEq α] [Inhabited β] [DecidableEq β]
theorem compact_snoc (zs : List α) (x : α) : Lib.compact (zs ++ [x]) = Lib.compact zs ++ (if zs ≠ [] ∧ zs.getLast? = some x then [] else [x]) := by
  unfold Lib.compact
  rw [show (zs ++ [x]).length = zs.length + 1 by simp, Lib.compactUpTo_succ]
  have e0 : ∀ j, j < zs.length → (zs ++ [x]).toArray[j]! = zs.toArray[j]! := fun j hj => by
    rw [getElem!_pos _ j (by simp; omega), getElem!_pos _ j (by simpa using hj)]
    simp [List.getElem_append_left hj]
  have e1 : Lib.compactUpTo (zs ++ [x]).toArray zs.length = Lib.compactUpTo zs.toArray zs.length := by
    unfold Lib.compactUpTo
    have e2 : (List.range zs.length).filter (Lib.keeps (zs ++ [x]).toArray) = (List.range zs.length).filter (Lib.keeps zs.toArray) := by
      apply List.filter_congr
      intro j hj
      rw [List.mem_range] at hj
      unfold Lib.keeps
      rw [e0 j hj, e0 (j - 1) (by omega)]
    rw [e2]
    apply List.map_congr_left
    intro j hj
    exact e0 j (List.mem_range.1 (List.mem_filter.1 hj).1)
  rw [e1]
  congr 1
  have e3 : (zs ++ [x]).toArray[zs.length]! = x := by
    rw [getElem!_pos _ _ (by simp)]; simp
  rw [e3]
  rcases List.eq_nil_or_concat zs with rfl | ⟨ys, y, rfl⟩
  · simp [Lib.keeps]
  · have e4 : (ys.concat y ++ [x]).toArray[(ys.concat y).length - 1]! = y := by
      rw [e0 _ (by simp), getElem!_pos _ _ (by simp)]; simp
    unfold Lib.keeps
    rw [e3, e4]
    by_cases h : x = y
    · subst h; simp
    · have : ¬ y = x := fun e => h e.symm
      simp [h, this]
theorem compact_last (zs : List α) : (Lib.compact zs).getLast? = zs.getLast? := by
  rcases List.eq_nil_or_concat zs with rfl | ⟨ys, y, rfl⟩
  · rfl
  · rw [List.concat_eq_append, compact_snoc]
    split
    · rename_i h
      rw [List.append_nil, compact_last ys, List.getLast?_append]; simp [h.2]
    · simp
termination_by zs.length
theorem compact_map (f : α → β) (hf : ∀ a b, f a = f b → a = b) (zs : List α) : Lib.compact (zs.map f) = (Lib.compact zs).map f := by
  rcases List.eq_nil_or_concat zs with rfl | ⟨ys, y, rfl⟩
  · rfl
  · rw [List.concat_eq_append, List.map_append, List.map_cons, List.map_nil, compact_snoc, compact_snoc, compact_map f hf ys, List.map_append]
    congr 1
    have e : (ys.map f ≠ [] ∧ (ys.map f).getLast? = some (f y)) ↔ (ys ≠ [] ∧ ys.getLast? = some y) := by
      rw [List.getLast?_map]
      constructor
      · rintro ⟨h1, h2⟩
        refine ⟨fun e => h1 (by rw [e]; rfl), ?_⟩
        cases hl : ys.getLast? with
        | none => rw [hl] at h2; cases h2
        | some z => rw [hl] at h2; simp at h2; rw [hf _ _ h2]
      · rintro ⟨h1, h2⟩
        exact ⟨fun e => h1 (by simpa using e), by rw [h2]; rfl⟩
    by_cases h : ys ≠ [] ∧ ys.getLast? = some y
    · rw [if_pos h, if_pos (e.2 h)]; rfl
    · rw [if_neg h, if_neg (fun hc => h (e.1 hc))]; rfl
termination_by zs.length
end
/-- The zones to which nodes come. -/
def crossO (zs : List Zone) (l : List ByteArray) : List ByteArray := Lib.compact (filtO zs l)
theorem crossO_take (zs : List Zone) (l : List ByteArray) (k : Nat) (hk : k < l.length) : crossO zs (l.take (k + 1)) = if zoneO zs l[k] = ByteArray.empty ∨ (crossO zs (l.take k) ≠ [] ∧ (crossO zs (l.take k)).getLast? = some (zoneO zs l[k])) then crossO zs (l.take k) else crossO zs (l.take k) ++ [zoneO zs l[k]] := by
  unfold crossO
  rw [filtO_take zs l k hk]
  by_cases h : zoneO zs l[k] = ByteArray.empty
  · rw [if_pos h, if_pos (.inl h)]
  · rw [if_neg h, compact_snoc, compact_last]
    have e : Lib.compact (filtO zs (l.take k)) = [] ↔ filtO zs (l.take k) = [] := by
      constructor
      · intro hc
        have := compact_last (filtO zs (l.take k))
        rw [hc] at this
        exact List.getLast?_eq_none_iff.1 this.symm
      · intro hc; rw [hc]; rfl
    by_cases h2 : filtO zs (l.take k) ≠ [] ∧ (filtO zs (l.take k)).getLast? = some (zoneO zs l[k])
    · rw [if_pos h2, if_pos (.inr ⟨fun hc => h2.1 (e.1 hc), h2.2⟩), List.append_nil]
    · rw [if_neg h2, if_neg (fun hc => by
        rcases hc with hc | hc
        · exact h hc
        · exact h2 ⟨fun hd => hc.1 (e.2 hd), hc.2⟩)]
end Go.Proofs.YtjhmgkoghapocaaDoor
