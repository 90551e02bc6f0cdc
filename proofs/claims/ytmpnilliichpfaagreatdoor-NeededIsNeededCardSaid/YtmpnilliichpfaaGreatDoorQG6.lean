/- Plain: who enters an arc later does not come out earlier. -/
import Derived.Test.YtmpnilliichpfaaGreatDoorQRoadT
import Derived.Test.YtmpnilliichpfaaGreatDoorQG3
import Derived.Lib.SlicesCompact
import Derived.Lib.Strings
import Derived.Test.YtmpnilliichpfaaGreatDoorQG1
import Derived.Test.YtmpnilliichpfaaGreatDoorQG0
import Derived.Deep.RegionHeld3
import Derived.Test.YtmpnilliichpfaaGreatDoorQShelfS
namespace Go.Proofs.YtmpnilliichpfaaGreatDoor

theorem fall_all {l : List Knot} : ∀ (k : Nat), k ≤ l.length → fallF l k = 0 → ∀ i, l.length - k ≤ i → i < l.length → fallsB l i = false
  | 0, _, _, i, h1, h2 => absurd h1 (by omega)
  | k + 1, hk, h, i, h1, h2 => by
    unfold fallF at h
    cases hb : fallsB l (l.length - (k + 1)) with
    | true => rw [hb, if_pos rfl] at h; exact absurd h (by decide)
    | false =>
      rw [hb, if_neg (by simp)] at h
      by_cases e : i = l.length - (k + 1)
      · rw [e]; exact hb
      · exact fall_all k (by omega) h i (by omega) h2
theorem knotsF_fall {l : List Knot} (h : knotsF l = 0) : ∀ i, i < l.length → (l.getD i default).time - (afterK l i).time ≤ (afterK l i).at_ - (l.getD i default).at_ := by
  have hk := knotsF_chk h
  intro i hi
  have h3 : fallF l l.length = 0 := by
    unfold knotsF at h
    have := hk.pos
    have := hk.le
    rw [if_neg (by omega), if_neg (by omega)] at h
    by_cases h2 : chk knotF none l = 0
    · rw [if_pos h2] at h; exact h
    · rw [if_neg h2] at h; exact absurd h h2
  have := fall_all l.length (Nat.le_refl _) h3 i (by omega) hi
  unfold fallsB at this
  have := of_decide_eq_false this
  omega
theorem line_num (x y : Knot) (d : Int) : x.time * (y.at_ - (d + 1)) + y.time * ((d + 1) - x.at_) = (x.time * (y.at_ - d) + y.time * (d - x.at_)) + (y.time - x.time) := by
  have e1 : y.at_ - (d + 1) = (y.at_ - d) - 1 := by omega
  have e2 : (d + 1) - x.at_ = (d - x.at_) + 1 := by omega
  rw [e1, e2, Int.mul_sub, Int.mul_add, Int.mul_one, Int.mul_one]
  omega
theorem line_end (x y : Knot) : x.time * (y.at_ - y.at_) + y.time * (y.at_ - x.at_) = y.time * (y.at_ - x.at_) := by
  rw [Int.sub_self, Int.mul_zero, Int.zero_add]
theorem time_ge {l : List Knot} (h : KOk l) (at_ : Int) : 1 ≤ timeI l at_ := by
  unfold timeI
  generalize ht : at_ % dayMs = t
  have htb : 0 ≤ t ∧ t ≤ 86399999 := by unfold dayMs at ht; omega
  obtain ⟨i, hi, h1, h2⟩ := seg_ex h htb.1
  rw [seg_of h hi h1 h2]
  have hab := after_bd h hi
  have hkb := h.bd i hi
  have haf : t < (afterK l i).at_ := by
    unfold afterK
    by_cases h3 : i + 1 < l.length
    · rw [if_pos h3]; exact h2 h3
    · rw [if_neg h3]; show t < dayMs; unfold dayMs; omega
  generalize afterK l i = y at *
  generalize l.getD i default = x at *
  unfold lineI
  have m1 : 1 * (y.at_ - t) ≤ x.time * (y.at_ - t) := Int.mul_le_mul_of_nonneg_right (by omega) (by omega)
  have m2 : 1 * (t - x.at_) ≤ y.time * (t - x.at_) := Int.mul_le_mul_of_nonneg_right (by omega) (by omega)
  rw [Int.le_ediv_iff_mul_le (by omega)]
  omega
theorem time_step {l : List Knot} (h : knotsF l = 0) (at_ : Int) : timeI l at_ ≤ timeI l (at_ + 1) + 1 := by
  have hk := knotsF_chk h
  have hfl := knotsF_fall h
  have e1 : timeI l at_ = lineI (l.getD (segI l (at_ % dayMs)) default) (afterK l (segI l (at_ % dayMs))) (at_ % dayMs) := rfl
  have e2 : timeI l (at_ + 1) = lineI (l.getD (segI l ((at_ + 1) % dayMs)) default) (afterK l (segI l ((at_ + 1) % dayMs))) ((at_ + 1) % dayMs) := rfl
  rw [e1, e2]
  clear e1 e2
  generalize ht : at_ % dayMs = t
  have htb : 0 ≤ t ∧ t ≤ 86399999 := by unfold dayMs at ht; omega
  obtain ⟨i, hi, h1, h2⟩ := seg_ex hk htb.1
  rw [seg_of hk hi h1 h2]
  have hab := after_bd hk hi
  have hkb := hk.bd i hi
  have hfi := hfl i hi
  have haf : t < (afterK l i).at_ := by
    unfold afterK
    by_cases h3 : i + 1 < l.length
    · rw [if_pos h3]; exact h2 h3
    · rw [if_neg h3]; show t < dayMs; unfold dayMs; omega
  by_cases hc : t + 1 < (afterK l i).at_
  · have et : (at_ + 1) % dayMs = t + 1 := by unfold dayMs at *; omega
    rw [et]
    have hs : segI l (t + 1) = i := seg_of hk hi (by omega) (fun h3 => by unfold afterK at hc; rw [if_pos h3] at hc; exact hc)
    rw [hs]
    generalize afterK l i = y at *
    generalize l.getD i default = x at *
    unfold lineI
    have hn := line_num x y t
    generalize x.time * (y.at_ - t) + y.time * (t - x.at_) = N at *
    rw [hn]
    have e4 : (N + (y.time - x.time) + 1 * (y.at_ - x.at_)) / (y.at_ - x.at_) = (N + (y.time - x.time)) / (y.at_ - x.at_) + 1 := Int.add_mul_ediv_right _ _ (by omega)
    rw [← e4]
    exact Int.ediv_le_ediv (by omega) (by omega)
  · have ey : (afterK l i).at_ = t + 1 := by omega
    have hval : lineI (l.getD i default) (afterK l i) t ≤ (afterK l i).time + 1 := by
      generalize afterK l i = y at *
      generalize l.getD i default = x at *
      unfold lineI
      have hn := line_num x y t
      rw [← ey, line_end x y] at hn
      have e4 : (y.time * (y.at_ - x.at_) + 1 * (y.at_ - x.at_)) / (y.at_ - x.at_) = y.time + 1 := by
        rw [← Int.add_mul]; exact Int.mul_ediv_cancel _ (by omega)
      rw [← e4]
      exact Int.ediv_le_ediv (by omega) (by omega)
    refine Int.le_trans hval ?_
    have h0 : ∀ j, j < l.length → lineI (l.getD j default) (afterK l j) (l.getD j default).at_ = (l.getD j default).time := by
      intro j hj
      have := (after_bd hk hj).1.1
      unfold lineI
      rw [Int.sub_self, Int.mul_zero, Int.add_zero]
      exact Int.mul_ediv_cancel _ (by omega)
    have hend : lineI (l.getD (segI l ((at_ + 1) % dayMs)) default) (afterK l (segI l ((at_ + 1) % dayMs))) ((at_ + 1) % dayMs) = (afterK l i).time := by
      by_cases h3 : i + 1 < l.length
      · have ea : afterK l i = l.getD (i + 1) default := by unfold afterK; rw [if_pos h3]
        rw [ea] at ey ⊢
        have hb1 := hk.bd (i + 1) h3
        have et : (at_ + 1) % dayMs = (l.getD (i + 1) default).at_ := by unfold dayMs at *; omega
        rw [et, seg_of hk h3 (Int.le_refl _) (fun h4 => hk.up (i + 1) h4)]
        exact h0 (i + 1) h3
      · have ea : afterK l i = ⟨dayMs, (l.getD 0 default).time⟩ := by unfold afterK; rw [if_neg h3]
        rw [ea] at ey ⊢
        have ey : dayMs = t + 1 := ey
        have et : (at_ + 1) % dayMs = (l.getD 0 default).at_ := by rw [hk.first]; unfold dayMs at *; omega
        rw [et, seg_of hk hk.pos (Int.le_refl _) (fun h4 => hk.up 0 h4)]
        exact h0 0 hk.pos
    rw [hend]
    exact Int.le_refl _
theorem time_mono {l : List Knot} (h : knotsF l = 0) (t : Int) : ∀ n : Nat, t + timeI l t ≤ (t + n) + timeI l (t + n)
  | 0 => by rw [show t + ((0 : Nat) : Int) = t by omega]; exact Int.le_refl _
  | n + 1 => by
    have h1 := time_mono h t n
    have h2 := time_step h (t + n)
    rw [show t + ((n + 1 : Nat) : Int) = t + n + 1 by omega]
    omega
theorem time_fifo {l : List Knot} (h : knotsF l = 0) {t t' : Int} (ht : t ≤ t') : t + timeI l t ≤ t' + timeI l t' := by
  have := time_mono h t (t' - t).toNat
  rw [show t + ((t' - t).toNat : Int) = t' by omega] at this
  exact this
end Go.Proofs.YtmpnilliichpfaaGreatDoor
/- Plain: zones, what is wrong with them; the zone of a node; the zones to which nodes come. -/
namespace Go.Proofs.YtmpnilliichpfaaGreatDoor

structure Zone where
  key : ByteArray
  a : Option Addr
  cap : Nat
  nodes : List ByteArray
instance : Inhabited Zone := ⟨⟨default, none, 0, []⟩⟩
def encZone (z : Zone) : List Value := [.string z.key, .slice z.a z.nodes.length z.cap]
def memB (l : List ByteArray) (s : ByteArray) : Bool := l.any (fun x => decide (x = s))
theorem memB_iff {l : List ByteArray} {s : ByteArray} : memB l s = true ↔ s ∈ l := by
  unfold memB
  rw [List.any_eq_true]
  constructor
  · rintro ⟨x, hx, h⟩
    rw [decide_eq_true_eq] at h; subst h; exact hx
  · intro h
    exact ⟨s, h, by simp⟩
/-- A node: its name, its order, whether it was seen. -/
def nodeE (seen : List ByteArray) (p : Option ByteArray) (s : ByteArray) : Int := if strF p s = 0 then (if memB seen s = true then 6 else 0) else strF p s
def chkN : List ByteArray → Option ByteArray → List ByteArray → Int
  | _, _, [] => 0
  | seen, p, s :: l => if nodeE seen p s = 0 then chkN (seen ++ [s]) (some s) l else nodeE seen p s
def zoneE (p : Option ByteArray) (z : Zone) : Int := if strF p z.key = 0 then (if 500 < z.nodes.length then 2 else 0) else strF p z.key
def chkZ : List ByteArray → Option ByteArray → List Zone → Int
  | _, _, [] => 0
  | seen, p, z :: l => if zoneE p z = 0 then (if chkN seen none z.nodes = 0 then chkZ (seen ++ z.nodes) (some z.key) l else chkN seen none z.nodes) else zoneE p z
def zonesF (zs : List Zone) : Int := if 100 < zs.length then 2 else chkZ [] none zs
def zoneO : List Zone → ByteArray → ByteArray
  | [], _ => ByteArray.empty
  | z :: l, s => if memB z.nodes s = true then z.key else zoneO l s
def namesF (l : List ByteArray) (most : Nat) : Int := if most < l.length then 2 else if l.all keyB then 0 else 5
def namF (s : ByteArray) : Int := if keyB s then 0 else 5

theorem strLe_lt {s q : ByteArray} (h : strLe s q = false) : ltS q s := by
  unfold strLe at h
  rw [Bool.or_eq_false_iff, Proofs.bytesLess_eq, Lib.toList_data, Lib.toList_data] at h
  unfold ltS
  have h1 : ¬ s.data.toList < q.data.toList := by simpa using h.1
  have h2 : s.data.toList ≠ q.data.toList := by simpa using h.2
  have h3 : q.data.toList ≤ s.data.toList := List.not_lt.1 h1
  refine Classical.byContradiction fun hc => h2 (List.le_antisymm (List.not_lt.1 hc) h3)
theorem strF_lt {q s : ByteArray} (h : strF (some q) s = 0) : ltS q s := by
  unfold strF at h
  cases hk : keyB s with
  | false => simp [hk] at h
  | true =>
    rw [hk, if_pos rfl] at h
    cases hl : strLe s q with
    | false => exact strLe_lt hl
    | true => simp [hl] at h
theorem chkN_sorted : ∀ (seen : List ByteArray) (p : Option ByteArray) (l : List ByteArray), chkN seen p l = 0 → l.Pairwise ltS ∧ ∀ q, p = some q → ∀ s ∈ l, ltS q s
  | _, _, [], _ => by simp
  | seen, p, s :: l, h => by
    unfold chkN at h
    split at h
    · rename_i he
      obtain ⟨h1, h2⟩ := chkN_sorted _ _ l h
      have hp : strF p s = 0 := by
        unfold nodeE at he
        split at he
        · assumption
        · assumption
      have h3 : ∀ q, p = some q → ltS q s := fun q e => by subst e; exact strF_lt hp
      refine ⟨List.pairwise_cons.2 ⟨fun y hy => h2 s rfl y hy, h1⟩, fun q e y hy => ?_⟩
      rcases List.mem_cons.1 hy with rfl | hy
      · exact h3 q e
      · exact ltS_trans (h3 q e) (h2 s rfl y hy)
    · rename_i he
      exact absurd h he
theorem chkZ_sorted : ∀ (seen : List ByteArray) (p : Option ByteArray) (l : List Zone), chkZ seen p l = 0 → ∀ z ∈ l, z.nodes.Pairwise ltS
  | _, _, [], _ => by simp
  | seen, p, z :: l, h => by
    unfold chkZ at h
    split at h
    · split at h
      · rename_i hn
        have ih := chkZ_sorted _ _ l h
        intro y hy
        rcases List.mem_cons.1 hy with rfl | hy
        · exact (chkN_sorted _ _ _ hn).1
        · exact ih y hy
      · rename_i hn; exact absurd h hn
    · rename_i hn; exact absurd h hn
theorem zonesF_sorted {zs : List Zone} (h : zonesF zs = 0) : ∀ z ∈ zs, z.nodes.Pairwise ltS := by
  unfold zonesF at h
  split at h
  · exact absurd h (by decide)
  · exact chkZ_sorted _ _ _ h
theorem chkN_drop (seen : List ByteArray) (l : List ByteArray) (k : Nat) (hk : k < l.length) : chkN (seen ++ l.take k) (prevOf l k) (l.drop k) = if nodeE (seen ++ l.take k) (prevOf l k) l[k] = 0 then chkN (seen ++ l.take (k + 1)) (prevOf l (k + 1)) (l.drop (k + 1)) else nodeE (seen ++ l.take k) (prevOf l k) l[k] := by
  rw [List.drop_eq_getElem_cons hk]
  have e1 : prevOf l (k + 1) = some l[k] := prevOf_pos l (k + 1) (by omega) (by omega)
  rw [e1, List.take_succ_eq_append_getElem hk, ← List.append_assoc]
  rfl

/-- The nodes of the first k zones. -/
def seenZ (zs : List Zone) (k : Nat) : List ByteArray := (zs.take k).flatMap Zone.nodes
theorem seenZ_succ (zs : List Zone) (k : Nat) (hk : k < zs.length) : seenZ zs (k + 1) = seenZ zs k ++ zs[k].nodes := by
  unfold seenZ
  rw [List.take_succ_eq_append_getElem hk, List.flatMap_append]; simp
def prevZ (zs : List Zone) (k : Nat) : Option ByteArray := prevOf (zs.map Zone.key) k
theorem chkZ_drop (zs : List Zone) (k : Nat) (hk : k < zs.length) : chkZ (seenZ zs k) (prevZ zs k) (zs.drop k) = if zoneE (prevZ zs k) zs[k] = 0 then (if chkN (seenZ zs k) none zs[k].nodes = 0 then chkZ (seenZ zs (k + 1)) (prevZ zs (k + 1)) (zs.drop (k + 1)) else chkN (seenZ zs k) none zs[k].nodes) else zoneE (prevZ zs k) zs[k] := by
  rw [List.drop_eq_getElem_cons hk]
  have e1 : prevZ zs (k + 1) = some zs[k].key := by
    unfold prevZ
    rw [prevOf_pos _ (k + 1) (by omega) (by rw [List.length_map]; omega)]
    simp
  rw [e1, seenZ_succ zs k hk]
  rfl
theorem zoneO_drop (zs : List Zone) (s : ByteArray) (k : Nat) (hk : k < zs.length) : zoneO (zs.drop k) s = if memB zs[k].nodes s = true then zs[k].key else zoneO (zs.drop (k + 1)) s := by
  rw [List.drop_eq_getElem_cons hk]; rfl

/-- The zones of some nodes, those that have one. -/
def filtO (zs : List Zone) (l : List ByteArray) : List ByteArray := (l.map (zoneO zs)).filter (fun z => !decide (z = ByteArray.empty))
theorem filtO_take (zs : List Zone) (l : List ByteArray) (k : Nat) (hk : k < l.length) : filtO zs (l.take (k + 1)) = if zoneO zs l[k] = ByteArray.empty then filtO zs (l.take k) else filtO zs (l.take k) ++ [zoneO zs l[k]] := by
  unfold filtO
  rw [List.take_succ_eq_append_getElem hk, List.map_append, List.filter_append]
  by_cases h : zoneO zs l[k] = ByteArray.empty
  · rw [if_pos h]; simp [h]
  · rw [if_neg h]; simp [h]

section
variable {α β : Type} [Inhabited α] [DecidableEq α] [Inhabited β] [DecidableEq β]
theorem compact_snoc (zs : List α) (x : α) : Lib.compact (zs ++ [x]) = Lib.compact zs ++ (if zs ≠ [] ∧ zs.getLast? = some x then [] else [x]) := by
  unfold Lib.compact
  rw [show (zs ++ [x]).length = zs.length + 1 by simp, Lib.compactUpTo_succ]
  have e0 : ∀ j, j < zs.length → (zs ++ [x]).toArray[j]! = zs.toArray[j]! := fun j hj => by
    rw [getElem!_pos _ j (by simp; omega), getElem!_pos _ j (by simpa using hj)]
    simp [List.getElem_append_left hj]
  have e1 : Lib.compactUpTo (zs ++ [x]).toArray zs.length = Lib.compactUpTo zs.toArray zs.length := by
    unfold Lib.compactUpTo
    have e2 : (List.range zs.length).filter (Lib.keeps (zs ++ [x]).toArray) = (List.range zs.length).filter (Lib.keeps zs.toArray) := by
      apply List.filter_congr
      intro j hj
      rw [List.mem_range] at hj
      unfold Lib.keeps
      rw [e0 j hj, e0 (j - 1) (by omega)]
    rw [e2]
    apply List.map_congr_left
    intro j hj
    exact e0 j (List.mem_range.1 (List.mem_filter.1 hj).1)
  rw [e1]
  congr 1
  have e3 : (zs ++ [x]).toArray[zs.length]! = x := by
    rw [getElem!_pos _ _ (by simp)]; simp
  rw [e3]
  rcases List.eq_nil_or_concat zs with rfl | ⟨ys, y, rfl⟩
  · simp [Lib.keeps]
  · have e4 : (ys.concat y ++ [x]).toArray[(ys.concat y).length - 1]! = y := by
      rw [e0 _ (by simp), getElem!_pos _ _ (by simp)]; simp
    unfold Lib.keeps
    rw [e3, e4]
    by_cases h : x = y
    · subst h; simp
    · have : ¬ y = x := fun e => h e.symm
      simp [h, this]
theorem compact_last (zs : List α) : (Lib.compact zs).getLast? = zs.getLast? := by
  rcases List.eq_nil_or_concat zs with rfl | ⟨ys, y, rfl⟩
  · rfl
  · rw [List.concat_eq_append, compact_snoc]
    split
    · rename_i h
      rw [List.append_nil, compact_last ys, List.getLast?_append]; simp [h.2]
    · simp
termination_by zs.length
theorem compact_map (f : α → β) (hf : ∀ a b, f a = f b → a = b) (zs : List α) : Lib.compact (zs.map f) = (Lib.compact zs).map f := by
  rcases List.eq_nil_or_concat zs with rfl | ⟨ys, y, rfl⟩
  · rfl
  · rw [List.concat_eq_append, List.map_append, List.map_cons, List.map_nil, compact_snoc, compact_snoc, compact_map f hf ys, List.map_append]
    congr 1
    have e : (ys.map f ≠ [] ∧ (ys.map f).getLast? = some (f y)) ↔ (ys ≠ [] ∧ ys.getLast? = some y) := by
      rw [List.getLast?_map]
      constructor
      · rintro ⟨h1, h2⟩
        refine ⟨fun e => h1 (by rw [e]; rfl), ?_⟩
        cases hl : ys.getLast? with
        | none => rw [hl] at h2; cases h2
        | some z => rw [hl] at h2; simp at h2; rw [hf _ _ h2]
      · rintro ⟨h1, h2⟩
        exact ⟨fun e => h1 (by simpa using e), by rw [h2]; rfl⟩
    by_cases h : ys ≠ [] ∧ ys.getLast? = some y
    · rw [if_pos h, if_pos (e.2 h)]; rfl
    · rw [if_neg h, if_neg (fun hc => h (e.1 hc))]; rfl
termination_by zs.length
end
/-- The zones to which nodes come. -/
def crossO (zs : List Zone) (l : List ByteArray) : List ByteArray := Lib.compact (filtO zs l)
theorem crossO_take (zs : List Zone) (l : List ByteArray) (k : Nat) (hk : k < l.length) : crossO zs (l.take (k + 1)) = if zoneO zs l[k] = ByteArray.empty ∨ (crossO zs (l.take k) ≠ [] ∧ (crossO zs (l.take k)).getLast? = some (zoneO zs l[k])) then crossO zs (l.take k) else crossO zs (l.take k) ++ [zoneO zs l[k]] := by
  unfold crossO
  rw [filtO_take zs l k hk]
  by_cases h : zoneO zs l[k] = ByteArray.empty
  · rw [if_pos h, if_pos (.inl h)]
  · rw [if_neg h, compact_snoc, compact_last]
    have e : Lib.compact (filtO zs (l.take k)) = [] ↔ filtO zs (l.take k) = [] := by
      constructor
      · intro hc
        have := compact_last (filtO zs (l.take k))
        rw [hc] at this
        exact List.getLast?_eq_none_iff.1 this.symm
      · intro hc; rw [hc]; rfl
    by_cases h2 : filtO zs (l.take k) ≠ [] ∧ (filtO zs (l.take k)).getLast? = some (zoneO zs l[k])
    · rw [if_pos h2, if_pos (.inr ⟨fun hc => h2.1 (e.1 hc), h2.2⟩), List.append_nil]
    · rw [if_neg h2, if_neg (fun hc => by
        rcases hc with hc | hc
        · exact h hc
        · exact h2 ⟨fun hd => hc.1 (e.2 hd), hc.2⟩)]
end Go.Proofs.YtmpnilliichpfaaGreatDoor
/- Plain: arcs and bans checked. -/
namespace Go.Proofs.YtmpnilliichpfaaGreatDoor

structure Arc where
  key : ByteArray
  from_ : ByteArray
  to_ : ByteArray
  long : Int
  ka : Option Addr
  kc : Nat
  knots : List Knot
instance : Inhabited Arc := ⟨⟨default, default, default, 0, none, 0, []⟩⟩
def encArc (a : Arc) : List Value := [.string a.key, .string a.from_, .string a.to_, .int .i64 a.long, .slice a.ka a.knots.length a.kc]
theorem encArc_len (a : Arc) : (encArc a).length = 5 := rfl
theorem encArc_one (x : Arc) : ∀ v ∈ encArc x, v.oneCell' = true := by
  intro v hv; simp [encArc] at hv; rcases hv with rfl | rfl | rfl | rfl | rfl <;> rfl
structure Ban where
  from_ : ByteArray
  to_ : ByteArray
instance : Inhabited Ban := ⟨⟨default, default⟩⟩
def encBan (b : Ban) : List Value := [.string b.from_, .string b.to_]
theorem encBan_len (a : Ban) : (encBan a).length = 2 := rfl
theorem encBan_one (x : Ban) : ∀ v ∈ encBan x, v.oneCell' = true := by
  intro v hv; simp [encBan] at hv; rcases hv with rfl | rfl <;> rfl

section
variable {α : Type}
/-- The first place at which something is so. -/
def idxP (p : α → Bool) : List α → Nat → Int
  | [], _ => -1
  | n :: l, i => if p n then (i : Int) else idxP p l (i + 1)
def findI (p : α → Bool) (l : List α) : Int := idxP p l 0
theorem idxP_at [Inhabited α] (p : α → Bool) : ∀ (l : List α) (j k : Nat), k < l.length → p (l.getD k default) = true → (∀ i, i < k → p (l.getD i default) = false) → idxP p l j = ((j + k : Nat) : Int)
  | [], _, k, hk, _, _ => absurd hk (by simp)
  | n :: l, j, 0, _, h, _ => by
    have h' : p n = true := h
    simp [idxP, h']
  | n :: l, j, k + 1, hk, h, hlo => by
    have h0 : p n = false := hlo 0 (by omega)
    rw [idxP, h0, if_neg (by simp), idxP_at p l (j + 1) k (by simpa using hk) h (fun i hi => hlo (i + 1) (by omega))]
    omega
theorem idxP_no [Inhabited α] (p : α → Bool) : ∀ (l : List α) (j : Nat), (∀ k, k < l.length → p (l.getD k default) = false) → idxP p l j = -1
  | [], _, _ => rfl
  | n :: l, j, h => by
    have h0 : p n = false := h 0 (by simp)
    rw [idxP, h0, if_neg (by simp)]
    exact idxP_no p l (j + 1) (fun k hk => h (k + 1) (by simpa using hk))
theorem idxP_bd (p : α → Bool) : ∀ (l : List α) (j : Nat), idxP p l j = -1 ∨ ∃ k : Nat, k < l.length ∧ idxP p l j = ((j + k : Nat) : Int)
  | [], _ => .inl rfl
  | n :: l, j => by
    unfold idxP
    cases hp : p n with
    | true => exact .inr ⟨0, by simp, by simp⟩
    | false =>
      rw [if_neg (by simp)]
      rcases idxP_bd p l (j + 1) with h | ⟨k, hk, e⟩
      · exact .inl h
      · exact .inr ⟨k + 1, by simpa using hk, by rw [e]; omega⟩
theorem findI_bd (p : α → Bool) (l : List α) : findI p l = -1 ∨ ∃ k : Nat, k < l.length ∧ findI p l = (k : Int) := by
  rcases idxP_bd p l 0 with h | ⟨k, hk, e⟩
  · exact .inl h
  · exact .inr ⟨k, hk, by unfold findI; rw [e, Nat.zero_add]⟩
theorem idxP_drop (p : α → Bool) (l : List α) (k : Nat) (hk : k < l.length) : idxP p (l.drop k) k = if p l[k] then (k : Int) else idxP p (l.drop (k + 1)) (k + 1) := by
  rw [List.drop_eq_getElem_cons hk, idxP]
end

def nodeI (l : List Node) (s : ByteArray) : Int := findI (fun n => decide (n.key = s)) l
def arcI (l : List Arc) (s : ByteArray) : Int := findI (fun n => decide (n.key = s)) l
def arcAt (l : List Arc) (s : ByteArray) : Arc := l.getD (arcI l s).toNat default
def arcG (ns : List Node) (a : Arc) : Int :=
  if nodeI ns a.from_ < 0 ∨ nodeI ns a.to_ < 0 then 8 else if a.from_ = a.to_ then 6 else if outB a.long 1 1000000 then 1 else knotsF a.knots
def arcF (ns : List Node) (p : Option Arc) (a : Arc) : Int :=
  if keyB a.key then (match p with | some q => if strLe a.key q.key then 7 else arcG ns a | none => arcG ns a) else 5
def banG (rs : List Arc) (b : Ban) : Int :=
  if arcI rs b.from_ < 0 ∨ arcI rs b.to_ < 0 then 8 else if (arcAt rs b.from_).to_ = (arcAt rs b.to_).from_ then 0 else 3
def banC (b q : Ban) : Int := if cmpS b.from_ q.from_ = 0 then cmpS b.to_ q.to_ else cmpS b.from_ q.from_
def banF (rs : List Arc) (p : Option Ban) (b : Ban) : Int :=
  if banG rs b = 0 then (match p with | some q => if banC b q ≤ 0 then 7 else 0 | none => 0) else banG rs b
/-- What is wrong with roads (whose lists are not too long). -/
def roadsF (ns : List Node) (rs : List Arc) (bs : List Ban) : Int :=
  if nodesF ns = 0 then (if chk (arcF ns) none rs = 0 then chk (banF rs) none bs else chk (arcF ns) none rs) else nodesF ns

theorem cmpS_pos {a b : ByteArray} : 0 < cmpS a b ↔ ltS b a := by
  constructor
  · intro h
    refine Classical.byContradiction fun hc => ?_
    have h1 : ¬ ltS a b := fun e => by have := cmpS_neg.2 e; omega
    have := ltS_tri a b h1 hc
    have := cmpS_zero.2 this
    omega
  · intro h
    have h1 : ¬ ltS a b := fun e => ltS_irrefl a (ltS_trans e h)
    have h2 : a ≠ b := fun e => by subst e; exact ltS_irrefl a h
    have h3 : ¬ cmpS a b < 0 := fun e => h1 (cmpS_neg.1 e)
    have h4 : cmpS a b ≠ 0 := fun e => h2 (cmpS_zero.1 e)
    omega
theorem banC_anti (b q : Ban) : banC b q ≤ 0 ↔ 0 ≤ banC q b := by
  unfold banC
  by_cases h : cmpS b.from_ q.from_ = 0
  · have h2 : cmpS q.from_ b.from_ = 0 := cmpS_zero.2 (cmpS_zero.1 h).symm
    rw [if_pos h, if_pos h2]
    have h3 : 0 < cmpS b.to_ q.to_ ↔ cmpS q.to_ b.to_ < 0 := cmpS_pos.trans cmpS_neg.symm
    omega
  · have h2 : cmpS q.from_ b.from_ ≠ 0 := fun e => h (cmpS_zero.2 (cmpS_zero.1 e).symm)
    rw [if_neg h, if_neg h2]
    have h3 : 0 < cmpS b.from_ q.from_ ↔ cmpS q.from_ b.from_ < 0 := cmpS_pos.trans cmpS_neg.symm
    omega
theorem chk_sorted {α : Type} {F : Option α → α → Int} (key : α → ByteArray) (hF : ∀ q x, F (some q) x = 0 → strLe (key x) (key q) = false) : ∀ (l : List α) (p : Option α), chk F p l = 0 → (l.Pairwise fun a b => ltS (key a) (key b)) ∧ ∀ q, p = some q → ∀ x ∈ l, ltS (key q) (key x)
  | [], _, _ => ⟨List.Pairwise.nil, fun _ _ _ h => absurd h (by simp)⟩
  | s :: l, p, h => by
    unfold chk at h
    by_cases h0 : F p s = 0
    · rw [if_pos h0] at h
      obtain ⟨h1, h2⟩ := chk_sorted key hF l _ h
      have h3 : ∀ q, p = some q → ltS (key q) (key s) := fun q e => by subst e; exact strLe_lt (hF q s h0)
      refine ⟨List.pairwise_cons.2 ⟨fun y hy => h2 s rfl y hy, h1⟩, fun q e y hy => ?_⟩
      rcases List.mem_cons.1 hy with rfl | hy
      · exact h3 q e
      · exact ltS_trans (h3 q e) (h2 s rfl y hy)
    · rw [if_neg h0] at h; exact absurd h h0
/-- Sorted by key. -/
def SortN (l : List Node) : Prop := l.Pairwise fun a b => ltS a.key b.key
def SortA (l : List Arc) : Prop := l.Pairwise fun a b => ltS a.key b.key
theorem sortN_of {l : List Node} (h : nodesF l = 0) : SortN l := by
  unfold nodesF at h
  by_cases h0 : 500 < l.length
  · rw [if_pos h0] at h; exact absurd h (by decide)
  · rw [if_neg h0] at h
    refine (chk_sorted (F := nodeF) (·.key) (fun q x hq => ?_) l none h).1
    unfold nodeF at hq
    cases hk : keyB x.key with
    | false => simp [hk] at hq
    | true =>
      rw [hk, if_pos rfl] at hq
      cases hl : strLe x.key q.key with
      | false => rfl
      | true => simp [hl] at hq
theorem sortA_of {ns : List Node} {l : List Arc} (h : chk (arcF ns) none l = 0) : SortA l := by
  refine (chk_sorted (F := arcF ns) (·.key) (fun q x hq => ?_) l none h).1
  unfold arcF at hq
  cases hk : keyB x.key with
  | false => simp [hk] at hq
  | true =>
    rw [hk, if_pos rfl] at hq
    cases hl : strLe x.key q.key with
    | false => rfl
    | true => simp [hl] at hq
theorem chk_all {α : Type} {F : Option α → α → Int} {Q : α → Prop} (hF : ∀ p x, F p x = 0 → Q x) : ∀ (l : List α) (p : Option α), chk F p l = 0 → ∀ x ∈ l, Q x
  | [], _, _ => fun _ h => absurd h (by simp)
  | s :: l, p, h => by
    unfold chk at h
    by_cases h0 : F p s = 0
    · rw [if_pos h0] at h
      intro x hx
      rcases List.mem_cons.1 hx with rfl | hx
      · exact hF p _ h0
      · exact chk_all hF l _ h x hx
    · rw [if_neg h0] at h; exact absurd h h0
theorem arcF_ok {ns : List Node} {p : Option Arc} {a : Arc} (h : arcF ns p a = 0) : keyB a.key = true ∧ arcG ns a = 0 := by
  unfold arcF at h
  cases hk : keyB a.key with
  | false => simp [hk] at h
  | true =>
    rw [hk, if_pos rfl] at h
    refine ⟨rfl, ?_⟩
    cases p with
    | none => exact h
    | some q =>
      cases hl : strLe a.key q.key with
      | true => simp [hl] at h
      | false => simpa [hl] using h
theorem arcG_ok {ns : List Node} {a : Arc} (h : arcG ns a = 0) : 0 ≤ nodeI ns a.from_ ∧ 0 ≤ nodeI ns a.to_ ∧ a.from_ ≠ a.to_ ∧ outB a.long 1 1000000 = false ∧ knotsF a.knots = 0 := by
  unfold arcG at h
  split at h
  · exact absurd h (by decide)
  rename_i h1
  split at h
  · exact absurd h (by decide)
  rename_i h2
  split at h
  · exact absurd h (by decide)
  rename_i h3
  exact ⟨by omega, by omega, h2, by simpa using h3, h⟩
end Go.Proofs.YtmpnilliichpfaaGreatDoor
/- Plain: arcs one after the other; how long they are; when one comes out of each. -/
namespace Go.Proofs.YtmpnilliichpfaaGreatDoor

/-- May nobody drive from an arc on to another one? -/
def bannedB (bs : List Ban) (f t : ByteArray) : Bool := bs.any fun b => decide (b.from_ = f) && decide (b.to_ = t)
def prevBan (bs : List Ban) (p : Option ByteArray) (k : ByteArray) : Bool := match p with | some q => bannedB bs q k | none => false
/-- What is wrong with arcs one after the other. -/
def chainF (rs : List Arc) (bs : List Ban) : ByteArray → Option ByteArray → List ByteArray → Int
  | _, _, [] => 0
  | fr, p, k :: l => if arcI rs k < 0 then 8 else if fr ≠ ByteArray.empty ∧ (arcAt rs k).from_ ≠ fr then 3 else if prevBan bs p k then 16 else chainF rs bs (arcAt rs k).to_ (some k) l
def lengthI (rs : List Arc) : List ByteArray → Int
  | [] => 0
  | k :: l => (arcAt rs k).long + lengthI rs l
def outAt (rs : List Arc) (at_ : Int) (k : ByteArray) : Int := at_ + timeI (arcAt rs k).knots at_
/-- When one comes out of each of some arcs; none: not ahead of the end. -/
def walkO (rs : List Arc) : Int → List ByteArray → Option (List Int)
  | _, [] => some []
  | at_, k :: l => if 345686400000 ≤ outAt rs at_ k then none else (walkO rs (outAt rs at_ k) l).map (outAt rs at_ k :: ·)
theorem banC_zero {a b : Ban} : banC a b = 0 ↔ a = b := by
  obtain ⟨a1, a2⟩ := a
  obtain ⟨b1, b2⟩ := b
  unfold banC
  constructor
  · intro h
    by_cases h1 : cmpS a1 b1 = 0
    · have h' : cmpS a2 b2 = 0 := by simpa [h1] using h
      rw [cmpS_zero.1 h1, cmpS_zero.1 h']
    · simp [h1] at h
  · intro h
    injection h with h1 h2
    have e1 := cmpS_zero.2 h1
    have e2 := cmpS_zero.2 h2
    simp [e1, e2]
theorem banC_pos {a b : Ban} : 0 < banC a b ↔ banC b a < 0 := by
  have h := banC_anti a b
  omega
/-- The order of bans goes on. -/
theorem banC_neg {a b : Ban} : banC a b < 0 ↔ ltS a.from_ b.from_ ∨ (a.from_ = b.from_ ∧ ltS a.to_ b.to_) := by
  unfold banC
  by_cases h1 : cmpS a.from_ b.from_ = 0
  · rw [if_pos h1]
    have e := cmpS_zero.1 h1
    constructor
    · intro h; exact .inr ⟨e, cmpS_neg.1 h⟩
    · rintro (h | ⟨_, h⟩)
      · rw [e] at h; exact absurd h (ltS_irrefl _)
      · exact cmpS_neg.2 h
  · rw [if_neg h1]
    constructor
    · intro h; exact .inl (cmpS_neg.1 h)
    · rintro (h | ⟨h, _⟩)
      · exact cmpS_neg.2 h
      · exact absurd (cmpS_zero.2 h) h1
theorem banC_trans {a b c : Ban} (h : banC a b < 0) (h' : banC b c < 0) : banC a c < 0 := by
  rw [banC_neg] at *
  rcases h with h | ⟨h1, h2⟩
  · rcases h' with h' | ⟨h1', _⟩
    · exact .inl (ltS_trans h h')
    · exact .inl (h1' ▸ h)
  · rcases h' with h' | ⟨h1', h2'⟩
    · exact .inl (h1 ▸ h')
    · exact .inr ⟨h1.trans h1', ltS_trans h2 h2'⟩
theorem chkB_sorted (rs : List Arc) : ∀ (l : List Ban) (p : Option Ban), chk (banF rs) p l = 0 → (l.Pairwise fun a b => banC a b < 0) ∧ ∀ q, p = some q → ∀ x ∈ l, banC q x < 0
  | [], _, _ => ⟨List.Pairwise.nil, fun _ _ _ h => absurd h (by simp)⟩
  | s :: l, p, h => by
    unfold chk at h
    by_cases h0 : banF rs p s = 0
    · rw [if_pos h0] at h
      obtain ⟨h1, h2⟩ := chkB_sorted rs l _ h
      have h3 : ∀ q, p = some q → banC q s < 0 := fun q e => by
        subst e
        unfold banF at h0
        by_cases hg : banG rs s = 0
        · rw [if_pos hg] at h0
          by_cases hc : banC s q ≤ 0
          · simp [hc] at h0
          · exact banC_pos.1 (by omega)
        · rw [if_neg hg] at h0; exact absurd h0 hg
      refine ⟨List.pairwise_cons.2 ⟨fun y hy => h2 s rfl y hy, h1⟩, fun q e y hy => ?_⟩
      rcases List.mem_cons.1 hy with rfl | hy
      · exact h3 q e
      · exact banC_trans (h3 q e) (h2 s rfl y hy)
    · rw [if_neg h0] at h; exact absurd h h0
theorem banB_at {l : List Ban} (h : l.Pairwise fun a b => banC a b < 0) {i j : Nat} (hij : i < j) (hj : j < l.length) : banC (l.getD i default) (l.getD j default) < 0 := by
  rw [List.pairwise_iff_getElem] at h
  have := h i j (by omega) hj hij
  rw [List.getD_eq_getElem?_getD, List.getD_eq_getElem?_getD, List.getElem?_eq_getElem (by omega), List.getElem?_eq_getElem hj]
  exact this
theorem bannedB_iff {bs : List Ban} {f t : ByteArray} : bannedB bs f t = true ↔ ∃ k, k < bs.length ∧ bs.getD k default = ⟨f, t⟩ := by
  unfold bannedB
  rw [List.any_eq_true]
  constructor
  · rintro ⟨b, hb, hx⟩
    obtain ⟨k, hk, e⟩ := List.mem_iff_getElem.1 hb
    refine ⟨k, hk, ?_⟩
    rw [List.getD_eq_getElem?_getD, List.getElem?_eq_getElem hk]
    simp at hx
    obtain ⟨b1, b2⟩ := b
    simp at hx
    rw [← hx.1, ← hx.2]
    exact e
  · rintro ⟨k, hk, e⟩
    refine ⟨bs.getD k default, ?_, by rw [e]; simp⟩
    rw [List.getD_eq_getElem?_getD, List.getElem?_eq_getElem hk]
    exact List.getElem_mem hk
end Go.Proofs.YtmpnilliichpfaaGreatDoor
/- Plain: right roads as a graph; ways as arcs one after the other. -/
namespace Go.Proofs.YtmpnilliichpfaaGreatDoor

section
variable {α : Type} [Inhabited α]
theorem idxP_sat (p : α → Bool) : ∀ (l : List α) (j k : Nat), idxP p l j = ((j + k : Nat) : Int) → k < l.length ∧ p (l.getD k default) = true
  | [], j, k, h => by unfold idxP at h; omega
  | n :: l, j, k, h => by
    unfold idxP at h
    cases hp : p n with
    | true =>
      rw [hp, if_pos rfl] at h
      obtain rfl : k = 0 := by omega
      exact ⟨by simp, hp⟩
    | false =>
      rw [hp, if_neg (by simp)] at h
      rcases idxP_bd p l (j + 1) with e | ⟨k', hk', e⟩
      · rw [e] at h; omega
      · rw [e] at h
        obtain rfl : k = k' + 1 := by omega
        obtain ⟨h1, h2⟩ := idxP_sat p l (j + 1) k' e
        exact ⟨by simpa using h1, by simpa using h2⟩
theorem findI_sat (p : α → Bool) (l : List α) {k : Nat} (h : findI p l = (k : Int)) : k < l.length ∧ p (l.getD k default) = true :=
  idxP_sat p l 0 k (by rw [Nat.zero_add]; exact h)
end
theorem node_found {ns : List Node} {s : ByteArray} (h : 0 ≤ nodeI ns s) : ∃ i : Nat, i < ns.length ∧ nodeI ns s = (i : Int) ∧ (ns.getD i default).key = s := by
  rcases findI_bd (fun n : Node => decide (n.key = s)) ns with h1 | ⟨i, hi, e⟩
  · exact absurd h (by unfold nodeI; omega)
  · exact ⟨i, hi, e, by simpa using (findI_sat _ ns e).2⟩
theorem node_inj {ns : List Node} {s t : ByteArray} (h : 0 ≤ nodeI ns s) (e : nodeI ns s = nodeI ns t) : s = t := by
  obtain ⟨i, _, e1, h1⟩ := node_found h
  obtain ⟨j, _, e2, h2⟩ := node_found (show 0 ≤ nodeI ns t by omega)
  obtain rfl : i = j := by omega
  rw [← h1, h2]
theorem node_iff {ns : List Node} {s t : ByteArray} (h : 0 ≤ nodeI ns s) (h' : 0 ≤ nodeI ns t) : (nodeI ns s).toNat = (nodeI ns t).toNat ↔ s = t :=
  ⟨fun e => node_inj h (by omega), fun e => by rw [e]⟩
theorem ltS_ne {a b : ByteArray} (h : ltS a b) : a ≠ b := fun e => by subst e; exact ltS_irrefl a h
theorem arc_at {rs : List Arc} (h : SortA rs) {k : Nat} (hk : k < rs.length) : arcI rs (rs.getD k default).key = (k : Int) := by
  have := idxP_at (fun n : Arc => decide (n.key = (rs.getD k default).key)) rs 0 k hk (by simp) (fun i hi => by
    have h1 := List.pairwise_iff_getElem.1 h i k (by omega) hk hi
    rw [List.getD_eq_getElem?_getD, List.getD_eq_getElem?_getD, List.getElem?_eq_getElem (by omega), List.getElem?_eq_getElem hk]
    exact decide_eq_false (ltS_ne h1))
  rw [Nat.zero_add] at this
  exact this
theorem node_at {ns : List Node} (h : SortN ns) {k : Nat} (hk : k < ns.length) : nodeI ns (ns.getD k default).key = (k : Int) := by
  have := idxP_at (fun n : Node => decide (n.key = (ns.getD k default).key)) ns 0 k hk (by simp) (fun i hi => by
    have h1 := List.pairwise_iff_getElem.1 h i k (by omega) hk hi
    rw [List.getD_eq_getElem?_getD, List.getD_eq_getElem?_getD, List.getElem?_eq_getElem (by omega), List.getElem?_eq_getElem hk]
    exact decide_eq_false (ltS_ne h1))
  rw [Nat.zero_add] at this
  exact this
theorem arcAt_at {rs : List Arc} (h : SortA rs) {k : Nat} (hk : k < rs.length) : arcAt rs (rs.getD k default).key = rs.getD k default := by
  unfold arcAt
  rw [arc_at h hk]
  rfl
def nodeN (ns : List Node) (s : ByteArray) : Nat := (nodeI ns s).toNat
def arcX (rs : List Arc) (k : Nat) : Arc := rs.getD k default
/-- Roads as a graph. -/
def gphOf (ns : List Node) (rs : List Arc) (bs : List Ban) : Gph where
  m := rs.length
  nn := ns.length
  to_ k := nodeN ns (arcX rs k).to_
  from_ k := nodeN ns (arcX rs k).from_
  outs n := (List.range rs.length).filter (fun k => nodeN ns (arcX rs k).from_ == n)
  ban k j := bannedB bs (arcX rs k).key (arcX rs j).key
  out k t := t + timeI (arcX rs k).knots t
theorem arcX_mem {rs : List Arc} {k : Nat} (h : k < rs.length) : arcX rs k ∈ rs := by
  unfold arcX
  rw [List.getD_eq_getElem?_getD, List.getElem?_eq_getElem h]
  exact List.getElem_mem h
theorem arcX_get {rs : List Arc} {k : Nat} (h : k < rs.length) : arcX rs k = rs[k] := by
  unfold arcX
  rw [List.getD_eq_getElem?_getD, List.getElem?_eq_getElem h]; rfl
theorem arc_right {ns : List Node} {rs : List Arc} (h : chk (arcF ns) none rs = 0) {k : Nat} (hk : k < rs.length) : 0 ≤ nodeI ns (arcX rs k).from_ ∧ 0 ≤ nodeI ns (arcX rs k).to_ ∧ (arcX rs k).from_ ≠ (arcX rs k).to_ ∧ knotsF (arcX rs k).knots = 0 := by
  have := chk_all (F := arcF ns) (Q := fun a => arcG ns a = 0) (fun p x hx => (arcF_ok hx).2) rs none h _ (arcX_mem hk)
  obtain ⟨h1, h2, h3, _, h5⟩ := arcG_ok this
  exact ⟨h1, h2, h3, h5⟩
theorem nodeN_lt {ns : List Node} {s : ByteArray} (h : 0 ≤ nodeI ns s) : nodeN ns s < ns.length := by
  obtain ⟨i, hi, e, _⟩ := node_found h
  unfold nodeN
  rw [e]
  exact hi
theorem gph_ok {ns : List Node} {rs : List Arc} {bs : List Ban} (h : chk (arcF ns) none rs = 0) : GOk (gphOf ns rs bs) where
  to_lt k hk := nodeN_lt (arc_right h hk).2.1
  outs_lt n k hk := by
    have := (List.mem_filter.1 hk).1
    exact List.mem_range.1 this
  outs_iff n k hn hk := by
    show k ∈ (List.range rs.length).filter _ ↔ nodeN ns (arcX rs k).from_ = n
    rw [List.mem_filter, List.mem_range]
    constructor
    · intro hh; simpa using hh.2
    · intro hh; exact ⟨hk, by simpa using hh⟩
  outs_len n := by
    show ((List.range rs.length).filter _).length ≤ rs.length
    exact Nat.le_trans (List.length_filter_le _ _) (by simp)
  gt k t hk ht := by
    have := time_ge (knotsF_chk (arc_right h hk).2.2.2) t
    show t < t + timeI (arcX rs k).knots t
    omega
  mono k t t' hk h0 ht := time_fifo (arc_right h hk).2.2.2 ht

/-- The keys of arcs. -/
def keysOf (rs : List Arc) (l : List Nat) : List ByteArray := l.map fun k => (arcX rs k).key
/-- Where one is behind arcs, and behind which one. -/
def stOf (rs : List Arc) : ByteArray → Option ByteArray → List ByteArray → ByteArray × Option ByteArray
  | fr, p, [] => (fr, p)
  | _, _, k :: l => stOf rs (arcAt rs k).to_ (some k) l
theorem chainF_app (rs : List Arc) (bs : List Ban) : ∀ (l l2 : List ByteArray) (fr : ByteArray) (p : Option ByteArray), chainF rs bs fr p l = 0 → chainF rs bs fr p (l ++ l2) = chainF rs bs (stOf rs fr p l).1 (stOf rs fr p l).2 l2
  | [], _, _, _, _ => rfl
  | k :: l, l2, fr, p, h => by
    rw [List.cons_append]
    unfold chainF at h
    conv => lhs; unfold chainF
    split at h
    · exact absurd h (by decide)
    rename_i h1
    split at h
    · exact absurd h (by decide)
    rename_i h2
    split at h
    · exact absurd h (by decide)
    rename_i h3
    rw [if_neg h1, if_neg h2, if_neg h3]
    exact chainF_app rs bs l l2 _ _ h
theorem stOf_app (rs : List Arc) : ∀ (l : List ByteArray) (k : ByteArray) (fr : ByteArray) (p : Option ByteArray), stOf rs fr p (l ++ [k]) = ((arcAt rs k).to_, some k)
  | [], _, _, _ => rfl
  | j :: l, k, fr, p => by rw [List.cons_append]; unfold stOf; exact stOf_app rs l k _ _
theorem walkO_app (rs : List Arc) : ∀ (l : List ByteArray) (k : ByteArray) (a t : Int) (ts : List Int), walkO rs a l = some ts → (a :: ts).getLastD a = t → walkO rs a (l ++ [k]) = if 345686400000 ≤ outAt rs t k then none else some (ts ++ [outAt rs t k])
  | [], k, a, t, ts, h, ht => by
    injection h with h
    subst h
    have ht : a = t := ht
    subst ht
    rw [List.nil_append]
    unfold walkO
    split
    · rfl
    · rfl
  | j :: l, k, a, t, ts, h, ht => by
    rw [List.cons_append]
    unfold walkO at h ⊢
    by_cases h1 : 345686400000 ≤ outAt rs a j
    · rw [if_pos h1] at h; cases h
    · rw [if_neg h1] at h ⊢
      cases h2 : walkO rs (outAt rs a j) l with
      | none => rw [h2] at h; cases h
      | some ts2 =>
        rw [h2] at h
        have h : outAt rs a j :: ts2 = ts := by injection h
        subst h
        rw [walkO_app rs l k (outAt rs a j) t ts2 h2 (by rw [List.getLastD_cons, List.getLastD_cons] at ht; rw [List.getLastD_cons]; exact ht)]
        split <;> rfl
/-- A trail, as keys: right, with its times. -/
theorem trail_keys {ns : List Node} {rs : List Arc} {bs : List Ban} (h : chk (arcF ns) none rs = 0) {fr : ByteArray} (hfr : 0 ≤ nodeI ns fr) {at_ t : Int} {l : List Nat} (hT : Trail (gphOf ns rs bs) (nodeN ns fr) at_ l t) :
    chainF rs bs fr none (keysOf rs l.reverse) = 0 ∧ ∃ ts, walkO rs at_ (keysOf rs l.reverse) = some ts ∧ ts.length = l.length ∧ (at_ :: ts).getLastD at_ = t ∧ ∀ k l', l = k :: l' → stOf rs fr none (keysOf rs l.reverse) = ((arcX rs k).to_, some (arcX rs k).key) := by
  have hS := sortA_of h
  induction hT with
  | one k hk hf he =>
    have hk : k < rs.length := hk
    have hr := arc_right h hk
    have e1 : (arcX rs k).from_ = fr := (node_iff hr.1 hfr).1 hf
    have e2 : arcAt rs (arcX rs k).key = arcX rs k := arcAt_at hS hk
    have e3 : arcI rs (arcX rs k).key = (k : Int) := arc_at hS hk
    refine ⟨?_, [outAt rs at_ (arcX rs k).key], ?_, rfl, ?_, ?_⟩
    · show chainF rs bs fr none [(arcX rs k).key] = 0
      unfold chainF
      rw [if_neg (by rw [e3]; omega), if_neg (by rw [e2, e1]; simp), if_neg (by simp [prevBan])]
      rfl
    · show walkO rs at_ [(arcX rs k).key] = _
      unfold walkO
      have he : at_ + timeI (arcX rs k).knots at_ < endT := he
      unfold outAt
      rw [e2, if_neg (by unfold endT at he; omega)]
      rfl
    · show outAt rs at_ (arcX rs k).key = at_ + timeI (arcX rs k).knots at_
      unfold outAt
      rw [e2]
    · intro j l' e
      injection e with e _
      subst e
      show stOf rs fr none [(arcX rs k).key] = _
      unfold stOf
      rw [e2]
      rfl
  | cons k i l t hT hi hf hb he ih =>
    obtain ⟨h1, ts, h2, h3, h4, h5⟩ := ih
    have hi : i < rs.length := hi
    have hr := arc_right h hi
    have e2 : arcAt rs (arcX rs i).key = arcX rs i := arcAt_at hS hi
    have e3 : arcI rs (arcX rs i).key = (i : Int) := arc_at hS hi
    have hk : k < rs.length := by cases hT <;> assumption
    have hrk := arc_right h hk
    have e1 : (arcX rs i).from_ = (arcX rs k).to_ := (node_iff hr.1 hrk.2.1).1 hf
    have hl : keysOf rs (i :: k :: l).reverse = keysOf rs (k :: l).reverse ++ [(arcX rs i).key] := by
      unfold keysOf
      rw [List.reverse_cons, List.map_append]
      rfl
    have hst := h5 k l rfl
    have hb : bannedB bs (arcX rs k).key (arcX rs i).key = false := hb
    have he : t + timeI (arcX rs i).knots t < endT := he
    have hout : outAt rs t (arcX rs i).key = t + timeI (arcX rs i).knots t := by unfold outAt; rw [e2]
    rw [hl]
    refine ⟨?_, ts ++ [outAt rs t (arcX rs i).key], ?_, by simp [h3], ?_, ?_⟩
    · rw [chainF_app _ _ _ _ _ _ h1, hst]
      unfold chainF
      rw [if_neg (by rw [e3]; omega), if_neg (by rw [e2, e1]; simp), if_neg (by show ¬ bannedB bs _ _ = true; rw [hb]; simp)]
      rfl
    · rw [walkO_app rs _ _ _ _ _ h2 h4, if_neg (by rw [hout]; unfold endT at he; omega)]
    · rw [← List.cons_append, List.getLastD_concat]
      exact hout
    · intro j l' e
      injection e with e _
      subst e
      rw [stOf_app, e2]
end Go.Proofs.YtmpnilliichpfaaGreatDoor
/- The number of a node. -/
namespace Go.Proofs.YtmpnilliichpfaaGreatDoor
open Go.RowKit

theorem SortN.at {l : List Node} (h : SortN l) {i j : Nat} (hij : i < j) (hj : j < l.length) : ltS (l.getD i default).key (l.getD j default).key := by
  unfold SortN at h
  rw [List.pairwise_iff_getElem] at h
  have := h i j (by omega) hj hij
  rw [List.getD_eq_getElem?_getD, List.getD_eq_getElem?_getD, List.getElem?_eq_getElem (by omega), List.getElem?_eq_getElem hj]
  exact this
theorem SortN.mono {l : List Node} (h : SortN l) (s : ByteArray) (i j : Nat) (hij : i ≤ j) (hj : j < l.length) (hn : cmpS (l.getD j default).key s < 0) : cmpS (l.getD i default).key s < 0 := by
  rcases Nat.lt_or_ge i j with h1 | h1
  · exact cmpS_neg.2 (ltS_trans (h.at h1 hj) (cmpS_neg.1 hn))
  · have : i = j := by omega
    subst this; exact hn
set_option maxRecDepth 100000 in
set_option maxHeartbeats 1000000 in
theorem w_nodeR (g lo : Nat) (A : Option Addr) (c : Nat) (l : List Node) (s : ByteArray) (w : World) (hg : w.cell? ⟨g, 0, none⟩ = some (.slice A l.length c)) (hR : Rd w lo A 3 encNode l) (hl : l.length ≤ 65536) (hs : SortN l) :
    Calls Tryz.prog 93 #[.pointer (some ⟨g, 0, none⟩), .string s] w fun e w' => e = .returned (.int .i64 (nodeI l s)) ∧ Nx w w' := by
  have hB := w_BsfNode 157 (fun n => cmpS n.key s) s (enters_of Tryz.func157 (by kernel_rfl) rfl) (fun y W => w_node1 y s W) lo A c l w hR hl (fun i j => hs.mono s i j)
  by_cases hex : ∃ k, k < l.length ∧ (l.getD k default).key = s
  · obtain ⟨k, hk, hks⟩ := hex
    have hlo : ∀ i, i < k → cmpS (l.getD i default).key s < 0 := fun i hi => cmpS_neg.2 (by rw [← hks]; exact hs.at hi hk)
    have HI := hide (show nodeI l s = (k : Int) by
      have := idxP_at (fun n : Node => decide (n.key = s)) l 0 k hk (decide_eq_true hks) (fun i hi => decide_eq_false (fun e => by have := hlo i hi; rw [cmpS_zero.2 e] at this; omega))
      rw [Nat.zero_add] at this; exact this)
    have hB2 : Calls Tryz.prog 156 #[.slice A l.length c, .string s, .func (.func 157) #[] #[]] w fun e w' => e = .returned (.tuple #[.int .i64 (k : Int), .bool true]) ∧ Nx w w' := by
      refine hB.mono ?_
      rintro e w' ⟨r, is, rfl, hF, hn⟩
      obtain ⟨rfl, rfl⟩ := found_at hF k hk (cmpS_zero.2 hks) hlo
      exact ⟨rfl, hn⟩
    have HB := hide hB2
    clear hB hB2 hR hs hlo hks hk
    generalize l.length = n at *
    generalize nodeI l s = z at *
    go_enter Tryz.func93, Tryz.ntmps93
    go_wp2_with (go_at_call 156; refine HB.out.mono ?_; rintro e w2 ⟨rfl, hn2⟩)
    go_ret
    exact ⟨ret_int HI.out.symm, hn2⟩
  · have hno : ∀ k, k < l.length → (l.getD k default).key ≠ s := fun k hk e => hex ⟨k, hk, e⟩
    have HI := hide (show nodeI l s = -1 from idxP_no _ l 0 (fun k hk => decide_eq_false (hno k hk)))
    have hB2 : Calls Tryz.prog 156 #[.slice A l.length c, .string s, .func (.func 157) #[] #[]] w fun e w' => ∃ r : Nat, e = .returned (.tuple #[.int .i64 (r : Int), .bool false]) ∧ Nx w w' := by
      refine hB.mono ?_
      rintro e w' ⟨r, is, rfl, hF, hn⟩
      obtain rfl := found_no hF (fun k hk e => hno k hk (cmpS_zero.1 e))
      exact ⟨r, rfl, hn⟩
    have HB := hide hB2
    clear hB hB2 hR hs hno hex
    generalize l.length = n at *
    generalize nodeI l s = z at *
    go_enter Tryz.func93, Tryz.ntmps93
    go_wp2_with (go_at_call 156; refine HB.out.mono ?_; rintro e w2 ⟨r, rfl, hn2⟩)
    go_ret
    exact ⟨ret_int HI.out.symm, hn2⟩
end Go.Proofs.YtmpnilliichpfaaGreatDoor
/- An arc's number: the program's search. -/
namespace Go.Proofs.YtmpnilliichpfaaGreatDoor
open Go.RowKit

theorem w_arc1 (x : Arc) (s : ByteArray) (w : World) : Calls Tryz.prog 167 #[.agg #[.string x.key, .string x.from_, .string x.to_, .int .i64 x.long, .slice x.ka x.knots.length x.kc], .string s] w fun e w' => e = .returned (.int .i64 (cmpS x.key s)) ∧ Nx w w' := by
  go_enter Tryz.func167, Tryz.ntmps167
  go_wp2_with (go_at_call 150; refine (w_CompareS _ _ _).mono ?_; rintro e w' ⟨rfl, rfl⟩)
  go_ret
  exact ⟨rfl, (Nx.refl _).alloc _⟩

set_option maxRecDepth 100000 in
set_option maxHeartbeats 2000000 in
theorem w_BsfArc (g : Nat) (f : Arc → Int) (x : ByteArray) (eg : Enters g) (hcl : ∀ (y : Arc) W, Calls Tryz.prog g #[.agg #[.string y.key, .string y.from_, .string y.to_, .int .i64 y.long, .slice y.ka y.knots.length y.kc], .string x] W fun e w' => e = .returned (.int .i64 (f y)) ∧ Nx W w')
    (lo : Nat) (A : Option Addr) (c : Nat) (l : List Arc) (w : World) (hR : Rd w lo A 5 encArc l) (hl : l.length ≤ 65536)
    (hm : ∀ i j, i ≤ j → j < l.length → f (l.getD j default) < 0 → f (l.getD i default) < 0) :
    Calls Tryz.prog 166 #[.slice A l.length c, .string x, .func (.func g) #[] #[]] w fun e w' => ∃ (r : Nat) (is : Bool), e = .returned (.tuple #[.int .i64 (r : Int), .bool is]) ∧ Found (fun i => f (l.getD i default)) l.length r is ∧ Nx w w' := by
  generalize hn : l.length = n at *
  have HR := hide hR
  have HN := hide hn
  have HC0 := hide hcl
  have HM := hide hm
  clear hR hn hcl hm
  unfold Enters at eg
  have HG := hide (fun i (hi : i < l.length) => (show l.getD i default = l[i] by rw [List.getD_eq_getElem?_getD, List.getElem?_eq_getElem hi]; rfl))
  go_enter Tryz.func166, Tryz.ntmps166
  go_wp2
  go_loopw [9, 10, 11] (fun vi vj _ wr => ∃ i j : Nat, i ≤ j ∧ j ≤ n ∧ vi = .int .i64 i ∧ vj = .int .i64 j ∧ Nx w wr ∧ (∀ m, m < i → f (l.getD m default) < 0) ∧ (∀ m, j ≤ m → m < n → 0 ≤ f (l.getD m default))) (fun vi vj _ _ => (intOf vj).toNat - (intOf vi).toNat)
  case atStart => exact ⟨0, n, Nat.zero_le _, Nat.le_refl _, rfl, rfl, Nx.refl _, fun m hm => by omega, fun m h1 h2 => by omega⟩
  case round =>
    obtain ⟨i, j, hij, hj, rfl, rfl, hbw, hlo, hhi⟩ := hrel
    have HLO := hide hlo
    have HHI := hide hhi
    clear hlo hhi
    by_cases hlt : i < j
    · obtain ⟨h, hh⟩ : ∃ h, h = (i + j) / 2 := ⟨_, rfl⟩
      have qh : ((i : Int) + (j : Int)) / 2 = (h : Int) := by omega
      have hih : i ≤ h := by omega
      have hhj : h < j := by omega
      have hh' : h < l.length := by have := HN.out; omega
      clear hh
      obtain ⟨b, off, rfl, _, hb, hbr, hc⟩ := HR.out.open_ hbw (by omega)
      have c0 : wr.cell? ⟨b, off + h * 5, none⟩ = some (.string l[h].key) := hc h hh' 0 _ rfl
      have c1 : wr.cell? ⟨b, off + h * 5 + 1, none⟩ = some (.string l[h].from_) := hc h hh' 1 _ rfl
      have c2 : wr.cell? ⟨b, off + h * 5 + 2, none⟩ = some (.string l[h].to_) := hc h hh' 2 _ rfl
      have c3 : wr.cell? ⟨b, off + h * 5 + 3, none⟩ = some (.int .i64 l[h].long) := hc h hh' 3 _ rfl
      have c4 : wr.cell? ⟨b, off + h * 5 + 4, none⟩ = some (.slice l[h].ka l[h].knots.length l[h].kc) := hc h hh' 4 _ rfl
      clear hc
      have HE := hide (HG.out h hh')
      have HCY := hide (HC0.out l[h])
      by_cases hneg : f l[h] < 0
      · have t1 : decide (f l[h] < 0) = true := by simpa using hneg
        have HNG := hide hneg
        clear hneg
        generalize l[h] = y at *
        go_wp2_with (go_at_fn g; refine (HCY.out _).mono ?_; rintro e w2 ⟨rfl, hn2⟩)
        go_roundw
        case rel => exact ⟨h + 1, j, by omega, by omega, by go_num, rfl, hbw.trans hn2, fun m hm => HM.out m h (by omega) (by omega) (by rw [HE.out]; exact HNG.out), HHI.out⟩
        case measure => simp [intOf]; omega
      · have t1 : decide (f l[h] < 0) = false := by simpa using hneg
        have HNG := hide hneg
        clear hneg
        generalize l[h] = y at *
        go_wp2_with (go_at_fn g; refine (HCY.out _).mono ?_; rintro e w2 ⟨rfl, hn2⟩)
        go_roundw
        case rel => exact ⟨i, h, by omega, by omega, rfl, rfl, hbw.trans hn2, HLO.out, fun m h1 h2 => by
          refine Int.not_lt.1 fun hc => ?_
          have h3 := HM.out h m h1 h2 hc
          rw [HE.out] at h3
          have := HNG.out
          omega⟩
        case measure => simp [intOf]; omega
    · have hij' : i = j := by omega
      subst hij'
      clear hlt hij
      by_cases hin : i < n
      · have hi' : i < l.length := by have := HN.out; omega
        obtain ⟨b, off, rfl, _, hb, hbr, hc⟩ := HR.out.open_ hbw (by omega)
        have c0 : wr.cell? ⟨b, off + i * 5, none⟩ = some (.string l[i].key) := hc i hi' 0 _ rfl
        have c1 : wr.cell? ⟨b, off + i * 5 + 1, none⟩ = some (.string l[i].from_) := hc i hi' 1 _ rfl
        have c2 : wr.cell? ⟨b, off + i * 5 + 2, none⟩ = some (.string l[i].to_) := hc i hi' 2 _ rfl
        have c3 : wr.cell? ⟨b, off + i * 5 + 3, none⟩ = some (.int .i64 l[i].long) := hc i hi' 3 _ rfl
        have c4 : wr.cell? ⟨b, off + i * 5 + 4, none⟩ = some (.slice l[i].ka l[i].knots.length l[i].kc) := hc i hi' 4 _ rfl
        clear hc
        have HE := hide (HG.out i hi')
        have HCY := hide (HC0.out l[i])
        generalize l[i] = y at *
        go_wp2_with (go_at_fn g; refine (HCY.out _).mono ?_; rintro e w2 ⟨rfl, hn2⟩)
        go_ret2
        exact ⟨i, _, rfl, ⟨hj, HLO.out, HHI.out, by show _ = (decide (i < n) && decide (f (l.getD i default) = 0)); rw [HE.out, decide_eq_true hin]; rfl⟩, hbw.trans hn2⟩
      · go_wp2
        go_ret2
        exact ⟨i, _, rfl, ⟨hj, HLO.out, HHI.out, by rw [decide_eq_false hin]; rfl⟩, hbw⟩

theorem SortA.at {l : List Arc} (h : SortA l) {i j : Nat} (hij : i < j) (hj : j < l.length) : ltS (l.getD i default).key (l.getD j default).key := by
  unfold SortA at h
  rw [List.pairwise_iff_getElem] at h
  have := h i j (by omega) hj hij
  rw [List.getD_eq_getElem?_getD, List.getD_eq_getElem?_getD, List.getElem?_eq_getElem (by omega), List.getElem?_eq_getElem hj]
  exact this
theorem SortA.mono {l : List Arc} (h : SortA l) (s : ByteArray) (i j : Nat) (hij : i ≤ j) (hj : j < l.length) (hn : cmpS (l.getD j default).key s < 0) : cmpS (l.getD i default).key s < 0 := by
  rcases Nat.lt_or_ge i j with h1 | h1
  · exact cmpS_neg.2 (ltS_trans (h.at h1 hj) (cmpS_neg.1 hn))
  · have : i = j := by omega
    subst this; exact hn
set_option maxRecDepth 100000 in
set_option maxHeartbeats 1000000 in
theorem w_arcR (g lo : Nat) (A : Option Addr) (c : Nat) (l : List Arc) (s : ByteArray) (w : World) (hg : w.cell? ⟨g, 1, none⟩ = some (.slice A l.length c)) (hR : Rd w lo A 5 encArc l) (hl : l.length ≤ 65536) (hs : SortA l) :
    Calls Tryz.prog 101 #[.pointer (some ⟨g, 0, none⟩), .string s] w fun e w' => e = .returned (.int .i64 (arcI l s)) ∧ Nx w w' := by
  have hB := w_BsfArc 167 (fun n => cmpS n.key s) s (enters_of Tryz.func167 (by kernel_rfl) rfl) (fun y W => w_arc1 y s W) lo A c l w hR hl (fun i j => hs.mono s i j)
  by_cases hex : ∃ k, k < l.length ∧ (l.getD k default).key = s
  · obtain ⟨k, hk, hks⟩ := hex
    have hlo : ∀ i, i < k → cmpS (l.getD i default).key s < 0 := fun i hi => cmpS_neg.2 (by rw [← hks]; exact hs.at hi hk)
    have HI := hide (show arcI l s = (k : Int) by
      have := idxP_at (fun n : Arc => decide (n.key = s)) l 0 k hk (decide_eq_true hks) (fun i hi => decide_eq_false (fun e => by have := hlo i hi; rw [cmpS_zero.2 e] at this; omega))
      rw [Nat.zero_add] at this; exact this)
    have hB2 : Calls Tryz.prog 166 #[.slice A l.length c, .string s, .func (.func 167) #[] #[]] w fun e w' => e = .returned (.tuple #[.int .i64 (k : Int), .bool true]) ∧ Nx w w' := by
      refine hB.mono ?_
      rintro e w' ⟨r, is, rfl, hF, hn⟩
      obtain ⟨rfl, rfl⟩ := found_at hF k hk (cmpS_zero.2 hks) hlo
      exact ⟨rfl, hn⟩
    have HB := hide hB2
    clear hB hB2 hR hs hlo hks hk
    generalize l.length = n at *
    generalize arcI l s = z at *
    go_enter Tryz.func101, Tryz.ntmps101
    go_wp2_with (go_at_call 166; refine HB.out.mono ?_; rintro e w2 ⟨rfl, hn2⟩)
    go_ret
    exact ⟨ret_int HI.out.symm, hn2⟩
  · have hno : ∀ k, k < l.length → (l.getD k default).key ≠ s := fun k hk e => hex ⟨k, hk, e⟩
    have HI := hide (show arcI l s = -1 from idxP_no _ l 0 (fun k hk => decide_eq_false (hno k hk)))
    have hB2 : Calls Tryz.prog 166 #[.slice A l.length c, .string s, .func (.func 167) #[] #[]] w fun e w' => ∃ r : Nat, e = .returned (.tuple #[.int .i64 (r : Int), .bool false]) ∧ Nx w w' := by
      refine hB.mono ?_
      rintro e w' ⟨r, is, rfl, hF, hn⟩
      obtain rfl := found_no hF (fun k hk e => hno k hk (cmpS_zero.1 e))
      exact ⟨r, rfl, hn⟩
    have HB := hide hB2
    clear hB hB2 hR hs hno hex
    generalize l.length = n at *
    generalize arcI l s = z at *
    go_enter Tryz.func101, Tryz.ntmps101
    go_wp2_with (go_at_call 166; refine HB.out.mono ?_; rintro e w2 ⟨r, rfl, hn2⟩)
    go_ret
    exact ⟨ret_int HI.out.symm, hn2⟩
end Go.Proofs.YtmpnilliichpfaaGreatDoor
/- Bans in their order. -/
namespace Go.Proofs.YtmpnilliichpfaaGreatDoor
open Go.RowKit

set_option maxHeartbeats 400000 in
theorem w_OrI (lo : Nat) (A : Option Addr) (c : Nat) (zs : List Int) (w : World) (hR : Rd w lo A 1 encI zs) (hl : zs.length ≤ 65536) :
    Calls Tryz.prog 149 #[.slice A zs.length c] w fun e w' => e = .returned (.int .i64 (orI zs)) ∧ w = w' := by
  generalize hn : zs.length = n at *
  have HR := hide hR
  have HN := hide hn
  clear hR hn
  go_enter Tryz.func149, Tryz.ntmps149
  go_wp2
  go_loop [2, 5, 8] (fun _ _ i => ∃ k : Nat, k ≤ n ∧ i = .int .i64 k ∧ orI zs = orI (zs.drop k)) (fun _ _ i => n - (intOf i).toNat)
  case atStart => exact ⟨0, Nat.zero_le _, rfl, rfl⟩
  case round =>
    obtain ⟨k, hk, rfl, hq⟩ := hrel
    have HQ := hide hq
    clear hq
    by_cases hlt : k < n
    · have hlt' : k < zs.length := by have := HN.out; omega
      obtain ⟨b, off, rfl, _, hb, _, hc⟩ := HR.out.open_ (Nx.refl w) (by omega)
      have c0 : w.cell? ⟨b, off + k, none⟩ = some (.int .i64 zs[k]) := by have := hc k hlt' 0 _ rfl; simpa using this
      clear hc
      have HD := hide (orI_drop zs k hlt')
      by_cases hz : zs[k] = 0
      · have hz' : (zs[k] != 0) = false := by simpa using hz
        have HZ := hide hz
        clear hz
        generalize zs[k] = z at *
        go_wp2
        go_round
        case rel => exact ⟨k + 1, by omega, by go_num, by rw [HQ.out, HD.out, if_pos HZ.out]⟩
        case measure => simp [intOf]; omega
      · have hz' : (zs[k] != 0) = true := by simpa using hz
        have HZ := hide hz
        clear hz
        generalize zs[k] = z at *
        go_wp2
        go_ret
        exact ⟨ret_int (by rw [HQ.out, HD.out, if_neg HZ.out]), rfl⟩
    · have ek : k = n := by omega
      subst ek
      clear hlt
      go_wp2
      go_ret
      exact ⟨ret_int (by rw [HQ.out, List.drop_of_length_le (by have := HN.out; omega)]; rfl), rfl⟩

theorem w_OrI2 (a b : Int) (g c : Nat) (w : World) (hg : w.heap[g]? = some (.cells #[.int .i64 a, .int .i64 b] 3 (0, 0))) :
    Calls Tryz.prog 149 #[.slice (some ⟨g, 0, none⟩) 2 c] w fun e w' => e = .returned (.int .i64 (if a = 0 then b else a)) ∧ w = w' := by
  have h := w_OrI 0 _ c [a, b] w (Rd.lit hg (Nat.zero_le _) (fun _ => rfl) rfl) (by simp)
  rw [orI_two] at h
  exact h
set_option maxRecDepth 100000 in
set_option maxHeartbeats 1000000 in
theorem w_byBan (x y : Ban) (w : World) : Calls Tryz.prog 138 #[.agg #[.string x.from_, .string x.to_], .agg #[.string y.from_, .string y.to_]] w fun e w' => e = .returned (.int .i64 (banC x y)) ∧ Nx w w' := by
  have HOR := hide (fun g c W (hg : W.heap[g]? = some (.cells #[.int .i64 (cmpS x.from_ y.from_), .int .i64 (cmpS x.to_ y.to_)] 3 (0, 0))) => w_OrI2 _ _ g c W hg)
  rw [show (if cmpS x.from_ y.from_ = 0 then cmpS x.to_ y.to_ else cmpS x.from_ y.from_) = banC x y from rfl] at HOR
  obtain ⟨x1, x2⟩ := x
  obtain ⟨y1, y2⟩ := y
  generalize banC _ _ = z at *
  obtain ⟨wa, hwa⟩ : ∃ wa, wa = (w.alloc (.cells #[.string x1, .string x2] 114)).alloc (.cells #[.string y1, .string y2] 114) := ⟨_, rfl⟩
  have hna : Nx w wa := hwa ▸ ((Nx.refl w).alloc _).alloc _
  have hsz : wa.heap.size = w.heap.size + 1 + 1 := by rw [hwa]; simp
  have c0 : wa.cell? ⟨w.heap.size, 0, none⟩ = some (.string x1) := by rw [hwa]; go_simp
  have c1 : wa.cell? ⟨w.heap.size, 1, none⟩ = some (.string x2) := by rw [hwa]; go_simp
  have c2 : wa.cell? ⟨w.heap.size + 1, 0, none⟩ = some (.string y1) := by rw [hwa]; go_simp
  have c3 : wa.cell? ⟨w.heap.size + 1, 1, none⟩ = some (.string y2) := by rw [hwa]; go_simp
  go_enter Tryz.func138, Tryz.ntmps138
  go_wp2_with fail
  rw [← hwa]
  have HWA := hide hwa
  clear hwa
  go_region_held3 (fun w' => w'.cell? ⟨w.heap.size, 0, none⟩ = some (.string x1) ∧ w'.cell? ⟨w.heap.size, 1, none⟩ = some (.string x2) ∧ w'.cell? ⟨w.heap.size + 1, 0, none⟩ = some (.string y1) ∧ w'.cell? ⟨w.heap.size + 1, 1, none⟩ = some (.string y2))
    (go_keep)
    (first
      | (go_at_call 150; refine (w_CompareS _ _ _).mono ?_; rintro e w' ⟨rfl, rfl⟩)
      | (go_at_call 149; refine (HOR.out _ _ _ (hnew_drew hsz.symm)).mono ?_; rintro e w' ⟨rfl, rfl⟩))
  go_wp2_with fail
  go_ret
  exact ⟨rfl, by repeat (first | exact hna | refine Nx.drew ?_ | refine Nx.alloc ?_ _)⟩
end Go.Proofs.YtmpnilliichpfaaGreatDoor
/- What is wrong with knots. -/
namespace Go.Proofs.YtmpnilliichpfaaGreatDoor
open Go.RowKit

set_option maxRecDepth 100000 in
set_option maxHeartbeats 2000000 in
theorem w_knotsFaultR (lo : Nat) (A : Option Addr) (c : Nat) (l : List Knot) (w : World) (hR : Rd w lo A 2 encKnot l) (hl : l.length ≤ 65536) :
    Calls Tryz.prog 137 #[.slice A l.length c] w fun e w' => e = .returned (.int .i64 (knotsF l)) ∧ Nx w w' := by
  have HA := hide (fun i W h1 h2 => w_After lo A c l i W h1 hl h2)
  generalize hn : l.length = n at *
  have HR := hide hR
  have HN := hide hn
  clear hR hn
  by_cases h0 : n = 0
  · have t0 : ((n : Int) == 0) = true := by simpa using h0
    have H0 := hide h0
    clear h0
    go_enter Tryz.func137, Tryz.ntmps137
    go_wp2
    go_ret
    exact ⟨ret_int (by unfold knotsF; rw [if_pos (by rw [HN.out]; exact H0.out)]), Nx.refl _⟩
  have t0 : ((n : Int) == 0) = false := by simpa using h0
  have h0' : 0 < n := by omega
  by_cases hbig : 48 < n
  · go_enter Tryz.func137, Tryz.ntmps137
    go_wp2
    go_ret
    exact ⟨ret_int (by unfold knotsF; rw [if_neg (by rw [HN.out]; exact h0), if_pos (by rw [HN.out]; exact hbig)]), Nx.refl _⟩
  · have HF := hide (show knotsF l = if chk knotF none l = 0 then fallF l l.length else chk knotF none l by unfold knotsF; rw [if_neg (by rw [HN.out]; exact h0), if_neg (by rw [HN.out]; exact hbig)])
    clear h0
    go_enter Tryz.func137, Tryz.ntmps137
    go_wp2
    go_loopw [2, 3, 4, 18] (fun _ _ _ i wr => ∃ k : Nat, k ≤ n ∧ i = .int .i64 k ∧ Nx w wr ∧ chk knotF none l = chk knotF (prevOf l k) (l.drop k) ∧ (∀ j, j < k → (0 ≤ (l.getD j default).at_ ∧ (l.getD j default).at_ ≤ 86399999) ∧ (1 ≤ (l.getD j default).time ∧ (l.getD j default).time ≤ 3600000))) (fun _ _ _ i _ => n - (intOf i).toNat)
    case atStart => exact ⟨0, Nat.zero_le _, rfl, Nx.refl _, rfl, fun j hj => by omega⟩
    case round =>
      obtain ⟨k, hk, rfl, hbw, hq, hbd⟩ := hrel
      have HQ := hide hq
      have HBD := hide hbd
      clear hq hbd
      by_cases hlt : k < n
      · have hlt' : k < l.length := by have := HN.out; omega
        obtain ⟨b, off, rfl, _, hb, hbr, hc⟩ := HR.out.open_ hbw (by omega)
        have c0 : wr.cell? ⟨b, off + k * 2, none⟩ = some (.int .i64 l[k].at_) := hc k hlt' 0 _ rfl
        have c1 : wr.cell? ⟨b, off + k * 2 + 1, none⟩ = some (.int .i64 l[k].time) := hc k hlt' 1 _ rfl
        have HC := hide hc
        clear hc
        have HD := hide (chk_drop knotF l k hlt')
        have HE := hide (knot_at hlt')
        cases ho1 : outB l[k].at_ 0 86399999
        · cases ho2 : outB l[k].time 1 3600000
          · have hb1 := outB_false.1 ho1
            have hb2 := outB_false.1 ho2
            have HX := hide (And.intro hb1 hb2)
            by_cases hk0 : 0 < k
            · have c4 : wr.cell? ⟨b, off + (k - 1) * 2, none⟩ = some (.int .i64 (l[k - 1]'(by omega)).at_) := HC.out (k - 1) (by omega) 0 _ rfl
              have HV := hide (show knotF (prevOf l k) l[k] = if l[k].at_ ≤ (l[k - 1]'(by omega)).at_ then 7 else 0 by rw [prevOf_pos l k hk0 (by omega)]; unfold knotF dayMs; rw [show (86400000 : Int) - 1 = 86399999 from rfl, ho1, ho2]; rfl)
              generalize (l[k - 1]'(by omega)).at_ = p0 at *
              have q0 : decide ((0 : Int) < (k : Int)) = true := by simpa using hk0
              have q00 : ((k : Int) == 0) = false := by simp; omega
              have q1 : IntKind.i64.wrap ((k : Int) - 1) = (k : Int) - 1 := IntWalk.i64_in _ (by omega)
              have q2 : (1 : Int) ≤ (k : Int) := by omega
              have q3 : ((k : Int) - 1).toNat = k - 1 := by omega
              have q4 : (k : Int) - 1 < (n : Int) := by omega
              by_cases hle : l[k].at_ ≤ p0
              · have t1 : decide (l[k].at_ ≤ p0) = true := by simpa using hle
                have HLE := hide hle
                clear hle
                go_wp2_with (go_at_call 76; refine (w_Out _ _ _ _).mono ?_; rintro e w' ⟨rfl, rfl⟩)
                go_quiet (fail)
                go_wp2
                go_ret
                exact ⟨ret_int (by rw [HF.out, HQ.out, HD.out, HV.out, if_pos HLE.out]; rfl), (hbw.alloc _).drewN _⟩
              · have t1 : decide (l[k].at_ ≤ p0) = false := by simpa using hle
                have HLE := hide hle
                clear hle
                go_wp2_with (go_at_call 76; refine (w_Out _ _ _ _).mono ?_; rintro e w' ⟨rfl, rfl⟩)
                go_quiet (fail)
                go_wp2
                go_roundw
                case rel => exact ⟨k + 1, by omega, by go_num, (hbw.alloc _).drewN _, by rw [HQ.out, HD.out, HV.out, if_neg (Int.not_le.2 HLE.out), if_pos rfl], fun j hj => by
                  rcases Nat.lt_or_ge j k with h1 | h1
                  · exact HBD.out j h1
                  · have : j = k := by omega
                    subst this; rw [HE.out]; exact HX.out⟩
                case measure => simp [intOf]; omega
            · have hk1 : k = 0 := by omega
              have HV := hide (show knotF (prevOf l k) l[k] = if l[k].at_ = 0 then 0 else 7 by subst hk1; rw [prevOf_zero]; unfold knotF dayMs; rw [show (86400000 : Int) - 1 = 86399999 from rfl, ho1, ho2]; rfl)
              clear hk1
              have q0 : decide ((0 : Int) < (k : Int)) = false := by simpa using hk0
              by_cases hz : l[k].at_ = 0
              · have t1 : (l[k].at_ != 0) = false := by simpa using hz
                have HZ := hide hz
                clear hz
                go_wp2_with (go_at_call 76; refine (w_Out _ _ _ _).mono ?_; rintro e w' ⟨rfl, rfl⟩)
                have q00 : ((k : Int) == 0) = true := by simp; omega
                go_quiet (fail)
                clear q00
                go_wp2
                go_roundw
                case rel => exact ⟨k + 1, by omega, by go_num, (hbw.alloc _).drewN _, by rw [HQ.out, HD.out, HV.out, if_pos HZ.out, if_pos rfl], fun j hj => by
                  have : j = k := by omega
                  subst this; rw [HE.out]; exact HX.out⟩
                case measure => simp [intOf]; omega
              · have t1 : (l[k].at_ != 0) = true := by simpa using hz
                have HZ := hide hz
                clear hz
                go_wp2_with (go_at_call 76; refine (w_Out _ _ _ _).mono ?_; rintro e w' ⟨rfl, rfl⟩)
                have q00 : ((k : Int) == 0) = true := by simp; omega
                go_quiet (fail)
                clear q00
                go_wp2
                go_ret
                exact ⟨ret_int (by rw [HF.out, HQ.out, HD.out, HV.out, if_neg HZ.out]; rfl), (hbw.alloc _).drewN _⟩
          · have HV := hide (show knotF (prevOf l k) l[k] = 1 by unfold knotF dayMs; rw [show (86400000 : Int) - 1 = 86399999 from rfl, ho1, ho2]; rfl)
            go_wp2_with (go_at_call 76; refine (w_Out _ _ _ _).mono ?_; rintro e w' ⟨rfl, rfl⟩)
            go_ret
            exact ⟨ret_int (by rw [HF.out, HQ.out, HD.out, HV.out]; rfl), hbw.alloc _⟩
        · have HV := hide (show knotF (prevOf l k) l[k] = 1 by unfold knotF dayMs; rw [show (86400000 : Int) - 1 = 86399999 from rfl, ho1]; rfl)
          go_wp2_with (go_at_call 76; refine (w_Out _ _ _ _).mono ?_; rintro e w' ⟨rfl, rfl⟩)
          go_ret
          exact ⟨ret_int (by rw [HF.out, HQ.out, HD.out, HV.out]; rfl), hbw.alloc _⟩
      · have hkn : k = n := by omega
        subst hkn
        have H0 := hide (show chk knotF none l = 0 by rw [HQ.out, List.drop_of_length_le (by have := HN.out; omega)]; rfl)
        clear HQ hlt
        go_wp2_with fail
        go_loopw [2, 5, 6, 7, 58] (fun _ _ _ _ i wr => ∃ j : Nat, j ≤ k ∧ i = .int .i64 j ∧ Nx w wr ∧ fallF l l.length = fallF l (l.length - j)) (fun _ _ _ _ i _ => k - (intOf i).toNat)
        case atStart => exact ⟨0, Nat.zero_le _, rfl, hbw, rfl⟩
        case round =>
          clear hbw
          obtain ⟨j, hj, rfl, hbw, hq⟩ := hrel
          have HQ := hide hq
          clear hq
          by_cases hlt : j < k
          · have hlt' : j < l.length := by have := HN.out; omega
            have HFA := hide (fallF_at l j hlt')
            obtain ⟨b, off, rfl, _, hb, hbr, hc⟩ := HR.out.open_ hbw (by omega)
            have c0 : wr.cell? ⟨b, off + j * 2, none⟩ = some (.int .i64 l[j].at_) := hc j hlt' 0 _ rfl
            have c1 : wr.cell? ⟨b, off + j * 2 + 1, none⟩ = some (.int .i64 l[j].time) := hc j hlt' 1 _ rfl
            clear hc
            have hx := HBD.out j hlt
            have hy : ((1 ≤ (afterK l j).at_ ∨ 0 ≤ (afterK l j).at_) ∧ (afterK l j).at_ ≤ 86400000) ∧ (1 ≤ (afterK l j).time ∧ (afterK l j).time ≤ 3600000) := by
              unfold afterK
              by_cases h1 : j + 1 < l.length
              · rw [if_pos h1]
                have := HBD.out (j + 1) (by have := HN.out; omega)
                omega
              · rw [if_neg h1]
                have := HBD.out 0 (by omega)
                simp only [dayMs]; omega
            have HB := hide (show fallsB l j = decide ((afterK l j).at_ - l[j].at_ < l[j].time - (afterK l j).time) by unfold fallsB; rw [knot_at hlt'])
            rw [knot_at hlt'] at hx
            have HCA := hide (fun W h1 => HA.out j W h1 hlt)
            generalize afterK l j = y at *
            generalize l[j] = x at *
            obtain ⟨⟨hx1, hx2⟩, hx3, hx4⟩ := hx
            obtain ⟨⟨hy1, hy2⟩, hy3, hy4⟩ := hy
            have hy1' : 0 ≤ y.at_ := by omega
            clear hy1
            by_cases hfall : y.at_ - x.at_ < x.time - y.time
            · have t1 : decide (y.at_ - x.at_ < x.time - y.time) = true := by simpa using hfall
              have HFL := hide hfall
              clear hfall
              go_wp2_with (go_at_call 187; refine (HCA.out _ (HR.out.nx (hbw.alloc _))).mono ?_; rintro e w2 ⟨rfl, hn2⟩; (have e0 : (w2.alloc (.cells #[.int .i64 y.at_, .int .i64 y.time] 112)).cell? ⟨wr.heap.size, 0, none⟩ = some (.int .i64 x.at_) := World.grownBy.cell ((hn2.alloc _).gr none) (show (wr.alloc (.cells #[.int .i64 x.at_, .int .i64 x.time] 112)).cell? ⟨wr.heap.size, 0, none⟩ = some (.int .i64 x.at_) by go_simp) (by simp)); (have e1 : (w2.alloc (.cells #[.int .i64 y.at_, .int .i64 y.time] 112)).cell? ⟨wr.heap.size, 1, none⟩ = some (.int .i64 x.time) := World.grownBy.cell ((hn2.alloc _).gr none) (show (wr.alloc (.cells #[.int .i64 x.at_, .int .i64 x.time] 112)).cell? ⟨wr.heap.size, 1, none⟩ = some (.int .i64 x.time) by go_simp) (by simp)); (have hz2 : wr.heap.size + 1 ≤ w2.heap.size := by have := hn2.sz; simpa using this))
              go_ret
              exact ⟨ret_int (by rw [HF.out, if_pos H0.out, HQ.out, HFA.out, HB.out, decide_eq_true HFL.out]; rfl), ((hbw.alloc _).trans hn2).alloc _⟩
            · have t1 : decide (y.at_ - x.at_ < x.time - y.time) = false := by simpa using hfall
              have HFL := hide hfall
              clear hfall
              go_wp2_with (go_at_call 187; refine (HCA.out _ (HR.out.nx (hbw.alloc _))).mono ?_; rintro e w2 ⟨rfl, hn2⟩; (have e0 : (w2.alloc (.cells #[.int .i64 y.at_, .int .i64 y.time] 112)).cell? ⟨wr.heap.size, 0, none⟩ = some (.int .i64 x.at_) := World.grownBy.cell ((hn2.alloc _).gr none) (show (wr.alloc (.cells #[.int .i64 x.at_, .int .i64 x.time] 112)).cell? ⟨wr.heap.size, 0, none⟩ = some (.int .i64 x.at_) by go_simp) (by simp)); (have e1 : (w2.alloc (.cells #[.int .i64 y.at_, .int .i64 y.time] 112)).cell? ⟨wr.heap.size, 1, none⟩ = some (.int .i64 x.time) := World.grownBy.cell ((hn2.alloc _).gr none) (show (wr.alloc (.cells #[.int .i64 x.at_, .int .i64 x.time] 112)).cell? ⟨wr.heap.size, 1, none⟩ = some (.int .i64 x.time) by go_simp) (by simp)); (have hz2 : wr.heap.size + 1 ≤ w2.heap.size := by have := hn2.sz; simpa using this))
              go_roundw
              case rel => exact ⟨j + 1, by omega, by go_num, ((hbw.alloc _).trans hn2).alloc _, by rw [HQ.out, HFA.out, HB.out, decide_eq_false (Int.not_lt.2 HFL.out)]; rfl⟩
              case measure => simp [intOf]; omega
          · go_wp2
            go_ret
            exact ⟨ret_int (by rw [HF.out, if_pos H0.out, HQ.out, show l.length - j = 0 by have := HN.out; omega]; rfl), hbw⟩
end Go.Proofs.YtmpnilliichpfaaGreatDoor
/- Products and quotients of 64 bits, whose upper half is 0. -/
namespace Go.Proofs.YtmpnilliichpfaaGreatDoor
open Go.RowKit Go.Proofs Go.Shelf

theorem w_Mul64 (x y z : Nat) (w : World) (hx : x ≤ 4294967296) (hy : y ≤ 2147483648) (hz : x * y = z) :
    Calls Tryz.prog 159 #[.int .u64 (x : Int), .int .u64 (y : Int)] w fun e w' => e = .returned (.tuple #[.int .u64 0, .int .u64 (z : Int)]) ∧ w = w' := by
  subst hz
  have hb : x * y ≤ 4294967296 * 2147483648 := Nat.mul_le_mul hx hy
  have hcon := Any.bits_Mul64 Tryz.mul64 x y (by omega) (by omega) w
  change Calls Tryz.prog 159 _ _ _ at hcon
  refine hcon.mono ?_
  rintro e w' ⟨rfl, rfl⟩
  have e1 : x * y / 18446744073709551616 = 0 := Nat.div_eq_of_lt (by omega)
  have e2 : x * y % 18446744073709551616 = x * y := Nat.mod_eq_of_lt (by omega)
  rw [e1, e2]
  exact ⟨rfl, rfl⟩
set_option maxRecDepth 100000 in
theorem w_Div64 (z y q r : Nat) (w : World) (hz : z ≤ 9223372036854775808) (hy : 0 < y) (hy2 : y ≤ 9223372036854775807) (hq : z / y = q) (hr : z % y = r) :
    Calls Tryz.prog 220 #[.int .u64 0, .int .u64 (z : Int), .int .u64 (y : Int)] w fun e w' => e = .returned (.tuple #[.int .u64 (q : Int), .int .u64 (r : Int)]) ∧ ∃ m, w' = w.drewN m := by
  subst hq hr
  have t0 : ((y : Int) == 0) = false := by simp; omega
  have t1 : decide ((y : Int) ≤ 0) = false := decide_eq_false (by omega)
  have hd : z / y ≤ z := Nat.div_le_self z y
  have hm : z % y < y := Nat.mod_lt _ hy
  have d1 : (z : Int).tdiv (y : Int) = ((z / y : Nat) : Int) := by rw [Int.tdiv_eq_ediv_of_nonneg (by omega)]; rfl
  have d2 : (z : Int).tmod (y : Int) = ((z % y : Nat) : Int) := by rw [Int.tmod_eq_emod_of_nonneg (by omega)]; rfl
  generalize z / y = q at *
  generalize z % y = r at *
  have d3 : IntKind.u64.wrap ((q : Nat) : Int) = ((q : Nat) : Int) := by rw [IntKind.wrap_u64]; omega
  have d4 : IntKind.u64.wrap ((r : Nat) : Int) = ((r : Nat) : Int) := by rw [IntKind.wrap_u64]; omega
  go_enter Tryz.func220, Tryz.ntmps220
  go_wp2_with fail
  go_quiet (fail)
  go_wp2_with fail
  go_ret2
  exact ⟨rfl, _, rfl⟩
end Go.Proofs.YtmpnilliichpfaaGreatDoor
