/- Plain functions: what the smallest functions of numbers compute. -/
import Derived.Lib.SlTrimSet
import Derived.Lib.Bytealg
import Derived.Laws.Cover1
import Derived.Sort.LotA
import Derived.Shelf.SlSortCmp.Insertion
import Derived.Lib.SlicesCompact
import Derived.Lib.Strings
import Derived.WalkKit
import Derived.WalkSpells
import Derived.WalkLawsBesides
import Derived.IntWalk
import Derived.Test.YtepbamacebjopaaGreatDoorRows
import Derived.Deep.QuietTactic
import Derived.BigQuiet
import Derived.Outline
import Derived.Test.YtepbamacebjopaaGreatDoorQShelfS
import Derived.Test.YtepbamacebjopaaGreatDoorQShelfC
import Derived.Shelf.Small.Strs
namespace Go.Proofs.YtepbamacebjopaaGreatDoor

def outB (n l h : Int) : Bool := decide (n < l) || decide (h < n)
def inB (n l h : Int) : Bool := decide (l ≤ n) && decide (n ≤ h)
theorem inB_out (n l h : Int) : inB n l h = !outB n l h := by
  unfold inB outB
  by_cases h1 : n < l <;> by_cases h2 : h < n <;> simp [h1, h2] <;> (try omega)
theorem outB_false {n l h : Int} : outB n l h = false ↔ l ≤ n ∧ n ≤ h := by unfold outB; simp
theorem outB_true {n l h : Int} : outB n l h = true ↔ n < l ∨ h < n := by unfold outB; simp

/-- The last moment. -/
def lastMo : Int := 345686399999
def momB (n : Int) : Bool := !outB n 0 lastMo
def isPtB (x y : Int) : Bool := !outB x (-10000) 10000 && !outB y (-10000) 10000
theorem isPtB_true {x y : Int} : isPtB x y = true ↔ (-10000 ≤ x ∧ x ≤ 10000) ∧ (-10000 ≤ y ∧ y ≤ 10000) := by unfold isPtB; simp [outB_false]
def argF (b : Bool) : Int := if b then 0 else 1
def ptF (x y : Int) : Int := argF (isPtB x y)
def momF (n : Int) : Int := argF (momB n)
/-- The first that is not 0. -/
def orI : List Int → Int
  | [] => 0
  | z :: zs => if z = 0 then orI zs else z

/-- cmp.Compare. -/
def cmpI (a b : Int) : Int := if a < b then -1 else if b < a then 1 else 0

theorem tdiv_bd (a b : Int) (hb : 1 ≤ b) : -(if a < 0 then -a else a) ≤ a.tdiv b ∧ a.tdiv b ≤ (if a < 0 then -a else a) := by
  rcases Int.le_total 0 a with h | h
  · rw [Int.tdiv_eq_ediv_of_nonneg h]
    have h1 := Int.ediv_nonneg h (show 0 ≤ b by omega)
    have h2 := Int.ediv_le_self b h
    split <;> omega
  · have e : a.tdiv b = -((-a) / b) := by
      rw [← Int.tdiv_eq_ediv_of_nonneg (by omega), Int.neg_tdiv]; omega
    have h1 := Int.ediv_nonneg (a := -a) (by omega) (show 0 ≤ b by omega)
    have h2 := Int.ediv_le_self b (show 0 ≤ -a by omega)
    rw [e]
    split <;> omega
theorem floor_pos (a b : Int) (hb : 1 ≤ b) (h : ¬ a.tmod b < 0) : a.tdiv b = a / b := by
  have h1 := Int.mul_tdiv_add_tmod a b
  have h2 := Int.tmod_lt_of_pos a (show 0 < b by omega)
  exact ((Int.ediv_emod_unique (a := a) (b := b) (r := a.tmod b) (q := a.tdiv b) (by omega)).2 ⟨by omega, by omega, h2⟩).1.symm
theorem floor_neg (a b : Int) (hb : 1 ≤ b) (h : a.tmod b < 0) : a.tdiv b - 1 = a / b := by
  have h1 := Int.mul_tdiv_add_tmod a b
  have h2 := Int.lt_tmod_of_pos a (b := b) (by omega)
  exact ((Int.ediv_emod_unique (a := a) (b := b) (r := a.tmod b + b) (q := a.tdiv b - 1) (by omega)).2 ⟨by rw [Int.mul_sub]; omega, by omega, by omega⟩).1.symm

/-- What stands ahead of place k. -/
def prevOf {α : Type} (l : List α) (k : Nat) : Option α := if k = 0 then none else l[k - 1]?
/-- A check over a list: the first fault; each element is held against the one ahead of it. -/
def chk {α : Type} (f : Option α → α → Int) : Option α → List α → Int
  | _, [] => 0
  | p, c :: cs => if f p c = 0 then chk f (some c) cs else f p c
theorem chk_drop {α : Type} (f : Option α → α → Int) (l : List α) (k : Nat) (hk : k < l.length) :
    chk f (prevOf l k) (l.drop k) = if f (prevOf l k) l[k] = 0 then chk f (prevOf l (k + 1)) (l.drop (k + 1)) else f (prevOf l k) l[k] := by
  rw [List.drop_eq_getElem_cons hk, chk]
  have e : prevOf l (k + 1) = some l[k] := by unfold prevOf; simp [List.getElem?_eq_getElem hk]
  rw [e]
theorem prevOf_zero {α : Type} (l : List α) : prevOf l 0 = none := rfl
theorem prevOf_pos {α : Type} (l : List α) (k : Nat) (h : 0 < k) (hk : k ≤ l.length) : prevOf l k = some (l[k - 1]'(by omega)) := by
  unfold prevOf; rw [if_neg (by omega), List.getElem?_eq_getElem]

theorem orI_two (a b : Int) : orI [a, b] = if a = 0 then b else a := by
  unfold orI orI orI
  by_cases h1 : a = 0 <;> by_cases h2 : b = 0 <;> simp [h1, h2]
theorem cmpI_neg {a b : Int} : cmpI a b < 0 ↔ a < b := by unfold cmpI; split <;> (try split) <;> omega
theorem cmpI_zero {a b : Int} : cmpI a b = 0 ↔ a = b := by unfold cmpI; split <;> (try split) <;> omega
end Go.Proofs.YtepbamacebjopaaGreatDoor
/- Plain: what a key is, by the program's loop and by the reference's trim. -/
namespace Go.Proofs.YtepbamacebjopaaGreatDoor
def lowC (c : UInt8) : Bool := decide (97 ≤ c.toNat) && decide (c.toNat ≤ 122)
def digC (c : UInt8) : Bool := decide (48 ≤ c.toNat) && decide (c.toNat ≤ 57)
def keyC (c : UInt8) : Bool := lowC c || digC c || c == 45 || c == 95
/-- A key. -/
def keyL : List UInt8 → Bool
  | [] => false
  | c :: l => decide ((c :: l).length ≤ 40) && lowC c && (c :: l).all keyC
def keyB (s : ByteArray) : Bool := keyL s.data.toList
def smallL : List UInt8 := [97, 98, 99, 100, 101, 102, 103, 104, 105, 106, 107, 108, 109, 110, 111, 112, 113, 114, 115, 116, 117, 118, 119, 120, 121, 122]
def csetL : List UInt8 := smallL ++ [48, 49, 50, 51, 52, 53, 54, 55, 56, 57, 45, 95]
theorem all_u8 {p : UInt8 → Bool} (h : ∀ n : Fin 256, p (UInt8.ofNat n.val) = true) (c : UInt8) : p c = true := by
  have := h ⟨c.toNat, c.toNat_lt⟩
  simpa using this
theorem cset_key (c : UInt8) : csetL.contains c = keyC c := by
  have := all_u8 (p := fun c => csetL.contains c == keyC c) (by decide +kernel) c
  simpa using this
theorem small_low (c : UInt8) : decide (0 ≤ Go.Lib.indexByte smallL c) = lowC c := by
  have := all_u8 (p := fun c => decide (0 ≤ Go.Lib.indexByte smallL c) == lowC c) (by decide +kernel) c
  simpa using this
theorem drop_nil {p : UInt8 → Bool} : ∀ {l : List UInt8}, l.dropWhile p = [] ↔ l.all p = true
  | [] => by simp
  | c :: l => by
    by_cases h : p c = true
    · rw [List.dropWhile_cons_of_pos h, drop_nil]; simp [h]
    · rw [List.dropWhile_cons_of_neg h]; simp [h]
theorem drop_all {p : UInt8 → Bool} : ∀ {l : List UInt8}, (l.dropWhile p).all p = true → l.all p = true
  | [], h => h
  | c :: l, h => by
    by_cases hc : p c = true
    · rw [List.dropWhile_cons_of_pos hc] at h; simp [hc]; simpa using drop_all h
    · rw [List.dropWhile_cons_of_neg hc] at h; exact h
theorem all_drop {p : UInt8 → Bool} {l : List UInt8} (h : l.all p = true) : (l.dropWhile p).all p = true := by
  rw [drop_nil.2 h]; rfl
theorem trim_nil (l cs : List UInt8) : Go.Lib.trimS l cs = [] ↔ l.all (cs.contains ·) = true := by
  unfold Go.Lib.trimS Go.Lib.trimLeftS Go.Lib.trimRightS
  rw [drop_nil]
  simp only [List.all_reverse]
  constructor
  · intro h; have := drop_all h; simpa using this
  · intro h; exact all_drop (by simpa using h)
theorem trim_key (l : List UInt8) : (Go.Lib.trimS l csetL).isEmpty = l.all keyC := by
  have h := trim_nil l csetL
  have e : (fun c => csetL.contains c) = keyC := by funext c; exact cset_key c
  rw [e] at h
  cases h1 : l.all keyC
  · cases h2 : Go.Lib.trimS l csetL
    · rw [h.1 h2] at h1; cases h1
    · rfl
  · rw [h.2 h1]; rfl
end Go.Proofs.YtepbamacebjopaaGreatDoor
/- Plain functions: what is left is given out one by one; sorting in place. -/
namespace Go.Proofs.YtepbamacebjopaaGreatDoor
/-- i gets one of what is left ahead of j. -/
def beats (rs : List Int) (i j : Nat) : Prop := rs.getD j 0 < rs.getD i 0 ∨ (rs.getD i 0 = rs.getD j 0 ∧ i < j)
theorem beats_asymm {rs : List Int} {i j : Nat} (h : beats rs i j) (k : beats rs j i) : False := by unfold beats at h k; omega
structure UpSet (rs : List Int) (T : List Nat) : Prop where
  nd : T.Nodup
  lt : ∀ i ∈ T, i < rs.length
  up : ∀ i ∈ T, ∀ j, j < rs.length → j ∉ T → beats rs i j
theorem nodup_len : ∀ {l m : List Nat}, l.Nodup → (∀ x ∈ l, x ∈ m) → l.length ≤ m.length
  | [], _, _, _ => by simp
  | x :: l, m, hn, hs => by
    have h1 := List.nodup_cons.1 hn
    have h2 : l.length ≤ (m.erase x).length := nodup_len h1.2 (fun y hy => by
      have hne : y ≠ x := fun e => h1.1 (e ▸ hy)
      exact (List.mem_erase_of_ne hne).2 (hs y (List.mem_cons_of_mem _ hy)))
    have h3 := List.length_erase_of_mem (hs x (by simp))
    have h4 : 0 < m.length := List.length_pos_of_mem (hs x (by simp))
    simp only [List.length_cons]
    omega
theorem UpSet.sub {rs : List Int} {S T : List Nat} (hS : UpSet rs S) (hT : UpSet rs T) (hl : S.length = T.length) : ∀ i ∈ S, i ∈ T := by
  intro a ha
  refine Classical.byContradiction fun hna => ?_
  have hb : ∃ b ∈ T, b ∉ S := by
    refine Classical.byContradiction fun hno => ?_
    have hsub : ∀ x ∈ T, x ∈ S.erase a := fun x hx => by
      have hxS : x ∈ S := Classical.byContradiction fun h => hno ⟨x, hx, h⟩
      have hne : x ≠ a := fun e => hna (e ▸ hx)
      exact (List.mem_erase_of_ne hne).2 hxS
    have h1 := nodup_len hT.nd hsub
    have h2 := List.length_erase_of_mem ha
    have h3 : 0 < S.length := List.length_pos_of_mem ha
    omega
  obtain ⟨b, hb, hbS⟩ := hb
  exact beats_asymm (hS.up a ha b (hT.lt b hb) hbS) (hT.up b hb a (hS.lt a ha) hna)
theorem UpSet.same {rs : List Int} {S T : List Nat} (hS : UpSet rs S) (hT : UpSet rs T) (hl : S.length = T.length) (i : Nat) : i ∈ S ↔ i ∈ T :=
  ⟨hS.sub hT hl i, hT.sub hS hl.symm i⟩
/-- One more for those in T. -/
def bump (qs : List Int) (T : List Nat) : List Int := qs.mapIdx (fun i q => if i ∈ T then q + 1 else q)
theorem bump_len (qs : List Int) (T : List Nat) : (bump qs T).length = qs.length := by simp [bump]
/-- What is given out: rounded down, and what is left one by one to those ahead. -/
def Dealt (qs rs : List Int) (left : Nat) (zs : List Int) : Prop := ∃ T, UpSet rs T ∧ T.length = left ∧ zs = bump qs T
/-- What the reference still looks at. -/
def cur (rs : List Int) (T : List Nat) : List Int := rs.mapIdx (fun i r => if i ∈ T then -1 else r)
theorem cur_len (rs : List Int) (T : List Nat) : (cur rs T).length = rs.length := by simp [cur]
theorem cur_get (rs : List Int) (T : List Nat) (i : Nat) (h : i < rs.length) : (cur rs T).getD i 0 = if i ∈ T then -1 else rs.getD i 0 := by
  rw [List.getD_eq_getElem?_getD, List.getElem?_eq_getElem (by rw [cur_len]; exact h)]
  simp [cur, List.getD_eq_getElem?_getD, List.getElem?_eq_getElem h]
/-- The first of the greatest. -/
def FirstMax (cs : List Int) (b : Nat) : Prop := b < cs.length ∧ ∀ j, j < cs.length → cs.getD j 0 < cs.getD b 0 ∨ (cs.getD j 0 = cs.getD b 0 ∧ b ≤ j)
theorem UpSet.next {rs : List Int} {T : List Nat} {b : Nat} (h : UpSet rs T) (hr : ∀ i, i < rs.length → 0 ≤ rs.getD i 0) (hT : T.length < rs.length) (hb : FirstMax (cur rs T) b) : b ∉ T ∧ UpSet rs (T ++ [b]) := by
  obtain ⟨hbl, hm⟩ := hb
  rw [cur_len] at hbl hm
  have hfree : ∃ j, j < rs.length ∧ j ∉ T := by
    refine Classical.byContradiction fun hno => ?_
    have : ∀ x ∈ List.range rs.length, x ∈ T := fun x hx => Classical.byContradiction fun h => hno ⟨x, List.mem_range.1 hx, h⟩
    have := nodup_len List.nodup_range this
    rw [List.length_range] at this
    omega
  have hbT : b ∉ T := by
    intro hbT
    obtain ⟨j, hj, hjT⟩ := hfree
    have h1 := hm j hj
    rw [cur_get _ _ _ hj, cur_get _ _ _ hbl, if_neg hjT, if_pos hbT] at h1
    have := hr j hj
    omega
  refine ⟨hbT, ?_, ?_, ?_⟩
  · rw [List.nodup_append]
    refine ⟨h.nd, by simp, fun x hx y hy => ?_⟩
    simp at hy; subst hy
    exact fun e => hbT (e ▸ hx)
  · intro i hi
    rcases List.mem_append.1 hi with hi | hi
    · exact h.lt i hi
    · simp at hi; subst hi; exact hbl
  · intro i hi j hj hjT
    have hj1 : j ∉ T := fun h => hjT (List.mem_append_left _ h)
    have hj2 : j ≠ b := fun e => hjT (by simp [e])
    rcases List.mem_append.1 hi with hi | hi
    · exact h.up i hi j hj hj1
    · simp at hi; subst hi
      have h1 := hm j hj
      rw [cur_get _ _ _ hj, cur_get _ _ _ hbl, if_neg hj1, if_neg hbT] at h1
      unfold beats
      omega
theorem UpSet.nil (rs : List Int) : UpSet rs [] := ⟨List.nodup_nil, by simp, by simp⟩
/-- The first ones of all, in order. -/
theorem UpSet.take {rs : List Int} {l : List Nat} (hp : l.Perm (List.range rs.length)) (hs : l.Pairwise (beats rs)) (k : Nat) : UpSet rs (l.take k) := by
  have hnd : l.Nodup := hp.nodup_iff.2 List.nodup_range
  refine ⟨?_, ?_, ?_⟩
  · exact List.Nodup.sublist (List.take_sublist k l) hnd
  · intro i hi
    exact List.mem_range.1 (hp.mem_iff.1 (List.mem_of_mem_take hi))
  · intro i hi j hj hjT
    have hjl : j ∈ l := hp.mem_iff.2 (List.mem_range.2 hj)
    have hjd : j ∈ l.drop k := by
      rw [← List.take_append_drop k l] at hjl
      exact (List.mem_append.1 hjl).resolve_left hjT
    rw [← List.take_append_drop k l] at hs
    exact (List.pairwise_append.1 hs).2.2 i hi j hjd
end Go.Proofs.YtepbamacebjopaaGreatDoor
/- Plain: a whole given out by parts. -/
namespace Go.Proofs.YtepbamacebjopaaGreatDoor

def sumL : List Int → Int
  | [] => 0
  | x :: l => x + sumL l
def qsN (nums : List Int) (F : Int) : List Int := nums.map (· / F)
def rsN (nums : List Int) (F : Int) : List Int := nums.map (· % F)
def leftN (all : Int) (nums : List Int) (F : Int) : Int := all - sumL (qsN nums F)
theorem qsN_len (nums : List Int) (F : Int) : (qsN nums F).length = nums.length := by simp [qsN]
/-- A whole 'all' given out by numbers of which all together are F times it. -/
def Handed (all : Int) (nums : List Int) (F : Int) (zs : List Int) : Prop := Dealt (qsN nums F) (rsN nums F) (leftN all nums F).toNat zs
theorem Handed.len {all : Int} {nums : List Int} {F : Int} {zs : List Int} (h : Handed all nums F zs) : zs.length = nums.length := by
  obtain ⟨T, _, _, rfl⟩ := h
  rw [bump_len, qsN_len]
def numsD (cents : Int) (parts : List Int) : List Int := parts.map (fun p => cents * p)
/-- Cents given out by parts. -/
def Divided (cents : Int) (parts : List Int) (zs : List Int) : Prop := Handed cents (numsD cents parts) (sumL parts) zs
end Go.Proofs.YtepbamacebjopaaGreatDoor
/- Plain functions: what is wrong with keys, parts, costs, dues, steps; gains, refunds. -/
namespace Go.Proofs.YtepbamacebjopaaGreatDoor

def strLe (a b : ByteArray) : Bool := Op.bytesLess a.toList b.toList || a.toList == b.toList
structure Due where
  key : ByteArray
  cents : Int
instance : Inhabited Due := ⟨⟨default, 0⟩⟩
def encS (s : ByteArray) : List Value := [.string s]
structure Frac where
  num : Int
  den : Int
instance : Inhabited Frac := ⟨⟨0, 0⟩⟩
end Go.Proofs.YtepbamacebjopaaGreatDoor
/- Plain functions: nodes and knots checked; how long an arc takes. -/
namespace Go.Proofs.YtepbamacebjopaaGreatDoor

structure Node where
  key : ByteArray
  x : Int
  y : Int
instance : Inhabited Node := ⟨⟨default, 0, 0⟩⟩
def encNode (n : Node) : List Value := [.string n.key, .int .i64 n.x, .int .i64 n.y]
theorem encNode_len (n : Node) : (encNode n).length = 3 := rfl
theorem encNode_one (x : Node) : ∀ v ∈ encNode x, v.oneCell' = true := by
  intro v hv; simp [encNode] at hv; rcases hv with rfl | rfl | rfl <;> rfl
structure Knot where
  at_ : Int
  time : Int
instance : Inhabited Knot := ⟨⟨0, 0⟩⟩
def encKnot (n : Knot) : List Value := [.int .i64 n.at_, .int .i64 n.time]
theorem encKnot_len (n : Knot) : (encKnot n).length = 2 := rfl
/-- A node that stands behind another one. -/
def nodeF (p : Option Node) (n : Node) : Int :=
  if keyB n.key then (match p with | some q => if strLe n.key q.key then 7 else ptF n.x n.y | none => ptF n.x n.y) else 5
def nodesF (l : List Node) : Int := if 500 < l.length then 2 else chk nodeF none l
def dayMs : Int := 86400000
def knotF (p : Option Knot) (k : Knot) : Int :=
  if outB k.at_ 0 (dayMs - 1) || outB k.time 1 3600000 then 1 else (match p with | some q => if k.at_ ≤ q.at_ then 7 else 0 | none => if k.at_ = 0 then 0 else 7)
/-- What comes behind knot i. -/
def afterK (l : List Knot) (i : Nat) : Knot := if i + 1 < l.length then l.getD (i + 1) default else ⟨dayMs, (l.getD 0 default).time⟩
def fallsB (l : List Knot) (i : Nat) : Bool := decide ((afterK l i).at_ - (l.getD i default).at_ < (l.getD i default).time - (afterK l i).time)
def fallF (l : List Knot) : Nat → Int
  | 0 => 0
  | k + 1 => if fallsB l (l.length - (k + 1)) then 16 else fallF l k
def knotsF (l : List Knot) : Int :=
  if l.length = 0 then 8 else if 48 < l.length then 2 else if chk knotF none l = 0 then fallF l l.length else chk knotF none l
theorem fallF_at (l : List Knot) (k : Nat) (hk : k < l.length) : fallF l (l.length - k) = if fallsB l k then 16 else fallF l (l.length - (k + 1)) := by
  have e : l.length - k = (l.length - (k + 1)) + 1 := by omega
  rw [e, fallF, ← e]
  have e2 : l.length - (l.length - k) = k := by omega
  rw [e2]
end Go.Proofs.YtepbamacebjopaaGreatDoor
/- Plain: how long an arc takes at a moment. -/
namespace Go.Proofs.YtepbamacebjopaaGreatDoor

/-- The line between two knots. -/
def lineI (k y : Knot) (t : Int) : Int := (k.time * (y.at_ - t) + y.time * (t - k.at_)) / (y.at_ - k.at_)
def segI (l : List Knot) (t : Int) : Nat := (l.takeWhile (fun k => decide (k.at_ ≤ t))).length - 1
def timeI (l : List Knot) (at_ : Int) : Int := lineI (l.getD (segI l (at_ % dayMs)) default) (afterK l (segI l (at_ % dayMs))) (at_ % dayMs)
theorem takeWhile_len {α : Type} {p : α → Bool} : ∀ (l : List α) (k : Nat), k ≤ l.length → (∀ m (h : m < l.length), m < k → p l[m] = true) → (∀ h : k < l.length, p l[k] = false) → (l.takeWhile p).length = k
  | [], k, hk, _, _ => by simp at hk; subst hk; rfl
  | a :: l, 0, _, _, h2 => by
    have h0 : p a = false := h2 (by simp)
    rw [List.takeWhile_cons]; simp [h0]
  | a :: l, k + 1, hk, h1, h2 => by
    have h0 : p a = true := h1 0 (by simp) (by omega)
    rw [List.takeWhile_cons]; simp only [h0, if_true, List.length_cons]
    rw [takeWhile_len l k (by simpa using hk) (fun m h hm => h1 (m + 1) (by simpa using h) (by omega)) (fun h => h2 (by simpa using h))]
/-- Knots that are right. -/
structure KOk (l : List Knot) : Prop where
  pos : 0 < l.length
  le : l.length ≤ 48
  first : (l.getD 0 default).at_ = 0
  bd : ∀ i, i < l.length → (0 ≤ (l.getD i default).at_ ∧ (l.getD i default).at_ ≤ 86399999) ∧ (1 ≤ (l.getD i default).time ∧ (l.getD i default).time ≤ 3600000)
  up : ∀ i, i + 1 < l.length → (l.getD i default).at_ < (l.getD (i + 1) default).at_
theorem KOk.lt {l : List Knot} (h : KOk l) : ∀ (i j : Nat), i < j → j < l.length → (l.getD i default).at_ < (l.getD j default).at_
  | i, 0, h1, _ => absurd h1 (by omega)
  | i, j + 1, h1, h2 => by
    have h3 := h.up j h2
    rcases Nat.lt_or_ge i j with h4 | h4
    · have := KOk.lt h i j h4 (by omega); omega
    · have : i = j := by omega
      subst this; exact h3
theorem chkK_ok : ∀ (l : List Knot) (p : Option Knot), chk knotF p l = 0 → (∀ i, i < l.length → (0 ≤ (l.getD i default).at_ ∧ (l.getD i default).at_ ≤ 86399999) ∧ (1 ≤ (l.getD i default).time ∧ (l.getD i default).time ≤ 3600000)) ∧ (∀ i, i + 1 < l.length → (l.getD i default).at_ < (l.getD (i + 1) default).at_) ∧ (0 < l.length → (p = none → (l.getD 0 default).at_ = 0) ∧ ∀ q, p = some q → q.at_ < (l.getD 0 default).at_)
  | [], _, _ => ⟨fun i hi => absurd hi (by simp), fun i hi => absurd hi (by simp), fun h => absurd h (by simp)⟩
  | k :: l, p, h => by
    unfold chk at h
    by_cases h0 : knotF p k = 0
    · rw [if_pos h0] at h
      have ih := chkK_ok l (some k) h
      unfold knotF at h0
      cases h1 : (outB k.at_ 0 (dayMs - 1) || outB k.time 1 3600000) with
      | true => rw [h1, if_pos rfl] at h0; exact absurd h0 (by decide)
      | false =>
        rw [h1] at h0
        rw [if_neg (by simp)] at h0
        rw [Bool.or_eq_false_iff] at h1
        have b1 := outB_false.1 h1.1
        have b2 := outB_false.1 h1.2
        unfold dayMs at b1
        refine ⟨fun i hi => ?_, fun i hi => ?_, fun _ => ⟨fun hp => ?_, fun q hq => ?_⟩⟩
        · cases i with
          | zero => exact ⟨by show 0 ≤ k.at_ ∧ k.at_ ≤ _; omega, b2⟩
          | succ i => exact ih.1 i (by simpa using hi)
        · cases i with
          | zero => exact (ih.2.2 (by simpa using hi)).2 k rfl
          | succ i => exact ih.2.1 i (by simpa using hi)
        · subst hp
          show k.at_ = 0
          by_cases hz : k.at_ = 0
          · exact hz
          · simp [hz] at h0
        · subst hq
          show q.at_ < k.at_
          by_cases hz : k.at_ ≤ q.at_
          · simp [hz] at h0
          · omega
    · rw [if_neg h0] at h; exact absurd h h0
theorem knotsF_chk {l : List Knot} (h : knotsF l = 0) : KOk l := by
  unfold knotsF at h
  by_cases h0 : l.length = 0
  · rw [if_pos h0] at h; exact absurd h (by decide)
  rw [if_neg h0] at h
  by_cases h1 : 48 < l.length
  · rw [if_pos h1] at h; exact absurd h (by decide)
  rw [if_neg h1] at h
  by_cases h2 : chk knotF none l = 0
  · obtain ⟨a, b, c⟩ := chkK_ok l none h2
    exact ⟨by omega, by omega, (c (by omega)).1 rfl, a, b⟩
  · rw [if_neg h2] at h; exact absurd h h2
/-- i is the last knot that is not behind t. -/
theorem seg_of {l : List Knot} (h : KOk l) {t : Int} {i : Nat} (hi : i < l.length) (h1 : (l.getD i default).at_ ≤ t) (h2 : i + 1 < l.length → t < (l.getD (i + 1) default).at_) : segI l t = i := by
  unfold segI
  rw [takeWhile_len l (i + 1) hi (fun m hm hmi => ?_) (fun hk => ?_)]
  · rfl
  · have e : l[m] = l.getD m default := by rw [List.getD_eq_getElem?_getD, List.getElem?_eq_getElem hm]; rfl
    rw [e, decide_eq_true_eq]
    rcases Nat.lt_or_ge m i with h4 | h4
    · have := h.lt m i h4 hi; omega
    · have : m = i := by omega
      subst this; exact h1
  · have e : l[i + 1] = l.getD (i + 1) default := by rw [List.getD_eq_getElem?_getD, List.getElem?_eq_getElem hk]; rfl
    rw [e, decide_eq_false_iff_not]
    have := h2 hk; omega
theorem after_bd {l : List Knot} (h : KOk l) {i : Nat} (hi : i < l.length) : ((l.getD i default).at_ < (afterK l i).at_ ∧ (afterK l i).at_ ≤ 86400000) ∧ (1 ≤ (afterK l i).time ∧ (afterK l i).time ≤ 3600000) := by
  unfold afterK
  by_cases h1 : i + 1 < l.length
  · rw [if_pos h1]
    have a := h.bd (i + 1) h1
    have b := h.up i h1
    omega
  · rw [if_neg h1]
    have a := h.bd i hi
    have b := h.bd 0 h.pos
    simp only [dayMs]
    omega
theorem time_one {l : List Knot} (h : l.length = 1) (hk : KOk l) (at_ : Int) : timeI l at_ = (l.getD 0 default).time := by
  have hs : segI l (at_ % dayMs) = 0 := seg_of hk (by omega) (by
    rw [hk.first]
    have := Int.emod_nonneg at_ (show dayMs ≠ 0 by decide)
    omega) (fun h1 => by omega)
  unfold timeI
  rw [hs]
  have e : afterK l 0 = ⟨dayMs, (l.getD 0 default).time⟩ := by unfold afterK; rw [if_neg (by omega)]
  rw [e]
  unfold lineI
  rw [hk.first]
  simp only [Int.sub_zero]
  rw [← Int.mul_add, show dayMs - at_ % dayMs + at_ % dayMs = dayMs by omega]
  exact Int.mul_ediv_cancel _ (by decide)
end Go.Proofs.YtepbamacebjopaaGreatDoor
/- Plain: the order of strings by their bytes. -/
namespace Go.Proofs.YtepbamacebjopaaGreatDoor
open Go.Proofs

theorem cmpB_zero : ∀ a b : List UInt8, Lib.compareBytes a b = 0 ↔ a = b
  | [], [] => by simp [Lib.compareBytes]
  | [], _ :: _ => by simp [Lib.compareBytes]
  | _ :: _, [] => by simp [Lib.compareBytes]
  | a :: x, b :: y => by
    unfold Lib.compareBytes
    by_cases h1 : a < b
    · have : a ≠ b := fun e => by subst e; exact UInt8.lt_irrefl a h1
      simp [h1, this]
    · by_cases h2 : b < a
      · have : a ≠ b := fun e => by subst e; exact UInt8.lt_irrefl a h2
        simp [h1, h2, this]
      · have e : a = b := UInt8.le_antisymm (UInt8.not_lt.1 h2) (UInt8.not_lt.1 h1)
        subst e
        simp [h1, cmpB_zero x y]
theorem cmpB_neg : ∀ a b : List UInt8, Lib.compareBytes a b < 0 ↔ a < b
  | [], [] => by simp [Lib.compareBytes]
  | [], _ :: _ => by simp [Lib.compareBytes]
  | _ :: _, [] => by simp [Lib.compareBytes]
  | a :: x, b :: y => by
    unfold Lib.compareBytes
    rw [List.cons_lt_cons_iff]
    by_cases h1 : a < b
    · simp [h1]
    · by_cases h2 : b < a
      · have : a ≠ b := fun e => by subst e; exact UInt8.lt_irrefl a h2
        simp [h1, h2, this]
      · have e : a = b := UInt8.le_antisymm (UInt8.not_lt.1 h2) (UInt8.not_lt.1 h1)
        subst e
        simp [h1, cmpB_neg x y]
def cmpS (a b : ByteArray) : Int := Lib.compareBytes a.data.toList b.data.toList
def ltS (a b : ByteArray) : Prop := a.data.toList < b.data.toList
theorem data_inj {a b : ByteArray} (h : a.data.toList = b.data.toList) : a = b := by
  obtain ⟨⟨a⟩⟩ := a
  obtain ⟨⟨b⟩⟩ := b
  simp at h
  rw [h]
theorem cmpS_zero {a b : ByteArray} : cmpS a b = 0 ↔ a = b := by
  unfold cmpS
  rw [cmpB_zero]
  exact ⟨data_inj, fun h => by rw [h]⟩
theorem cmpS_neg {a b : ByteArray} : cmpS a b < 0 ↔ ltS a b := cmpB_neg _ _
theorem ltS_trans {a b c : ByteArray} (h : ltS a b) (h' : ltS b c) : ltS a c := List.lt_trans h h'
theorem ltS_irrefl (a : ByteArray) : ¬ ltS a a := List.lt_irrefl _
theorem ltS_tri (a b : ByteArray) (h : ¬ ltS a b) (h' : ¬ ltS b a) : a = b := data_inj (List.le_antisymm (List.not_lt.1 h') (List.not_lt.1 h))
end Go.Proofs.YtepbamacebjopaaGreatDoor
/- Plain: sums by key; the list of them that is sorted by key; legs split by keys. -/
namespace Go.Proofs.YtepbamacebjopaaGreatDoor
open Go.Sort Go.Proofs Go.Shelf

/-- v more at key k. -/
def addK (f : ByteArray → Option Int) (k : ByteArray) (v : Int) : ByteArray → Option Int := fun k' => if k' = k then some ((f k).getD 0 + v) else f k'
/-- Nothing is below 0, nor above B. -/
def BndK (f : ByteArray → Option Int) (B : Int) : Prop := ∀ k, 0 ≤ (f k).getD 0 ∧ (f k).getD 0 ≤ B
theorem BndK.none (B : Int) (h : 0 ≤ B) : BndK (fun _ => none) B := fun _ => ⟨Int.le_refl _, h⟩
theorem BndK.add {f : ByteArray → Option Int} {B v V : Int} (h : BndK f B) (k : ByteArray) (h0 : 0 ≤ v) (h1 : v ≤ V) : BndK (addK f k v) (B + V) := by
  intro k'
  unfold addK
  have h2 := h k
  by_cases e : k' = k
  · subst e; simp; omega
  · have := h k'
    simp [e]; omega
end Go.Proofs.YtepbamacebjopaaGreatDoor
/- Plain: zones, what is wrong with them; the zone of a node; the zones to which nodes come. -/
namespace Go.Proofs.YtepbamacebjopaaGreatDoor

structure Zone where
  key : ByteArray
  a : Option Addr
  cap : Nat
  nodes : List ByteArray
instance : Inhabited Zone := ⟨⟨default, none, 0, []⟩⟩
theorem strLe_lt {s q : ByteArray} (h : strLe s q = false) : ltS q s := by
  unfold strLe at h
  rw [Bool.or_eq_false_iff, Proofs.bytesLess_eq, Lib.toList_data, Lib.toList_data] at h
  unfold ltS
  have h1 : ¬ s.data.toList < q.data.toList := by simpa using h.1
  have h2 : s.data.toList ≠ q.data.toList := by simpa using h.2
  have h3 : q.data.toList ≤ s.data.toList := List.not_lt.1 h1
  refine Classical.byContradiction fun hc => h2 (List.le_antisymm (List.not_lt.1 hc) h3)
section
variable {α β : Type} [Inhabited α] [DecidableEq α] [Inhabited β] [DecidableEq β]
theorem compact_snoc (zs : List α) (x : α) : Lib.compact (zs ++ [x]) = Lib.compact zs ++ (if zs ≠ [] ∧ zs.getLast? = some x then [] else [x]) := by
  unfold Lib.compact
  rw [show (zs ++ [x]).length = zs.length + 1 by simp, Lib.compactUpTo_succ]
  have e0 : ∀ j, j < zs.length → (zs ++ [x]).toArray[j]! = zs.toArray[j]! := fun j hj => by
    rw [getElem!_pos _ j (by simp; omega), getElem!_pos _ j (by simpa using hj)]
    simp [List.getElem_append_left hj]
  have e1 : Lib.compactUpTo (zs ++ [x]).toArray zs.length = Lib.compactUpTo zs.toArray zs.length := by
    unfold Lib.compactUpTo
    have e2 : (List.range zs.length).filter (Lib.keeps (zs ++ [x]).toArray) = (List.range zs.length).filter (Lib.keeps zs.toArray) := by
      apply List.filter_congr
      intro j hj
      rw [List.mem_range] at hj
      unfold Lib.keeps
      rw [e0 j hj, e0 (j - 1) (by omega)]
    rw [e2]
    apply List.map_congr_left
    intro j hj
    exact e0 j (List.mem_range.1 (List.mem_filter.1 hj).1)
  rw [e1]
  congr 1
  have e3 : (zs ++ [x]).toArray[zs.length]! = x := by
    rw [getElem!_pos _ _ (by simp)]; simp
  rw [e3]
  rcases List.eq_nil_or_concat zs with rfl | ⟨ys, y, rfl⟩
  · simp [Lib.keeps]
  · have e4 : (ys.concat y ++ [x]).toArray[(ys.concat y).length - 1]! = y := by
      rw [e0 _ (by simp), getElem!_pos _ _ (by simp)]; simp
    unfold Lib.keeps
    rw [e3, e4]
    by_cases h : x = y
    · subst h; simp
    · have : ¬ y = x := fun e => h e.symm
      simp [h, this]
theorem compact_map (f : α → β) (hf : ∀ a b, f a = f b → a = b) (zs : List α) : Lib.compact (zs.map f) = (Lib.compact zs).map f := by
  rcases List.eq_nil_or_concat zs with rfl | ⟨ys, y, rfl⟩
  · rfl
  · rw [List.concat_eq_append, List.map_append, List.map_cons, List.map_nil, compact_snoc, compact_snoc, compact_map f hf ys, List.map_append]
    congr 1
    have e : (ys.map f ≠ [] ∧ (ys.map f).getLast? = some (f y)) ↔ (ys ≠ [] ∧ ys.getLast? = some y) := by
      rw [List.getLast?_map]
      constructor
      · rintro ⟨h1, h2⟩
        refine ⟨fun e => h1 (by rw [e]; rfl), ?_⟩
        cases hl : ys.getLast? with
        | none => rw [hl] at h2; cases h2
        | some z => rw [hl] at h2; simp at h2; rw [hf _ _ h2]
      · rintro ⟨h1, h2⟩
        exact ⟨fun e => h1 (by simpa using e), by rw [h2]; rfl⟩
    by_cases h : ys ≠ [] ∧ ys.getLast? = some y
    · rw [if_pos h, if_pos (e.2 h)]; rfl
    · rw [if_neg h, if_neg (fun hc => h (e.1 hc))]; rfl
termination_by zs.length
end
end Go.Proofs.YtepbamacebjopaaGreatDoor
/- Plain: arcs and bans checked. -/
namespace Go.Proofs.YtepbamacebjopaaGreatDoor

structure Arc where
  key : ByteArray
  from_ : ByteArray
  to_ : ByteArray
  long : Int
  ka : Option Addr
  kc : Nat
  knots : List Knot
instance : Inhabited Arc := ⟨⟨default, default, default, 0, none, 0, []⟩⟩
def encArc (a : Arc) : List Value := [.string a.key, .string a.from_, .string a.to_, .int .i64 a.long, .slice a.ka a.knots.length a.kc]
theorem encArc_len (a : Arc) : (encArc a).length = 5 := rfl
theorem encArc_one (x : Arc) : ∀ v ∈ encArc x, v.oneCell' = true := by
  intro v hv; simp [encArc] at hv; rcases hv with rfl | rfl | rfl | rfl | rfl <;> rfl
structure Ban where
  from_ : ByteArray
  to_ : ByteArray
instance : Inhabited Ban := ⟨⟨default, default⟩⟩
def encBan (b : Ban) : List Value := [.string b.from_, .string b.to_]
theorem encBan_len (a : Ban) : (encBan a).length = 2 := rfl
theorem encBan_one (x : Ban) : ∀ v ∈ encBan x, v.oneCell' = true := by
  intro v hv; simp [encBan] at hv; rcases hv with rfl | rfl <;> rfl

section
variable {α : Type}
/-- The first place at which something is so. -/
def idxP (p : α → Bool) : List α → Nat → Int
  | [], _ => -1
  | n :: l, i => if p n then (i : Int) else idxP p l (i + 1)
def findI (p : α → Bool) (l : List α) : Int := idxP p l 0
theorem idxP_at [Inhabited α] (p : α → Bool) : ∀ (l : List α) (j k : Nat), k < l.length → p (l.getD k default) = true → (∀ i, i < k → p (l.getD i default) = false) → idxP p l j = ((j + k : Nat) : Int)
  | [], _, k, hk, _, _ => absurd hk (by simp)
  | n :: l, j, 0, _, h, _ => by
    have h' : p n = true := h
    simp [idxP, h']
  | n :: l, j, k + 1, hk, h, hlo => by
    have h0 : p n = false := hlo 0 (by omega)
    rw [idxP, h0, if_neg (by simp), idxP_at p l (j + 1) k (by simpa using hk) h (fun i hi => hlo (i + 1) (by omega))]
    omega
theorem idxP_no [Inhabited α] (p : α → Bool) : ∀ (l : List α) (j : Nat), (∀ k, k < l.length → p (l.getD k default) = false) → idxP p l j = -1
  | [], _, _ => rfl
  | n :: l, j, h => by
    have h0 : p n = false := h 0 (by simp)
    rw [idxP, h0, if_neg (by simp)]
    exact idxP_no p l (j + 1) (fun k hk => h (k + 1) (by simpa using hk))
theorem idxP_bd (p : α → Bool) : ∀ (l : List α) (j : Nat), idxP p l j = -1 ∨ ∃ k : Nat, k < l.length ∧ idxP p l j = ((j + k : Nat) : Int)
  | [], _ => .inl rfl
  | n :: l, j => by
    unfold idxP
    cases hp : p n with
    | true => exact .inr ⟨0, by simp, by simp⟩
    | false =>
      rw [if_neg (by simp)]
      rcases idxP_bd p l (j + 1) with h | ⟨k, hk, e⟩
      · exact .inl h
      · exact .inr ⟨k + 1, by simpa using hk, by rw [e]; omega⟩
theorem findI_bd (p : α → Bool) (l : List α) : findI p l = -1 ∨ ∃ k : Nat, k < l.length ∧ findI p l = (k : Int) := by
  rcases idxP_bd p l 0 with h | ⟨k, hk, e⟩
  · exact .inl h
  · exact .inr ⟨k, hk, by unfold findI; rw [e, Nat.zero_add]⟩
theorem idxP_drop (p : α → Bool) (l : List α) (k : Nat) (hk : k < l.length) : idxP p (l.drop k) k = if p l[k] then (k : Int) else idxP p (l.drop (k + 1)) (k + 1) := by
  rw [List.drop_eq_getElem_cons hk, idxP]
end

def nodeI (l : List Node) (s : ByteArray) : Int := findI (fun n => decide (n.key = s)) l
def arcI (l : List Arc) (s : ByteArray) : Int := findI (fun n => decide (n.key = s)) l
def arcAt (l : List Arc) (s : ByteArray) : Arc := l.getD (arcI l s).toNat default
def arcG (ns : List Node) (a : Arc) : Int :=
  if nodeI ns a.from_ < 0 ∨ nodeI ns a.to_ < 0 then 8 else if a.from_ = a.to_ then 6 else if outB a.long 1 1000000 then 1 else knotsF a.knots
def arcF (ns : List Node) (p : Option Arc) (a : Arc) : Int :=
  if keyB a.key then (match p with | some q => if strLe a.key q.key then 7 else arcG ns a | none => arcG ns a) else 5
def banG (rs : List Arc) (b : Ban) : Int :=
  if arcI rs b.from_ < 0 ∨ arcI rs b.to_ < 0 then 8 else if (arcAt rs b.from_).to_ = (arcAt rs b.to_).from_ then 0 else 3
def banC (b q : Ban) : Int := if cmpS b.from_ q.from_ = 0 then cmpS b.to_ q.to_ else cmpS b.from_ q.from_
def banF (rs : List Arc) (p : Option Ban) (b : Ban) : Int :=
  if banG rs b = 0 then (match p with | some q => if banC b q ≤ 0 then 7 else 0 | none => 0) else banG rs b
/-- What is wrong with roads (whose lists are not too long). -/
def roadsF (ns : List Node) (rs : List Arc) (bs : List Ban) : Int :=
  if nodesF ns = 0 then (if chk (arcF ns) none rs = 0 then chk (banF rs) none bs else chk (arcF ns) none rs) else nodesF ns

theorem cmpS_pos {a b : ByteArray} : 0 < cmpS a b ↔ ltS b a := by
  constructor
  · intro h
    refine Classical.byContradiction fun hc => ?_
    have h1 : ¬ ltS a b := fun e => by have := cmpS_neg.2 e; omega
    have := ltS_tri a b h1 hc
    have := cmpS_zero.2 this
    omega
  · intro h
    have h1 : ¬ ltS a b := fun e => ltS_irrefl a (ltS_trans e h)
    have h2 : a ≠ b := fun e => by subst e; exact ltS_irrefl a h
    have h3 : ¬ cmpS a b < 0 := fun e => h1 (cmpS_neg.1 e)
    have h4 : cmpS a b ≠ 0 := fun e => h2 (cmpS_zero.1 e)
    omega
theorem banC_anti (b q : Ban) : banC b q ≤ 0 ↔ 0 ≤ banC q b := by
  unfold banC
  by_cases h : cmpS b.from_ q.from_ = 0
  · have h2 : cmpS q.from_ b.from_ = 0 := cmpS_zero.2 (cmpS_zero.1 h).symm
    rw [if_pos h, if_pos h2]
    have h3 : 0 < cmpS b.to_ q.to_ ↔ cmpS q.to_ b.to_ < 0 := cmpS_pos.trans cmpS_neg.symm
    omega
  · have h2 : cmpS q.from_ b.from_ ≠ 0 := fun e => h (cmpS_zero.2 (cmpS_zero.1 e).symm)
    rw [if_neg h, if_neg h2]
    have h3 : 0 < cmpS b.from_ q.from_ ↔ cmpS q.from_ b.from_ < 0 := cmpS_pos.trans cmpS_neg.symm
    omega
theorem chk_sorted {α : Type} {F : Option α → α → Int} (key : α → ByteArray) (hF : ∀ q x, F (some q) x = 0 → strLe (key x) (key q) = false) : ∀ (l : List α) (p : Option α), chk F p l = 0 → (l.Pairwise fun a b => ltS (key a) (key b)) ∧ ∀ q, p = some q → ∀ x ∈ l, ltS (key q) (key x)
  | [], _, _ => ⟨List.Pairwise.nil, fun _ _ _ h => absurd h (by simp)⟩
  | s :: l, p, h => by
    unfold chk at h
    by_cases h0 : F p s = 0
    · rw [if_pos h0] at h
      obtain ⟨h1, h2⟩ := chk_sorted key hF l _ h
      have h3 : ∀ q, p = some q → ltS (key q) (key s) := fun q e => by subst e; exact strLe_lt (hF q s h0)
      refine ⟨List.pairwise_cons.2 ⟨fun y hy => h2 s rfl y hy, h1⟩, fun q e y hy => ?_⟩
      rcases List.mem_cons.1 hy with rfl | hy
      · exact h3 q e
      · exact ltS_trans (h3 q e) (h2 s rfl y hy)
    · rw [if_neg h0] at h; exact absurd h h0
/-- Sorted by key. -/
def SortN (l : List Node) : Prop := l.Pairwise fun a b => ltS a.key b.key
def SortA (l : List Arc) : Prop := l.Pairwise fun a b => ltS a.key b.key
theorem sortN_of {l : List Node} (h : nodesF l = 0) : SortN l := by
  unfold nodesF at h
  by_cases h0 : 500 < l.length
  · rw [if_pos h0] at h; exact absurd h (by decide)
  · rw [if_neg h0] at h
    refine (chk_sorted (F := nodeF) (·.key) (fun q x hq => ?_) l none h).1
    unfold nodeF at hq
    cases hk : keyB x.key with
    | false => simp [hk] at hq
    | true =>
      rw [hk, if_pos rfl] at hq
      cases hl : strLe x.key q.key with
      | false => rfl
      | true => simp [hl] at hq
theorem sortA_of {ns : List Node} {l : List Arc} (h : chk (arcF ns) none l = 0) : SortA l := by
  refine (chk_sorted (F := arcF ns) (·.key) (fun q x hq => ?_) l none h).1
  unfold arcF at hq
  cases hk : keyB x.key with
  | false => simp [hk] at hq
  | true =>
    rw [hk, if_pos rfl] at hq
    cases hl : strLe x.key q.key with
    | false => rfl
    | true => simp [hl] at hq
theorem chk_all {α : Type} {F : Option α → α → Int} {Q : α → Prop} (hF : ∀ p x, F p x = 0 → Q x) : ∀ (l : List α) (p : Option α), chk F p l = 0 → ∀ x ∈ l, Q x
  | [], _, _ => fun _ h => absurd h (by simp)
  | s :: l, p, h => by
    unfold chk at h
    by_cases h0 : F p s = 0
    · rw [if_pos h0] at h
      intro x hx
      rcases List.mem_cons.1 hx with rfl | hx
      · exact hF p _ h0
      · exact chk_all hF l _ h x hx
    · rw [if_neg h0] at h; exact absurd h h0
theorem arcF_ok {ns : List Node} {p : Option Arc} {a : Arc} (h : arcF ns p a = 0) : keyB a.key = true ∧ arcG ns a = 0 := by
  unfold arcF at h
  cases hk : keyB a.key with
  | false => simp [hk] at h
  | true =>
    rw [hk, if_pos rfl] at h
    refine ⟨rfl, ?_⟩
    cases p with
    | none => exact h
    | some q =>
      cases hl : strLe a.key q.key with
      | true => simp [hl] at h
      | false => simpa [hl] using h
theorem arcG_ok {ns : List Node} {a : Arc} (h : arcG ns a = 0) : 0 ≤ nodeI ns a.from_ ∧ 0 ≤ nodeI ns a.to_ ∧ a.from_ ≠ a.to_ ∧ outB a.long 1 1000000 = false ∧ knotsF a.knots = 0 := by
  unfold arcG at h
  split at h
  · exact absurd h (by decide)
  rename_i h1
  split at h
  · exact absurd h (by decide)
  rename_i h2
  split at h
  · exact absurd h (by decide)
  rename_i h3
  exact ⟨by omega, by omega, h2, by simpa using h3, h⟩
end Go.Proofs.YtepbamacebjopaaGreatDoor
/- Words for memory, of no program: a slice that reads as a list of elements of K cells, the stream's object, worlds that only grow. -/
namespace Go.Proofs.YtepbamacebjopaaGreatDoor
open Go.RowKit

theorem hide {p : Prop} (h : p) : Hid p := h

/-- Nothing that was there has turned. -/
def Nx (w w' : World) : Prop := Below w.heap.size w w'
theorem Nx.refl (w : World) : Nx w w := Below.refl _ _
theorem Nx.trans {a b c : World} (h : Nx a b) (k : Nx b c) : Nx a c := Below.trans h (Below.mono k h.size)
theorem Nx.drew {a w : World} (h : Nx a w) : Nx a w.drew := Below.drew h
theorem Nx.drewN {a w : World} (h : Nx a w) (n : Nat) : Nx a (w.drewN n) := below_drewN h n
theorem Nx.alloc {a w : World} (h : Nx a w) (o : Obj) : Nx a (w.alloc o) := Below.alloc h h.size o
theorem Nx.setCell {a w : World} (h : Nx a w) {p : Addr} (hp : a.heap.size ≤ p.block) (u : Value) : Nx a (w.setCell p u) := Below.setCell h hp u
theorem Nx.sz {a w : World} (h : Nx a w) : a.heap.size ≤ w.heap.size := h.size
theorem Nx.grown {a w w' : World} {row : Option Nat} (h : Nx a w) (hg : w.grownBy w' row) (hr : ∀ k, row = some k → a.heap.size ≤ k) : Nx a w' := Below.grown h hg h.size hr
theorem Nx.gr {a w : World} (h : Nx a w) (row : Option Nat) : a.grownBy w row := ⟨h.os, h.tape, h.output, h.size, fun i hi _ => h.block i hi⟩

/-- Only block s, and what is new, has turned. -/
def Gr (s : Nat) (a w : World) : Prop := a.grownBy w (some s)
theorem Gr.refl (s : Nat) (w : World) : Gr s w w := World.grownBy.refl w _
theorem Gr.of_nx {s : Nat} {a w : World} (h : Nx a w) : Gr s a w := h.gr _
theorem Gr.sz {s : Nat} {a w : World} (h : Gr s a w) : a.heap.size ≤ w.heap.size := World.grownBy.size h
theorem Gr.trans {s : Nat} {a b c : World} (h : Gr s a b) (k : Gr s b c) : Gr s a c :=
  ⟨k.os.trans h.os, k.tape.trans h.tape, k.output.trans h.output, Nat.le_trans h.size k.size, fun i hi hn => (k.block i (Nat.lt_of_lt_of_le hi h.size) hn).trans (h.block i hi hn)⟩
theorem Gr.then_nx {s : Nat} {a b c : World} (h : Gr s a b) (k : Nx b c) : Gr s a c := h.trans (Gr.of_nx k)
theorem Gr.drew {s : Nat} {a w : World} (h : Gr s a w) : Gr s a w.drew := h.then_nx (Nx.refl _).drew
theorem Gr.drewN {s : Nat} {a w : World} (h : Gr s a w) (n : Nat) : Gr s a (w.drewN n) := h.then_nx ((Nx.refl _).drewN n)
theorem Gr.alloc {s : Nat} {a w : World} (h : Gr s a w) (o : Obj) : Gr s a (w.alloc o) := h.then_nx ((Nx.refl _).alloc o)
theorem Gr.setS {s : Nat} {a w : World} (h : Gr s a w) {p : Addr} (hp : p.block = s ∨ a.heap.size ≤ p.block) (u : Value) : Gr s a (w.setCell p u) :=
  ⟨h.os, h.tape, h.output, by have := h.sz; simpa [World.setCell] using this, fun i hi hne => (Below.heap_setCell w p u i (by
    rintro rfl
    rcases hp with hp | hp
    · exact hne (by rw [hp])
    · omega)).trans (h.block i hi hne)⟩
theorem Gr.grown {s : Nat} {a w w' : World} {row : Option Nat} (h : Gr s a w) (hg : w.grownBy w' row) (hr : ∀ k, row = some k → k = s ∨ a.heap.size ≤ k) : Gr s a w' :=
  ⟨hg.os.trans h.os, hg.tape.trans h.tape, hg.output.trans h.output, Nat.le_trans h.size hg.size, fun i hi hne => (hg.block i (Nat.lt_of_lt_of_le hi h.size) (fun e => by
    rcases hr i e.symm with h1 | h1
    · exact hne (by rw [h1])
    · omega)).trans (h.block i hi hne)⟩
theorem Nx.of_gr {s : Nat} {a w : World} (h : Gr s a w) (hs : a.heap.size ≤ s) : Nx a w :=
  ⟨h.os, h.tape, h.output, h.size, fun i hi => h.block i hi (by intro e; injection e with e; omega)⟩

/-- A slice's value with address A reads as xs, each element K cells; its block lies from lo on. -/
def Rd {α : Type} (w : World) (lo : Nat) (A : Option Addr) (K : Nat) (enc : α → List Value) (xs : List α) : Prop :=
  0 < xs.length → ∃ b off, A = some ⟨b, off, none⟩ ∧ lo ≤ b ∧ b < w.heap.size ∧ ∀ i x, xs[i]? = some x → ∀ j u, (enc x)[j]? = some u → w.cell? ⟨b, off + i * K + j, none⟩ = some u
section
variable {α : Type} {w w' : World} {lo lo' K : Nat} {A : Option Addr} {enc : α → List Value} {xs : List α}
theorem Rd.nil : Rd w lo A K enc ([] : List α) := fun h => absurd h (by simp)
theorem Rd.nx (h : Rd w lo A K enc xs) (hn : Nx w w') : Rd w' lo A K enc xs := fun hp => by
  obtain ⟨b, off, e, hl, hb, hc⟩ := h hp
  exact ⟨b, off, e, hl, Nat.lt_of_lt_of_le hb hn.sz, fun i x hx j u hu => (Below.cell hn (p := ⟨b, _, none⟩) hb).trans (hc i x hx j u hu)⟩
theorem Rd.gr {s : Nat} (h : Rd w lo A K enc xs) (hn : Gr s w w') (hs : s < lo) : Rd w' lo A K enc xs := fun hp => by
  obtain ⟨b, off, e, hl, hb, hc⟩ := h hp
  exact ⟨b, off, e, hl, Nat.lt_of_lt_of_le hb hn.sz, fun i x hx j u hu => World.grownBy.cell (row := some s) hn (hc i x hx j u hu) (by simp; omega)⟩
theorem Rd.low (h : Rd w lo A K enc xs) (hl : lo' ≤ lo) : Rd w lo' A K enc xs := fun hp => by
  obtain ⟨b, off, e, h1, hb, hc⟩ := h hp
  exact ⟨b, off, e, Nat.le_trans hl h1, hb, hc⟩
/-- For a loop: the block and all the cells, in the round's world. -/
theorem Rd.open_ (h : Rd w lo A K enc xs) (hn : Nx w w') (hp : 0 < xs.length) : ∃ b off, A = some ⟨b, off, none⟩ ∧ lo ≤ b ∧ b < w.heap.size ∧ b < w'.heap.size ∧ ∀ i (hi : i < xs.length) j u, (enc xs[i])[j]? = some u → w'.cell? ⟨b, off + i * K + j, none⟩ = some u := by
  obtain ⟨b, off, e, hl, hb, hc⟩ := h hp
  exact ⟨b, off, e, hl, hb, Nat.lt_of_lt_of_le hb hn.sz, fun i hi j u hu => (Below.cell hn (p := ⟨b, _, none⟩) hb).trans (hc i _ (List.getElem?_eq_getElem hi) j u hu)⟩
theorem flat_get (hk : ∀ x, (enc x).length = K) (i : Nat) (x : α) (hx : xs[i]? = some x) (j : Nat) (u : Value) (hu : (enc x)[j]? = some u) : (xs.flatMap enc)[i * K + j]? = some u := by
  induction xs generalizing i with
  | nil => simp at hx
  | cons y ys ih =>
    rw [List.flatMap_cons]
    rcases i with _ | i
    · simp at hx; subst hx
      rw [List.getElem?_append_left (by have := (List.getElem?_eq_some_iff.1 hu).1; omega)]
      simpa using hu
    · have hx' : ys[i]? = some x := by simpa using hx
      rw [List.getElem?_append_right (by rw [hk, Nat.add_mul]; omega), hk]
      have e : (i + 1) * K + j - K = i * K + j := by rw [Nat.add_mul]; omega
      rw [e]
      exact ih i hx'
theorem flat_len (hk : ∀ x, (enc x).length = K) : (xs.flatMap enc).length = xs.length * K := by
  induction xs with
  | nil => simp
  | cons y ys ih => rw [List.flatMap_cons, List.length_append, ih, hk, List.length_cons, Nat.add_mul]; omega
/-- A row of the call's own, read. -/
theorem Rd.of_own {base : Nat} {e : TypeId} {v : Value} {n : Nat} (hk : ∀ x, (enc x).length = K) (hn : n = xs.length) (h : w.ownsRow base e K v n (xs.flatMap enc)) :
    ∃ A c, v = .slice A xs.length c ∧ Rd w base A K enc xs ∧ (∀ a, A = some a → ∃ g, a = ⟨g, 0, none⟩ ∧ base ≤ g ∧ g < w.heap.size) := by
  subst hn
  rcases h.2 with ⟨rfl, h0⟩ | ⟨g, cap, cur, rfl, hg, hh, hr⟩
  · have hx : xs = [] := List.eq_nil_of_length_eq_zero h0
    subst hx
    exact ⟨none, 0, rfl, Rd.nil, by simp⟩
  · have hlt := (h.lt g rfl)
    refine ⟨some ⟨g, 0, none⟩, cap, rfl, fun _ => ⟨g, 0, rfl, hlt.1, hlt.2, fun i x hx j u hu => ?_⟩, fun a ha => ⟨g, by injection ha with ha; exact ha.symm, hlt.1, hlt.2⟩⟩
    have hil : i < xs.length := (List.getElem?_eq_some_iff.1 hx).1
    have hjl : j < K := by have := (List.getElem?_eq_some_iff.1 hu).1; rw [hk] at this; exact this
    have h2 := h.cellAt (i * K + j) (by
      have : (i + 1) * K ≤ xs.length * K := Nat.mul_le_mul_right K hil
      rw [Nat.add_mul] at this; omega)
    rw [Nat.zero_add, h2]
    exact flat_get hk i x hx j u hu
end

theorem heap_set {w : World} {s i : Nat} {cs : Array Value} {t : TypeId} {u : Value} (h : w.heap[s]? = some (.cells cs t (0, 0))) : (w.setCell ⟨s, i, none⟩ u).heap[s]? = some (.cells (cs.setIfInBounds i u) t (0, 0)) := by
  simp [World.setCell, Array.getElem?_modify, h]
theorem cell_set {w : World} {s i b o : Nat} {u : Value} (h : b ≠ s) : (w.setCell ⟨s, i, none⟩ u).cell? ⟨b, o, none⟩ = w.cell? ⟨b, o, none⟩ :=
  World.cell?_setCell_other _ _ _ _ (by intro e; injection e with e1 e2; omega)

theorem flipc {P : Program} {f : FuncId} {args : Array Value} {w : World} {v : Value} (h : Calls P f args w (fun e w' => e = .returned v ∧ w = w')) : Calls P f args w (fun e w'' => e = .returned v ∧ w'' = w) :=
  h.mono fun _ _ ⟨a, b⟩ => ⟨a, b.symm⟩
/-- A literal row. -/
theorem Rd.lit {α : Type} {w : World} {lo g K : Nat} {enc : α → List Value} {xs : List α} {cs : Array Value} {t : TypeId} (hg : w.heap[g]? = some (.cells cs t (0, 0))) (hlo : lo ≤ g) (hk : ∀ x, (enc x).length = K) (hcs : cs.toList = xs.flatMap enc) :
    Rd w lo (some ⟨g, 0, none⟩) K enc xs := fun _ => by
  have hlt : g < w.heap.size := by
    rcases Nat.lt_or_ge g w.heap.size with hlt | hge
    · exact hlt
    · rw [Array.getElem?_eq_none hge] at hg; cases hg
  refine ⟨g, 0, rfl, hlo, hlt, fun i x hx j u hu => ?_⟩
  rw [Nat.zero_add, cell_of_row w g _ cs t _ hg, ← Array.getElem?_toList, hcs]
  exact flat_get hk i x hx j u hu

theorem hnew {w : World} {o : Obj} {g : Nat} (hg : g = w.heap.size) : (w.alloc o).heap[g]? = some o := by subst hg; exact heap_alloc_new w o
theorem hnew_drew {w : World} {o : Obj} {g : Nat} (hg : g = w.heap.size) : (w.alloc o).drew.heap[g]? = some o := hnew hg
/-- t is a slice type over e, whose values take K cells and so many bytes. -/
structure ElemOf (P : Program) (t e : TypeId) (K bytes : Nat) : Prop where
  ht : P.underlying t = some (.slice e)
  hi : ∃ i z, P.info? e = some i ∧ i.zero = some z ∧ i.size = K ∧ i.bytes = bytes ∧ z.cells.size = K
theorem ElemOf.mk' {P : Program} {t e : TypeId} {K bytes : Nat} {z : Value} (ht : P.underlying t = some (.slice e)) (h : (P.info? e).map (fun i => (i.zero, i.size, i.bytes)) = some (some z, K, bytes)) (hz : z.cells.size = K) : ElemOf P t e K bytes := by
  obtain ⟨i, h1, h2, h3, h4⟩ := info_parts h
  exact ⟨ht, i, z, h1, h2, h3, h4, hz⟩
theorem news_of {w : World} {g : Nat} {cs : Array Value} {e : TypeId} (h : w.heap[g]? = some (.cells cs e (0, 0))) {l : List Value} (hl : cs.toList = l) : ∀ j u, l[j]? = some u → w.cell? ((⟨g, 0, none⟩ : Addr).add j) = some u := by
  intro j u hu
  have e1 : (⟨g, 0, none⟩ : Addr).add j = ⟨g, j, none⟩ := by unfold Addr.add; split <;> simp_all
  rw [e1, cell_of_row w g j cs e _ h, ← Array.getElem?_toList, hl]
  exact hu
/-- 'out = append(out, y)' on a row of the call's own. -/
theorem wpApp {α : Type} {P : Program} {w : World} {ops : Array Oper} {rest : List Oper} {o : Oper} {a : Act} {Q : Exit → Act → World → Prop} (hgd : o.guard = none) (s x : Operand) (t : TypeId)
    (ho : o.op = .call { callee := .builtin .append, args := #[s, x], argTypes := #[t, t] })
    {e : TypeId} {K bytes : Nat} (E : ElemOf P t e K bytes) (enc : α → List Value) (hk : ∀ x, (enc x).length = K) (h1c : ∀ x, ∀ v ∈ enc x, v.oneCell' = true) (hK : 0 < K) (hB : bytes ≤ 1000)
    (base : Nat) (v : Value) (L : List α) (hs : a.eval s = v) (hown : w.ownsRow base e K v L.length (L.flatMap enc)) (g : Nat) (y : α) (cs : Array Value) (hx : a.eval x = .slice (some ⟨g, 0, none⟩) 1 1)
    (hblk : w.heap[g]? = some (.cells cs e (0, 0))) (hcs : cs.toList = enc y) (hlen : L.length ≤ 10000000) (hbase : base ≤ w.heap.size)
    (h : ∀ v' w', w'.ownsRow base e K v' (L ++ [y]).length ((L ++ [y]).flatMap enc) → w.grownBy w' v.ownBlock → wpList P ops Q rest (a.put o.dst v') w') : wpList P ops Q (o :: rest) a w := by
  obtain ⟨i, z, h1, h2, h3, h4, h5⟩ := E.hi
  refine wpList_append_own w hgd s x t ho base e i z K bytes E.ht h1 h2 h3 h4 h5 hK v L.length _ hs hown ⟨g, 0, none⟩ 1 1 (enc y) hx (by rw [hk]; omega) (news_of hblk hcs) (h1c y) (by unfold maxLen; omega) ?_ hbase ?_
  · have : (L.length + 1) * bytes ≤ 10000001 * 1000 := Nat.mul_le_mul (by omega) hB
    omega
  · intro v' w' ho' hg' _
    exact h v' w' (by simpa using ho') hg'
theorem own_blk_lt {w : World} {base : Nat} {e : TypeId} {size : Nat} {v : Value} {n : Nat} {xs : List Value} (h : w.ownsRow base e size v n xs) : ∀ k, v.ownBlock = some k → base ≤ k := fun k hk => (h.lt k hk).1
theorem own_nx {w w' : World} {base : Nat} {e : TypeId} {size : Nat} {v : Value} {n : Nat} {xs : List Value} (h : w.ownsRow base e size v n xs) (hn : Nx w w') : w'.ownsRow base e size v n xs :=
  h.kept (hn.gr none) (by cases hv : v.ownBlock <;> simp)
theorem own_gr {w w' : World} {s base : Nat} {e : TypeId} {size : Nat} {v : Value} {n : Nat} {xs : List Value} (h : w.ownsRow base e size v n xs) (hn : w.grownBy w' (some s)) (hs : s < base) : w'.ownsRow base e size v n xs :=
  h.kept hn (.inr fun e => by have := own_blk_lt h s e; omega)

theorem flat_set {α : Type} {enc : α → List Value} {K : Nat} (hk : ∀ x, (enc x).length = K) : ∀ (xs : List α) (i : Nat) (hi : i < xs.length) (x' : α) (j : Nat) (_ : j < K) (u : Value), enc x' = (enc xs[i]).set j u → (xs.flatMap enc).set (i * K + j) u = (xs.set i x').flatMap enc
  | y :: ys, 0, hi, x', j, hj, u, h => by
    rw [List.set_cons_zero, List.flatMap_cons, List.flatMap_cons, Nat.zero_mul, Nat.zero_add, List.set_append_left _ _ (by rw [hk]; exact hj), h]; rfl
  | y :: ys, i + 1, hi, x', j, hj, u, h => by
    rw [List.set_cons_succ, List.flatMap_cons, List.flatMap_cons, List.set_append_right _ _ (by rw [hk, Nat.add_mul]; omega), hk, show (i + 1) * K + j - K = i * K + j by rw [Nat.add_mul]; omega]
    rw [flat_set hk ys i (by simpa using hi) x' j hj u (by simpa using h)]
/-- A field of a row's element is stored. -/
theorem own_set {α : Type} {enc : α → List Value} {K : Nat} (hk : ∀ x, (enc x).length = K) {w : World} {base g cap n : Nat} {e : TypeId} {xs : List α} (hn : xs.length = n) (h : w.ownsRow base e K (.slice (some ⟨g, 0, none⟩) n cap) n (xs.flatMap enc))
    (i : Nat) (hi : i < xs.length) (j : Nat) (hj : j < K) (u : Value) (x' : α) (hx : enc x' = (enc xs[i]).set j u) (off : Nat) (ho : off = i * K + j) :
    (w.setCell ⟨g, off, none⟩ u).ownsRow base e K (.slice (some ⟨g, 0, none⟩) n cap) n ((xs.set i x').flatMap enc) := by
  subst ho hn
  rw [← flat_set hk xs i hi x' j hj u hx]
  exact (h.stored (i * K + j) u).1
/-- A field of a row's element, read. -/
theorem own_cell {α : Type} {enc : α → List Value} {K : Nat} (hk : ∀ x, (enc x).length = K) {w : World} {base g cap n : Nat} {e : TypeId} {xs : List α} (hn : xs.length = n) (h : w.ownsRow base e K (.slice (some ⟨g, 0, none⟩) n cap) n (xs.flatMap enc))
    (i : Nat) (hi : i < xs.length) (j : Nat) (u : Value) (hu : (enc xs[i])[j]? = some u) : w.cell? ⟨g, i * K + j, none⟩ = some u := by
  subst hn
  have hj : j < K := by have := (List.getElem?_eq_some_iff.1 hu).1; rw [hk] at this; exact this
  rw [h.cellAt (i * K + j) (by
      have : (i + 1) * K ≤ xs.length * K := Nat.mul_le_mul_right K hi
      rw [Nat.add_mul] at this; omega)]
  exact flat_get hk i _ (List.getElem?_eq_getElem hi) j u hu
end Go.Proofs.YtepbamacebjopaaGreatDoor
/- The walks of the smallest functions of numbers: those that all packages use. -/
namespace Go.Proofs.YtepbamacebjopaaGreatDoor
open Go.RowKit

theorem ret_bool {a b : Bool} (h : a = b) : Ending.returned (.bool a) = .returned (.bool b) := by rw [h]
theorem ret_int {k : IntKind} {a b : Int} (h : a = b) : Ending.returned (.int k a) = .returned (.int k b) := by rw [h]

theorem w_Out (n l h : Int) (w : World) : Calls Tryz.prog 72 #[.int .i64 n, .int .i64 l, .int .i64 h] w fun e w' => e = .returned (.bool (outB n l h)) ∧ w = w' := by
  by_cases h1 : n < l <;> by_cases h2 : h < n
  all_goals
    go_enter Tryz.func72, Tryz.ntmps72
    go_wp2
    go_ret
    exact ⟨ret_bool (by unfold outB; simp; omega), rfl⟩

theorem w_in (n l h : Int) (w : World) : Calls Tryz.prog 48 #[.int .i64 n, .int .i64 l, .int .i64 h] w fun e w' => e = .returned (.bool (inB n l h)) ∧ w = w' := by
  by_cases h1 : l ≤ n <;> by_cases h2 : n ≤ h
  all_goals
    go_enter Tryz.func48, Tryz.ntmps48
    go_wp2
    go_ret
    exact ⟨ret_bool (by unfold inB; simp; omega), rfl⟩

end Go.Proofs.YtepbamacebjopaaGreatDoor
/- Products are compared: the program's CompareProducts. -/
namespace Go.Proofs.YtepbamacebjopaaGreatDoor
open Go.RowKit Go.Proofs Go.Shelf

def cmpNN (x y : Nat) : Int := if x < y then -1 else if x = y then 0 else 1
theorem w_Mul64A (x y : Nat) (w : World) (hx : x ≤ 9223372036854775807) (hy : y ≤ 9223372036854775807) :
    Calls Tryz.prog 79 #[.int .u64 (x : Int), .int .u64 (y : Int)] w fun e w' => e = .returned (.tuple #[.int .u64 ((x * y / 18446744073709551616 : Nat) : Int), .int .u64 ((x * y % 18446744073709551616 : Nat) : Int)]) ∧ w = w' := by
  have hcon := Any.bits_Mul64 Tryz.mul64 x y (by omega) (by omega) w
  change Calls Tryz.prog 79 _ _ _ at hcon
  refine hcon.mono ?_
  rintro e w' ⟨rfl, rfl⟩
  exact ⟨rfl, rfl⟩
set_option maxRecDepth 100000 in
set_option maxHeartbeats 4000000 in
theorem w_CompareProducts (a b c d : Nat) (w : World) (ha : a ≤ 9223372036854775807) (hb : b ≤ 9223372036854775807) (hc : c ≤ 9223372036854775807) (hd : d ≤ 9223372036854775807) :
    Calls Tryz.prog 36 #[.int .i64 (a : Int), .int .i64 (b : Int), .int .i64 (c : Int), .int .i64 (d : Int)] w fun e w' => e = .returned (.int .i64 (cmpNN (a * b) (c * d))) ∧ w = w' := by
  have M1 := hide (fun w => w_Mul64A a b w ha hb)
  have M2 := hide (fun w => w_Mul64A c d w hc hd)
  have z1 := Nat.div_add_mod (a * b) 18446744073709551616
  have z2 := Nat.div_add_mod (c * d) 18446744073709551616
  have y1 := Nat.mod_lt (a * b) (show 18446744073709551616 > 0 by omega)
  have y2 := Nat.mod_lt (c * d) (show 18446744073709551616 > 0 by omega)
  generalize a * b / 18446744073709551616 = h at *
  generalize a * b % 18446744073709551616 = l at *
  generalize c * d / 18446744073709551616 = i at *
  generalize c * d % 18446744073709551616 = m at *
  generalize a * b = P at *
  generalize c * d = Q at *
  have k1 : IntKind.u64.wrap (a : Int) = (a : Int) := by rw [IntKind.wrap_u64]; omega
  have k2 : IntKind.u64.wrap (b : Int) = (b : Int) := by rw [IntKind.wrap_u64]; omega
  have k3 : IntKind.u64.wrap (c : Int) = (c : Int) := by rw [IntKind.wrap_u64]; omega
  have k4 : IntKind.u64.wrap (d : Int) = (d : Int) := by rw [IntKind.wrap_u64]; omega
  have hcase : (h < i ∧ cmpNN P Q = -1) ∨ (h = i ∧ l < m ∧ cmpNN P Q = -1) ∨ (h = i ∧ l = m ∧ cmpNN P Q = 0) ∨ (h = i ∧ m < l ∧ cmpNN P Q = 1) ∨ (i < h ∧ cmpNN P Q = 1) := by
    unfold cmpNN
    rcases Nat.lt_trichotomy h i with e | e | e
    · left; exact ⟨e, if_pos (by omega)⟩
    · right
      rcases Nat.lt_trichotomy l m with e2 | e2 | e2
      · left; exact ⟨e, e2, if_pos (by omega)⟩
      · right; left; exact ⟨e, e2, by rw [if_neg (by omega), if_pos (by omega)]⟩
      · right; right; left; exact ⟨e, e2, by rw [if_neg (by omega), if_neg (by omega)]⟩
    · right; right; right; right; exact ⟨e, by rw [if_neg (by omega), if_neg (by omega)]⟩
  clear z1 z2 y1 y2 ha hb hc hd
  generalize cmpNN P Q = R at *
  have HCASE := hide hcase
  clear hcase
  go_enter Tryz.func36, Tryz.ntmps36
  go_wp2_with fail
  refine (M1.out _).mono ?_
  rintro e w1 ⟨rfl, rfl⟩
  clear k1 k2
  go_wp2_with fail
  refine (M2.out _).mono ?_
  rintro e w1 ⟨rfl, rfl⟩
  clear k3 k4 M1 M2
  go_wp2_with fail
  all_goals
    go_ret
    refine ⟨?_, rfl⟩
    have hc := HCASE.out
    try simp only [beq_iff_eq, beq_eq_false_iff_ne, bne_iff_ne, bne_eq_false_iff_eq, ne_eq] at *
    first
      | (exfalso; omega)
      | (obtain rfl : R = -1 := by omega
         rfl)
      | (obtain rfl : R = 0 := by omega
         rfl)
      | (obtain rfl : R = 1 := by omega
         rfl)
end Go.Proofs.YtepbamacebjopaaGreatDoor
/- strings.Compare. -/
namespace Go.Proofs.YtepbamacebjopaaGreatDoor
open Go.RowKit Go.Shelf Go.Proofs

theorem w_CompareS (a b : ByteArray) (w : World) : Calls Tryz.prog 77 #[.string a, .string b] w fun e w' => e = .returned (.int .i64 (cmpS a b)) ∧ w = w' :=
  (Any.strings_Compare Tryz.compareStr a b w).mono fun _ _ ⟨h1, h2⟩ => ⟨h1, h2.symm⟩
end Go.Proofs.YtepbamacebjopaaGreatDoor
