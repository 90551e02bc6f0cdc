/- Plain functions: what the smallest functions of numbers compute. -/
import Derived.Lib.SlTrimSet
import Derived.Lib.Bytealg
import Derived.Laws.Cover1
import Derived.Sort.LotA
import Derived.Shelf.SlSortCmp.Insertion
import Derived.Lib.SlicesCompact
import Derived.Lib.Strings
namespace Go.Proofs.YtncnmadiiaidfaaGreatDoor

def outB (n l h : Int) : Bool := decide (n < l) || decide (h < n)
def inB (n l h : Int) : Bool := decide (l ≤ n) && decide (n ≤ h)
theorem inB_out (n l h : Int) : inB n l h = !outB n l h := by
  unfold inB outB
  by_cases h1 : n < l <;> by_cases h2 : h < n <;> simp [h1, h2] <;> (try omega)
theorem outB_false {n l h : Int} : outB n l h = false ↔ l ≤ n ∧ n ≤ h := by unfold outB; simp
theorem outB_true {n l h : Int} : outB n l h = true ↔ n < l ∨ h < n := by unfold outB; simp

/-- The last moment. -/
def lastMo : Int := 345686399999
def momB (n : Int) : Bool := !outB n 0 lastMo
def isPtB (x y : Int) : Bool := !outB x (-10000) 10000 && !outB y (-10000) 10000
theorem isPtB_true {x y : Int} : isPtB x y = true ↔ (-10000 ≤ x ∧ x ≤ 10000) ∧ (-10000 ≤ y ∧ y ≤ 10000) := by unfold isPtB; simp [outB_false]
def argF (b : Bool) : Int := if b then 0 else 1
def ptF (x y : Int) : Int := argF (isPtB x y)
/-- The first that is not 0. -/
def orI : List Int → Int
  | [] => 0
  | z :: zs => if z = 0 then orI zs else z

/-- cmp.Compare. -/
def cmpI (a b : Int) : Int := if a < b then -1 else if b < a then 1 else 0

theorem tdiv_bd (a b : Int) (hb : 1 ≤ b) : -(if a < 0 then -a else a) ≤ a.tdiv b ∧ a.tdiv b ≤ (if a < 0 then -a else a) := by
  rcases Int.le_total 0 a with h | h
  · rw [Int.tdiv_eq_ediv_of_nonneg h]
    have h1 := Int.ediv_nonneg h (show 0 ≤ b by omega)
    have h2 := Int.ediv_le_self b h
    split <;> omega
  · have e : a.tdiv b = -((-a) / b) := by
      rw [← Int.tdiv_eq_ediv_of_nonneg (by omega), Int.neg_tdiv]; omega
    have h1 := Int.ediv_nonneg (a := -a) (by omega) (show 0 ≤ b by omega)
    have h2 := Int.ediv_le_self b (show 0 ≤ -a by omega)
    rw [e]
    split <;> omega
theorem floor_pos (a b : Int) (hb : 1 ≤ b) (h : ¬ a.tmod b < 0) : a.tdiv b = a / b := by
  have h1 := Int.mul_tdiv_add_tmod a b
  have h2 := Int.tmod_lt_of_pos a (show 0 < b by omega)
  exact ((Int.ediv_emod_unique (a := a) (b := b) (r := a.tmod b) (q := a.tdiv b) (by omega)).2 ⟨by omega, by omega, h2⟩).1.symm
theorem floor_neg (a b : Int) (hb : 1 ≤ b) (h : a.tmod b < 0) : a.tdiv b - 1 = a / b := by
  have h1 := Int.mul_tdiv_add_tmod a b
  have h2 := Int.lt_tmod_of_pos a (b := b) (by omega)
  exact ((Int.ediv_emod_unique (a := a) (b := b) (r := a.tmod b + b) (q := a.tdiv b - 1) (by omega)).2 ⟨by rw [Int.mul_sub]; omega, by omega, by omega⟩).1.symm

/-- What stands ahead of place k. -/
def prevOf {α : Type} (l : List α) (k : Nat) : Option α := if k = 0 then none else l[k - 1]?
/-- A check over a list: the first fault; each element is held against the one ahead of it. -/
def chk {α : Type} (f : Option α → α → Int) : Option α → List α → Int
  | _, [] => 0
  | p, c :: cs => if f p c = 0 then chk f (some c) cs else f p c
theorem chk_drop {α : Type} (f : Option α → α → Int) (l : List α) (k : Nat) (hk : k < l.length) :
    chk f (prevOf l k) (l.drop k) = if f (prevOf l k) l[k] = 0 then chk f (prevOf l (k + 1)) (l.drop (k + 1)) else f (prevOf l k) l[k] := by
  rw [List.drop_eq_getElem_cons hk, chk]
  have e : prevOf l (k + 1) = some l[k] := by unfold prevOf; simp [List.getElem?_eq_getElem hk]
  rw [e]
theorem prevOf_zero {α : Type} (l : List α) : prevOf l 0 = none := rfl
theorem prevOf_pos {α : Type} (l : List α) (k : Nat) (h : 0 < k) (hk : k ≤ l.length) : prevOf l k = some (l[k - 1]'(by omega)) := by
  unfold prevOf; rw [if_neg (by omega), List.getElem?_eq_getElem]

theorem cmpI_neg {a b : Int} : cmpI a b < 0 ↔ a < b := by unfold cmpI; split <;> (try split) <;> omega
theorem cmpI_zero {a b : Int} : cmpI a b = 0 ↔ a = b := by unfold cmpI; split <;> (try split) <;> omega
end Go.Proofs.YtncnmadiiaidfaaGreatDoor
/- Plain: what a key is, by the program's loop and by the reference's trim. -/
namespace Go.Proofs.YtncnmadiiaidfaaGreatDoor
def lowC (c : UInt8) : Bool := decide (97 ≤ c.toNat) && decide (c.toNat ≤ 122)
def digC (c : UInt8) : Bool := decide (48 ≤ c.toNat) && decide (c.toNat ≤ 57)
def keyC (c : UInt8) : Bool := lowC c || digC c || c == 45 || c == 95
/-- A key. -/
def keyL : List UInt8 → Bool
  | [] => false
  | c :: l => decide ((c :: l).length ≤ 40) && lowC c && (c :: l).all keyC
def keyB (s : ByteArray) : Bool := keyL s.data.toList
def smallL : List UInt8 := [97, 98, 99, 100, 101, 102, 103, 104, 105, 106, 107, 108, 109, 110, 111, 112, 113, 114, 115, 116, 117, 118, 119, 120, 121, 122]
def csetL : List UInt8 := smallL ++ [48, 49, 50, 51, 52, 53, 54, 55, 56, 57, 45, 95]
theorem all_u8 {p : UInt8 → Bool} (h : ∀ n : Fin 256, p (UInt8.ofNat n.val) = true) (c : UInt8) : p c = true := by
  have := h ⟨c.toNat, c.toNat_lt⟩
  simpa using this
theorem cset_key (c : UInt8) : csetL.contains c = keyC c := by
  have := all_u8 (p := fun c => csetL.contains c == keyC c) (by decide +kernel) c
  simpa using this
theorem small_low (c : UInt8) : decide (0 ≤ Go.Lib.indexByte smallL c) = lowC c := by
  have := all_u8 (p := fun c => decide (0 ≤ Go.Lib.indexByte smallL c) == lowC c) (by decide +kernel) c
  simpa using this
theorem drop_nil {p : UInt8 → Bool} : ∀ {l : List UInt8}, l.dropWhile p = [] ↔ l.all p = true
  | [] => by simp
  | c :: l => by
    by_cases h : p c = true
    · rw [List.dropWhile_cons_of_pos h, drop_nil]; simp [h]
    · rw [List.dropWhile_cons_of_neg h]; simp [h]
theorem drop_all {p : UInt8 → Bool} : ∀ {l : List UInt8}, (l.dropWhile p).all p = true → l.all p = true
  | [], h => h
  | c :: l, h => by
    by_cases hc : p c = true
    · rw [List.dropWhile_cons_of_pos hc] at h; simp [hc]; simpa using drop_all h
    · rw [List.dropWhile_cons_of_neg hc] at h; exact h
theorem all_drop {p : UInt8 → Bool} {l : List UInt8} (h : l.all p = true) : (l.dropWhile p).all p = true := by
  rw [drop_nil.2 h]; rfl
theorem trim_nil (l cs : List UInt8) : Go.Lib.trimS l cs = [] ↔ l.all (cs.contains ·) = true := by
  unfold Go.Lib.trimS Go.Lib.trimLeftS Go.Lib.trimRightS
  rw [drop_nil]
  simp only [List.all_reverse]
  constructor
  · intro h; have := drop_all h; simpa using this
  · intro h; exact all_drop (by simpa using h)
theorem trim_key (l : List UInt8) : (Go.Lib.trimS l csetL).isEmpty = l.all keyC := by
  have h := trim_nil l csetL
  have e : (fun c => csetL.contains c) = keyC := by funext c; exact cset_key c
  rw [e] at h
  cases h1 : l.all keyC
  · cases h2 : Go.Lib.trimS l csetL
    · rw [h.1 h2] at h1; cases h1
    · rfl
  · rw [h.2 h1]; rfl
end Go.Proofs.YtncnmadiiaidfaaGreatDoor
/- Plain functions: what is left is given out one by one; sorting in place. -/
namespace Go.Proofs.YtncnmadiiaidfaaGreatDoor
/-- i gets one of what is left ahead of j. -/
def beats (rs : List Int) (i j : Nat) : Prop := rs.getD j 0 < rs.getD i 0 ∨ (rs.getD i 0 = rs.getD j 0 ∧ i < j)
theorem beats_asymm {rs : List Int} {i j : Nat} (h : beats rs i j) (k : beats rs j i) : False := by unfold beats at h k; omega
structure UpSet (rs : List Int) (T : List Nat) : Prop where
  nd : T.Nodup
  lt : ∀ i ∈ T, i < rs.length
  up : ∀ i ∈ T, ∀ j, j < rs.length → j ∉ T → beats rs i j
theorem nodup_len : ∀ {l m : List Nat}, l.Nodup → (∀ x ∈ l, x ∈ m) → l.length ≤ m.length
  | [], _, _, _ => by simp
  | x :: l, m, hn, hs => by
    have h1 := List.nodup_cons.1 hn
    have h2 : l.length ≤ (m.erase x).length := nodup_len h1.2 (fun y hy => by
      have hne : y ≠ x := fun e => h1.1 (e ▸ hy)
      exact (List.mem_erase_of_ne hne).2 (hs y (List.mem_cons_of_mem _ hy)))
    have h3 := List.length_erase_of_mem (hs x (by simp))
    have h4 : 0 < m.length := List.length_pos_of_mem (hs x (by simp))
    simp only [List.length_cons]
    omega
theorem UpSet.sub {rs : List Int} {S T : List Nat} (hS : UpSet rs S) (hT : UpSet rs T) (hl : S.length = T.length) : ∀ i ∈ S, i ∈ T := by
  intro a ha
  refine Classical.byContradiction fun hna => ?_
  have hb : ∃ b ∈ T, b ∉ S := by
    refine Classical.byContradiction fun hno => ?_
    have hsub : ∀ x ∈ T, x ∈ S.erase a := fun x hx => by
      have hxS : x ∈ S := Classical.byContradiction fun h => hno ⟨x, hx, h⟩
      have hne : x ≠ a := fun e => hna (e ▸ hx)
      exact (List.mem_erase_of_ne hne).2 hxS
    have h1 := nodup_len hT.nd hsub
    have h2 := List.length_erase_of_mem ha
    have h3 : 0 < S.length := List.length_pos_of_mem ha
    omega
  obtain ⟨b, hb, hbS⟩ := hb
  exact beats_asymm (hS.up a ha b (hT.lt b hb) hbS) (hT.up b hb a (hS.lt a ha) hna)
theorem UpSet.same {rs : List Int} {S T : List Nat} (hS : UpSet rs S) (hT : UpSet rs T) (hl : S.length = T.length) (i : Nat) : i ∈ S ↔ i ∈ T :=
  ⟨hS.sub hT hl i, hT.sub hS hl.symm i⟩
/-- One more for those in T. -/
def bump (qs : List Int) (T : List Nat) : List Int := qs.mapIdx (fun i q => if i ∈ T then q + 1 else q)
theorem bump_len (qs : List Int) (T : List Nat) : (bump qs T).length = qs.length := by simp [bump]
theorem bump_nil (qs : List Int) : bump qs [] = qs := by
  apply List.ext_getElem
  · simp [bump]
  · intro i h1 h2; simp [bump]
theorem bump_get (qs : List Int) (T : List Nat) (i : Nat) (h : i < (bump qs T).length) : (bump qs T)[i] = if i ∈ T then qs[i]'(by rw [bump_len] at h; exact h) + 1 else qs[i]'(by rw [bump_len] at h; exact h) := by simp [bump]
theorem bump_same {qs : List Int} {S T : List Nat} (h : ∀ i, i ∈ S ↔ i ∈ T) : bump qs S = bump qs T := by
  unfold bump; congr 1; funext i q; simp [h i]
theorem bump_snoc (qs : List Int) (T : List Nat) (b : Nat) (hb : b ∉ T) (hl' : b < (bump qs T).length) : (bump qs T).set b ((bump qs T)[b] + 1) = bump qs (T ++ [b]) := by
  apply List.ext_getElem
  · simp [bump]
  · intro i h1 h2
    simp only [List.getElem_set, bump_get]
    by_cases e : b = i
    · subst e; simp [hb]
    · simp [e]
      by_cases h : i ∈ T
      · simp [h]
      · have : ¬ i = b := fun h => e h.symm
        simp [h, this]
/-- What is given out: rounded down, and what is left one by one to those ahead. -/
def Dealt (qs rs : List Int) (left : Nat) (zs : List Int) : Prop := ∃ T, UpSet rs T ∧ T.length = left ∧ zs = bump qs T
theorem Dealt.unique {qs rs : List Int} {left : Nat} {zs zs' : List Int} (h : Dealt qs rs left zs) (h' : Dealt qs rs left zs') : zs = zs' := by
  obtain ⟨S, hS, hl, rfl⟩ := h
  obtain ⟨T, hT, hl', rfl⟩ := h'
  exact bump_same (hS.same hT (hl.trans hl'.symm))
/-- What the reference still looks at. -/
def cur (rs : List Int) (T : List Nat) : List Int := rs.mapIdx (fun i r => if i ∈ T then -1 else r)
theorem UpSet.nil (rs : List Int) : UpSet rs [] := ⟨List.nodup_nil, by simp, by simp⟩
/-- The first ones of all, in order. -/
theorem UpSet.take {rs : List Int} {l : List Nat} (hp : l.Perm (List.range rs.length)) (hs : l.Pairwise (beats rs)) (k : Nat) : UpSet rs (l.take k) := by
  have hnd : l.Nodup := hp.nodup_iff.2 List.nodup_range
  refine ⟨?_, ?_, ?_⟩
  · exact List.Nodup.sublist (List.take_sublist k l) hnd
  · intro i hi
    exact List.mem_range.1 (hp.mem_iff.1 (List.mem_of_mem_take hi))
  · intro i hi j hj hjT
    have hjl : j ∈ l := hp.mem_iff.2 (List.mem_range.2 hj)
    have hjd : j ∈ l.drop k := by
      rw [← List.take_append_drop k l] at hjl
      exact (List.mem_append.1 hjl).resolve_left hjT
    rw [← List.take_append_drop k l] at hs
    exact (List.pairwise_append.1 hs).2.2 i hi j hjd
/-- Numbers with what is left of each, sorted: those ahead. -/
theorem sorted_up {rs : List Int} {ys : List (Nat × Int)} (hp : ys.Perm ((List.range rs.length).map (fun i => (i, rs.getD i 0)))) (hs : ys.Pairwise (fun a b => b.2 < a.2 ∨ (a.2 = b.2 ∧ a.1 < b.1))) (k : Nat) : UpSet rs ((ys.map (·.1)).take k) := by
  have hv : ∀ a ∈ ys, a.2 = rs.getD a.1 0 := fun a ha => by
    obtain ⟨i, _, rfl⟩ := List.mem_map.1 (hp.mem_iff.1 ha)
    rfl
  refine UpSet.take ?_ ?_ k
  · have := hp.map (·.1)
    rw [List.map_map] at this
    have e : ((fun x : Nat × Int => x.1) ∘ fun i => (i, rs.getD i 0)) = id := rfl
    rw [e, List.map_id] at this
    exact this
  · rw [List.pairwise_map]
    refine List.Pairwise.imp_of_mem (fun ha hb h => ?_) hs
    unfold beats
    rw [← hv _ ha, ← hv _ hb]
    exact h
end Go.Proofs.YtncnmadiiaidfaaGreatDoor
/- Plain: a fair division: what all get is what all cost. -/
namespace Go.Proofs.YtncnmadiiaidfaaGreatDoor
def bitN (g i : Nat) : Nat := g / 2 ^ i % 2
def szN : Nat → Nat → Nat
  | 0, _ => 0
  | n + 1, g => szN n g + bitN g n
def factN : Nat → Nat
  | 0 => 1
  | n + 1 => factN n * (n + 1)
def wN (n g : Nat) : Nat := factN (szN n g) * factN (n - 1 - szN n g)
def term (n : Nat) (cs : List Int) (g i : Nat) : Int := if bitN g i = 0 then ((wN n g : Nat) : Int) * (cs.getD (g + 2 ^ i) 0 - cs.getD g 0) else 0
def numTo (n : Nat) (cs : List Int) : Nat → Nat → Int
  | 0, _ => 0
  | g + 1, i => numTo n cs g i + term n cs g i
end Go.Proofs.YtncnmadiiaidfaaGreatDoor
namespace Go.Proofs.YtncnmadiiaidfaaGreatDoor
end Go.Proofs.YtncnmadiiaidfaaGreatDoor
/- Plain: a whole given out by parts. -/
namespace Go.Proofs.YtncnmadiiaidfaaGreatDoor

def sumL : List Int → Int
  | [] => 0
  | x :: l => x + sumL l
theorem sumL_app (a b : List Int) : sumL (a ++ b) = sumL a + sumL b := by
  induction a with
  | nil => simp [sumL]
  | cons x a ih => simp only [List.cons_append, sumL, ih]; omega
theorem sumL_snoc (a : List Int) (x : Int) : sumL (a ++ [x]) = sumL a + x := by rw [sumL_app]; simp [sumL]
theorem sumL_take (l : List Int) (k : Nat) (hk : k < l.length) : sumL (l.take (k + 1)) = sumL (l.take k) + l[k] := by
  rw [List.take_succ_eq_append_getElem hk, sumL_snoc]
theorem sumL_mul (c : Int) (l : List Int) : sumL (l.map (fun p => c * p)) = c * sumL l := by
  induction l with
  | nil => simp [sumL]
  | cons x l ih => simp only [List.map_cons, sumL, ih, Int.mul_add]
theorem sumL_bd (l : List Int) (lo hi : Int) (h : ∀ x ∈ l, lo ≤ x ∧ x ≤ hi) : l.length * lo ≤ sumL l ∧ sumL l ≤ l.length * hi := by
  induction l with
  | nil => simp [sumL]
  | cons x l ih =>
    have h1 := ih (fun y hy => h y (List.mem_cons_of_mem _ hy))
    have h2 := h x (by simp)
    simp only [sumL, List.length_cons]
    have e1 : ((l.length + 1 : Nat) : Int) * lo = l.length * lo + lo := by rw [Int.natCast_succ, Int.add_mul]; omega
    have e2 : ((l.length + 1 : Nat) : Int) * hi = l.length * hi + hi := by rw [Int.natCast_succ, Int.add_mul]; omega
    omega
theorem sumL_split (F : Int) (nums : List Int) : sumL nums = F * sumL (nums.map (· / F)) + sumL (nums.map (· % F)) := by
  induction nums with
  | nil => simp [sumL]
  | cons x l ih =>
    simp only [List.map_cons, sumL, Int.mul_add]
    have := Int.mul_ediv_add_emod x F
    omega
def qsN (nums : List Int) (F : Int) : List Int := nums.map (· / F)
def rsN (nums : List Int) (F : Int) : List Int := nums.map (· % F)
def leftN (all : Int) (nums : List Int) (F : Int) : Int := all - sumL (qsN nums F)
theorem qsN_len (nums : List Int) (F : Int) : (qsN nums F).length = nums.length := by simp [qsN]
theorem rsN_len (nums : List Int) (F : Int) : (rsN nums F).length = nums.length := by simp [rsN]
theorem leftN_bd {nums : List Int} {F c : Int} (hF : 0 < F) (hs : sumL nums = F * c) : 0 ≤ leftN c nums F ∧ leftN c nums F ≤ nums.length := by
  have h1 := sumL_split F nums
  have h2 := sumL_bd (nums.map (· % F)) 0 F (fun x hx => by
    obtain ⟨y, _, rfl⟩ := List.mem_map.1 hx
    exact ⟨Int.emod_nonneg _ (by omega), Int.le_of_lt (Int.emod_lt_of_pos _ hF)⟩)
  unfold leftN qsN
  rw [List.length_map] at h2
  generalize sumL (nums.map (· / F)) = q at *
  generalize sumL (nums.map (· % F)) = r at *
  have h3 : F * (c - q) = r := by rw [Int.mul_sub]; omega
  constructor
  · refine Int.le_of_mul_le_mul_left (a := F) ?_ hF
    omega
  · refine Int.le_of_mul_le_mul_left (a := F) ?_ hF
    rw [h3, Int.mul_comm F]; exact h2.2
/-- A whole 'all' given out by numbers of which all together are F times it. -/
def Handed (all : Int) (nums : List Int) (F : Int) (zs : List Int) : Prop := Dealt (qsN nums F) (rsN nums F) (leftN all nums F).toNat zs
theorem Handed.unique {all : Int} {nums : List Int} {F : Int} {zs zs' : List Int} (h : Handed all nums F zs) (h' : Handed all nums F zs') : zs = zs' := Dealt.unique h h'
theorem Handed.len {all : Int} {nums : List Int} {F : Int} {zs : List Int} (h : Handed all nums F zs) : zs.length = nums.length := by
  obtain ⟨T, _, _, rfl⟩ := h
  rw [bump_len, qsN_len]
def numsD (cents : Int) (parts : List Int) : List Int := parts.map (fun p => cents * p)
theorem numsD_sum (cents : Int) (parts : List Int) : sumL (numsD cents parts) = sumL parts * cents := by
  unfold numsD; rw [sumL_mul, Int.mul_comm]
/-- Cents given out by parts. -/
def Divided (cents : Int) (parts : List Int) (zs : List Int) : Prop := Handed cents (numsD cents parts) (sumL parts) zs
theorem divided_433 {zs : List Int} (h : Divided 10 [1, 1, 1] zs) : zs = [4, 3, 3] := by
  refine Handed.unique h ?_
  refine ⟨[0], ⟨by simp, by decide, ?_⟩, by decide, by decide⟩
  intro i hi j hj hjT
  simp at hi; subst hi
  have e : rsN (numsD 10 [1, 1, 1]) (sumL [1, 1, 1]) = [1, 1, 1] := by decide
  rw [e] at hj ⊢
  have : j = 1 ∨ j = 2 := by simp at hj hjT; omega
  rcases this with rfl | rfl <;> exact .inr ⟨rfl, by omega⟩
def numsF (n : Nat) (cs : List Int) (g : Nat) : List Int := (List.range n).map (numTo n cs g)
end Go.Proofs.YtncnmadiiaidfaaGreatDoor
/- Plain functions: what is wrong with keys, parts, costs, dues, steps; gains, refunds. -/
namespace Go.Proofs.YtncnmadiiaidfaaGreatDoor

def maxCt : Int := 1000000000
def strLe (a b : ByteArray) : Bool := Op.bytesLess a.toList b.toList || a.toList == b.toList
/-- A key that stands behind another one. -/
def strF (p : Option ByteArray) (s : ByteArray) : Int := if keyB s then (match p with | some q => if strLe s q then 7 else 0 | none => 0) else 5
def centB (n : Int) : Bool := outB n 0 maxCt
def partsF (cents : Int) (parts : List Int) : Int :=
  if centB cents then 1 else if 1000 < parts.length then 2 else if parts.any centB then 1 else if sumL parts = 0 then 8 else 0
structure Due where
  key : ByteArray
  cents : Int
instance : Inhabited Due := ⟨⟨default, 0⟩⟩
def encDue (d : Due) : List Value := [.string d.key, .int .i64 d.cents]
def encS (s : ByteArray) : List Value := [.string s]
/-- A whole shared fairly. -/
def FairR (rides : List ByteArray) (costs : List Int) (ds : List Due) : Prop :=
  ∃ zs, Handed (costs.getD (2 ^ rides.length - 1) 0) (numsF rides.length costs (2 ^ rides.length)) (factN rides.length : Nat) zs ∧ ds = List.zipWith Due.mk rides zs
theorem FairR.unique {rides : List ByteArray} {costs : List Int} {ds ds' : List Due} (h : FairR rides costs ds) (h' : FairR rides costs ds') : ds = ds' := by
  obtain ⟨zs, h1, rfl⟩ := h
  obtain ⟨zs', h2, rfl⟩ := h'
  rw [h1.unique h2]
structure Frac where
  num : Int
  den : Int
instance : Inhabited Frac := ⟨⟨0, 0⟩⟩
end Go.Proofs.YtncnmadiiaidfaaGreatDoor
/- Plain: the order of strings by their bytes. -/
namespace Go.Proofs.YtncnmadiiaidfaaGreatDoor
open Go.Proofs

theorem cmpB_zero : ∀ a b : List UInt8, Lib.compareBytes a b = 0 ↔ a = b
  | [], [] => by simp [Lib.compareBytes]
  | [], _ :: _ => by simp [Lib.compareBytes]
  | _ :: _, [] => by simp [Lib.compareBytes]
  | a :: x, b :: y => by
    unfold Lib.compareBytes
    by_cases h1 : a < b
    · have : a ≠ b := fun e => by subst e; exact UInt8.lt_irrefl a h1
      simp [h1, this]
    · by_cases h2 : b < a
      · have : a ≠ b := fun e => by subst e; exact UInt8.lt_irrefl a h2
        simp [h1, h2, this]
      · have e : a = b := UInt8.le_antisymm (UInt8.not_lt.1 h2) (UInt8.not_lt.1 h1)
        subst e
        simp [h1, cmpB_zero x y]
theorem cmpB_neg : ∀ a b : List UInt8, Lib.compareBytes a b < 0 ↔ a < b
  | [], [] => by simp [Lib.compareBytes]
  | [], _ :: _ => by simp [Lib.compareBytes]
  | _ :: _, [] => by simp [Lib.compareBytes]
  | a :: x, b :: y => by
    unfold Lib.compareBytes
    rw [List.cons_lt_cons_iff]
    by_cases h1 : a < b
    · simp [h1]
    · by_cases h2 : b < a
      · have : a ≠ b := fun e => by subst e; exact UInt8.lt_irrefl a h2
        simp [h1, h2, this]
      · have e : a = b := UInt8.le_antisymm (UInt8.not_lt.1 h2) (UInt8.not_lt.1 h1)
        subst e
        simp [h1, cmpB_neg x y]
def cmpS (a b : ByteArray) : Int := Lib.compareBytes a.data.toList b.data.toList
def ltS (a b : ByteArray) : Prop := a.data.toList < b.data.toList
theorem data_inj {a b : ByteArray} (h : a.data.toList = b.data.toList) : a = b := by
  obtain ⟨⟨a⟩⟩ := a
  obtain ⟨⟨b⟩⟩ := b
  simp at h
  rw [h]
theorem cmpS_zero {a b : ByteArray} : cmpS a b = 0 ↔ a = b := by
  unfold cmpS
  rw [cmpB_zero]
  exact ⟨data_inj, fun h => by rw [h]⟩
theorem cmpS_neg {a b : ByteArray} : cmpS a b < 0 ↔ ltS a b := cmpB_neg _ _
theorem ltS_trans {a b c : ByteArray} (h : ltS a b) (h' : ltS b c) : ltS a c := List.lt_trans h h'
theorem ltS_irrefl (a : ByteArray) : ¬ ltS a a := List.lt_irrefl _
theorem ltS_tri (a b : ByteArray) (h : ¬ ltS a b) (h' : ¬ ltS b a) : a = b := data_inj (List.le_antisymm (List.not_lt.1 h') (List.not_lt.1 h))
end Go.Proofs.YtncnmadiiaidfaaGreatDoor
/- Plain: sums by key; the list of them that is sorted by key; legs split by keys. -/
namespace Go.Proofs.YtncnmadiiaidfaaGreatDoor
open Go.Sort Go.Proofs Go.Shelf

def dueC (a b : Due) : Int := cmpS a.key b.key
theorem due_lt {a b : Due} : ltOf dueC a b = true ↔ ltS a.key b.key := by
  unfold ltOf dueC
  rw [decide_eq_true_eq, cmpS_neg]
theorem due_nlt {a b : Due} : ltOf dueC a b = false ↔ ¬ ltS a.key b.key := by
  rw [← due_lt]; simp
theorem swoDue : SWO (ltOf dueC) where
  irrefl x := due_nlt.2 (ltS_irrefl _)
  trans x y z h1 h2 := due_lt.2 (ltS_trans (due_lt.1 h1) (due_lt.1 h2))
  ntrans x y z h1 h2 := due_nlt.2 (fun h => by
    have h1 := due_nlt.1 h1
    have h2 := due_nlt.1 h2
    unfold ltS at *
    rw [List.not_lt] at h1 h2
    exact absurd h (List.not_lt.2 (List.le_trans h2 h1)))

/-- ys: the sums by key that are there and are not shut out by 'zero', sorted by key. -/
def DuesOf (f : ByteArray → Option Int) (zero : Bool) (ys : List Due) : Prop :=
  ys.Pairwise (fun a b => ltS a.key b.key) ∧ ∀ d : Due, d ∈ ys ↔ f d.key = some d.cents ∧ (d.cents ≠ 0 ∨ zero = true)
theorem sorted_eq : ∀ {xs ys : List Due}, xs.Pairwise (fun a b => ltS a.key b.key) → ys.Pairwise (fun a b => ltS a.key b.key) → (∀ d, d ∈ xs ↔ d ∈ ys) → xs = ys
  | [], [], _, _, _ => rfl
  | [], y :: ys, _, _, h => by have := (h y).2 (by simp); cases this
  | x :: xs, [], _, _, h => by have := (h x).1 (by simp); cases this
  | x :: xs, y :: ys, h1, h2, h => by
    rw [List.pairwise_cons] at h1 h2
    have e : x = y := by
      rcases List.mem_cons.1 ((h x).1 (by simp)) with e | hx
      · exact e
      · rcases List.mem_cons.1 ((h y).2 (by simp)) with e | hy
        · exact e.symm
        · exact absurd (ltS_trans (h1.1 y hy) (h2.1 x hx)) (ltS_irrefl _)
    subst e
    congr 1
    refine sorted_eq h1.2 h2.2 fun d => ?_
    have hd := h d
    simp only [List.mem_cons] at hd
    constructor
    · intro hx
      rcases hd.1 (.inr hx) with e | h3
      · subst e; exact absurd (h1.1 d hx) (ltS_irrefl _)
      · exact h3
    · intro hy
      rcases hd.2 (.inr hy) with e | h3
      · subst e; exact absurd (h2.1 d hy) (ltS_irrefl _)
      · exact h3
theorem DuesOf.unique {f : ByteArray → Option Int} {zero : Bool} {xs ys : List Due} (h : DuesOf f zero xs) (h' : DuesOf f zero ys) : xs = ys :=
  sorted_eq h.1 h'.1 fun d => (h.2 d).trans (h'.2 d).symm

/-- v more at key k. -/
def addK (f : ByteArray → Option Int) (k : ByteArray) (v : Int) : ByteArray → Option Int := fun k' => if k' = k then some ((f k).getD 0 + v) else f k'
theorem addK_at (f : ByteArray → Option Int) (k : ByteArray) (v : Int) : addK f k v k = some ((f k).getD 0 + v) := by simp [addK]
/-- Nothing is below 0, nor above B. -/
def BndK (f : ByteArray → Option Int) (B : Int) : Prop := ∀ k, 0 ≤ (f k).getD 0 ∧ (f k).getD 0 ≤ B
theorem BndK.add {f : ByteArray → Option Int} {B v V : Int} (h : BndK f B) (k : ByteArray) (h0 : 0 ≤ v) (h1 : v ≤ V) : BndK (addK f k v) (B + V) := by
  intro k'
  unfold addK
  have h2 := h k
  by_cases e : k' = k
  · subst e; simp; omega
  · have := h k'
    simp [e]; omega
end Go.Proofs.YtncnmadiiaidfaaGreatDoor
/- Plain: zones, what is wrong with them; the zone of a node; the zones to which nodes come. -/
namespace Go.Proofs.YtncnmadiiaidfaaGreatDoor

structure Zone where
  key : ByteArray
  a : Option Addr
  cap : Nat
  nodes : List ByteArray
instance : Inhabited Zone := ⟨⟨default, none, 0, []⟩⟩
def encZone (z : Zone) : List Value := [.string z.key, .slice z.a z.nodes.length z.cap]
def memB (l : List ByteArray) (s : ByteArray) : Bool := l.any (fun x => decide (x = s))
theorem memB_iff {l : List ByteArray} {s : ByteArray} : memB l s = true ↔ s ∈ l := by
  unfold memB
  rw [List.any_eq_true]
  constructor
  · rintro ⟨x, hx, h⟩
    rw [decide_eq_true_eq] at h; subst h; exact hx
  · intro h
    exact ⟨s, h, by simp⟩
/-- A node: its name, its order, whether it was seen. -/
def nodeE (seen : List ByteArray) (p : Option ByteArray) (s : ByteArray) : Int := if strF p s = 0 then (if memB seen s = true then 6 else 0) else strF p s
def chkN : List ByteArray → Option ByteArray → List ByteArray → Int
  | _, _, [] => 0
  | seen, p, s :: l => if nodeE seen p s = 0 then chkN (seen ++ [s]) (some s) l else nodeE seen p s
def zoneE (p : Option ByteArray) (z : Zone) : Int := if strF p z.key = 0 then (if 500 < z.nodes.length then 2 else 0) else strF p z.key
def chkZ : List ByteArray → Option ByteArray → List Zone → Int
  | _, _, [] => 0
  | seen, p, z :: l => if zoneE p z = 0 then (if chkN seen none z.nodes = 0 then chkZ (seen ++ z.nodes) (some z.key) l else chkN seen none z.nodes) else zoneE p z
def zonesF (zs : List Zone) : Int := if 100 < zs.length then 2 else chkZ [] none zs
def zoneO : List Zone → ByteArray → ByteArray
  | [], _ => ByteArray.empty
  | z :: l, s => if memB z.nodes s = true then z.key else zoneO l s
def namesF (l : List ByteArray) (most : Nat) : Int := if most < l.length then 2 else if l.all keyB then 0 else 5
theorem strLe_lt {s q : ByteArray} (h : strLe s q = false) : ltS q s := by
  unfold strLe at h
  rw [Bool.or_eq_false_iff, Proofs.bytesLess_eq, Lib.toList_data, Lib.toList_data] at h
  unfold ltS
  have h1 : ¬ s.data.toList < q.data.toList := by simpa using h.1
  have h2 : s.data.toList ≠ q.data.toList := by simpa using h.2
  have h3 : q.data.toList ≤ s.data.toList := List.not_lt.1 h1
  refine Classical.byContradiction fun hc => h2 (List.le_antisymm (List.not_lt.1 hc) h3)
theorem strF_lt {q s : ByteArray} (h : strF (some q) s = 0) : ltS q s := by
  unfold strF at h
  cases hk : keyB s with
  | false => simp [hk] at h
  | true =>
    rw [hk, if_pos rfl] at h
    cases hl : strLe s q with
    | false => exact strLe_lt hl
    | true => simp [hl] at h
theorem chkN_sorted : ∀ (seen : List ByteArray) (p : Option ByteArray) (l : List ByteArray), chkN seen p l = 0 → l.Pairwise ltS ∧ ∀ q, p = some q → ∀ s ∈ l, ltS q s
  | _, _, [], _ => by simp
  | seen, p, s :: l, h => by
    unfold chkN at h
    split at h
    · rename_i he
      obtain ⟨h1, h2⟩ := chkN_sorted _ _ l h
      have hp : strF p s = 0 := by
        unfold nodeE at he
        split at he
        · assumption
        · assumption
      have h3 : ∀ q, p = some q → ltS q s := fun q e => by subst e; exact strF_lt hp
      refine ⟨List.pairwise_cons.2 ⟨fun y hy => h2 s rfl y hy, h1⟩, fun q e y hy => ?_⟩
      rcases List.mem_cons.1 hy with rfl | hy
      · exact h3 q e
      · exact ltS_trans (h3 q e) (h2 s rfl y hy)
    · rename_i he
      exact absurd h he
theorem chkZ_sorted : ∀ (seen : List ByteArray) (p : Option ByteArray) (l : List Zone), chkZ seen p l = 0 → ∀ z ∈ l, z.nodes.Pairwise ltS
  | _, _, [], _ => by simp
  | seen, p, z :: l, h => by
    unfold chkZ at h
    split at h
    · split at h
      · rename_i hn
        have ih := chkZ_sorted _ _ l h
        intro y hy
        rcases List.mem_cons.1 hy with rfl | hy
        · exact (chkN_sorted _ _ _ hn).1
        · exact ih y hy
      · rename_i hn; exact absurd h hn
    · rename_i hn; exact absurd h hn
theorem zonesF_sorted {zs : List Zone} (h : zonesF zs = 0) : ∀ z ∈ zs, z.nodes.Pairwise ltS := by
  unfold zonesF at h
  split at h
  · exact absurd h (by decide)
  · exact chkZ_sorted _ _ _ h
theorem chkN_drop (seen : List ByteArray) (l : List ByteArray) (k : Nat) (hk : k < l.length) : chkN (seen ++ l.take k) (prevOf l k) (l.drop k) = if nodeE (seen ++ l.take k) (prevOf l k) l[k] = 0 then chkN (seen ++ l.take (k + 1)) (prevOf l (k + 1)) (l.drop (k + 1)) else nodeE (seen ++ l.take k) (prevOf l k) l[k] := by
  rw [List.drop_eq_getElem_cons hk]
  have e1 : prevOf l (k + 1) = some l[k] := prevOf_pos l (k + 1) (by omega) (by omega)
  rw [e1, List.take_succ_eq_append_getElem hk, ← List.append_assoc]
  rfl

/-- The nodes of the first k zones. -/
def seenZ (zs : List Zone) (k : Nat) : List ByteArray := (zs.take k).flatMap Zone.nodes
theorem seenZ_succ (zs : List Zone) (k : Nat) (hk : k < zs.length) : seenZ zs (k + 1) = seenZ zs k ++ zs[k].nodes := by
  unfold seenZ
  rw [List.take_succ_eq_append_getElem hk, List.flatMap_append]; simp
def prevZ (zs : List Zone) (k : Nat) : Option ByteArray := prevOf (zs.map Zone.key) k
theorem chkZ_drop (zs : List Zone) (k : Nat) (hk : k < zs.length) : chkZ (seenZ zs k) (prevZ zs k) (zs.drop k) = if zoneE (prevZ zs k) zs[k] = 0 then (if chkN (seenZ zs k) none zs[k].nodes = 0 then chkZ (seenZ zs (k + 1)) (prevZ zs (k + 1)) (zs.drop (k + 1)) else chkN (seenZ zs k) none zs[k].nodes) else zoneE (prevZ zs k) zs[k] := by
  rw [List.drop_eq_getElem_cons hk]
  have e1 : prevZ zs (k + 1) = some zs[k].key := by
    unfold prevZ
    rw [prevOf_pos _ (k + 1) (by omega) (by rw [List.length_map]; omega)]
    simp
  rw [e1, seenZ_succ zs k hk]
  rfl
theorem zoneO_drop (zs : List Zone) (s : ByteArray) (k : Nat) (hk : k < zs.length) : zoneO (zs.drop k) s = if memB zs[k].nodes s = true then zs[k].key else zoneO (zs.drop (k + 1)) s := by
  rw [List.drop_eq_getElem_cons hk]; rfl

/-- The zones of some nodes, those that have one. -/
def filtO (zs : List Zone) (l : List ByteArray) : List ByteArray := (l.map (zoneO zs)).filter (fun z => !decide (z = ByteArray.empty))
theorem filtO_take (zs : List Zone) (l : List ByteArray) (k : Nat) (hk : k < l.length) : filtO zs (l.take (k + 1)) = if zoneO zs l[k] = ByteArray.empty then filtO zs (l.take k) else filtO zs (l.take k) ++ [zoneO zs l[k]] := by
  unfold filtO
  rw [List.take_succ_eq_append_getElem hk, List.map_append, List.filter_append]
  by_cases h : zoneO zs l[k] = ByteArray.empty
  · rw [if_pos h]; simp [h]
  · rw [if_neg h]; simp [h]

section
variable {α β : Type} [Inhabited α] [DecidableEq α] [Inhabited β] [DecidableEq β]
theorem compact_snoc (zs : List α) (x : α) : Lib.compact (zs ++ [x]) = Lib.compact zs ++ (if zs ≠ [] ∧ zs.getLast? = some x then [] else [x]) := by
  unfold Lib.compact
  rw [show (zs ++ [x]).length = zs.length + 1 by simp, Lib.compactUpTo_succ]
  have e0 : ∀ j, j < zs.length → (zs ++ [x]).toArray[j]! = zs.toArray[j]! := fun j hj => by
    rw [getElem!_pos _ j (by simp; omega), getElem!_pos _ j (by simpa using hj)]
    simp [List.getElem_append_left hj]
  have e1 : Lib.compactUpTo (zs ++ [x]).toArray zs.length = Lib.compactUpTo zs.toArray zs.length := by
    unfold Lib.compactUpTo
    have e2 : (List.range zs.length).filter (Lib.keeps (zs ++ [x]).toArray) = (List.range zs.length).filter (Lib.keeps zs.toArray) := by
      apply List.filter_congr
      intro j hj
      rw [List.mem_range] at hj
      unfold Lib.keeps
      rw [e0 j hj, e0 (j - 1) (by omega)]
    rw [e2]
    apply List.map_congr_left
    intro j hj
    exact e0 j (List.mem_range.1 (List.mem_filter.1 hj).1)
  rw [e1]
  congr 1
  have e3 : (zs ++ [x]).toArray[zs.length]! = x := by
    rw [getElem!_pos _ _ (by simp)]; simp
  rw [e3]
  rcases List.eq_nil_or_concat zs with rfl | ⟨ys, y, rfl⟩
  · simp [Lib.keeps]
  · have e4 : (ys.concat y ++ [x]).toArray[(ys.concat y).length - 1]! = y := by
      rw [e0 _ (by simp), getElem!_pos _ _ (by simp)]; simp
    unfold Lib.keeps
    rw [e3, e4]
    by_cases h : x = y
    · subst h; simp
    · have : ¬ y = x := fun e => h e.symm
      simp [h, this]
theorem compact_last (zs : List α) : (Lib.compact zs).getLast? = zs.getLast? := by
  rcases List.eq_nil_or_concat zs with rfl | ⟨ys, y, rfl⟩
  · rfl
  · rw [List.concat_eq_append, compact_snoc]
    split
    · rename_i h
      rw [List.append_nil, compact_last ys, List.getLast?_append]; simp [h.2]
    · simp
termination_by zs.length
end
/-- The zones to which nodes come. -/
def crossO (zs : List Zone) (l : List ByteArray) : List ByteArray := Lib.compact (filtO zs l)
theorem crossO_take (zs : List Zone) (l : List ByteArray) (k : Nat) (hk : k < l.length) : crossO zs (l.take (k + 1)) = if zoneO zs l[k] = ByteArray.empty ∨ (crossO zs (l.take k) ≠ [] ∧ (crossO zs (l.take k)).getLast? = some (zoneO zs l[k])) then crossO zs (l.take k) else crossO zs (l.take k) ++ [zoneO zs l[k]] := by
  unfold crossO
  rw [filtO_take zs l k hk]
  by_cases h : zoneO zs l[k] = ByteArray.empty
  · rw [if_pos h, if_pos (.inl h)]
  · rw [if_neg h, compact_snoc, compact_last]
    have e : Lib.compact (filtO zs (l.take k)) = [] ↔ filtO zs (l.take k) = [] := by
      constructor
      · intro hc
        have := compact_last (filtO zs (l.take k))
        rw [hc] at this
        exact List.getLast?_eq_none_iff.1 this.symm
      · intro hc; rw [hc]; rfl
    by_cases h2 : filtO zs (l.take k) ≠ [] ∧ (filtO zs (l.take k)).getLast? = some (zoneO zs l[k])
    · rw [if_pos h2, if_pos (.inr ⟨fun hc => h2.1 (e.1 hc), h2.2⟩), List.append_nil]
    · rw [if_neg h2, if_neg (fun hc => by
        rcases hc with hc | hc
        · exact h hc
        · exact h2 ⟨fun hd => hc.1 (e.2 hd), hc.2⟩)]
end Go.Proofs.YtncnmadiiaidfaaGreatDoor
/- Plain: prices and trips, what is wrong with them; what a trip costs. -/
namespace Go.Proofs.YtncnmadiiaidfaaGreatDoor

structure Price where
  key : ByteArray
  base : Int
  metre : Int
  minute : Int
  cross : Int
  from_ : Int
  to_ : Int
  peak : Int
  least : Int
  most : Int
instance : Inhabited Price := ⟨⟨default, 0, 0, 0, 0, 0, 0, 0, 0, 0⟩⟩
def encP (p : Price) : List Value := [.string p.key, .int .i64 p.base, .int .i64 p.metre, .int .i64 p.minute, .int .i64 p.cross, .int .i64 p.from_, .int .i64 p.to_, .int .i64 p.peak, .int .i64 p.least, .int .i64 p.most]
def sixP (p : Price) : List Int := [p.base, p.metre, p.minute, p.cross, p.least, p.most]
def hourP (p : Price) : Bool := outB p.from_ 0 p.to_ || decide (24 < p.to_) || outB p.peak 0 1000 || decide (p.most < p.least)
def priceE (q : Option Price) (p : Price) : Int :=
  if strF (q.map Price.key) p.key = 0 then (if (sixP p).any centB then 1 else if hourP p then 1 else 0) else strF (q.map Price.key) p.key
def pricesF (ps : List Price) : Int := if 50 < ps.length then 2 else chk priceE none ps

structure Jour where
  ride : ByteArray
  rider : ByteArray
  a : Option Addr
  cap : Nat
  nodes : List ByteArray
  metres : Int
  from_ : Int
  to_ : Int
instance : Inhabited Jour := ⟨⟨default, default, none, 0, [], 0, 0, 0⟩⟩
def encJ (t : Jour) : List Value := [.string t.ride, .string t.rider, .slice t.a t.nodes.length t.cap, .int .i64 t.metres, .int .i64 t.from_, .int .i64 t.to_]
def timeJ (t : Jour) : Bool := outB t.metres 0 100000000 || outB t.from_ 0 t.to_ || decide (345686399999 < t.to_)
def afterJ (q : Option Jour) (t : Jour) : Bool := match q with | some q => strLe t.ride q.ride | none => false
/-- A trip behind another one. -/
def jourE (q : Option Jour) (t : Jour) : Int :=
  if keyB t.ride && keyB t.rider then
    (if afterJ q t then 7 else
      if t.nodes.length = 0 then 8 else if namesF t.nodes 2000 = 0 then (if timeJ t then 1 else 0) else namesF t.nodes 2000)
  else 5
def joursF (ts : List Jour) : Int := if 1000 < ts.length then 2 else chk jourE none ts

/-- How many parts are begun. -/
def begI (n part : Int) : Int := (n + (part - 1)) / part
theorem begI_bd {n part B : Int} (hp : 0 < part) (h0 : 0 ≤ n) (h1 : n ≤ B * part) : 0 ≤ begI n part ∧ begI n part ≤ B := by
  unfold begI
  constructor
  · exact Int.ediv_nonneg (by omega) (by omega)
  · have h2 : n + (part - 1) < (B + 1) * part := by rw [Int.add_mul]; omega
    have := Int.ediv_lt_of_lt_mul hp h2
    omega
/-- What a trip costs ahead of the hour and the bounds; many: the zones it crosses. -/
def costN (p : Price) (t : Jour) (many : Int) : Int := p.base + p.metre * begI t.metres 100 + p.minute * begI (t.to_ - t.from_) 60000 + p.cross * max 0 (many - 1)
def hourJ (t : Jour) : Int := t.from_ % 86400000 / 3600000
def costH (p : Price) (t : Jour) (n : Int) : Int := if p.from_ ≤ hourJ t ∧ hourJ t < p.to_ then begI (n * p.peak) 100 else n
def fullI (zs : List Zone) (p : Price) (t : Jour) : Int := min (max (costH p t (costN p t (crossO zs t.nodes).length)) p.least) p.most
end Go.Proofs.YtncnmadiiaidfaaGreatDoor
/- Plain: bounds of what a trip costs; the cheapest price. -/
namespace Go.Proofs.YtncnmadiiaidfaaGreatDoor

structure PriceOk (p : Price) : Prop where
  key : keyB p.key = true
  base : 0 ≤ p.base ∧ p.base ≤ 1000000000
  metre : 0 ≤ p.metre ∧ p.metre ≤ 1000000000
  minute : 0 ≤ p.minute ∧ p.minute ≤ 1000000000
  cross : 0 ≤ p.cross ∧ p.cross ≤ 1000000000
  least : 0 ≤ p.least ∧ p.least ≤ 1000000000
  most : 0 ≤ p.most ∧ p.most ≤ 1000000000
  hour : 0 ≤ p.from_ ∧ p.from_ ≤ p.to_ ∧ p.to_ ≤ 24
  peak : 0 ≤ p.peak ∧ p.peak ≤ 1000
  lm : p.least ≤ p.most
structure JourOk (t : Jour) : Prop where
  len : 0 < t.nodes.length ∧ t.nodes.length ≤ 2000
  metres : 0 ≤ t.metres ∧ t.metres ≤ 100000000
  time : 0 ≤ t.from_ ∧ t.from_ ≤ t.to_ ∧ t.to_ ≤ 345686399999
theorem strF_key {q : Option ByteArray} {s : ByteArray} (h : strF q s = 0) : keyB s = true := by
  unfold strF at h
  cases hk : keyB s with
  | true => rfl
  | false => simp [hk] at h
theorem outB_no {n lo hi : Int} (h : outB n lo hi = false) : lo ≤ n ∧ n ≤ hi := by
  unfold outB at h; simp at h; omega
theorem priceE_ok {q : Option Price} {p : Price} (h : priceE q p = 0) : PriceOk p := by
  unfold priceE at h
  by_cases h0 : strF (q.map Price.key) p.key = 0
  · rw [if_pos h0] at h
    cases h1 : (sixP p).any centB with
    | true => simp [h1] at h
    | false =>
      rw [h1] at h
      cases h2 : hourP p with
      | true => simp [h2] at h
      | false =>
        have hc : ∀ x ∈ sixP p, 0 ≤ x ∧ x ≤ 1000000000 := fun x hx => by
          have : centB x = false := by
            cases hb : centB x with
            | false => rfl
            | true => rw [List.any_eq_true.2 ⟨x, hx, hb⟩] at h1; cases h1
          exact outB_no this
        unfold hourP at h2
        simp only [Bool.or_eq_false_iff, decide_eq_false_iff_not] at h2
        have e1 := outB_no h2.1.1.1
        have e2 := outB_no h2.1.2
        exact ⟨strF_key h0, hc _ (by simp [sixP]), hc _ (by simp [sixP]), hc _ (by simp [sixP]), hc _ (by simp [sixP]), hc _ (by simp [sixP]), hc _ (by simp [sixP]), ⟨e1.1, e1.2, by omega⟩, e2, by omega⟩
  · rw [if_neg h0] at h; exact absurd h h0
theorem chk_allq {α : Type} {f : Option α → α → Int} : ∀ {p : Option α} {l : List α}, chk f p l = 0 → ∀ x ∈ l, ∃ q, f q x = 0
  | _, [], _, x, hx => by cases hx
  | p, y :: l, h, x, hx => by
    unfold chk at h
    by_cases hy : f p y = 0
    · rw [if_pos hy] at h
      rcases List.mem_cons.1 hx with rfl | hx
      · exact ⟨p, hy⟩
      · exact chk_allq h x hx
    · rw [if_neg hy] at h; exact absurd h hy
theorem pricesF_ok {ps : List Price} (h : pricesF ps = 0) : ∀ p ∈ ps, PriceOk p := fun p hp => by
  unfold pricesF at h
  split at h
  · exact absurd h (by decide)
  · obtain ⟨q, hq⟩ := chk_allq h p hp
    exact priceE_ok hq
theorem jourE_ok {q : Option Jour} {t : Jour} (h : jourE q t = 0) : JourOk t := by
  unfold jourE at h
  cases hk : (keyB t.ride && keyB t.rider) with
  | false => simp [hk] at h
  | true =>
    rw [hk, if_pos rfl] at h
    cases ha : afterJ q t with
    | true => simp [ha] at h
    | false =>
      simp only [ha, Bool.false_eq_true, if_false] at h
      by_cases h0 : t.nodes.length = 0
      · rw [if_pos h0] at h; exact absurd h (by decide)
      rw [if_neg h0] at h
      by_cases hn : namesF t.nodes 2000 = 0
      · rw [if_pos hn] at h
        cases ht : timeJ t with
        | true => simp [ht] at h
        | false =>
          unfold timeJ at ht
          simp only [Bool.or_eq_false_iff, decide_eq_false_iff_not] at ht
          have e1 := outB_no ht.1.1
          have e2 := outB_no ht.1.2
          have hl : t.nodes.length ≤ 2000 := by
            unfold namesF at hn
            split at hn
            · exact absurd hn (by decide)
            · omega
          exact ⟨⟨by omega, hl⟩, e1, ⟨e2.1, e2.2, by omega⟩⟩
      · rw [if_neg hn] at h; exact absurd h hn
theorem joursF_ok {ts : List Jour} (h : joursF ts = 0) : ∀ t ∈ ts, JourOk t := fun t ht => by
  unfold joursF at h
  split at h
  · exact absurd h (by decide)
  · obtain ⟨q, hq⟩ := chk_allq h t ht
    exact jourE_ok hq
theorem mul_bd {a b A B : Int} (ha : 0 ≤ a ∧ a ≤ A) (hb : 0 ≤ b ∧ b ≤ B) : 0 ≤ a * b ∧ a * b ≤ A * B := by
  refine ⟨Int.mul_nonneg ha.1 hb.1, ?_⟩
  have h1 : a * b ≤ A * b := Int.mul_le_mul_of_nonneg_right ha.2 hb.1
  have h2 : A * b ≤ A * B := Int.mul_le_mul_of_nonneg_left hb.2 (by omega)
  omega
/-- The parts of a cost, with their bounds. -/
theorem cost_parts {p : Price} {t : Jour} (hp : PriceOk p) (ht : JourOk t) {m : Nat} (hm : m ≤ 2000) :
    (0 ≤ p.metre * begI t.metres 100 ∧ p.metre * begI t.metres 100 ≤ 1000000000000000) ∧ (0 ≤ p.minute * begI (t.to_ - t.from_) 60000 ∧ p.minute * begI (t.to_ - t.from_) 60000 ≤ 5761440000000000) ∧
      (0 ≤ p.cross * max 0 ((m : Int) - 1) ∧ p.cross * max 0 ((m : Int) - 1) ≤ 2000000000000) := by
  have h1 := ht.metres
  have h2 := ht.time
  have b1 := begI_bd (n := t.metres) (part := 100) (B := 1000000) (by omega) h1.1 (by omega)
  have b2 := begI_bd (n := t.to_ - t.from_) (part := 60000) (B := 5761440) (by omega) (by omega) (by omega)
  have e1 := mul_bd hp.metre b1
  have e2 := mul_bd hp.minute b2
  have e3 := mul_bd hp.cross (b := max 0 ((m : Int) - 1)) (B := 2000) ⟨by omega, by omega⟩
  exact ⟨⟨e1.1, by omega⟩, ⟨e2.1, by omega⟩, ⟨e3.1, by omega⟩⟩
theorem costN_bd {p : Price} {t : Jour} (hp : PriceOk p) (ht : JourOk t) {m : Nat} (hm : m ≤ 2000) : 0 ≤ costN p t m ∧ costN p t m ≤ 6763441000000000 := by
  obtain ⟨h1, h2, h3⟩ := cost_parts hp ht hm
  have hb := hp.base
  unfold costN
  generalize p.metre * begI t.metres 100 = x1 at *
  generalize p.minute * begI (t.to_ - t.from_) 60000 = x2 at *
  generalize p.cross * max 0 ((m : Int) - 1) = x3 at *
  omega
end Go.Proofs.YtncnmadiiaidfaaGreatDoor
/- Plain: what is wrong with one price, with one trip, case by case; the cheapest price so far. -/
namespace Go.Proofs.YtncnmadiiaidfaaGreatDoor

theorem strF_5 {q : Option ByteArray} {s : ByteArray} (h : keyB s = false) : strF q s = 5 := by unfold strF; rw [h]; rfl
theorem strF_7 {p s : ByteArray} (h : keyB s = true) (h2 : strLe s p = true) : strF (some p) s = 7 := by unfold strF; rw [h, if_pos rfl]; simp [h2]
theorem strF_0 {p s : ByteArray} (h : keyB s = true) (h2 : strLe s p = false) : strF (some p) s = 0 := by unfold strF; rw [h, if_pos rfl]; simp [h2]
theorem strF_n {s : ByteArray} (h : keyB s = true) : strF none s = 0 := by unfold strF; rw [h]; rfl
theorem priceE_no {q : Option Price} {p : Price} {V : Int} (h : strF (q.map Price.key) p.key = V) (hv : V ≠ 0) : priceE q p = V := by
  unfold priceE; rw [h, if_neg hv]
theorem priceE_any {q : Option Price} {p : Price} (h : strF (q.map Price.key) p.key = 0) (h2 : (sixP p).any centB = true) : priceE q p = 1 := by
  unfold priceE; rw [if_pos h, h2]; rfl
theorem priceE_hour {q : Option Price} {p : Price} (h : strF (q.map Price.key) p.key = 0) (h2 : (sixP p).any centB = false) (h3 : hourP p = true) : priceE q p = 1 := by
  unfold priceE; rw [if_pos h, h2, h3]; rfl
theorem priceE_zero {q : Option Price} {p : Price} (h : strF (q.map Price.key) p.key = 0) (h2 : (sixP p).any centB = false) (h3 : hourP p = false) : priceE q p = 0 := by
  unfold priceE; rw [if_pos h, h2, h3]; rfl
theorem jourE_key {q : Option Jour} {t : Jour} (h : (keyB t.ride && keyB t.rider) = false) : jourE q t = 5 := by unfold jourE; rw [h]; rfl
theorem jourE_after {q : Option Jour} {t : Jour} (h : (keyB t.ride && keyB t.rider) = true) (h2 : afterJ q t = true) : jourE q t = 7 := by unfold jourE; rw [h, h2]; rfl
theorem jourE_none {q : Option Jour} {t : Jour} (h : (keyB t.ride && keyB t.rider) = true) (h2 : afterJ q t = false) (h3 : t.nodes.length = 0) : jourE q t = 8 := by unfold jourE; rw [h, h2, if_pos h3]; rfl
theorem jourE_names {q : Option Jour} {t : Jour} {V : Int} (h : (keyB t.ride && keyB t.rider) = true) (h2 : afterJ q t = false) (h3 : t.nodes.length ≠ 0) (h4 : namesF t.nodes 2000 = V) (hv : V ≠ 0) : jourE q t = V := by
  unfold jourE; rw [h, h2, if_neg h3, h4, if_neg hv]; rfl
theorem jourE_time {q : Option Jour} {t : Jour} (h : (keyB t.ride && keyB t.rider) = true) (h2 : afterJ q t = false) (h3 : t.nodes.length ≠ 0) (h4 : namesF t.nodes 2000 = 0) (h5 : timeJ t = true) : jourE q t = 1 := by
  unfold jourE; rw [h, h2, if_neg h3, if_pos h4, h5]; rfl
theorem jourE_zero {q : Option Jour} {t : Jour} (h : (keyB t.ride && keyB t.rider) = true) (h2 : afterJ q t = false) (h3 : t.nodes.length ≠ 0) (h4 : namesF t.nodes 2000 = 0) (h5 : timeJ t = false) : jourE q t = 0 := by
  unfold jourE; rw [h, h2, if_neg h3, if_pos h4, h5]; rfl

end Go.Proofs.YtncnmadiiaidfaaGreatDoor
/- Plain: passes, what is wrong with them, for which trips they count; what trips cost. -/
namespace Go.Proofs.YtncnmadiiaidfaaGreatDoor

structure Pass where
  key : ByteArray
  rider : ByteArray
  from_ : Int
  to_ : Int
  a : Option Addr
  sc : Nat
  zones : List ByteArray
  pay : Int
  most : Int
instance : Inhabited Pass := ⟨⟨default, default, 0, 0, none, 0, [], 0, 0⟩⟩
def encX (p : Pass) : List Value := [.string p.key, .string p.rider, .int .i64 p.from_, .int .i64 p.to_, .slice p.a p.zones.length p.sc, .int .i64 p.pay, .int .i64 p.most]
def winB (f t : Int) : Bool := !outB f 0 t && decide (t ≤ 345686400000)
def winF (f t : Int) : Int := if winB f t then 0 else 1
def hasK (zs : List Zone) (s : ByteArray) : Bool := zs.any (fun z => decide (z.key = s))
def behB (q : Option ByteArray) (s : ByteArray) : Bool := match q with | some r => strLe s r | none => false
/-- A zone of a pass: it is there, it stands behind the one before. -/
def zoneK (zs : List Zone) (q : Option ByteArray) (s : ByteArray) : Int := if hasK zs s then (if behB q s then 7 else 0) else 8
def zonesK (zs : List Zone) (l : List ByteArray) : Int := chk (zoneK zs) none l
def afterX (q : Option Pass) (p : Pass) : Bool := match q with | some q => strLe p.key q.key | none => false
def payB (p : Pass) : Bool := outB p.pay 0 100 || outB p.most 0 maxCt
def passE (zs : List Zone) (q : Option Pass) (p : Pass) : Int :=
  if keyB p.key && keyB p.rider then
    (if afterX q p then 7 else
      if winB p.from_ p.to_ then (if zonesK zs p.zones = 0 then (if payB p then 1 else 0) else zonesK zs p.zones) else 1)
  else 5
def passesF (zs : List Zone) (ps : List Pass) : Int := if 300 < ps.length then 2 else chk (passE zs) none ps
def passF (zs : List Zone) (ps : List Pass) : Int := if zonesF zs = 0 then passesF zs ps else zonesF zs

theorem passE_key {zs : List Zone} {q : Option Pass} {p : Pass} (h : (keyB p.key && keyB p.rider) = false) : passE zs q p = 5 := by unfold passE; rw [h]; rfl
theorem passE_after {zs : List Zone} {q : Option Pass} {p : Pass} (h : (keyB p.key && keyB p.rider) = true) (h2 : afterX q p = true) : passE zs q p = 7 := by unfold passE; rw [h, h2]; rfl
theorem passE_win {zs : List Zone} {q : Option Pass} {p : Pass} (h : (keyB p.key && keyB p.rider) = true) (h2 : afterX q p = false) (h3 : winB p.from_ p.to_ = false) : passE zs q p = 1 := by unfold passE; rw [h, h2, h3]; rfl
theorem passE_zone {zs : List Zone} {q : Option Pass} {p : Pass} (h : (keyB p.key && keyB p.rider) = true) (h2 : afterX q p = false) (h3 : winB p.from_ p.to_ = true) (h4 : zonesK zs p.zones ≠ 0) : passE zs q p = zonesK zs p.zones := by unfold passE; rw [h, h2, h3]; simp [h4]
theorem passE_pay {zs : List Zone} {q : Option Pass} {p : Pass} (h : (keyB p.key && keyB p.rider) = true) (h2 : afterX q p = false) (h3 : winB p.from_ p.to_ = true) (h4 : zonesK zs p.zones = 0) (h5 : payB p = true) : passE zs q p = 1 := by unfold passE; rw [h, h2, h3, h5]; simp [h4]
theorem passE_zero {zs : List Zone} {q : Option Pass} {p : Pass} (h : (keyB p.key && keyB p.rider) = true) (h2 : afterX q p = false) (h3 : winB p.from_ p.to_ = true) (h4 : zonesK zs p.zones = 0) (h5 : payB p = false) : passE zs q p = 0 := by unfold passE; rw [h, h2, h3, h5]; simp [h4]
structure PassOk (p : Pass) : Prop where
  pay : 0 ≤ p.pay ∧ p.pay ≤ 100
  most : 0 ≤ p.most ∧ p.most ≤ 1000000000
theorem passE_ok {zs : List Zone} {q : Option Pass} {p : Pass} (h : passE zs q p = 0) : PassOk p ∧ afterX q p = false := by
  cases hk : (keyB p.key && keyB p.rider) with
  | false => rw [passE_key hk] at h; exact absurd h (by decide)
  | true =>
    cases ha : afterX q p with
    | true => rw [passE_after hk ha] at h; exact absurd h (by decide)
    | false =>
      cases hw : winB p.from_ p.to_ with
      | false => rw [passE_win hk ha hw] at h; exact absurd h (by decide)
      | true =>
        by_cases hz : zonesK zs p.zones = 0
        · cases hp : payB p with
          | true => rw [passE_pay hk ha hw hz hp] at h; exact absurd h (by decide)
          | false =>
            unfold payB at hp
            rw [Bool.or_eq_false_iff] at hp
            have e1 := outB_no hp.1
            have e2 := outB_no hp.2
            exact ⟨⟨e1, e2.1, e2.2⟩, rfl⟩
        · rw [passE_zone hk ha hw hz] at h; exact absurd h hz
theorem passesF_ok {zs : List Zone} {ps : List Pass} (h : passesF zs ps = 0) : ∀ p ∈ ps, PassOk p := fun p hp => by
  unfold passesF at h
  split at h
  · exact absurd h (by decide)
  · obtain ⟨q, hq⟩ := chk_allq h p hp
    exact (passE_ok hq).1
/-- Whether a pass counts for a trip that comes to these zones. -/
def countsZ (p : Pass) (t : Jour) (cr : List ByteArray) : Bool :=
  !(!decide (p.rider = t.rider) || decide (t.from_ < p.from_) || decide (p.to_ ≤ t.from_)) && (decide (p.zones.length = 0) || cr.all (memB p.zones))
/-- What is paid with a pass: n of 'whole', a part, no more than what the cap leaves. -/
def capN (whole : Int) (x : Pass) (spent : Int) : Int := if 0 < x.most then min (begI (whole * x.pay) 100) (max 0 (x.most - spent)) else begI (whole * x.pay) 100
/-- The best pass from the k-th on. -/
def bestX (cnt : Pass → Bool) (n : Nat → Pass → Int) : Nat → List Pass → Int × Option Nat → Int × Option Nat
  | _, [], b => b
  | k, x :: xs, b => bestX cnt n (k + 1) xs (if cnt x then (if b.2 = none ∨ n k x < b.1 then (n k x, some k) else b) else b)
structure Paid where
  t : Jour
  cents : Int
  by_ : Option Nat
def dayJ (t : Jour) : Int := t.from_ / 86400000
def spentD (done : List Paid) (k : Nat) (day : Int) : Int := ((done.filter (fun d => decide (d.by_ = some k) && decide (dayJ d.t = day))).map Paid.cents).sum
def payOne (zs : List Zone) (p : Price) (xs : List Pass) (done : List Paid) (t : Jour) : Paid :=
  let r := bestX (fun x => countsZ x t (crossO zs t.nodes)) (fun k x => capN (fullI zs p t) x (spentD done k (dayJ t))) 0 xs (fullI zs p t, none)
  ⟨t, r.1, r.2⟩
def payAll (zs : List Zone) (p : Price) (xs : List Pass) : List Paid → List Jour → List Paid
  | done, [] => done
  | done, t :: l => payAll zs p xs (done ++ [payOne zs p xs done t]) l
theorem payAll_snoc (zs : List Zone) (p : Price) (xs : List Pass) : ∀ (done : List Paid) (l : List Jour) (t : Jour), payAll zs p xs done (l ++ [t]) = payAll zs p xs done l ++ [payOne zs p xs (payAll zs p xs done l) t]
  | done, [], t => rfl
  | done, y :: l, t => by
    show payAll zs p xs (done ++ [payOne zs p xs done y]) (l ++ [t]) = _
    rw [payAll_snoc zs p xs _ l t]; rfl
theorem payAll_len (zs : List Zone) (p : Price) (xs : List Pass) : ∀ (done : List Paid) (l : List Jour), (payAll zs p xs done l).length = done.length + l.length
  | done, [] => rfl
  | done, y :: l => by
    show (payAll zs p xs (done ++ [payOne zs p xs done y]) l).length = _
    rw [payAll_len zs p xs _ l]; simp; omega
theorem bestX_snoc (cnt : Pass → Bool) (n : Nat → Pass → Int) : ∀ (k : Nat) (xs : List Pass) (b : Int × Option Nat) (x : Pass), bestX cnt n k (xs ++ [x]) b = (let b' := bestX cnt n k xs b; if cnt x then (if b'.2 = none ∨ n (k + xs.length) x < b'.1 then (n (k + xs.length) x, some (k + xs.length)) else b') else b')
  | k, [], b, x => rfl
  | k, y :: xs, b, x => by
    show bestX cnt n (k + 1) (xs ++ [x]) _ = _
    rw [bestX_snoc cnt n (k + 1) xs _ x, show k + 1 + xs.length = k + (y :: xs).length by simp; omega]
    rfl
/-- What is paid lies between 0 and the whole. -/
theorem capN_bd {whole spent : Int} {x : Pass} (hx : PassOk x) (h0 : 0 ≤ whole) : 0 ≤ capN whole x spent ∧ capN whole x spent ≤ whole := by
  have hm : 0 ≤ whole * x.pay := Int.mul_nonneg h0 hx.pay.1
  have hM : whole * x.pay ≤ whole * 100 := Int.mul_le_mul_of_nonneg_left hx.pay.2 h0
  have hb := begI_bd (n := whole * x.pay) (part := 100) (B := whole) (by decide) hm hM
  unfold capN
  split
  · omega
  · exact hb
theorem bestX_bd {cnt : Pass → Bool} {n : Nat → Pass → Int} {B : Int} : ∀ (k : Nat) (xs : List Pass) (b : Int × Option Nat), (∀ j x, x ∈ xs → 0 ≤ n j x ∧ n j x ≤ B) → 0 ≤ b.1 ∧ b.1 ≤ B → 0 ≤ (bestX cnt n k xs b).1 ∧ (bestX cnt n k xs b).1 ≤ B
  | _, [], b, _, hb => hb
  | k, x :: xs, b, h, hb => by
    refine bestX_bd (k + 1) xs _ (fun j y hy => h j y (List.mem_cons_of_mem _ hy)) ?_
    split
    · split
      · exact h k x (List.mem_cons_self ..)
      · exact hb
    · exact hb
/-- Whoever is chosen stands in the list. -/
theorem bestX_by {cnt : Pass → Bool} {n : Nat → Pass → Int} : ∀ (k : Nat) (xs : List Pass) (b : Int × Option Nat) (j : Nat), (bestX cnt n k xs b).2 = some j → b.2 = some j ∨ (k ≤ j ∧ j < k + xs.length)
  | _, [], b, j, h => .inl h
  | k, x :: xs, b, j, h => by
    rcases bestX_by (k + 1) xs _ j h with h | h
    · split at h
      · split at h
        · right; injection h with h; subst h; simp
        · exact .inl h
      · exact .inl h
    · right; simp; omega
theorem fullI_bd {zs : List Zone} {p : Price} {t : Jour} (hp : PriceOk p) : 0 ≤ fullI zs p t ∧ fullI zs p t ≤ 1000000000 := by
  unfold fullI
  have h1 := hp.least
  have h2 := hp.most
  have h3 := hp.lm
  generalize costH p t _ = c
  omega
theorem payOne_bd {zs : List Zone} {p : Price} {xs : List Pass} {done : List Paid} {t : Jour} (hp : PriceOk p) (hx : ∀ x ∈ xs, PassOk x) : 0 ≤ (payOne zs p xs done t).cents ∧ (payOne zs p xs done t).cents ≤ fullI zs p t := by
  have hf := fullI_bd (zs := zs) (t := t) hp
  exact bestX_bd 0 xs _ (fun j x hx' => capN_bd (hx x hx') hf.1) ⟨hf.1, Int.le_refl _⟩
theorem payAll_bd {zs : List Zone} {p : Price} {xs : List Pass} (hp : PriceOk p) (hx : ∀ x ∈ xs, PassOk x) : ∀ (l : List Jour) (done : List Paid), (∀ d ∈ done, 0 ≤ d.cents ∧ d.cents ≤ 1000000000) → ∀ d ∈ payAll zs p xs done l, 0 ≤ d.cents ∧ d.cents ≤ 1000000000
  | [], done, h, d, hd => h d hd
  | t :: l, done, h, d, hd => by
    refine payAll_bd hp hx l _ (fun e he => ?_) d hd
    rcases List.mem_append.1 he with he | he
    · exact h e he
    · rw [List.mem_singleton.1 he]
      have h1 := payOne_bd (zs := zs) (done := done) (t := t) hp hx
      have h2 := (fullI_bd (zs := zs) (t := t) hp).2
      omega
theorem sum_bd : ∀ (l : List Int) (B : Int), (∀ n ∈ l, 0 ≤ n ∧ n ≤ B) → 0 ≤ l.sum ∧ l.sum ≤ B * l.length
  | [], B, _ => by simp
  | n :: l, B, h => by
    have h1 := h n (List.mem_cons_self ..)
    have h2 := sum_bd l B (fun m hm => h m (List.mem_cons_of_mem _ hm))
    simp only [List.sum_cons, List.length_cons]
    have : B * ((l.length + 1 : Nat) : Int) = B * l.length + B := by rw [Int.natCast_add, Int.mul_add]; omega
    omega
theorem spentD_bd {done : List Paid} (h : ∀ d ∈ done, 0 ≤ d.cents ∧ d.cents ≤ 1000000000) (k : Nat) (day : Int) : 0 ≤ spentD done k day ∧ spentD done k day ≤ 1000000000 * done.length := by
  unfold spentD
  have h1 := sum_bd ((done.filter (fun d => decide (d.by_ = some k) && decide (dayJ d.t = day))).map Paid.cents) 1000000000 (fun n hn => by
    obtain ⟨d, hd, rfl⟩ := List.mem_map.1 hn
    exact h d (List.mem_filter.1 hd).1)
  rw [List.length_map] at h1
  have h2 := List.length_filter_le (fun d => decide (d.by_ = some k) && decide (dayJ d.t = day)) done
  omega
theorem spentD_snoc (done : List Paid) (d : Paid) (k : Nat) (day : Int) : spentD (done ++ [d]) k day = spentD done k day + (if d.by_ = some k ∧ dayJ d.t = day then d.cents else 0) := by
  unfold spentD
  rw [List.filter_append, List.map_append, List.sum_append]
  congr 1
  by_cases h : d.by_ = some k ∧ dayJ d.t = day
  · rw [if_pos h]; simp [h.1, h.2]
  · rw [if_neg h]
    have : (decide (d.by_ = some k) && decide (dayJ d.t = day)) = false := by
      cases h1 : decide (d.by_ = some k) <;> cases h2 : decide (dayJ d.t = day) <;> simp_all
    simp [this]
end Go.Proofs.YtncnmadiiaidfaaGreatDoor
