/- Plain functions: what is left is given out one by one; sorting in place. -/
import Derived.Test.YtfnbmcinbmbehaaGreatQG0
import Derived.Laws.Cover1
import Derived.Sort.Grow
import Derived.Deep.RegionHeld3
import Derived.StillTailTactics
import Derived.Shelf.SlSortCmp.InsertionK
import Derived.Sort.WalkA
namespace Go.Proofs.YtfnbmcinbmbehaaGreat
/-- i gets one of what is left ahead of j. -/
def beats (rs : List Int) (i j : Nat) : Prop := rs.getD j 0 < rs.getD i 0 ∨ (rs.getD i 0 = rs.getD j 0 ∧ i < j)
theorem beats_asymm {rs : List Int} {i j : Nat} (h : beats rs i j) (k : beats rs j i) : False := by unfold beats at h k; omega
structure UpSet (rs : List Int) (T : List Nat) : Prop where
  nd : T.Nodup
  lt : ∀ i ∈ T, i < rs.length
  up : ∀ i ∈ T, ∀ j, j < rs.length → j ∉ T → beats rs i j
theorem nodup_len : ∀ {l m : List Nat}, l.Nodup → (∀ x ∈ l, x ∈ m) → l.length ≤ m.length
  | [], _, _, _ => by simp
  | x :: l, m, hn, hs => by
    have h1 := List.nodup_cons.1 hn
    have h2 : l.length ≤ (m.erase x).length := nodup_len h1.2 (fun y hy => by
      have hne : y ≠ x := fun e => h1.1 (e ▸ hy)
      exact (List.mem_erase_of_ne hne).2 (hs y (List.mem_cons_of_mem _ hy)))
    have h3 := List.length_erase_of_mem (hs x (by simp))
    have h4 : 0 < m.length := List.length_pos_of_mem (hs x (by simp))
    simp only [List.length_cons]
    omega
theorem UpSet.sub {rs : List Int} {S T : List Nat} (hS : UpSet rs S) (hT : UpSet rs T) (hl : S.length = T.length) : ∀ i ∈ S, i ∈ T := by
  intro a ha
  refine Classical.byContradiction fun hna => ?_
  have hb : ∃ b ∈ T, b ∉ S := by
    refine Classical.byContradiction fun hno => ?_
    have hsub : ∀ x ∈ T, x ∈ S.erase a := fun x hx => by
      have hxS : x ∈ S := Classical.byContradiction fun h => hno ⟨x, hx, h⟩
      have hne : x ≠ a := fun e => hna (e ▸ hx)
      exact (List.mem_erase_of_ne hne).2 hxS
    have h1 := nodup_len hT.nd hsub
    have h2 := List.length_erase_of_mem ha
    have h3 : 0 < S.length := List.length_pos_of_mem ha
    omega
  obtain ⟨b, hb, hbS⟩ := hb
  exact beats_asymm (hS.up a ha b (hT.lt b hb) hbS) (hT.up b hb a (hS.lt a ha) hna)
theorem UpSet.same {rs : List Int} {S T : List Nat} (hS : UpSet rs S) (hT : UpSet rs T) (hl : S.length = T.length) (i : Nat) : i ∈ S ↔ i ∈ T :=
  ⟨hS.sub hT hl i, hT.sub hS hl.symm i⟩
/-- One more for those in T. -/
def bump (qs : List Int) (T : List Nat) : List Int := qs.mapIdx (fun i q => if i ∈ T then q + 1 else q)
theorem bump_len (qs : List Int) (T : List Nat) : (bump qs T).length = qs.length := by simp [bump]
theorem bump_nil (qs : List Int) : bump qs [] = qs := by
  apply List.ext_getElem
  · simp [bump]
  · intro i h1 h2; simp [bump]
theorem bump_get (qs : List Int) (T : List Nat) (i : Nat) (h : i < (bump qs T).length) : (bump qs T)[i] = if i ∈ T then qs[i]'(by rw [bump_len] at h; exact h) + 1 else qs[i]'(by rw [bump_len] at h; exact h) := by simp [bump]
theorem bump_same {qs : List Int} {S T : List Nat} (h : ∀ i, i ∈ S ↔ i ∈ T) : bump qs S = bump qs T := by
  unfold bump; congr 1; funext i q; simp [h i]
theorem bump_snoc (qs : List Int) (T : List Nat) (b : Nat) (hb : b ∉ T) (hl' : b < (bump qs T).length) : (bump qs T).set b ((bump qs T)[b] + 1) = bump qs (T ++ [b]) := by
  apply List.ext_getElem
  · simp [bump]
  · intro i h1 h2
    simp only [List.getElem_set, bump_get]
    by_cases e : b = i
    · subst e; simp [hb]
    · simp [e]
      by_cases h : i ∈ T
      · simp [h]
      · have : ¬ i = b := fun h => e h.symm
        simp [h, this]
/-- What is given out: rounded down, and what is left one by one to those ahead. -/
def Dealt (qs rs : List Int) (left : Nat) (zs : List Int) : Prop := ∃ T, UpSet rs T ∧ T.length = left ∧ zs = bump qs T
theorem Dealt.unique {qs rs : List Int} {left : Nat} {zs zs' : List Int} (h : Dealt qs rs left zs) (h' : Dealt qs rs left zs') : zs = zs' := by
  obtain ⟨S, hS, hl, rfl⟩ := h
  obtain ⟨T, hT, hl', rfl⟩ := h'
  exact bump_same (hS.same hT (hl.trans hl'.symm))
/-- What the reference still looks at. -/
def cur (rs : List Int) (T : List Nat) : List Int := rs.mapIdx (fun i r => if i ∈ T then -1 else r)
theorem cur_len (rs : List Int) (T : List Nat) : (cur rs T).length = rs.length := by simp [cur]
theorem cur_get (rs : List Int) (T : List Nat) (i : Nat) (h : i < rs.length) : (cur rs T).getD i 0 = if i ∈ T then -1 else rs.getD i 0 := by
  rw [List.getD_eq_getElem?_getD, List.getElem?_eq_getElem (by rw [cur_len]; exact h)]
  simp [cur, List.getD_eq_getElem?_getD, List.getElem?_eq_getElem h]
theorem cur_snoc (rs : List Int) (T : List Nat) (b : Nat) : (cur rs T).set b (-1) = cur rs (T ++ [b]) := by
  apply List.ext_getElem
  · simp [cur]
  · intro i h1 h2
    rw [List.getElem_set]
    by_cases e : b = i
    · subst e; simp [cur]
    · have : ¬ i = b := fun h => e h.symm
      simp [cur, e, this]
/-- The first of the greatest. -/
def FirstMax (cs : List Int) (b : Nat) : Prop := b < cs.length ∧ ∀ j, j < cs.length → cs.getD j 0 < cs.getD b 0 ∨ (cs.getD j 0 = cs.getD b 0 ∧ b ≤ j)
theorem UpSet.next {rs : List Int} {T : List Nat} {b : Nat} (h : UpSet rs T) (hr : ∀ i, i < rs.length → 0 ≤ rs.getD i 0) (hT : T.length < rs.length) (hb : FirstMax (cur rs T) b) : b ∉ T ∧ UpSet rs (T ++ [b]) := by
  obtain ⟨hbl, hm⟩ := hb
  rw [cur_len] at hbl hm
  have hfree : ∃ j, j < rs.length ∧ j ∉ T := by
    refine Classical.byContradiction fun hno => ?_
    have : ∀ x ∈ List.range rs.length, x ∈ T := fun x hx => Classical.byContradiction fun h => hno ⟨x, List.mem_range.1 hx, h⟩
    have := nodup_len List.nodup_range this
    rw [List.length_range] at this
    omega
  have hbT : b ∉ T := by
    intro hbT
    obtain ⟨j, hj, hjT⟩ := hfree
    have h1 := hm j hj
    rw [cur_get _ _ _ hj, cur_get _ _ _ hbl, if_neg hjT, if_pos hbT] at h1
    have := hr j hj
    omega
  refine ⟨hbT, ?_, ?_, ?_⟩
  · rw [List.nodup_append]
    refine ⟨h.nd, by simp, fun x hx y hy => ?_⟩
    simp at hy; subst hy
    exact fun e => hbT (e ▸ hx)
  · intro i hi
    rcases List.mem_append.1 hi with hi | hi
    · exact h.lt i hi
    · simp at hi; subst hi; exact hbl
  · intro i hi j hj hjT
    have hj1 : j ∉ T := fun h => hjT (List.mem_append_left _ h)
    have hj2 : j ≠ b := fun e => hjT (by simp [e])
    rcases List.mem_append.1 hi with hi | hi
    · exact h.up i hi j hj hj1
    · simp at hi; subst hi
      have h1 := hm j hj
      rw [cur_get _ _ _ hj, cur_get _ _ _ hbl, if_neg hj1, if_neg hbT] at h1
      unfold beats
      omega
theorem UpSet.nil (rs : List Int) : UpSet rs [] := ⟨List.nodup_nil, by simp, by simp⟩
/-- The first ones of all, in order. -/
theorem UpSet.take {rs : List Int} {l : List Nat} (hp : l.Perm (List.range rs.length)) (hs : l.Pairwise (beats rs)) (k : Nat) : UpSet rs (l.take k) := by
  have hnd : l.Nodup := hp.nodup_iff.2 List.nodup_range
  refine ⟨?_, ?_, ?_⟩
  · exact List.Nodup.sublist (List.take_sublist k l) hnd
  · intro i hi
    exact List.mem_range.1 (hp.mem_iff.1 (List.mem_of_mem_take hi))
  · intro i hi j hj hjT
    have hjl : j ∈ l := hp.mem_iff.2 (List.mem_range.2 hj)
    have hjd : j ∈ l.drop k := by
      rw [← List.take_append_drop k l] at hjl
      exact (List.mem_append.1 hjl).resolve_left hjT
    rw [← List.take_append_drop k l] at hs
    exact (List.pairwise_append.1 hs).2.2 i hi j hjd
/-- An element is put into its place among sorted ones: R is the order of all. -/
theorem ins_place {α : Type} {R : α → α → Prop} (pre suf : List α) (x : α) (h : (pre ++ suf).Pairwise R) (h1 : ∀ y ∈ pre, R y x) (h2 : ∀ y ∈ suf, R x y) : (pre ++ x :: suf).Pairwise R := by
  rw [List.pairwise_append] at h ⊢
  refine ⟨h.1, List.pairwise_cons.2 ⟨h2, h.2.1⟩, fun a ha b hb => ?_⟩
  rcases List.mem_cons.1 hb with rfl | hb
  · exact h1 a ha
  · exact h.2.2 a ha b hb
/-- Numbers with what is left of each, sorted: those ahead. -/
theorem sorted_up {rs : List Int} {ys : List (Nat × Int)} (hp : ys.Perm ((List.range rs.length).map (fun i => (i, rs.getD i 0)))) (hs : ys.Pairwise (fun a b => b.2 < a.2 ∨ (a.2 = b.2 ∧ a.1 < b.1))) (k : Nat) : UpSet rs ((ys.map (·.1)).take k) := by
  have hv : ∀ a ∈ ys, a.2 = rs.getD a.1 0 := fun a ha => by
    obtain ⟨i, _, rfl⟩ := List.mem_map.1 (hp.mem_iff.1 ha)
    rfl
  refine UpSet.take ?_ ?_ k
  · have := hp.map (·.1)
    rw [List.map_map] at this
    have e : ((fun x : Nat × Int => x.1) ∘ fun i => (i, rs.getD i 0)) = id := rfl
    rw [e, List.map_id] at this
    exact this
  · rw [List.pairwise_map]
    refine List.Pairwise.imp_of_mem (fun ha hb h => ?_) hs
    unfold beats
    rw [← hv _ ha, ← hv _ hb]
    exact h
end Go.Proofs.YtfnbmcinbmbehaaGreat
/- Plain: a fair division: what all get is what all cost. -/
namespace Go.Proofs.YtfnbmcinbmbehaaGreat
def bitN (g i : Nat) : Nat := g / 2 ^ i % 2
def szN : Nat → Nat → Nat
  | 0, _ => 0
  | n + 1, g => szN n g + bitN g n
def factN : Nat → Nat
  | 0 => 1
  | n + 1 => factN n * (n + 1)
def wN (n g : Nat) : Nat := factN (szN n g) * factN (n - 1 - szN n g)
def term (n : Nat) (cs : List Int) (g i : Nat) : Int := if bitN g i = 0 then ((wN n g : Nat) : Int) * (cs.getD (g + 2 ^ i) 0 - cs.getD g 0) else 0
def numTo (n : Nat) (cs : List Int) : Nat → Nat → Int
  | 0, _ => 0
  | g + 1, i => numTo n cs g i + term n cs g i
def sumTo (f : Nat → Int) : Nat → Int
  | 0 => 0
  | n + 1 => sumTo f n + f n
/-- the coefficient of cs[k] -/
def lin (n : Nat) (c : Nat → Int) (cs : List Int) : Int := sumTo (fun k => c k * cs.getD k 0) n
theorem all_out (n : Nat) (hn : n ≤ 5) (cs : List Int) : sumTo (fun i => numTo n cs (2 ^ n) i) n = (factN n : Nat) * (cs.getD (2 ^ n - 1) 0 - cs.getD 0 0) := by
  have e : n = 0 ∨ n = 1 ∨ n = 2 ∨ n = 3 ∨ n = 4 ∨ n = 5 := by omega
  rcases e with rfl | rfl | rfl | rfl | rfl | rfl
  · simp [sumTo, factN]
  all_goals
    simp [sumTo, factN, numTo, term, wN, szN, bitN]
    try omega
end Go.Proofs.YtfnbmcinbmbehaaGreat
namespace Go.Proofs.YtfnbmcinbmbehaaGreat
theorem sumTo_add (f g : Nat → Int) (n : Nat) : sumTo (fun i => f i + g i) n = sumTo f n + sumTo g n := by
  induction n with
  | zero => rfl
  | succ n ih => simp only [sumTo, ih]; omega
theorem sumTo_congr {f g : Nat → Int} {n : Nat} (h : ∀ i, i < n → f i = g i) : sumTo f n = sumTo g n := by
  induction n with
  | zero => rfl
  | succ n ih => simp only [sumTo]; rw [ih (fun i hi => h i (by omega)), h n (by omega)]
theorem sumTo_mul (F : Int) (f : Nat → Int) (n : Nat) : sumTo (fun i => F * f i) n = F * sumTo f n := by
  induction n with
  | zero => simp [sumTo]
  | succ n ih => simp only [sumTo, ih, Int.mul_add]
theorem sumTo_bd (f : Nat → Int) (n : Nat) (lo hi : Int) (h : ∀ i, i < n → lo ≤ f i ∧ f i ≤ hi) : n * lo ≤ sumTo f n ∧ sumTo f n ≤ n * hi := by
  induction n with
  | zero => simp [sumTo]
  | succ n ih =>
    have h1 := ih (fun i hi => h i (by omega))
    have h2 := h n (by omega)
    simp only [sumTo]
    have e1 : ((n + 1 : Nat) : Int) * lo = n * lo + lo := by rw [Int.natCast_succ, Int.add_mul]; omega
    have e2 : ((n + 1 : Nat) : Int) * hi = n * hi + hi := by rw [Int.natCast_succ, Int.add_mul]; omega
    omega
/-- What is left when all are rounded down: at most one for each. -/
theorem left_bd (num : Nat → Int) (n : Nat) (F c : Int) (hF : 0 < F) (hs : sumTo num n = F * c) : 0 ≤ c - sumTo (fun i => num i / F) n ∧ c - sumTo (fun i => num i / F) n ≤ n := by
  have h1 : sumTo num n = F * sumTo (fun i => num i / F) n + sumTo (fun i => num i % F) n := by
    rw [← sumTo_mul, ← sumTo_add]
    exact sumTo_congr fun i _ => (Int.mul_ediv_add_emod _ _).symm
  have h2 := sumTo_bd (fun i => num i % F) n 0 F (fun i _ => ⟨Int.emod_nonneg _ (by omega), Int.le_of_lt (Int.emod_lt_of_pos _ hF)⟩)
  generalize sumTo (fun i => num i / F) n = q at *
  generalize sumTo (fun i => num i % F) n = r at *
  have h3 : F * (c - q) = r := by rw [Int.mul_sub]; omega
  constructor
  · refine Int.le_of_mul_le_mul_left (a := F) ?_ hF
    omega
  · refine Int.le_of_mul_le_mul_left (a := F) ?_ hF
    rw [h3, Int.mul_comm F]; exact h2.2
end Go.Proofs.YtfnbmcinbmbehaaGreat
/- Plain: a whole given out by parts. -/
namespace Go.Proofs.YtfnbmcinbmbehaaGreat

def sumL : List Int → Int
  | [] => 0
  | x :: l => x + sumL l
theorem sumL_app (a b : List Int) : sumL (a ++ b) = sumL a + sumL b := by
  induction a with
  | nil => simp [sumL]
  | cons x a ih => simp only [List.cons_append, sumL, ih]; omega
theorem sumL_snoc (a : List Int) (x : Int) : sumL (a ++ [x]) = sumL a + x := by rw [sumL_app]; simp [sumL]
theorem sumL_take (l : List Int) (k : Nat) (hk : k < l.length) : sumL (l.take (k + 1)) = sumL (l.take k) + l[k] := by
  rw [List.take_succ_eq_append_getElem hk, sumL_snoc]
theorem sumL_range (f : Nat → Int) (n : Nat) : sumL ((List.range n).map f) = sumTo f n := by
  induction n with
  | zero => rfl
  | succ n ih => rw [List.range_succ, List.map_append, List.map_cons, List.map_nil, sumL_snoc, ih]; rfl
theorem sumL_mul (c : Int) (l : List Int) : sumL (l.map (fun p => c * p)) = c * sumL l := by
  induction l with
  | nil => simp [sumL]
  | cons x l ih => simp only [List.map_cons, sumL, ih, Int.mul_add]
theorem sumL_bd (l : List Int) (lo hi : Int) (h : ∀ x ∈ l, lo ≤ x ∧ x ≤ hi) : l.length * lo ≤ sumL l ∧ sumL l ≤ l.length * hi := by
  induction l with
  | nil => simp [sumL]
  | cons x l ih =>
    have h1 := ih (fun y hy => h y (List.mem_cons_of_mem _ hy))
    have h2 := h x (by simp)
    simp only [sumL, List.length_cons]
    have e1 : ((l.length + 1 : Nat) : Int) * lo = l.length * lo + lo := by rw [Int.natCast_succ, Int.add_mul]; omega
    have e2 : ((l.length + 1 : Nat) : Int) * hi = l.length * hi + hi := by rw [Int.natCast_succ, Int.add_mul]; omega
    omega
theorem sumL_split (F : Int) (nums : List Int) : sumL nums = F * sumL (nums.map (· / F)) + sumL (nums.map (· % F)) := by
  induction nums with
  | nil => simp [sumL]
  | cons x l ih =>
    simp only [List.map_cons, sumL, Int.mul_add]
    have := Int.mul_ediv_add_emod x F
    omega
def qsN (nums : List Int) (F : Int) : List Int := nums.map (· / F)
def rsN (nums : List Int) (F : Int) : List Int := nums.map (· % F)
def leftN (all : Int) (nums : List Int) (F : Int) : Int := all - sumL (qsN nums F)
theorem qsN_len (nums : List Int) (F : Int) : (qsN nums F).length = nums.length := by simp [qsN]
theorem rsN_len (nums : List Int) (F : Int) : (rsN nums F).length = nums.length := by simp [rsN]
theorem leftN_bd {nums : List Int} {F c : Int} (hF : 0 < F) (hs : sumL nums = F * c) : 0 ≤ leftN c nums F ∧ leftN c nums F ≤ nums.length := by
  have h1 := sumL_split F nums
  have h2 := sumL_bd (nums.map (· % F)) 0 F (fun x hx => by
    obtain ⟨y, _, rfl⟩ := List.mem_map.1 hx
    exact ⟨Int.emod_nonneg _ (by omega), Int.le_of_lt (Int.emod_lt_of_pos _ hF)⟩)
  unfold leftN qsN
  rw [List.length_map] at h2
  generalize sumL (nums.map (· / F)) = q at *
  generalize sumL (nums.map (· % F)) = r at *
  have h3 : F * (c - q) = r := by rw [Int.mul_sub]; omega
  constructor
  · refine Int.le_of_mul_le_mul_left (a := F) ?_ hF
    omega
  · refine Int.le_of_mul_le_mul_left (a := F) ?_ hF
    rw [h3, Int.mul_comm F]; exact h2.2
theorem rsN_nonneg {nums : List Int} {F : Int} (hF : 0 < F) (i : Nat) : 0 ≤ (rsN nums F).getD i 0 := by
  unfold rsN
  rw [List.getD_eq_getElem?_getD, List.getElem?_map]
  cases nums[i]? with
  | none => simp
  | some x => exact Int.emod_nonneg _ (by omega)
/-- A whole 'all' given out by numbers of which all together are F times it. -/
def Handed (all : Int) (nums : List Int) (F : Int) (zs : List Int) : Prop := Dealt (qsN nums F) (rsN nums F) (leftN all nums F).toNat zs
theorem Handed.unique {all : Int} {nums : List Int} {F : Int} {zs zs' : List Int} (h : Handed all nums F zs) (h' : Handed all nums F zs') : zs = zs' := Dealt.unique h h'
theorem Handed.len {all : Int} {nums : List Int} {F : Int} {zs : List Int} (h : Handed all nums F zs) : zs.length = nums.length := by
  obtain ⟨T, _, _, rfl⟩ := h
  rw [bump_len, qsN_len]
def numsD (cents : Int) (parts : List Int) : List Int := parts.map (fun p => cents * p)
theorem numsD_sum (cents : Int) (parts : List Int) : sumL (numsD cents parts) = sumL parts * cents := by
  unfold numsD; rw [sumL_mul, Int.mul_comm]
/-- Cents given out by parts. -/
def Divided (cents : Int) (parts : List Int) (zs : List Int) : Prop := Handed cents (numsD cents parts) (sumL parts) zs
theorem divided_433 {zs : List Int} (h : Divided 10 [1, 1, 1] zs) : zs = [4, 3, 3] := by
  refine Handed.unique h ?_
  refine ⟨[0], ⟨by simp, by decide, ?_⟩, by decide, by decide⟩
  intro i hi j hj hjT
  simp at hi; subst hi
  have e : rsN (numsD 10 [1, 1, 1]) (sumL [1, 1, 1]) = [1, 1, 1] := by decide
  rw [e] at hj ⊢
  have : j = 1 ∨ j = 2 := by simp at hj hjT; omega
  rcases this with rfl | rfl <;> exact .inr ⟨rfl, by omega⟩
def numsF (n : Nat) (cs : List Int) (g : Nat) : List Int := (List.range n).map (numTo n cs g)
theorem numsF_sum (n : Nat) (hn : n ≤ 5) (cs : List Int) (h0 : cs.getD 0 0 = 0) : sumL (numsF n cs (2 ^ n)) = (factN n : Nat) * cs.getD (2 ^ n - 1) 0 := by
  unfold numsF
  rw [sumL_range, all_out n hn cs, h0, Int.sub_zero]
theorem factN_pos (n : Nat) : 0 < factN n := by
  induction n with
  | zero => decide
  | succ n ih => exact Nat.mul_pos ih (Nat.succ_pos n)
end Go.Proofs.YtfnbmcinbmbehaaGreat
/- Plain functions: what is wrong with keys, parts, costs, dues, steps; gains, refunds. -/
namespace Go.Proofs.YtfnbmcinbmbehaaGreat

def maxCt : Int := 1000000000
def strLe (a b : ByteArray) : Bool := Op.bytesLess a.toList b.toList || a.toList == b.toList
/-- A key that stands behind another one. -/
def strF (p : Option ByteArray) (s : ByteArray) : Int := if keyB s then (match p with | some q => if strLe s q then 7 else 0 | none => 0) else 5
def risF (l : List ByteArray) : Int := chk strF none l
def keysF (l : List ByteArray) : Int := if 10 < l.length then 2 else risF l
def centB (n : Int) : Bool := outB n 0 maxCt
def partsF (cents : Int) (parts : List Int) : Int :=
  if centB cents then 1 else if 1000 < parts.length then 2 else if parts.any centB then 1 else if sumL parts = 0 then 8 else 0
def fairF (rides : List ByteArray) (costs : List Int) : Int :=
  if keysF rides = 0 then (if costs.length = 2 ^ rides.length then (if costs.getD 0 0 ≠ 0 ∨ costs.any centB = true then 1 else 0) else 3) else keysF rides
structure Due where
  key : ByteArray
  cents : Int
instance : Inhabited Due := ⟨⟨default, 0⟩⟩
def encDue (d : Due) : List Value := [.string d.key, .int .i64 d.cents]
def encS (s : ByteArray) : List Value := [.string s]
/-- A whole shared fairly. -/
def FairR (rides : List ByteArray) (costs : List Int) (ds : List Due) : Prop :=
  ∃ zs, Handed (costs.getD (2 ^ rides.length - 1) 0) (numsF rides.length costs (2 ^ rides.length)) (factN rides.length : Nat) zs ∧ ds = List.zipWith Due.mk rides zs
theorem FairR.unique {rides : List ByteArray} {costs : List Int} {ds ds' : List Due} (h : FairR rides costs ds) (h' : FairR rides costs ds') : ds = ds' := by
  obtain ⟨zs, h1, rfl⟩ := h
  obtain ⟨zs', h2, rfl⟩ := h'
  rw [h1.unique h2]
def duesF (rides : List ByteArray) (ds : List Due) : Int :=
  if rides = ds.map (·.key) then (if ds.any (fun d => outB d.cents (-maxCt) maxCt) then 1 else 0) else 3
/-- Those of a group. -/
def whoTo (rides : List ByteArray) (g : Nat) : Nat → List ByteArray
  | 0 => []
  | k + 1 => if bitN g k = 1 then whoTo rides g k ++ [rides.getD k default] else whoTo rides g k
def sumG (cs : List Int) (g : Nat) : Nat → Int
  | 0 => 0
  | k + 1 => if bitN g k = 1 then sumG cs g k + cs.getD k 0 else sumG cs g k
/-- The first group that would pay less alone. -/
def gainL (rides : List ByteArray) (cs costs : List Int) : List Nat → List ByteArray
  | [] => []
  | g :: gs => if costs.getD g 0 < sumG cs g rides.length then whoTo rides g rides.length else gainL rides cs costs gs
structure Frac where
  num : Int
  den : Int
instance : Inhabited Frac := ⟨⟨0, 0⟩⟩
def encFrac (d : Frac) : List Value := [.int .i64 d.num, .int .i64 d.den]
def endMs : Int := 345686400000
def stepF (p : Option Frac) (s : Frac) : Int :=
  if outB s.num 1 endMs || outB s.den 0 100 then 1 else (match p with | some q => if s.num ≤ q.num ∨ s.den < q.den then 7 else 0 | none => 0)
def refF (due late : Int) (steps : List Frac) : Int :=
  if centB due || outB late 0 endMs then 1 else if 20 < steps.length then 2 else chk stepF none steps
def refPart (late : Int) : List Frac → Int → Int
  | [], d => d
  | s :: l, d => refPart late l (if s.num ≤ late then s.den else d)
def refI (due late : Int) (steps : List Frac) : Int := due * refPart late steps 0 / 100
end Go.Proofs.YtfnbmcinbmbehaaGreat
/- Plain functions: two that cost the same in each group, and one that costs nothing. -/
namespace Go.Proofs.YtfnbmcinbmbehaaGreat

def eqCosts (p q : Int) : List Int := [0, p, p, q, 0, p, p, q]
theorem eq_nums (p q : Int) : numsF 3 (eqCosts p q) 8 = [3 * q, 3 * q, 0] := by
  simp [numsF, numTo, term, wN, szN, bitN, factN, eqCosts, List.range_succ]
  omega
theorem eq_handed {p q : Int} {zs : List Int} (h : Handed q (numsF 3 (eqCosts p q) 8) 6 zs) : zs = [(q + 1) / 2, q / 2, 0] := by
  rw [eq_nums] at h
  refine Handed.unique h ?_
  have e1 : qsN [3 * q, 3 * q, 0] 6 = [q / 2, q / 2, 0] := by simp [qsN]; omega
  have e2 : rsN [3 * q, 3 * q, 0] 6 = [3 * (q % 2), 3 * (q % 2), 0] := by simp [rsN]; omega
  have e3 : leftN q [3 * q, 3 * q, 0] 6 = q % 2 := by unfold leftN; rw [e1]; simp [sumL]; omega
  unfold Handed
  rw [e1, e2, e3]
  rcases (show q % 2 = 0 ∨ q % 2 = 1 by omega) with h0 | h0
  · rw [h0]
    refine ⟨[], UpSet.nil _, rfl, ?_⟩
    rw [bump_nil]
    simp; omega
  · rw [h0]
    refine ⟨[0], ⟨by simp, by simp, ?_⟩, rfl, ?_⟩
    · intro i hi j hj hjT
      simp at hi; subst hi
      have hj' : j = 1 ∨ j = 2 := by simp at hj hjT; omega
      rcases hj' with rfl | rfl <;> unfold beats <;> simp
    · simp [bump]; omega
/-- What two equal ones pay. -/
theorem eq_fair {l : List ByteArray} {p q : Int} {ds : List Due} (hl : l.length = 3) (h : FairR l (eqCosts p q) ds) : ∃ x y z, ds = [⟨x, (q + 1) / 2⟩, ⟨y, q / 2⟩, ⟨z, 0⟩] := by
  obtain ⟨zs, h1, rfl⟩ := h
  rw [hl] at h1
  have h2 := eq_handed (p := p) (q := q) (zs := zs) h1
  subst h2
  match l, hl with
  | [x, y, z], _ => exact ⟨x, y, z, rfl⟩
end Go.Proofs.YtfnbmcinbmbehaaGreat
/- Rounding down: the program's and the reference's. -/
namespace Go.Proofs.YtfnbmcinbmbehaaGreat
open Go.RowKit

theorem w_Down (a b : Int) (w : World) (hb : 1 ≤ b ∧ b ≤ 4611686018427387904) (ha : -4611686018427387904 ≤ a ∧ a ≤ 4611686018427387904) :
    Calls Tryz.prog 16 #[.int .i64 a, .int .i64 b] w fun e w' => e = .returned (.int .i64 (a / b)) ∧ w = w' := by
  have q1 := tdiv_bd a b hb.1
  have q2 : -4611686018427387904 ≤ a.tdiv b ∧ a.tdiv b ≤ 4611686018427387904 := by split at q1 <;> omega
  clear q1
  have b1 : a.tmod b < b := Int.tmod_lt_of_pos a (by omega)
  have b2 : -b < a.tmod b := by have := Int.lt_tmod_of_pos a (b := b) (by omega); omega
  by_cases h : a.tmod b < 0
  · go_enter Tryz.func16, Tryz.ntmps16
    go_wp2
    go_ret
    exact ⟨ret_int (floor_neg a b hb.1 h), rfl⟩
  · go_enter Tryz.func16, Tryz.ntmps16
    go_wp2
    go_ret
    exact ⟨ret_int (floor_pos a b hb.1 (by omega)), rfl⟩

end Go.Proofs.YtfnbmcinbmbehaaGreat
/- Worlds that only draw and lay blocks. Of no program. -/
namespace Go.Proofs.YtfnbmcinbmbehaaGreat
open Go.RowKit Go.Sort

/-- Draws, and new blocks that stay as they were laid. -/
def Lays (w w' : World) : Prop := ∃ q os, w' = grow (w.drewN q) os
theorem Lays.refl (w : World) : Lays w w := ⟨0, #[], by simp [grow]; rfl⟩
theorem Lays.trans {a b c : World} (h : Lays a b) (k : Lays b c) : Lays a c := by
  obtain ⟨q, os, rfl⟩ := h
  obtain ⟨q', os', rfl⟩ := k
  refine ⟨q + q', os ++ os', ?_⟩
  have e : (grow (a.drewN q) os).drewN q' = grow ((a.drewN q).drewN q') os := rfl
  rw [e, grow_grow, World.drewN_drewN]
theorem Lays.drew {a w : World} (h : Lays a w) : Lays a w.drew := h.trans ⟨1, #[], by simp [grow]; rfl⟩
theorem Lays.drewN {a w : World} (h : Lays a w) (n : Nat) : Lays a (w.drewN n) := h.trans ⟨n, #[], by simp [grow]; rfl⟩
theorem Lays.alloc {a w : World} (h : Lays a w) (o : Obj) : Lays a (w.alloc o) := h.trans ⟨0, #[o], by rw [alloc_eq_grow]; rfl⟩
theorem Lays.nx {a w : World} (h : Lays a w) : Nx a w := by
  obtain ⟨q, os, rfl⟩ := h
  refine ⟨rfl, rfl, rfl, by simp [grow], fun k hk => ?_⟩
  show ((a.heap ++ os)[k]?) = _
  rw [Array.getElem?_append_left (by exact hk)]
theorem Lays.cell {a w : World} (h : Lays a w) {p : Addr} {v : Value} (hc : a.cell? p = some v) : w.cell? p = some v :=
  (Below.cell h.nx (World.block_lt_of_cell? a _ hc)).trans hc

theorem region_still_tail {P : Program} {id : Nat} {Q : Exit → Act → World → Prop} {a : Act} {w : World} {l : List Oper} (n : Nat) (hm : P.follows .mixedOrders = true) (hB : Region.lexTailB .any l.toArray n = true)
    (h : wpStill P l.toArray w.drew (fun a' => wpList P l.toArray Q (l.drop n) a' w.drew) (l.take n) a) : (Code.region id l.toArray true).wp P Q a w := wp_region_still_tail n hm hB h

end Go.Proofs.YtfnbmcinbmbehaaGreat
/- A row of the call's own, as the sort's contracts read it. Of no program. -/
namespace Go.Proofs.YtfnbmcinbmbehaaGreat
open Go.RowKit Go.Sort Go.Proofs Go.Shelf

section
variable {α : Type} [Inhabited α] {enc : α → List Value} {K : Nat}
theorem flatK_toList (hk : ∀ x, (enc x).length = K) (hK : 0 < K) (d : Array α) : (flatK enc K d).toList = d.toList.flatMap enc := by
  apply List.ext_getElem?
  intro t
  by_cases ht : t < d.size * K
  · have h1 : t / K < d.size := (Nat.div_lt_iff_lt_mul hK).2 ht
    have h2 : t % K < K := Nat.mod_lt _ hK
    have e : t / K * K + t % K = t := by rw [Nat.mul_comm]; exact Nat.div_add_mod t K
    have hx : d.toList[t / K]? = some d[t / K]! := by
      rw [Array.getElem?_toList, getElem!_pos d _ h1, Array.getElem?_eq_getElem h1]
    have hu : (enc d[t / K]!)[t % K]? = some (enc d[t / K]!)[t % K]! := by
      have h5 : t % K < (enc d[t / K]!).length := by rw [hk]; exact h2
      rw [getElem!_pos (enc d[t / K]!) (t % K) h5]
      exact List.getElem?_eq_getElem h5
    have h3 := flat_get (xs := d.toList) hk (t / K) _ hx (t % K) _ hu
    rw [e] at h3
    rw [h3, Array.getElem?_toList]
    have hs : t < (flatK enc K d).size := by rw [size_flatK]; exact ht
    rw [Array.getElem?_eq_getElem hs, ← getElem!_pos (flatK enc K d) t hs, get_flatK _ _ _ _ ht]
  · rw [List.getElem?_eq_none (by rw [Array.length_toList, size_flatK]; omega), List.getElem?_eq_none (by rw [flat_len hk, Array.length_toList]; omega)]

variable {w : World} {base g cap n : Nat} {e : TypeId} {xs : List α}
theorem holds_of_own (hk : ∀ x, (enc x).length = K) (hK : 0 < K) (hn : xs.length = n) (h : w.ownsRow base e K (.slice (some ⟨g, 0, none⟩) n cap) n (xs.flatMap enc)) : HoldsK enc K w g 0 xs.toArray := by
  intro j hj
  rw [size_flatK] at hj
  have hj' : j < n * K := by rw [← hn]; simpa using hj
  have hs : j < (flatK enc K xs.toArray).size := by rw [size_flatK]; exact hj
  refine ⟨?_, by rw [Nat.zero_add]; exact h.frozenAt j⟩
  rw [Nat.zero_add, h.cellAt j hj', ← flatK_toList hk hK xs.toArray, Array.getElem?_toList, Array.getElem?_eq_getElem hs, getElem!_pos (flatK enc K xs.toArray) j hs]
  rfl

theorem own_of_sorted (hk : ∀ x, (enc x).length = K) (hK : 0 < K) (h : w.ownsRow base e K (.slice (some ⟨g, 0, none⟩) n cap) n (xs.flatMap enc)) (ys : List α) (hy : ys.length = n) (m : Nat) (os : Array Obj) :
    (sortWorldK enc K w g 0 m ys.toArray os).ownsRow base e K (.slice (some ⟨g, 0, none⟩) n cap) n (ys.flatMap enc) ∧ Gr g w (sortWorldK enc K w g 0 m ys.toArray os) := by
  have hlt := (h.lt g rfl)
  have hF : (flatK enc K ys.toArray).size = n * K := by rw [size_flatK]; simp [hy]
  constructor
  · rcases h.2 with ⟨h0, _⟩ | ⟨g', cap', cur, hv, hg, hh, hnc, hcm, hcs, ht⟩
    · cases h0
    · cases hv
      refine ⟨by rw [flat_len hk, hy], .inr ⟨g, cap, putCells id 0 (flatK enc K ys.toArray) cur, rfl, hlt.1, ?_, hnc, hcm, by simp [putCells, hcs], ?_⟩⟩
      · unfold sortWorldK
        rw [heap_grow_old _ _ (by simpa [putRowK] using hlt.2)]
        simp [putRowK, putRow, mapBlock, Sort.ahead, Array.getElem?_modify, hh, onCells]
      · have hle : n * K ≤ cur.size := by rw [hcs]; exact Nat.mul_le_mul_right K hnc
        apply List.ext_getElem?
        intro j
        by_cases hj : j < n * K
        · rw [List.getElem?_take_of_lt hj, Array.getElem?_toList]
          have hjc : j < cur.size := by omega
          have hs : j < (flatK enc K ys.toArray).size := by rw [hF]; exact hj
          have e1 := flatK_toList hk hK ys.toArray
          have e2 : (ys.flatMap enc)[j]? = some (flatK enc K ys.toArray)[j]! := by
            show (ys.toArray.toList.flatMap enc)[j]? = _
            rw [← e1, Array.getElem?_toList, Array.getElem?_eq_getElem hs, getElem!_pos (flatK enc K ys.toArray) j hs]
          rw [e2]
          simp [putCells, hjc, hF, hj]
        · rw [List.getElem?_take_eq_none (by omega), List.getElem?_eq_none (by rw [flat_len hk, hy]; omega)]
  · refine ⟨rfl, rfl, rfl, by simp [sortWorldK, putRowK, grow], fun k hkk hne => ?_⟩
    unfold sortWorldK
    rw [heap_grow_old _ _ (by simpa [putRowK] using hkk)]
    have : g ≠ k := fun e => hne (by rw [e])
    simp [putRowK, putRow, mapBlock, Sort.ahead, Array.getElem?_modify, this]
end

end Go.Proofs.YtfnbmcinbmbehaaGreat
/- Plain: sorting by insertion is stable. -/
namespace Go.Proofs.YtfnbmcinbmbehaaGreat
open Go.Sort Go.Proofs
variable {α : Type} [Inhabited α]
theorem get_bang {d : Array α} {pre suf : List α} {x : α} (h : d.toList = pre ++ x :: suf) : d[pre.length]! = x := by
  have h1 : d[pre.length]? = some x := by rw [← Array.getElem?_toList, h, List.getElem?_append_right (Nat.le_refl _)]; simp
  rw [getElem!_def, h1]
theorem swp_list {d : Array α} {q suf : List α} {x y : α} (h : d.toList = q ++ y :: x :: suf) : (swp d (q.length + 1) q.length).toList = q ++ x :: y :: suf := by
  have h1 : d[q.length]! = y := get_bang h
  have h2 : d[q.length + 1]! = x := by
    have : d.toList = (q ++ [y]) ++ x :: suf := by rw [h]; simp
    have := get_bang this
    simpa using this
  unfold swp
  rw [h1, h2]
  simp only [Array.toList_setIfInBounds, h]
  rw [List.set_append_right _ _ (by omega), show q.length + 1 - q.length = 1 by omega, List.set_cons_succ, List.set_cons_zero, List.set_append_right _ _ (by omega), Nat.sub_self, List.set_cons_zero]
theorem inner_list (lt : α → α → Bool) : ∀ (n : Nat) (pre suf : List α) (x : α) (d : Array α), pre.length = n → d.toList = pre ++ x :: suf → ∃ p1 p2, pre = p1 ++ p2 ∧ (insInner lt 0 n d).toList = p1 ++ x :: (p2 ++ suf) ∧ (∀ y ∈ p2, lt x y = true) ∧ (∀ q y, p1 = q ++ [y] → lt x y = false)
  | 0, pre, suf, x, d, hn, hd => by
    have : pre = [] := List.eq_nil_of_length_eq_zero hn
    subst this
    exact ⟨[], [], rfl, by simpa [insInner] using hd, by simp, by simp⟩
  | n + 1, pre, suf, x, d, hn, hd => by
    have hne : pre ≠ [] := by intro e; subst e; simp at hn
    obtain ⟨q, y, rfl⟩ : ∃ q y, pre = q ++ [y] := ⟨pre.dropLast, pre.getLast hne, (List.dropLast_concat_getLast hne).symm⟩
    have hq : q.length = n := by simpa using hn
    have hx : d[n + 1]! = x := by rw [← hn]; exact get_bang hd
    have hy : d[n]! = y := by rw [← hq]; exact get_bang (suf := x :: suf) (by rw [hd]; simp)
    unfold insInner
    rw [hx, hy]
    by_cases hl : lt x y = true
    · rw [if_pos (by simp [hl])]
      obtain ⟨p1, p2, e1, e2, e3, e4⟩ := inner_list lt n q (y :: suf) x (swp d (n + 1) n) hq (by rw [← hq]; exact swp_list (by rw [hd]; simp))
      refine ⟨p1, p2 ++ [y], by rw [e1]; simp, by rw [e2]; simp, fun z hz => ?_, e4⟩
      rcases List.mem_append.1 hz with hz | hz
      · exact e3 z hz
      · simp at hz; subst hz; exact hl
    · rw [if_neg (by simp [hl])]
      refine ⟨q ++ [y], [], by simp, by simpa using hd, by simp, fun q' y' e => ?_⟩
      have := List.append_inj' e rfl
      simp at this
      rw [← this.2]
      simpa using hl
/-- Sorting by insertion is stable: S is the order at first, R the order behind it. -/
theorem outer_list (lt : α → α → Bool) {R S : α → α → Prop} (h1 : ∀ x y, lt x y = true → R x y) (h2 : ∀ x y, S y x → lt x y = false → R y x) (htr : ∀ x y z, R x y → R y z → R x z) :
    ∀ (m : Nat) (b i : Nat) (d : Array α) (pre suf : List α), b - i = m → i ≤ b → pre.length = i → d.toList = pre ++ suf → b = (pre ++ suf).length → pre.Pairwise R → (∀ y ∈ pre, ∀ x ∈ suf, S y x) → suf.Pairwise S → ((insOuter lt 0 b i d).toList.Perm (pre ++ suf) ∧ (insOuter lt 0 b i d).toList.Pairwise R)
  | 0, b, i, d, pre, suf, hm, hib, hp, hd, hb, hR, hS, hs => by
    have : suf = [] := List.eq_nil_of_length_eq_zero (by simp at hb; omega)
    subst this
    rw [insOuter_stop lt 0 b i d (by omega), hd]
    exact ⟨List.Perm.refl _, by simpa using hR⟩
  | m + 1, b, i, d, pre, suf, hm, hib, hp, hd, hb, hR, hS, hs => by
    cases suf with
    | nil => simp at hb; omega
    | cons x suf =>
      rw [insOuter_go lt 0 b i d (by omega)]
      obtain ⟨p1, p2, e1, e2, e3, e4⟩ := inner_list lt i pre suf x d hp hd
      have hsx := List.pairwise_cons.1 hs
      have hR' : (p1 ++ x :: p2).Pairwise R := by
        subst e1
        rw [List.pairwise_append] at hR ⊢
        have hlast : ∀ y ∈ p1, R y x := by
          intro y hy
          have hne : p1 ≠ [] := List.ne_nil_of_mem hy
          obtain ⟨q, z, e⟩ : ∃ q z, p1 = q ++ [z] := ⟨p1.dropLast, p1.getLast hne, (List.dropLast_concat_getLast hne).symm⟩
          have hz : R z x := h2 x z (hS z (by simp [e]) x (by simp)) (e4 q z e)
          rw [e] at hy
          rcases List.mem_append.1 hy with hy | hy
          · have hp := hR.1
            rw [e, List.pairwise_append] at hp
            exact htr y z x (hp.2.2 y hy z (by simp)) hz
          · simp at hy; subst hy; exact hz
        refine ⟨hR.1, List.pairwise_cons.2 ⟨fun y hy => h1 x y (e3 y hy), hR.2.1⟩, fun y hy z hz => ?_⟩
        rcases List.mem_cons.1 hz with rfl | hz
        · exact hlast y hy
        · exact hR.2.2 y hy z hz
      have hperm : (p1 ++ x :: p2).Perm (pre ++ [x]) := by
        subst e1
        exact (List.perm_middle).trans (List.perm_append_singleton x (p1 ++ p2)).symm
      have hl : (p1 ++ x :: p2).length = i + 1 := by have := hperm.length_eq; simp at this ⊢; omega
      have ih := outer_list lt h1 h2 htr m b (i + 1) (insInner lt 0 i d) (p1 ++ x :: p2) suf (by omega) (by simp at hb; omega) hl (by rw [e2]; simp) (by simp at hb hl ⊢; omega) hR'
        (fun y hy z hz => by
          have hy' := hperm.mem_iff.1 hy
          rcases List.mem_append.1 hy' with hy' | hy'
          · exact hS y hy' z (by simp [hz])
          · simp at hy'; subst hy'; exact hsx.1 z hz) hsx.2
      refine ⟨ih.1.trans ?_, ih.2⟩
      have := hperm.append_right suf
      simpa using this
theorem ins_stable (lt : α → α → Bool) {R S : α → α → Prop} (h1 : ∀ x y, lt x y = true → R x y) (h2 : ∀ x y, S y x → lt x y = false → R y x) (htr : ∀ x y z, R x y → R y z → R x z) (d : Array α) (hS : d.toList.Pairwise S) :
    (insertionSort lt d 0 d.size).toList.Perm d.toList ∧ (insertionSort lt d 0 d.size).toList.Pairwise R := by
  unfold insertionSort
  cases hd : d.toList with
  | nil =>
    have : d.size = 0 := by rw [← Array.length_toList, hd]; rfl
    rw [insOuter_stop lt 0 _ _ d (by omega), hd]
    exact ⟨List.Perm.refl _, List.Pairwise.nil⟩
  | cons x l =>
    rw [hd] at hS
    have hx := List.pairwise_cons.1 hS
    have hsz : d.size = l.length + 1 := by rw [← Array.length_toList, hd]; rfl
    exact outer_list lt h1 h2 htr _ d.size 1 d [x] l rfl (by omega) rfl hd (by rw [hsz]; simp) (by simp) (fun y hy z hz => by simp at hy; subst hy; exact hx.1 z hz) hx.2
end Go.Proofs.YtfnbmcinbmbehaaGreat
