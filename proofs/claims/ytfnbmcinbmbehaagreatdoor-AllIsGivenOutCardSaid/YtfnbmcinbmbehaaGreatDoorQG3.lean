/- Plain functions: what is left is given out one by one; sorting in place. -/
import Derived.Test.YtfnbmcinbmbehaaGreatDoorQG0
import Derived.Laws.Cover1
import Derived.Test.YtfnbmcinbmbehaaGreatDoorQKey
namespace Go.Proofs.YtfnbmcinbmbehaaGreatDoor
/-- i gets one of what is left ahead of j. -/
def beats (rs : List Int) (i j : Nat) : Prop := rs.getD j 0 < rs.getD i 0 ∨ (rs.getD i 0 = rs.getD j 0 ∧ i < j)
theorem beats_asymm {rs : List Int} {i j : Nat} (h : beats rs i j) (k : beats rs j i) : False := by unfold beats at h k; omega
structure UpSet (rs : List Int) (T : List Nat) : Prop where
  nd : T.Nodup
  lt : ∀ i ∈ T, i < rs.length
  up : ∀ i ∈ T, ∀ j, j < rs.length → j ∉ T → beats rs i j
theorem nodup_len : ∀ {l m : List Nat}, l.Nodup → (∀ x ∈ l, x ∈ m) → l.length ≤ m.length
  | [], _, _, _ => by simp
  | x :: l, m, hn, hs => by
    have h1 := List.nodup_cons.1 hn
    have h2 : l.length ≤ (m.erase x).length := nodup_len h1.2 (fun y hy => by
      have hne : y ≠ x := fun e => h1.1 (e ▸ hy)
      exact (List.mem_erase_of_ne hne).2 (hs y (List.mem_cons_of_mem _ hy)))
    have h3 := List.length_erase_of_mem (hs x (by simp))
    have h4 : 0 < m.length := List.length_pos_of_mem (hs x (by simp))
    simp only [List.length_cons]
    omega
theorem UpSet.sub {rs : List Int} {S T : List Nat} (hS : UpSet rs S) (hT : UpSet rs T) (hl : S.length = T.length) : ∀ i ∈ S, i ∈ T := by
  intro a ha
  refine Classical.byContradiction fun hna => ?_
  have hb : ∃ b ∈ T, b ∉ S := by
    refine Classical.byContradiction fun hno => ?_
    have hsub : ∀ x ∈ T, x ∈ S.erase a := fun x hx => by
      have hxS : x ∈ S := Classical.byContradiction fun h => hno ⟨x, hx, h⟩
      have hne : x ≠ a := fun e => hna (e ▸ hx)
      exact (List.mem_erase_of_ne hne).2 hxS
    have h1 := nodup_len hT.nd hsub
    have h2 := List.length_erase_of_mem ha
    have h3 : 0 < S.length := List.length_pos_of_mem ha
    omega
  obtain ⟨b, hb, hbS⟩ := hb
  exact beats_asymm (hS.up a ha b (hT.lt b hb) hbS) (hT.up b hb a (hS.lt a ha) hna)
theorem UpSet.same {rs : List Int} {S T : List Nat} (hS : UpSet rs S) (hT : UpSet rs T) (hl : S.length = T.length) (i : Nat) : i ∈ S ↔ i ∈ T :=
  ⟨hS.sub hT hl i, hT.sub hS hl.symm i⟩
/-- One more for those in T. -/
def bump (qs : List Int) (T : List Nat) : List Int := qs.mapIdx (fun i q => if i ∈ T then q + 1 else q)
theorem bump_len (qs : List Int) (T : List Nat) : (bump qs T).length = qs.length := by simp [bump]
theorem bump_nil (qs : List Int) : bump qs [] = qs := by
  apply List.ext_getElem
  · simp [bump]
  · intro i h1 h2; simp [bump]
theorem bump_get (qs : List Int) (T : List Nat) (i : Nat) (h : i < (bump qs T).length) : (bump qs T)[i] = if i ∈ T then qs[i]'(by rw [bump_len] at h; exact h) + 1 else qs[i]'(by rw [bump_len] at h; exact h) := by simp [bump]
theorem bump_same {qs : List Int} {S T : List Nat} (h : ∀ i, i ∈ S ↔ i ∈ T) : bump qs S = bump qs T := by
  unfold bump; congr 1; funext i q; simp [h i]
theorem bump_snoc (qs : List Int) (T : List Nat) (b : Nat) (hb : b ∉ T) (hl' : b < (bump qs T).length) : (bump qs T).set b ((bump qs T)[b] + 1) = bump qs (T ++ [b]) := by
  apply List.ext_getElem
  · simp [bump]
  · intro i h1 h2
    simp only [List.getElem_set, bump_get]
    by_cases e : b = i
    · subst e; simp [hb]
    · simp [e]
      by_cases h : i ∈ T
      · simp [h]
      · have : ¬ i = b := fun h => e h.symm
        simp [h, this]
/-- What is given out: rounded down, and what is left one by one to those ahead. -/
def Dealt (qs rs : List Int) (left : Nat) (zs : List Int) : Prop := ∃ T, UpSet rs T ∧ T.length = left ∧ zs = bump qs T
theorem Dealt.unique {qs rs : List Int} {left : Nat} {zs zs' : List Int} (h : Dealt qs rs left zs) (h' : Dealt qs rs left zs') : zs = zs' := by
  obtain ⟨S, hS, hl, rfl⟩ := h
  obtain ⟨T, hT, hl', rfl⟩ := h'
  exact bump_same (hS.same hT (hl.trans hl'.symm))
/-- What the reference still looks at. -/
def cur (rs : List Int) (T : List Nat) : List Int := rs.mapIdx (fun i r => if i ∈ T then -1 else r)
theorem cur_len (rs : List Int) (T : List Nat) : (cur rs T).length = rs.length := by simp [cur]
theorem cur_get (rs : List Int) (T : List Nat) (i : Nat) (h : i < rs.length) : (cur rs T).getD i 0 = if i ∈ T then -1 else rs.getD i 0 := by
  rw [List.getD_eq_getElem?_getD, List.getElem?_eq_getElem (by rw [cur_len]; exact h)]
  simp [cur, List.getD_eq_getElem?_getD, List.getElem?_eq_getElem h]
theorem cur_snoc (rs : List Int) (T : List Nat) (b : Nat) : (cur rs T).set b (-1) = cur rs (T ++ [b]) := by
  apply List.ext_getElem
  · simp [cur]
  · intro i h1 h2
    rw [List.getElem_set]
    by_cases e : b = i
    · subst e; simp [cur]
    · have : ¬ i = b := fun h => e h.symm
      simp [cur, e, this]
/-- The first of the greatest. -/
def FirstMax (cs : List Int) (b : Nat) : Prop := b < cs.length ∧ ∀ j, j < cs.length → cs.getD j 0 < cs.getD b 0 ∨ (cs.getD j 0 = cs.getD b 0 ∧ b ≤ j)
theorem UpSet.next {rs : List Int} {T : List Nat} {b : Nat} (h : UpSet rs T) (hr : ∀ i, i < rs.length → 0 ≤ rs.getD i 0) (hT : T.length < rs.length) (hb : FirstMax (cur rs T) b) : b ∉ T ∧ UpSet rs (T ++ [b]) := by
  obtain ⟨hbl, hm⟩ := hb
  rw [cur_len] at hbl hm
  have hfree : ∃ j, j < rs.length ∧ j ∉ T := by
    refine Classical.byContradiction fun hno => ?_
    have : ∀ x ∈ List.range rs.length, x ∈ T := fun x hx => Classical.byContradiction fun h => hno ⟨x, List.mem_range.1 hx, h⟩
    have := nodup_len List.nodup_range this
    rw [List.length_range] at this
    omega
  have hbT : b ∉ T := by
    intro hbT
    obtain ⟨j, hj, hjT⟩ := hfree
    have h1 := hm j hj
    rw [cur_get _ _ _ hj, cur_get _ _ _ hbl, if_neg hjT, if_pos hbT] at h1
    have := hr j hj
    omega
  refine ⟨hbT, ?_, ?_, ?_⟩
  · rw [List.nodup_append]
    refine ⟨h.nd, by simp, fun x hx y hy => ?_⟩
    simp at hy; subst hy
    exact fun e => hbT (e ▸ hx)
  · intro i hi
    rcases List.mem_append.1 hi with hi | hi
    · exact h.lt i hi
    · simp at hi; subst hi; exact hbl
  · intro i hi j hj hjT
    have hj1 : j ∉ T := fun h => hjT (List.mem_append_left _ h)
    have hj2 : j ≠ b := fun e => hjT (by simp [e])
    rcases List.mem_append.1 hi with hi | hi
    · exact h.up i hi j hj hj1
    · simp at hi; subst hi
      have h1 := hm j hj
      rw [cur_get _ _ _ hj, cur_get _ _ _ hbl, if_neg hj1, if_neg hbT] at h1
      unfold beats
      omega
theorem UpSet.nil (rs : List Int) : UpSet rs [] := ⟨List.nodup_nil, by simp, by simp⟩
/-- The first ones of all, in order. -/
theorem UpSet.take {rs : List Int} {l : List Nat} (hp : l.Perm (List.range rs.length)) (hs : l.Pairwise (beats rs)) (k : Nat) : UpSet rs (l.take k) := by
  have hnd : l.Nodup := hp.nodup_iff.2 List.nodup_range
  refine ⟨?_, ?_, ?_⟩
  · exact List.Nodup.sublist (List.take_sublist k l) hnd
  · intro i hi
    exact List.mem_range.1 (hp.mem_iff.1 (List.mem_of_mem_take hi))
  · intro i hi j hj hjT
    have hjl : j ∈ l := hp.mem_iff.2 (List.mem_range.2 hj)
    have hjd : j ∈ l.drop k := by
      rw [← List.take_append_drop k l] at hjl
      exact (List.mem_append.1 hjl).resolve_left hjT
    rw [← List.take_append_drop k l] at hs
    exact (List.pairwise_append.1 hs).2.2 i hi j hjd
/-- An element is put into its place among sorted ones: R is the order of all. -/
theorem ins_place {α : Type} {R : α → α → Prop} (pre suf : List α) (x : α) (h : (pre ++ suf).Pairwise R) (h1 : ∀ y ∈ pre, R y x) (h2 : ∀ y ∈ suf, R x y) : (pre ++ x :: suf).Pairwise R := by
  rw [List.pairwise_append] at h ⊢
  refine ⟨h.1, List.pairwise_cons.2 ⟨h2, h.2.1⟩, fun a ha b hb => ?_⟩
  rcases List.mem_cons.1 hb with rfl | hb
  · exact h1 a ha
  · exact h.2.2 a ha b hb
/-- Numbers with what is left of each, sorted: those ahead. -/
theorem sorted_up {rs : List Int} {ys : List (Nat × Int)} (hp : ys.Perm ((List.range rs.length).map (fun i => (i, rs.getD i 0)))) (hs : ys.Pairwise (fun a b => b.2 < a.2 ∨ (a.2 = b.2 ∧ a.1 < b.1))) (k : Nat) : UpSet rs ((ys.map (·.1)).take k) := by
  have hv : ∀ a ∈ ys, a.2 = rs.getD a.1 0 := fun a ha => by
    obtain ⟨i, _, rfl⟩ := List.mem_map.1 (hp.mem_iff.1 ha)
    rfl
  refine UpSet.take ?_ ?_ k
  · have := hp.map (·.1)
    rw [List.map_map] at this
    have e : ((fun x : Nat × Int => x.1) ∘ fun i => (i, rs.getD i 0)) = id := rfl
    rw [e, List.map_id] at this
    exact this
  · rw [List.pairwise_map]
    refine List.Pairwise.imp_of_mem (fun ha hb h => ?_) hs
    unfold beats
    rw [← hv _ ha, ← hv _ hb]
    exact h
end Go.Proofs.YtfnbmcinbmbehaaGreatDoor
/- Plain: a fair division: what all get is what all cost. -/
namespace Go.Proofs.YtfnbmcinbmbehaaGreatDoor
def bitN (g i : Nat) : Nat := g / 2 ^ i % 2
def szN : Nat → Nat → Nat
  | 0, _ => 0
  | n + 1, g => szN n g + bitN g n
def factN : Nat → Nat
  | 0 => 1
  | n + 1 => factN n * (n + 1)
def wN (n g : Nat) : Nat := factN (szN n g) * factN (n - 1 - szN n g)
def term (n : Nat) (cs : List Int) (g i : Nat) : Int := if bitN g i = 0 then ((wN n g : Nat) : Int) * (cs.getD (g + 2 ^ i) 0 - cs.getD g 0) else 0
def numTo (n : Nat) (cs : List Int) : Nat → Nat → Int
  | 0, _ => 0
  | g + 1, i => numTo n cs g i + term n cs g i
def sumTo (f : Nat → Int) : Nat → Int
  | 0 => 0
  | n + 1 => sumTo f n + f n
/-- the coefficient of cs[k] -/
def lin (n : Nat) (c : Nat → Int) (cs : List Int) : Int := sumTo (fun k => c k * cs.getD k 0) n
theorem all_out (n : Nat) (hn : n ≤ 5) (cs : List Int) : sumTo (fun i => numTo n cs (2 ^ n) i) n = (factN n : Nat) * (cs.getD (2 ^ n - 1) 0 - cs.getD 0 0) := by
  have e : n = 0 ∨ n = 1 ∨ n = 2 ∨ n = 3 ∨ n = 4 ∨ n = 5 := by omega
  rcases e with rfl | rfl | rfl | rfl | rfl | rfl
  · simp [sumTo, factN]
  all_goals
    simp [sumTo, factN, numTo, term, wN, szN, bitN]
    try omega
end Go.Proofs.YtfnbmcinbmbehaaGreatDoor
namespace Go.Proofs.YtfnbmcinbmbehaaGreatDoor
theorem sumTo_add (f g : Nat → Int) (n : Nat) : sumTo (fun i => f i + g i) n = sumTo f n + sumTo g n := by
  induction n with
  | zero => rfl
  | succ n ih => simp only [sumTo, ih]; omega
theorem sumTo_congr {f g : Nat → Int} {n : Nat} (h : ∀ i, i < n → f i = g i) : sumTo f n = sumTo g n := by
  induction n with
  | zero => rfl
  | succ n ih => simp only [sumTo]; rw [ih (fun i hi => h i (by omega)), h n (by omega)]
theorem sumTo_mul (F : Int) (f : Nat → Int) (n : Nat) : sumTo (fun i => F * f i) n = F * sumTo f n := by
  induction n with
  | zero => simp [sumTo]
  | succ n ih => simp only [sumTo, ih, Int.mul_add]
theorem sumTo_bd (f : Nat → Int) (n : Nat) (lo hi : Int) (h : ∀ i, i < n → lo ≤ f i ∧ f i ≤ hi) : n * lo ≤ sumTo f n ∧ sumTo f n ≤ n * hi := by
  induction n with
  | zero => simp [sumTo]
  | succ n ih =>
    have h1 := ih (fun i hi => h i (by omega))
    have h2 := h n (by omega)
    simp only [sumTo]
    have e1 : ((n + 1 : Nat) : Int) * lo = n * lo + lo := by rw [Int.natCast_succ, Int.add_mul]; omega
    have e2 : ((n + 1 : Nat) : Int) * hi = n * hi + hi := by rw [Int.natCast_succ, Int.add_mul]; omega
    omega
/-- What is left when all are rounded down: at most one for each. -/
theorem left_bd (num : Nat → Int) (n : Nat) (F c : Int) (hF : 0 < F) (hs : sumTo num n = F * c) : 0 ≤ c - sumTo (fun i => num i / F) n ∧ c - sumTo (fun i => num i / F) n ≤ n := by
  have h1 : sumTo num n = F * sumTo (fun i => num i / F) n + sumTo (fun i => num i % F) n := by
    rw [← sumTo_mul, ← sumTo_add]
    exact sumTo_congr fun i _ => (Int.mul_ediv_add_emod _ _).symm
  have h2 := sumTo_bd (fun i => num i % F) n 0 F (fun i _ => ⟨Int.emod_nonneg _ (by omega), Int.le_of_lt (Int.emod_lt_of_pos _ hF)⟩)
  generalize sumTo (fun i => num i / F) n = q at *
  generalize sumTo (fun i => num i % F) n = r at *
  have h3 : F * (c - q) = r := by rw [Int.mul_sub]; omega
  constructor
  · refine Int.le_of_mul_le_mul_left (a := F) ?_ hF
    omega
  · refine Int.le_of_mul_le_mul_left (a := F) ?_ hF
    rw [h3, Int.mul_comm F]; exact h2.2
end Go.Proofs.YtfnbmcinbmbehaaGreatDoor
/- Plain: a whole given out by parts. -/
namespace Go.Proofs.YtfnbmcinbmbehaaGreatDoor

def sumL : List Int → Int
  | [] => 0
  | x :: l => x + sumL l
theorem sumL_app (a b : List Int) : sumL (a ++ b) = sumL a + sumL b := by
  induction a with
  | nil => simp [sumL]
  | cons x a ih => simp only [List.cons_append, sumL, ih]; omega
theorem sumL_snoc (a : List Int) (x : Int) : sumL (a ++ [x]) = sumL a + x := by rw [sumL_app]; simp [sumL]
theorem sumL_take (l : List Int) (k : Nat) (hk : k < l.length) : sumL (l.take (k + 1)) = sumL (l.take k) + l[k] := by
  rw [List.take_succ_eq_append_getElem hk, sumL_snoc]
theorem sumL_range (f : Nat → Int) (n : Nat) : sumL ((List.range n).map f) = sumTo f n := by
  induction n with
  | zero => rfl
  | succ n ih => rw [List.range_succ, List.map_append, List.map_cons, List.map_nil, sumL_snoc, ih]; rfl
theorem sumL_mul (c : Int) (l : List Int) : sumL (l.map (fun p => c * p)) = c * sumL l := by
  induction l with
  | nil => simp [sumL]
  | cons x l ih => simp only [List.map_cons, sumL, ih, Int.mul_add]
theorem sumL_bd (l : List Int) (lo hi : Int) (h : ∀ x ∈ l, lo ≤ x ∧ x ≤ hi) : l.length * lo ≤ sumL l ∧ sumL l ≤ l.length * hi := by
  induction l with
  | nil => simp [sumL]
  | cons x l ih =>
    have h1 := ih (fun y hy => h y (List.mem_cons_of_mem _ hy))
    have h2 := h x (by simp)
    simp only [sumL, List.length_cons]
    have e1 : ((l.length + 1 : Nat) : Int) * lo = l.length * lo + lo := by rw [Int.natCast_succ, Int.add_mul]; omega
    have e2 : ((l.length + 1 : Nat) : Int) * hi = l.length * hi + hi := by rw [Int.natCast_succ, Int.add_mul]; omega
    omega
theorem sumL_split (F : Int) (nums : List Int) : sumL nums = F * sumL (nums.map (· / F)) + sumL (nums.map (· % F)) := by
  induction nums with
  | nil => simp [sumL]
  | cons x l ih =>
    simp only [List.map_cons, sumL, Int.mul_add]
    have := Int.mul_ediv_add_emod x F
    omega
def qsN (nums : List Int) (F : Int) : List Int := nums.map (· / F)
def rsN (nums : List Int) (F : Int) : List Int := nums.map (· % F)
def leftN (all : Int) (nums : List Int) (F : Int) : Int := all - sumL (qsN nums F)
theorem qsN_len (nums : List Int) (F : Int) : (qsN nums F).length = nums.length := by simp [qsN]
theorem rsN_len (nums : List Int) (F : Int) : (rsN nums F).length = nums.length := by simp [rsN]
theorem leftN_bd {nums : List Int} {F c : Int} (hF : 0 < F) (hs : sumL nums = F * c) : 0 ≤ leftN c nums F ∧ leftN c nums F ≤ nums.length := by
  have h1 := sumL_split F nums
  have h2 := sumL_bd (nums.map (· % F)) 0 F (fun x hx => by
    obtain ⟨y, _, rfl⟩ := List.mem_map.1 hx
    exact ⟨Int.emod_nonneg _ (by omega), Int.le_of_lt (Int.emod_lt_of_pos _ hF)⟩)
  unfold leftN qsN
  rw [List.length_map] at h2
  generalize sumL (nums.map (· / F)) = q at *
  generalize sumL (nums.map (· % F)) = r at *
  have h3 : F * (c - q) = r := by rw [Int.mul_sub]; omega
  constructor
  · refine Int.le_of_mul_le_mul_left (a := F) ?_ hF
    omega
  · refine Int.le_of_mul_le_mul_left (a := F) ?_ hF
    rw [h3, Int.mul_comm F]; exact h2.2
theorem rsN_nonneg {nums : List Int} {F : Int} (hF : 0 < F) (i : Nat) : 0 ≤ (rsN nums F).getD i 0 := by
  unfold rsN
  rw [List.getD_eq_getElem?_getD, List.getElem?_map]
  cases nums[i]? with
  | none => simp
  | some x => exact Int.emod_nonneg _ (by omega)
/-- A whole 'all' given out by numbers of which all together are F times it. -/
def Handed (all : Int) (nums : List Int) (F : Int) (zs : List Int) : Prop := Dealt (qsN nums F) (rsN nums F) (leftN all nums F).toNat zs
theorem Handed.unique {all : Int} {nums : List Int} {F : Int} {zs zs' : List Int} (h : Handed all nums F zs) (h' : Handed all nums F zs') : zs = zs' := Dealt.unique h h'
theorem Handed.len {all : Int} {nums : List Int} {F : Int} {zs : List Int} (h : Handed all nums F zs) : zs.length = nums.length := by
  obtain ⟨T, _, _, rfl⟩ := h
  rw [bump_len, qsN_len]
def numsD (cents : Int) (parts : List Int) : List Int := parts.map (fun p => cents * p)
theorem numsD_sum (cents : Int) (parts : List Int) : sumL (numsD cents parts) = sumL parts * cents := by
  unfold numsD; rw [sumL_mul, Int.mul_comm]
/-- Cents given out by parts. -/
def Divided (cents : Int) (parts : List Int) (zs : List Int) : Prop := Handed cents (numsD cents parts) (sumL parts) zs
theorem divided_433 {zs : List Int} (h : Divided 10 [1, 1, 1] zs) : zs = [4, 3, 3] := by
  refine Handed.unique h ?_
  refine ⟨[0], ⟨by simp, by decide, ?_⟩, by decide, by decide⟩
  intro i hi j hj hjT
  simp at hi; subst hi
  have e : rsN (numsD 10 [1, 1, 1]) (sumL [1, 1, 1]) = [1, 1, 1] := by decide
  rw [e] at hj ⊢
  have : j = 1 ∨ j = 2 := by simp at hj hjT; omega
  rcases this with rfl | rfl <;> exact .inr ⟨rfl, by omega⟩
def numsF (n : Nat) (cs : List Int) (g : Nat) : List Int := (List.range n).map (numTo n cs g)
theorem numsF_sum (n : Nat) (hn : n ≤ 5) (cs : List Int) (h0 : cs.getD 0 0 = 0) : sumL (numsF n cs (2 ^ n)) = (factN n : Nat) * cs.getD (2 ^ n - 1) 0 := by
  unfold numsF
  rw [sumL_range, all_out n hn cs, h0, Int.sub_zero]
theorem factN_pos (n : Nat) : 0 < factN n := by
  induction n with
  | zero => decide
  | succ n ih => exact Nat.mul_pos ih (Nat.succ_pos n)
end Go.Proofs.YtfnbmcinbmbehaaGreatDoor
/- Plain functions: what is wrong with keys, parts, costs, dues, steps; gains, refunds. -/
namespace Go.Proofs.YtfnbmcinbmbehaaGreatDoor

def maxCt : Int := 1000000000
def strLe (a b : ByteArray) : Bool := Op.bytesLess a.toList b.toList || a.toList == b.toList
/-- A key that stands behind another one. -/
def strF (p : Option ByteArray) (s : ByteArray) : Int := if keyB s then (match p with | some q => if strLe s q then 7 else 0 | none => 0) else 5
def risF (l : List ByteArray) : Int := chk strF none l
def keysF (l : List ByteArray) : Int := if 10 < l.length then 2 else risF l
def centB (n : Int) : Bool := outB n 0 maxCt
def partsF (cents : Int) (parts : List Int) : Int :=
  if centB cents then 1 else if 1000 < parts.length then 2 else if parts.any centB then 1 else if sumL parts = 0 then 8 else 0
def fairF (rides : List ByteArray) (costs : List Int) : Int :=
  if keysF rides = 0 then (if costs.length = 2 ^ rides.length then (if costs.getD 0 0 ≠ 0 ∨ costs.any centB = true then 1 else 0) else 3) else keysF rides
structure Due where
  key : ByteArray
  cents : Int
instance : Inhabited Due := ⟨⟨default, 0⟩⟩
def encDue (d : Due) : List Value := [.string d.key, .int .i64 d.cents]
def encS (s : ByteArray) : List Value := [.string s]
/-- A whole shared fairly. -/
def FairR (rides : List ByteArray) (costs : List Int) (ds : List Due) : Prop :=
  ∃ zs, Handed (costs.getD (2 ^ rides.length - 1) 0) (numsF rides.length costs (2 ^ rides.length)) (factN rides.length : Nat) zs ∧ ds = List.zipWith Due.mk rides zs
theorem FairR.unique {rides : List ByteArray} {costs : List Int} {ds ds' : List Due} (h : FairR rides costs ds) (h' : FairR rides costs ds') : ds = ds' := by
  obtain ⟨zs, h1, rfl⟩ := h
  obtain ⟨zs', h2, rfl⟩ := h'
  rw [h1.unique h2]
def duesF (rides : List ByteArray) (ds : List Due) : Int :=
  if rides = ds.map (·.key) then (if ds.any (fun d => outB d.cents (-maxCt) maxCt) then 1 else 0) else 3
/-- Those of a group. -/
def whoTo (rides : List ByteArray) (g : Nat) : Nat → List ByteArray
  | 0 => []
  | k + 1 => if bitN g k = 1 then whoTo rides g k ++ [rides.getD k default] else whoTo rides g k
def sumG (cs : List Int) (g : Nat) : Nat → Int
  | 0 => 0
  | k + 1 => if bitN g k = 1 then sumG cs g k + cs.getD k 0 else sumG cs g k
/-- The first group that would pay less alone. -/
def gainL (rides : List ByteArray) (cs costs : List Int) : List Nat → List ByteArray
  | [] => []
  | g :: gs => if costs.getD g 0 < sumG cs g rides.length then whoTo rides g rides.length else gainL rides cs costs gs
structure Frac where
  num : Int
  den : Int
instance : Inhabited Frac := ⟨⟨0, 0⟩⟩
def encFrac (d : Frac) : List Value := [.int .i64 d.num, .int .i64 d.den]
def endMs : Int := 345686400000
def stepF (p : Option Frac) (s : Frac) : Int :=
  if outB s.num 1 endMs || outB s.den 0 100 then 1 else (match p with | some q => if s.num ≤ q.num ∨ s.den < q.den then 7 else 0 | none => 0)
def refF (due late : Int) (steps : List Frac) : Int :=
  if centB due || outB late 0 endMs then 1 else if 20 < steps.length then 2 else chk stepF none steps
def refPart (late : Int) : List Frac → Int → Int
  | [], d => d
  | s :: l, d => refPart late l (if s.num ≤ late then s.den else d)
def refI (due late : Int) (steps : List Frac) : Int := due * refPart late steps 0 / 100
end Go.Proofs.YtfnbmcinbmbehaaGreatDoor
/- Sorted keys: the program's check and the reference's. -/
namespace Go.Proofs.YtfnbmcinbmbehaaGreatDoor
open Go.RowKit

def Small (l : List ByteArray) : Prop := ∀ s ∈ l, s.size ≤ 1000000
theorem Small.at {l : List ByteArray} (h : Small l) (k : Nat) (hk : k < l.length) : l[k].size ≤ 1000000 := h _ (List.getElem_mem hk)

set_option maxHeartbeats 1000000 in
theorem w_keysFault (lo : Nat) (A : Option Addr) (c : Nat) (l : List ByteArray) (w : World) (hR : Rd w lo A 1 encS l) (hS : Small l) (hl : l.length ≤ 65536) :
    Calls Tryz.prog 46 #[.slice A l.length c] w fun e w' => e = .returned (.int .i64 (keysF l)) ∧ w = w' := by
  generalize hn : l.length = n at *
  have HR := hide hR
  have HN := hide hn
  have HS := hide hS
  clear hR hn hS
  by_cases hbig : 10 < n
  · go_enter Tryz.func46, Tryz.ntmps46
    go_wp2
    go_ret
    exact ⟨ret_int (by unfold keysF; rw [if_pos (by rw [HN.out]; exact hbig)]), rfl⟩
  · have HF := hide (show keysF l = chk strF none l by unfold keysF; rw [if_neg (by rw [HN.out]; exact hbig)]; rfl)
    go_enter Tryz.func46, Tryz.ntmps46
    go_wp2
    go_loop [2, 3, 4, 10] (fun _ _ _ i => ∃ k : Nat, k ≤ n ∧ i = .int .i64 k ∧ chk strF none l = chk strF (prevOf l k) (l.drop k)) (fun _ _ _ i => n - (intOf i).toNat)
    case atStart => exact ⟨0, Nat.zero_le _, rfl, rfl⟩
    case round =>
      obtain ⟨k, hk, rfl, hq⟩ := hrel
      have HQ := hide hq
      clear hq
      by_cases hlt : k < n
      · have hlt' : k < l.length := by have := HN.out; omega
        obtain ⟨b, off, rfl, _, hb, _, hc⟩ := HR.out.open_ (Nx.refl w) (by omega)
        have c0 : w.cell? ⟨b, off + k, none⟩ = some (.string l[k]) := by have := hc k hlt' 0 _ rfl; simpa using this
        have hsz := HS.out.at k hlt'
        have HC := hide hc
        clear hc
        have HD := hide (chk_drop strF l k hlt')
        cases hkb : keyB l[k]
        · have HV := hide (show strF (prevOf l k) l[k] = 5 by unfold strF; rw [hkb]; rfl)
          go_wp2_with (go_at_call 70; refine (w_Key _ _ hsz).mono ?_; rintro e w' ⟨rfl, rfl⟩)
          go_ret
          exact ⟨ret_int (by rw [HF.out, HQ.out, HD.out, HV.out]; rfl), rfl⟩
        · by_cases hk0 : 0 < k
          · have c4 : w.cell? ⟨b, off + (k - 1), none⟩ = some (.string (l[k - 1]'(by omega))) := by have := HC.out (k - 1) (by omega) 0 _ rfl; simpa using this
            have HV := hide (show strF (prevOf l k) l[k] = if strLe l[k] (l[k - 1]'(by omega)) then 7 else 0 by rw [prevOf_pos l k hk0 (by omega)]; unfold strF; rw [hkb]; rfl)
            generalize (l[k - 1]'(by omega)) = p0 at *
            have q1 : IntKind.i64.wrap ((k : Int) - 1) = (k : Int) - 1 := IntWalk.i64_in _ (by omega)
            have q2 : (1 : Int) ≤ (k : Int) := by omega
            have q3 : ((k : Int) - 1).toNat = k - 1 := by omega
            have q4 : (k : Int) - 1 < (n : Int) := by omega
            cases ho : strLe l[k] p0
            · have t1 : (Op.bytesLess l[k].toList p0.toList || l[k].toList == p0.toList) = false := ho
              have HO := hide ho
              clear ho
              go_wp2_with (go_at_call 70; refine (w_Key _ _ hsz).mono ?_; rintro e w' ⟨rfl, rfl⟩)
              go_round
              case rel => exact ⟨k + 1, by omega, by go_num, by rw [HQ.out, HD.out, HV.out, HO.out]; rfl⟩
              case measure => simp [intOf]; omega
            · have t1 : (Op.bytesLess l[k].toList p0.toList || l[k].toList == p0.toList) = true := ho
              have HO := hide ho
              clear ho
              go_wp2_with (go_at_call 70; refine (w_Key _ _ hsz).mono ?_; rintro e w' ⟨rfl, rfl⟩)
              go_ret
              exact ⟨ret_int (by rw [HF.out, HQ.out, HD.out, HV.out, HO.out]; rfl), rfl⟩
          · have HV := hide (show strF (prevOf l k) l[k] = 0 by have e : k = 0 := (by omega); subst e; rw [prevOf_zero]; unfold strF; rw [hkb]; rfl)
            have hd : decide (0 < k) = false := by simpa using hk0
            go_wp2_with (go_at_call 70; refine (w_Key _ _ hsz).mono ?_; rintro e w' ⟨rfl, rfl⟩)
            go_round
            case rel => exact ⟨k + 1, by omega, by go_num, by rw [HQ.out, HD.out, HV.out, if_pos rfl]⟩
            case measure => simp [intOf]; omega
      · go_wp2
        go_ret
        exact ⟨ret_int (by rw [HF.out, HQ.out, List.drop_of_length_le (by have := HN.out; omega)]; rfl), rfl⟩

set_option maxHeartbeats 1000000 in
theorem w_RisingFault (lo : Nat) (A : Option Addr) (c : Nat) (l : List ByteArray) (w : World) (hR : Rd w lo A 1 encS l) (hS : Small l) (hl : l.length ≤ 65536) :
    Calls Tryz.prog 24 #[.slice A l.length c] w fun e w' => e = .returned (.int .i64 (risF l)) ∧ Nx w w' := by
  generalize hn : l.length = n at *
  have HR := hide hR
  have HN := hide hn
  have HS := hide hS
  clear hR hn hS
  have HF := hide (show risF l = chk strF none l from rfl)
  go_enter Tryz.func24, Tryz.ntmps24
  go_wp2
  go_loopw [2, 3, 4, 7, 12, 16] (fun _ _ _ i _ _ wr => ∃ k : Nat, k ≤ n ∧ i = .int .i64 k ∧ Nx w wr ∧ chk strF none l = chk strF (prevOf l k) (l.drop k)) (fun _ _ _ i _ _ _ => n - (intOf i).toNat)
  case atStart => exact ⟨0, Nat.zero_le _, rfl, Nx.refl _, rfl⟩
  case round =>
    obtain ⟨k, hk, rfl, hbw, hq⟩ := hrel
    have HQ := hide hq
    clear hq
    by_cases hlt : k < n
    · have hlt' : k < l.length := by have := HN.out; omega
      obtain ⟨b, off, rfl, _, hb, hbr, hc⟩ := HR.out.open_ hbw (by omega)
      have c0 : wr.cell? ⟨b, off + k, none⟩ = some (.string l[k]) := by have := hc k hlt' 0 _ rfl; simpa using this
      have hsz := HS.out.at k hlt'
      have HC := hide hc
      clear hc
      have HD := hide (chk_drop strF l k hlt')
      cases hkb : keyB l[k]
      · have HV := hide (show strF (prevOf l k) l[k] = 5 by unfold strF; rw [hkb]; rfl)
        go_wp2_with (go_at_call 45; refine (w_KeyR _ _ hsz).mono ?_; rintro e w1 ⟨rfl, hn1⟩)
        go_ret
        exact ⟨ret_int (by rw [HF.out, HQ.out, HD.out, HV.out]; rfl), hbw.trans hn1⟩
      · by_cases hk0 : 0 < k
        · have c4 : wr.cell? ⟨b, off + (k - 1), none⟩ = some (.string (l[k - 1]'(by omega))) := by have := HC.out (k - 1) (by omega) 0 _ rfl; simpa using this
          have HV := hide (show strF (prevOf l k) l[k] = if strLe l[k] (l[k - 1]'(by omega)) then 7 else 0 by rw [prevOf_pos l k hk0 (by omega)]; unfold strF; rw [hkb]; rfl)
          generalize (l[k - 1]'(by omega)) = p0 at *
          have q1 : IntKind.i64.wrap ((k : Int) - 1) = (k : Int) - 1 := IntWalk.i64_in _ (by omega)
          have q2 : (1 : Int) ≤ (k : Int) := by omega
          have q3 : ((k : Int) - 1).toNat = k - 1 := by omega
          have q4 : (k : Int) - 1 < (n : Int) := by omega
          cases ho : strLe l[k] p0
          · have t1 : (Op.bytesLess l[k].toList p0.toList || l[k].toList == p0.toList) = false := ho
            have HO := hide ho
            clear ho
            go_wp2_with (go_at_call 45; refine (w_KeyR _ _ hsz).mono ?_; rintro e w1 ⟨rfl, hn1⟩; (have c5 : w1.cell? ⟨b, off + (k - 1), none⟩ = some (.string p0) := (Below.cell hn1 (p := ⟨b, _, none⟩) hbr).trans c4))
            go_roundw
            case rel => exact ⟨k + 1, by omega, by go_num, hbw.trans hn1, by rw [HQ.out, HD.out, HV.out, HO.out]; rfl⟩
            case measure => simp [intOf]; omega
          · have t1 : (Op.bytesLess l[k].toList p0.toList || l[k].toList == p0.toList) = true := ho
            have HO := hide ho
            clear ho
            go_wp2_with (go_at_call 45; refine (w_KeyR _ _ hsz).mono ?_; rintro e w1 ⟨rfl, hn1⟩; (have c5 : w1.cell? ⟨b, off + (k - 1), none⟩ = some (.string p0) := (Below.cell hn1 (p := ⟨b, _, none⟩) hbr).trans c4))
            go_ret
            exact ⟨ret_int (by rw [HF.out, HQ.out, HD.out, HV.out, HO.out]; rfl), hbw.trans hn1⟩
        · have HV := hide (show strF (prevOf l k) l[k] = 0 by have e : k = 0 := (by omega); subst e; rw [prevOf_zero]; unfold strF; rw [hkb]; rfl)
          have hd : decide (0 < k) = false := by simpa using hk0
          go_wp2_with (go_at_call 45; refine (w_KeyR _ _ hsz).mono ?_; rintro e w1 ⟨rfl, hn1⟩)
          go_roundw
          case rel => exact ⟨k + 1, by omega, by go_num, hbw.trans hn1, by rw [HQ.out, HD.out, HV.out, if_pos rfl]⟩
          case measure => simp [intOf]; omega
    · go_wp2
      go_ret
      exact ⟨ret_int (by rw [HF.out, HQ.out, List.drop_of_length_le (by have := HN.out; omega)]; rfl), hbw⟩
end Go.Proofs.YtfnbmcinbmbehaaGreatDoor
/- slices.ContainsFunc over numbers and dues, slices.EqualFunc of keys and dues: each for every function value that answers plainly. -/
namespace Go.Proofs.YtfnbmcinbmbehaaGreatDoor
open Go.RowKit

def Enters (g : Nat) : Prop := ∀ args w, (callFunc g args).run Tryz.prog w = .ok (.enter g args) w

set_option maxHeartbeats 1000000 in
theorem w_IndexFI (g : Nat) (p : Int → Bool) (eg : Enters g) (hcl : ∀ x W, Calls Tryz.prog g #[.int .i64 x] W fun e w' => e = .returned (.bool (p x)) ∧ W = w')
    (lo : Nat) (A : Option Addr) (c : Nat) (l : List Int) (w : World) (hR : Rd w lo A 1 encI l) (hl : l.length ≤ 65536) :
    Calls Tryz.prog 51 #[.slice A l.length c, .func (.func g) #[] #[]] w fun e w' => ∃ r : Int, e = .returned (.int .i64 r) ∧ decide (0 ≤ r) = l.any p ∧ w = w' := by
  generalize hn : l.length = n at *
  have HR := hide hR
  have HN := hide hn
  have HC0 := hide hcl
  clear hR hn hcl
  unfold Enters at eg
  go_enter Tryz.func51, Tryz.ntmps51
  go_wp2
  go_loop [5, 8] (fun _ i => ∃ k : Nat, k ≤ n ∧ i = .int .i64 k ∧ (l.take k).any p = false) (fun _ i => n - (intOf i).toNat)
  case atStart => exact ⟨0, Nat.zero_le _, rfl, rfl⟩
  case round =>
    obtain ⟨k, hk, rfl, hq⟩ := hrel
    have HQ := hide hq
    clear hq
    by_cases hlt : k < n
    · have hlt' : k < l.length := by have := HN.out; omega
      obtain ⟨b, off, rfl, _, hb, _, hc⟩ := HR.out.open_ (Nx.refl w) (by omega)
      have c0 : w.cell? ⟨b, off + k, none⟩ = some (.int .i64 l[k]) := by have := hc k hlt' 0 _ rfl; simpa using this
      clear hc
      cases hbig : p l[k]
      · have HB := hide hbig
        have hcl := HC0.out l[k]
        rw [hbig] at hcl
        have HCL := hide hcl
        clear hbig hcl
        go_wp2_with (go_at_fn g; refine (HCL.out _).mono ?_; rintro e w2 ⟨rfl, rfl⟩)
        go_round
        case rel => exact ⟨k + 1, by omega, by go_num, by rw [List.take_succ_eq_append_getElem hlt', List.any_append, HQ.out]; simp [HB.out]⟩
        case measure => simp [intOf]; omega
      · have HB := hide hbig
        have hcl := HC0.out l[k]
        rw [hbig] at hcl
        have HCL := hide hcl
        clear hbig hcl
        go_wp2_with (go_at_fn g; refine (HCL.out _).mono ?_; rintro e w2 ⟨rfl, rfl⟩)
        go_ret
        refine ⟨_, rfl, ?_, rfl⟩
        rw [show l.any p = true from List.any_eq_true.2 ⟨l[k], List.getElem_mem hlt', HB.out⟩]
        simp
    · go_wp2
      go_ret
      refine ⟨_, rfl, ?_, rfl⟩
      have := HQ.out
      rw [List.take_of_length_le (by have := HN.out; omega)] at this
      rw [this]; rfl
theorem w_ContFI (g : Nat) (p : Int → Bool) (eg : Enters g) (hcl : ∀ x W, Calls Tryz.prog g #[.int .i64 x] W fun e w' => e = .returned (.bool (p x)) ∧ W = w')
    (lo : Nat) (A : Option Addr) (c : Nat) (l : List Int) (w : World) (hR : Rd w lo A 1 encI l) (hl : l.length ≤ 65536) :
    Calls Tryz.prog 28 #[.slice A l.length c, .func (.func g) #[] #[]] w fun e w' => e = .returned (.bool (l.any p)) ∧ w = w' := by
  have hcon := fun W => w_IndexFI g p eg hcl lo A c l W
  clear hcl eg
  go_enter Tryz.func28, Tryz.ntmps28
  go_wp2_with (go_at_call 51; refine (hcon _ hR hl).mono ?_; rintro e w2 ⟨r, rfl, hr, rfl⟩)
  go_ret
  exact ⟨rfl, rfl⟩

theorem eqS_iff (s t : ByteArray) : (s.toList == t.toList) = decide (s = t) := by
  rw [Bool.eq_iff_iff, beq_iff_eq, decide_eq_true_eq, Lib.toList_data, Lib.toList_data]
  constructor
  · intro h
    rcases s with ⟨⟨s⟩⟩
    rcases t with ⟨⟨t⟩⟩
    simp at h
    rw [h]
  · rintro rfl; rfl

/-- Cents told of a due. -/
def badD (d : Due) : Bool := outB d.cents (-maxCt) maxCt
theorem w_fairF1 (x : Int) (w : World) : Calls Tryz.prog 52 #[.int .i64 x] w fun e w' => e = .returned (.bool (centB x)) ∧ w = w' := by
  have H := hide (show centB x = outB x 0 maxCt from rfl)
  go_enter Tryz.func52, Tryz.ntmps52
  go_wp2_with (go_at_call 22; rw [show (1000000000 : Int) = maxCt from rfl]; refine (w_Out _ _ _ _).mono ?_; rintro e w' ⟨rfl, rfl⟩)
  go_ret
  exact ⟨ret_bool (by rw [H.out]), rfl⟩
theorem w_FairF1 (x : Int) (w : World) : Calls Tryz.prog 29 #[.int .i64 x] w fun e w' => e = .returned (.bool (centB x)) ∧ w = w' := by
  have H := hide (show centB x = outB x 0 maxCt from rfl)
  have H2 := hide (inB_out x 0 maxCt)
  go_enter Tryz.func29, Tryz.ntmps29
  go_wp2_with (go_at_call 21; rw [show (1000000000 : Int) = maxCt from rfl]; refine (w_in _ _ _ _).mono ?_; rintro e w' ⟨rfl, rfl⟩)
  go_ret
  exact ⟨ret_bool (by rw [H.out, H2.out, Bool.not_not]), rfl⟩

theorem keys_step {l : List ByteArray} {ds : List Due} {k : Nat} (hl : l.length = ds.length) (hk : k < l.length) (h : l.take k = (ds.take k).map (·.key)) (he : l[k] = (ds[k]'(by omega)).key) : l.take (k + 1) = (ds.take (k + 1)).map (·.key) := by
  rw [List.take_succ_eq_append_getElem hk, List.take_succ_eq_append_getElem (by omega), List.map_append, h, he]; rfl
theorem keys_not {l : List ByteArray} {ds : List Due} {k : Nat} (hl : l.length = ds.length) (hk : k < l.length) (he : ¬ l[k] = (ds[k]'(by omega)).key) : ¬ l = ds.map (·.key) := by
  intro h
  apply he
  have : l[k]? = (ds.map (·.key))[k]? := by rw [← h]
  rw [List.getElem?_eq_getElem hk, List.getElem?_map, List.getElem?_eq_getElem (by omega)] at this
  simpa using this
theorem eg_of_fairF1 : Enters 52 := enters_of Tryz.func52 (by kernel_rfl) rfl
theorem eg_of_FairF1 : Enters 29 := enters_of Tryz.func29 (by kernel_rfl) rfl
end Go.Proofs.YtfnbmcinbmbehaaGreatDoor
