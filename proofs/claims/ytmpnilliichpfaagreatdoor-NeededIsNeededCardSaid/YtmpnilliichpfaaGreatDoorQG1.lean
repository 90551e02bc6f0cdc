/- Plain: what a key is, by the program's loop and by the reference's trim. -/
import Derived.Lib.SlTrimSet
import Derived.Lib.Bytealg
import Derived.Test.YtmpnilliichpfaaGreatDoorQG0
import Derived.Laws.Cover1
import Derived.WalkKit
import Derived.WalkSpells
import Derived.WalkLawsBesides
import Derived.IntWalk
import Derived.Test.YtmpnilliichpfaaGreatDoorRows
import Derived.Deep.QuietTactic
import Derived.BigQuiet
import Derived.Outline
import Derived.Test.YtmpnilliichpfaaGreatDoorQShelfK
namespace Go.Proofs.YtmpnilliichpfaaGreatDoor
def lowC (c : UInt8) : Bool := decide (97 ≤ c.toNat) && decide (c.toNat ≤ 122)
def digC (c : UInt8) : Bool := decide (48 ≤ c.toNat) && decide (c.toNat ≤ 57)
def keyC (c : UInt8) : Bool := lowC c || digC c || c == 45 || c == 95
/-- A key. -/
def keyL : List UInt8 → Bool
  | [] => false
  | c :: l => decide ((c :: l).length ≤ 40) && lowC c && (c :: l).all keyC
def keyB (s : ByteArray) : Bool := keyL s.data.toList
def smallL : List UInt8 := [97, 98, 99, 100, 101, 102, 103, 104, 105, 106, 107, 108, 109, 110, 111, 112, 113, 114, 115, 116, 117, 118, 119, 120, 121, 122]
def csetL : List UInt8 := smallL ++ [48, 49, 50, 51, 52, 53, 54, 55, 56, 57, 45, 95]
theorem all_u8 {p : UInt8 → Bool} (h : ∀ n : Fin 256, p (UInt8.ofNat n.val) = true) (c : UInt8) : p c = true := by
  have := h ⟨c.toNat, c.toNat_lt⟩
  simpa using this
theorem cset_key (c : UInt8) : csetL.contains c = keyC c := by
  have := all_u8 (p := fun c => csetL.contains c == keyC c) (by decide +kernel) c
  simpa using this
theorem small_low (c : UInt8) : decide (0 ≤ Go.Lib.indexByte smallL c) = lowC c := by
  have := all_u8 (p := fun c => decide (0 ≤ Go.Lib.indexByte smallL c) == lowC c) (by decide +kernel) c
  simpa using this
theorem drop_nil {p : UInt8 → Bool} : ∀ {l : List UInt8}, l.dropWhile p = [] ↔ l.all p = true
  | [] => by simp
  | c :: l => by
    by_cases h : p c = true
    · rw [List.dropWhile_cons_of_pos h, drop_nil]; simp [h]
    · rw [List.dropWhile_cons_of_neg h]; simp [h]
theorem drop_all {p : UInt8 → Bool} : ∀ {l : List UInt8}, (l.dropWhile p).all p = true → l.all p = true
  | [], h => h
  | c :: l, h => by
    by_cases hc : p c = true
    · rw [List.dropWhile_cons_of_pos hc] at h; simp [hc]; simpa using drop_all h
    · rw [List.dropWhile_cons_of_neg hc] at h; exact h
theorem all_drop {p : UInt8 → Bool} {l : List UInt8} (h : l.all p = true) : (l.dropWhile p).all p = true := by
  rw [drop_nil.2 h]; rfl
theorem trim_nil (l cs : List UInt8) : Go.Lib.trimS l cs = [] ↔ l.all (cs.contains ·) = true := by
  unfold Go.Lib.trimS Go.Lib.trimLeftS Go.Lib.trimRightS
  rw [drop_nil]
  simp only [List.all_reverse]
  constructor
  · intro h; have := drop_all h; simpa using this
  · intro h; exact all_drop (by simpa using h)
theorem trim_key (l : List UInt8) : (Go.Lib.trimS l csetL).isEmpty = l.all keyC := by
  have h := trim_nil l csetL
  have e : (fun c => csetL.contains c) = keyC := by funext c; exact cset_key c
  rw [e] at h
  cases h1 : l.all keyC
  · cases h2 : Go.Lib.trimS l csetL
    · rw [h.1 h2] at h1; cases h1
    · rfl
  · rw [h.2 h1]; rfl
end Go.Proofs.YtmpnilliichpfaaGreatDoor
/- Plain functions: what is left is given out one by one; sorting in place. -/
namespace Go.Proofs.YtmpnilliichpfaaGreatDoor
/-- i gets one of what is left ahead of j. -/
def beats (rs : List Int) (i j : Nat) : Prop := rs.getD j 0 < rs.getD i 0 ∨ (rs.getD i 0 = rs.getD j 0 ∧ i < j)
theorem beats_asymm {rs : List Int} {i j : Nat} (h : beats rs i j) (k : beats rs j i) : False := by unfold beats at h k; omega
structure UpSet (rs : List Int) (T : List Nat) : Prop where
  nd : T.Nodup
  lt : ∀ i ∈ T, i < rs.length
  up : ∀ i ∈ T, ∀ j, j < rs.length → j ∉ T → beats rs i j
theorem nodup_len : ∀ {l m : List Nat}, l.Nodup → (∀ x ∈ l, x ∈ m) → l.length ≤ m.length
  | [], _, _, _ => by simp
  | x :: l, m, hn, hs => by
    have h1 := List.nodup_cons.1 hn
    have h2 : l.length ≤ (m.erase x).length := nodup_len h1.2 (fun y hy => by
      have hne : y ≠ x := fun e => h1.1 (e ▸ hy)
      exact (List.mem_erase_of_ne hne).2 (hs y (List.mem_cons_of_mem _ hy)))
    have h3 := List.length_erase_of_mem (hs x (by simp))
    have h4 : 0 < m.length := List.length_pos_of_mem (hs x (by simp))
    simp only [List.length_cons]
    omega
theorem UpSet.sub {rs : List Int} {S T : List Nat} (hS : UpSet rs S) (hT : UpSet rs T) (hl : S.length = T.length) : ∀ i ∈ S, i ∈ T := by
  intro a ha
  refine Classical.byContradiction fun hna => ?_
  have hb : ∃ b ∈ T, b ∉ S := by
    refine Classical.byContradiction fun hno => ?_
    have hsub : ∀ x ∈ T, x ∈ S.erase a := fun x hx => by
      have hxS : x ∈ S := Classical.byContradiction fun h => hno ⟨x, hx, h⟩
      have hne : x ≠ a := fun e => hna (e ▸ hx)
      exact (List.mem_erase_of_ne hne).2 hxS
    have h1 := nodup_len hT.nd hsub
    have h2 := List.length_erase_of_mem ha
    have h3 : 0 < S.length := List.length_pos_of_mem ha
    omega
  obtain ⟨b, hb, hbS⟩ := hb
  exact beats_asymm (hS.up a ha b (hT.lt b hb) hbS) (hT.up b hb a (hS.lt a ha) hna)
theorem UpSet.same {rs : List Int} {S T : List Nat} (hS : UpSet rs S) (hT : UpSet rs T) (hl : S.length = T.length) (i : Nat) : i ∈ S ↔ i ∈ T :=
  ⟨hS.sub hT hl i, hT.sub hS hl.symm i⟩
/-- One more for those in T. -/
def bump (qs : List Int) (T : List Nat) : List Int := qs.mapIdx (fun i q => if i ∈ T then q + 1 else q)
theorem bump_len (qs : List Int) (T : List Nat) : (bump qs T).length = qs.length := by simp [bump]
theorem bump_nil (qs : List Int) : bump qs [] = qs := by
  apply List.ext_getElem
  · simp [bump]
  · intro i h1 h2; simp [bump]
theorem bump_get (qs : List Int) (T : List Nat) (i : Nat) (h : i < (bump qs T).length) : (bump qs T)[i] = if i ∈ T then qs[i]'(by rw [bump_len] at h; exact h) + 1 else qs[i]'(by rw [bump_len] at h; exact h) := by simp [bump]
theorem bump_same {qs : List Int} {S T : List Nat} (h : ∀ i, i ∈ S ↔ i ∈ T) : bump qs S = bump qs T := by
  unfold bump; congr 1; funext i q; simp [h i]
theorem bump_snoc (qs : List Int) (T : List Nat) (b : Nat) (hb : b ∉ T) (hl' : b < (bump qs T).length) : (bump qs T).set b ((bump qs T)[b] + 1) = bump qs (T ++ [b]) := by
  apply List.ext_getElem
  · simp [bump]
  · intro i h1 h2
    simp only [List.getElem_set, bump_get]
    by_cases e : b = i
    · subst e; simp [hb]
    · simp [e]
      by_cases h : i ∈ T
      · simp [h]
      · have : ¬ i = b := fun h => e h.symm
        simp [h, this]
/-- What is given out: rounded down, and what is left one by one to those ahead. -/
def Dealt (qs rs : List Int) (left : Nat) (zs : List Int) : Prop := ∃ T, UpSet rs T ∧ T.length = left ∧ zs = bump qs T
theorem Dealt.unique {qs rs : List Int} {left : Nat} {zs zs' : List Int} (h : Dealt qs rs left zs) (h' : Dealt qs rs left zs') : zs = zs' := by
  obtain ⟨S, hS, hl, rfl⟩ := h
  obtain ⟨T, hT, hl', rfl⟩ := h'
  exact bump_same (hS.same hT (hl.trans hl'.symm))
/-- What the reference still looks at. -/
def cur (rs : List Int) (T : List Nat) : List Int := rs.mapIdx (fun i r => if i ∈ T then -1 else r)
theorem cur_len (rs : List Int) (T : List Nat) : (cur rs T).length = rs.length := by simp [cur]
theorem cur_get (rs : List Int) (T : List Nat) (i : Nat) (h : i < rs.length) : (cur rs T).getD i 0 = if i ∈ T then -1 else rs.getD i 0 := by
  rw [List.getD_eq_getElem?_getD, List.getElem?_eq_getElem (by rw [cur_len]; exact h)]
  simp [cur, List.getD_eq_getElem?_getD, List.getElem?_eq_getElem h]
theorem cur_snoc (rs : List Int) (T : List Nat) (b : Nat) : (cur rs T).set b (-1) = cur rs (T ++ [b]) := by
  apply List.ext_getElem
  · simp [cur]
  · intro i h1 h2
    rw [List.getElem_set]
    by_cases e : b = i
    · subst e; simp [cur]
    · have : ¬ i = b := fun h => e h.symm
      simp [cur, e, this]
/-- The first of the greatest. -/
def FirstMax (cs : List Int) (b : Nat) : Prop := b < cs.length ∧ ∀ j, j < cs.length → cs.getD j 0 < cs.getD b 0 ∨ (cs.getD j 0 = cs.getD b 0 ∧ b ≤ j)
theorem UpSet.next {rs : List Int} {T : List Nat} {b : Nat} (h : UpSet rs T) (hr : ∀ i, i < rs.length → 0 ≤ rs.getD i 0) (hT : T.length < rs.length) (hb : FirstMax (cur rs T) b) : b ∉ T ∧ UpSet rs (T ++ [b]) := by
  obtain ⟨hbl, hm⟩ := hb
  rw [cur_len] at hbl hm
  have hfree : ∃ j, j < rs.length ∧ j ∉ T := by
    refine Classical.byContradiction fun hno => ?_
    have : ∀ x ∈ List.range rs.length, x ∈ T := fun x hx => Classical.byContradiction fun h => hno ⟨x, List.mem_range.1 hx, h⟩
    have := nodup_len List.nodup_range this
    rw [List.length_range] at this
    omega
  have hbT : b ∉ T := by
    intro hbT
    obtain ⟨j, hj, hjT⟩ := hfree
    have h1 := hm j hj
    rw [cur_get _ _ _ hj, cur_get _ _ _ hbl, if_neg hjT, if_pos hbT] at h1
    have := hr j hj
    omega
  refine ⟨hbT, ?_, ?_, ?_⟩
  · rw [List.nodup_append]
    refine ⟨h.nd, by simp, fun x hx y hy => ?_⟩
    simp at hy; subst hy
    exact fun e => hbT (e ▸ hx)
  · intro i hi
    rcases List.mem_append.1 hi with hi | hi
    · exact h.lt i hi
    · simp at hi; subst hi; exact hbl
  · intro i hi j hj hjT
    have hj1 : j ∉ T := fun h => hjT (List.mem_append_left _ h)
    have hj2 : j ≠ b := fun e => hjT (by simp [e])
    rcases List.mem_append.1 hi with hi | hi
    · exact h.up i hi j hj hj1
    · simp at hi; subst hi
      have h1 := hm j hj
      rw [cur_get _ _ _ hj, cur_get _ _ _ hbl, if_neg hj1, if_neg hbT] at h1
      unfold beats
      omega
theorem UpSet.nil (rs : List Int) : UpSet rs [] := ⟨List.nodup_nil, by simp, by simp⟩
/-- The first ones of all, in order. -/
theorem UpSet.take {rs : List Int} {l : List Nat} (hp : l.Perm (List.range rs.length)) (hs : l.Pairwise (beats rs)) (k : Nat) : UpSet rs (l.take k) := by
  have hnd : l.Nodup := hp.nodup_iff.2 List.nodup_range
  refine ⟨?_, ?_, ?_⟩
  · exact List.Nodup.sublist (List.take_sublist k l) hnd
  · intro i hi
    exact List.mem_range.1 (hp.mem_iff.1 (List.mem_of_mem_take hi))
  · intro i hi j hj hjT
    have hjl : j ∈ l := hp.mem_iff.2 (List.mem_range.2 hj)
    have hjd : j ∈ l.drop k := by
      rw [← List.take_append_drop k l] at hjl
      exact (List.mem_append.1 hjl).resolve_left hjT
    rw [← List.take_append_drop k l] at hs
    exact (List.pairwise_append.1 hs).2.2 i hi j hjd
/-- An element is put into its place among sorted ones: R is the order of all. -/
theorem ins_place {α : Type} {R : α → α → Prop} (pre suf : List α) (x : α) (h : (pre ++ suf).Pairwise R) (h1 : ∀ y ∈ pre, R y x) (h2 : ∀ y ∈ suf, R x y) : (pre ++ x :: suf).Pairwise R := by
  rw [List.pairwise_append] at h ⊢
  refine ⟨h.1, List.pairwise_cons.2 ⟨h2, h.2.1⟩, fun a ha b hb => ?_⟩
  rcases List.mem_cons.1 hb with rfl | hb
  · exact h1 a ha
  · exact h.2.2 a ha b hb
/-- Numbers with what is left of each, sorted: those ahead. -/
theorem sorted_up {rs : List Int} {ys : List (Nat × Int)} (hp : ys.Perm ((List.range rs.length).map (fun i => (i, rs.getD i 0)))) (hs : ys.Pairwise (fun a b => b.2 < a.2 ∨ (a.2 = b.2 ∧ a.1 < b.1))) (k : Nat) : UpSet rs ((ys.map (·.1)).take k) := by
  have hv : ∀ a ∈ ys, a.2 = rs.getD a.1 0 := fun a ha => by
    obtain ⟨i, _, rfl⟩ := List.mem_map.1 (hp.mem_iff.1 ha)
    rfl
  refine UpSet.take ?_ ?_ k
  · have := hp.map (·.1)
    rw [List.map_map] at this
    have e : ((fun x : Nat × Int => x.1) ∘ fun i => (i, rs.getD i 0)) = id := rfl
    rw [e, List.map_id] at this
    exact this
  · rw [List.pairwise_map]
    refine List.Pairwise.imp_of_mem (fun ha hb h => ?_) hs
    unfold beats
    rw [← hv _ ha, ← hv _ hb]
    exact h
end Go.Proofs.YtmpnilliichpfaaGreatDoor
/- Plain: a fair division: what all get is what all cost. -/
namespace Go.Proofs.YtmpnilliichpfaaGreatDoor
def bitN (g i : Nat) : Nat := g / 2 ^ i % 2
def szN : Nat → Nat → Nat
  | 0, _ => 0
  | n + 1, g => szN n g + bitN g n
def factN : Nat → Nat
  | 0 => 1
  | n + 1 => factN n * (n + 1)
def wN (n g : Nat) : Nat := factN (szN n g) * factN (n - 1 - szN n g)
def term (n : Nat) (cs : List Int) (g i : Nat) : Int := if bitN g i = 0 then ((wN n g : Nat) : Int) * (cs.getD (g + 2 ^ i) 0 - cs.getD g 0) else 0
def numTo (n : Nat) (cs : List Int) : Nat → Nat → Int
  | 0, _ => 0
  | g + 1, i => numTo n cs g i + term n cs g i
def sumTo (f : Nat → Int) : Nat → Int
  | 0 => 0
  | n + 1 => sumTo f n + f n
/-- the coefficient of cs[k] -/
def lin (n : Nat) (c : Nat → Int) (cs : List Int) : Int := sumTo (fun k => c k * cs.getD k 0) n
theorem all_out (n : Nat) (hn : n ≤ 5) (cs : List Int) : sumTo (fun i => numTo n cs (2 ^ n) i) n = (factN n : Nat) * (cs.getD (2 ^ n - 1) 0 - cs.getD 0 0) := by
  have e : n = 0 ∨ n = 1 ∨ n = 2 ∨ n = 3 ∨ n = 4 ∨ n = 5 := by omega
  rcases e with rfl | rfl | rfl | rfl | rfl | rfl
  · simp [sumTo, factN]
  all_goals
    simp [sumTo, factN, numTo, term, wN, szN, bitN]
    try omega
end Go.Proofs.YtmpnilliichpfaaGreatDoor
namespace Go.Proofs.YtmpnilliichpfaaGreatDoor
theorem sumTo_add (f g : Nat → Int) (n : Nat) : sumTo (fun i => f i + g i) n = sumTo f n + sumTo g n := by
  induction n with
  | zero => rfl
  | succ n ih => simp only [sumTo, ih]; omega
theorem sumTo_congr {f g : Nat → Int} {n : Nat} (h : ∀ i, i < n → f i = g i) : sumTo f n = sumTo g n := by
  induction n with
  | zero => rfl
  | succ n ih => simp only [sumTo]; rw [ih (fun i hi => h i (by omega)), h n (by omega)]
theorem sumTo_mul (F : Int) (f : Nat → Int) (n : Nat) : sumTo (fun i => F * f i) n = F * sumTo f n := by
  induction n with
  | zero => simp [sumTo]
  | succ n ih => simp only [sumTo, ih, Int.mul_add]
theorem sumTo_bd (f : Nat → Int) (n : Nat) (lo hi : Int) (h : ∀ i, i < n → lo ≤ f i ∧ f i ≤ hi) : n * lo ≤ sumTo f n ∧ sumTo f n ≤ n * hi := by
  induction n with
  | zero => simp [sumTo]
  | succ n ih =>
    have h1 := ih (fun i hi => h i (by omega))
    have h2 := h n (by omega)
    simp only [sumTo]
    have e1 : ((n + 1 : Nat) : Int) * lo = n * lo + lo := by rw [Int.natCast_succ, Int.add_mul]; omega
    have e2 : ((n + 1 : Nat) : Int) * hi = n * hi + hi := by rw [Int.natCast_succ, Int.add_mul]; omega
    omega
/-- What is left when all are rounded down: at most one for each. -/
theorem left_bd (num : Nat → Int) (n : Nat) (F c : Int) (hF : 0 < F) (hs : sumTo num n = F * c) : 0 ≤ c - sumTo (fun i => num i / F) n ∧ c - sumTo (fun i => num i / F) n ≤ n := by
  have h1 : sumTo num n = F * sumTo (fun i => num i / F) n + sumTo (fun i => num i % F) n := by
    rw [← sumTo_mul, ← sumTo_add]
    exact sumTo_congr fun i _ => (Int.mul_ediv_add_emod _ _).symm
  have h2 := sumTo_bd (fun i => num i % F) n 0 F (fun i _ => ⟨Int.emod_nonneg _ (by omega), Int.le_of_lt (Int.emod_lt_of_pos _ hF)⟩)
  generalize sumTo (fun i => num i / F) n = q at *
  generalize sumTo (fun i => num i % F) n = r at *
  have h3 : F * (c - q) = r := by rw [Int.mul_sub]; omega
  constructor
  · refine Int.le_of_mul_le_mul_left (a := F) ?_ hF
    omega
  · refine Int.le_of_mul_le_mul_left (a := F) ?_ hF
    rw [h3, Int.mul_comm F]; exact h2.2
end Go.Proofs.YtmpnilliichpfaaGreatDoor
/- Plain: a whole given out by parts. -/
namespace Go.Proofs.YtmpnilliichpfaaGreatDoor

def sumL : List Int → Int
  | [] => 0
  | x :: l => x + sumL l
theorem sumL_app (a b : List Int) : sumL (a ++ b) = sumL a + sumL b := by
  induction a with
  | nil => simp [sumL]
  | cons x a ih => simp only [List.cons_append, sumL, ih]; omega
theorem sumL_snoc (a : List Int) (x : Int) : sumL (a ++ [x]) = sumL a + x := by rw [sumL_app]; simp [sumL]
theorem sumL_take (l : List Int) (k : Nat) (hk : k < l.length) : sumL (l.take (k + 1)) = sumL (l.take k) + l[k] := by
  rw [List.take_succ_eq_append_getElem hk, sumL_snoc]
theorem sumL_range (f : Nat → Int) (n : Nat) : sumL ((List.range n).map f) = sumTo f n := by
  induction n with
  | zero => rfl
  | succ n ih => rw [List.range_succ, List.map_append, List.map_cons, List.map_nil, sumL_snoc, ih]; rfl
theorem sumL_mul (c : Int) (l : List Int) : sumL (l.map (fun p => c * p)) = c * sumL l := by
  induction l with
  | nil => simp [sumL]
  | cons x l ih => simp only [List.map_cons, sumL, ih, Int.mul_add]
theorem sumL_bd (l : List Int) (lo hi : Int) (h : ∀ x ∈ l, lo ≤ x ∧ x ≤ hi) : l.length * lo ≤ sumL l ∧ sumL l ≤ l.length * hi := by
  induction l with
  | nil => simp [sumL]
  | cons x l ih =>
    have h1 := ih (fun y hy => h y (List.mem_cons_of_mem _ hy))
    have h2 := h x (by simp)
    simp only [sumL, List.length_cons]
    have e1 : ((l.length + 1 : Nat) : Int) * lo = l.length * lo + lo := by rw [Int.natCast_succ, Int.add_mul]; omega
    have e2 : ((l.length + 1 : Nat) : Int) * hi = l.length * hi + hi := by rw [Int.natCast_succ, Int.add_mul]; omega
    omega
theorem sumL_split (F : Int) (nums : List Int) : sumL nums = F * sumL (nums.map (· / F)) + sumL (nums.map (· % F)) := by
  induction nums with
  | nil => simp [sumL]
  | cons x l ih =>
    simp only [List.map_cons, sumL, Int.mul_add]
    have := Int.mul_ediv_add_emod x F
    omega
def qsN (nums : List Int) (F : Int) : List Int := nums.map (· / F)
def rsN (nums : List Int) (F : Int) : List Int := nums.map (· % F)
def leftN (all : Int) (nums : List Int) (F : Int) : Int := all - sumL (qsN nums F)
theorem qsN_len (nums : List Int) (F : Int) : (qsN nums F).length = nums.length := by simp [qsN]
theorem rsN_len (nums : List Int) (F : Int) : (rsN nums F).length = nums.length := by simp [rsN]
theorem leftN_bd {nums : List Int} {F c : Int} (hF : 0 < F) (hs : sumL nums = F * c) : 0 ≤ leftN c nums F ∧ leftN c nums F ≤ nums.length := by
  have h1 := sumL_split F nums
  have h2 := sumL_bd (nums.map (· % F)) 0 F (fun x hx => by
    obtain ⟨y, _, rfl⟩ := List.mem_map.1 hx
    exact ⟨Int.emod_nonneg _ (by omega), Int.le_of_lt (Int.emod_lt_of_pos _ hF)⟩)
  unfold leftN qsN
  rw [List.length_map] at h2
  generalize sumL (nums.map (· / F)) = q at *
  generalize sumL (nums.map (· % F)) = r at *
  have h3 : F * (c - q) = r := by rw [Int.mul_sub]; omega
  constructor
  · refine Int.le_of_mul_le_mul_left (a := F) ?_ hF
    omega
  · refine Int.le_of_mul_le_mul_left (a := F) ?_ hF
    rw [h3, Int.mul_comm F]; exact h2.2
theorem rsN_nonneg {nums : List Int} {F : Int} (hF : 0 < F) (i : Nat) : 0 ≤ (rsN nums F).getD i 0 := by
  unfold rsN
  rw [List.getD_eq_getElem?_getD, List.getElem?_map]
  cases nums[i]? with
  | none => simp
  | some x => exact Int.emod_nonneg _ (by omega)
/-- A whole 'all' given out by numbers of which all together are F times it. -/
def Handed (all : Int) (nums : List Int) (F : Int) (zs : List Int) : Prop := Dealt (qsN nums F) (rsN nums F) (leftN all nums F).toNat zs
theorem Handed.unique {all : Int} {nums : List Int} {F : Int} {zs zs' : List Int} (h : Handed all nums F zs) (h' : Handed all nums F zs') : zs = zs' := Dealt.unique h h'
theorem Handed.len {all : Int} {nums : List Int} {F : Int} {zs : List Int} (h : Handed all nums F zs) : zs.length = nums.length := by
  obtain ⟨T, _, _, rfl⟩ := h
  rw [bump_len, qsN_len]
def numsD (cents : Int) (parts : List Int) : List Int := parts.map (fun p => cents * p)
theorem numsD_sum (cents : Int) (parts : List Int) : sumL (numsD cents parts) = sumL parts * cents := by
  unfold numsD; rw [sumL_mul, Int.mul_comm]
/-- Cents given out by parts. -/
def Divided (cents : Int) (parts : List Int) (zs : List Int) : Prop := Handed cents (numsD cents parts) (sumL parts) zs
theorem divided_433 {zs : List Int} (h : Divided 10 [1, 1, 1] zs) : zs = [4, 3, 3] := by
  refine Handed.unique h ?_
  refine ⟨[0], ⟨by simp, by decide, ?_⟩, by decide, by decide⟩
  intro i hi j hj hjT
  simp at hi; subst hi
  have e : rsN (numsD 10 [1, 1, 1]) (sumL [1, 1, 1]) = [1, 1, 1] := by decide
  rw [e] at hj ⊢
  have : j = 1 ∨ j = 2 := by simp at hj hjT; omega
  rcases this with rfl | rfl <;> exact .inr ⟨rfl, by omega⟩
def numsF (n : Nat) (cs : List Int) (g : Nat) : List Int := (List.range n).map (numTo n cs g)
theorem numsF_sum (n : Nat) (hn : n ≤ 5) (cs : List Int) (h0 : cs.getD 0 0 = 0) : sumL (numsF n cs (2 ^ n)) = (factN n : Nat) * cs.getD (2 ^ n - 1) 0 := by
  unfold numsF
  rw [sumL_range, all_out n hn cs, h0, Int.sub_zero]
theorem factN_pos (n : Nat) : 0 < factN n := by
  induction n with
  | zero => decide
  | succ n ih => exact Nat.mul_pos ih (Nat.succ_pos n)
end Go.Proofs.YtmpnilliichpfaaGreatDoor
/- Plain functions: what is wrong with keys, parts, costs, dues, steps; gains, refunds. -/
namespace Go.Proofs.YtmpnilliichpfaaGreatDoor

def maxCt : Int := 1000000000
def strLe (a b : ByteArray) : Bool := Op.bytesLess a.toList b.toList || a.toList == b.toList
/-- A key that stands behind another one. -/
def strF (p : Option ByteArray) (s : ByteArray) : Int := if keyB s then (match p with | some q => if strLe s q then 7 else 0 | none => 0) else 5
def risF (l : List ByteArray) : Int := chk strF none l
def keysF (l : List ByteArray) : Int := if 10 < l.length then 2 else risF l
def centB (n : Int) : Bool := outB n 0 maxCt
def partsF (cents : Int) (parts : List Int) : Int :=
  if centB cents then 1 else if 1000 < parts.length then 2 else if parts.any centB then 1 else if sumL parts = 0 then 8 else 0
def fairF (rides : List ByteArray) (costs : List Int) : Int :=
  if keysF rides = 0 then (if costs.length = 2 ^ rides.length then (if costs.getD 0 0 ≠ 0 ∨ costs.any centB = true then 1 else 0) else 3) else keysF rides
structure Due where
  key : ByteArray
  cents : Int
instance : Inhabited Due := ⟨⟨default, 0⟩⟩
def encDue (d : Due) : List Value := [.string d.key, .int .i64 d.cents]
def encS (s : ByteArray) : List Value := [.string s]
/-- A whole shared fairly. -/
def FairR (rides : List ByteArray) (costs : List Int) (ds : List Due) : Prop :=
  ∃ zs, Handed (costs.getD (2 ^ rides.length - 1) 0) (numsF rides.length costs (2 ^ rides.length)) (factN rides.length : Nat) zs ∧ ds = List.zipWith Due.mk rides zs
theorem FairR.unique {rides : List ByteArray} {costs : List Int} {ds ds' : List Due} (h : FairR rides costs ds) (h' : FairR rides costs ds') : ds = ds' := by
  obtain ⟨zs, h1, rfl⟩ := h
  obtain ⟨zs', h2, rfl⟩ := h'
  rw [h1.unique h2]
def duesF (rides : List ByteArray) (ds : List Due) : Int :=
  if rides = ds.map (·.key) then (if ds.any (fun d => outB d.cents (-maxCt) maxCt) then 1 else 0) else 3
/-- Those of a group. -/
def whoTo (rides : List ByteArray) (g : Nat) : Nat → List ByteArray
  | 0 => []
  | k + 1 => if bitN g k = 1 then whoTo rides g k ++ [rides.getD k default] else whoTo rides g k
def sumG (cs : List Int) (g : Nat) : Nat → Int
  | 0 => 0
  | k + 1 => if bitN g k = 1 then sumG cs g k + cs.getD k 0 else sumG cs g k
/-- The first group that would pay less alone. -/
def gainL (rides : List ByteArray) (cs costs : List Int) : List Nat → List ByteArray
  | [] => []
  | g :: gs => if costs.getD g 0 < sumG cs g rides.length then whoTo rides g rides.length else gainL rides cs costs gs
structure Frac where
  num : Int
  den : Int
instance : Inhabited Frac := ⟨⟨0, 0⟩⟩
def encFrac (d : Frac) : List Value := [.int .i64 d.num, .int .i64 d.den]
def endMs : Int := 345686400000
def stepF (p : Option Frac) (s : Frac) : Int :=
  if outB s.num 1 endMs || outB s.den 0 100 then 1 else (match p with | some q => if s.num ≤ q.num ∨ s.den < q.den then 7 else 0 | none => 0)
def refF (due late : Int) (steps : List Frac) : Int :=
  if centB due || outB late 0 endMs then 1 else if 20 < steps.length then 2 else chk stepF none steps
def refPart (late : Int) : List Frac → Int → Int
  | [], d => d
  | s :: l, d => refPart late l (if s.num ≤ late then s.den else d)
def refI (due late : Int) (steps : List Frac) : Int := due * refPart late steps 0 / 100
end Go.Proofs.YtmpnilliichpfaaGreatDoor
/- Plain functions: nodes and knots checked; how long an arc takes. -/
namespace Go.Proofs.YtmpnilliichpfaaGreatDoor

structure Node where
  key : ByteArray
  x : Int
  y : Int
instance : Inhabited Node := ⟨⟨default, 0, 0⟩⟩
def encNode (n : Node) : List Value := [.string n.key, .int .i64 n.x, .int .i64 n.y]
theorem encNode_len (n : Node) : (encNode n).length = 3 := rfl
theorem encNode_one (x : Node) : ∀ v ∈ encNode x, v.oneCell' = true := by
  intro v hv; simp [encNode] at hv; rcases hv with rfl | rfl | rfl <;> rfl
structure Knot where
  at_ : Int
  time : Int
instance : Inhabited Knot := ⟨⟨0, 0⟩⟩
def encKnot (n : Knot) : List Value := [.int .i64 n.at_, .int .i64 n.time]
theorem encKnot_len (n : Knot) : (encKnot n).length = 2 := rfl
/-- A node that stands behind another one. -/
def nodeF (p : Option Node) (n : Node) : Int :=
  if keyB n.key then (match p with | some q => if strLe n.key q.key then 7 else ptF n.x n.y | none => ptF n.x n.y) else 5
def nodesF (l : List Node) : Int := if 500 < l.length then 2 else chk nodeF none l
def dayMs : Int := 86400000
def knotF (p : Option Knot) (k : Knot) : Int :=
  if outB k.at_ 0 (dayMs - 1) || outB k.time 1 3600000 then 1 else (match p with | some q => if k.at_ ≤ q.at_ then 7 else 0 | none => if k.at_ = 0 then 0 else 7)
/-- What comes behind knot i. -/
def afterK (l : List Knot) (i : Nat) : Knot := if i + 1 < l.length then l.getD (i + 1) default else ⟨dayMs, (l.getD 0 default).time⟩
def fallsB (l : List Knot) (i : Nat) : Bool := decide ((afterK l i).at_ - (l.getD i default).at_ < (l.getD i default).time - (afterK l i).time)
def fallF (l : List Knot) : Nat → Int
  | 0 => 0
  | k + 1 => if fallsB l (l.length - (k + 1)) then 16 else fallF l k
def knotsF (l : List Knot) : Int :=
  if l.length = 0 then 8 else if 48 < l.length then 2 else if chk knotF none l = 0 then fallF l l.length else chk knotF none l
theorem fallF_at (l : List Knot) (k : Nat) (hk : k < l.length) : fallF l (l.length - k) = if fallsB l k then 16 else fallF l (l.length - (k + 1)) := by
  have e : l.length - k = (l.length - (k + 1)) + 1 := by omega
  rw [e, fallF, ← e]
  have e2 : l.length - (l.length - k) = k := by omega
  rw [e2]
end Go.Proofs.YtmpnilliichpfaaGreatDoor
/- Plain: how long an arc takes at a moment. -/
namespace Go.Proofs.YtmpnilliichpfaaGreatDoor

/-- The line between two knots. -/
def lineI (k y : Knot) (t : Int) : Int := (k.time * (y.at_ - t) + y.time * (t - k.at_)) / (y.at_ - k.at_)
def segI (l : List Knot) (t : Int) : Nat := (l.takeWhile (fun k => decide (k.at_ ≤ t))).length - 1
def timeI (l : List Knot) (at_ : Int) : Int := lineI (l.getD (segI l (at_ % dayMs)) default) (afterK l (segI l (at_ % dayMs))) (at_ % dayMs)
theorem takeWhile_len {α : Type} {p : α → Bool} : ∀ (l : List α) (k : Nat), k ≤ l.length → (∀ m (h : m < l.length), m < k → p l[m] = true) → (∀ h : k < l.length, p l[k] = false) → (l.takeWhile p).length = k
  | [], k, hk, _, _ => by simp at hk; subst hk; rfl
  | a :: l, 0, _, _, h2 => by
    have h0 : p a = false := h2 (by simp)
    rw [List.takeWhile_cons]; simp [h0]
  | a :: l, k + 1, hk, h1, h2 => by
    have h0 : p a = true := h1 0 (by simp) (by omega)
    rw [List.takeWhile_cons]; simp only [h0, if_true, List.length_cons]
    rw [takeWhile_len l k (by simpa using hk) (fun m h hm => h1 (m + 1) (by simpa using h) (by omega)) (fun h => h2 (by simpa using h))]
/-- Knots that are right. -/
structure KOk (l : List Knot) : Prop where
  pos : 0 < l.length
  le : l.length ≤ 48
  first : (l.getD 0 default).at_ = 0
  bd : ∀ i, i < l.length → (0 ≤ (l.getD i default).at_ ∧ (l.getD i default).at_ ≤ 86399999) ∧ (1 ≤ (l.getD i default).time ∧ (l.getD i default).time ≤ 3600000)
  up : ∀ i, i + 1 < l.length → (l.getD i default).at_ < (l.getD (i + 1) default).at_
theorem KOk.lt {l : List Knot} (h : KOk l) : ∀ (i j : Nat), i < j → j < l.length → (l.getD i default).at_ < (l.getD j default).at_
  | i, 0, h1, _ => absurd h1 (by omega)
  | i, j + 1, h1, h2 => by
    have h3 := h.up j h2
    rcases Nat.lt_or_ge i j with h4 | h4
    · have := KOk.lt h i j h4 (by omega); omega
    · have : i = j := by omega
      subst this; exact h3
theorem chkK_ok : ∀ (l : List Knot) (p : Option Knot), chk knotF p l = 0 → (∀ i, i < l.length → (0 ≤ (l.getD i default).at_ ∧ (l.getD i default).at_ ≤ 86399999) ∧ (1 ≤ (l.getD i default).time ∧ (l.getD i default).time ≤ 3600000)) ∧ (∀ i, i + 1 < l.length → (l.getD i default).at_ < (l.getD (i + 1) default).at_) ∧ (0 < l.length → (p = none → (l.getD 0 default).at_ = 0) ∧ ∀ q, p = some q → q.at_ < (l.getD 0 default).at_)
  | [], _, _ => ⟨fun i hi => absurd hi (by simp), fun i hi => absurd hi (by simp), fun h => absurd h (by simp)⟩
  | k :: l, p, h => by
    unfold chk at h
    by_cases h0 : knotF p k = 0
    · rw [if_pos h0] at h
      have ih := chkK_ok l (some k) h
      unfold knotF at h0
      cases h1 : (outB k.at_ 0 (dayMs - 1) || outB k.time 1 3600000) with
      | true => rw [h1, if_pos rfl] at h0; exact absurd h0 (by decide)
      | false =>
        rw [h1] at h0
        rw [if_neg (by simp)] at h0
        rw [Bool.or_eq_false_iff] at h1
        have b1 := outB_false.1 h1.1
        have b2 := outB_false.1 h1.2
        unfold dayMs at b1
        refine ⟨fun i hi => ?_, fun i hi => ?_, fun _ => ⟨fun hp => ?_, fun q hq => ?_⟩⟩
        · cases i with
          | zero => exact ⟨by show 0 ≤ k.at_ ∧ k.at_ ≤ _; omega, b2⟩
          | succ i => exact ih.1 i (by simpa using hi)
        · cases i with
          | zero => exact (ih.2.2 (by simpa using hi)).2 k rfl
          | succ i => exact ih.2.1 i (by simpa using hi)
        · subst hp
          show k.at_ = 0
          by_cases hz : k.at_ = 0
          · exact hz
          · simp [hz] at h0
        · subst hq
          show q.at_ < k.at_
          by_cases hz : k.at_ ≤ q.at_
          · simp [hz] at h0
          · omega
    · rw [if_neg h0] at h; exact absurd h h0
theorem knotsF_chk {l : List Knot} (h : knotsF l = 0) : KOk l := by
  unfold knotsF at h
  by_cases h0 : l.length = 0
  · rw [if_pos h0] at h; exact absurd h (by decide)
  rw [if_neg h0] at h
  by_cases h1 : 48 < l.length
  · rw [if_pos h1] at h; exact absurd h (by decide)
  rw [if_neg h1] at h
  by_cases h2 : chk knotF none l = 0
  · obtain ⟨a, b, c⟩ := chkK_ok l none h2
    exact ⟨by omega, by omega, (c (by omega)).1 rfl, a, b⟩
  · rw [if_neg h2] at h; exact absurd h h2
/-- i is the last knot that is not behind t. -/
theorem seg_of {l : List Knot} (h : KOk l) {t : Int} {i : Nat} (hi : i < l.length) (h1 : (l.getD i default).at_ ≤ t) (h2 : i + 1 < l.length → t < (l.getD (i + 1) default).at_) : segI l t = i := by
  unfold segI
  rw [takeWhile_len l (i + 1) hi (fun m hm hmi => ?_) (fun hk => ?_)]
  · rfl
  · have e : l[m] = l.getD m default := by rw [List.getD_eq_getElem?_getD, List.getElem?_eq_getElem hm]; rfl
    rw [e, decide_eq_true_eq]
    rcases Nat.lt_or_ge m i with h4 | h4
    · have := h.lt m i h4 hi; omega
    · have : m = i := by omega
      subst this; exact h1
  · have e : l[i + 1] = l.getD (i + 1) default := by rw [List.getD_eq_getElem?_getD, List.getElem?_eq_getElem hk]; rfl
    rw [e, decide_eq_false_iff_not]
    have := h2 hk; omega
theorem after_bd {l : List Knot} (h : KOk l) {i : Nat} (hi : i < l.length) : ((l.getD i default).at_ < (afterK l i).at_ ∧ (afterK l i).at_ ≤ 86400000) ∧ (1 ≤ (afterK l i).time ∧ (afterK l i).time ≤ 3600000) := by
  unfold afterK
  by_cases h1 : i + 1 < l.length
  · rw [if_pos h1]
    have a := h.bd (i + 1) h1
    have b := h.up i h1
    omega
  · rw [if_neg h1]
    have a := h.bd i hi
    have b := h.bd 0 h.pos
    simp only [dayMs]
    omega
theorem time_one {l : List Knot} (h : l.length = 1) (hk : KOk l) (at_ : Int) : timeI l at_ = (l.getD 0 default).time := by
  have hs : segI l (at_ % dayMs) = 0 := seg_of hk (by omega) (by
    rw [hk.first]
    have := Int.emod_nonneg at_ (show dayMs ≠ 0 by decide)
    omega) (fun h1 => by omega)
  unfold timeI
  rw [hs]
  have e : afterK l 0 = ⟨dayMs, (l.getD 0 default).time⟩ := by unfold afterK; rw [if_neg (by omega)]
  rw [e]
  unfold lineI
  rw [hk.first]
  simp only [Int.sub_zero]
  rw [← Int.mul_add, show dayMs - at_ % dayMs + at_ % dayMs = dayMs by omega]
  exact Int.mul_ediv_cancel _ (by decide)
end Go.Proofs.YtmpnilliichpfaaGreatDoor
/- Words for memory, of no program: a slice that reads as a list of elements of K cells, the stream's object, worlds that only grow. -/
namespace Go.Proofs.YtmpnilliichpfaaGreatDoor
open Go.RowKit

theorem hide {p : Prop} (h : p) : Hid p := h

/-- Nothing that was there has turned. -/
def Nx (w w' : World) : Prop := Below w.heap.size w w'
theorem Nx.refl (w : World) : Nx w w := Below.refl _ _
theorem Nx.trans {a b c : World} (h : Nx a b) (k : Nx b c) : Nx a c := Below.trans h (Below.mono k h.size)
theorem Nx.drew {a w : World} (h : Nx a w) : Nx a w.drew := Below.drew h
theorem Nx.drewN {a w : World} (h : Nx a w) (n : Nat) : Nx a (w.drewN n) := below_drewN h n
theorem Nx.alloc {a w : World} (h : Nx a w) (o : Obj) : Nx a (w.alloc o) := Below.alloc h h.size o
theorem Nx.setCell {a w : World} (h : Nx a w) {p : Addr} (hp : a.heap.size ≤ p.block) (u : Value) : Nx a (w.setCell p u) := Below.setCell h hp u
theorem Nx.sz {a w : World} (h : Nx a w) : a.heap.size ≤ w.heap.size := h.size
theorem Nx.grown {a w w' : World} {row : Option Nat} (h : Nx a w) (hg : w.grownBy w' row) (hr : ∀ k, row = some k → a.heap.size ≤ k) : Nx a w' := Below.grown h hg h.size hr
theorem Nx.gr {a w : World} (h : Nx a w) (row : Option Nat) : a.grownBy w row := ⟨h.os, h.tape, h.output, h.size, fun i hi _ => h.block i hi⟩

/-- Only block s, and what is new, has turned. -/
def Gr (s : Nat) (a w : World) : Prop := a.grownBy w (some s)
theorem Gr.refl (s : Nat) (w : World) : Gr s w w := World.grownBy.refl w _
theorem Gr.of_nx {s : Nat} {a w : World} (h : Nx a w) : Gr s a w := h.gr _
theorem Gr.sz {s : Nat} {a w : World} (h : Gr s a w) : a.heap.size ≤ w.heap.size := World.grownBy.size h
theorem Gr.trans {s : Nat} {a b c : World} (h : Gr s a b) (k : Gr s b c) : Gr s a c :=
  ⟨k.os.trans h.os, k.tape.trans h.tape, k.output.trans h.output, Nat.le_trans h.size k.size, fun i hi hn => (k.block i (Nat.lt_of_lt_of_le hi h.size) hn).trans (h.block i hi hn)⟩
theorem Gr.then_nx {s : Nat} {a b c : World} (h : Gr s a b) (k : Nx b c) : Gr s a c := h.trans (Gr.of_nx k)
theorem Gr.drew {s : Nat} {a w : World} (h : Gr s a w) : Gr s a w.drew := h.then_nx (Nx.refl _).drew
theorem Gr.drewN {s : Nat} {a w : World} (h : Gr s a w) (n : Nat) : Gr s a (w.drewN n) := h.then_nx ((Nx.refl _).drewN n)
theorem Gr.alloc {s : Nat} {a w : World} (h : Gr s a w) (o : Obj) : Gr s a (w.alloc o) := h.then_nx ((Nx.refl _).alloc o)
theorem Gr.setS {s : Nat} {a w : World} (h : Gr s a w) {p : Addr} (hp : p.block = s ∨ a.heap.size ≤ p.block) (u : Value) : Gr s a (w.setCell p u) :=
  ⟨h.os, h.tape, h.output, by have := h.sz; simpa [World.setCell] using this, fun i hi hne => (Below.heap_setCell w p u i (by
    rintro rfl
    rcases hp with hp | hp
    · exact hne (by rw [hp])
    · omega)).trans (h.block i hi hne)⟩
theorem Gr.grown {s : Nat} {a w w' : World} {row : Option Nat} (h : Gr s a w) (hg : w.grownBy w' row) (hr : ∀ k, row = some k → k = s ∨ a.heap.size ≤ k) : Gr s a w' :=
  ⟨hg.os.trans h.os, hg.tape.trans h.tape, hg.output.trans h.output, Nat.le_trans h.size hg.size, fun i hi hne => (hg.block i (Nat.lt_of_lt_of_le hi h.size) (fun e => by
    rcases hr i e.symm with h1 | h1
    · exact hne (by rw [h1])
    · omega)).trans (h.block i hi hne)⟩
theorem Nx.of_gr {s : Nat} {a w : World} (h : Gr s a w) (hs : a.heap.size ≤ s) : Nx a w :=
  ⟨h.os, h.tape, h.output, h.size, fun i hi => h.block i hi (by intro e; injection e with e; omega)⟩

/-- A slice's value with address A reads as xs, each element K cells; its block lies from lo on. -/
def Rd {α : Type} (w : World) (lo : Nat) (A : Option Addr) (K : Nat) (enc : α → List Value) (xs : List α) : Prop :=
  0 < xs.length → ∃ b off, A = some ⟨b, off, none⟩ ∧ lo ≤ b ∧ b < w.heap.size ∧ ∀ i x, xs[i]? = some x → ∀ j u, (enc x)[j]? = some u → w.cell? ⟨b, off + i * K + j, none⟩ = some u
section
variable {α : Type} {w w' : World} {lo lo' K : Nat} {A : Option Addr} {enc : α → List Value} {xs : List α}
theorem Rd.nil : Rd w lo A K enc ([] : List α) := fun h => absurd h (by simp)
theorem Rd.nx (h : Rd w lo A K enc xs) (hn : Nx w w') : Rd w' lo A K enc xs := fun hp => by
  obtain ⟨b, off, e, hl, hb, hc⟩ := h hp
  exact ⟨b, off, e, hl, Nat.lt_of_lt_of_le hb hn.sz, fun i x hx j u hu => (Below.cell hn (p := ⟨b, _, none⟩) hb).trans (hc i x hx j u hu)⟩
theorem Rd.gr {s : Nat} (h : Rd w lo A K enc xs) (hn : Gr s w w') (hs : s < lo) : Rd w' lo A K enc xs := fun hp => by
  obtain ⟨b, off, e, hl, hb, hc⟩ := h hp
  exact ⟨b, off, e, hl, Nat.lt_of_lt_of_le hb hn.sz, fun i x hx j u hu => World.grownBy.cell (row := some s) hn (hc i x hx j u hu) (by simp; omega)⟩
theorem Rd.low (h : Rd w lo A K enc xs) (hl : lo' ≤ lo) : Rd w lo' A K enc xs := fun hp => by
  obtain ⟨b, off, e, h1, hb, hc⟩ := h hp
  exact ⟨b, off, e, Nat.le_trans hl h1, hb, hc⟩
/-- For a loop: the block and all the cells, in the round's world. -/
theorem Rd.open_ (h : Rd w lo A K enc xs) (hn : Nx w w') (hp : 0 < xs.length) : ∃ b off, A = some ⟨b, off, none⟩ ∧ lo ≤ b ∧ b < w.heap.size ∧ b < w'.heap.size ∧ ∀ i (hi : i < xs.length) j u, (enc xs[i])[j]? = some u → w'.cell? ⟨b, off + i * K + j, none⟩ = some u := by
  obtain ⟨b, off, e, hl, hb, hc⟩ := h hp
  exact ⟨b, off, e, hl, hb, Nat.lt_of_lt_of_le hb hn.sz, fun i hi j u hu => (Below.cell hn (p := ⟨b, _, none⟩) hb).trans (hc i _ (List.getElem?_eq_getElem hi) j u hu)⟩
theorem flat_get (hk : ∀ x, (enc x).length = K) (i : Nat) (x : α) (hx : xs[i]? = some x) (j : Nat) (u : Value) (hu : (enc x)[j]? = some u) : (xs.flatMap enc)[i * K + j]? = some u := by
  induction xs generalizing i with
  | nil => simp at hx
  | cons y ys ih =>
    rw [List.flatMap_cons]
    rcases i with _ | i
    · simp at hx; subst hx
      rw [List.getElem?_append_left (by have := (List.getElem?_eq_some_iff.1 hu).1; omega)]
      simpa using hu
    · have hx' : ys[i]? = some x := by simpa using hx
      rw [List.getElem?_append_right (by rw [hk, Nat.add_mul]; omega), hk]
      have e : (i + 1) * K + j - K = i * K + j := by rw [Nat.add_mul]; omega
      rw [e]
      exact ih i hx'
theorem flat_len (hk : ∀ x, (enc x).length = K) : (xs.flatMap enc).length = xs.length * K := by
  induction xs with
  | nil => simp
  | cons y ys ih => rw [List.flatMap_cons, List.length_append, ih, hk, List.length_cons, Nat.add_mul]; omega
/-- A row of the call's own, read. -/
theorem Rd.of_own {base : Nat} {e : TypeId} {v : Value} {n : Nat} (hk : ∀ x, (enc x).length = K) (hn : n = xs.length) (h : w.ownsRow base e K v n (xs.flatMap enc)) :
    ∃ A c, v = .slice A xs.length c ∧ Rd w base A K enc xs ∧ (∀ a, A = some a → ∃ g, a = ⟨g, 0, none⟩ ∧ base ≤ g ∧ g < w.heap.size) := by
  subst hn
  rcases h.2 with ⟨rfl, h0⟩ | ⟨g, cap, cur, rfl, hg, hh, hr⟩
  · have hx : xs = [] := List.eq_nil_of_length_eq_zero h0
    subst hx
    exact ⟨none, 0, rfl, Rd.nil, by simp⟩
  · have hlt := (h.lt g rfl)
    refine ⟨some ⟨g, 0, none⟩, cap, rfl, fun _ => ⟨g, 0, rfl, hlt.1, hlt.2, fun i x hx j u hu => ?_⟩, fun a ha => ⟨g, by injection ha with ha; exact ha.symm, hlt.1, hlt.2⟩⟩
    have hil : i < xs.length := (List.getElem?_eq_some_iff.1 hx).1
    have hjl : j < K := by have := (List.getElem?_eq_some_iff.1 hu).1; rw [hk] at this; exact this
    have h2 := h.cellAt (i * K + j) (by
      have : (i + 1) * K ≤ xs.length * K := Nat.mul_le_mul_right K hil
      rw [Nat.add_mul] at this; omega)
    rw [Nat.zero_add, h2]
    exact flat_get hk i x hx j u hu
end

theorem heap_set {w : World} {s i : Nat} {cs : Array Value} {t : TypeId} {u : Value} (h : w.heap[s]? = some (.cells cs t (0, 0))) : (w.setCell ⟨s, i, none⟩ u).heap[s]? = some (.cells (cs.setIfInBounds i u) t (0, 0)) := by
  simp [World.setCell, Array.getElem?_modify, h]
theorem cell_set {w : World} {s i b o : Nat} {u : Value} (h : b ≠ s) : (w.setCell ⟨s, i, none⟩ u).cell? ⟨b, o, none⟩ = w.cell? ⟨b, o, none⟩ :=
  World.cell?_setCell_other _ _ _ _ (by intro e; injection e with e1 e2; omega)

theorem flipc {P : Program} {f : FuncId} {args : Array Value} {w : World} {v : Value} (h : Calls P f args w (fun e w' => e = .returned v ∧ w = w')) : Calls P f args w (fun e w'' => e = .returned v ∧ w'' = w) :=
  h.mono fun _ _ ⟨a, b⟩ => ⟨a, b.symm⟩
/-- A literal row. -/
theorem Rd.lit {α : Type} {w : World} {lo g K : Nat} {enc : α → List Value} {xs : List α} {cs : Array Value} {t : TypeId} (hg : w.heap[g]? = some (.cells cs t (0, 0))) (hlo : lo ≤ g) (hk : ∀ x, (enc x).length = K) (hcs : cs.toList = xs.flatMap enc) :
    Rd w lo (some ⟨g, 0, none⟩) K enc xs := fun _ => by
  have hlt : g < w.heap.size := by
    rcases Nat.lt_or_ge g w.heap.size with hlt | hge
    · exact hlt
    · rw [Array.getElem?_eq_none hge] at hg; cases hg
  refine ⟨g, 0, rfl, hlo, hlt, fun i x hx j u hu => ?_⟩
  rw [Nat.zero_add, cell_of_row w g _ cs t _ hg, ← Array.getElem?_toList, hcs]
  exact flat_get hk i x hx j u hu

theorem hnew {w : World} {o : Obj} {g : Nat} (hg : g = w.heap.size) : (w.alloc o).heap[g]? = some o := by subst hg; exact heap_alloc_new w o
theorem hnew_drew {w : World} {o : Obj} {g : Nat} (hg : g = w.heap.size) : (w.alloc o).drew.heap[g]? = some o := hnew hg
theorem hnew_drewN {w : World} {o : Obj} {g n : Nat} (hg : g = w.heap.size) : ((w.alloc o).drewN n).heap[g]? = some o := hnew hg

/-- t is a slice type over e, whose values take K cells and so many bytes. -/
structure ElemOf (P : Program) (t e : TypeId) (K bytes : Nat) : Prop where
  ht : P.underlying t = some (.slice e)
  hi : ∃ i z, P.info? e = some i ∧ i.zero = some z ∧ i.size = K ∧ i.bytes = bytes ∧ z.cells.size = K
theorem ElemOf.mk' {P : Program} {t e : TypeId} {K bytes : Nat} {z : Value} (ht : P.underlying t = some (.slice e)) (h : (P.info? e).map (fun i => (i.zero, i.size, i.bytes)) = some (some z, K, bytes)) (hz : z.cells.size = K) : ElemOf P t e K bytes := by
  obtain ⟨i, h1, h2, h3, h4⟩ := info_parts h
  exact ⟨ht, i, z, h1, h2, h3, h4, hz⟩
theorem news_of {w : World} {g : Nat} {cs : Array Value} {e : TypeId} (h : w.heap[g]? = some (.cells cs e (0, 0))) {l : List Value} (hl : cs.toList = l) : ∀ j u, l[j]? = some u → w.cell? ((⟨g, 0, none⟩ : Addr).add j) = some u := by
  intro j u hu
  have e1 : (⟨g, 0, none⟩ : Addr).add j = ⟨g, j, none⟩ := by unfold Addr.add; split <;> simp_all
  rw [e1, cell_of_row w g j cs e _ h, ← Array.getElem?_toList, hl]
  exact hu
/-- 'out = append(out, y)' on a row of the call's own. -/
theorem wpApp {α : Type} {P : Program} {w : World} {ops : Array Oper} {rest : List Oper} {o : Oper} {a : Act} {Q : Exit → Act → World → Prop} (hgd : o.guard = none) (s x : Operand) (t : TypeId)
    (ho : o.op = .call { callee := .builtin .append, args := #[s, x], argTypes := #[t, t] })
    {e : TypeId} {K bytes : Nat} (E : ElemOf P t e K bytes) (enc : α → List Value) (hk : ∀ x, (enc x).length = K) (h1c : ∀ x, ∀ v ∈ enc x, v.oneCell' = true) (hK : 0 < K) (hB : bytes ≤ 1000)
    (base : Nat) (v : Value) (L : List α) (hs : a.eval s = v) (hown : w.ownsRow base e K v L.length (L.flatMap enc)) (g : Nat) (y : α) (cs : Array Value) (hx : a.eval x = .slice (some ⟨g, 0, none⟩) 1 1)
    (hblk : w.heap[g]? = some (.cells cs e (0, 0))) (hcs : cs.toList = enc y) (hlen : L.length ≤ 10000000) (hbase : base ≤ w.heap.size)
    (h : ∀ v' w', w'.ownsRow base e K v' (L ++ [y]).length ((L ++ [y]).flatMap enc) → w.grownBy w' v.ownBlock → wpList P ops Q rest (a.put o.dst v') w') : wpList P ops Q (o :: rest) a w := by
  obtain ⟨i, z, h1, h2, h3, h4, h5⟩ := E.hi
  refine wpList_append_own w hgd s x t ho base e i z K bytes E.ht h1 h2 h3 h4 h5 hK v L.length _ hs hown ⟨g, 0, none⟩ 1 1 (enc y) hx (by rw [hk]; omega) (news_of hblk hcs) (h1c y) (by unfold maxLen; omega) ?_ hbase ?_
  · have : (L.length + 1) * bytes ≤ 10000001 * 1000 := Nat.mul_le_mul (by omega) hB
    omega
  · intro v' w' ho' hg' _
    exact h v' w' (by simpa using ho') hg'
theorem own_blk_lt {w : World} {base : Nat} {e : TypeId} {size : Nat} {v : Value} {n : Nat} {xs : List Value} (h : w.ownsRow base e size v n xs) : ∀ k, v.ownBlock = some k → base ≤ k := fun k hk => (h.lt k hk).1
theorem own_nx {w w' : World} {base : Nat} {e : TypeId} {size : Nat} {v : Value} {n : Nat} {xs : List Value} (h : w.ownsRow base e size v n xs) (hn : Nx w w') : w'.ownsRow base e size v n xs :=
  h.kept (hn.gr none) (by cases hv : v.ownBlock <;> simp)
theorem own_gr {w w' : World} {s base : Nat} {e : TypeId} {size : Nat} {v : Value} {n : Nat} {xs : List Value} (h : w.ownsRow base e size v n xs) (hn : w.grownBy w' (some s)) (hs : s < base) : w'.ownsRow base e size v n xs :=
  h.kept hn (.inr fun e => by have := own_blk_lt h s e; omega)

theorem flat_set {α : Type} {enc : α → List Value} {K : Nat} (hk : ∀ x, (enc x).length = K) : ∀ (xs : List α) (i : Nat) (hi : i < xs.length) (x' : α) (j : Nat) (_ : j < K) (u : Value), enc x' = (enc xs[i]).set j u → (xs.flatMap enc).set (i * K + j) u = (xs.set i x').flatMap enc
  | y :: ys, 0, hi, x', j, hj, u, h => by
    rw [List.set_cons_zero, List.flatMap_cons, List.flatMap_cons, Nat.zero_mul, Nat.zero_add, List.set_append_left _ _ (by rw [hk]; exact hj), h]; rfl
  | y :: ys, i + 1, hi, x', j, hj, u, h => by
    rw [List.set_cons_succ, List.flatMap_cons, List.flatMap_cons, List.set_append_right _ _ (by rw [hk, Nat.add_mul]; omega), hk, show (i + 1) * K + j - K = i * K + j by rw [Nat.add_mul]; omega]
    rw [flat_set hk ys i (by simpa using hi) x' j hj u (by simpa using h)]
/-- A field of a row's element is stored. -/
theorem own_set {α : Type} {enc : α → List Value} {K : Nat} (hk : ∀ x, (enc x).length = K) {w : World} {base g cap n : Nat} {e : TypeId} {xs : List α} (hn : xs.length = n) (h : w.ownsRow base e K (.slice (some ⟨g, 0, none⟩) n cap) n (xs.flatMap enc))
    (i : Nat) (hi : i < xs.length) (j : Nat) (hj : j < K) (u : Value) (x' : α) (hx : enc x' = (enc xs[i]).set j u) (off : Nat) (ho : off = i * K + j) :
    (w.setCell ⟨g, off, none⟩ u).ownsRow base e K (.slice (some ⟨g, 0, none⟩) n cap) n ((xs.set i x').flatMap enc) := by
  subst ho hn
  rw [← flat_set hk xs i hi x' j hj u hx]
  exact (h.stored (i * K + j) u).1
/-- A field of a row's element, read. -/
theorem own_cell {α : Type} {enc : α → List Value} {K : Nat} (hk : ∀ x, (enc x).length = K) {w : World} {base g cap n : Nat} {e : TypeId} {xs : List α} (hn : xs.length = n) (h : w.ownsRow base e K (.slice (some ⟨g, 0, none⟩) n cap) n (xs.flatMap enc))
    (i : Nat) (hi : i < xs.length) (j : Nat) (u : Value) (hu : (enc xs[i])[j]? = some u) : w.cell? ⟨g, i * K + j, none⟩ = some u := by
  subst hn
  have hj : j < K := by have := (List.getElem?_eq_some_iff.1 hu).1; rw [hk] at this; exact this
  rw [h.cellAt (i * K + j) (by
      have : (i + 1) * K ≤ xs.length * K := Nat.mul_le_mul_right K hi
      rw [Nat.add_mul] at this; omega)]
  exact flat_get hk i _ (List.getElem?_eq_getElem hi) j u hu
end Go.Proofs.YtmpnilliichpfaaGreatDoor
/- The walks of the smallest functions of numbers: those that all packages use. -/
namespace Go.Proofs.YtmpnilliichpfaaGreatDoor
open Go.RowKit

theorem ret_bool {a b : Bool} (h : a = b) : Ending.returned (.bool a) = .returned (.bool b) := by rw [h]
theorem ret_int {k : IntKind} {a b : Int} (h : a = b) : Ending.returned (.int k a) = .returned (.int k b) := by rw [h]

theorem w_Out (n l h : Int) (w : World) : Calls Tryz.prog 76 #[.int .i64 n, .int .i64 l, .int .i64 h] w fun e w' => e = .returned (.bool (outB n l h)) ∧ w = w' := by
  by_cases h1 : n < l <;> by_cases h2 : h < n
  all_goals
    go_enter Tryz.func76, Tryz.ntmps76
    go_wp2
    go_ret
    exact ⟨ret_bool (by unfold outB; simp; omega), rfl⟩

theorem w_in (n l h : Int) (w : World) : Calls Tryz.prog 80 #[.int .i64 n, .int .i64 l, .int .i64 h] w fun e w' => e = .returned (.bool (inB n l h)) ∧ w = w' := by
  by_cases h1 : l ≤ n <;> by_cases h2 : n ≤ h
  all_goals
    go_enter Tryz.func80, Tryz.ntmps80
    go_wp2
    go_ret
    exact ⟨ret_bool (by unfold inB; simp; omega), rfl⟩

end Go.Proofs.YtmpnilliichpfaaGreatDoor
/- Keys: the program's and the reference's. -/
namespace Go.Proofs.YtmpnilliichpfaaGreatDoor
open Go.RowKit

theorem lowC_int (c : UInt8) : lowC c = true ↔ 97 ≤ (c.toNat : Int) ∧ (c.toNat : Int) ≤ 122 := by
  unfold lowC; simp; omega
theorem keyC_int (c : UInt8) : keyC c = true ↔ (97 ≤ (c.toNat : Int) ∧ (c.toNat : Int) ≤ 122) ∨ (48 ≤ (c.toNat : Int) ∧ (c.toNat : Int) ≤ 57) ∨ (c.toNat : Int) = 45 ∨ (c.toNat : Int) = 95 := by
  unfold keyC lowC digC
  have e1 : (c == 45) = true ↔ (c.toNat : Int) = 45 := by
    rw [beq_iff_eq, ← UInt8.toNat_inj]; show c.toNat = 45 ↔ _; omega
  have e2 : (c == 95) = true ↔ (c.toNat : Int) = 95 := by
    rw [beq_iff_eq, ← UInt8.toNat_inj]; show c.toNat = 95 ↔ _; omega
  simp only [Bool.or_eq_true, Bool.and_eq_true, decide_eq_true_eq, e1, e2]
  omega
theorem keyL_snoc {l : List UInt8} {p : UInt8 → Bool} {k : Nat} (hk : k < l.length) : (l.take (k + 1)).all p = ((l.take k).all p && p l[k]) := by
  rw [List.take_succ_eq_append_getElem hk, List.all_append]; simp
theorem data_len (s : ByteArray) : s.data.toList.length = s.size := by simp
theorem keyB_eq (s : ByteArray) (h0 : 0 < s.size) : keyB s = (decide (s.size ≤ 40) && lowC (s[0]'h0) && s.data.toList.all keyC) := by
  unfold keyB
  have e := data_len s
  cases hl : s.data.toList with
  | nil => rw [hl] at e; simp at e; omega
  | cons c l =>
    have e0 : s[0]'h0 = c := by
      have : s.data.toList[0]'(by rw [e]; exact h0) = c := by simp [hl]
      exact this
    unfold keyL
    rw [e0, ← e, hl]
theorem all_take_false {l : List UInt8} {p : UInt8 → Bool} {k : Nat} (hk : k < l.length) (h : p l[k] = false) : l.all p = false := by
  rw [List.all_eq_false]
  exact ⟨_, List.getElem_mem hk, by simp [h]⟩

set_option maxHeartbeats 1000000 in
theorem w_Key (s : ByteArray) (w : World) (hs : s.size ≤ 1000000) :
    Calls Tryz.prog 136 #[.string s] w fun e w' => e = .returned (.bool (keyB s)) ∧ w = w' := by
  by_cases h0 : s.size = 0
  · have he : s.toList = [] := by
      rw [Lib.toList_data]
      exact List.eq_nil_of_length_eq_zero (by rw [data_len]; exact h0)
    have hk : keyB s = false := by
      unfold keyB
      rw [← Lib.toList_data, he]; rfl
    have HK := hide hk
    clear hk
    go_enter Tryz.func136, Tryz.ntmps136
    go_wp2
    go_ret
    exact ⟨ret_bool (by rw [HK.out]), rfl⟩
  · have h1 : 0 < s.size := by omega
    have HK := hide (keyB_eq s h1)
    have he : s.toList.isEmpty = false := by
      rw [Lib.toList_data]
      cases h : s.data.toList with
      | nil => have := data_len s; rw [h] at this; simp at this; omega
      | cons _ _ => rfl
    have L0 := hide (lowC_int (s[0]'h1))
    by_cases h40 : 40 < s.size
    · go_enter Tryz.func136, Tryz.ntmps136
      go_wp2
      go_ret
      exact ⟨ret_bool (by rw [HK.out, decide_eq_false (by omega)]; rfl), rfl⟩
    · by_cases hlow : lowC (s[0]'h1) = true
      · have hlo := L0.out.1 hlow
        have HLW := hide hlow
        obtain ⟨hl1, hl2⟩ := hlo
        clear hlow
        go_enter Tryz.func136, Tryz.ntmps136
        go_wp2
        go_loop [3, 4, 24] (fun _ _ i => ∃ k : Nat, k ≤ s.size ∧ i = .int .i64 k ∧ (s.data.toList.take k).all keyC = true) (fun _ _ i => s.size - (intOf i).toNat)
        case atStart => exact ⟨0, Nat.zero_le _, rfl, by simp⟩
        case round =>
          obtain ⟨k, hk, rfl, hq⟩ := hrel
          have HQ := hide hq
          clear hq
          by_cases hlt : k < s.size
          · have KC := hide (keyC_int s[k])
            have KS := hide (keyL_snoc (p := keyC) (l := s.data.toList) (k := k) (by simpa using hlt))
            have KA := hide (fun h => all_take_false (p := keyC) (l := s.data.toList) (k := k) (by simpa using hlt) h)
            have KE := hide (show s.data.toList[k]'(by simpa using hlt) = s[k] from rfl)
            by_cases hc : keyC s[k] = true
            · have hc' := KC.out.1 hc
              have HC := hide hc
              clear hc
              go_wp2
              all_goals first
                | (go_round
                   case rel => exact ⟨k + 1, by omega, by go_num, by rw [KS.out, HQ.out, KE.out, HC.out]; rfl⟩
                   case measure => simp [intOf]; omega)
                | (exfalso; simp at *; omega)
            · have hc' : ¬ ((97 ≤ (s[k].toNat : Int) ∧ (s[k].toNat : Int) ≤ 122) ∨ (48 ≤ (s[k].toNat : Int) ∧ (s[k].toNat : Int) ≤ 57) ∨ (s[k].toNat : Int) = 45 ∨ (s[k].toNat : Int) = 95) := fun h => hc (KC.out.2 h)
              have HC := hide hc
              clear hc
              go_wp2
              all_goals first
                | (go_ret
                   exact ⟨ret_bool (by rw [HK.out, KA.out (by rw [KE.out]; simpa using HC.out)]; simp), rfl⟩)
                | (exfalso; simp at *; omega)
          · go_wp2
            go_ret
            have e : k = s.size := by omega
            exact ⟨ret_bool (by
              have h := HQ.out
              rw [e, List.take_of_length_le (by rw [data_len]; exact Nat.le_refl _)] at h
              rw [HK.out, decide_eq_true (by omega), HLW.out, h]; rfl), rfl⟩
      · have hlo : ¬ (97 ≤ ((s[0]'h1).toNat : Int) ∧ ((s[0]'h1).toNat : Int) ≤ 122) := fun h => hlow (L0.out.2 h)
        have HLW := hide hlow
        clear hlow
        by_cases hl1 : ((s[0]'h1).toNat : Int) < 97
        · clear hlo
          go_enter Tryz.func136, Tryz.ntmps136
          go_wp2
          go_ret
          exact ⟨ret_bool (by rw [HK.out, show lowC (s[0]'h1) = false by simpa using HLW.out]; simp), rfl⟩
        · have hl2 : 122 < ((s[0]'h1).toNat : Int) := by omega
          clear hlo
          go_enter Tryz.func136, Tryz.ntmps136
          go_wp2
          go_ret
          exact ⟨ret_bool (by rw [HK.out, show lowC (s[0]'h1) = false by simpa using HLW.out]; simp), rfl⟩

def csB : ByteArray := ⟨#[97, 98, 99, 100, 101, 102, 103, 104, 105, 106, 107, 108, 109, 110, 111, 112, 113, 114, 115, 116, 117, 118, 119, 120, 121, 122, 48, 49, 50, 51, 52, 53, 54, 55, 56, 57, 45, 95]⟩
def smB : ByteArray := ⟨#[97, 98, 99, 100, 101, 102, 103, 104, 105, 106, 107, 108, 109, 110, 111, 112, 113, 114, 115, 116, 117, 118, 119, 120, 121, 122]⟩
/-- The reference's trim, of keys' signs. -/
theorem w_TrimKey (s : ByteArray) (w : World) (hs : s.size ≤ 1000000) :
    Calls Tryz.prog 145 #[.string s, .string csB] w fun e w' => ∃ r : ByteArray, e = .returned (.string r) ∧ r.toList.isEmpty = s.data.toList.all keyC ∧ Nx w w' := by
  have hcon := Any.strings_Trim_laid Tryz.trimStr (by kernel_rfl) s csB w (by omega) (by decide) (ascii_of_all (by decide))
  change Calls Tryz.prog 145 _ _ _ at hcon
  refine hcon.mono ?_
  rintro e w' ⟨rfl, hb⟩
  refine ⟨_, rfl, ?_, hb⟩
  rw [Lib.toList_data]
  exact trim_key s.data.toList
theorem w_IndexSmall (c : UInt8) (w : World) :
    Calls Tryz.prog 146 #[.string smB, .int .u8 (c.toNat : Int)] w fun e w' => ∃ z : Int, e = .returned (.int .i64 z) ∧ decide (0 ≤ z) = lowC c ∧ w = w' := by
  have hcon := Any.strings_IndexByte Tryz.indexByteStr smB (c.toNat : Int) w
  change Calls Tryz.prog 146 _ _ _ at hcon
  refine hcon.mono ?_
  rintro e w' ⟨rfl, rfl⟩
  refine ⟨_, rfl, ?_, rfl⟩
  have e : smB.data.toList = smallL := rfl
  have e2 : ((c.toNat : Int)).toNat.toUInt8 = c := by simp
  rw [e, e2]
  exact small_low c

set_option maxHeartbeats 1000000 in
theorem w_KeyR (s : ByteArray) (w : World) (hs : s.size ≤ 1000000) :
    Calls Tryz.prog 79 #[.string s] w fun e w' => e = .returned (.bool (keyB s)) ∧ Nx w w' := by
  have e1 := inB_out (s.size : Int) 1 40
  by_cases h0 : s.size = 0
  · have he : s.toList = [] := by
      rw [Lib.toList_data]
      exact List.eq_nil_of_length_eq_zero (by rw [data_len]; exact h0)
    have hk : keyB s = false := by
      unfold keyB
      rw [← Lib.toList_data, he]; rfl
    have ho : outB (s.size : Int) 1 40 = true := outB_true.2 (by omega)
    rw [ho] at e1
    have HK := hide hk
    clear hk ho h0
    go_enter Tryz.func79, Tryz.ntmps79
    go_wp2_with (go_at_call 80; refine (w_in _ _ _ _).mono ?_; rintro e w' ⟨rfl, rfl⟩)
    go_ret
    exact ⟨ret_bool (by rw [HK.out]), Nx.refl _⟩
  · have h1 : 0 < s.size := by omega
    have HK := hide (keyB_eq s h1)
    have hT := fun w => w_TrimKey s w hs
    by_cases h40 : 40 < s.size
    · have ho : outB (s.size : Int) 1 40 = true := outB_true.2 (by omega)
      rw [ho] at e1
      clear ho
      go_enter Tryz.func79, Tryz.ntmps79
      go_wp2_with (go_at_call 80; refine (w_in _ _ _ _).mono ?_; rintro e w' ⟨rfl, rfl⟩)
      go_ret
      exact ⟨ret_bool (by rw [HK.out, decide_eq_false (by omega)]; rfl), Nx.refl _⟩
    · have ho : outB (s.size : Int) 1 40 = false := outB_false.2 (by omega)
      rw [ho] at e1
      clear ho
      generalize s.data.toList.all keyC = B at HK hT
      go_enter Tryz.func79, Tryz.ntmps79
      go_wp2_with (first
        | (go_at_call 80; refine (w_in _ _ _ _).mono ?_; rintro e w' ⟨rfl, rfl⟩)
        | (go_at_call 145; refine (hT _).mono ?_; rintro e w1 ⟨r, rfl, hr, hn1⟩)
        | (go_at_call 146; refine (w_IndexSmall _ _).mono ?_; rintro e w2 ⟨z, rfl, hz, rfl⟩))
      · go_ret
        exact ⟨ret_bool (by rw [HK.out, decide_eq_true (by omega), show B = true from ‹B = true›]; simp), hn1⟩
      · go_ret
        have hB : B = false := by simpa using ‹¬B = true›
        exact ⟨ret_bool (by rw [HK.out, hB]; simp), hn1⟩
end Go.Proofs.YtmpnilliichpfaaGreatDoor
/- cmp.Or of errors. -/
namespace Go.Proofs.YtmpnilliichpfaaGreatDoor
open Go.RowKit

def encI (n : Int) : List Value := [.int .i64 n]
theorem orI_drop (zs : List Int) (k : Nat) (hk : k < zs.length) : orI (zs.drop k) = if zs[k] = 0 then orI (zs.drop (k + 1)) else zs[k] := by
  rw [List.drop_eq_getElem_cons hk]; rfl
set_option maxHeartbeats 400000 in
theorem w_OrE (lo : Nat) (A : Option Addr) (c : Nat) (zs : List Int) (w : World) (hR : Rd w lo A 1 encI zs) (hl : zs.length ≤ 65536) :
    Calls Tryz.prog 22 #[.slice A zs.length c] w fun e w' => e = .returned (.int .i64 (orI zs)) ∧ w = w' := by
  generalize hn : zs.length = n at *
  have HR := hide hR
  have HN := hide hn
  clear hR hn
  go_enter Tryz.func22, Tryz.ntmps22
  go_wp2
  go_loop [2, 5, 8] (fun _ _ i => ∃ k : Nat, k ≤ n ∧ i = .int .i64 k ∧ orI zs = orI (zs.drop k)) (fun _ _ i => n - (intOf i).toNat)
  case atStart => exact ⟨0, Nat.zero_le _, rfl, rfl⟩
  case round =>
    obtain ⟨k, hk, rfl, hq⟩ := hrel
    have HQ := hide hq
    clear hq
    by_cases hlt : k < n
    · have hlt' : k < zs.length := by have := HN.out; omega
      obtain ⟨b, off, rfl, _, hb, _, hc⟩ := HR.out.open_ (Nx.refl w) (by omega)
      have c0 : w.cell? ⟨b, off + k, none⟩ = some (.int .i64 zs[k]) := by have := hc k hlt' 0 _ rfl; simpa using this
      clear hc
      have HD := hide (orI_drop zs k hlt')
      by_cases hz : zs[k] = 0
      · have hz' : (zs[k] != 0) = false := by simpa using hz
        generalize zs[k] = z at *
        go_wp2
        go_round
        case rel => exact ⟨k + 1, by omega, by go_num, by rw [HQ.out, HD.out, if_pos hz]⟩
        case measure => simp [intOf]; omega
      · have hz' : (zs[k] != 0) = true := by simpa using hz
        generalize zs[k] = z at *
        go_wp2
        go_ret
        exact ⟨ret_int (by rw [HQ.out, HD.out, if_neg hz]), rfl⟩
    · go_wp2
      go_ret
      exact ⟨ret_int (by rw [HQ.out, List.drop_of_length_le (by have := HN.out; omega)]; rfl), rfl⟩

end Go.Proofs.YtmpnilliichpfaaGreatDoor
/- Sorted keys: the program's check and the reference's. -/
namespace Go.Proofs.YtmpnilliichpfaaGreatDoor
open Go.RowKit

def Small (l : List ByteArray) : Prop := ∀ s ∈ l, s.size ≤ 1000000
theorem Small.at {l : List ByteArray} (h : Small l) (k : Nat) (hk : k < l.length) : l[k].size ≤ 1000000 := h _ (List.getElem_mem hk)

end Go.Proofs.YtmpnilliichpfaaGreatDoor
/- Nodes: the program's check. -/
namespace Go.Proofs.YtmpnilliichpfaaGreatDoor
open Go.RowKit

theorem w_isPointR (x y : Int) (w : World) : Calls Tryz.prog 92 #[.int .i64 x, .int .i64 y] w fun e w' => e = .returned (.bool (isPtB x y)) ∧ w = w' := by
  cases h : outB x (-10000) 10000
  · cases h2 : outB y (-10000) 10000
    all_goals
      go_enter Tryz.func92, Tryz.ntmps92
      go_wp2_with (go_at_call 76; refine (w_Out _ _ _ _).mono ?_; rintro e w' ⟨rfl, rfl⟩)
      go_ret
      exact ⟨ret_bool (by unfold isPtB; rw [h, h2]; rfl), rfl⟩
  · go_enter Tryz.func92, Tryz.ntmps92
    go_wp2_with (go_at_call 76; refine (w_Out _ _ _ _).mono ?_; rintro e w' ⟨rfl, rfl⟩)
    go_ret
    exact ⟨ret_bool (by unfold isPtB; rw [h]; rfl), rfl⟩

def SmallN (l : List Node) : Prop := ∀ s ∈ l, s.key.size ≤ 1000000
set_option maxRecDepth 100000 in
set_option maxHeartbeats 2000000 in
theorem w_nodesFaultR (lo : Nat) (A : Option Addr) (c : Nat) (l : List Node) (w : World) (hR : Rd w lo A 3 encNode l) (hS : SmallN l) (hl : l.length ≤ 65536) :
    Calls Tryz.prog 135 #[.slice A l.length c] w fun e w' => e = .returned (.int .i64 (nodesF l)) ∧ Nx w w' := by
  generalize hn : l.length = n at *
  have HR := hide hR
  have HN := hide hn
  have HS := hide hS
  clear hR hn hS
  by_cases hbig : 500 < n
  · go_enter Tryz.func135, Tryz.ntmps135
    go_wp2
    go_ret
    exact ⟨ret_int (by unfold nodesF; rw [if_pos (by rw [HN.out]; exact hbig)]), Nx.refl _⟩
  · have HF := hide (show nodesF l = chk nodeF none l by unfold nodesF; rw [if_neg (by rw [HN.out]; exact hbig)])
    go_enter Tryz.func135, Tryz.ntmps135
    go_wp2
    go_loopw [2, 3, 4, 10] (fun _ _ _ i wr => ∃ k : Nat, k ≤ n ∧ i = .int .i64 k ∧ Nx w wr ∧ chk nodeF none l = chk nodeF (prevOf l k) (l.drop k)) (fun _ _ _ i _ => n - (intOf i).toNat)
    case atStart => exact ⟨0, Nat.zero_le _, rfl, Nx.refl _, rfl⟩
    case round =>
      obtain ⟨k, hk, rfl, hbw, hq⟩ := hrel
      have HQ := hide hq
      clear hq
      by_cases hlt : k < n
      · have hlt' : k < l.length := by have := HN.out; omega
        obtain ⟨b, off, rfl, _, hb, hbr, hc⟩ := HR.out.open_ hbw (by omega)
        have c0 : wr.cell? ⟨b, off + k * 3, none⟩ = some (.string l[k].key) := hc k hlt' 0 _ rfl
        have c1 : wr.cell? ⟨b, off + k * 3 + 1, none⟩ = some (.int .i64 l[k].x) := hc k hlt' 1 _ rfl
        have c2 : wr.cell? ⟨b, off + k * 3 + 2, none⟩ = some (.int .i64 l[k].y) := hc k hlt' 2 _ rfl
        have hsz := HS.out _ (List.getElem_mem hlt')
        have HC := hide hc
        clear hc
        have HD := hide (chk_drop nodeF l k hlt')
        cases hkb : keyB l[k].key
        · have HV := hide (show nodeF (prevOf l k) l[k] = 5 by unfold nodeF; rw [hkb]; rfl)
          go_wp2_with (go_at_call 136; refine (w_Key _ _ hsz).mono ?_; rintro e w' ⟨rfl, rfl⟩)
          go_ret
          exact ⟨ret_int (by rw [HF.out, HQ.out, HD.out, HV.out]; rfl), hbw.alloc _⟩
        · by_cases hk0 : 0 < k
          · have c4 : wr.cell? ⟨b, off + (k - 1) * 3, none⟩ = some (.string (l[k - 1]'(by omega)).key) := HC.out (k - 1) (by omega) 0 _ rfl
            have HV := hide (show nodeF (prevOf l k) l[k] = if strLe l[k].key (l[k - 1]'(by omega)).key then 7 else ptF l[k].x l[k].y by rw [prevOf_pos l k hk0 (by omega)]; unfold nodeF; rw [hkb]; rfl)
            generalize (l[k - 1]'(by omega)).key = p0 at *
            have q0 : decide ((0 : Int) < (k : Int)) = true := by simpa using hk0
            have q1 : IntKind.i64.wrap ((k : Int) - 1) = (k : Int) - 1 := IntWalk.i64_in _ (by omega)
            have q2 : (1 : Int) ≤ (k : Int) := by omega
            have q3 : ((k : Int) - 1).toNat = k - 1 := by omega
            have q4 : (k : Int) - 1 < (n : Int) := by omega
            cases ho : strLe l[k].key p0
            · have t1 : (Op.bytesLess l[k].key.toList p0.toList || l[k].key.toList == p0.toList) = false := ho
              have HO := hide ho
              cases hp : isPtB l[k].x l[k].y
              all_goals
                have HP := hide hp
                clear ho
                go_wp2_with (first
                  | (go_at_call 136; refine (w_Key _ _ hsz).mono ?_; rintro e w' ⟨rfl, rfl⟩))
                go_quiet (fail)
                go_wp2_with (first
                  | (go_at_call 92; refine (w_isPointR _ _ _).mono ?_; rintro e w' ⟨rfl, rfl⟩))
              · go_ret
                exact ⟨ret_int (by rw [HF.out, HQ.out, HD.out, HV.out, HO.out]; unfold ptF argF; rw [HP.out]; rfl), (hbw.alloc _).drewN _⟩
              · go_roundw
                case rel => exact ⟨k + 1, by omega, by go_num, (hbw.alloc _).drewN _, by rw [HQ.out, HD.out, HV.out, HO.out]; unfold ptF argF; rw [HP.out]; rfl⟩
                case measure => simp [intOf]; omega
            · have t1 : (Op.bytesLess l[k].key.toList p0.toList || l[k].key.toList == p0.toList) = true := ho
              have HO := hide ho
              clear ho
              go_wp2_with (first
                | (go_at_call 136; refine (w_Key _ _ hsz).mono ?_; rintro e w' ⟨rfl, rfl⟩))
              go_quiet (fail)
              go_wp2
              go_ret
              exact ⟨ret_int (by rw [HF.out, HQ.out, HD.out, HV.out, HO.out]; rfl), (hbw.alloc _).drewN _⟩
          · have HV := hide (show nodeF (prevOf l k) l[k] = ptF l[k].x l[k].y by have e : k = 0 := (by omega); subst e; rw [prevOf_zero]; unfold nodeF; rw [hkb]; rfl)
            have q0 : decide ((0 : Int) < (k : Int)) = false := by simpa using hk0
            cases hp : isPtB l[k].x l[k].y
            all_goals
              have HP := hide hp
              go_wp2_with (first
                | (go_at_call 136; refine (w_Key _ _ hsz).mono ?_; rintro e w' ⟨rfl, rfl⟩))
              go_quiet (fail)
              go_wp2_with (first
                | (go_at_call 92; refine (w_isPointR _ _ _).mono ?_; rintro e w' ⟨rfl, rfl⟩))
            · go_ret
              exact ⟨ret_int (by rw [HF.out, HQ.out, HD.out, HV.out]; unfold ptF argF; rw [HP.out]; rfl), (hbw.alloc _).drewN _⟩
            · go_roundw
              case rel => exact ⟨k + 1, by omega, by go_num, (hbw.alloc _).drewN _, by rw [HQ.out, HD.out, HV.out]; unfold ptF argF; rw [HP.out]; rfl⟩
              case measure => simp [intOf]; omega
      · go_wp2
        go_ret
        exact ⟨ret_int (by rw [HF.out, HQ.out, List.drop_of_length_le (by have := HN.out; omega)]; rfl), hbw⟩
end Go.Proofs.YtmpnilliichpfaaGreatDoor
