/- Plain functions: what is left is given out one by one; sorting in place. -/
import Derived.Test.YthlhomcgjgfdhaaGreatDoorQG0
import Derived.Lib.SlTrimSet
import Derived.Lib.Bytealg
import Derived.Laws.Cover1
import Derived.Test.YthlhomcgjgfdhaaGreatDoorQStr
namespace Go.Proofs.YthlhomcgjgfdhaaGreatDoor
/-- i gets one of what is left ahead of j. -/
def beats (rs : List Int) (i j : Nat) : Prop := rs.getD j 0 < rs.getD i 0 ∨ (rs.getD i 0 = rs.getD j 0 ∧ i < j)
theorem beats_asymm {rs : List Int} {i j : Nat} (h : beats rs i j) (k : beats rs j i) : False := by unfold beats at h k; omega
structure UpSet (rs : List Int) (T : List Nat) : Prop where
  nd : T.Nodup
  lt : ∀ i ∈ T, i < rs.length
  up : ∀ i ∈ T, ∀ j, j < rs.length → j ∉ T → beats rs i j
theorem nodup_len : ∀ {l m : List Nat}, l.Nodup → (∀ x ∈ l, x ∈ m) → l.length ≤ m.length
  | [], _, _, _ => by simp
  | x :: l, m, hn, hs => by
    have h1 := List.nodup_cons.1 hn
    have h2 : l.length ≤ (m.erase x).length := nodup_len h1.2 (fun y hy => by
      have hne : y ≠ x := fun e => h1.1 (e ▸ hy)
      exact (List.mem_erase_of_ne hne).2 (hs y (List.mem_cons_of_mem _ hy)))
    have h3 := List.length_erase_of_mem (hs x (by simp))
    have h4 : 0 < m.length := List.length_pos_of_mem (hs x (by simp))
    simp only [List.length_cons]
    omega
theorem UpSet.sub {rs : List Int} {S T : List Nat} (hS : UpSet rs S) (hT : UpSet rs T) (hl : S.length = T.length) : ∀ i ∈ S, i ∈ T := by
  intro a ha
  refine Classical.byContradiction fun hna => ?_
  have hb : ∃ b ∈ T, b ∉ S := by
    refine Classical.byContradiction fun hno => ?_
    have hsub : ∀ x ∈ T, x ∈ S.erase a := fun x hx => by
      have hxS : x ∈ S := Classical.byContradiction fun h => hno ⟨x, hx, h⟩
      have hne : x ≠ a := fun e => hna (e ▸ hx)
      exact (List.mem_erase_of_ne hne).2 hxS
    have h1 := nodup_len hT.nd hsub
    have h2 := List.length_erase_of_mem ha
    have h3 : 0 < S.length := List.length_pos_of_mem ha
    omega
  obtain ⟨b, hb, hbS⟩ := hb
  exact beats_asymm (hS.up a ha b (hT.lt b hb) hbS) (hT.up b hb a (hS.lt a ha) hna)
theorem UpSet.same {rs : List Int} {S T : List Nat} (hS : UpSet rs S) (hT : UpSet rs T) (hl : S.length = T.length) (i : Nat) : i ∈ S ↔ i ∈ T :=
  ⟨hS.sub hT hl i, hT.sub hS hl.symm i⟩
/-- One more for those in T. -/
def bump (qs : List Int) (T : List Nat) : List Int := qs.mapIdx (fun i q => if i ∈ T then q + 1 else q)
theorem bump_len (qs : List Int) (T : List Nat) : (bump qs T).length = qs.length := by simp [bump]
theorem bump_nil (qs : List Int) : bump qs [] = qs := by
  apply List.ext_getElem
  · simp [bump]
  · intro i h1 h2; simp [bump]
theorem bump_get (qs : List Int) (T : List Nat) (i : Nat) (h : i < (bump qs T).length) : (bump qs T)[i] = if i ∈ T then qs[i]'(by rw [bump_len] at h; exact h) + 1 else qs[i]'(by rw [bump_len] at h; exact h) := by simp [bump]
theorem bump_same {qs : List Int} {S T : List Nat} (h : ∀ i, i ∈ S ↔ i ∈ T) : bump qs S = bump qs T := by
  unfold bump; congr 1; funext i q; simp [h i]
theorem bump_snoc (qs : List Int) (T : List Nat) (b : Nat) (hb : b ∉ T) (hl' : b < (bump qs T).length) : (bump qs T).set b ((bump qs T)[b] + 1) = bump qs (T ++ [b]) := by
  apply List.ext_getElem
  · simp [bump]
  · intro i h1 h2
    simp only [List.getElem_set, bump_get]
    by_cases e : b = i
    · subst e; simp [hb]
    · simp [e]
      by_cases h : i ∈ T
      · simp [h]
      · have : ¬ i = b := fun h => e h.symm
        simp [h, this]
/-- What is given out: rounded down, and what is left one by one to those ahead. -/
def Dealt (qs rs : List Int) (left : Nat) (zs : List Int) : Prop := ∃ T, UpSet rs T ∧ T.length = left ∧ zs = bump qs T
theorem Dealt.unique {qs rs : List Int} {left : Nat} {zs zs' : List Int} (h : Dealt qs rs left zs) (h' : Dealt qs rs left zs') : zs = zs' := by
  obtain ⟨S, hS, hl, rfl⟩ := h
  obtain ⟨T, hT, hl', rfl⟩ := h'
  exact bump_same (hS.same hT (hl.trans hl'.symm))
/-- What the reference still looks at. -/
def cur (rs : List Int) (T : List Nat) : List Int := rs.mapIdx (fun i r => if i ∈ T then -1 else r)
theorem UpSet.nil (rs : List Int) : UpSet rs [] := ⟨List.nodup_nil, by simp, by simp⟩
/-- The first ones of all, in order. -/
theorem UpSet.take {rs : List Int} {l : List Nat} (hp : l.Perm (List.range rs.length)) (hs : l.Pairwise (beats rs)) (k : Nat) : UpSet rs (l.take k) := by
  have hnd : l.Nodup := hp.nodup_iff.2 List.nodup_range
  refine ⟨?_, ?_, ?_⟩
  · exact List.Nodup.sublist (List.take_sublist k l) hnd
  · intro i hi
    exact List.mem_range.1 (hp.mem_iff.1 (List.mem_of_mem_take hi))
  · intro i hi j hj hjT
    have hjl : j ∈ l := hp.mem_iff.2 (List.mem_range.2 hj)
    have hjd : j ∈ l.drop k := by
      rw [← List.take_append_drop k l] at hjl
      exact (List.mem_append.1 hjl).resolve_left hjT
    rw [← List.take_append_drop k l] at hs
    exact (List.pairwise_append.1 hs).2.2 i hi j hjd
/-- Numbers with what is left of each, sorted: those ahead. -/
theorem sorted_up {rs : List Int} {ys : List (Nat × Int)} (hp : ys.Perm ((List.range rs.length).map (fun i => (i, rs.getD i 0)))) (hs : ys.Pairwise (fun a b => b.2 < a.2 ∨ (a.2 = b.2 ∧ a.1 < b.1))) (k : Nat) : UpSet rs ((ys.map (·.1)).take k) := by
  have hv : ∀ a ∈ ys, a.2 = rs.getD a.1 0 := fun a ha => by
    obtain ⟨i, _, rfl⟩ := List.mem_map.1 (hp.mem_iff.1 ha)
    rfl
  refine UpSet.take ?_ ?_ k
  · have := hp.map (·.1)
    rw [List.map_map] at this
    have e : ((fun x : Nat × Int => x.1) ∘ fun i => (i, rs.getD i 0)) = id := rfl
    rw [e, List.map_id] at this
    exact this
  · rw [List.pairwise_map]
    refine List.Pairwise.imp_of_mem (fun ha hb h => ?_) hs
    unfold beats
    rw [← hv _ ha, ← hv _ hb]
    exact h
end Go.Proofs.YthlhomcgjgfdhaaGreatDoor
/- Plain: a fair division: what all get is what all cost. -/
namespace Go.Proofs.YthlhomcgjgfdhaaGreatDoor
def bitN (g i : Nat) : Nat := g / 2 ^ i % 2
def szN : Nat → Nat → Nat
  | 0, _ => 0
  | n + 1, g => szN n g + bitN g n
def factN : Nat → Nat
  | 0 => 1
  | n + 1 => factN n * (n + 1)
def wN (n g : Nat) : Nat := factN (szN n g) * factN (n - 1 - szN n g)
def term (n : Nat) (cs : List Int) (g i : Nat) : Int := if bitN g i = 0 then ((wN n g : Nat) : Int) * (cs.getD (g + 2 ^ i) 0 - cs.getD g 0) else 0
def numTo (n : Nat) (cs : List Int) : Nat → Nat → Int
  | 0, _ => 0
  | g + 1, i => numTo n cs g i + term n cs g i
end Go.Proofs.YthlhomcgjgfdhaaGreatDoor
namespace Go.Proofs.YthlhomcgjgfdhaaGreatDoor
end Go.Proofs.YthlhomcgjgfdhaaGreatDoor
/- Plain: a whole given out by parts. -/
namespace Go.Proofs.YthlhomcgjgfdhaaGreatDoor

def sumL : List Int → Int
  | [] => 0
  | x :: l => x + sumL l
theorem sumL_app (a b : List Int) : sumL (a ++ b) = sumL a + sumL b := by
  induction a with
  | nil => simp [sumL]
  | cons x a ih => simp only [List.cons_append, sumL, ih]; omega
theorem sumL_snoc (a : List Int) (x : Int) : sumL (a ++ [x]) = sumL a + x := by rw [sumL_app]; simp [sumL]
theorem sumL_take (l : List Int) (k : Nat) (hk : k < l.length) : sumL (l.take (k + 1)) = sumL (l.take k) + l[k] := by
  rw [List.take_succ_eq_append_getElem hk, sumL_snoc]
theorem sumL_mul (c : Int) (l : List Int) : sumL (l.map (fun p => c * p)) = c * sumL l := by
  induction l with
  | nil => simp [sumL]
  | cons x l ih => simp only [List.map_cons, sumL, ih, Int.mul_add]
theorem sumL_bd (l : List Int) (lo hi : Int) (h : ∀ x ∈ l, lo ≤ x ∧ x ≤ hi) : l.length * lo ≤ sumL l ∧ sumL l ≤ l.length * hi := by
  induction l with
  | nil => simp [sumL]
  | cons x l ih =>
    have h1 := ih (fun y hy => h y (List.mem_cons_of_mem _ hy))
    have h2 := h x (by simp)
    simp only [sumL, List.length_cons]
    have e1 : ((l.length + 1 : Nat) : Int) * lo = l.length * lo + lo := by rw [Int.natCast_succ, Int.add_mul]; omega
    have e2 : ((l.length + 1 : Nat) : Int) * hi = l.length * hi + hi := by rw [Int.natCast_succ, Int.add_mul]; omega
    omega
theorem sumL_split (F : Int) (nums : List Int) : sumL nums = F * sumL (nums.map (· / F)) + sumL (nums.map (· % F)) := by
  induction nums with
  | nil => simp [sumL]
  | cons x l ih =>
    simp only [List.map_cons, sumL, Int.mul_add]
    have := Int.mul_ediv_add_emod x F
    omega
def qsN (nums : List Int) (F : Int) : List Int := nums.map (· / F)
def rsN (nums : List Int) (F : Int) : List Int := nums.map (· % F)
def leftN (all : Int) (nums : List Int) (F : Int) : Int := all - sumL (qsN nums F)
theorem qsN_len (nums : List Int) (F : Int) : (qsN nums F).length = nums.length := by simp [qsN]
theorem rsN_len (nums : List Int) (F : Int) : (rsN nums F).length = nums.length := by simp [rsN]
theorem leftN_bd {nums : List Int} {F c : Int} (hF : 0 < F) (hs : sumL nums = F * c) : 0 ≤ leftN c nums F ∧ leftN c nums F ≤ nums.length := by
  have h1 := sumL_split F nums
  have h2 := sumL_bd (nums.map (· % F)) 0 F (fun x hx => by
    obtain ⟨y, _, rfl⟩ := List.mem_map.1 hx
    exact ⟨Int.emod_nonneg _ (by omega), Int.le_of_lt (Int.emod_lt_of_pos _ hF)⟩)
  unfold leftN qsN
  rw [List.length_map] at h2
  generalize sumL (nums.map (· / F)) = q at *
  generalize sumL (nums.map (· % F)) = r at *
  have h3 : F * (c - q) = r := by rw [Int.mul_sub]; omega
  constructor
  · refine Int.le_of_mul_le_mul_left (a := F) ?_ hF
    omega
  · refine Int.le_of_mul_le_mul_left (a := F) ?_ hF
    rw [h3, Int.mul_comm F]; exact h2.2
/-- A whole 'all' given out by numbers of which all together are F times it. -/
def Handed (all : Int) (nums : List Int) (F : Int) (zs : List Int) : Prop := Dealt (qsN nums F) (rsN nums F) (leftN all nums F).toNat zs
theorem Handed.unique {all : Int} {nums : List Int} {F : Int} {zs zs' : List Int} (h : Handed all nums F zs) (h' : Handed all nums F zs') : zs = zs' := Dealt.unique h h'
theorem Handed.len {all : Int} {nums : List Int} {F : Int} {zs : List Int} (h : Handed all nums F zs) : zs.length = nums.length := by
  obtain ⟨T, _, _, rfl⟩ := h
  rw [bump_len, qsN_len]
def numsD (cents : Int) (parts : List Int) : List Int := parts.map (fun p => cents * p)
theorem numsD_sum (cents : Int) (parts : List Int) : sumL (numsD cents parts) = sumL parts * cents := by
  unfold numsD; rw [sumL_mul, Int.mul_comm]
/-- Cents given out by parts. -/
def Divided (cents : Int) (parts : List Int) (zs : List Int) : Prop := Handed cents (numsD cents parts) (sumL parts) zs
theorem divided_433 {zs : List Int} (h : Divided 10 [1, 1, 1] zs) : zs = [4, 3, 3] := by
  refine Handed.unique h ?_
  refine ⟨[0], ⟨by simp, by decide, ?_⟩, by decide, by decide⟩
  intro i hi j hj hjT
  simp at hi; subst hi
  have e : rsN (numsD 10 [1, 1, 1]) (sumL [1, 1, 1]) = [1, 1, 1] := by decide
  rw [e] at hj ⊢
  have : j = 1 ∨ j = 2 := by simp at hj hjT; omega
  rcases this with rfl | rfl <;> exact .inr ⟨rfl, by omega⟩
def numsF (n : Nat) (cs : List Int) (g : Nat) : List Int := (List.range n).map (numTo n cs g)
end Go.Proofs.YthlhomcgjgfdhaaGreatDoor
/- cmp.Or of errors. -/
namespace Go.Proofs.YthlhomcgjgfdhaaGreatDoor
open Go.RowKit

def encI (n : Int) : List Value := [.int .i64 n]
end Go.Proofs.YthlhomcgjgfdhaaGreatDoor
/- Plain: what a key is, by the program's loop and by the reference's trim. -/
namespace Go.Proofs.YthlhomcgjgfdhaaGreatDoor
def lowC (c : UInt8) : Bool := decide (97 ≤ c.toNat) && decide (c.toNat ≤ 122)
def digC (c : UInt8) : Bool := decide (48 ≤ c.toNat) && decide (c.toNat ≤ 57)
def keyC (c : UInt8) : Bool := lowC c || digC c || c == 45 || c == 95
/-- A key. -/
def keyL : List UInt8 → Bool
  | [] => false
  | c :: l => decide ((c :: l).length ≤ 40) && lowC c && (c :: l).all keyC
def keyB (s : ByteArray) : Bool := keyL s.data.toList
def smallL : List UInt8 := [97, 98, 99, 100, 101, 102, 103, 104, 105, 106, 107, 108, 109, 110, 111, 112, 113, 114, 115, 116, 117, 118, 119, 120, 121, 122]
def csetL : List UInt8 := smallL ++ [48, 49, 50, 51, 52, 53, 54, 55, 56, 57, 45, 95]
theorem all_u8 {p : UInt8 → Bool} (h : ∀ n : Fin 256, p (UInt8.ofNat n.val) = true) (c : UInt8) : p c = true := by
  have := h ⟨c.toNat, c.toNat_lt⟩
  simpa using this
theorem cset_key (c : UInt8) : csetL.contains c = keyC c := by
  have := all_u8 (p := fun c => csetL.contains c == keyC c) (by decide +kernel) c
  simpa using this
theorem small_low (c : UInt8) : decide (0 ≤ Go.Lib.indexByte smallL c) = lowC c := by
  have := all_u8 (p := fun c => decide (0 ≤ Go.Lib.indexByte smallL c) == lowC c) (by decide +kernel) c
  simpa using this
theorem drop_nil {p : UInt8 → Bool} : ∀ {l : List UInt8}, l.dropWhile p = [] ↔ l.all p = true
  | [] => by simp
  | c :: l => by
    by_cases h : p c = true
    · rw [List.dropWhile_cons_of_pos h, drop_nil]; simp [h]
    · rw [List.dropWhile_cons_of_neg h]; simp [h]
theorem drop_all {p : UInt8 → Bool} : ∀ {l : List UInt8}, (l.dropWhile p).all p = true → l.all p = true
  | [], h => h
  | c :: l, h => by
    by_cases hc : p c = true
    · rw [List.dropWhile_cons_of_pos hc] at h; simp [hc]; simpa using drop_all h
    · rw [List.dropWhile_cons_of_neg hc] at h; exact h
theorem all_drop {p : UInt8 → Bool} {l : List UInt8} (h : l.all p = true) : (l.dropWhile p).all p = true := by
  rw [drop_nil.2 h]; rfl
theorem trim_nil (l cs : List UInt8) : Go.Lib.trimS l cs = [] ↔ l.all (cs.contains ·) = true := by
  unfold Go.Lib.trimS Go.Lib.trimLeftS Go.Lib.trimRightS
  rw [drop_nil]
  simp only [List.all_reverse]
  constructor
  · intro h; have := drop_all h; simpa using this
  · intro h; exact all_drop (by simpa using h)
theorem trim_key (l : List UInt8) : (Go.Lib.trimS l csetL).isEmpty = l.all keyC := by
  have h := trim_nil l csetL
  have e : (fun c => csetL.contains c) = keyC := by funext c; exact cset_key c
  rw [e] at h
  cases h1 : l.all keyC
  · cases h2 : Go.Lib.trimS l csetL
    · rw [h.1 h2] at h1; cases h1
    · rfl
  · rw [h.2 h1]; rfl
end Go.Proofs.YthlhomcgjgfdhaaGreatDoor
/- Plain functions: what is wrong with keys, parts, costs, dues, steps; gains, refunds. -/
namespace Go.Proofs.YthlhomcgjgfdhaaGreatDoor

def maxCt : Int := 1000000000
def strLe (a b : ByteArray) : Bool := Op.bytesLess a.toList b.toList || a.toList == b.toList
def centB (n : Int) : Bool := outB n 0 maxCt
def partsF (cents : Int) (parts : List Int) : Int :=
  if centB cents then 1 else if 1000 < parts.length then 2 else if parts.any centB then 1 else if sumL parts = 0 then 8 else 0
structure Due where
  key : ByteArray
  cents : Int
instance : Inhabited Due := ⟨⟨default, 0⟩⟩
def encS (s : ByteArray) : List Value := [.string s]
/-- A whole shared fairly. -/
def FairR (rides : List ByteArray) (costs : List Int) (ds : List Due) : Prop :=
  ∃ zs, Handed (costs.getD (2 ^ rides.length - 1) 0) (numsF rides.length costs (2 ^ rides.length)) (factN rides.length : Nat) zs ∧ ds = List.zipWith Due.mk rides zs
theorem FairR.unique {rides : List ByteArray} {costs : List Int} {ds ds' : List Due} (h : FairR rides costs ds) (h' : FairR rides costs ds') : ds = ds' := by
  obtain ⟨zs, h1, rfl⟩ := h
  obtain ⟨zs', h2, rfl⟩ := h'
  rw [h1.unique h2]
structure Frac where
  num : Int
  den : Int
instance : Inhabited Frac := ⟨⟨0, 0⟩⟩
end Go.Proofs.YthlhomcgjgfdhaaGreatDoor
/- The stream's methods that pick a number. -/
namespace Go.Proofs.YthlhomcgjgfdhaaGreatDoor
open Go.RowKit

/-- A number of some list. -/
def StrIn (zs : List Int) (s k : Nat) (w : World) (e : Ending) (w' : World) : Prop := ∃ r ∈ zs, e = .returned (.int .i64 r) ∧ Gr s w w' ∧ Str w' s k
/-- 's.Pick(..)' of numbers that lie in a block of their own. -/
theorem w_PickI (g : Nat) (zs : List Int) (cs : Array Value) (s k : Nat) (w : World) (hS : Str w s k) (hk : k < 1000000) (hg : w.heap[g]? = some (.cells cs 3 (0, 0))) (hne : g ≠ s) (hcs : cs.toList = zs.map (Value.int .i64)) (h0 : zs ≠ []) (h1 : zs.length < 1000) :
    Calls Tryz.prog 7 #[.pointer (some ⟨s, 0, none⟩), .slice (some ⟨g, 0, none⟩) zs.length zs.length] w (StrIn zs s (k + 1) w) := by
  refine (w_Pick g zs.length cs s k w hS hk hg hne (by rw [← Array.length_toList, hcs, List.length_map]) (List.length_pos_iff.2 h0) h1).mono ?_
  rintro e w' ⟨v, hv, rfl, hg, hs⟩
  rw [hcs] at hv
  obtain ⟨z, hz, rfl⟩ := List.mem_map.1 hv
  exact ⟨z, hz, rfl, hg, hs⟩

set_option maxHeartbeats 1000000 in
theorem w_Odd (l h : Int) (s k : Nat) (w : World) (hS : Str w s k) (hk : k < 900000) (hl : -4294967296 ≤ l ∧ l ≤ h ∧ h < 4294967296) (hn : h - l < 4294967296) :
    Calls Tryz.prog 41 #[.pointer (some ⟨s, 0, none⟩), .int .i64 l, .int .i64 h] w (StrInt (-1099511627776) 1099511627776 s (k + 2) w) := by
  go_enter Tryz.func41, Tryz.ntmps41
  go_wp2_with (first
    | (go_at_call 39; refine (w_Flip _ _ _ _ hS (by omega) (by omega)).mono ?_; rintro e w1 ⟨b, rfl, hg1, hS1⟩)
    | (go_at_call 27; refine (w_Range _ _ _ _ _ hS1 (by omega) hl hn).mono ?_; rintro e w2 ⟨r, hr1, hr2, rfl, hg2, hS2⟩)
    | (go_at_call 7; refine (w_PickI _ [l - 1, h + 1, l, h, -1099511627776, 1099511627776] _ _ _ _ (hS1.nx ((Nx.refl _).alloc _)) (by omega) (hnew rfl) (by have := hS1.lt; omega) rfl (by simp) (by simp)).mono ?_; rintro e w2 ⟨r, hr, rfl, hg2, hS2⟩))
  · go_ret
    have hr' : r = l - 1 ∨ r = h + 1 ∨ r = l ∨ r = h ∨ r = -1099511627776 ∨ r = 1099511627776 := by simpa using hr
    exact ⟨r, by omega, by omega, rfl, (hg1.alloc _).trans hg2, hS2⟩
  · go_ret
    exact ⟨r, by omega, by omega, rfl, hg1.trans hg2, hS2⟩

end Go.Proofs.YthlhomcgjgfdhaaGreatDoor
/- More words for memory, of no program: rows out of literals, prefixes of rows, rows that stay while others turn. -/
namespace Go.Proofs.YthlhomcgjgfdhaaGreatDoor
open Go.RowKit

section
variable {α : Type} {w w' : World} {lo K : Nat} {A : Option Addr} {enc : α → List Value} {xs : List α}
/-- The first ones of a slice. -/
theorem Rd.take (h : Rd w lo A K enc xs) (n : Nat) : Rd w lo A K enc (xs.take n) := fun hp => by
  have hp' : 0 < xs.length := by rw [List.length_take] at hp; omega
  obtain ⟨b, off, e, h1, hb, hc⟩ := h hp'
  refine ⟨b, off, e, h1, hb, fun i x hx j u hu => hc i x ?_ j u hu⟩
  have hi : i < (xs.take n).length := (List.getElem?_eq_some_iff.1 hx).1
  rw [List.length_take] at hi
  rw [← hx, List.getElem?_take_of_lt (by omega)]
/-- A row of the call's own out of a literal: its first n elements. -/
theorem own_lit {e : TypeId} {g n m : Nat} {cs : Array Value} {base : Nat} (hk : ∀ x, (enc x).length = K) (hg : w.heap[g]? = some (.cells cs e (0, 0))) (hb : base ≤ g) (hcs : cs.toList = xs.flatMap enc) (hm : xs.length = m) (hn : n ≤ m) (hmax : m ≤ maxLen) :
    w.ownsRow base e K (.slice (some ⟨g, 0, none⟩) n m) n ((xs.take n).flatMap enc) := by
  have hl : (xs.take n).length = n := by rw [List.length_take]; omega
  refine ⟨by rw [flat_len hk, hl], .inr ⟨g, m, cs, rfl, hb, hg, hn, hmax, ?_, ?_⟩⟩
  · rw [← Array.length_toList, hcs, flat_len hk, hm]
  · rw [hcs]
    have e1 : xs.flatMap enc = (xs.take n).flatMap enc ++ (xs.drop n).flatMap enc := by rw [← List.flatMap_append, List.take_append_drop]
    rw [e1, List.take_append_of_le_length (by rw [flat_len hk, hl]; exact Nat.le_refl _), List.take_of_length_le (by rw [flat_len hk, hl]; exact Nat.le_refl _)]
end
end Go.Proofs.YthlhomcgjgfdhaaGreatDoor
