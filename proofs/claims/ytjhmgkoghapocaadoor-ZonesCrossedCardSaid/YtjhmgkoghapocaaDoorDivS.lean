/- Plain: a whole given out by parts. -/
import Derived.Test.YtjhmgkoghapocaaDoorShare
import Derived.Test.YtjhmgkoghapocaaDoorFairS
namespace Go.Proofs.YtjhmgkoghapocaaDoor

def sumL : List Int → Int
  | [] => 0
  | x :: l => x + sumL l
theorem sumL_app (a b : List Int) : sumL (a ++ b) = sumL a + sumL b := by
  induction a with
  | nil => simp [sumL]
  | cons x a ih => simp only [List.cons_append, sumL, ih]; omega
theorem sumL_snoc (a : List Int) (x : Int) : sumL (a ++ [x]) = sumL a + x := by rw [sumL_app]; simp [sumL]
theorem sumL_take (l : List Int) (k : Nat) (hk : k < l.length) : sumL (l.take (k + 1)) = sumL (l.take k) + l[k] := by
  rw [List.take_succ_eq_append_getElem hk, sumL_snoc]
theorem sumL_range (f : Nat → Int) (n : Nat) : sumL ((List.range n).map f) = sumTo f n := by
  induction n with
  | zero => rfl
  | succ n ih => rw [List.range_succ, List.map_append, List.map_cons, List.map_nil, sumL_snoc, ih]; rfl
theorem sumL_mul (c : Int) (l : List Int) : sumL (l.map (fun p => c * p)) = c * sumL l := by
  induction l with
  | nil => simp [sumL]
  | cons x l ih => simp only [List.map_cons, sumL, ih, Int.mul_add]
theorem sumL_bd (l : List Int) (lo hi : Int) (h : ∀ x ∈ l, lo ≤ x ∧ x ≤ hi) : l.length * lo ≤ sumL l ∧ sumL l ≤ l.length * hi := by
  induction l with
  | nil => simp [sumL]
  | cons x l ih =>
    have h1 := ih (fun y hy => h y (List.mem_cons_of_mem _ hy))
    have h2 := h x (by simp)
    simp only [sumL, List.length_cons]
    have e1 : ((l.length + 1 : Nat) : Int) * lo = l.length * lo + lo := by rw [Int.natCast_succ, Int.add_mul]; omega
    have e2 : ((l.length + 1 : Nat) : Int) * hi = l.length * hi + hi := by rw [Int.natCast_succ, Int.add_mul]; omega
    omega
theorem sumL_split (F : Int) (nums : List Int) : sumL nums = F * sumL (nums.map (· / F)) + sumL (nums.map (· % F)) := by
  induction nums with
  | nil => simp [sumL]
  | cons x l ih =>
    simp only [List.map_cons, sumL, Int.mul_add]
    have := Int.mul_ediv_add_emod x F
    omega
def qsN (nums : List Int) (F : Int) : List Int := nums.map (· / F)
def rsN (nums : List Int) (F : Int) : List Int := nums.map (· % F)
def leftN (all : Int) (nums : List Int) (F : Int) : Int := all - sumL (qsN nums F)
theorem qsN_len (nums : List Int) (F : Int) : (qsN nums F).length = nums.length := by simp [qsN]
theorem rsN_len (nums : List Int) (F : Int) : (rsN nums F).length = nums.length := by simp [rsN]
theorem leftN_bd {nums : List Int} {F c : Int} (hF : 0 < F) (hs : sumL nums = F * c) : 0 ≤ leftN c nums F ∧ leftN c nums F ≤ nums.length := by
  have h1 := sumL_split F nums
  have h2 := sumL_bd (nums.map (· % F)) 0 F (fun x hx => by
    obtain ⟨y, _, rfl⟩ := List.mem_map.1 hx
    exact ⟨Int.emod_nonneg _ (by omega), Int.le_of_lt (Int.emod_lt_of_pos _ hF)⟩)
  unfold leftN qsN
  rw [List.length_map] at h2
  generalize sumL (nums.map (· / F)) = q at *
  generalize sumL (nums.map (· % F)) = r at *
  have h3 : F * (c - q) = r := by rw [Int.mul_sub]; omega
  constructor
  · refine Int.le_of_mul_le_mul_left (a := F) ?_ hF
    omega
  · refine Int.le_of_mul_le_mul_left (a := F) ?_ hF
    rw [h3, Int.mul_comm F]; exact h2.2
theorem rsN_nonneg {nums : List Int} {F : Int} (hF : 0 < F) (i : Nat) : 0 ≤ (rsN nums F).getD i 0 := by
  unfold rsN
  rw [List.getD_eq_getElem?_getD, List.getElem?_map]
  cases nums[i]? with
  | none => simp
  | some x => exact Int.emod_nonneg _ (by omega)
/-- A whole 'all' given out by numbers of which all together are F times it. -/
def Handed (all : Int) (nums : List Int) (F : Int) (zs : List Int) : Prop := Dealt (qsN nums F) (rsN nums F) (leftN all nums F).toNat zs
theorem Handed.unique {all : Int} {nums : List Int} {F : Int} {zs zs' : List Int} (h : Handed all nums F zs) (h' : Handed all nums F zs') : zs = zs' := Dealt.unique h h'
theorem Handed.len {all : Int} {nums : List Int} {F : Int} {zs : List Int} (h : Handed all nums F zs) : zs.length = nums.length := by
  obtain ⟨T, _, _, rfl⟩ := h
  rw [bump_len, qsN_len]
def numsD (cents : Int) (parts : List Int) : List Int := parts.map (fun p => cents * p)
theorem numsD_sum (cents : Int) (parts : List Int) : sumL (numsD cents parts) = sumL parts * cents := by
  unfold numsD; rw [sumL_mul, Int.mul_comm]
/-- Cents given out by parts. -/
def Divided (cents : Int) (parts : List Int) (zs : List Int) : Prop := Handed cents (numsD cents parts) (sumL parts) zs
theorem divided_433 {zs : List Int} (h : Divided 10 [1, 1, 1] zs) : zs = [4, 3, 3] := by
  refine Handed.unique h ?_
  refine ⟨[0], ⟨by simp, by decide, ?_⟩, by decide, by decide⟩
  intro i hi j hj hjT
  simp at hi; subst hi
  have e : rsN (numsD 10 [1, 1, 1]) (sumL [1, 1, 1]) = [1, 1, 1] := by decide
  rw [e] at hj ⊢
  have : j = 1 ∨ j = 2 := by simp at hj hjT; omega
  rcases this with rfl | rfl <;> exact .inr ⟨rfl, by omega⟩
def numsF (n : Nat) (cs : List Int) (g : Nat) : List Int := (List.range n).map (numTo n cs g)
theorem numsF_sum (n : Nat) (hn : n ≤ 5) (cs : List Int) (h0 : cs.getD 0 0 = 0) : sumL (numsF n cs (2 ^ n)) = (factN n : Nat) * cs.getD (2 ^ n - 1) 0 := by
  unfold numsF
  rw [sumL_range, all_out n hn cs, h0, Int.sub_zero]
theorem factN_pos (n : Nat) : 0 < factN n := by
  induction n with
  | zero => decide
  | succ n ih => exact Nat.mul_pos ih (Nat.succ_pos n)
end Go.Proofs.YtjhmgkoghapocaaDoor
