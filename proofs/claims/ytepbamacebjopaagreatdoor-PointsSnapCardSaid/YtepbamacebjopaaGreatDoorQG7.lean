/- Plain: who enters an arc later does not come out earlier. -/
import Derived.Test.YtepbamacebjopaaGreatDoorQRoadT
import Derived.Test.YtepbamacebjopaaGreatDoorQG0
import Derived.Below
namespace Go.Proofs.YtepbamacebjopaaGreatDoor

theorem fall_all {l : List Knot} : ∀ (k : Nat), k ≤ l.length → fallF l k = 0 → ∀ i, l.length - k ≤ i → i < l.length → fallsB l i = false
  | 0, _, _, i, h1, h2 => absurd h1 (by omega)
  | k + 1, hk, h, i, h1, h2 => by
    unfold fallF at h
    cases hb : fallsB l (l.length - (k + 1)) with
    | true => rw [hb, if_pos rfl] at h; exact absurd h (by decide)
    | false =>
      rw [hb, if_neg (by simp)] at h
      by_cases e : i = l.length - (k + 1)
      · rw [e]; exact hb
      · exact fall_all k (by omega) h i (by omega) h2
theorem knotsF_fall {l : List Knot} (h : knotsF l = 0) : ∀ i, i < l.length → (l.getD i default).time - (afterK l i).time ≤ (afterK l i).at_ - (l.getD i default).at_ := by
  have hk := knotsF_chk h
  intro i hi
  have h3 : fallF l l.length = 0 := by
    unfold knotsF at h
    have := hk.pos
    have := hk.le
    rw [if_neg (by omega), if_neg (by omega)] at h
    by_cases h2 : chk knotF none l = 0
    · rw [if_pos h2] at h; exact h
    · rw [if_neg h2] at h; exact absurd h h2
  have := fall_all l.length (Nat.le_refl _) h3 i (by omega) hi
  unfold fallsB at this
  have := of_decide_eq_false this
  omega
theorem line_num (x y : Knot) (d : Int) : x.time * (y.at_ - (d + 1)) + y.time * ((d + 1) - x.at_) = (x.time * (y.at_ - d) + y.time * (d - x.at_)) + (y.time - x.time) := by
  have e1 : y.at_ - (d + 1) = (y.at_ - d) - 1 := by omega
  have e2 : (d + 1) - x.at_ = (d - x.at_) + 1 := by omega
  rw [e1, e2, Int.mul_sub, Int.mul_add, Int.mul_one, Int.mul_one]
  omega
theorem line_end (x y : Knot) : x.time * (y.at_ - y.at_) + y.time * (y.at_ - x.at_) = y.time * (y.at_ - x.at_) := by
  rw [Int.sub_self, Int.mul_zero, Int.zero_add]
theorem time_ge {l : List Knot} (h : KOk l) (at_ : Int) : 1 ≤ timeI l at_ := by
  unfold timeI
  generalize ht : at_ % dayMs = t
  have htb : 0 ≤ t ∧ t ≤ 86399999 := by unfold dayMs at ht; omega
  obtain ⟨i, hi, h1, h2⟩ := seg_ex h htb.1
  rw [seg_of h hi h1 h2]
  have hab := after_bd h hi
  have hkb := h.bd i hi
  have haf : t < (afterK l i).at_ := by
    unfold afterK
    by_cases h3 : i + 1 < l.length
    · rw [if_pos h3]; exact h2 h3
    · rw [if_neg h3]; show t < dayMs; unfold dayMs; omega
  generalize afterK l i = y at *
  generalize l.getD i default = x at *
  unfold lineI
  have m1 : 1 * (y.at_ - t) ≤ x.time * (y.at_ - t) := Int.mul_le_mul_of_nonneg_right (by omega) (by omega)
  have m2 : 1 * (t - x.at_) ≤ y.time * (t - x.at_) := Int.mul_le_mul_of_nonneg_right (by omega) (by omega)
  rw [Int.le_ediv_iff_mul_le (by omega)]
  omega
theorem time_step {l : List Knot} (h : knotsF l = 0) (at_ : Int) : timeI l at_ ≤ timeI l (at_ + 1) + 1 := by
  have hk := knotsF_chk h
  have hfl := knotsF_fall h
  have e1 : timeI l at_ = lineI (l.getD (segI l (at_ % dayMs)) default) (afterK l (segI l (at_ % dayMs))) (at_ % dayMs) := rfl
  have e2 : timeI l (at_ + 1) = lineI (l.getD (segI l ((at_ + 1) % dayMs)) default) (afterK l (segI l ((at_ + 1) % dayMs))) ((at_ + 1) % dayMs) := rfl
  rw [e1, e2]
  clear e1 e2
  generalize ht : at_ % dayMs = t
  have htb : 0 ≤ t ∧ t ≤ 86399999 := by unfold dayMs at ht; omega
  obtain ⟨i, hi, h1, h2⟩ := seg_ex hk htb.1
  rw [seg_of hk hi h1 h2]
  have hab := after_bd hk hi
  have hkb := hk.bd i hi
  have hfi := hfl i hi
  have haf : t < (afterK l i).at_ := by
    unfold afterK
    by_cases h3 : i + 1 < l.length
    · rw [if_pos h3]; exact h2 h3
    · rw [if_neg h3]; show t < dayMs; unfold dayMs; omega
  by_cases hc : t + 1 < (afterK l i).at_
  · have et : (at_ + 1) % dayMs = t + 1 := by unfold dayMs at *; omega
    rw [et]
    have hs : segI l (t + 1) = i := seg_of hk hi (by omega) (fun h3 => by unfold afterK at hc; rw [if_pos h3] at hc; exact hc)
    rw [hs]
    generalize afterK l i = y at *
    generalize l.getD i default = x at *
    unfold lineI
    have hn := line_num x y t
    generalize x.time * (y.at_ - t) + y.time * (t - x.at_) = N at *
    rw [hn]
    have e4 : (N + (y.time - x.time) + 1 * (y.at_ - x.at_)) / (y.at_ - x.at_) = (N + (y.time - x.time)) / (y.at_ - x.at_) + 1 := Int.add_mul_ediv_right _ _ (by omega)
    rw [← e4]
    exact Int.ediv_le_ediv (by omega) (by omega)
  · have ey : (afterK l i).at_ = t + 1 := by omega
    have hval : lineI (l.getD i default) (afterK l i) t ≤ (afterK l i).time + 1 := by
      generalize afterK l i = y at *
      generalize l.getD i default = x at *
      unfold lineI
      have hn := line_num x y t
      rw [← ey, line_end x y] at hn
      have e4 : (y.time * (y.at_ - x.at_) + 1 * (y.at_ - x.at_)) / (y.at_ - x.at_) = y.time + 1 := by
        rw [← Int.add_mul]; exact Int.mul_ediv_cancel _ (by omega)
      rw [← e4]
      exact Int.ediv_le_ediv (by omega) (by omega)
    refine Int.le_trans hval ?_
    have h0 : ∀ j, j < l.length → lineI (l.getD j default) (afterK l j) (l.getD j default).at_ = (l.getD j default).time := by
      intro j hj
      have := (after_bd hk hj).1.1
      unfold lineI
      rw [Int.sub_self, Int.mul_zero, Int.add_zero]
      exact Int.mul_ediv_cancel _ (by omega)
    have hend : lineI (l.getD (segI l ((at_ + 1) % dayMs)) default) (afterK l (segI l ((at_ + 1) % dayMs))) ((at_ + 1) % dayMs) = (afterK l i).time := by
      by_cases h3 : i + 1 < l.length
      · have ea : afterK l i = l.getD (i + 1) default := by unfold afterK; rw [if_pos h3]
        rw [ea] at ey ⊢
        have hb1 := hk.bd (i + 1) h3
        have et : (at_ + 1) % dayMs = (l.getD (i + 1) default).at_ := by unfold dayMs at *; omega
        rw [et, seg_of hk h3 (Int.le_refl _) (fun h4 => hk.up (i + 1) h4)]
        exact h0 (i + 1) h3
      · have ea : afterK l i = ⟨dayMs, (l.getD 0 default).time⟩ := by unfold afterK; rw [if_neg h3]
        rw [ea] at ey ⊢
        have ey : dayMs = t + 1 := ey
        have et : (at_ + 1) % dayMs = (l.getD 0 default).at_ := by rw [hk.first]; unfold dayMs at *; omega
        rw [et, seg_of hk hk.pos (Int.le_refl _) (fun h4 => hk.up 0 h4)]
        exact h0 0 hk.pos
    rw [hend]
    exact Int.le_refl _
theorem time_mono {l : List Knot} (h : knotsF l = 0) (t : Int) : ∀ n : Nat, t + timeI l t ≤ (t + n) + timeI l (t + n)
  | 0 => by rw [show t + ((0 : Nat) : Int) = t by omega]; exact Int.le_refl _
  | n + 1 => by
    have h1 := time_mono h t n
    have h2 := time_step h (t + n)
    rw [show t + ((n + 1 : Nat) : Int) = t + n + 1 by omega]
    omega
theorem time_fifo {l : List Knot} (h : knotsF l = 0) {t t' : Int} (ht : t ≤ t') : t + timeI l t ≤ t' + timeI l t' := by
  have := time_mono h t (t' - t).toNat
  rw [show t + ((t' - t).toNat : Int) = t' by omega] at this
  exact this
end Go.Proofs.YtepbamacebjopaaGreatDoor
/- Plain: arcs one after the other; how long they are; when one comes out of each. -/
namespace Go.Proofs.YtepbamacebjopaaGreatDoor

/-- May nobody drive from an arc on to another one? -/
def bannedB (bs : List Ban) (f t : ByteArray) : Bool := bs.any fun b => decide (b.from_ = f) && decide (b.to_ = t)
end Go.Proofs.YtepbamacebjopaaGreatDoor
/- Plain: a heap in a list, as the library's heap keeps it. -/
namespace Go.Proofs.YtepbamacebjopaaGreatDoor

structure Ext where
  at_ : Int
  arc : Nat
instance : Inhabited Ext := ⟨⟨0, 0⟩⟩
def extLt (a b : Ext) : Bool := decide (a.at_ < b.at_ ∨ (a.at_ = b.at_ ∧ a.arc < b.arc))
theorem extLt_t {a b : Ext} : extLt a b = true ↔ a.at_ < b.at_ ∨ (a.at_ = b.at_ ∧ a.arc < b.arc) := decide_eq_true_iff
theorem extLt_f {a b : Ext} : extLt a b = false ↔ ¬ (a.at_ < b.at_ ∨ (a.at_ = b.at_ ∧ a.arc < b.arc)) := decide_eq_false_iff_not
def gx (l : List Ext) (k : Nat) : Ext := l.getD k default
theorem gx_lt {l : List Ext} {k : Nat} (h : k < l.length) : gx l k = l[k] := by
  unfold gx; rw [List.getD_eq_getElem?_getD, List.getElem?_eq_getElem h]; rfl
def swapL (l : List Ext) (i j : Nat) : List Ext := (l.set i (gx l j)).set j (gx l i)
theorem swapL_len (l : List Ext) (i j : Nat) : (swapL l i j).length = l.length := by unfold swapL; simp
theorem gx_swap (l : List Ext) (i j k : Nat) (hi : i < l.length) (hj : j < l.length) : gx (swapL l i j) k = if k = j then gx l i else if k = i then gx l j else gx l k := by
  unfold swapL gx
  rw [List.getD_eq_getElem?_getD, List.getElem?_set, List.getElem?_set]
  by_cases h1 : k = j
  · subst h1; simp [hj]
  · by_cases h2 : k = i
    · subst h2; simp [h1, hi, Ne.symm h1]
    · simp [h1, h2, Ne.symm h1, Ne.symm h2]
theorem swapL_perm (l : List Ext) (i j : Nat) (hi : i < l.length) (hj : j < l.length) : (swapL l i j).Perm l := by
  have h := Array.swap_perm (xs := l.toArray) (i := i) (j := j) (by simpa using hi) (by simpa using hj)
  have h2 := h.toList
  simp at h2
  unfold swapL
  rw [gx_lt hi, gx_lt hj]
  exact h2
def hup (l : List Ext) (j : Nat) : List Ext :=
  if _h : j = 0 then l else if extLt (gx l j) (gx l ((j - 1) / 2)) then hup (swapL l ((j - 1) / 2) j) ((j - 1) / 2) else l
termination_by j
decreasing_by omega
def kidN (l : List Ext) (i n : Nat) : Nat := if 2 * i + 2 < n ∧ extLt (gx l (2 * i + 2)) (gx l (2 * i + 1)) = true then 2 * i + 2 else 2 * i + 1
theorem kidN_or (l : List Ext) (i n : Nat) : kidN l i n = 2 * i + 1 ∨ (kidN l i n = 2 * i + 2 ∧ 2 * i + 2 < n) := by
  unfold kidN; split
  · rename_i h; exact .inr ⟨rfl, h.1⟩
  · exact .inl rfl
def hdown (l : List Ext) (i n : Nat) : List Ext :=
  if _h : 2 * i + 1 < n then (if extLt (gx l (kidN l i n)) (gx l i) then hdown (swapL l i (kidN l i n)) (kidN l i n) n else l) else l
termination_by n - i
decreasing_by rcases kidN_or l i n with h | h <;> omega
def hpush (l : List Ext) (x : Ext) : List Ext := hup (l ++ [x]) l.length
def hrest (l : List Ext) : List Ext := (hdown (swapL l 0 (l.length - 1)) 0 (l.length - 1)).take (l.length - 1)
def HeapN (l : List Ext) (n : Nat) : Prop := ∀ j, 0 < j → j < n → extLt (gx l j) (gx l ((j - 1) / 2)) = false

theorem hup_len (l : List Ext) (j : Nat) : (hup l j).length = l.length := by
  fun_induction hup l j with
  | case1 => rfl
  | case2 l j h h1 ih => rw [ih, swapL_len]
  | case3 => rfl
theorem hdown_len (l : List Ext) (i n : Nat) : (hdown l i n).length = l.length := by
  fun_induction hdown l i n with
  | case1 l i h h1 ih => rw [ih, swapL_len]
  | case2 => rfl
  | case3 => rfl
theorem hup_perm (l : List Ext) (j : Nat) (hj : j < l.length) : (hup l j).Perm l := by
  fun_induction hup l j with
  | case1 => exact .refl _
  | case2 l j h h1 ih => exact (ih (by rw [swapL_len]; omega)).trans (swapL_perm l _ _ (by omega) hj)
  | case3 => exact .refl _
theorem hdown_perm (l : List Ext) (i n : Nat) (hn : n ≤ l.length) : (hdown l i n).Perm l := by
  fun_induction hdown l i n with
  | case1 l i h h1 ih =>
    have hk : kidN l i n < l.length := by rcases kidN_or l i n with h | h <;> omega
    exact (ih (by rw [swapL_len]; omega)).trans (swapL_perm l _ _ (by omega) hk)
  | case2 => exact .refl _
  | case3 => exact .refl _
theorem hdown_ge (l : List Ext) (i n : Nat) (hn : n ≤ l.length) (k : Nat) (hk : n ≤ k) : gx (hdown l i n) k = gx l k := by
  fun_induction hdown l i n with
  | case1 l i h h1 ih =>
    have hk2 : kidN l i n < n := by rcases kidN_or l i n with h | h <;> omega
    rw [ih (by rw [swapL_len]; omega), gx_swap l _ _ _ (by omega) (by omega), if_neg (by omega), if_neg (by omega)]
  | case2 => rfl
  | case3 => rfl
/-- The heap's order everywhere but at j; what hangs under j fits what is above j. -/
theorem hup_heap (l : List Ext) (j : Nat) (hj : j < l.length) (h1 : ∀ k, 0 < k → k < l.length → k ≠ j → extLt (gx l k) (gx l ((k - 1) / 2)) = false)
    (h2 : 0 < j → ∀ k, 0 < k → k < l.length → (k - 1) / 2 = j → extLt (gx l k) (gx l ((j - 1) / 2)) = false) : HeapN (hup l j) l.length := by
  fun_induction hup l j with
  | case1 l =>
    intro k hk1 hk2
    exact h1 k hk1 hk2 (by omega)
  | case3 l j h h3 =>
    intro k hk1 hk2
    by_cases e : k = j
    · subst e; simpa using h3
    · exact h1 k hk1 hk2 e
  | case2 l j h h3 ih =>
    have hp : (j - 1) / 2 < l.length := by omega
    have key := ih (by rw [swapL_len]; exact hp) ?_ ?_
    · rw [swapL_len] at key; exact key
    · intro k hk1 hk2 hk3
      rw [swapL_len] at hk2
      rw [gx_swap l _ _ _ hp hj, gx_swap l _ _ _ hp hj]
      by_cases e1 : k = j
      · subst e1
        rw [if_pos rfl, if_neg (by omega), if_pos rfl]
        rw [extLt_t] at h3; rw [extLt_f]; omega
      · rw [if_neg e1, if_neg hk3]
        have q1 := h1 k hk1 hk2 e1
        by_cases e2 : (k - 1) / 2 = j
        · rw [if_pos e2]
          exact h2 (by omega) k hk1 hk2 e2
        · rw [if_neg e2]
          by_cases e3 : (k - 1) / 2 = (j - 1) / 2
          · rw [if_pos e3]
            rw [e3] at q1
            rw [extLt_t] at h3; rw [extLt_f] at *; omega
          · rw [if_neg e3]; exact q1
    · intro hp0 k hk1 hk2 hk3
      rw [swapL_len] at hk2
      rw [gx_swap l _ _ _ hp hj, gx_swap l _ _ _ hp hj, if_neg (show ((j - 1) / 2 - 1) / 2 ≠ j by omega), if_neg (show ((j - 1) / 2 - 1) / 2 ≠ (j - 1) / 2 by omega)]
      have q0 := h1 ((j - 1) / 2) hp0 hp (by omega)
      by_cases e1 : k = j
      · subst e1; rw [if_pos rfl]; exact q0
      · rw [if_neg e1, if_neg (by omega)]
        have q1 := h1 k hk1 hk2 e1
        rw [hk3] at q1
        rw [extLt_f] at *; omega
theorem hdown_heap (l : List Ext) (i n : Nat) (hn : n ≤ l.length) (h1 : ∀ k, 0 < k → k < n → (k - 1) / 2 ≠ i → extLt (gx l k) (gx l ((k - 1) / 2)) = false)
    (h2 : 0 < i → ∀ k, 0 < k → k < n → (k - 1) / 2 = i → extLt (gx l k) (gx l ((i - 1) / 2)) = false) : HeapN (hdown l i n) n := by
  fun_induction hdown l i n with
  | case3 l i h =>
    intro k hk1 hk2
    exact h1 k hk1 hk2 (by omega)
  | case2 l i h h3 =>
    intro k hk1 hk2
    by_cases e : (k - 1) / 2 = i
    · rw [e]
      have h4 : extLt (gx l (kidN l i n)) (gx l i) = false := by simpa using h3
      unfold kidN at h4
      split at h4
      · rename_i h5
        have e2 : k = 2 * i + 1 ∨ k = 2 * i + 2 := by omega
        have h6 := h5.2
        rw [extLt_t] at h6
        rw [extLt_f] at *
        rcases e2 with rfl | rfl
        · omega
        · exact h4
      · rename_i h5
        have e2 : k = 2 * i + 1 ∨ k = 2 * i + 2 := by omega
        rcases e2 with rfl | rfl
        · exact h4
        · have h6 : extLt (gx l (2 * i + 2)) (gx l (2 * i + 1)) = false := by
            cases h7 : extLt (gx l (2 * i + 2)) (gx l (2 * i + 1)) with
            | true => exact absurd ⟨hk2, h7⟩ h5
            | false => rfl
          rw [extLt_f] at *; omega
    · exact h1 k hk1 hk2 e
  | case1 l i h h3 ih =>
    have hko := kidN_or l i n
    have hk : kidN l i n < n := by omega
    have hkl : kidN l i n < l.length := by omega
    have hil : i < l.length := by omega
    -- the smaller child
    have hmin : ∀ k, 0 < k → k < n → (k - 1) / 2 = i → extLt (gx l k) (gx l (kidN l i n)) = false := by
      intro k hk1 hk2 hk3
      have e2 : k = 2 * i + 1 ∨ k = 2 * i + 2 := by omega
      unfold kidN
      split
      · rename_i h5
        have h6 := h5.2
        rw [extLt_t] at h6
        rw [extLt_f]
        rcases e2 with rfl | rfl <;> omega
      · rename_i h5
        rcases e2 with rfl | rfl
        · rw [extLt_f]; omega
        · cases h7 : extLt (gx l (2 * i + 2)) (gx l (2 * i + 1)) with
          | true => exact absurd ⟨hk2, h7⟩ h5
          | false => rfl
    have hup : (kidN l i n - 1) / 2 = i := by rcases hko with h | h <;> omega
    generalize kidN l i n = c at *
    have key := ih (by rw [swapL_len]; exact hn) ?_ ?_
    · exact key
    · intro k hk1 hk2 hk3
      rw [gx_swap l _ _ _ hil hkl, gx_swap l _ _ _ hil hkl]
      by_cases e1 : k = c
      · subst e1
        rw [if_pos rfl, if_neg (by omega), if_pos hup]
        rw [extLt_t] at h3; rw [extLt_f]; omega
      · rw [if_neg e1, if_neg hk3]
        by_cases e2 : k = i
        · subst e2
          rw [if_pos rfl, if_neg (by omega)]
          exact h2 hk1 c (by omega) hk hup
        · rw [if_neg e2]
          by_cases e3 : (k - 1) / 2 = i
          · rw [if_pos e3]
            exact hmin k hk1 hk2 e3
          · rw [if_neg e3]; exact h1 k hk1 hk2 e3
    · intro hp0 k hk1 hk2 hk3
      rw [gx_swap l _ _ _ hil hkl, gx_swap l _ _ _ hil hkl, hup, if_neg (by omega), if_neg (by omega), if_neg (by omega), if_pos rfl]
      have q1 := h1 k hk1 hk2 (by omega)
      rw [hk3] at q1
      exact q1
theorem heap_root {l : List Ext} {n : Nat} (h : HeapN l n) : ∀ k, k < n → extLt (gx l k) (gx l 0) = false := by
  intro k
  induction k using Nat.strongRecOn with
  | ind k ih =>
    intro hk
    by_cases h0 : k = 0
    · subst h0; rw [extLt_f]; omega
    · have h1 := ih ((k - 1) / 2) (by omega) (by omega)
      have h2 := h k (by omega) hk
      rw [extLt_f] at *; omega
def Heap (l : List Ext) : Prop := HeapN l l.length
theorem heap_nil : Heap [] := fun _ _ h => absurd h (by simp)
theorem gx_app {l : List Ext} {x : Ext} {k : Nat} (h : k < l.length) : gx (l ++ [x]) k = gx l k := by
  unfold gx; rw [List.getD_eq_getElem?_getD, List.getD_eq_getElem?_getD, List.getElem?_append_left h]
theorem hpush_heap {l : List Ext} (h : Heap l) (x : Ext) : Heap (hpush l x) := by
  have e : (l ++ [x]).length = l.length + 1 := by simp
  have := hup_heap (l ++ [x]) l.length (by omega) ?_ ?_
  · unfold Heap hpush
    rw [hup_len]
    exact this
  · intro k h1 h2 h3
    rw [gx_app (by omega), gx_app (by omega)]
    exact h k h1 (by omega)
  · intro h0 k h1 h2 h3
    omega
theorem hpush_perm (l : List Ext) (x : Ext) : (hpush l x).Perm (x :: l) :=
  (hup_perm _ _ (by simp)).trans (List.perm_append_singleton x l)
theorem hpush_len (l : List Ext) (x : Ext) : (hpush l x).length = l.length + 1 := by unfold hpush; rw [hup_len]; simp
theorem gx_take {l : List Ext} {n k : Nat} (h : k < n) : gx (l.take n) k = gx l k := by
  unfold gx; rw [List.getD_eq_getElem?_getD, List.getD_eq_getElem?_getD, List.getElem?_take_of_lt h]
theorem hrest_len (l : List Ext) : (hrest l).length = l.length - 1 := by
  unfold hrest; rw [List.length_take, hdown_len, swapL_len]; omega
theorem hrest_heap {l : List Ext} (h : Heap l) (h0 : l ≠ []) : Heap (hrest l) := by
  have hl := List.length_pos_iff.2 h0
  have hd := hdown_heap (swapL l 0 (l.length - 1)) 0 (l.length - 1) (by rw [swapL_len]; omega) ?_ (fun h => absurd h (by omega))
  · intro k h1 h2
    rw [hrest_len] at h2
    have := hd k h1 h2
    unfold hrest
    rw [gx_take h2, gx_take (by omega)]
    exact this
  · intro k h1 h2 h3
    rw [gx_swap l _ _ _ hl (by omega), gx_swap l _ _ _ hl (by omega), if_neg (by omega), if_neg (by omega), if_neg (by omega), if_neg h3]
    exact h k h1 (by omega)
theorem hpop_top (l : List Ext) (h0 : l ≠ []) : gx (hdown (swapL l 0 (l.length - 1)) 0 (l.length - 1)) (l.length - 1) = gx l 0 := by
  have hl := List.length_pos_iff.2 h0
  rw [hdown_ge _ _ _ (by rw [swapL_len]; omega) _ (Nat.le_refl _), gx_swap l _ _ _ hl (by omega), if_pos rfl]
theorem hrest_perm (l : List Ext) (h0 : l ≠ []) : l.Perm (gx l 0 :: hrest l) := by
  have hl := List.length_pos_iff.2 h0
  have hp := (hdown_perm (swapL l 0 (l.length - 1)) 0 (l.length - 1) (by rw [swapL_len]; omega)).trans (swapL_perm l 0 (l.length - 1) hl (by omega))
  have ht := hpop_top l h0
  have hlen : (hdown (swapL l 0 (l.length - 1)) 0 (l.length - 1)).length = l.length := by rw [hdown_len, swapL_len]
  unfold hrest
  generalize hdown (swapL l 0 (l.length - 1)) 0 (l.length - 1) = d at *
  have e : d = d.take (l.length - 1) ++ [gx l 0] := by
    rw [← ht, gx_lt (by omega)]
    have := List.take_append_drop (l.length - 1) d
    rw [List.drop_eq_getElem_cons (by omega), List.drop_of_length_le (by omega)] at this
    exact this.symm
  have h2 : l.Perm (d.take (l.length - 1) ++ [gx l 0]) := by rw [← e]; exact hp.symm
  exact h2.trans (List.perm_append_singleton _ _)
/-- The first one is the least. -/
theorem heap_min {l : List Ext} (h : Heap l) {x : Ext} (hx : x ∈ l) : extLt x (gx l 0) = false := by
  obtain ⟨k, hk, e⟩ := List.mem_iff_getElem.1 hx
  have := heap_root h k hk
  rw [gx_lt hk, e] at this
  exact this
end Go.Proofs.YtepbamacebjopaaGreatDoor
/- Plain: the fastest ways from a node, as they are searched. -/
namespace Go.Proofs.YtepbamacebjopaaGreatDoor

structure Gph where
  m : Nat
  nn : Nat
  to_ : Nat → Nat
  from_ : Nat → Nat
  outs : Nat → List Nat
  ban : Nat → Nat → Bool
  out : Nat → Int → Int
def endT : Int := 345686400000
structure GOk (g : Gph) : Prop where
  to_lt : ∀ k, k < g.m → g.to_ k < g.nn
  outs_lt : ∀ n k, k ∈ g.outs n → k < g.m
  outs_iff : ∀ n k, n < g.nn → k < g.m → (k ∈ g.outs n ↔ g.from_ k = n)
  outs_len : ∀ n, (g.outs n).length ≤ g.m
  gt : ∀ k t, k < g.m → 0 ≤ t → t < g.out k t
  mono : ∀ k t t', k < g.m → 0 ≤ t → t ≤ t' → g.out k t ≤ g.out k t'
structure Sr where
  first : List Int
  last : List Int
  prev : List Int
  best : List Int
  done : List Bool
  q : List Ext
def gi (l : List Int) (k : Nat) : Int := l.getD k 0
def gb (l : List Bool) (k : Nat) : Bool := l.getD k false
theorem gi_set (l : List Int) (i k : Nat) (v : Int) (hi : i < l.length) : gi (l.set i v) k = if k = i then v else gi l k := by
  unfold gi
  rw [List.getD_eq_getElem?_getD, List.getElem?_set]
  by_cases h : k = i
  · subst h; simp [hi]
  · simp [h, Ne.symm h]
theorem gb_set (l : List Bool) (i k : Nat) (v : Bool) (hi : i < l.length) : gb (l.set i v) k = if k = i then v else gb l k := by
  unfold gb
  rw [List.getD_eq_getElem?_getD, List.getElem?_set]
  by_cases h : k = i
  · subst h; simp [hi]
  · simp [h, Ne.symm h]
theorem gi_rep (n k : Nat) (h : k < n) : gi (List.replicate n (-1)) k = -1 := by unfold gi; simp [h]
theorem gb_rep (n k : Nat) : gb (List.replicate n false) k = false := by
  unfold gb
  rw [List.getD_eq_getElem?_getD, List.getElem?_replicate]
  split <;> rfl
/-- An arc is entered at a moment, behind another one. -/
def enterG (g : Gph) (s : Sr) (arc : Nat) (p : Int) (t : Int) : Sr :=
  if g.out arc t < endT ∧ (gi s.best arc < 0 ∨ g.out arc t < gi s.best arc) then
    { s with best := s.best.set arc (g.out arc t), prev := s.prev.set arc p, q := hpush s.q ⟨g.out arc t, arc⟩ } else s
def onG (g : Gph) (x : Nat) (t : Int) (s : Sr) (k : Nat) : Sr := if gb s.done k = false ∧ g.ban x k = false then enterG g s k (x : Int) t else s
def initG (g : Gph) (a : Nat) (at_ : Int) : Sr := ⟨(List.replicate g.nn (-1)).set a at_, List.replicate g.nn (-1), List.replicate g.m (-1), List.replicate g.m (-1), List.replicate g.m false, []⟩
def startG (g : Gph) (a : Nat) (at_ : Int) : Sr := (g.outs a).foldl (fun s k => enterG g s k (-1) at_) (initG g a at_)
def markG (g : Gph) (s : Sr) (x : Ext) : Sr :=
  if gi s.first (g.to_ x.arc) < 0 then { s with done := s.done.set x.arc true, q := hrest s.q, first := s.first.set (g.to_ x.arc) x.at_, last := s.last.set (g.to_ x.arc) (x.arc : Int) }
  else { s with done := s.done.set x.arc true, q := hrest s.q }
def popG (g : Gph) (s : Sr) : Sr :=
  if gb s.done (gx s.q 0).arc then { s with q := hrest s.q }
  else (g.outs (g.to_ (gx s.q 0).arc)).foldl (onG g (gx s.q 0).arc (gx s.q 0).at_) (markG g s (gx s.q 0))
def runG (g : Gph) : Nat → Sr → Sr
  | 0, s => s
  | f + 1, s => if s.q = [] then s else runG g f (popG g s)
/-- One can come out of an arc at a moment. -/
inductive Rch (g : Gph) (a : Nat) (at_ : Int) : Nat → Int → Prop
  | start (k : Nat) : k < g.m → g.from_ k = a → g.out k at_ < endT → Rch g a at_ k (g.out k at_)
  | step (k i : Nat) (t : Int) : Rch g a at_ k t → i < g.m → g.from_ i = g.to_ k → g.ban k i = false → g.out i t < endT → Rch g a at_ i (g.out i t)
section
variable {g : Gph} {a : Nat} {at_ : Int}
theorem Rch.lt {k : Nat} {t : Int} (h : Rch g a at_ k t) : k < g.m := by cases h <;> assumption
theorem Rch.ge (hg : GOk g) (h0 : 0 ≤ at_) {k : Nat} {t : Int} (h : Rch g a at_ k t) : at_ < t ∧ t < endT := by
  induction h with
  | start k hk _ he => exact ⟨hg.gt k at_ hk h0, he⟩
  | step k i t _ hi _ _ he ih => exact ⟨by have := hg.gt i t hi (by omega); omega, he⟩
/-- What holds while ways are searched; cl0, cl: which arcs were asked already. -/
structure Inv (g : Gph) (a : Nat) (at_ : Int) (s : Sr) (T : Int) (cl0 : Nat → Prop) (cl : Nat → Nat → Prop) : Prop where
  lf : s.first.length = g.nn
  ll : s.last.length = g.nn
  lp : s.prev.length = g.m
  lb : s.best.length = g.m
  ld : s.done.length = g.m
  t0 : at_ ≤ T
  heap : Heap s.q
  qr : ∀ x ∈ s.q, x.arc < g.m ∧ Rch g a at_ x.arc x.at_ ∧ 0 ≤ gi s.best x.arc ∧ gi s.best x.arc ≤ x.at_ ∧ T ≤ x.at_
  b2 : ∀ k, k < g.m → 0 ≤ gi s.best k → Rch g a at_ k (gi s.best k)
  b3 : ∀ k, k < g.m → 0 ≤ gi s.best k → gb s.done k = false → (⟨gi s.best k, k⟩ : Ext) ∈ s.q
  d1 : ∀ k, k < g.m → gb s.done k = true → 0 ≤ gi s.best k ∧ gi s.best k ≤ T
  c0 : ∀ i, i < g.m → g.from_ i = a → cl0 i → g.out i at_ < endT → 0 ≤ gi s.best i ∧ gi s.best i ≤ g.out i at_
  c1 : ∀ k i, k < g.m → i < g.m → gb s.done k = true → g.from_ i = g.to_ k → g.ban k i = false → cl k i → g.out i (gi s.best k) < endT → 0 ≤ gi s.best i ∧ gi s.best i ≤ g.out i (gi s.best k)
  p1 : ∀ k, k < g.m → 0 ≤ gi s.best k → (gi s.prev k = -1 ∧ g.from_ k = a ∧ gi s.best k = g.out k at_) ∨ ∃ p : Nat, p < g.m ∧ gi s.prev k = (p : Int) ∧ gb s.done p = true ∧ g.from_ k = g.to_ p ∧ g.ban p k = false ∧ gi s.best k = g.out k (gi s.best p)
  f0 : gi s.first a = at_ ∧ gi s.last a = -1
  f1 : ∀ n, n < g.nn → n ≠ a → (gi s.first n = -1 ∧ gi s.last n = -1 ∧ ∀ k, k < g.m → gb s.done k = true → g.to_ k ≠ n) ∨ ∃ k : Nat, k < g.m ∧ gb s.done k = true ∧ g.to_ k = n ∧ gi s.last n = (k : Int) ∧ gi s.first n = gi s.best k ∧ ∀ k', k' < g.m → gb s.done k' = true → g.to_ k' = n → gi s.best k ≤ gi s.best k'
/-- Where an arc is entered from. -/
def Src (g : Gph) (a : Nat) (at_ : Int) (s : Sr) (i : Nat) (p t : Int) : Prop :=
  (p = -1 ∧ g.from_ i = a ∧ t = at_) ∨ ∃ k : Nat, k < g.m ∧ p = (k : Int) ∧ gb s.done k = true ∧ g.from_ i = g.to_ k ∧ g.ban k i = false ∧ t = gi s.best k
theorem enter_done (g : Gph) (s : Sr) (i : Nat) (p t : Int) : (enterG g s i p t).done = s.done := by unfold enterG; split <;> rfl
theorem enter_best (g : Gph) (s : Sr) (i : Nat) (p t : Int) (k : Nat) (hk : k ≠ i) (hl : i < s.best.length) : gi (enterG g s i p t).best k = gi s.best k := by
  unfold enterG; split
  · show gi (s.best.set i _) k = _
    rw [gi_set _ _ _ _ hl, if_neg hk]
  · rfl
theorem enter_inv (hg : GOk g) (h0 : 0 ≤ at_) {s : Sr} {T : Int} {cl0 : Nat → Prop} {cl : Nat → Nat → Prop} (h : Inv g a at_ s T cl0 cl) {i : Nat} {p t : Int} (hi : i < g.m) (hd : gb s.done i = false) (hs : Src g a at_ s i p t) (hT : T ≤ t) :
    Inv g a at_ (enterG g s i p t) T (fun j => cl0 j ∨ (p = -1 ∧ j = i)) (fun k j => cl k j ∨ ((k : Int) = p ∧ j = i)) := by
  have ht0 : 0 ≤ t := by have := h.t0; omega
  have hgt := hg.gt i t hi ht0
  have hR : g.out i t < endT → Rch g a at_ i (g.out i t) := by
    intro he
    rcases hs with ⟨_, h1, rfl⟩ | ⟨k, hk, _, hdk, h1, h2, rfl⟩
    · exact .start i hi h1 he
    · exact .step k i _ (h.b2 k hk (h.d1 k hk hdk).1) hi h1 h2 he
  by_cases hc : g.out i t < endT ∧ (gi s.best i < 0 ∨ g.out i t < gi s.best i)
  · have e : enterG g s i p t = { s with best := s.best.set i (g.out i t), prev := s.prev.set i p, q := hpush s.q ⟨g.out i t, i⟩ } := by unfold enterG; rw [if_pos hc]
    rw [e]
    have hib : i < s.best.length := by rw [h.lb]; exact hi
    have hip : i < s.prev.length := by rw [h.lp]; exact hi
    have gbs : ∀ k, gi (s.best.set i (g.out i t)) k = if k = i then g.out i t else gi s.best k := fun k => gi_set _ _ _ _ hib
    have gps : ∀ k, gi (s.prev.set i p) k = if k = i then p else gi s.prev k := fun k => gi_set _ _ _ _ hip
    have hq : ∀ x, x ∈ hpush s.q ⟨g.out i t, i⟩ ↔ x = ⟨g.out i t, i⟩ ∨ x ∈ s.q := fun x => ((hpush_perm _ _).mem_iff).trans (by simp)
    have hne : ∀ k, gb s.done k = true → k ≠ i := fun k hk e => by rw [e, hd] at hk; cases hk
    refine ⟨h.lf, h.ll, by simpa using h.lp, by simpa using h.lb, h.ld, h.t0, hpush_heap h.heap _, ?_, ?_, ?_, ?_, ?_, ?_, ?_, h.f0, ?_⟩
    · intro x hx
      rw [gbs]
      rcases (hq x).1 hx with rfl | hx
      · exact ⟨hi, hR hc.1, by rw [if_pos rfl]; omega, by rw [if_pos rfl]; exact Int.le_refl _, by show T ≤ g.out i t; omega⟩
      · obtain ⟨q1, q2, q3, q4, q5⟩ := h.qr x hx
        refine ⟨q1, q2, ?_, ?_, q5⟩
        · split <;> omega
        · split
          · rename_i e; rw [e] at q3 q4; omega
          · exact q4
    · intro k hk hb
      rw [gbs] at hb ⊢
      split
      · rename_i e; subst e; exact hR hc.1
      · rename_i e; rw [if_neg e] at hb; exact h.b2 k hk hb
    · intro k hk hb hdk
      rw [gbs] at hb ⊢
      rw [hq]
      split
      · rename_i e; subst e; exact .inl rfl
      · rename_i e; rw [if_neg e] at hb; exact .inr (h.b3 k hk hb hdk)
    · intro k hk hdk
      rw [gbs, if_neg (hne k hdk)]
      exact h.d1 k hk hdk
    · intro j hj hf hcl he
      rw [gbs]
      split
      · rename_i e; subst e
        rcases hcl with hcl | ⟨hp, _⟩
        · have := h.c0 j hj hf hcl he; omega
        · rcases hs with ⟨_, _, rfl⟩ | ⟨k, _, rfl, _⟩
          · omega
          · omega
      · rename_i e
        rcases hcl with hcl | ⟨_, h2⟩
        · exact h.c0 j hj hf hcl he
        · exact absurd h2 e
    · intro k j hk hj hdk hf hb hcl he
      rw [gbs, gbs, if_neg (hne k hdk)]
      rw [gbs, if_neg (hne k hdk)] at he
      split
      · rename_i e; subst e
        rcases hcl with hcl | ⟨hp, _⟩
        · have := h.c1 k j hk hj hdk hf hb hcl he; omega
        · rcases hs with ⟨h1, _, _⟩ | ⟨k', _, h1, _, _, _, rfl⟩
          · omega
          · have : k = k' := by omega
            subst this; omega
      · rename_i e
        rcases hcl with hcl | ⟨_, h2⟩
        · exact h.c1 k j hk hj hdk hf hb hcl he
        · exact absurd h2 e
    · intro k hk hb
      rw [gbs] at hb ⊢
      rw [gps]
      by_cases e : k = i
      · subst e
        rw [if_pos rfl, if_pos rfl]
        rcases hs with ⟨h1, h2, rfl⟩ | ⟨k', h1, h2, h3, h4, h5, rfl⟩
        · exact .inl ⟨h1, h2, rfl⟩
        · exact .inr ⟨k', h1, h2, h3, h4, h5, by rw [gbs, if_neg (hne k' h3)]⟩
      · rw [if_neg e] at hb ⊢
        rw [if_neg e]
        rcases h.p1 k hk hb with h1 | ⟨p', h1, h2, h3, h4, h5, h6⟩
        · exact .inl h1
        · exact .inr ⟨p', h1, h2, h3, h4, h5, by rw [gbs, if_neg (hne p' h3)]; exact h6⟩
    · intro n hn hna
      rcases h.f1 n hn hna with h1 | ⟨k, h1, h2, h3, h4, h5, h6⟩
      · exact .inl h1
      · refine .inr ⟨k, h1, h2, h3, h4, by rw [gbs, if_neg (hne k h2)]; exact h5, fun k' hk' hd' ht' => ?_⟩
        rw [gbs, gbs, if_neg (hne k h2), if_neg (hne k' hd')]
        exact h6 k' hk' hd' ht'
  · have e : enterG g s i p t = s := by unfold enterG; rw [if_neg hc]
    rw [e]
    have hcl : g.out i t < endT → 0 ≤ gi s.best i ∧ gi s.best i ≤ g.out i t := by
      intro he
      have : ¬ (gi s.best i < 0 ∨ g.out i t < gi s.best i) := fun h2 => hc ⟨he, h2⟩
      omega
    refine ⟨h.lf, h.ll, h.lp, h.lb, h.ld, h.t0, h.heap, h.qr, h.b2, h.b3, h.d1, ?_, ?_, h.p1, h.f0, h.f1⟩
    · intro j hj hf hc2 he
      rcases hc2 with hc2 | ⟨hp, rfl⟩
      · exact h.c0 j hj hf hc2 he
      · rcases hs with ⟨_, _, rfl⟩ | ⟨k, _, rfl, _⟩
        · exact hcl he
        · omega
    · intro k j hk hj hdk hf hb hc2 he
      rcases hc2 with hc2 | ⟨hp, rfl⟩
      · exact h.c1 k j hk hj hdk hf hb hc2 he
      · rcases hs with ⟨h1, _, _⟩ | ⟨k', _, h1, _, _, _, rfl⟩
        · omega
        · have : k = k' := by omega
          subst this; exact hcl he
end
end Go.Proofs.YtepbamacebjopaaGreatDoor
/- Plain: the search comes to an end; what it found. -/
namespace Go.Proofs.YtepbamacebjopaaGreatDoor
section
variable {g : Gph} {a : Nat} {at_ : Int}
theorem Inv.mono {s : Sr} {T : Int} {cl0 cl0' : Nat → Prop} {cl cl' : Nat → Nat → Prop} (h : Inv g a at_ s T cl0 cl) (h0 : ∀ i, i < g.m → g.from_ i = a → cl0' i → cl0 i)
    (h1 : ∀ k i, k < g.m → i < g.m → gb s.done k = true → g.from_ i = g.to_ k → g.ban k i = false → cl' k i → cl k i) : Inv g a at_ s T cl0' cl' :=
  ⟨h.lf, h.ll, h.lp, h.lb, h.ld, h.t0, h.heap, h.qr, h.b2, h.b3, h.d1, fun i hi hf hc he => h.c0 i hi hf (h0 i hi hf hc) he, fun k i hk hi hd hf hb hc he => h.c1 k i hk hi hd hf hb (h1 k i hk hi hd hf hb hc) he, h.p1, h.f0, h.f1⟩
theorem init_inv (ha : a < g.nn) : Inv g a at_ (initG g a at_) at_ (fun _ => False) (fun _ _ => True) := by
  have hb : ∀ k, k < g.m → gi (initG g a at_).best k = -1 := fun k hk => gi_rep _ _ hk
  have hd : ∀ k, gb (initG g a at_).done k = false := fun k => gb_rep _ k
  refine ⟨by simp [initG], by simp [initG], by simp [initG], by simp [initG], by simp [initG], Int.le_refl _, heap_nil, fun x hx => absurd hx (by simp [initG]), ?_, ?_, ?_, fun _ _ _ h => absurd h id, ?_, ?_, ?_, ?_⟩
  · intro k hk h; rw [hb k hk] at h; omega
  · intro k hk h; rw [hb k hk] at h; omega
  · intro k hk h; rw [hd] at h; cases h
  · intro k i hk hi h; rw [hd] at h; cases h
  · intro k hk h; rw [hb k hk] at h; omega
  · refine ⟨?_, gi_rep _ _ ha⟩
    show gi ((List.replicate g.nn (-1)).set a at_) a = at_
    rw [gi_set _ _ _ _ (by simpa using ha), if_pos rfl]
  · intro n hn hna
    refine .inl ⟨?_, gi_rep _ _ hn, fun k _ h => by rw [hd] at h; cases h⟩
    show gi ((List.replicate g.nn (-1)).set a at_) n = -1
    rw [gi_set _ _ _ _ (by simpa using ha), if_neg hna]
    exact gi_rep _ _ hn
theorem fold_start (hg : GOk g) (h0 : 0 ≤ at_) : ∀ (l : List Nat) (s : Sr) (cl0 : Nat → Prop), Inv g a at_ s at_ cl0 (fun _ _ => True) → (∀ k, gb s.done k = false) → (∀ k ∈ l, k < g.m ∧ g.from_ k = a) →
    Inv g a at_ (l.foldl (fun s k => enterG g s k (-1) at_) s) at_ (fun j => cl0 j ∨ j ∈ l) (fun _ _ => True) ∧ ∀ k, gb (l.foldl (fun s k => enterG g s k (-1) at_) s).done k = false
  | [], s, cl0, h, hd, _ => ⟨h.mono (fun i _ _ hc => hc.elim id (fun h => absurd h (by simp))) (fun _ _ _ _ _ _ _ _ => trivial), hd⟩
  | k :: l, s, cl0, h, hd, hl => by
    rw [List.foldl_cons]
    have hk := hl k (by simp)
    have h1 := enter_inv hg h0 h hk.1 (hd k) (.inl ⟨rfl, hk.2, rfl⟩) (Int.le_refl _)
    have h2 := fold_start hg h0 l _ (fun j => cl0 j ∨ j = k) (h1.mono (fun i _ _ hc => hc.imp id (fun e => ⟨rfl, e⟩)) (fun _ _ _ _ _ _ _ _ => .inl trivial)) (fun j => by rw [enter_done]; exact hd j) (fun j hj => hl j (by simp [hj]))
    refine ⟨h2.1.mono (fun i _ _ hc => ?_) (fun _ _ _ _ _ _ _ _ => trivial), h2.2⟩
    rcases hc with hc | hc
    · exact .inl (.inl hc)
    · rcases List.mem_cons.1 hc with rfl | hc
      · exact .inl (.inr rfl)
      · exact .inr hc
theorem start_inv (hg : GOk g) (h0 : 0 ≤ at_) (ha : a < g.nn) : Inv g a at_ (startG g a at_) at_ (fun _ => True) (fun _ _ => True) :=
  (fold_start hg h0 (g.outs a) _ _ (init_inv ha) (fun k => gb_rep _ k) (fun k hk => ⟨hg.outs_lt a k hk, (hg.outs_iff a k ha (hg.outs_lt a k hk)).1 hk⟩)).1.mono (fun i hi hf _ => .inr ((hg.outs_iff a i ha hi).2 hf)) (fun _ _ _ _ _ _ _ h => h)
theorem mark_inv (h0 : 0 ≤ at_) (hg : GOk g) {s : Sr} {T : Int} (h : Inv g a at_ s T (fun _ => True) (fun _ _ => True)) (hq : s.q ≠ []) (hd : gb s.done (gx s.q 0).arc = false) :
    gi s.best (gx s.q 0).arc = (gx s.q 0).at_ ∧ Inv g a at_ (markG g s (gx s.q 0)) (gx s.q 0).at_ (fun _ => True) (fun k _ => k ≠ (gx s.q 0).arc) := by
  have hp := hrest_perm s.q hq
  have hx : gx s.q 0 ∈ s.q := hp.mem_iff.2 (by simp)
  have hmin := fun y hy => heap_min h.heap (x := y) hy
  generalize gx s.q 0 = x at *
  obtain ⟨q1, q2, q3, q4, q5⟩ := h.qr x hx
  have hb : gi s.best x.arc = x.at_ := by
    have := hmin _ (h.b3 x.arc q1 q3 hd)
    rw [extLt_f] at this
    have this : ¬ (gi s.best x.arc < x.at_) := fun h2 => this (.inl h2)
    omega
  refine ⟨hb, ?_⟩
  have hxd : x.arc < s.done.length := by rw [h.ld]; exact q1
  have hds : ∀ k, gb (s.done.set x.arc true) k = if k = x.arc then true else gb s.done k := fun k => gb_set _ _ _ _ hxd
  have hdk : ∀ k, gb (s.done.set x.arc true) k = true → k = x.arc ∨ gb s.done k = true := by
    intro k hk
    rw [hds] at hk
    by_cases e : k = x.arc
    · exact .inl e
    · rw [if_neg e] at hk; exact .inr hk
  have hne : ∀ k, gb s.done k = true → k ≠ x.arc := fun k hk e => by rw [e, hd] at hk; cases hk
  have hr : ∀ y, y ∈ hrest s.q → y ∈ s.q := fun y hy => hp.mem_iff.2 (by simp [hy])
  -- what does not hang on first and last
  have core : ∀ fi la : List Int, fi.length = g.nn → la.length = g.nn → (gi fi a = at_ ∧ gi la a = -1) →
      (∀ n, n < g.nn → n ≠ a → (gi fi n = -1 ∧ gi la n = -1 ∧ ∀ k, k < g.m → gb (s.done.set x.arc true) k = true → g.to_ k ≠ n) ∨ ∃ k : Nat, k < g.m ∧ gb (s.done.set x.arc true) k = true ∧ g.to_ k = n ∧ gi la n = (k : Int) ∧ gi fi n = gi s.best k ∧ ∀ k', k' < g.m → gb (s.done.set x.arc true) k' = true → g.to_ k' = n → gi s.best k ≤ gi s.best k') →
      Inv g a at_ ⟨fi, la, s.prev, s.best, s.done.set x.arc true, hrest s.q⟩ x.at_ (fun _ => True) (fun k _ => k ≠ x.arc) := by
    intro fi la e1 e2 e3 e4
    refine ⟨e1, e2, h.lp, h.lb, by simpa using h.ld, by have := h.t0; omega, hrest_heap h.heap hq, ?_, h.b2, ?_, ?_, h.c0, ?_, ?_, e3, e4⟩
    · intro y hy
      obtain ⟨r1, r2, r3, r4, r5⟩ := h.qr y (hr y hy)
      have := hmin y (hr y hy)
      rw [extLt_f] at this
      exact ⟨r1, r2, r3, r4, by have : ¬ (y.at_ < x.at_) := fun h2 => this (.inl h2); omega⟩
    · intro k hk hb2 hdk2
      have hkx : k ≠ x.arc := fun e => by rw [hds, if_pos e] at hdk2; cases hdk2
      rw [hds, if_neg hkx] at hdk2
      have := hp.mem_iff.1 (h.b3 k hk hb2 hdk2)
      rcases List.mem_cons.1 this with e | h3
      · exact absurd (by rw [← e]) hkx
      · exact h3
    · intro k hk hk2
      rcases hdk k hk2 with e | hk3
      · subst e; show 0 ≤ gi s.best x.arc ∧ gi s.best x.arc ≤ x.at_; omega
      · have := h.d1 k hk hk3; exact ⟨this.1, Int.le_trans this.2 q5⟩
    · intro k i hk hi hk2 hf hbn hc he
      rcases hdk k hk2 with e | hk3
      · exact absurd e hc
      · exact h.c1 k i hk hi hk3 hf hbn trivial he
    · intro k hk hb2
      rcases h.p1 k hk hb2 with h1 | ⟨p, h1, h2, h3, h4, h5, h6⟩
      · exact .inl h1
      · exact .inr ⟨p, h1, h2, by rw [hds, if_neg (hne p h3)]; exact h3, h4, h5, h6⟩
  have hto := hg.to_lt x.arc q1
  unfold markG
  by_cases hf : gi s.first (g.to_ x.arc) < 0
  · rw [if_pos hf]
    have hna : g.to_ x.arc ≠ a := fun e => by rw [e, h.f0.1] at hf; omega
    have hfl : g.to_ x.arc < s.first.length := by rw [h.lf]; exact hto
    have hll : g.to_ x.arc < s.last.length := by rw [h.ll]; exact hto
    refine core _ _ (by simpa using h.lf) (by simpa using h.ll) ?_ ?_
    · rw [gi_set _ _ _ _ hfl, gi_set _ _ _ _ hll, if_neg (Ne.symm hna), if_neg (Ne.symm hna)]
      exact h.f0
    · intro n hn hna2
      rw [gi_set _ _ _ _ hfl, gi_set _ _ _ _ hll]
      by_cases e : n = g.to_ x.arc
      · rw [if_pos e, if_pos e]
        refine .inr ⟨x.arc, q1, by rw [hds, if_pos rfl], e.symm, rfl, hb.symm, fun k' hk' hd' ht' => ?_⟩
        rcases hdk k' hd' with e2 | hd2
        · rw [e2]; exact Int.le_refl _
        · exfalso
          rcases h.f1 n hn hna2 with ⟨_, _, h3⟩ | ⟨k, h1, h2, h3, h4, h5, h6⟩
          · exact h3 k' hk' hd2 ht'
          · rw [← e, h5] at hf
            have := h.d1 k h1 h2; omega
      · rw [if_neg e, if_neg e]
        rcases h.f1 n hn hna2 with ⟨h1, h2, h3⟩ | ⟨k, h1, h2, h3, h4, h5, h6⟩
        · refine .inl ⟨h1, h2, fun k hk hk2 => ?_⟩
          rcases hdk k hk2 with e2 | hk3
          · rw [e2]; exact Ne.symm e
          · exact h3 k hk hk3
        · refine .inr ⟨k, h1, by rw [hds, if_neg (hne k h2)]; exact h2, h3, h4, h5, fun k' hk' hd' ht' => ?_⟩
          rcases hdk k' hd' with e2 | hd2
          · rw [e2] at ht'; exact absurd ht'.symm e
          · exact h6 k' hk' hd2 ht'
  · rw [if_neg hf]
    refine core _ _ h.lf h.ll h.f0 ?_
    intro n hn hna2
    rcases h.f1 n hn hna2 with ⟨h1, h2, h3⟩ | ⟨k, h1, h2, h3, h4, h5, h6⟩
    · refine .inl ⟨h1, h2, fun k hk hk2 => ?_⟩
      rcases hdk k hk2 with e2 | hk3
      · rw [e2]; intro e; rw [e, h1] at hf; omega
      · exact h3 k hk hk3
    · refine .inr ⟨k, h1, by rw [hds, if_neg (hne k h2)]; exact h2, h3, h4, h5, fun k' hk' hd' ht' => ?_⟩
      rcases hdk k' hd' with e2 | hd2
      · rw [e2, hb]; have := h.d1 k h1 h2; omega
      · exact h6 k' hk' hd2 ht'
theorem on_done (x : Nat) (t : Int) (s : Sr) (k : Nat) : (onG g x t s k).done = s.done := by unfold onG; split; exact enter_done _ _ _ _ _; rfl
theorem fold_on (hg : GOk g) (h0 : 0 ≤ at_) {x : Nat} (hxm : x < g.m) {T : Int} : ∀ (l : List Nat) (s : Sr) (cl : Nat → Nat → Prop), Inv g a at_ s T (fun _ => True) cl → gi s.best x = T → gb s.done x = true → (∀ k ∈ l, k < g.m ∧ g.from_ k = g.to_ x) →
    Inv g a at_ (l.foldl (onG g x T) s) T (fun _ => True) (fun k j => cl k j ∨ (k = x ∧ j ∈ l))
  | [], s, cl, h, _, _, _ => h.mono (fun _ _ _ h => h) (fun _ _ _ _ _ _ _ hc => hc.elim id (fun h => absurd h.2 (by simp)))
  | k :: l, s, cl, h, hb, hd, hl => by
    rw [List.foldl_cons]
    have hk := hl k (by simp)
    have key : Inv g a at_ (onG g x T s k) T (fun _ => True) (fun k' j => cl k' j ∨ (k' = x ∧ j = k)) ∧ gi (onG g x T s k).best x = T := by
      unfold onG
      by_cases hc : gb s.done k = false ∧ g.ban x k = false
      · rw [if_pos hc]
        have h1 := enter_inv hg h0 h hk.1 hc.1 (.inr ⟨x, hxm, rfl, hd, hk.2, hc.2, hb.symm⟩) (Int.le_refl _)
        refine ⟨h1.mono (fun _ _ _ h => .inl h) (fun k' j _ _ _ _ _ hc2 => hc2.imp id (fun e => ⟨by omega, e.2⟩)), ?_⟩
        rw [enter_best _ _ _ _ _ _ (fun e => by rw [e, hc.1] at hd; cases hd) (by rw [h.lb]; exact hk.1)]
        exact hb
      · rw [if_neg hc]
        refine ⟨⟨h.lf, h.ll, h.lp, h.lb, h.ld, h.t0, h.heap, h.qr, h.b2, h.b3, h.d1, h.c0, ?_, h.p1, h.f0, h.f1⟩, hb⟩
        intro k' j hk' hj hdk hf hbn hc2 he
        rcases hc2 with hc2 | ⟨rfl, rfl⟩
        · exact h.c1 k' j hk' hj hdk hf hbn hc2 he
        · have hdj : gb s.done j = true := by
            cases e : gb s.done j with
            | true => rfl
            | false => exact absurd ⟨e, hbn⟩ hc
          have h1 := h.d1 j hj hdj
          have h2 := h.t0
          have h3 := hg.gt j (gi s.best k') hj (by omega)
          omega
    have h2 := fold_on hg h0 hxm l _ _ key.1 key.2 (by rw [on_done]; exact hd) (fun j hj => hl j (by simp [hj]))
    refine h2.mono (fun _ _ _ h => h) (fun k' j _ _ _ _ _ hc => ?_)
    rcases hc with hc | ⟨e1, hc⟩
    · exact .inl (.inl hc)
    · rcases List.mem_cons.1 hc with rfl | hc
      · exact .inl (.inr ⟨e1, rfl⟩)
      · exact .inr ⟨e1, hc⟩
theorem pop_inv (hg : GOk g) (h0 : 0 ≤ at_) {s : Sr} {T : Int} (h : Inv g a at_ s T (fun _ => True) (fun _ _ => True)) (hq : s.q ≠ []) : ∃ T', Inv g a at_ (popG g s) T' (fun _ => True) (fun _ _ => True) := by
  have hp := hrest_perm s.q hq
  have hx : gx s.q 0 ∈ s.q := hp.mem_iff.2 (by simp)
  unfold popG
  cases hd : gb s.done (gx s.q 0).arc with
  | true =>
    rw [if_pos rfl]
    refine ⟨T, h.lf, h.ll, h.lp, h.lb, h.ld, h.t0, hrest_heap h.heap hq, fun y hy => h.qr y (hp.mem_iff.2 (by simp [hy])), h.b2, ?_, h.d1, h.c0, h.c1, h.p1, h.f0, h.f1⟩
    intro k hk hb hdk
    have hdk : gb s.done k = false := hdk
    rcases List.mem_cons.1 (hp.mem_iff.1 (h.b3 k hk hb hdk)) with e | h3
    · rw [← e, hdk] at hd; cases hd
    · exact h3
  | false =>
    rw [if_neg (by simp)]
    obtain ⟨hb, hm⟩ := mark_inv h0 hg h hq hd
    have q1 := (h.qr _ hx).1
    have hto := hg.to_lt _ q1
    have hb2 : gi (markG g s (gx s.q 0)).best (gx s.q 0).arc = (gx s.q 0).at_ := by
      unfold markG; split <;> exact hb
    have hd2 : gb (markG g s (gx s.q 0)).done (gx s.q 0).arc = true := by
      have : (markG g s (gx s.q 0)).done = s.done.set (gx s.q 0).arc true := by unfold markG; split <;> rfl
      rw [this, gb_set _ _ _ _ (by rw [h.ld]; exact q1), if_pos rfl]
    have h2 := fold_on hg h0 q1 (g.outs (g.to_ (gx s.q 0).arc)) _ _ hm hb2 hd2 (fun k hk => ⟨hg.outs_lt _ k hk, (hg.outs_iff _ k hto (hg.outs_lt _ k hk)).1 hk⟩)
    refine ⟨_, h2.mono (fun _ _ _ h => h) (fun k i _ hi _ hf _ _ => ?_)⟩
    by_cases e : k = (gx s.q 0).arc
    · subst e
      exact .inr ⟨rfl, (hg.outs_iff _ i hto hi).2 hf⟩
    · exact .inl e
def meas (g : Gph) (s : Sr) : Nat := s.done.count false * (g.m + 1) + s.q.length
theorem enter_qlen (s : Sr) (i : Nat) (p t : Int) : (enterG g s i p t).q.length ≤ s.q.length + 1 := by
  unfold enterG; split
  · show (hpush s.q _).length ≤ _; rw [hpush_len]; exact Nat.le_refl _
  · exact Nat.le_succ _
theorem fold_qlen (x : Nat) (t : Int) : ∀ (l : List Nat) (s : Sr), (l.foldl (onG g x t) s).q.length ≤ s.q.length + l.length ∧ (l.foldl (onG g x t) s).done = s.done
  | [], s => ⟨Nat.le_refl _, rfl⟩
  | k :: l, s => by
    rw [List.foldl_cons]
    obtain ⟨h1, h2⟩ := fold_qlen x t l (onG g x t s k)
    have h3 : (onG g x t s k).q.length ≤ s.q.length + 1 := by
      unfold onG; split
      · exact enter_qlen _ _ _ _
      · exact Nat.le_succ _
    refine ⟨by rw [List.length_cons]; omega, h2.trans (on_done _ _ _ _)⟩
theorem start_qlen : ∀ (l : List Nat) (s : Sr), (l.foldl (fun s k => enterG g s k (-1) at_) s).q.length ≤ s.q.length + l.length ∧ (l.foldl (fun s k => enterG g s k (-1) at_) s).done = s.done
  | [], s => ⟨Nat.le_refl _, rfl⟩
  | k :: l, s => by
    rw [List.foldl_cons]
    obtain ⟨h1, h2⟩ := start_qlen l (enterG g s k (-1) at_)
    have h3 := enter_qlen (g := g) s k (-1) at_
    exact ⟨by rw [List.length_cons]; omega, h2.trans (enter_done _ _ _ _ _)⟩
theorem pop_meas (hg : GOk g) {s : Sr} (hq : s.q ≠ []) (hx : (gx s.q 0).arc < s.done.length) : meas g (popG g s) < meas g s := by
  have hl := List.length_pos_iff.2 hq
  have hr := hrest_len s.q
  unfold popG meas
  cases hd : gb s.done (gx s.q 0).arc with
  | true => rw [if_pos rfl]; show s.done.count false * (g.m + 1) + (hrest s.q).length < _; omega
  | false =>
    rw [if_neg (by simp)]
    obtain ⟨h1, h2⟩ := fold_qlen (g := g) (gx s.q 0).arc (gx s.q 0).at_ (g.outs (g.to_ (gx s.q 0).arc)) (markG g s (gx s.q 0))
    have h3 := hg.outs_len (g.to_ (gx s.q 0).arc)
    have h4 : (markG g s (gx s.q 0)).done = s.done.set (gx s.q 0).arc true := by unfold markG; split <;> rfl
    have h5 : (markG g s (gx s.q 0)).q = hrest s.q := by unfold markG; split <;> rfl
    rw [h5] at h1
    rw [h2, h4]
    have h6 : s.done[(gx s.q 0).arc] = false := by
      unfold gb at hd
      rw [List.getD_eq_getElem?_getD, List.getElem?_eq_getElem hx] at hd
      exact hd
    have h7 : (s.done.set (gx s.q 0).arc true).count false + 1 = s.done.count false := by
      have hpos : 0 < s.done.count false := List.count_pos_iff.2 (h6 ▸ List.getElem_mem hx)
      rw [List.count_set hx, h6]
      simp
      omega
    have h8 : s.done.count false * (g.m + 1) = (s.done.set (gx s.q 0).arc true).count false * (g.m + 1) + (g.m + 1) := by
      rw [← h7, Nat.succ_mul]
    omega
theorem run_inv (hg : GOk g) (h0 : 0 ≤ at_) : ∀ (f : Nat) (s : Sr) (T : Int), Inv g a at_ s T (fun _ => True) (fun _ _ => True) → meas g s ≤ f → (runG g f s).q = [] ∧ ∃ T', Inv g a at_ (runG g f s) T' (fun _ => True) (fun _ _ => True)
  | 0, s, T, h, hf => by
    refine ⟨List.eq_nil_of_length_eq_zero (by unfold meas at hf; show s.q.length = 0; omega), T, h⟩
  | f + 1, s, T, h, hf => by
    unfold runG
    by_cases hq : s.q = []
    · rw [if_pos hq]; exact ⟨hq, T, h⟩
    · rw [if_neg hq]
      obtain ⟨T', h'⟩ := pop_inv hg h0 h hq
      have hx : gx s.q 0 ∈ s.q := (hrest_perm s.q hq).mem_iff.2 (by simp)
      have := pop_meas (g := g) hg hq (by rw [h.ld]; exact (h.qr _ hx).1)
      exact run_inv hg h0 f _ T' h' (by omega)
def fuelG (g : Gph) : Nat := (g.m + 1) * (g.m + 1)
def searchG (g : Gph) (a : Nat) (at_ : Int) : Sr := runG g (fuelG g) (startG g a at_)
theorem start_meas (hg : GOk g) : meas g (startG g a at_) ≤ fuelG g := by
  obtain ⟨h1, h2⟩ := start_qlen (g := g) (at_ := at_) (g.outs a) (initG g a at_)
  have h3 := hg.outs_len a
  unfold meas startG fuelG
  rw [h2]
  have h4 : (initG g a at_).done.count false = g.m := by show (List.replicate g.m false).count false = _; simp
  have h5 : (initG g a at_).q.length = 0 := rfl
  rw [h4, Nat.succ_mul]
  omega
theorem search_inv (hg : GOk g) (h0 : 0 ≤ at_) (ha : a < g.nn) : (searchG g a at_).q = [] ∧ ∃ T, Inv g a at_ (searchG g a at_) T (fun _ => True) (fun _ _ => True) :=
  run_inv hg h0 _ _ _ (start_inv hg h0 ha) (start_meas hg)
/-- What a search found. -/
structure FoundG (g : Gph) (a : Nat) (at_ : Int) (s : Sr) : Prop where
  lf : s.first.length = g.nn
  ll : s.last.length = g.nn
  lp : s.prev.length = g.m
  rch : ∀ k, k < g.m → 0 ≤ gi s.best k → Rch g a at_ k (gi s.best k)
  min_ : ∀ k t, Rch g a at_ k t → 0 ≤ gi s.best k ∧ gi s.best k ≤ t
  prev : ∀ k, k < g.m → 0 ≤ gi s.best k → (gi s.prev k = -1 ∧ g.from_ k = a ∧ gi s.best k = g.out k at_) ∨ ∃ p : Nat, p < g.m ∧ gi s.prev k = (p : Int) ∧ 0 ≤ gi s.best p ∧ g.from_ k = g.to_ p ∧ g.ban p k = false ∧ gi s.best k = g.out k (gi s.best p)
  f0 : gi s.first a = at_ ∧ gi s.last a = -1
  f1 : ∀ n, n < g.nn → n ≠ a → (gi s.first n = -1 ∧ gi s.last n = -1 ∧ ∀ k t, Rch g a at_ k t → g.to_ k ≠ n) ∨ ∃ k : Nat, k < g.m ∧ 0 ≤ gi s.best k ∧ g.to_ k = n ∧ gi s.last n = (k : Int) ∧ gi s.first n = gi s.best k ∧ ∀ k' t, Rch g a at_ k' t → g.to_ k' = n → gi s.best k ≤ t
theorem search_found (hg : GOk g) (h0 : 0 ≤ at_) (ha : a < g.nn) : FoundG g a at_ (searchG g a at_) := by
  obtain ⟨hq, T, h⟩ := search_inv hg h0 ha
  generalize searchG g a at_ = s at *
  have hdn : ∀ k, k < g.m → 0 ≤ gi s.best k → gb s.done k = true := by
    intro k hk hb
    cases hd : gb s.done k with
    | true => rfl
    | false => have := h.b3 k hk hb hd; rw [hq] at this; exact absurd this (by simp)
  have hmin : ∀ k t, Rch g a at_ k t → 0 ≤ gi s.best k ∧ gi s.best k ≤ t := by
    intro k t hr
    induction hr with
    | start k hk hf he => exact h.c0 k hk hf trivial he
    | step k i t hr hi hf hb he ih =>
      have hk := hr.lt
      have hm := hg.mono i _ _ hi ih.1 ih.2
      have := h.c1 k i hk hi (hdn k hk ih.1) hf hb trivial (by omega)
      exact ⟨this.1, by omega⟩
  refine ⟨h.lf, h.ll, h.lp, h.b2, hmin, ?_, h.f0, ?_⟩
  · intro k hk hb
    rcases h.p1 k hk hb with h1 | ⟨p, h1, h2, h3, h4, h5, h6⟩
    · exact .inl h1
    · exact .inr ⟨p, h1, h2, (h.d1 p h1 h3).1, h4, h5, h6⟩
  · intro n hn hna
    rcases h.f1 n hn hna with ⟨h1, h2, h3⟩ | ⟨k, h1, h2, h3, h4, h5, h6⟩
    · exact .inl ⟨h1, h2, fun k t hr => h3 k hr.lt (hdn k hr.lt (hmin k t hr).1)⟩
    · refine .inr ⟨k, h1, (h.d1 k h1 h2).1, h3, h4, h5, fun k' t hr ht => ?_⟩
      have h7 := hmin k' t hr
      have h8 := h6 k' hr.lt (hdn k' hr.lt h7.1) ht
      omega
end
end Go.Proofs.YtepbamacebjopaaGreatDoor
