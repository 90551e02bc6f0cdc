/- Plain: sorting by insertion is stable. -/
import Derived.Sort.WalkA
import Derived.Test.YtfkmbeppckelfaaGreatDoorQG0
import Derived.Test.YtfkmbeppckelfaaGreatDoorQShelfS
import Derived.Lib.SlTrimSet
import Derived.Lib.Bytealg
import Derived.Test.YtfkmbeppckelfaaGreatDoorQShelfK
import Derived.Laws.Cover1
namespace Go.Proofs.YtfkmbeppckelfaaGreatDoor
open Go.Sort Go.Proofs
variable {α : Type} [Inhabited α]
theorem get_bang {d : Array α} {pre suf : List α} {x : α} (h : d.toList = pre ++ x :: suf) : d[pre.length]! = x := by
  have h1 : d[pre.length]? = some x := by rw [← Array.getElem?_toList, h, List.getElem?_append_right (Nat.le_refl _)]; simp
  rw [getElem!_def, h1]
theorem swp_list {d : Array α} {q suf : List α} {x y : α} (h : d.toList = q ++ y :: x :: suf) : (swp d (q.length + 1) q.length).toList = q ++ x :: y :: suf := by
  have h1 : d[q.length]! = y := get_bang h
  have h2 : d[q.length + 1]! = x := by
    have : d.toList = (q ++ [y]) ++ x :: suf := by rw [h]; simp
    have := get_bang this
    simpa using this
  unfold swp
  rw [h1, h2]
  simp only [Array.toList_setIfInBounds, h]
  rw [List.set_append_right _ _ (by omega), show q.length + 1 - q.length = 1 by omega, List.set_cons_succ, List.set_cons_zero, List.set_append_right _ _ (by omega), Nat.sub_self, List.set_cons_zero]
theorem inner_list (lt : α → α → Bool) : ∀ (n : Nat) (pre suf : List α) (x : α) (d : Array α), pre.length = n → d.toList = pre ++ x :: suf → ∃ p1 p2, pre = p1 ++ p2 ∧ (insInner lt 0 n d).toList = p1 ++ x :: (p2 ++ suf) ∧ (∀ y ∈ p2, lt x y = true) ∧ (∀ q y, p1 = q ++ [y] → lt x y = false)
  | 0, pre, suf, x, d, hn, hd => by
    have : pre = [] := List.eq_nil_of_length_eq_zero hn
    subst this
    exact ⟨[], [], rfl, by simpa [insInner] using hd, by simp, by simp⟩
  | n + 1, pre, suf, x, d, hn, hd => by
    have hne : pre ≠ [] := by intro e; subst e; simp at hn
    obtain ⟨q, y, rfl⟩ : ∃ q y, pre = q ++ [y] := ⟨pre.dropLast, pre.getLast hne, (List.dropLast_concat_getLast hne).symm⟩
    have hq : q.length = n := by simpa using hn
    have hx : d[n + 1]! = x := by rw [← hn]; exact get_bang hd
    have hy : d[n]! = y := by rw [← hq]; exact get_bang (suf := x :: suf) (by rw [hd]; simp)
    unfold insInner
    rw [hx, hy]
    by_cases hl : lt x y = true
    · rw [if_pos (by simp [hl])]
      obtain ⟨p1, p2, e1, e2, e3, e4⟩ := inner_list lt n q (y :: suf) x (swp d (n + 1) n) hq (by rw [← hq]; exact swp_list (by rw [hd]; simp))
      refine ⟨p1, p2 ++ [y], by rw [e1]; simp, by rw [e2]; simp, fun z hz => ?_, e4⟩
      rcases List.mem_append.1 hz with hz | hz
      · exact e3 z hz
      · simp at hz; subst hz; exact hl
    · rw [if_neg (by simp [hl])]
      refine ⟨q ++ [y], [], by simp, by simpa using hd, by simp, fun q' y' e => ?_⟩
      have := List.append_inj' e rfl
      simp at this
      rw [← this.2]
      simpa using hl
/-- Sorting by insertion is stable: S is the order at first, R the order behind it. -/
theorem outer_list (lt : α → α → Bool) {R S : α → α → Prop} (h1 : ∀ x y, lt x y = true → R x y) (h2 : ∀ x y, S y x → lt x y = false → R y x) (htr : ∀ x y z, R x y → R y z → R x z) :
    ∀ (m : Nat) (b i : Nat) (d : Array α) (pre suf : List α), b - i = m → i ≤ b → pre.length = i → d.toList = pre ++ suf → b = (pre ++ suf).length → pre.Pairwise R → (∀ y ∈ pre, ∀ x ∈ suf, S y x) → suf.Pairwise S → ((insOuter lt 0 b i d).toList.Perm (pre ++ suf) ∧ (insOuter lt 0 b i d).toList.Pairwise R)
  | 0, b, i, d, pre, suf, hm, hib, hp, hd, hb, hR, hS, hs => by
    have : suf = [] := List.eq_nil_of_length_eq_zero (by simp at hb; omega)
    subst this
    rw [insOuter_stop lt 0 b i d (by omega), hd]
    exact ⟨List.Perm.refl _, by simpa using hR⟩
  | m + 1, b, i, d, pre, suf, hm, hib, hp, hd, hb, hR, hS, hs => by
    cases suf with
    | nil => simp at hb; omega
    | cons x suf =>
      rw [insOuter_go lt 0 b i d (by omega)]
      obtain ⟨p1, p2, e1, e2, e3, e4⟩ := inner_list lt i pre suf x d hp hd
      have hsx := List.pairwise_cons.1 hs
      have hR' : (p1 ++ x :: p2).Pairwise R := by
        subst e1
        rw [List.pairwise_append] at hR ⊢
        have hlast : ∀ y ∈ p1, R y x := by
          intro y hy
          have hne : p1 ≠ [] := List.ne_nil_of_mem hy
          obtain ⟨q, z, e⟩ : ∃ q z, p1 = q ++ [z] := ⟨p1.dropLast, p1.getLast hne, (List.dropLast_concat_getLast hne).symm⟩
          have hz : R z x := h2 x z (hS z (by simp [e]) x (by simp)) (e4 q z e)
          rw [e] at hy
          rcases List.mem_append.1 hy with hy | hy
          · have hp := hR.1
            rw [e, List.pairwise_append] at hp
            exact htr y z x (hp.2.2 y hy z (by simp)) hz
          · simp at hy; subst hy; exact hz
        refine ⟨hR.1, List.pairwise_cons.2 ⟨fun y hy => h1 x y (e3 y hy), hR.2.1⟩, fun y hy z hz => ?_⟩
        rcases List.mem_cons.1 hz with rfl | hz
        · exact hlast y hy
        · exact hR.2.2 y hy z hz
      have hperm : (p1 ++ x :: p2).Perm (pre ++ [x]) := by
        subst e1
        exact (List.perm_middle).trans (List.perm_append_singleton x (p1 ++ p2)).symm
      have hl : (p1 ++ x :: p2).length = i + 1 := by have := hperm.length_eq; simp at this ⊢; omega
      have ih := outer_list lt h1 h2 htr m b (i + 1) (insInner lt 0 i d) (p1 ++ x :: p2) suf (by omega) (by simp at hb; omega) hl (by rw [e2]; simp) (by simp at hb hl ⊢; omega) hR'
        (fun y hy z hz => by
          have hy' := hperm.mem_iff.1 hy
          rcases List.mem_append.1 hy' with hy' | hy'
          · exact hS y hy' z (by simp [hz])
          · simp at hy'; subst hy'; exact hsx.1 z hz) hsx.2
      refine ⟨ih.1.trans ?_, ih.2⟩
      have := hperm.append_right suf
      simpa using this
theorem ins_stable (lt : α → α → Bool) {R S : α → α → Prop} (h1 : ∀ x y, lt x y = true → R x y) (h2 : ∀ x y, S y x → lt x y = false → R y x) (htr : ∀ x y z, R x y → R y z → R x z) (d : Array α) (hS : d.toList.Pairwise S) :
    (insertionSort lt d 0 d.size).toList.Perm d.toList ∧ (insertionSort lt d 0 d.size).toList.Pairwise R := by
  unfold insertionSort
  cases hd : d.toList with
  | nil =>
    have : d.size = 0 := by rw [← Array.length_toList, hd]; rfl
    rw [insOuter_stop lt 0 _ _ d (by omega), hd]
    exact ⟨List.Perm.refl _, List.Pairwise.nil⟩
  | cons x l =>
    rw [hd] at hS
    have hx := List.pairwise_cons.1 hS
    have hsz : d.size = l.length + 1 := by rw [← Array.length_toList, hd]; rfl
    exact outer_list lt h1 h2 htr _ d.size 1 d [x] l rfl (by omega) rfl hd (by rw [hsz]; simp) (by simp) (fun y hy z hz => by simp at hy; subst hy; exact hx.1 z hz) hx.2
end Go.Proofs.YtfkmbeppckelfaaGreatDoor
/- The stable sort of what is left, of fewer than 20; products and quotients of 64 bits. -/
namespace Go.Proofs.YtfkmbeppckelfaaGreatDoor
open Go.RowKit Go.Sort Go.Proofs Go.Shelf

theorem w_isNaNU (a : Int) (w : World) : Calls Tryz.prog 205 #[.int .u64 a] w fun e w' => e = .returned (.bool false) ∧ w = w' := by
  go_enter Tryz.func205, Tryz.ntmps205
  go_wp2
  go_ret
  exact ⟨rfl, rfl⟩
theorem w_CompareU (a b : Int) (w : World) : Calls Tryz.prog 165 #[.int .u64 a, .int .u64 b] w fun e w' => e = .returned (.int .i64 (cmpI a b)) ∧ w = w' := by
  by_cases h1 : a < b
  · go_enter Tryz.func165, Tryz.ntmps165
    go_wp2_with (go_at_call 205; refine (w_isNaNU _ _).mono ?_; rintro e w' ⟨rfl, rfl⟩)
    go_ret
    exact ⟨ret_int (by unfold cmpI; simp [h1]), rfl⟩
  · by_cases h2 : b < a
    · go_enter Tryz.func165, Tryz.ntmps165
      go_wp2_with (go_at_call 205; refine (w_isNaNU _ _).mono ?_; rintro e w' ⟨rfl, rfl⟩)
      go_ret
      exact ⟨ret_int (by unfold cmpI; simp [h1, h2]), rfl⟩
    · go_enter Tryz.func165, Tryz.ntmps165
      go_wp2_with (go_at_call 205; refine (w_isNaNU _ _).mono ?_; rintro e w' ⟨rfl, rfl⟩)
      go_ret
      exact ⟨ret_int (by unfold cmpI; rw [if_neg (by omega), if_neg (by omega)]), rfl⟩

/-- A number with what is left of it. -/
def encRest (p : Nat × Int) : List Value := [.int .i64 (p.1 : Int), .int .u64 p.2]
theorem encRest_len (p : Nat × Int) : (encRest p).length = 2 := rfl
theorem encRest_one (p : Nat × Int) : ∀ v ∈ encRest p, v.oneCell' = true := by
  intro v hv; simp [encRest] at hv; rcases hv with rfl | rfl <;> rfl
theorem w_cmpRest (x y : Nat × Int) (w : World) : Calls Tryz.prog 164 #[.agg (encRest x).toArray, .agg (encRest y).toArray] w fun e w' => e = .returned (.int .i64 (cmpI y.2 x.2)) ∧ Lays w w' := by
  unfold encRest
  go_enter Tryz.func164, Tryz.ntmps164
  go_wp2_with (go_at_call 165; refine (w_CompareU _ _ _).mono ?_; rintro e w' ⟨rfl, rfl⟩)
  go_ret
  exact ⟨rfl, ((Lays.refl _).alloc _).alloc _⟩
def restC (x y : Nat × Int) : Int := cmpI y.2 x.2
theorem restC_lt (x y : Nat × Int) : ltOf restC x y = true ↔ y.2 < x.2 := by unfold ltOf restC; rw [decide_eq_true_eq]; unfold cmpI; split <;> (try split) <;> omega
/-- Those ahead come first. -/
def Ahead (a b : Nat × Int) : Prop := b.2 < a.2 ∨ (a.2 = b.2 ∧ a.1 < b.1)
theorem rest_stable (d : Array (Nat × Int)) (hS : d.toList.Pairwise (fun a b => a.1 < b.1)) : (insertionSort (ltOf restC) d 0 d.size).toList.Perm d.toList ∧ (insertionSort (ltOf restC) d 0 d.size).toList.Pairwise Ahead :=
  ins_stable (ltOf restC) (R := Ahead) (S := fun a b => a.1 < b.1) (fun x y h => .inl ((restC_lt x y).1 h)) (fun x y h1 h2 => by
    have h3 : ¬ y.2 < x.2 := fun h => by rw [(restC_lt x y).2 h] at h2; cases h2
    unfold Ahead; omega) (fun x y z h1 h2 => by unfold Ahead at *; omega) d hS

set_option maxHeartbeats 1000000 in
theorem w_SortRests {w : World} {base b cap n : Nat} (xs : List (Nat × Int)) (hn : xs.length = n) (hsz : n < 20) (hS : xs.Pairwise (fun a b => a.1 < b.1)) (h : w.ownsRow base 223 2 (.slice (some ⟨b, 0, none⟩) n cap) n (xs.flatMap encRest)) :
    Calls Tryz.prog 163 #[.slice (some ⟨b, 0, none⟩) n cap, .func (.func 164) #[] #[]] w fun en w' => en = .returned (.tuple #[]) ∧
      ∃ ys : List (Nat × Int), ys.Perm xs ∧ ys.Pairwise Ahead ∧ w'.ownsRow base 223 2 (.slice (some ⟨b, 0, none⟩) n cap) n (ys.flatMap encRest) ∧ Gr b w w' := by
  have hlt := (h.lt b rfl)
  have e1 : xs.toArray.size = n := by simpa using hn
  have hH := holds_of_own encRest_len (by omega) hn h
  have hc : CmpLays Tryz.prog 164 #[] encRest 2 restC b 0 xs.toArray.size w := fun m os dk _ x y => by
    rw [Array.append_empty]
    exact w_cmpRest x y _
  have hs := AnyQ.insertionSortCmpFunc Tryz.insRest 2 Tryz.isAgg223 Tryz.sizeOf223 encRest encRest_len encRest_one restC 164 #[] b 0 cap 0 xs.toArray.size xs.toArray w (enters_of Tryz.func164 (by kernel_rfl) rfl) hc hH hlt.2 (Nat.zero_le _) (Nat.le_refl _) (by omega)
  change Calls Tryz.prog 227 _ _ _ at hs
  rw [e1] at hs
  have HS := hide (hs.mono fun en w' ⟨he, m, os, hw⟩ => (show en = Ending.returned (.tuple #[]) ∧ ∃ ys : List (Nat × Int), ys.Perm xs ∧ ys.Pairwise Ahead ∧ w'.ownsRow base 223 2 (.slice (some ⟨b, 0, none⟩) n cap) n (ys.flatMap encRest) ∧ Gr b w w' from by
    have hst := rest_stable xs.toArray (by simpa using hS)
    rw [e1] at hst
    refine ⟨he, (insertionSort (ltOf restC) xs.toArray 0 n).toList, by simpa using hst.1, hst.2, ?_⟩
    have := own_of_sorted encRest_len (by omega) h (insertionSort (ltOf restC) xs.toArray 0 n).toList (by rw [hst.1.length_eq]; simpa using hn) m os
    rw [hw]
    simpa using this))
  clear hs hc hH h hlt e1 hn hS
  have HT := hide (show Calls Tryz.prog 204 #[.slice (some ⟨b, 0, none⟩) n cap, .int .i64 n, .func (.func 164) #[] #[]] w fun en w' => en = .returned (.tuple #[]) ∧
      ∃ ys : List (Nat × Int), ys.Perm xs ∧ ys.Pairwise Ahead ∧ w'.ownsRow base 223 2 (.slice (some ⟨b, 0, none⟩) n cap) n (ys.flatMap encRest) ∧ Gr b w w' from by
    have t1 : decide ((20 : Int) ≤ (n : Int)) = false := decide_eq_false (by omega)
    have t2 : decide ((20 : Int) < (n : Int)) = false := decide_eq_false (by omega)
    go_enter Tryz.func204, Tryz.ntmps204
    go_wp2_with fail
    refine wp_loop_rounds 1 ?_
    rw [rounds_succ]
    go_wp2_with (go_at_call 227; refine (HS.out).mono ?_; rintro e w1 ⟨rfl, hw1⟩)
    refine wp_loop_rounds 1 ?_
    rw [rounds_succ]
    go_wp2_with fail
    go_end0
    exact ⟨rfl, hw1⟩)
  go_enter Tryz.func163, Tryz.ntmps163
  go_wp2_with (go_at_call 204; refine (HT.out).mono ?_; rintro e w1 ⟨rfl, hw1⟩)
  go_end0
  exact ⟨rfl, hw1⟩
end Go.Proofs.YtfkmbeppckelfaaGreatDoor
/- Products and quotients of 64 bits, whose upper half is 0. -/
namespace Go.Proofs.YtfkmbeppckelfaaGreatDoor
open Go.RowKit Go.Proofs Go.Shelf

theorem w_Mul64 (x y z : Nat) (w : World) (hx : x ≤ 4294967296) (hy : y ≤ 2147483648) (hz : x * y = z) :
    Calls Tryz.prog 161 #[.int .u64 (x : Int), .int .u64 (y : Int)] w fun e w' => e = .returned (.tuple #[.int .u64 0, .int .u64 (z : Int)]) ∧ w = w' := by
  subst hz
  have hb : x * y ≤ 4294967296 * 2147483648 := Nat.mul_le_mul hx hy
  have hcon := Any.bits_Mul64 Tryz.mul64 x y (by omega) (by omega) w
  change Calls Tryz.prog 161 _ _ _ at hcon
  refine hcon.mono ?_
  rintro e w' ⟨rfl, rfl⟩
  have e1 : x * y / 18446744073709551616 = 0 := Nat.div_eq_of_lt (by omega)
  have e2 : x * y % 18446744073709551616 = x * y := Nat.mod_eq_of_lt (by omega)
  rw [e1, e2]
  exact ⟨rfl, rfl⟩
set_option maxRecDepth 100000 in
theorem w_Div64 (z y q r : Nat) (w : World) (hz : z ≤ 9223372036854775808) (hy : 0 < y) (hy2 : y ≤ 9223372036854775807) (hq : z / y = q) (hr : z % y = r) :
    Calls Tryz.prog 162 #[.int .u64 0, .int .u64 (z : Int), .int .u64 (y : Int)] w fun e w' => e = .returned (.tuple #[.int .u64 (q : Int), .int .u64 (r : Int)]) ∧ ∃ m, w' = w.drewN m := by
  subst hq hr
  have t0 : ((y : Int) == 0) = false := by simp; omega
  have t1 : decide ((y : Int) ≤ 0) = false := decide_eq_false (by omega)
  have hd : z / y ≤ z := Nat.div_le_self z y
  have hm : z % y < y := Nat.mod_lt _ hy
  have d1 : (z : Int).tdiv (y : Int) = ((z / y : Nat) : Int) := by rw [Int.tdiv_eq_ediv_of_nonneg (by omega)]; rfl
  have d2 : (z : Int).tmod (y : Int) = ((z % y : Nat) : Int) := by rw [Int.tmod_eq_emod_of_nonneg (by omega)]; rfl
  generalize z / y = q at *
  generalize z % y = r at *
  have d3 : IntKind.u64.wrap ((q : Nat) : Int) = ((q : Nat) : Int) := by rw [IntKind.wrap_u64]; omega
  have d4 : IntKind.u64.wrap ((r : Nat) : Int) = ((r : Nat) : Int) := by rw [IntKind.wrap_u64]; omega
  go_enter Tryz.func162, Tryz.ntmps162
  go_wp2_with fail
  go_quiet (fail)
  go_wp2_with fail
  go_ret2
  exact ⟨rfl, _, rfl⟩
end Go.Proofs.YtfkmbeppckelfaaGreatDoor
/- Plain functions: what is left is given out one by one; sorting in place. -/
namespace Go.Proofs.YtfkmbeppckelfaaGreatDoor
/-- i gets one of what is left ahead of j. -/
def beats (rs : List Int) (i j : Nat) : Prop := rs.getD j 0 < rs.getD i 0 ∨ (rs.getD i 0 = rs.getD j 0 ∧ i < j)
theorem beats_asymm {rs : List Int} {i j : Nat} (h : beats rs i j) (k : beats rs j i) : False := by unfold beats at h k; omega
structure UpSet (rs : List Int) (T : List Nat) : Prop where
  nd : T.Nodup
  lt : ∀ i ∈ T, i < rs.length
  up : ∀ i ∈ T, ∀ j, j < rs.length → j ∉ T → beats rs i j
theorem nodup_len : ∀ {l m : List Nat}, l.Nodup → (∀ x ∈ l, x ∈ m) → l.length ≤ m.length
  | [], _, _, _ => by simp
  | x :: l, m, hn, hs => by
    have h1 := List.nodup_cons.1 hn
    have h2 : l.length ≤ (m.erase x).length := nodup_len h1.2 (fun y hy => by
      have hne : y ≠ x := fun e => h1.1 (e ▸ hy)
      exact (List.mem_erase_of_ne hne).2 (hs y (List.mem_cons_of_mem _ hy)))
    have h3 := List.length_erase_of_mem (hs x (by simp))
    have h4 : 0 < m.length := List.length_pos_of_mem (hs x (by simp))
    simp only [List.length_cons]
    omega
theorem UpSet.sub {rs : List Int} {S T : List Nat} (hS : UpSet rs S) (hT : UpSet rs T) (hl : S.length = T.length) : ∀ i ∈ S, i ∈ T := by
  intro a ha
  refine Classical.byContradiction fun hna => ?_
  have hb : ∃ b ∈ T, b ∉ S := by
    refine Classical.byContradiction fun hno => ?_
    have hsub : ∀ x ∈ T, x ∈ S.erase a := fun x hx => by
      have hxS : x ∈ S := Classical.byContradiction fun h => hno ⟨x, hx, h⟩
      have hne : x ≠ a := fun e => hna (e ▸ hx)
      exact (List.mem_erase_of_ne hne).2 hxS
    have h1 := nodup_len hT.nd hsub
    have h2 := List.length_erase_of_mem ha
    have h3 : 0 < S.length := List.length_pos_of_mem ha
    omega
  obtain ⟨b, hb, hbS⟩ := hb
  exact beats_asymm (hS.up a ha b (hT.lt b hb) hbS) (hT.up b hb a (hS.lt a ha) hna)
theorem UpSet.same {rs : List Int} {S T : List Nat} (hS : UpSet rs S) (hT : UpSet rs T) (hl : S.length = T.length) (i : Nat) : i ∈ S ↔ i ∈ T :=
  ⟨hS.sub hT hl i, hT.sub hS hl.symm i⟩
/-- One more for those in T. -/
def bump (qs : List Int) (T : List Nat) : List Int := qs.mapIdx (fun i q => if i ∈ T then q + 1 else q)
theorem bump_len (qs : List Int) (T : List Nat) : (bump qs T).length = qs.length := by simp [bump]
theorem bump_nil (qs : List Int) : bump qs [] = qs := by
  apply List.ext_getElem
  · simp [bump]
  · intro i h1 h2; simp [bump]
theorem bump_get (qs : List Int) (T : List Nat) (i : Nat) (h : i < (bump qs T).length) : (bump qs T)[i] = if i ∈ T then qs[i]'(by rw [bump_len] at h; exact h) + 1 else qs[i]'(by rw [bump_len] at h; exact h) := by simp [bump]
theorem bump_same {qs : List Int} {S T : List Nat} (h : ∀ i, i ∈ S ↔ i ∈ T) : bump qs S = bump qs T := by
  unfold bump; congr 1; funext i q; simp [h i]
theorem bump_snoc (qs : List Int) (T : List Nat) (b : Nat) (hb : b ∉ T) (hl' : b < (bump qs T).length) : (bump qs T).set b ((bump qs T)[b] + 1) = bump qs (T ++ [b]) := by
  apply List.ext_getElem
  · simp [bump]
  · intro i h1 h2
    simp only [List.getElem_set, bump_get]
    by_cases e : b = i
    · subst e; simp [hb]
    · simp [e]
      by_cases h : i ∈ T
      · simp [h]
      · have : ¬ i = b := fun h => e h.symm
        simp [h, this]
/-- What is given out: rounded down, and what is left one by one to those ahead. -/
def Dealt (qs rs : List Int) (left : Nat) (zs : List Int) : Prop := ∃ T, UpSet rs T ∧ T.length = left ∧ zs = bump qs T
theorem Dealt.unique {qs rs : List Int} {left : Nat} {zs zs' : List Int} (h : Dealt qs rs left zs) (h' : Dealt qs rs left zs') : zs = zs' := by
  obtain ⟨S, hS, hl, rfl⟩ := h
  obtain ⟨T, hT, hl', rfl⟩ := h'
  exact bump_same (hS.same hT (hl.trans hl'.symm))
/-- What the reference still looks at. -/
def cur (rs : List Int) (T : List Nat) : List Int := rs.mapIdx (fun i r => if i ∈ T then -1 else r)
theorem UpSet.nil (rs : List Int) : UpSet rs [] := ⟨List.nodup_nil, by simp, by simp⟩
/-- The first ones of all, in order. -/
theorem UpSet.take {rs : List Int} {l : List Nat} (hp : l.Perm (List.range rs.length)) (hs : l.Pairwise (beats rs)) (k : Nat) : UpSet rs (l.take k) := by
  have hnd : l.Nodup := hp.nodup_iff.2 List.nodup_range
  refine ⟨?_, ?_, ?_⟩
  · exact List.Nodup.sublist (List.take_sublist k l) hnd
  · intro i hi
    exact List.mem_range.1 (hp.mem_iff.1 (List.mem_of_mem_take hi))
  · intro i hi j hj hjT
    have hjl : j ∈ l := hp.mem_iff.2 (List.mem_range.2 hj)
    have hjd : j ∈ l.drop k := by
      rw [← List.take_append_drop k l] at hjl
      exact (List.mem_append.1 hjl).resolve_left hjT
    rw [← List.take_append_drop k l] at hs
    exact (List.pairwise_append.1 hs).2.2 i hi j hjd
/-- Numbers with what is left of each, sorted: those ahead. -/
theorem sorted_up {rs : List Int} {ys : List (Nat × Int)} (hp : ys.Perm ((List.range rs.length).map (fun i => (i, rs.getD i 0)))) (hs : ys.Pairwise (fun a b => b.2 < a.2 ∨ (a.2 = b.2 ∧ a.1 < b.1))) (k : Nat) : UpSet rs ((ys.map (·.1)).take k) := by
  have hv : ∀ a ∈ ys, a.2 = rs.getD a.1 0 := fun a ha => by
    obtain ⟨i, _, rfl⟩ := List.mem_map.1 (hp.mem_iff.1 ha)
    rfl
  refine UpSet.take ?_ ?_ k
  · have := hp.map (·.1)
    rw [List.map_map] at this
    have e : ((fun x : Nat × Int => x.1) ∘ fun i => (i, rs.getD i 0)) = id := rfl
    rw [e, List.map_id] at this
    exact this
  · rw [List.pairwise_map]
    refine List.Pairwise.imp_of_mem (fun ha hb h => ?_) hs
    unfold beats
    rw [← hv _ ha, ← hv _ hb]
    exact h
end Go.Proofs.YtfkmbeppckelfaaGreatDoor
/- Plain: a fair division: what all get is what all cost. -/
namespace Go.Proofs.YtfkmbeppckelfaaGreatDoor
def bitN (g i : Nat) : Nat := g / 2 ^ i % 2
def szN : Nat → Nat → Nat
  | 0, _ => 0
  | n + 1, g => szN n g + bitN g n
def factN : Nat → Nat
  | 0 => 1
  | n + 1 => factN n * (n + 1)
def wN (n g : Nat) : Nat := factN (szN n g) * factN (n - 1 - szN n g)
def term (n : Nat) (cs : List Int) (g i : Nat) : Int := if bitN g i = 0 then ((wN n g : Nat) : Int) * (cs.getD (g + 2 ^ i) 0 - cs.getD g 0) else 0
def numTo (n : Nat) (cs : List Int) : Nat → Nat → Int
  | 0, _ => 0
  | g + 1, i => numTo n cs g i + term n cs g i
end Go.Proofs.YtfkmbeppckelfaaGreatDoor
namespace Go.Proofs.YtfkmbeppckelfaaGreatDoor
end Go.Proofs.YtfkmbeppckelfaaGreatDoor
/- Plain: a whole given out by parts. -/
namespace Go.Proofs.YtfkmbeppckelfaaGreatDoor

def sumL : List Int → Int
  | [] => 0
  | x :: l => x + sumL l
theorem sumL_app (a b : List Int) : sumL (a ++ b) = sumL a + sumL b := by
  induction a with
  | nil => simp [sumL]
  | cons x a ih => simp only [List.cons_append, sumL, ih]; omega
theorem sumL_snoc (a : List Int) (x : Int) : sumL (a ++ [x]) = sumL a + x := by rw [sumL_app]; simp [sumL]
theorem sumL_take (l : List Int) (k : Nat) (hk : k < l.length) : sumL (l.take (k + 1)) = sumL (l.take k) + l[k] := by
  rw [List.take_succ_eq_append_getElem hk, sumL_snoc]
theorem sumL_mul (c : Int) (l : List Int) : sumL (l.map (fun p => c * p)) = c * sumL l := by
  induction l with
  | nil => simp [sumL]
  | cons x l ih => simp only [List.map_cons, sumL, ih, Int.mul_add]
theorem sumL_bd (l : List Int) (lo hi : Int) (h : ∀ x ∈ l, lo ≤ x ∧ x ≤ hi) : l.length * lo ≤ sumL l ∧ sumL l ≤ l.length * hi := by
  induction l with
  | nil => simp [sumL]
  | cons x l ih =>
    have h1 := ih (fun y hy => h y (List.mem_cons_of_mem _ hy))
    have h2 := h x (by simp)
    simp only [sumL, List.length_cons]
    have e1 : ((l.length + 1 : Nat) : Int) * lo = l.length * lo + lo := by rw [Int.natCast_succ, Int.add_mul]; omega
    have e2 : ((l.length + 1 : Nat) : Int) * hi = l.length * hi + hi := by rw [Int.natCast_succ, Int.add_mul]; omega
    omega
theorem sumL_split (F : Int) (nums : List Int) : sumL nums = F * sumL (nums.map (· / F)) + sumL (nums.map (· % F)) := by
  induction nums with
  | nil => simp [sumL]
  | cons x l ih =>
    simp only [List.map_cons, sumL, Int.mul_add]
    have := Int.mul_ediv_add_emod x F
    omega
def qsN (nums : List Int) (F : Int) : List Int := nums.map (· / F)
def rsN (nums : List Int) (F : Int) : List Int := nums.map (· % F)
def leftN (all : Int) (nums : List Int) (F : Int) : Int := all - sumL (qsN nums F)
theorem qsN_len (nums : List Int) (F : Int) : (qsN nums F).length = nums.length := by simp [qsN]
theorem rsN_len (nums : List Int) (F : Int) : (rsN nums F).length = nums.length := by simp [rsN]
theorem leftN_bd {nums : List Int} {F c : Int} (hF : 0 < F) (hs : sumL nums = F * c) : 0 ≤ leftN c nums F ∧ leftN c nums F ≤ nums.length := by
  have h1 := sumL_split F nums
  have h2 := sumL_bd (nums.map (· % F)) 0 F (fun x hx => by
    obtain ⟨y, _, rfl⟩ := List.mem_map.1 hx
    exact ⟨Int.emod_nonneg _ (by omega), Int.le_of_lt (Int.emod_lt_of_pos _ hF)⟩)
  unfold leftN qsN
  rw [List.length_map] at h2
  generalize sumL (nums.map (· / F)) = q at *
  generalize sumL (nums.map (· % F)) = r at *
  have h3 : F * (c - q) = r := by rw [Int.mul_sub]; omega
  constructor
  · refine Int.le_of_mul_le_mul_left (a := F) ?_ hF
    omega
  · refine Int.le_of_mul_le_mul_left (a := F) ?_ hF
    rw [h3, Int.mul_comm F]; exact h2.2
/-- A whole 'all' given out by numbers of which all together are F times it. -/
def Handed (all : Int) (nums : List Int) (F : Int) (zs : List Int) : Prop := Dealt (qsN nums F) (rsN nums F) (leftN all nums F).toNat zs
theorem Handed.unique {all : Int} {nums : List Int} {F : Int} {zs zs' : List Int} (h : Handed all nums F zs) (h' : Handed all nums F zs') : zs = zs' := Dealt.unique h h'
theorem Handed.len {all : Int} {nums : List Int} {F : Int} {zs : List Int} (h : Handed all nums F zs) : zs.length = nums.length := by
  obtain ⟨T, _, _, rfl⟩ := h
  rw [bump_len, qsN_len]
def numsD (cents : Int) (parts : List Int) : List Int := parts.map (fun p => cents * p)
theorem numsD_sum (cents : Int) (parts : List Int) : sumL (numsD cents parts) = sumL parts * cents := by
  unfold numsD; rw [sumL_mul, Int.mul_comm]
/-- Cents given out by parts. -/
def Divided (cents : Int) (parts : List Int) (zs : List Int) : Prop := Handed cents (numsD cents parts) (sumL parts) zs
theorem divided_433 {zs : List Int} (h : Divided 10 [1, 1, 1] zs) : zs = [4, 3, 3] := by
  refine Handed.unique h ?_
  refine ⟨[0], ⟨by simp, by decide, ?_⟩, by decide, by decide⟩
  intro i hi j hj hjT
  simp at hi; subst hi
  have e : rsN (numsD 10 [1, 1, 1]) (sumL [1, 1, 1]) = [1, 1, 1] := by decide
  rw [e] at hj ⊢
  have : j = 1 ∨ j = 2 := by simp at hj hjT; omega
  rcases this with rfl | rfl <;> exact .inr ⟨rfl, by omega⟩
def numsF (n : Nat) (cs : List Int) (g : Nat) : List Int := (List.range n).map (numTo n cs g)
end Go.Proofs.YtfkmbeppckelfaaGreatDoor
/- cmp.Or of errors. -/
namespace Go.Proofs.YtfkmbeppckelfaaGreatDoor
open Go.RowKit

def encI (n : Int) : List Value := [.int .i64 n]
theorem orI_drop (zs : List Int) (k : Nat) (hk : k < zs.length) : orI (zs.drop k) = if zs[k] = 0 then orI (zs.drop (k + 1)) else zs[k] := by
  rw [List.drop_eq_getElem_cons hk]; rfl
end Go.Proofs.YtfkmbeppckelfaaGreatDoor
/- A whole given out by parts: the program's. -/
namespace Go.Proofs.YtfkmbeppckelfaaGreatDoor
open Go.RowKit Go.Sort Go.Proofs Go.Shelf

theorem el_Int : ElemOf Tryz.prog 22 3 1 8 := ElemOf.mk' (z := .int .i64 0) Tryz.underlying22 (by kernel_rfl) rfl
theorem el_Rest : ElemOf Tryz.prog 218 223 2 16 := ElemOf.mk' (z := .agg #[.int .i64 0, .int .u64 0]) Tryz.underlying218 (by kernel_rfl) rfl
theorem encI_len (x : Int) : (encI x).length = 1 := rfl
theorem encI_one (x : Int) : ∀ v ∈ encI x, v.oneCell' = true := by
  intro v hv; simp [encI] at hv; subst hv; rfl
/-- Rows of two types lie in blocks of their own. -/
theorem own_apart {w : World} {b1 b2 : Nat} {e1 e2 : TypeId} {K1 K2 n1 n2 : Nat} {v1 v2 : Value} {xs1 xs2 : List Value} (h1 : w.ownsRow b1 e1 K1 v1 n1 xs1) (h2 : w.ownsRow b2 e2 K2 v2 n2 xs2) (hne : e1 ≠ e2) : v1.ownBlock = none ∨ v1.ownBlock ≠ v2.ownBlock := by
  rcases h1.2 with ⟨rfl, _⟩ | ⟨g, cap, cur, rfl, _, hg, _⟩
  · exact .inl rfl
  · right
    intro e
    rcases h2.2 with ⟨rfl, _⟩ | ⟨g2, cap2, cur2, rfl, _, hg2, _⟩
    · cases e
    · have e3 : g = g2 := by injection e
      subst e3
      rw [hg] at hg2
      injection hg2 with hg2
      injection hg2 with _ h2 _
      exact hne h2
theorem sumL_mem : ∀ {l : List Int} {p : Int}, (∀ x ∈ l, 0 ≤ x) → p ∈ l → p ≤ sumL l
  | x :: l, p, h, hp => by
    have h0 := (sumL_bd l 0 0 |> fun f => f) 
    have h1 : 0 ≤ sumL l := by
      clear h0 hp
      induction l with
      | nil => simp [sumL]
      | cons y l ih =>
        have h2 := h y (by simp)
        have h3 := ih (fun z hz => h z (by simp at hz ⊢; rcases hz with rfl | hz <;> simp_all))
        simp only [sumL]; omega
    have hx := h x (by simp)
    simp only [sumL]
    rcases List.mem_cons.1 hp with rfl | hp
    · omega
    · have := sumL_mem (fun z hz => h z (List.mem_cons_of_mem _ hz)) hp
      omega
theorem q_bd {cents S : Int} {parts : List Int} (hc : 0 ≤ cents) (hp : ∀ p ∈ parts, 0 ≤ p) (hS : sumL parts = S) (h0 : 0 < S) : ∀ q ∈ qsN (numsD cents parts) S, 0 ≤ q ∧ q ≤ cents := by
  intro q hq
  unfold qsN numsD at hq
  rw [List.map_map] at hq
  obtain ⟨p, hpm, rfl⟩ := List.mem_map.1 hq
  have h1 := hp p hpm
  have h2 := sumL_mem hp hpm
  rw [hS] at h2
  refine ⟨Int.ediv_nonneg (Int.mul_nonneg hc h1) (by omega), ?_⟩
  refine Int.ediv_le_of_le_mul h0 ?_
  exact Int.mul_le_mul_of_nonneg_left h2 hc
/-- The remainders with their places. -/
def restsN (rs : List Int) (k : Nat) : List (Nat × Int) := (List.range k).map (fun i => (i, rs.getD i 0))
theorem restsN_snoc (rs : List Int) (k : Nat) : restsN rs (k + 1) = restsN rs k ++ [(k, rs.getD k 0)] := by unfold restsN; rw [List.range_succ, List.map_append]; rfl
theorem restsN_len (rs : List Int) (k : Nat) : (restsN rs k).length = k := by simp [restsN]
theorem restsN_pw (rs : List Int) (k : Nat) : (restsN rs k).Pairwise (fun a b => a.1 < b.1) := by
  unfold restsN
  rw [List.pairwise_map]
  exact List.pairwise_lt_range
theorem qs_take (cents S : Int) (parts : List Int) (k : Nat) (hk : k < parts.length) : (qsN (numsD cents parts) S).take (k + 1) = (qsN (numsD cents parts) S).take k ++ [cents * parts[k] / S] := by
  rw [List.take_succ_eq_append_getElem (by unfold qsN numsD; simpa using hk)]
  simp [qsN, numsD]
theorem rs_at (cents S : Int) (parts : List Int) (k : Nat) (hk : k < parts.length) : (rsN (numsD cents parts) S).getD k 0 = cents * parts[k] % S := by
  unfold rsN numsD
  rw [List.getD_eq_getElem?_getD, List.getElem?_eq_getElem (by simpa using hk)]
  simp
set_option maxRecDepth 100000 in
set_option maxHeartbeats 4000000 in
theorem w_DivideB (lo : Nat) (A : Option Addr) (c : Nat) (cents : Int) (parts : List Int) (w : World) (hR : Rd w lo A 1 encI parts) (hl : parts.length < 20) (hc0 : 0 ≤ cents ∧ cents ≤ 1000000000) (hp0 : ∀ p ∈ parts, 0 ≤ p ∧ p ≤ 1000000000) (hs0 : 0 < sumL parts) :
    Calls Tryz.prog 107 #[.int .i64 cents, .slice A parts.length c] w fun e w' => ∃ (A' : Option Addr) (c' : Nat) (zs : List Int), e = .returned (.slice A' zs.length c') ∧ Divided cents parts zs ∧ Rd w' w.heap.size A' 1 encI zs ∧ Nx w w' := by
  obtain ⟨cn, rfl⟩ := Int.eq_ofNat_of_zero_le hc0.1
  generalize hn : parts.length = n at *
  have HR := hide hR
  have HN := hide hn
  have HP := hide hp0
  have HS0 := hide hs0
  clear hR hn hp0 hs0
  have hsb := hide (fun k => sumL_bd (parts.take k) 0 1000000000 (fun x hx => HP.out x (List.mem_of_mem_take hx)))
  go_enter Tryz.func107, Tryz.ntmps107
  go_wp2
  go_loop [5, 7, 21] (fun s _ i => ∃ k : Nat, k ≤ n ∧ i = .int .i64 k ∧ s = .int .i64 (sumL (parts.take k))) (fun _ _ i => n - (intOf i).toNat)
  case atStart => exact ⟨0, Nat.zero_le _, rfl, rfl⟩
  case round =>
    obtain ⟨k, hk, rfl, rfl⟩ := hrel
    have hb := hsb.out k
    have hkl : (parts.take k).length ≤ k := List.length_take_le _ _
    by_cases hlt : k < n
    · have hlt' : k < parts.length := by have := HN.out; omega
      have HT := hide (sumL_take parts k hlt')
      generalize sumL (parts.take k) = s at *
      have hpk := HP.out parts[k] (List.getElem_mem hlt')
      obtain ⟨b, off, rfl, _, hb, _, hc⟩ := HR.out.open_ (Nx.refl w) (by omega)
      have c0 : w.cell? ⟨b, off + k, none⟩ = some (.int .i64 parts[k]) := by have := hc k hlt' 0 _ rfl; simpa using this
      clear hc
      go_wp2
      go_round
      case rel => exact ⟨k + 1, by omega, by go_num, by rw [HT.out]⟩
      case measure => simp [intOf]; omega
    · have HK := hide (show parts.take k = parts from List.take_of_length_le (by have := HN.out; omega))
      have hS1 := HS0.out
      rw [← HK.out] at hS1
      generalize hSd : sumL (parts.take k) = S at *
      have HSD := hide (show sumL parts = S by rw [← HK.out, hSd])
      clear hSd
      have ek : k = n := by omega
      subst ek
      clear hlt hk
      obtain ⟨sn, rfl⟩ := Int.eq_ofNat_of_zero_le (show 0 ≤ S by omega)
      have hsn : 0 < sn := by omega
      have hsn2 : sn ≤ 20000000000 := by omega
      go_wp2_with fail
      obtain ⟨nums, hnums⟩ : ∃ x, x = numsD (cn : Int) parts := ⟨_, rfl⟩
      have HNU := hide hnums
      have hnl : nums.length = k := by rw [hnums]; unfold numsD; rw [List.length_map]; exact HN.out
      have HNL := hide hnl
      clear hnums hnl
      have HQ1 := hide (fun (pn : Nat) (hm : (pn : Int) ∈ parts) => (show 0 ≤ (cn : Int) * (pn : Int) / (sn : Int) ∧ (cn : Int) * (pn : Int) / (sn : Int) ≤ 1000000000 from by
        have := q_bd (cents := (cn : Int)) (by omega) (fun p hp => (HP.out p hp).1) HSD.out (by omega) ((cn : Int) * (pn : Int) / (sn : Int)) (by unfold qsN numsD; rw [List.map_map]; exact List.mem_map.2 ⟨_, hm, rfl⟩)
        omega))
      have HQB := hide (fun j => (show 0 ≤ sumL ((qsN nums sn).take j) ∧ sumL ((qsN nums sn).take j) ≤ 20000000000 from by
        have h1 := sumL_bd ((qsN nums sn).take j) 0 1000000000 (fun x hx => by
          have h2 := List.mem_of_mem_take hx
          rw [HNU.out] at h2
          have := q_bd (cents := (cn : Int)) (by omega) (fun p hp => (HP.out p hp).1) HSD.out (by omega) x h2
          omega)
        have h2 : ((qsN nums sn).take j).length ≤ (qsN nums sn).length := by rw [List.length_take]; omega
        rw [qsN_len, HNL.out] at h2
        omega))
      go_loopw [8, 9, 10, 32] (fun v8 v9 l i wr => ∃ j : Nat, j ≤ k ∧ i = .int .i64 j ∧ wr.ownsRow w.heap.size 3 1 v8 ((qsN nums sn).take j).length (((qsN nums sn).take j).flatMap encI) ∧ wr.ownsRow w.heap.size 223 2 v9 (restsN (rsN nums sn) j).length ((restsN (rsN nums sn) j).flatMap encRest) ∧ l = .int .i64 ((cn : Int) - sumL ((qsN nums sn).take j)) ∧ Nx w wr) (fun _ _ _ i _ => k - (intOf i).toNat)
      case atStart => exact ⟨0, Nat.zero_le _, rfl, World.ownsRow_nil _ _ _ _, World.ownsRow_nil _ _ _ _, by simp [sumL], Nx.refl _⟩
      case round =>
        obtain ⟨j, hj, rfl, h8, h9, rfl, hbw⟩ := hrel
        by_cases hlt : j < k
        · have hlt' : j < parts.length := by have := HN.out; omega
          have hpk := HP.out parts[j] (List.getElem_mem hlt')
          obtain ⟨b, off, rfl, _, hb, hbr, hc⟩ := HR.out.open_ hbw (by omega)
          have c0 : wr.cell? ⟨b, off + j, none⟩ = some (.int .i64 parts[j]) := by have := hc j hlt' 0 _ rfl; simpa using this
          clear hc
          have HT := hide (show (qsN nums sn).take (j + 1) = (qsN nums sn).take j ++ [(cn : Int) * parts[j] / sn] by rw [HNU.out]; exact qs_take _ _ _ _ hlt')
          have HX := hide (show restsN (rsN nums sn) (j + 1) = restsN (rsN nums sn) j ++ [(j, (cn : Int) * parts[j] % sn)] by rw [restsN_snoc, HNU.out, rs_at _ _ _ _ hlt'])
          have hsb8 := HQB.out j
          have hln : ((qsN nums sn).take j).length ≤ j := List.length_take_le _ _
          have hln9 : (restsN (rsN nums sn) j).length = j := restsN_len _ _
          have HLN9 := hide hln9
          clear hln9
          generalize (qsN nums sn).take j = L8 at *
          generalize restsN (rsN nums sn) j = L9 at *
          obtain ⟨pn, hpn⟩ := Int.eq_ofNat_of_zero_le hpk.1
          rw [hpn] at c0 hpk HT HX
          have hmb : cn * pn ≤ 1000000000 * 1000000000 := Nat.mul_le_mul (by omega) (by omega)
          have hqb := HQ1.out pn (by rw [← hpn]; exact List.getElem_mem hlt')
          have eq1 : (cn : Int) * (pn : Int) / (sn : Int) = ((cn * pn / sn : Nat) : Int) := by rw [Int.natCast_ediv, Int.natCast_mul]
          have eq2 : (cn : Int) * (pn : Int) % (sn : Int) = ((cn * pn % sn : Nat) : Int) := by rw [Int.natCast_emod, Int.natCast_mul]
          rw [eq1] at HT hqb
          rw [eq2] at HX
          clear hpn eq1 eq2
          generalize hz : cn * pn = z at *
          have hrb : z % sn < sn := Nat.mod_lt _ hsn
          generalize hqd : z / sn = q at *
          generalize hrd : z % sn = r at *
          have HM := hide (fun w => w_Mul64 cn pn z w (by omega) (by omega) hz)
          have HDv := hide (fun w => w_Div64 z sn q r w (by omega) hsn (by omega) hqd hrd)
          have HAP := hide (own_apart h8 h9 (by decide))
          have HAP2 := hide (own_apart h9 h8 (by decide))
          clear hz hqd hrd
          have u1 : IntKind.u64.wrap (cn : Int) = (cn : Int) := by rw [IntKind.wrap_u64]; omega
          have u2 : IntKind.u64.wrap (pn : Int) = (pn : Int) := by rw [IntKind.wrap_u64]; omega
          have u3 : IntKind.u64.wrap (sn : Int) = (sn : Int) := by rw [IntKind.wrap_u64]; omega
          have hsz := hbw.sz
          go_wp2_with (first
            | (go_at_call 161; refine (HM.out _).mono ?_; rintro e w1 ⟨rfl, rfl⟩)
            | (go_at_call 162; refine (HDv.out _).mono ?_; rintro e w1 ⟨rfl, m1, rfl⟩)
            | (at_builtin; refine wpApp rfl _ _ _ rfl el_Int encI encI_len encI_one (by omega) (by omega) w.heap.size _ L8 rfl ((own_nx h8 ((Nx.refl _).drewN m1)).alloc _) _ (q : Int) _ rfl (hnew rfl) rfl (by omega) (by simp; omega) ?_; intro v2 w2 hown2 hg2; (have h9' := ((own_nx h9 ((Nx.refl _).drewN m1)).alloc (.cells #[.int .i64 (q : Int)] 3)).kept hg2 HAP2.out); (have hbw2 := ((hbw.drewN m1).alloc (.cells #[.int .i64 (q : Int)] 3)).grown hg2 (own_blk_lt h8)))
            | (at_builtin; refine wpApp rfl _ _ _ rfl el_Rest encRest encRest_len encRest_one (by omega) (by omega) w.heap.size _ L9 rfl (h9'.alloc _) _ (j, (r : Int)) _ rfl (hnew rfl) rfl (by have := HLN9.out; omega) (by have := hbw2.sz; simp; omega) ?_; intro v3 w3 hown3 hg3))
          have h8' := (hown2.alloc (.cells #[.int .i64 (j : Int), .int .u64 (r : Int)] 223)).kept hg3 (own_apart hown2 h9' (by decide))
          have hbw3 := (hbw2.alloc (.cells #[.int .i64 (j : Int), .int .u64 (r : Int)] 223)).grown hg3 (own_blk_lt h9')
          go_roundw
          case rel => exact ⟨j + 1, by omega, by go_num, by rw [HT.out]; exact h8', by rw [HX.out]; exact hown3, by rw [HT.out, sumL_snoc]; go_num, hbw3⟩
          case measure => simp [intOf]; omega
        · have ej : j = k := by omega
          subst ej
          clear hlt hj
          have hql : (qsN nums sn).length = j := by rw [qsN_len, HNL.out]
          have hrl : (rsN nums sn).length = j := by rw [rsN_len, HNL.out]
          have hj1 : 0 < j := by
            rcases Nat.eq_zero_or_pos j with h0 | h0
            · have e1 : parts = [] := List.eq_nil_of_length_eq_zero (by rw [HN.out, h0])
              have e2 := HSD.out
              rw [e1] at e2
              simp only [sumL] at e2
              omega
            · exact h0
          rw [restsN_len] at h9
          have e8 : (qsN nums sn).take j = qsN nums sn := List.take_of_length_le (by omega)
          rw [e8] at h8 ⊢
          rw [hql] at h8
          have hLb := leftN_bd (nums := nums) (F := (sn : Int)) (c := (cn : Int)) (by omega) (by rw [HNU.out, numsD_sum, HSD.out])
          have HLd := hide (show leftN (cn : Int) nums sn = (cn : Int) - sumL (qsN nums sn) from rfl)
          rw [← HLd.out]
          rw [HNL.out] at hLb
          generalize hLe : leftN (cn : Int) nums sn = L at *
          obtain ⟨ln, rfl⟩ := Int.eq_ofNat_of_zero_le hLb.1
          have HLE := hide hLe
          have hR9 := hide hrl
          have hQ8 := hide hql
          clear hLe e8 hql
          have HAP := own_apart h8 h9 (by decide)
          have HAP2 := own_apart h9 h8 (by decide)
          rcases h9.2 with ⟨rfl, h0⟩ | ⟨g9, cap9, cur9, rfl, hg9, hh9, hjc9, hcm9, _⟩
          · omega
          rcases h8.2 with ⟨rfl, h0⟩ | ⟨g8, cap8, cur8, rfl, hg8, hh8, _, _⟩
          · omega
          clear hh9 hh8
          have HSo := hide (fun W (h : W.ownsRow w.heap.size 223 2 (.slice (some ⟨g9, 0, none⟩) j cap9) j ((restsN (rsN nums sn) j).flatMap encRest)) => w_SortRests (w := W) (restsN (rsN nums sn) j) (restsN_len _ _) hl (restsN_pw _ _) h)
          have hne : g8 ≠ g9 := by
            rcases HAP with h | h
            · cases h
            · intro e; exact h (by rw [e]; rfl)
          unfold maxLen at hcm9
          go_wp2_with (go_at_call 163; refine (HSo.out _ h9).mono ?_; rintro e w3 ⟨rfl, ys, hperm, hpw, h9', hgr9⟩)
          have h8' := h8.kept hgr9 HAP
          have hbw3 := hbw.grown hgr9 (fun k hk => by injection hk with hk; omega)
          have HUP := hide (fun m => sorted_up (rs := rsN nums sn) (ys := ys) (by rw [hR9.out]; exact hperm) hpw m)
          have hyl : ys.length = j := by rw [hperm.length_eq, restsN_len]
          have HYL := hide hyl
          have HYM := hide (fun a (ha : a ∈ ys) => (show a.1 < j from by
            have := hperm.mem_iff.1 ha
            unfold restsN at this
            obtain ⟨i, hi, rfl⟩ := List.mem_map.1 this
            exact List.mem_range.1 hi))
          have HQE := hide (fun q (hq : q ∈ qsN nums sn) => (show 0 ≤ q ∧ q ≤ 1000000000 from by
            rw [HNU.out] at hq
            have := q_bd (cents := (cn : Int)) (by omega) (fun p hp => (HP.out p hp).1) HSD.out (by omega) q hq
            omega))
          clear hyl hperm hpw HAP HAP2 h8 h9 hbw
          go_loopw [18, 75] (fun _ i wr => ∃ m : Nat, m ≤ ln ∧ i = .int .i64 m ∧ wr.ownsRow w.heap.size 3 1 (.slice (some ⟨g8, 0, none⟩) j cap8) j ((bump (qsN nums sn) ((ys.map (·.1)).take m)).flatMap encI) ∧ wr.ownsRow w.heap.size 223 2 (.slice (some ⟨g9, 0, none⟩) j cap9) j (ys.flatMap encRest) ∧ Nx w wr) (fun _ i _ => ln - (intOf i).toNat)
          case atStart => exact ⟨0, Nat.zero_le _, rfl, by rw [List.take_zero, bump_nil]; exact h8', h9', hbw3⟩
          case round =>
            clear h8' h9' hbw3
            obtain ⟨m, hm, rfl, h8, h9, hbw⟩ := hrel
            by_cases hlt : m < ln
            · have hmy : m < ys.length := by have := HYL.out; omega
              have hcx : ((ys.map (·.1)).take (m + 1)) = (ys.map (·.1)).take m ++ [ys[m].1] := by rw [List.take_succ_eq_append_getElem (by simpa using hmy)]; simp
              have hnd := (HUP.out (m + 1)).nd
              rw [hcx] at hnd
              have hnot : ys[m].1 ∉ (ys.map (·.1)).take m := fun h => (List.nodup_append.1 hnd).2.2 _ h _ (by simp) rfl
              have haj := HYM.out ys[m] (List.getElem_mem hmy)
              have c0 : wr.cell? ⟨g9, m * 2, none⟩ = some (.int .i64 (ys[m].1 : Int)) := own_cell encRest_len HYL.out h9 m hmy 0 _ rfl
              have c1 : wr.cell? ⟨g9, m * 2 + 1, none⟩ = some (.int .u64 ys[m].2) := own_cell encRest_len HYL.out h9 m hmy 1 _ rfl
              have hbl : (bump (qsN nums sn) ((ys.map (·.1)).take m)).length = j := by rw [bump_len, hQ8.out]
              have hin : ys[m].1 < (bump (qsN nums sn) ((ys.map (·.1)).take m)).length := by omega
              have hbs := bump_snoc (qsN nums sn) _ _ hnot hin
              have hbg := bump_get (qsN nums sn) ((ys.map (·.1)).take m) ys[m].1 hin
              rw [if_neg hnot] at hbg
              have hqb := HQE.out _ (List.getElem_mem (l := qsN nums sn) (n := ys[m].1) (by rw [hQ8.out]; exact haj))
              rw [← hbg] at hqb
              have d0 : wr.cell? ⟨g8, ys[m].1, none⟩ = some (.int .i64 ((bump (qsN nums sn) ((ys.map (·.1)).take m))[ys[m].1]'hin)) := by have := own_cell encI_len hbl h8 ys[m].1 hin 0 _ rfl; simpa using this
              have f0 : wr.frozen? ⟨g8, ys[m].1, none⟩ = false := h8.frozenAt _
              rw [← hcx] at hbs
              clear hbg hnd hnot hcx
              generalize (bump (qsN nums sn) ((ys.map (·.1)).take m)) = B at *
              have HBS := hide hbs
              clear hbs
              have hlt8 := h8.lt g8 rfl
              have hlt9 := h9.lt g9 rfl
              have h8s := (own_set encI_len hbl h8 ys[m].1 hin 0 (by omega) (.int .i64 (B[ys[m].1]'hin + 1)) (B[ys[m].1]'hin + 1) rfl ys[m].1 (by omega)).alloc (.cells #[.int .i64 (ys[m].1 : Int), .int .u64 ys[m].2] 223)
              have h9s := (h9.kept ((Gr.refl g8 _).setS (p := ⟨g8, ys[m].1, none⟩) (.inl rfl) (.int .i64 (B[ys[m].1]'hin + 1))) (.inr (by intro e; injection e with e; exact hne e.symm))).alloc (.cells #[.int .i64 (ys[m].1 : Int), .int .u64 ys[m].2] 223)
              have hbws := (hbw.setCell (p := ⟨g8, ys[m].1, none⟩) hg8 (.int .i64 (B[ys[m].1]'hin + 1))).alloc (.cells #[.int .i64 (ys[m].1 : Int), .int .u64 ys[m].2] 223)
              generalize (B[ys[m].1]'hin) = z at *
              generalize hyd : ys[m].1 = a at *
              generalize ys[m].2 = r2 at *
              go_wp2
              go_roundw
              case rel => exact ⟨m + 1, by omega, by go_num, by rw [← HBS.out]; exact h8s, h9s, hbws⟩
              case measure => simp [intOf]; omega
            · have em : m = ln := by omega
              go_wp2
              go_ret
              have hz : (bump (qsN nums sn) ((ys.map (·.1)).take m)).length = j := by rw [bump_len, hQ8.out]
              obtain ⟨A', c', ev, hR', _⟩ := Rd.of_own encI_len hz.symm h8
              refine ⟨A', c', _, congrArg Ending.returned ev, ?_, hR', hbw⟩
              unfold Divided Handed
              rw [HSD.out, ← HNU.out, HLE.out]
              refine ⟨_, HUP.out m, ?_, rfl⟩
              rw [List.length_take, List.length_map, HYL.out, em]
              show min ln j = ((ln : Nat) : Int).toNat
              rw [Int.toNat_natCast]
              omega
end Go.Proofs.YtfkmbeppckelfaaGreatDoor
/- Plain: what a key is, by the program's loop and by the reference's trim. -/
namespace Go.Proofs.YtfkmbeppckelfaaGreatDoor
def lowC (c : UInt8) : Bool := decide (97 ≤ c.toNat) && decide (c.toNat ≤ 122)
def digC (c : UInt8) : Bool := decide (48 ≤ c.toNat) && decide (c.toNat ≤ 57)
def keyC (c : UInt8) : Bool := lowC c || digC c || c == 45 || c == 95
/-- A key. -/
def keyL : List UInt8 → Bool
  | [] => false
  | c :: l => decide ((c :: l).length ≤ 40) && lowC c && (c :: l).all keyC
def keyB (s : ByteArray) : Bool := keyL s.data.toList
def smallL : List UInt8 := [97, 98, 99, 100, 101, 102, 103, 104, 105, 106, 107, 108, 109, 110, 111, 112, 113, 114, 115, 116, 117, 118, 119, 120, 121, 122]
def csetL : List UInt8 := smallL ++ [48, 49, 50, 51, 52, 53, 54, 55, 56, 57, 45, 95]
theorem all_u8 {p : UInt8 → Bool} (h : ∀ n : Fin 256, p (UInt8.ofNat n.val) = true) (c : UInt8) : p c = true := by
  have := h ⟨c.toNat, c.toNat_lt⟩
  simpa using this
theorem cset_key (c : UInt8) : csetL.contains c = keyC c := by
  have := all_u8 (p := fun c => csetL.contains c == keyC c) (by decide +kernel) c
  simpa using this
theorem small_low (c : UInt8) : decide (0 ≤ Go.Lib.indexByte smallL c) = lowC c := by
  have := all_u8 (p := fun c => decide (0 ≤ Go.Lib.indexByte smallL c) == lowC c) (by decide +kernel) c
  simpa using this
theorem drop_nil {p : UInt8 → Bool} : ∀ {l : List UInt8}, l.dropWhile p = [] ↔ l.all p = true
  | [] => by simp
  | c :: l => by
    by_cases h : p c = true
    · rw [List.dropWhile_cons_of_pos h, drop_nil]; simp [h]
    · rw [List.dropWhile_cons_of_neg h]; simp [h]
theorem drop_all {p : UInt8 → Bool} : ∀ {l : List UInt8}, (l.dropWhile p).all p = true → l.all p = true
  | [], h => h
  | c :: l, h => by
    by_cases hc : p c = true
    · rw [List.dropWhile_cons_of_pos hc] at h; simp [hc]; simpa using drop_all h
    · rw [List.dropWhile_cons_of_neg hc] at h; exact h
theorem all_drop {p : UInt8 → Bool} {l : List UInt8} (h : l.all p = true) : (l.dropWhile p).all p = true := by
  rw [drop_nil.2 h]; rfl
theorem trim_nil (l cs : List UInt8) : Go.Lib.trimS l cs = [] ↔ l.all (cs.contains ·) = true := by
  unfold Go.Lib.trimS Go.Lib.trimLeftS Go.Lib.trimRightS
  rw [drop_nil]
  simp only [List.all_reverse]
  constructor
  · intro h; have := drop_all h; simpa using this
  · intro h; exact all_drop (by simpa using h)
theorem trim_key (l : List UInt8) : (Go.Lib.trimS l csetL).isEmpty = l.all keyC := by
  have h := trim_nil l csetL
  have e : (fun c => csetL.contains c) = keyC := by funext c; exact cset_key c
  rw [e] at h
  cases h1 : l.all keyC
  · cases h2 : Go.Lib.trimS l csetL
    · rw [h.1 h2] at h1; cases h1
    · rfl
  · rw [h.2 h1]; rfl
end Go.Proofs.YtfkmbeppckelfaaGreatDoor
/- Keys: the program's and the reference's. -/
namespace Go.Proofs.YtfkmbeppckelfaaGreatDoor
open Go.RowKit

theorem lowC_int (c : UInt8) : lowC c = true ↔ 97 ≤ (c.toNat : Int) ∧ (c.toNat : Int) ≤ 122 := by
  unfold lowC; simp; omega
theorem keyC_int (c : UInt8) : keyC c = true ↔ (97 ≤ (c.toNat : Int) ∧ (c.toNat : Int) ≤ 122) ∨ (48 ≤ (c.toNat : Int) ∧ (c.toNat : Int) ≤ 57) ∨ (c.toNat : Int) = 45 ∨ (c.toNat : Int) = 95 := by
  unfold keyC lowC digC
  have e1 : (c == 45) = true ↔ (c.toNat : Int) = 45 := by
    rw [beq_iff_eq, ← UInt8.toNat_inj]; show c.toNat = 45 ↔ _; omega
  have e2 : (c == 95) = true ↔ (c.toNat : Int) = 95 := by
    rw [beq_iff_eq, ← UInt8.toNat_inj]; show c.toNat = 95 ↔ _; omega
  simp only [Bool.or_eq_true, Bool.and_eq_true, decide_eq_true_eq, e1, e2]
  omega
theorem keyL_snoc {l : List UInt8} {p : UInt8 → Bool} {k : Nat} (hk : k < l.length) : (l.take (k + 1)).all p = ((l.take k).all p && p l[k]) := by
  rw [List.take_succ_eq_append_getElem hk, List.all_append]; simp
theorem data_len (s : ByteArray) : s.data.toList.length = s.size := by simp
theorem keyB_eq (s : ByteArray) (h0 : 0 < s.size) : keyB s = (decide (s.size ≤ 40) && lowC (s[0]'h0) && s.data.toList.all keyC) := by
  unfold keyB
  have e := data_len s
  cases hl : s.data.toList with
  | nil => rw [hl] at e; simp at e; omega
  | cons c l =>
    have e0 : s[0]'h0 = c := by
      have : s.data.toList[0]'(by rw [e]; exact h0) = c := by simp [hl]
      exact this
    unfold keyL
    rw [e0, ← e, hl]
theorem all_take_false {l : List UInt8} {p : UInt8 → Bool} {k : Nat} (hk : k < l.length) (h : p l[k] = false) : l.all p = false := by
  rw [List.all_eq_false]
  exact ⟨_, List.getElem_mem hk, by simp [h]⟩

set_option maxHeartbeats 1000000 in
theorem w_Key (s : ByteArray) (w : World) (hs : s.size ≤ 1000000) :
    Calls Tryz.prog 84 #[.string s] w fun e w' => e = .returned (.bool (keyB s)) ∧ w = w' := by
  by_cases h0 : s.size = 0
  · have he : s.toList = [] := by
      rw [Lib.toList_data]
      exact List.eq_nil_of_length_eq_zero (by rw [data_len]; exact h0)
    have hk : keyB s = false := by
      unfold keyB
      rw [← Lib.toList_data, he]; rfl
    have HK := hide hk
    clear hk
    go_enter Tryz.func84, Tryz.ntmps84
    go_wp2
    go_ret
    exact ⟨ret_bool (by rw [HK.out]), rfl⟩
  · have h1 : 0 < s.size := by omega
    have HK := hide (keyB_eq s h1)
    have he : s.toList.isEmpty = false := by
      rw [Lib.toList_data]
      cases h : s.data.toList with
      | nil => have := data_len s; rw [h] at this; simp at this; omega
      | cons _ _ => rfl
    have L0 := hide (lowC_int (s[0]'h1))
    by_cases h40 : 40 < s.size
    · go_enter Tryz.func84, Tryz.ntmps84
      go_wp2
      go_ret
      exact ⟨ret_bool (by rw [HK.out, decide_eq_false (by omega)]; rfl), rfl⟩
    · by_cases hlow : lowC (s[0]'h1) = true
      · have hlo := L0.out.1 hlow
        have HLW := hide hlow
        obtain ⟨hl1, hl2⟩ := hlo
        clear hlow
        go_enter Tryz.func84, Tryz.ntmps84
        go_wp2
        go_loop [3, 4, 24] (fun _ _ i => ∃ k : Nat, k ≤ s.size ∧ i = .int .i64 k ∧ (s.data.toList.take k).all keyC = true) (fun _ _ i => s.size - (intOf i).toNat)
        case atStart => exact ⟨0, Nat.zero_le _, rfl, by simp⟩
        case round =>
          obtain ⟨k, hk, rfl, hq⟩ := hrel
          have HQ := hide hq
          clear hq
          by_cases hlt : k < s.size
          · have KC := hide (keyC_int s[k])
            have KS := hide (keyL_snoc (p := keyC) (l := s.data.toList) (k := k) (by simpa using hlt))
            have KA := hide (fun h => all_take_false (p := keyC) (l := s.data.toList) (k := k) (by simpa using hlt) h)
            have KE := hide (show s.data.toList[k]'(by simpa using hlt) = s[k] from rfl)
            by_cases hc : keyC s[k] = true
            · have hc' := KC.out.1 hc
              have HC := hide hc
              clear hc
              go_wp2
              all_goals first
                | (go_round
                   case rel => exact ⟨k + 1, by omega, by go_num, by rw [KS.out, HQ.out, KE.out, HC.out]; rfl⟩
                   case measure => simp [intOf]; omega)
                | (exfalso; simp at *; omega)
            · have hc' : ¬ ((97 ≤ (s[k].toNat : Int) ∧ (s[k].toNat : Int) ≤ 122) ∨ (48 ≤ (s[k].toNat : Int) ∧ (s[k].toNat : Int) ≤ 57) ∨ (s[k].toNat : Int) = 45 ∨ (s[k].toNat : Int) = 95) := fun h => hc (KC.out.2 h)
              have HC := hide hc
              clear hc
              go_wp2
              all_goals first
                | (go_ret
                   exact ⟨ret_bool (by rw [HK.out, KA.out (by rw [KE.out]; simpa using HC.out)]; simp), rfl⟩)
                | (exfalso; simp at *; omega)
          · go_wp2
            go_ret
            have e : k = s.size := by omega
            exact ⟨ret_bool (by
              have h := HQ.out
              rw [e, List.take_of_length_le (by rw [data_len]; exact Nat.le_refl _)] at h
              rw [HK.out, decide_eq_true (by omega), HLW.out, h]; rfl), rfl⟩
      · have hlo : ¬ (97 ≤ ((s[0]'h1).toNat : Int) ∧ ((s[0]'h1).toNat : Int) ≤ 122) := fun h => hlow (L0.out.2 h)
        have HLW := hide hlow
        clear hlow
        by_cases hl1 : ((s[0]'h1).toNat : Int) < 97
        · clear hlo
          go_enter Tryz.func84, Tryz.ntmps84
          go_wp2
          go_ret
          exact ⟨ret_bool (by rw [HK.out, show lowC (s[0]'h1) = false by simpa using HLW.out]; simp), rfl⟩
        · have hl2 : 122 < ((s[0]'h1).toNat : Int) := by omega
          clear hlo
          go_enter Tryz.func84, Tryz.ntmps84
          go_wp2
          go_ret
          exact ⟨ret_bool (by rw [HK.out, show lowC (s[0]'h1) = false by simpa using HLW.out]; simp), rfl⟩

def csB : ByteArray := ⟨#[97, 98, 99, 100, 101, 102, 103, 104, 105, 106, 107, 108, 109, 110, 111, 112, 113, 114, 115, 116, 117, 118, 119, 120, 121, 122, 48, 49, 50, 51, 52, 53, 54, 55, 56, 57, 45, 95]⟩
def smB : ByteArray := ⟨#[97, 98, 99, 100, 101, 102, 103, 104, 105, 106, 107, 108, 109, 110, 111, 112, 113, 114, 115, 116, 117, 118, 119, 120, 121, 122]⟩
/-- The reference's trim, of keys' signs. -/
theorem w_TrimKey (s : ByteArray) (w : World) (hs : s.size ≤ 1000000) :
    Calls Tryz.prog 115 #[.string s, .string csB] w fun e w' => ∃ r : ByteArray, e = .returned (.string r) ∧ r.toList.isEmpty = s.data.toList.all keyC ∧ Nx w w' := by
  have hcon := Any.strings_Trim_laid Tryz.trimStr (by kernel_rfl) s csB w (by omega) (by decide) (ascii_of_all (by decide))
  change Calls Tryz.prog 115 _ _ _ at hcon
  refine hcon.mono ?_
  rintro e w' ⟨rfl, hb⟩
  refine ⟨_, rfl, ?_, hb⟩
  rw [Lib.toList_data]
  exact trim_key s.data.toList
theorem w_IndexSmall (c : UInt8) (w : World) :
    Calls Tryz.prog 116 #[.string smB, .int .u8 (c.toNat : Int)] w fun e w' => ∃ z : Int, e = .returned (.int .i64 z) ∧ decide (0 ≤ z) = lowC c ∧ w = w' := by
  have hcon := Any.strings_IndexByte Tryz.indexByteStr smB (c.toNat : Int) w
  change Calls Tryz.prog 116 _ _ _ at hcon
  refine hcon.mono ?_
  rintro e w' ⟨rfl, rfl⟩
  refine ⟨_, rfl, ?_, rfl⟩
  have e : smB.data.toList = smallL := rfl
  have e2 : ((c.toNat : Int)).toNat.toUInt8 = c := by simp
  rw [e, e2]
  exact small_low c

set_option maxHeartbeats 1000000 in
theorem w_KeyR (s : ByteArray) (w : World) (hs : s.size ≤ 1000000) :
    Calls Tryz.prog 77 #[.string s] w fun e w' => e = .returned (.bool (keyB s)) ∧ Nx w w' := by
  have e1 := inB_out (s.size : Int) 1 40
  by_cases h0 : s.size = 0
  · have he : s.toList = [] := by
      rw [Lib.toList_data]
      exact List.eq_nil_of_length_eq_zero (by rw [data_len]; exact h0)
    have hk : keyB s = false := by
      unfold keyB
      rw [← Lib.toList_data, he]; rfl
    have ho : outB (s.size : Int) 1 40 = true := outB_true.2 (by omega)
    rw [ho] at e1
    have HK := hide hk
    clear hk ho h0
    go_enter Tryz.func77, Tryz.ntmps77
    go_wp2_with (go_at_call 78; refine (w_in _ _ _ _).mono ?_; rintro e w' ⟨rfl, rfl⟩)
    go_ret
    exact ⟨ret_bool (by rw [HK.out]), Nx.refl _⟩
  · have h1 : 0 < s.size := by omega
    have HK := hide (keyB_eq s h1)
    have hT := fun w => w_TrimKey s w hs
    by_cases h40 : 40 < s.size
    · have ho : outB (s.size : Int) 1 40 = true := outB_true.2 (by omega)
      rw [ho] at e1
      clear ho
      go_enter Tryz.func77, Tryz.ntmps77
      go_wp2_with (go_at_call 78; refine (w_in _ _ _ _).mono ?_; rintro e w' ⟨rfl, rfl⟩)
      go_ret
      exact ⟨ret_bool (by rw [HK.out, decide_eq_false (by omega)]; rfl), Nx.refl _⟩
    · have ho : outB (s.size : Int) 1 40 = false := outB_false.2 (by omega)
      rw [ho] at e1
      clear ho
      generalize s.data.toList.all keyC = B at HK hT
      go_enter Tryz.func77, Tryz.ntmps77
      go_wp2_with (first
        | (go_at_call 78; refine (w_in _ _ _ _).mono ?_; rintro e w' ⟨rfl, rfl⟩)
        | (go_at_call 115; refine (hT _).mono ?_; rintro e w1 ⟨r, rfl, hr, hn1⟩)
        | (go_at_call 116; refine (w_IndexSmall _ _).mono ?_; rintro e w2 ⟨z, rfl, hz, rfl⟩))
      · go_ret
        exact ⟨ret_bool (by rw [HK.out, decide_eq_true (by omega), show B = true from ‹B = true›]; simp), hn1⟩
      · go_ret
        have hB : B = false := by simpa using ‹¬B = true›
        exact ⟨ret_bool (by rw [HK.out, hB]; simp), hn1⟩
end Go.Proofs.YtfkmbeppckelfaaGreatDoor
/- Plain functions: what is wrong with keys, parts, costs, dues, steps; gains, refunds. -/
namespace Go.Proofs.YtfkmbeppckelfaaGreatDoor

def maxCt : Int := 1000000000
def strLe (a b : ByteArray) : Bool := Op.bytesLess a.toList b.toList || a.toList == b.toList
def centB (n : Int) : Bool := outB n 0 maxCt
def partsF (cents : Int) (parts : List Int) : Int :=
  if centB cents then 1 else if 1000 < parts.length then 2 else if parts.any centB then 1 else if sumL parts = 0 then 8 else 0
structure Due where
  key : ByteArray
  cents : Int
instance : Inhabited Due := ⟨⟨default, 0⟩⟩
def encS (s : ByteArray) : List Value := [.string s]
/-- A whole shared fairly. -/
def FairR (rides : List ByteArray) (costs : List Int) (ds : List Due) : Prop :=
  ∃ zs, Handed (costs.getD (2 ^ rides.length - 1) 0) (numsF rides.length costs (2 ^ rides.length)) (factN rides.length : Nat) zs ∧ ds = List.zipWith Due.mk rides zs
theorem FairR.unique {rides : List ByteArray} {costs : List Int} {ds ds' : List Due} (h : FairR rides costs ds) (h' : FairR rides costs ds') : ds = ds' := by
  obtain ⟨zs, h1, rfl⟩ := h
  obtain ⟨zs', h2, rfl⟩ := h'
  rw [h1.unique h2]
structure Frac where
  num : Int
  den : Int
instance : Inhabited Frac := ⟨⟨0, 0⟩⟩
end Go.Proofs.YtfkmbeppckelfaaGreatDoor
/- Sorted keys: the program's check and the reference's. -/
namespace Go.Proofs.YtfkmbeppckelfaaGreatDoor
open Go.RowKit

def Small (l : List ByteArray) : Prop := ∀ s ∈ l, s.size ≤ 1000000
theorem Small.at {l : List ByteArray} (h : Small l) (k : Nat) (hk : k < l.length) : l[k].size ≤ 1000000 := h _ (List.getElem_mem hk)

end Go.Proofs.YtfkmbeppckelfaaGreatDoor
