/- Tallies: a copy, what is deleted, the stable sort by how many. -/
import Derived.Test.YthlhomcgjgfdhaaGreatDoorQDelT
import Derived.Test.YthlhomcgjgfdhaaGreatDoorQShelfH
import Derived.Test.YthlhomcgjgfdhaaGreatDoorQG0
import Derived.Shelf.SlSortCmp.Insertion
import Derived.Shelf.SlSortCmp.InsertionK
import Derived.Shelf.Bits.Mul64
import Derived.Shelf.SlGeneric
import Derived.Ground.SlsfProg
import Derived.Ground.NamesProg
import Derived.Test.YthlhomcgjgfdhaaGreatDoorProg
import Derived.Test.YthlhomcgjgfdhaaGreatDoorQG6
import Derived.Test.YthlhomcgjgfdhaaGreatDoorQDivB
namespace Go.Proofs.YthlhomcgjgfdhaaGreatDoor
open Go.RowKit Go.Sort Go.Proofs Go.Shelf

theorem encT_one (x : Tally) : ∀ v ∈ encTally x, v.oneCell' = true := by
  intro v hv; simp [encTally] at hv; rcases hv with rfl | rfl | rfl | rfl <;> rfl
theorem el_TalS : ElemOf Tryz.prog 26 55 4 32 := ElemOf.mk' (z := .agg #[.int .i64 0, .int .i64 0, .int .i64 0, .int .i64 0]) Tryz.underlying26 (by kernel_rfl) rfl
/-- Nothing old turns, whatever stood there ahead of the row. -/
def Keeps (base : Nat) (w w' : World) : Prop := ∀ w0, Nx w0 w → w0.heap.size ≤ base → Nx w0 w'
theorem Keeps.gr {base g : Nat} {w w' : World} (h : Gr g w w') (hg : base ≤ g) : Keeps base w w' := fun _ hn hb => Nx.of_gr ((Gr.of_nx hn).trans h) (by omega)
theorem Keeps.nx {base : Nat} {w w' : World} (h : Nx w w') : Keeps base w w' := fun _ hn _ => hn.trans h
set_option maxRecDepth 100000 in
set_option maxHeartbeats 400000 in
theorem w_CloneT (lo : Nat) (A : Option Addr) (c : Nat) (l : List Tally) (w : World) (hR : Rd w lo A 4 encTally l) (hl : l.length ≤ 100000) :
    Calls Tryz.prog 51 #[.slice A l.length c] w fun e w' => ∃ v, e = .returned v ∧ w'.ownsRow w.heap.size 55 4 v l.length (l.flatMap encTally) ∧ Nx w w' := by
  have q22 : ∀ (w : World) (a : Option Addr) (n c n' c' : Nat), (binOp .eql 26 (.slice a n c) (.slice none n' c')).run Tryz.prog w = .ok (.bool a.isNone) w := fun w a n c n' c' => Lib.run_eql_slice_nil w _ _ a n c n' c' Tryz.underlying26
  cases A with
  | none =>
    have hy : l = [] := by
      rcases l with _ | ⟨y, l⟩
      · rfl
      · obtain ⟨b, off, e, _⟩ := hR (by simp); cases e
    subst hy
    go_enter Tryz.func51, Tryz.ntmps51
    go_wp2
    go_ret
    exact ⟨_, rfl, World.ownsRow_nil _ _ _ _, Nx.refl _⟩
  | some a =>
    have hst := own_lit (w := w.alloc (.cells #[] 55)) (e := 55) (g := w.heap.size) (n := 0) (m := 0) (base := w.heap.size) (xs := ([] : List Tally)) encTally_len (hnew rfl) (Nat.le_refl _) rfl rfl (Nat.le_refl _) (by unfold maxLen; omega)
    have HST := hide hst
    have HR := hide hR
    clear hst hR
    generalize hn : l.length = n at *
    have HN := hide hn
    clear hn
    go_enter Tryz.func51, Tryz.ntmps51
    go_wp2_with (at_builtin; refine wpAppL rfl _ _ _ rfl el_TalS encTally encTally_len encT_one (by omega) (by omega) w.heap.size _ [] rfl HST.out (some a) c l (by rw [HN.out]; rfl) (HR.out.nx ((Nx.refl _).alloc _)) (by have := HN.out; simp; omega) (by simp) ?_; intro v2 w2 hown2 hg2)
    go_ret
    rw [List.nil_append, HN.out] at hown2
    refine ⟨_, rfl, hown2, ?_⟩
    exact ((Nx.refl w).alloc _).grown hg2 (own_blk_lt HST.out)
theorem eq_nil_of {l : List Tally} (h : l.length = 0) : l = [] := List.eq_nil_of_length_eq_zero h
set_option maxRecDepth 100000 in
set_option maxHeartbeats 1000000 in
theorem w_DeleteV (gp : Nat) (p : Tally → Bool) (cap0 : Value) (eg : Enters gp) {base : Nat} {v : Value} (xs : List Tally) (w : World) (hl : xs.length ≤ 1000)
    (hcl : ∀ (y : Tally) W, w.grownBy W v.ownBlock → Calls Tryz.prog gp #[.agg #[.int .i64 y.x, .int .i64 y.y, .int .i64 y.hour, .int .i64 y.many], cap0] W fun e w' => e = .returned (.bool (p y)) ∧ Nx W w')
    (hown : w.ownsRow base 55 4 v xs.length (xs.flatMap encTally)) :
    Calls Tryz.prog 50 #[v, .func (.func gp) #[] #[cap0]] w fun e w' => ∃ v', e = .returned v' ∧ w'.ownsRow base 55 4 v' (xs.filter (fun x => !p x)).length ((xs.filter (fun x => !p x)).flatMap encTally) ∧ Keeps base w w' := by
  rcases hown.2 with ⟨rfl, h0⟩ | ⟨g, cap, cur, rfl, hbg, _, hnc, _⟩
  · have hx := eq_nil_of h0
    subst hx
    have HIX := hide (w_IndexFT gp p cap0 eg 0 none 0 [] w (fun y W hn => hcl y W (hn.gr none)) Rd.nil (by simp))
    have HO := hide hown
    clear hown hcl
    go_enter Tryz.func50, Tryz.ntmps50
    go_wp2_with (go_at_call 90; refine HIX.out.mono ?_; rintro e w2 ⟨rfl, hn2⟩)
    go_ret
    exact ⟨_, rfl, World.ownsRow_nil _ _ _ _, Keeps.nx hn2⟩
  · refine (w_DeleteFT gp p cap0 eg xs w rfl hl hnc (fun y W hg => hcl y W hg) hown).mono ?_
    rintro e w' ⟨m, rfl, rfl, ho, hg⟩
    exact ⟨_, rfl, ho, Keeps.gr hg hbg⟩
def manyC (x y : Tally) : Int := cmpI y.many x.many
/-- The tallies sorted by how many, the most first; those that are as many as they stood. -/
def sortT (xs : List Tally) : List Tally := (insertionSort (ltOf manyC) xs.toArray 0 xs.length).toList
theorem sortT_perm (xs : List Tally) : (sortT xs).Perm xs := by
  have h := ins_stable (ltOf manyC) (R := fun _ _ => True) (S := fun _ _ => True) (fun _ _ _ => trivial) (fun _ _ _ _ => trivial) (fun _ _ _ _ _ => trivial) xs.toArray (List.pairwise_of_forall (fun _ _ => trivial))
  have e : xs.toArray.size = xs.length := by simp
  rw [e] at h
  unfold sortT
  simpa using h.1
theorem sortT_len (xs : List Tally) : (sortT xs).length = xs.length := (sortT_perm xs).length_eq
set_option maxRecDepth 100000 in
set_option maxHeartbeats 1000000 in
theorem w_SortT (gc : Nat) (eg : Enters gc) (hgc : ∀ (x y : Tally) W, Calls Tryz.prog gc #[.agg (encTally x).toArray, .agg (encTally y).toArray] W fun e w' => e = .returned (.int .i64 (manyC x y)) ∧ Lays W w') {w : World} {base b cap n : Nat} (xs : List Tally) (hn : xs.length = n) (hsz : n < 20) (h : w.ownsRow base 55 4 (.slice (some ⟨b, 0, none⟩) n cap) n (xs.flatMap encTally)) :
    Calls Tryz.prog 53 #[.slice (some ⟨b, 0, none⟩) n cap, .func (.func gc) #[] #[]] w fun en w' => en = .returned (.tuple #[]) ∧
      w'.ownsRow base 55 4 (.slice (some ⟨b, 0, none⟩) n cap) n ((sortT xs).flatMap encTally) ∧ Gr b w w' := by
  have hlt := (h.lt b rfl)
  have e1 : xs.toArray.size = n := by simpa using hn
  have hH := holds_of_own encTally_len (by omega) hn h
  have hc : CmpLays Tryz.prog gc #[] encTally 4 manyC b 0 xs.toArray.size w := fun m os dk _ x y => by
    rw [Array.append_empty]
    exact hgc x y _
  have hs := AnyQ.insertionSortCmpFunc Tryz.insTal 4 Tryz.isAgg55 Tryz.sizeOf55 encTally encTally_len encT_one manyC gc #[] b 0 cap 0 xs.toArray.size xs.toArray w eg hc hH hlt.2 (Nat.zero_le _) (Nat.le_refl _) (by omega)
  change Calls Tryz.prog 123 _ _ _ at hs
  rw [e1] at hs
  have HS := hide (hs.mono fun en w' ⟨he, m, os, hw⟩ => (show en = Ending.returned (.tuple #[]) ∧ w'.ownsRow base 55 4 (.slice (some ⟨b, 0, none⟩) n cap) n ((sortT xs).flatMap encTally) ∧ Gr b w w' from by
    refine ⟨he, ?_⟩
    have := own_of_sorted encTally_len (by omega) h (sortT xs) (by rw [sortT_len]; exact hn) m os
    have e2 : (sortT xs).toArray = insertionSort (ltOf manyC) xs.toArray 0 n := by unfold sortT; rw [hn]
    rw [e2] at this
    rw [hw]
    simpa using this))
  clear hs hc hH h hlt e1 hn
  have HT := hide (show Calls Tryz.prog 91 #[.slice (some ⟨b, 0, none⟩) n cap, .int .i64 n, .func (.func gc) #[] #[]] w fun en w' => en = .returned (.tuple #[]) ∧
      w'.ownsRow base 55 4 (.slice (some ⟨b, 0, none⟩) n cap) n ((sortT xs).flatMap encTally) ∧ Gr b w w' from by
    have t1 : decide ((20 : Int) ≤ (n : Int)) = false := decide_eq_false (by omega)
    have t2 : decide ((20 : Int) < (n : Int)) = false := decide_eq_false (by omega)
    go_enter Tryz.func91, Tryz.ntmps91
    go_wp2_with fail
    refine wp_loop_rounds 1 ?_
    rw [rounds_succ]
    go_wp2_with (go_at_call 123; refine (HS.out).mono ?_; rintro e w1 ⟨rfl, hw1⟩)
    refine wp_loop_rounds 1 ?_
    rw [rounds_succ]
    go_wp2_with fail
    go_end0
    exact ⟨rfl, hw1⟩)
  go_enter Tryz.func53, Tryz.ntmps53
  go_wp2_with (go_at_call 91; refine (HT.out).mono ?_; rintro e w1 ⟨rfl, hw1⟩)
  go_end0
  exact ⟨rfl, hw1⟩
set_option maxRecDepth 100000 in
set_option maxHeartbeats 2000000 in
theorem w_SortT0 (B : Option Addr) (cap : Nat) (f : Value) (w : World) :
    Calls Tryz.prog 53 #[.slice B 0 cap, f] w fun en w' => en = .returned (.tuple #[]) ∧ w' = w := by
  have HI := hide (fun (W : World) => (show Calls Tryz.prog 123 #[.slice B 0 cap, .int .i64 0, .int .i64 0, f] W fun en w' => en = .returned (.tuple #[]) ∧ w' = W from by
    go_enter Tryz.func123, Tryz.ntmps123
    go_wp2_with fail
    refine wp_loop_rounds 1 ?_
    rw [rounds_succ]
    go_wp2_with fail
    go_end0
    exact ⟨rfl, rfl⟩))
  have HT := hide (show Calls Tryz.prog 91 #[.slice B 0 cap, .int .i64 0, f] w fun en w' => en = .returned (.tuple #[]) ∧ w' = w from by
    go_enter Tryz.func91, Tryz.ntmps91
    go_wp2_with fail
    refine wp_loop_rounds 1 ?_
    rw [rounds_succ]
    go_wp2_with (go_at_call 123; refine (HI.out _).mono ?_; rintro e w1 ⟨rfl, rfl⟩)
    refine wp_loop_rounds 1 ?_
    rw [rounds_succ]
    go_wp2_with fail
    go_end0
    exact ⟨rfl, rfl⟩)
  go_enter Tryz.func53, Tryz.ntmps53
  go_wp2_with (go_at_call 91; refine (HT.out).mono ?_; rintro e w1 ⟨rfl, rfl⟩)
  go_end0
  exact ⟨rfl, rfl⟩
theorem w_SortTV (gc : Nat) (eg : Enters gc) (hgc : ∀ (x y : Tally) W, Calls Tryz.prog gc #[.agg (encTally x).toArray, .agg (encTally y).toArray] W fun e w' => e = .returned (.int .i64 (manyC x y)) ∧ Lays W w') {w : World} {base : Nat} {v : Value} (xs : List Tally) (hsz : xs.length < 20) (h : w.ownsRow base 55 4 v xs.length (xs.flatMap encTally)) :
    Calls Tryz.prog 53 #[v, .func (.func gc) #[] #[]] w fun en w' => en = .returned (.tuple #[]) ∧
      w'.ownsRow base 55 4 v xs.length ((sortT xs).flatMap encTally) ∧ Keeps base w w' := by
  have h0 := h
  rcases h.2 with ⟨rfl, hn⟩ | ⟨g, cap, cur, rfl, hbg, _⟩
  · rw [hn]
    have hx := eq_nil_of hn
    subst hx
    have h1 : sortT [] = [] := List.eq_nil_of_length_eq_zero (sortT_len [])
    refine (w_SortT0 none 0 _ w).mono fun en w' ⟨he, hw⟩ => ?_
    subst hw
    refine ⟨he, ?_, Keeps.nx (Nx.refl _)⟩
    rw [h1]
    exact World.ownsRow_nil _ _ _ _
  · exact (w_SortT gc eg hgc xs rfl hsz h0).mono fun en w' ⟨he, h2, h3⟩ => ⟨he, h2, Keeps.gr h3 hbg⟩
end Go.Proofs.YthlhomcgjgfdhaaGreatDoor
