/- strings.Compare. -/
import Derived.Test.YtfnbmcinbmbehaaGreatDoorQG4
import Derived.Test.YtfnbmcinbmbehaaGreatDoorQG0
import Derived.Test.YtfnbmcinbmbehaaGreatDoorQShelfC
import Derived.Shelf.Small.Strs
import Derived.Test.YtfnbmcinbmbehaaGreatDoorQG5
import Derived.Shelf.SlSortCmp.NoneTotal
import Derived.Test.YtfnbmcinbmbehaaGreatDoorQG11
import Derived.Test.YtfnbmcinbmbehaaGreatDoorQShelfD
import Derived.StillTailTactics
import Derived.StillTail
import Derived.Test.YtfnbmcinbmbehaaGreatDoorQG7
import Derived.Test.YtfnbmcinbmbehaaGreatDoorQG9
import Derived.Laws.CopyOwn
import Derived.Deep.DeepCutAuto
namespace Go.Proofs.YtfnbmcinbmbehaaGreatDoor
open Go.RowKit Go.Shelf Go.Proofs

theorem w_CompareS (a b : ByteArray) (w : World) : Calls Tryz.prog 50 #[.string a, .string b] w fun e w' => e = .returned (.int .i64 (cmpS a b)) ∧ w = w' :=
  (Any.strings_Compare Tryz.compareStr a b w).mono fun _ _ ⟨h1, h2⟩ => ⟨h1, h2.symm⟩
end Go.Proofs.YtfnbmcinbmbehaaGreatDoor
/- slices.SortFunc over a row of the call's own, elements of K cells: what the row holds behind it. Of no program. -/
namespace Go.Proofs.YtfnbmcinbmbehaaGreatDoor
open Go.RowKit Go.Sort Go.Proofs Go.Shelf

/-- slices.SortFunc, a comparison that parts whatever two that are not one: the sorted list. -/
theorem sortFunc {α : Type} [Inhabited α] {P : Program} {ρ : Ren} (L : SlLaysF0.n6 P ρ) (K : Nat) (hK : 0 < K) (aE : ∀ w, (isAgg (ρ.t 24)).run P w = .ok true w) (zE : ∀ w, (Go.sizeOf (ρ.t 24)).run P w = .ok K w) (enc : α → List Value) (hk : ∀ x, (enc x).length = K) (h1 : ∀ x, ∀ v ∈ enc x, v.oneCell' = true)
    (cf : α → α → Int) (hO : SWO (ltOf cf)) (g : Nat) (eg : ∀ args w, (callFunc g args).run P w = .ok (.enter g args) w)
    (hcmp : ∀ x y W, Calls P g #[.agg (enc x).toArray, .agg (enc y).toArray] W fun e w' => e = .returned (.int .i64 (cf x y)) ∧ Lays W w')
    {w : World} {base b cap n : Nat} {e : TypeId} {xs : List α} (hn : xs.length = n) (hsz : n < 4611686018427387904) (h : w.ownsRow base e K (.slice (some ⟨b, 0, none⟩) n cap) n (xs.flatMap enc)) :
    Calls P (ρ.f 6) #[.slice (some ⟨b, 0, none⟩) n cap, .func (.func g) #[] #[]] w fun en w' => en = .returned (.tuple #[]) ∧
      ∃ ys : List α, ys.Perm xs ∧ (∀ i j (hi : i < j) (hj : j < ys.length), ltOf cf ys[j] (ys[i]'(by omega)) = false) ∧ w'.ownsRow base e K (.slice (some ⟨b, 0, none⟩) n cap) n (ys.flatMap enc) ∧ Gr b w w' := by
  have hlt := (h.lt b rfl)
  have hH := holds_of_own hk hK hn h
  have hc : CmpLays P g #[] enc K cf b 0 xs.toArray.size w := fun m os dk _ x y => by
    rw [Array.append_empty]
    exact hcmp x y _
  have hs := AnyQ.slices_SortFunc L K aE zE enc hk h1 cf hO g #[] b 0 cap xs.toArray w eg hc hH hlt.2 (by simpa [hn] using hsz)
  have e1 : xs.toArray.size = n := by simpa using hn
  rw [e1] at hs
  refine hs.mono fun en w' ⟨he, d', m, os, hp, hso, hw⟩ => ⟨he, d'.toList, ?_, ?_, ?_⟩
  · have h3 := hp.2.2
    have h4 := hp.1
    rw [e1] at h4
    have e2 : d'.extract 0 n = d' := by rw [← h4]; simp
    have e3 : xs.toArray.extract 0 n = xs.toArray := by rw [← e1]; simp
    rw [e2, e3] at h3
    simpa using h3
  · intro i j hi hj
    have hj' : j < d'.size := by simpa using hj
    have h4 := hp.1
    rw [e1] at h4
    have := hso i j (Nat.zero_le _) hi (by omega)
    rw [getElem!_pos d' j hj', getElem!_pos d' i (by omega)] at this
    simpa using this
  · have h4 := hp.1
    rw [e1] at h4
    have := own_of_sorted hk hK h d'.toList (by simpa using h4) m os
    rw [hw]
    simpa using this
end Go.Proofs.YtfnbmcinbmbehaaGreatDoor
/- Sums by key, listed: the program's list and the reference's. -/
namespace Go.Proofs.YtfnbmcinbmbehaaGreatDoor
open Go.RowKit Go.Sort Go.Shelf Go.Maps Go.Proofs

theorem w_byDue1 (x y : Due) (W : World) : Calls Tryz.prog 49 #[.agg (encDue x).toArray, .agg (encDue y).toArray] W fun e w' => e = .returned (.int .i64 (dueC x y)) ∧ Lays W w' := by
  have h : Calls Tryz.prog 49 #[.agg #[.string x.key, .int .i64 x.cents], .agg #[.string y.key, .int .i64 y.cents]] W fun e w' => e = .returned (.int .i64 (dueC x y)) ∧ Lays W w' := by
    go_enter Tryz.func49, Tryz.ntmps49
    go_wp2_with (go_at_call 50; refine (w_CompareS _ _ _).mono ?_; rintro e w' ⟨rfl, rfl⟩)
    go_ret
    exact ⟨rfl, ((Lays.refl _).alloc _).alloc _⟩
  exact h

set_option maxRecDepth 100000 in
set_option maxHeartbeats 2000000 in
theorem w_duesP (b n : Nat) (f : ByteArray → Option Int) (w : World) (hm : MpK w b n f) (hn : n ≤ 65536) :
    Calls Tryz.prog 27 #[.map (some b)] w (DuesR f true w) := by
  obtain ⟨D, hown, hM⟩ := hm
  have hbl := hown.lt
  have hsz : Maps.size D ≤ n := by
    obtain ⟨es, clock, _, _, h1, rfl⟩ := hown
    rw [size_eq, length_sorted]; simpa using h1
  have HM := hide hM
  clear hM
  go_enter Tryz.func27, Tryz.ntmps27
  go_wp2_with (first
    | (at_range; refine wpList_range_own _ rfl _ _ rfl 9 3 law_str Tryz.underlying58 _ b n _ rfl hown ?_; intro w0 hrg0 hg0 hs0))
  go_frame
  go_loopw [3, 4, 5] (fun v _ _ wr => ∃ (left : Lit → Bool) (cnt : Nat) (L : List Due), wr.ranges Tryz.prog 9 (plainElem Tryz.prog 3) b w.heap.size n D left cnt ∧ L.length + cnt ≤ n ∧ wr.ownsRow (w.heap.size + 1) 44 2 v L.length (L.flatMap encDue) ∧ CollK f true left L ∧ Nx w wr)
    (fun _ _ _ wr => wr.rangeLeft b w.heap.size)
  case atStart =>
    exact ⟨_, _, [], hrg0, by simpa using hsz, World.ownsRow_nil _ _ _ _, coll_startD HM.out, (Nx.refl _).grown hg0 (fun j hj => by cases hj)⟩
  case round =>
    obtain ⟨left, cnt, L, hrg, hcs, hown1, hC, hnx⟩ := hrel
    go_wp2_with (first
      | (at_next; refine wpList_next_ranges _ rfl _ rfl 9 law_str (plainElem Tryz.prog 3) Value.string (Value.int .i64) (fun key kl hkey => (by obtain ⟨x, rfl, _⟩ := keyS_inv Tryz.underlying9 hkey; exact ⟨x, rfl⟩)) (fun v y hv => (by obtain ⟨c, rfl, _⟩ := plainElem_int_inv Tryz.underlying3 hv; exact ⟨c, rfl⟩)) b w.heap.size n _ _ _ rfl hrg ?_ ?_))
    · intro hc0 hl0
      have HC := hide hC
      clear hC
      rcases hown1.2 with ⟨rfl, h0⟩ | ⟨g, cap, cur, rfl, hg, _⟩
      · have hL : L = [] := List.eq_nil_of_length_eq_zero h0
        subst hL
        have hcon := fun W => AnyF.slices_SortFunc_none (P := Tryz.prog) { Tryz.sortDue with } none 0 (.func (.func 49) #[] #[]) W
        change ∀ W, Calls Tryz.prog 48 _ _ _ at hcon
        go_wp2_with (go_at_call 48; refine (hcon _).mono ?_; rintro e w' ⟨rfl, rfl⟩)
        go_ret
        exact ⟨none, 0, [], rfl, collK_end HC.out hl0 (List.Perm.refl _) (by simp), Rd.nil, by simp, hnx⟩
      · have hcon := sortFunc Tryz.sortDue 2 (by omega) Tryz.isAgg44 Tryz.sizeOf44 encDue encDue_len encDue_one dueC swoDue 49 (enters_of Tryz.func49 (by kernel_rfl) rfl) (fun x y W => w_byDue1 x y W) (base := w.heap.size + 1) (b := g) (cap := cap) (xs := L) rfl (by omega) hown1
        change Calls Tryz.prog 48 _ _ _ at hcon
        go_wp2_with (go_at_call 48; refine hcon.mono ?_; rintro e w' ⟨rfl, ys, hp, hs, ho, hgr⟩)
        go_ret
        have hyl : ys.length = L.length := hp.length_eq
        obtain ⟨A, c, ev, hR, _⟩ := Rd.of_own encDue_len hyl.symm ho
        exact ⟨A, c, ys, congrArg Ending.returned ev, collK_end HC.out hl0 hp hs, hR.low (by omega), by omega, hnx.grown hgr (fun j hj => by injection hj with hj; omega)⟩
    · intro k c kl y ps w1 cnt1 hkey hlk hRv hat hrg1 hlt hg1 hs1 hen
      obtain ⟨k0, ek, hd, rfl⟩ := keyS_inv Tryz.underlying9 hkey
      obtain rfl := strV_inj _ _ ek
      have hfk : f k = some c := by
        obtain ⟨c', e1, e2, _⟩ := plainElem_int_inv Tryz.underlying3 hRv
        injection e1 with _ e1; subst e1
        have e3 := HM.out.at_ k (litS k) hd (keyS_mk Tryz.underlying9 hd)
        cases hf : f k with
        | none =>
          rw [hf] at e3
          have := (e3 (.lit (.bool true))).symm.trans (hat _)
          injection e2 with e2 _
          rw [e2] at this
          injection this with this; cases this
        | some v =>
          rw [hf] at e3
          have := (e3 (.lit (.bool true))).symm.trans (hat _)
          injection e2 with e2 _
          rw [e2] at this
          injection this with this; injection this with _ this; rw [this]
      have HFK := hide hfk
      clear hfk hRv hat
      have hown2 := own_gr hown1 hg1 (by omega)
      have hnx1 : Nx w w1 := hnx.grown hg1 (fun j hj => by injection hj with hj; omega)
      have hsz1 : w.heap.size < w1.heap.size := by
        obtain ⟨_, _, _, _, _, _, _, _, _, h, _⟩ := hrg1
        exact (Array.getElem?_eq_some_iff.1 h).1
      clear hs1
      go_wp2_with (first | (at_builtin; refine wpApp rfl _ _ _ rfl el_Due encDue encDue_len encDue_one (by omega) (by omega) (w.heap.size + 1) _ L rfl (hown2.alloc _) _ ⟨k, c⟩ _ rfl (hnew (by simp)) rfl (by omega) (by simp; omega) ?_; intro v2 w2 hown3 hg2))
      have hrg2 := (hrg1.alloc _).kept hg2 (fun e => by have := own_blk_lt hown2 b e.symm; omega) (fun e => by have := own_blk_lt hown2 _ e.symm; omega)
      go_roundw
      case rel => exact ⟨_, cnt1, _, hrg2, by simp; omega, hown3, collK_step hC HFK.out hlk _ (by rw [if_pos (Or.inr rfl)]), (hnx1.alloc _).grown hg2 (fun j hj => by have := own_blk_lt hown2 j hj; omega)⟩
      case measure => rw [hrg2.left_eq, hrg.left_eq]; exact hlt

end Go.Proofs.YtfnbmcinbmbehaaGreatDoor
/- Legs split by ride: the reference's sums. -/
namespace Go.Proofs.YtfnbmcinbmbehaaGreatDoor
open Go.RowKit Go.Sort Go.Shelf Go.Maps Go.Proofs

theorem small_dom {l : List ByteArray} (h : Small l) (k : Nat) (hk : k < l.length) : domS l[k] := by
  have := h.at k hk
  unfold domS maxLen; omega

end Go.Proofs.YtfnbmcinbmbehaaGreatDoor
/- slices.Repeat of [1]. -/
namespace Go.Proofs.YtfnbmcinbmbehaaGreatDoor
open Go.RowKit Go.Proofs Go.Shelf

theorem w_MulU (x y z : Nat) (w : World) (hx : x ≤ 4294967296) (hy : y ≤ 2147483648) (hz : x * y = z) :
    Calls Tryz.prog 47 #[.int .u64 (x : Int), .int .u64 (y : Int)] w fun e w' => e = .returned (.tuple #[.int .u64 0, .int .u64 (z : Int)]) ∧ w = w' := by
  go_enter Tryz.func47, Tryz.ntmps47
  go_wp2_with (go_at_call 40; refine (w_Mul64 x y z _ hx hy hz).mono ?_; rintro e w' ⟨rfl, rfl⟩)
  go_ret2
  exact ⟨rfl, rfl⟩

def rowM (n m : Nat) : List Int := List.replicate m 1 ++ List.replicate (n - m) 0
theorem rowM_len (n m : Nat) (_h : m ≤ n) : (rowM n m).length = n := by unfold rowM; simp; omega
theorem mapI (l : List Int) : l.flatMap encI = l.map (Value.int .i64) := by
  induction l with
  | nil => rfl
  | cons x l ih => rw [List.flatMap_cons, ih]; rfl
theorem rowM_more (n m q : Nat) (_h : m + q ≤ n) : (rowM n m).take m ++ List.replicate q (1 : Int) ++ (rowM n m).drop (m + q) = rowM n (m + q) := by
  have e1 : (rowM n m).take m = List.replicate m 1 := by
    unfold rowM
    rw [List.take_append_of_le_length (by simp)]; simp
  have e2 : (rowM n m).drop (m + q) = List.replicate (n - (m + q)) 0 := by
    unfold rowM
    rw [List.drop_append]
    simp
    omega
  rw [e1, e2, List.replicate_append_replicate]
  rfl

set_option maxRecDepth 100000 in
set_option maxHeartbeats 2000000 in
theorem w_RepeatOne (n gl : Nat) (w : World) (hn : 1 ≤ n) (hn2 : n ≤ 100) (hg : w.heap[gl]? = some (.cells #[.int .i64 1] 3 (0, 0))) :
    Calls Tryz.prog 26 #[.slice (some ⟨gl, 0, none⟩) 1 1, .int .i64 (n : Int)] w fun e w' => ∃ g, e = .returned (.slice (some ⟨g, 0, none⟩) n n) ∧ Rd w' w.heap.size (some ⟨g, 0, none⟩) 1 encI (List.replicate n 1) ∧ Nx w w' := by
  have hgl : gl < w.heap.size := (Array.getElem?_eq_some_iff.1 hg).1
  have hmk := fun w => run_make_ints n (by omega) w
  obtain ⟨Z, hZ⟩ : ∃ Z : Array Value, madeCells #[.int .i64 0] n = Z := ⟨_, rfl⟩
  have hZl := made_ints n
  rw [hZ] at hmk hZl
  have hs1 : (Tryz.prog.info? 3).map (·.size) = some 1 := by kernel_rfl
  have t1 : decide ((n : Int) < 0) = false := decide_eq_false (by omega)
  have t2 : IntKind.u64.wrap (n : Int) = (n : Int) := by rw [IntKind.wrap_u64]; omega
  have t3 : IntKind.i64.wrap (n : Int) = (n : Int) := IntWalk.i64_in _ (by omega)
  have t4 : decide ((n : Int) > 9223372036854775807) = false := decide_eq_false (by omega)
  have t5 : ¬ (9223372036854775807 : Int) < (n : Int) := by omega
  have hl0 : Z.toList = (rowM n 0).map (Value.int .i64) := by rw [hZl, mapI]; simp [rowM]
  have hcp : ∀ ty, (Builtin.copy_ #[22, 22] ty #[.slice (some ⟨w.heap.size, 0, none⟩) n n, .slice (some ⟨gl, 0, none⟩) 1 1]).run Tryz.prog (w.alloc (.cells Z 3)) = .ok (goInt 1) ((w.alloc (.cells Z 3)).setRow w.heap.size ((rowM n 1).map (Value.int .i64)).toArray) := by
    intro ty
    have h := run_copy_row (P := Tryz.prog) (w.alloc (.cells Z 3)) 22 22 ty 3 w.heap.size 0 n n ⟨gl, 0, none⟩ 1 1 Z 3 [.int .i64 1] Tryz.underlying22 hs1 (hnew rfl) (by show 1 = min 1 n; omega) (fun j v hj => by
      rcases j with _ | j
      · simp at hj; subst hj
        exact cell_of_row _ gl 0 _ _ _ ((((Nx.refl w).alloc _).block gl hgl).trans hg)
      · simp at hj) (by rw [← Array.length_toList, hl0]; simp [rowM_len n 0 (by omega)]; omega) (by intro v hv; simp at hv; subst hv; rfl)
    rw [h]
    congr 2
    have := rowM_more n 0 1 (by omega)
    rw [Nat.zero_add] at this
    rw [hl0, ← this]
    simp
  go_enter Tryz.func26, Tryz.ntmps26
  go_wp2_with (go_at_call 47; refine (w_MulU 1 n n _ (by omega) (by omega) (by omega)).mono ?_; rintro e w' ⟨rfl, rfl⟩)
  have hrow1 : ((w.alloc (.cells Z 3)).setRow w.heap.size ((rowM n 1).map (Value.int .i64)).toArray).heap[w.heap.size]? = some (.cells ((rowM n 1).map (Value.int .i64)).toArray 3 (0, 0)) := setRow_heap _ _ _ _ _ _ (hnew rfl)
  have hnx1 : Nx w ((w.alloc (.cells Z 3)).setRow w.heap.size ((rowM n 1).map (Value.int .i64)).toArray) := by
    have h0 := (Nx.refl w).alloc (.cells Z 3)
    refine ⟨h0.os, h0.tape, h0.output, by simp [World.setRow], fun i hi => ?_⟩
    rw [← h0.block i hi]
    simp only [World.setRow]
    rw [Array.getElem?_modify, if_neg (by omega)]
  have HST := hide (And.intro hrow1 hnx1)
  clear hrow1 hnx1 hcp hmk hZ hZl hl0
  go_loopw [8] (fun u wr => ∃ m : Nat, 1 ≤ m ∧ m ≤ n ∧ u = .int .i64 m ∧ wr.heap[w.heap.size]? = some (.cells ((rowM n m).map (Value.int .i64)).toArray 3 (0, 0)) ∧ Nx w wr) (fun u _ => n - (intOf u).toNat)
  case atStart => exact ⟨1, by omega, hn, rfl, HST.out.1, HST.out.2⟩
  case round =>
    clear HST
    obtain ⟨m, hm1, hmn, rfl, hrow, hnx⟩ := hrel
    by_cases hlt : m < n
    · have q1 : (m : Int) ≤ (n : Int) := by omega
      have q2 : (0 : Int) ≤ (m : Int) := by omega
      obtain ⟨q, hq⟩ : ∃ q, q = min m (n - m) := ⟨_, rfl⟩
      have hq1 : 1 ≤ q ∧ m + q ≤ n := by omega
      have q3 : IntKind.i64.wrap ((m : Int) + (q : Int)) = (m : Int) + (q : Int) := IntWalk.i64_in _ (by omega)
      obtain ⟨C, hC⟩ : ∃ C : List Value, (rowM n m).map (Value.int .i64) = C := ⟨_, rfl⟩
      obtain ⟨cs, hcs⟩ : ∃ cs : List Value, List.replicate q (Value.int .i64 1) = cs := ⟨_, rfl⟩
      have hcl : cs.length = q := by rw [← hcs, List.length_replicate]
      have hCl : C.length = n := by rw [← hC, List.length_map, rowM_len n m hmn]
      have HSRC := hide (show ∀ j v, cs[j]? = some v → wr.cell? ((⟨w.heap.size, 0, none⟩ : Addr).add j) = some v from by
        intro j v hj
        have hjq : j < q := by have := (List.getElem?_eq_some_iff.1 hj).1; omega
        have e1 : (⟨w.heap.size, 0, none⟩ : Addr).add j = ⟨w.heap.size, j, none⟩ := by unfold Addr.add; split <;> simp_all
        rw [e1, cell_of_row _ _ j _ _ _ hrow, ← Array.getElem?_toList]
        rw [← hcs, List.getElem?_replicate, if_pos hjq] at hj
        rw [← hj]
        unfold rowM
        rw [List.map_append, List.getElem?_append_left (by simp; omega), List.getElem?_map, List.getElem?_replicate, if_pos (by omega)]; rfl)
      have H1 := hide (show ∀ v ∈ cs, v.oneCell' = true from by
        intro v hv; rw [← hcs] at hv; obtain ⟨_, rfl⟩ := List.mem_replicate.1 hv; rfl)
      have HSP := hide (show splice C m cs = (rowM n (m + q)).map (Value.int .i64) from by
        unfold splice
        rw [← rowM_more n m q hq1.2, hcl, ← hC, ← hcs]
        simp)
      rw [hC] at hrow
      have HROW := hide hrow
      have HN := hide hnx
      have HCL := hide (And.intro hcl (And.intro hCl hq))
      clear hC hcs hcl hCl hq hrow hnx
      go_wp2_with fail
      go_region_law (refine step_copy_splice rfl (.tmp 41) (.tmp 44) 22 22 rfl 3 Tryz.underlying22 hs1 (some ⟨w.heap.size, m, none⟩) (some ⟨w.heap.size, 0, none⟩) (n - m) (n - m) m n (by simp [Act.eval, Act.put]; omega) (by simp [Act.eval, Act.put]) w.heap.size m C 3 HROW.out cs (by rw [HCL.out.1, HCL.out.2.2]) (fun _ => ⟨rfl, _, rfl, HSRC.out⟩) (by rw [HCL.out.1, HCL.out.2.1]; exact hq1.2) H1.out w.heap.size w (HN.out.drew) (Nat.le_refl _) ?_; intro w4 hg4 hb4; rw [HCL.out.1])
      have hl4 := hg4.out
      rw [HSP.out] at hl4
      have HL4 := hide hl4
      clear hg4 hl4
      go_wp2_with fail
      go_roundw
      case rel => exact ⟨m + q, by omega, hq1.2, by go_num, HL4.out, hb4⟩
      case measure => simp [intOf]; omega
    · have em : m = n := by omega
      subst em
      go_wp2_with fail
      go_ret
      refine ⟨w.heap.size, rfl, ?_, hnx⟩
      exact Rd.lit hrow (Nat.le_refl _) (fun _ => rfl) (by rw [mapI]; simp [rowM])
end Go.Proofs.YtfnbmcinbmbehaaGreatDoor
