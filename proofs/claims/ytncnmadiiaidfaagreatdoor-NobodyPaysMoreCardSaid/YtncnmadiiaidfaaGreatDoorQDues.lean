/- Sums by key, listed: the program's list and the reference's. -/
import Derived.Test.YtncnmadiiaidfaaGreatDoorQG24
import Derived.Test.YtncnmadiiaidfaaGreatDoorQShelfD
import Derived.Test.YtncnmadiiaidfaaGreatDoorQG14
import Derived.Shelf.Small.Strs
namespace Go.Proofs.YtncnmadiiaidfaaGreatDoor
open Go.RowKit Go.Sort Go.Shelf Go.Maps Go.Proofs

theorem w_byDue1 (x y : Due) (W : World) : Calls Tryz.prog 76 #[.agg (encDue x).toArray, .agg (encDue y).toArray] W fun e w' => e = .returned (.int .i64 (dueC x y)) ∧ Lays W w' := by
  have h : Calls Tryz.prog 76 #[.agg #[.string x.key, .int .i64 x.cents], .agg #[.string y.key, .int .i64 y.cents]] W fun e w' => e = .returned (.int .i64 (dueC x y)) ∧ Lays W w' := by
    go_enter Tryz.func76, Tryz.ntmps76
    go_wp2_with (go_at_call 61; refine (w_CompareS _ _ _).mono ?_; rintro e w' ⟨rfl, rfl⟩)
    go_ret
    exact ⟨rfl, ((Lays.refl _).alloc _).alloc _⟩
  exact h

set_option maxRecDepth 100000 in
set_option maxHeartbeats 2000000 in
theorem w_duesP (b n : Nat) (f : ByteArray → Option Int) (w : World) (hm : MpK w b n f) (hn : n ≤ 65536) :
    Calls Tryz.prog 41 #[.map (some b)] w (DuesR f true w) := by
  obtain ⟨D, hown, hM⟩ := hm
  have hbl := hown.lt
  have hsz : Maps.size D ≤ n := by
    obtain ⟨es, clock, _, _, h1, rfl⟩ := hown
    rw [size_eq, length_sorted]; simpa using h1
  have HM := hide hM
  clear hM
  go_enter Tryz.func41, Tryz.ntmps41
  go_wp2_with (first
    | (at_range; refine wpList_range_own _ rfl _ _ rfl 9 3 law_str Tryz.underlying101 _ b n _ rfl hown ?_; intro w0 hrg0 hg0 hs0))
  go_frame
  go_loopw [3, 4, 5] (fun v _ _ wr => ∃ (left : Lit → Bool) (cnt : Nat) (L : List Due), wr.ranges Tryz.prog 9 (plainElem Tryz.prog 3) b w.heap.size n D left cnt ∧ L.length + cnt ≤ n ∧ wr.ownsRow (w.heap.size + 1) 47 2 v L.length (L.flatMap encDue) ∧ CollK f true left L ∧ Nx w wr)
    (fun _ _ _ wr => wr.rangeLeft b w.heap.size)
  case atStart =>
    exact ⟨_, _, [], hrg0, by simpa using hsz, World.ownsRow_nil _ _ _ _, coll_startD HM.out, (Nx.refl _).grown hg0 (fun j hj => by cases hj)⟩
  case round =>
    obtain ⟨left, cnt, L, hrg, hcs, hown1, hC, hnx⟩ := hrel
    go_wp2_with (first
      | (at_next; refine wpList_next_ranges _ rfl _ rfl 9 law_str (plainElem Tryz.prog 3) Value.string (Value.int .i64) (fun key kl hkey => (by obtain ⟨x, rfl, _⟩ := keyS_inv Tryz.underlying9 hkey; exact ⟨x, rfl⟩)) (fun v y hv => (by obtain ⟨c, rfl, _⟩ := plainElem_int_inv Tryz.underlying3 hv; exact ⟨c, rfl⟩)) b w.heap.size n _ _ _ rfl hrg ?_ ?_))
    · intro hc0 hl0
      have HC := hide hC
      clear hC
      rcases hown1.2 with ⟨rfl, h0⟩ | ⟨g, cap, cur, rfl, hg, _⟩
      · have hL : L = [] := List.eq_nil_of_length_eq_zero h0
        subst hL
        have hcon := fun W => AnyF.slices_SortFunc_none (P := Tryz.prog) { Tryz.sortDue with } none 0 (.func (.func 76) #[] #[]) W
        change ∀ W, Calls Tryz.prog 75 _ _ _ at hcon
        go_wp2_with (go_at_call 75; refine (hcon _).mono ?_; rintro e w' ⟨rfl, rfl⟩)
        go_ret
        exact ⟨none, 0, [], rfl, collK_end HC.out hl0 (List.Perm.refl _) (by simp), Rd.nil, by simp, hnx⟩
      · have hcon := sortFunc Tryz.sortDue 2 (by omega) Tryz.isAgg47 Tryz.sizeOf47 encDue encDue_len encDue_one dueC swoDue 76 (enters_of Tryz.func76 (by kernel_rfl) rfl) (fun x y W => w_byDue1 x y W) (base := w.heap.size + 1) (b := g) (cap := cap) (xs := L) rfl (by omega) hown1
        change Calls Tryz.prog 75 _ _ _ at hcon
        go_wp2_with (go_at_call 75; refine hcon.mono ?_; rintro e w' ⟨rfl, ys, hp, hs, ho, hgr⟩)
        go_ret
        have hyl : ys.length = L.length := hp.length_eq
        obtain ⟨A, c, ev, hR, _⟩ := Rd.of_own encDue_len hyl.symm ho
        exact ⟨A, c, ys, congrArg Ending.returned ev, collK_end HC.out hl0 hp hs, hR.low (by omega), by omega, hnx.grown hgr (fun j hj => by injection hj with hj; omega)⟩
    · intro k c kl y ps w1 cnt1 hkey hlk hRv hat hrg1 hlt hg1 hs1 hen
      obtain ⟨k0, ek, hd, rfl⟩ := keyS_inv Tryz.underlying9 hkey
      obtain rfl := strV_inj _ _ ek
      have hfk : f k = some c := by
        obtain ⟨c', e1, e2, _⟩ := plainElem_int_inv Tryz.underlying3 hRv
        injection e1 with _ e1; subst e1
        have e3 := HM.out.at_ k (litS k) hd (keyS_mk Tryz.underlying9 hd)
        cases hf : f k with
        | none =>
          rw [hf] at e3
          have := (e3 (.lit (.bool true))).symm.trans (hat _)
          injection e2 with e2 _
          rw [e2] at this
          injection this with this; cases this
        | some v =>
          rw [hf] at e3
          have := (e3 (.lit (.bool true))).symm.trans (hat _)
          injection e2 with e2 _
          rw [e2] at this
          injection this with this; injection this with _ this; rw [this]
      have HFK := hide hfk
      clear hfk hRv hat
      have hown2 := own_gr hown1 hg1 (by omega)
      have hnx1 : Nx w w1 := hnx.grown hg1 (fun j hj => by injection hj with hj; omega)
      have hsz1 : w.heap.size < w1.heap.size := by
        obtain ⟨_, _, _, _, _, _, _, _, _, h, _⟩ := hrg1
        exact (Array.getElem?_eq_some_iff.1 h).1
      clear hs1
      go_wp2_with (first | (at_builtin; refine wpApp rfl _ _ _ rfl el_Due encDue encDue_len encDue_one (by omega) (by omega) (w.heap.size + 1) _ L rfl (hown2.alloc _) _ ⟨k, c⟩ _ rfl (hnew (by simp)) rfl (by omega) (by simp; omega) ?_; intro v2 w2 hown3 hg2))
      have hrg2 := (hrg1.alloc _).kept hg2 (fun e => by have := own_blk_lt hown2 b e.symm; omega) (fun e => by have := own_blk_lt hown2 _ e.symm; omega)
      go_roundw
      case rel => exact ⟨_, cnt1, _, hrg2, by simp; omega, hown3, collK_step hC HFK.out hlk _ (by rw [if_pos (Or.inr rfl)]), (hnx1.alloc _).grown hg2 (fun j hj => by have := own_blk_lt hown2 j hj; omega)⟩
      case measure => rw [hrg2.left_eq, hrg.left_eq]; exact hlt

end Go.Proofs.YtncnmadiiaidfaaGreatDoor
