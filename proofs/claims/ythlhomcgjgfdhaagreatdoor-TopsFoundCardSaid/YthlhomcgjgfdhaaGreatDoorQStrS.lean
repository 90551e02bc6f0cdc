/- The stream's strings; clones. -/
import Derived.Test.YthlhomcgjgfdhaaGreatDoorQG6
import Derived.Laws.Bits64
import Derived.WalkKit
import Derived.IntWalk
import Derived.StillTailTactics
import Derived.Lib.SliceRun
namespace Go.Proofs.YthlhomcgjgfdhaaGreatDoor
open Go.RowKit Go.Sort Go.Proofs Go.Shelf

theorem el_Frac : ElemOf Tryz.prog 41 87 2 16 := ElemOf.mk' (z := .agg #[.int .i64 0, .int .i64 0]) Tryz.underlying41 (by kernel_rfl) rfl
theorem encFrac_len (x : Frac) : (encFrac x).length = 2 := rfl
theorem encFrac_one (x : Frac) : ∀ v ∈ encFrac x, v.oneCell' = true := by
  intro v hv; simp [encFrac] at hv; rcases hv with rfl | rfl <;> rfl
/-- Some steps. -/
def StrTiers (s k : Nat) (w : World) (e : Ending) (w' : World) : Prop :=
  ∃ (A : Option Addr) (c : Nat) (l : List Frac), e = .returned (.slice A l.length c) ∧ l.length ≤ 4 ∧ Rd w' w.heap.size A 2 encFrac l ∧ Gr s w w' ∧ Str w' s k
set_option maxRecDepth 100000 in
set_option maxHeartbeats 4000000 in
theorem w_Tiers (low high : Int) (s k : Nat) (w : World) (hS : Str w s k) (hk : k < 700000) (hlo : 0 ≤ low ∧ low ≤ high ∧ high ≤ 1000000) :
    Calls Tryz.prog 15 #[.pointer (some ⟨s, 0, none⟩), .int .i64 low, .int .i64 high] w (StrTiers s (k + 50) w) := by
  have hsl := hS.lt
  go_enter Tryz.func15, Tryz.ntmps15
  go_wp2_with fail
  refine (w_PickI _ [1, 50, 100] _ _ _ _ (hS.nx ((Nx.refl _).alloc _)) (by omega) (hnew rfl) (by omega) rfl (by simp) (by simp)).mono ?_
  rintro e w1 ⟨num0, hnum0, rfl, hg1, hS1⟩
  have hb0 : 0 ≤ num0 ∧ num0 ≤ 100 := by simp at hnum0; omega
  have hgr1 : Gr s w w1 := ((Gr.refl s w).alloc _).trans hg1
  clear hnum0 hS hg1
  go_wp2_with fail
  refine (w_Next _ _ _ _ hS1 (by omega) (by omega)).mono ?_
  rintro e w2 ⟨r, hr1, hr2, rfl, hg2, hS2⟩
  obtain ⟨q, rfl⟩ := Int.eq_ofNat_of_zero_le hr1
  have hgr2 := hgr1.trans hg2
  clear hS1 hgr1 hg2
  go_wp2_with fail
  go_loopw [7, 8, 9, 17] (fun v nu de i wr => ∃ (n : Nat) (num den : Int) (L : List Frac), n ≤ q ∧ i = .int .i64 n ∧ nu = .int .i64 num ∧ de = .int .i64 den ∧ (0 ≤ num ∧ num ≤ 100 + 100 * n) ∧ (0 ≤ den ∧ den ≤ 1000000) ∧ L.length = n ∧ wr.ownsRow w.heap.size 87 2 v L.length (L.flatMap encFrac) ∧ Gr s w wr ∧ Str wr s (k + 2 + 2 * n)) (fun _ _ _ i _ => q - (intOf i).toNat)
  case atStart => exact ⟨0, num0, low, [], Nat.zero_le _, rfl, rfl, rfl, by omega, by omega, rfl, World.ownsRow_nil _ _ _ _, hgr2, hS2⟩
  case round =>
    clear hgr2 hS2
    obtain ⟨n, num, den, L, hn, rfl, rfl, rfl, hnb, hdb, hL, hown, hgr, hSr⟩ := hrel
    have HL := hide hL
    have hsz := hgr.sz
    clear hL
    by_cases hlt : n < q
    · go_wp2_with fail
      refine (w_PickI _ [0, 10, 25] _ _ _ _ (hSr.nx ((Nx.refl _).alloc _)) (by omega) (hnew rfl) (by omega) rfl (by simp) (by simp)).mono ?_
      rintro e w3 ⟨x, hx, rfl, hg3, hS3⟩
      have hxb : 0 ≤ x ∧ x ≤ 25 := by simp at hx; omega
      have hown3 := own_gr (hown.alloc (.cells #[.int .i64 0, .int .i64 10, .int .i64 25] 3)) hg3 hsl
      have hgr3 := (hgr.alloc _).trans hg3
      have hsz3 := hgr3.sz
      clear hx hown hgr hSr
      have hmin : 0 ≤ min (den + x) high ∧ min (den + x) high ≤ 1000000 := by omega
      have HLB := hide (show L.length ≤ 10000000 by have := HL.out; omega)
      go_wp2_with (at_builtin; refine wpApp rfl _ _ _ rfl el_Frac encFrac encFrac_len encFrac_one (by omega) (by omega) w.heap.size _ L rfl (hown3.alloc _) _ ⟨num, (min (den + x) high)⟩ _ rfl (hnew rfl) rfl HLB.out (by simp; omega) ?_; intro v4 w4 hown4 hg4)
      have hgr4 := (hgr3.alloc (.cells #[.int .i64 num, .int .i64 (min (den + x) high)] 87)).grown hg4 (fun j hj => .inr (own_blk_lt hown3 j hj))
      have hS4 := (hS3.nx ((Nx.refl _).alloc (.cells #[.int .i64 num, .int .i64 (min (den + x) high)] 87))).row hg4 (fun j hj => by have := own_blk_lt hown3 j hj; omega)
      have hsz4 := hgr4.sz
      go_wp2_with fail
      refine (w_PickI _ [1, 50, 100] _ _ _ _ (hS4.nx ((Nx.refl _).alloc _)) (by omega) (hnew rfl) (by omega) rfl (by simp) (by simp)).mono ?_
      rintro e w5 ⟨y, hy, rfl, hg5, hS5⟩
      have hyb : 0 ≤ y ∧ y ≤ 100 := by simp at hy; omega
      have hown5 := own_gr (hown4.alloc (.cells #[.int .i64 1, .int .i64 50, .int .i64 100] 3)) hg5 hsl
      have hgr5 := (hgr4.alloc _).trans hg5
      go_wp2_with fail
      go_roundw
      case rel => exact ⟨n + 1, num + y, (min (den + x) high), L ++ [⟨num, (min (den + x) high)⟩], by omega, by go_num, rfl, rfl, by omega, by omega, by rw [List.length_append, HL.out]; rfl, hown5, hgr5, hS5.more (by omega)⟩
      case measure => simp [intOf]; omega
    · have en : n = q := by omega
      subst en
      clear hlt
      by_cases hL0 : 0 < L.length
      · rcases hown.2 with ⟨rfl, h0⟩ | ⟨g, cap, cur, rfl, hgg, _⟩
        · omega
        have T0 : decide ((0 : Int) < (L.length : Int)) = true := decide_eq_true (by omega)
        have hL4 : L.length ≤ 4 := by have := HL.out; omega
        go_wp2_with fail
        refine (w_Flip _ _ _ _ hSr (by omega) (by omega)).mono ?_
        rintro e w2 ⟨fl, rfl, hg2, hS2⟩
        have hown2 := own_gr hown hg2 hsl
        have hgr2 := hgr.trans hg2
        clear hown hgr hSr hg2
        cases fl
        · go_wp2_with fail
          go_ret
          obtain ⟨A, c, ev, hR, _⟩ := Rd.of_own encFrac_len rfl hown2
          exact ⟨A, c, L, congrArg Ending.returned ev, hL4, hR, hgr2, hS2.more (by omega)⟩
        · go_wp2_with fail
          refine (w_Next _ _ _ _ hS2 (by omega) (by omega)).mono ?_
          rintro e w3 ⟨r, hr3, hr4, rfl, hg3, hS3⟩
          obtain ⟨j, rfl⟩ := Int.eq_ofNat_of_zero_le hr3
          have hj : j < L.length := by omega
          have hown3 := own_gr hown2 hg3 hsl
          have hgr3 := hgr2.trans hg3
          go_wp2_with fail
          refine (w_Odd _ _ _ _ _ hS3 (by omega) (by omega) (by omega)).mono ?_
          rintro e w4 ⟨r4, hr41, hr42, rfl, hg4, hS4⟩
          have hown4 := own_gr hown3 hg4 hsl
          have hgr4 := hgr3.trans hg4
          go_wp2_with fail
          refine (w_Odd _ _ _ _ _ hS4 (by omega) (by omega) (by omega)).mono ?_
          rintro e w5 ⟨r5, hr51, hr52, rfl, hg5, hS5⟩
          have hown5 := own_gr hown4 hg5 hsl
          have hgr5 := hgr4.trans hg5
          have e0 : w5.cell? ⟨g, j * 2, none⟩ = some (.int .i64 L[j].num) := own_cell encFrac_len rfl hown5 j hj 0 _ rfl
          have e1 : w5.cell? ⟨g, j * 2 + 1, none⟩ = some (.int .i64 L[j].den) := own_cell encFrac_len rfl hown5 j hj 1 _ rfl
          have f0 : w5.frozen? ⟨g, j * 2, none⟩ = false := hown5.frozenAt _
          have f1 : w5.frozen? ⟨g, j * 2 + 1, none⟩ = false := hown5.frozenAt _
          go_wp2
          go_ret
          have hown6 := own_set encFrac_len rfl hown5 j hj 0 (by omega) (.int .i64 r4) ⟨r4, L[j].den⟩ rfl (j * 2) (by omega)
          have hown7 := own_set encFrac_len (by simp) hown6 j (by simpa using hj) 1 (by omega) (.int .i64 r5) ⟨r4, r5⟩ (by simp [encFrac]) (j * 2 + 1) (by omega)
          obtain ⟨A, c, ev, hR, _⟩ := Rd.of_own encFrac_len (by simp) hown7
          refine ⟨A, c, _, ?_, ?_, hR, ?_, ?_⟩
          · exact congrArg Ending.returned ev
          · simp; omega
          · exact (hgr5.setS (.inr hgg) _).setS (.inr hgg) _
          · exact ((hS5.row ((Gr.refl g _).setS (.inl rfl) _) (fun j hj => by injection hj with hj; omega)).row ((Gr.refl g _).setS (.inl rfl) _) (fun j hj => by injection hj with hj; omega)).more (by omega)
      · have hLe : L = [] := List.eq_nil_of_length_eq_zero (by omega)
        subst hLe
        rcases hown.2 with ⟨rfl, h0⟩ | ⟨g, cap, cur, rfl, hg, _⟩
        all_goals
          go_wp2
          go_ret
          obtain ⟨A, c, ev, hR, _⟩ := Rd.of_own encFrac_len rfl hown
          exact ⟨A, c, [], congrArg Ending.returned ev, by simp, hR, hgr, hSr.more (by omega)⟩
end Go.Proofs.YthlhomcgjgfdhaaGreatDoor
