/- The stream's calls for rides. -/
import Derived.Test.YtfnbmcinbmbehaaGreatQG0
import Derived.Test.YtfnbmcinbmbehaaGreatQSeq
namespace Go.Proofs.YtfnbmcinbmbehaaGreat
open Go.RowKit

theorem el_Call : ElemOf Tryz.prog 36 71 3 24 := ElemOf.mk' (z := .agg #[.int .i64 0, .int .i64 0, .int .i64 0]) Tryz.underlying36 (by kernel_rfl) rfl
theorem encCall_len (x : Call) : (encCall x).length = 3 := rfl
theorem encCall_one (x : Call) : ∀ v ∈ encCall x, v.oneCell' = true := by
  intro v hv; simp [encCall] at hv; rcases hv with rfl | rfl | rfl <;> rfl

/-- Some calls. -/
def StrCalls (s k : Nat) (w : World) (e : Ending) (w' : World) : Prop :=
  ∃ (A : Option Addr) (c : Nat) (l : List Call), e = .returned (.slice A l.length c) ∧ l.length ≤ 12 ∧ Rd w' w.heap.size A 3 encCall l ∧ Gr s w w' ∧ Str w' s k ∧ l.length ≤ c
theorem own_cap {w : World} {base e K m n c : Nat} {A : Option Addr} {xs : List Value} (h : w.ownsRow base e K (.slice A m c) n xs) : m ≤ c := by
  rcases h.2 with ⟨hv, h0⟩ | ⟨g, cap, cur, hv, _, _, hnc, _⟩
  · injection hv with _ h2 h3; omega
  · injection hv with _ h2 h3; omega

set_option maxRecDepth 100000 in
set_option maxHeartbeats 2000000 in
theorem w_Calls (many : Int) (s k : Nat) (w : World) (hS : Str w s k) (hk : k < 800000) (hm : 0 ≤ many ∧ many ≤ 12) :
    Calls Tryz.prog 8 #[.pointer (some ⟨s, 0, none⟩), .int .i64 many] w (StrCalls s (k + 100) w) := by
  have hsl := hS.lt
  go_enter Tryz.func8, Tryz.ntmps8
  go_wp2_with (go_at_call 5; refine (w_PickI _ [0, 100, 518400000] _ _ _ _ (hS.nx ((Nx.refl _).alloc _)) (by omega) (hnew rfl) (by omega) rfl (by simp) (by simp)).mono ?_; rintro e w1 ⟨r1, hr1, rfl, hg1, hS1⟩)
  go_loopw [5, 6, 12] (fun v a i wr => ∃ (n : Nat) (at_ : Int) (L : List Call), (n : Int) ≤ many ∧ i = .int .i64 n ∧ a = .int .i64 at_ ∧ L.length = n ∧ wr.ownsRow w.heap.size 71 3 v L.length (L.flatMap encCall) ∧ Gr s w wr ∧ Str wr s (k + 1 + 3 * n)) (fun _ _ i _ => (many - intOf i).toNat)
  case atStart => exact ⟨0, r1, [], by omega, rfl, rfl, rfl, World.ownsRow_nil _ _ _ _, (Gr.refl _ _).alloc _ |>.trans hg1, hS1⟩
  case round =>
    obtain ⟨n, at_, L, hn, rfl, rfl, hL, hown, hgr, hSr⟩ := hrel
    have HL := hide hL
    clear hL
    have hsz := hgr.sz
    by_cases hlt : (n : Int) < many
    · go_wp2_with fail
      refine (w_PickI _ [0, 5, 99, 100, -1, -100, 250] _ _ _ _ (hSr.nx ((Nx.refl _).alloc _)) (by omega) (hnew rfl) (by omega) rfl (by simp) (by simp)).mono ?_
      rintro e w2 ⟨r2, hr2, rfl, hg2, hS2⟩
      have hsz2 := hg2.sz
      have hown2 := own_gr ((hown.alloc (.cells #[.int .i64 0, .int .i64 5, .int .i64 99, .int .i64 100, .int .i64 (-1), .int .i64 (-100), .int .i64 250] 3))) hg2 hsl
      have hgr2 := (hgr.alloc _).trans hg2
      clear hown
      go_wp2_with fail
      refine (w_PickI _ [0, 50, -1, 100] _ _ _ _ (hS2.nx ((Nx.refl _).alloc _)) (by omega) (hnew rfl) (by have := hS2.lt; omega) rfl (by simp) (by simp)).mono ?_
      rintro e w3 ⟨r3, hr3, rfl, hg3, hS3⟩
      have hsz3 := hg3.sz
      have hown3 := own_gr ((hown2.alloc (.cells #[.int .i64 0, .int .i64 50, .int .i64 (-1), .int .i64 100] 3))) hg3 hsl
      have hgr3 := (hgr2.alloc _).trans hg3
      clear hown2
      have HL3 := hide (show (L ++ [(⟨at_, r2, r3⟩ : Call)]).length = n + 1 by rw [List.length_append, HL.out]; rfl)
      simp at hsz2 hsz3
      go_wp2_with (at_builtin; refine wpApp rfl _ _ _ rfl el_Call encCall encCall_len encCall_one (by omega) (by omega) w.heap.size _ L rfl (hown3.alloc _) _ ⟨at_, r2, r3⟩ _ rfl (hnew rfl) rfl (by have := HL.out; omega) (by simp; omega) ?_; intro v4 w4 hown4 hg4)
      have hgr4 := (hgr3.alloc _).grown hg4 (fun j hj => .inr (own_blk_lt hown3 j hj))
      have hS4 := (hS3.nx ((Nx.refl _).alloc _)).row hg4 (fun j hj => by have := own_blk_lt hown3 j hj; omega)
      go_wp2_with fail
      refine (w_PickI _ [0, 1, 3600000, 1800000, 604800000] _ _ _ _ (hS4.nx ((Nx.refl _).alloc _)) (by omega) (hnew rfl) (by have := hS4.lt; omega) rfl (by simp) (by simp)).mono ?_
      rintro e w5 ⟨r5, hr5, rfl, hg5, hS5⟩
      have hown5 := own_gr ((hown4.alloc (.cells #[.int .i64 0, .int .i64 1, .int .i64 3600000, .int .i64 1800000, .int .i64 604800000] 3))) hg5 hsl
      have hgr5 := (hgr4.alloc _).trans hg5
      go_wp2
      go_roundw
      case rel => exact ⟨n + 1, _, _, by omega, by go_num, rfl, HL3.out, hown5, hgr5, hS5.more (by omega)⟩
      case measure => simp [intOf]; omega
    · have hn10 : n ≤ 12 := by omega
      by_cases hL0 : 0 < L.length
      · rcases hown.2 with ⟨rfl, h0⟩ | ⟨g, cap, cur, rfl, hg, _⟩
        · omega
        · go_wp2_with fail
          refine (w_Flip _ _ _ _ hSr (by omega) (by omega)).mono ?_
          rintro e w2 ⟨b, rfl, hg2, hS2⟩
          have hown2 := own_gr hown hg2 hsl
          have hgr2 := hgr.trans hg2
          cases b
          · go_wp2
            go_ret
            obtain ⟨A, c, ev, hR, _⟩ := Rd.of_own encCall_len rfl hown2
            exact ⟨A, c, L, congrArg Ending.returned ev, by have := HL.out; omega, hR, hgr2, hS2.more (by omega), own_cap (ev ▸ hown2)⟩
          · go_wp2_with fail
            refine (w_Next _ _ _ _ hS2 (by omega) (by have := HL.out; omega)).mono ?_
            rintro e w3 ⟨r, hr1, hr2, rfl, hg3, hS3⟩
            obtain ⟨q, rfl⟩ := Int.eq_ofNat_of_zero_le hr1
            have hq : q < L.length := by omega
            have hown3 := own_gr hown2 hg3 hsl
            have hgr3 := hgr2.trans hg3
            have d0 : w3.cell? ⟨g, q * 3, none⟩ = some (.int .i64 L[q].at_) := own_cell encCall_len rfl hown3 q hq 0 _ rfl
            go_wp2_with fail
            generalize L[q].at_ = a0 at *
            refine (w_PickI _ [a0, -1, 0] _ _ _ _ (hS3.nx ((Nx.refl _).alloc _)) (by omega) (hnew rfl) (by have := hS3.lt; omega) rfl (by simp) (by simp)).mono ?_
            rintro e w4 ⟨r4, hr4, rfl, hg4, hS4⟩
            have hown4 := own_gr (hown3.alloc (.cells #[.int .i64 a0, .int .i64 (-1), .int .i64 0] 3)) hg4 hsl
            have hgr4 := (hgr3.alloc _).trans hg4
            go_wp2_with fail
            refine (w_Odd _ _ _ _ _ hS4 (by omega) (by omega) (by omega)).mono ?_
            rintro e w5 ⟨r5, hr51, hr52, rfl, hg5, hS5⟩
            have hown5 := own_gr hown4 hg5 hsl
            have hgr5 := hgr4.trans hg5
            have e0 : w5.cell? ⟨g, q * 3, none⟩ = some (.int .i64 L[q].at_) := own_cell encCall_len rfl hown5 q hq 0 _ rfl
            have e1 : w5.cell? ⟨g, q * 3 + 1, none⟩ = some (.int .i64 L[q].x) := own_cell encCall_len rfl hown5 q hq 1 _ rfl
            have f0 : w5.frozen? ⟨g, q * 3, none⟩ = false := hown5.frozenAt _
            have f1 : w5.frozen? ⟨g, q * 3 + 1, none⟩ = false := hown5.frozenAt _
            go_wp2
            go_ret
            have hown6 := own_set encCall_len rfl hown5 q hq 0 (by omega) (.int .i64 r4) ⟨r4, L[q].x, L[q].y⟩ rfl (q * 3) (by omega)
            have hown7 := own_set encCall_len (by simp) hown6 q (by simpa using hq) 1 (by omega) (.int .i64 r5) ⟨r4, r5, L[q].y⟩ (by simp [encCall]) (q * 3 + 1) (by omega)
            obtain ⟨A, c, ev, hR, _⟩ := Rd.of_own encCall_len (by simp) hown7
            refine ⟨A, c, _, ?_, ?_, hR, ?_, ?_, own_cap (ev ▸ hown7)⟩
            · exact congrArg Ending.returned ev
            · simp; have := HL.out; omega
            · exact (hgr5.setS (.inr hg) _).setS (.inr hg) _
            · exact ((hS5.row ((Gr.refl g _).setS (.inl rfl) _) (fun j hj => by injection hj with hj; omega)).row ((Gr.refl g _).setS (.inl rfl) _) (fun j hj => by injection hj with hj; omega)).more (by omega)
      · have hLe : L = [] := List.eq_nil_of_length_eq_zero (by omega)
        subst hLe
        rcases hown.2 with ⟨rfl, h0⟩ | ⟨g, cap, cur, rfl, hg, _⟩
        all_goals
          go_wp2
          go_ret
          obtain ⟨A, c, ev, hR, _⟩ := Rd.of_own encCall_len rfl hown
          exact ⟨A, c, [], congrArg Ending.returned ev, by simp, hR, hgr, hSr.more (by omega), Nat.zero_le _⟩
end Go.Proofs.YtfnbmcinbmbehaaGreat
