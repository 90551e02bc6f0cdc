/- The stream's tallies, one of them perhaps turned. -/
import Derived.Test.YtjkpikhgknnbeaaTal
namespace Go.Proofs.Ytjkpikhgknnbeaa
open Go.RowKit Go.Sort Go.Shelf Go.Maps

/-- Some tallies. -/
def StrTals (s k : Nat) (w : World) (e : Ending) (w' : World) : Prop :=
  ∃ (A : Option Addr) (c : Nat) (l : List Tally), e = .returned (.slice A l.length c) ∧ l.length ≤ 24 ∧ Rd w' w.heap.size A 4 encTally l ∧ Gr s w w' ∧ Str w' s k

set_option maxRecDepth 100000 in
set_option maxHeartbeats 4000000 in
theorem w_TallyList (s k : Nat) (w : World) (hS : Str w s k) (hk : k < 700000) :
    Calls Try.prog 35 #[.pointer (some ⟨s, 0, none⟩)] w (StrTals s (k + 100) w) := by
  have hsl := hS.lt
  go_enter Try.func35, Try.ntmps35
  go_wp2_with fail
  refine (w_RightTallies _ _ _ hS (by omega)).mono ?_
  rintro e w1 ⟨v, L, rfl, hL, hown, hgr, hSr⟩
  by_cases hL0 : 0 < L.length
  · rcases hown.2 with ⟨rfl, h0⟩ | ⟨g, cap, cur, rfl, hg, _⟩
    · omega
    · have T0 : decide ((0 : Int) < (L.length : Int)) = true := decide_eq_true (by omega)
      go_wp2_with fail
      refine (w_Flip _ _ _ _ hSr (by omega) (by omega)).mono ?_
      rintro e w2 ⟨b, rfl, hg2, hS2⟩
      have hown2 := own_gr hown hg2 hsl
      have hgr2 := hgr.trans hg2
      cases b
      · go_wp2
        go_ret
        obtain ⟨A, c, ev, hR, _⟩ := Rd.of_own encTally_len rfl hown2
        exact ⟨A, c, L, congrArg Ending.returned ev, hL, hR, hgr2, hS2.more (by omega)⟩
      · go_wp2_with fail
        refine (w_Next _ _ _ _ hS2 (by omega) (by omega)).mono ?_
        rintro e w3 ⟨r, hr1, hr2, rfl, hg3, hS3⟩
        obtain ⟨q, rfl⟩ := Int.eq_ofNat_of_zero_le hr1
        have hq : q < L.length := by omega
        have hown3 := own_gr hown2 hg3 hsl
        have hgr3 := hgr2.trans hg3
        go_wp2_with fail
        refine (w_Odd _ _ _ _ _ hS3 (by omega) (by omega) (by omega)).mono ?_
        rintro e w4 ⟨r4, hr41, hr42, rfl, hg4, hS4⟩
        have hown4 := own_gr hown3 hg4 hsl
        have hgr4 := hgr3.trans hg4
        go_wp2_with fail
        refine (w_Odd _ _ _ _ _ hS4 (by omega) (by omega) (by omega)).mono ?_
        rintro e w5 ⟨r5, hr51, hr52, rfl, hg5, hS5⟩
        have hown5 := own_gr hown4 hg5 hsl
        have hgr5 := hgr4.trans hg5
        go_wp2_with fail
        refine (w_Odd _ _ _ _ _ hS5 (by omega) (by omega) (by omega)).mono ?_
        rintro e w6 ⟨r6, hr61, hr62, rfl, hg6, hS6⟩
        have hown6 := own_gr hown5 hg6 hsl
        have hgr6 := hgr5.trans hg6
        have e0 : w6.cell? ⟨g, q * 4, none⟩ = some (.int .i64 L[q].x) := own_cell encTally_len rfl hown6 q hq 0 _ rfl
        have e2 : w6.cell? ⟨g, q * 4 + 2, none⟩ = some (.int .i64 L[q].hour) := own_cell encTally_len rfl hown6 q hq 2 _ rfl
        have e3 : w6.cell? ⟨g, q * 4 + 3, none⟩ = some (.int .i64 L[q].many) := own_cell encTally_len rfl hown6 q hq 3 _ rfl
        have f0 : w6.frozen? ⟨g, q * 4, none⟩ = false := hown6.frozenAt _
        have f2 : w6.frozen? ⟨g, q * 4 + 2, none⟩ = false := hown6.frozenAt _
        have f3 : w6.frozen? ⟨g, q * 4 + 3, none⟩ = false := hown6.frozenAt _
        go_wp2
        go_ret
        have hown7 := own_set encTally_len rfl hown6 q hq 0 (by omega) (.int .i64 r4) ⟨r4, L[q].y, L[q].hour, L[q].many⟩ rfl (q * 4) (by omega)
        have hown8 := own_set encTally_len (by simp) hown7 q (by simpa using hq) 2 (by omega) (.int .i64 r5) ⟨r4, L[q].y, r5, L[q].many⟩ (by simp [encTally]) (q * 4 + 2) (by omega)
        have hown9 := own_set encTally_len (by simp) hown8 q (by simpa using hq) 3 (by omega) (.int .i64 r6) ⟨r4, L[q].y, r5, r6⟩ (by simp [encTally]) (q * 4 + 3) (by omega)
        obtain ⟨A, c, ev, hR, _⟩ := Rd.of_own encTally_len (by simp) hown9
        refine ⟨A, c, _, ?_, ?_, hR, ?_, ?_⟩
        · exact congrArg Ending.returned ev
        · simp; omega
        · exact ((hgr6.setS (.inr hg) _).setS (.inr hg) _).setS (.inr hg) _
        · exact (((hS6.row ((Gr.refl g _).setS (.inl rfl) _) (fun j hj => by injection hj with hj; omega)).row ((Gr.refl g _).setS (.inl rfl) _) (fun j hj => by injection hj with hj; omega)).row ((Gr.refl g _).setS (.inl rfl) _) (fun j hj => by injection hj with hj; omega)).more (by omega)
  · have hLe : L = [] := List.eq_nil_of_length_eq_zero (by omega)
    subst hLe
    rcases hown.2 with ⟨rfl, h0⟩ | ⟨g, cap, cur, rfl, hg, _⟩
    all_goals
      go_wp2
      go_ret
      obtain ⟨A, c, ev, hR, _⟩ := Rd.of_own encTally_len rfl hown
      exact ⟨A, c, [], congrArg Ending.returned ev, by simp, hR, hgr, hSr.more (by omega)⟩
end Go.Proofs.Ytjkpikhgknnbeaa
