/- The stream's tallies, one of them perhaps turned. -/
import Derived.Test.YthlhomcgjgfdhaaGreatDoorQTalG
import Derived.Test.YthlhomcgjgfdhaaGreatDoorQTopW
namespace Go.Proofs.YthlhomcgjgfdhaaGreatDoor
open Go.RowKit Go.Sort Go.Shelf Go.Maps

theorem grid_hour (h : Int) : (gridT.filter (fun k => k.2.2 == h)).length ≤ 8 := by
  by_cases h0 : h = 0
  · subst h0; decide
  by_cases h8 : h = 8
  · subst h8; decide
  by_cases h7 : h = 167
  · subst h7; decide
  have e : gridT.filter (fun k => k.2.2 == h) = [] := by
    rw [List.filter_eq_nil_iff]
    intro k hk
    have h2 : ∀ k ∈ gridT, k.2.2 = 0 ∨ k.2.2 = 8 ∨ k.2.2 = 167 := by decide
    have h3 := h2 k hk
    simp only [beq_iff_eq]
    omega
  rw [e]; simp
theorem RtOk.hours {L : List Tally} {q : Nat} (hL : RtOk L q) (h : Int) : (ofHour h L).length ≤ 8 := by
  have e : (ofHour h L).length = ((L.map keyG).filter (fun k => k.2.2 == h)).length := by
    rw [List.filter_map, List.length_map]
    unfold ofHour
    congr 1
    refine List.filter_congr (fun x _ => ?_)
    unfold hourQ keyG
    simp [bne]
  rw [e]
  exact Nat.le_trans ((hL.2.1.trans (List.take_sublist _ _)).filter _).length_le (grid_hour h)
theorem filter_set {α : Type} (p : α → Bool) : ∀ (l : List α) (q : Nat) (x : α), ((l.set q x).filter p).length ≤ (l.filter p).length + 1
  | [], _, _ => by simp
  | y :: l, 0, x => by
    rw [List.set_cons_zero, List.filter_cons, List.filter_cons]
    split <;> split <;> simp <;> omega
  | y :: l, q + 1, x => by
    have := filter_set p l q x
    rw [List.set_cons_succ, List.filter_cons, List.filter_cons]
    split <;> simp <;> omega
/-- Some tallies. -/
def StrTalsH (s k : Nat) (w : World) (e : Ending) (w' : World) : Prop :=
  ∃ (A : Option Addr) (c : Nat) (l : List Tally), e = .returned (.slice A l.length c) ∧ l.length ≤ 24 ∧ (∀ h, (ofHour h l).length < 20) ∧ Rd w' w.heap.size A 4 encTally l ∧ Gr s w w' ∧ Str w' s k

set_option maxRecDepth 100000 in
set_option maxHeartbeats 4000000 in
theorem w_TallyListH (s k : Nat) (w : World) (hS : Str w s k) (hk : k < 700000) :
    Calls Tryz.prog 6 #[.pointer (some ⟨s, 0, none⟩)] w (StrTalsH s (k + 100) w) := by
  have hsl := hS.lt
  go_enter Tryz.func6, Tryz.ntmps6
  go_wp2_with fail
  refine (w_RightTG _ _ _ hS (by omega)).mono ?_
  rintro e w1 ⟨v, L, rfl, hRt, hown, hgr, hSr⟩
  have hL := hRt.1
  have HH := hide (fun h => hRt.hours h)
  clear hRt
  by_cases hL0 : 0 < L.length
  · rcases hown.2 with ⟨rfl, h0⟩ | ⟨g, cap, cur, rfl, hg, _⟩
    · omega
    · have T0 : decide ((0 : Int) < (L.length : Int)) = true := decide_eq_true (by omega)
      go_wp2_with fail
      refine (w_Flip _ _ _ _ hSr (by omega) (by omega)).mono ?_
      rintro e w2 ⟨b, rfl, hg2, hS2⟩
      have hown2 := own_gr hown hg2 hsl
      have hgr2 := hgr.trans hg2
      cases b
      · go_wp2
        go_ret
        obtain ⟨A, c, ev, hR, _⟩ := Rd.of_own encTally_len rfl hown2
        exact ⟨A, c, L, congrArg Ending.returned ev, hL, fun h => by have := HH.out h; omega, hR, hgr2, hS2.more (by omega)⟩
      · go_wp2_with fail
        refine (w_Next _ _ _ _ hS2 (by omega) (by omega)).mono ?_
        rintro e w3 ⟨r, hr1, hr2, rfl, hg3, hS3⟩
        obtain ⟨q, rfl⟩ := Int.eq_ofNat_of_zero_le hr1
        have hq : q < L.length := by omega
        have hown3 := own_gr hown2 hg3 hsl
        have hgr3 := hgr2.trans hg3
        go_wp2_with fail
        refine (w_Odd _ _ _ _ _ hS3 (by omega) (by omega) (by omega)).mono ?_
        rintro e w4 ⟨r4, hr41, hr42, rfl, hg4, hS4⟩
        have hown4 := own_gr hown3 hg4 hsl
        have hgr4 := hgr3.trans hg4
        go_wp2_with fail
        refine (w_Odd _ _ _ _ _ hS4 (by omega) (by omega) (by omega)).mono ?_
        rintro e w5 ⟨r5, hr51, hr52, rfl, hg5, hS5⟩
        have hown5 := own_gr hown4 hg5 hsl
        have hgr5 := hgr4.trans hg5
        go_wp2_with fail
        refine (w_Odd _ _ _ _ _ hS5 (by omega) (by omega) (by omega)).mono ?_
        rintro e w6 ⟨r6, hr61, hr62, rfl, hg6, hS6⟩
        have hown6 := own_gr hown5 hg6 hsl
        have hgr6 := hgr5.trans hg6
        have e0 : w6.cell? ⟨g, q * 4, none⟩ = some (.int .i64 L[q].x) := own_cell encTally_len rfl hown6 q hq 0 _ rfl
        have e2 : w6.cell? ⟨g, q * 4 + 2, none⟩ = some (.int .i64 L[q].hour) := own_cell encTally_len rfl hown6 q hq 2 _ rfl
        have e3 : w6.cell? ⟨g, q * 4 + 3, none⟩ = some (.int .i64 L[q].many) := own_cell encTally_len rfl hown6 q hq 3 _ rfl
        have f0 : w6.frozen? ⟨g, q * 4, none⟩ = false := hown6.frozenAt _
        have f2 : w6.frozen? ⟨g, q * 4 + 2, none⟩ = false := hown6.frozenAt _
        have f3 : w6.frozen? ⟨g, q * 4 + 3, none⟩ = false := hown6.frozenAt _
        go_wp2
        go_ret
        have hown7 := own_set encTally_len rfl hown6 q hq 0 (by omega) (.int .i64 r4) ⟨r4, L[q].y, L[q].hour, L[q].many⟩ rfl (q * 4) (by omega)
        have hown8 := own_set encTally_len (by simp) hown7 q (by simpa using hq) 2 (by omega) (.int .i64 r5) ⟨r4, L[q].y, r5, L[q].many⟩ (by simp [encTally]) (q * 4 + 2) (by omega)
        have hown9 := own_set encTally_len (by simp) hown8 q (by simpa using hq) 3 (by omega) (.int .i64 r6) ⟨r4, L[q].y, r5, r6⟩ (by simp [encTally]) (q * 4 + 3) (by omega)
        obtain ⟨A, c, ev, hR, _⟩ := Rd.of_own encTally_len (by simp) hown9
        refine ⟨A, c, _, ?_, ?_, fun h => ?_, hR, ?_, ?_⟩
        · exact congrArg Ending.returned ev
        · simp; omega
        · simp only [List.set_set]
          have h1 := filter_set (fun x => !hourQ h x) L q ⟨r4, L[q].y, r5, r6⟩
          have h2 := HH.out h
          unfold ofHour at h2 ⊢
          omega
        · exact ((hgr6.setS (.inr hg) _).setS (.inr hg) _).setS (.inr hg) _
        · exact (((hS6.row ((Gr.refl g _).setS (.inl rfl) _) (fun j hj => by injection hj with hj; omega)).row ((Gr.refl g _).setS (.inl rfl) _) (fun j hj => by injection hj with hj; omega)).row ((Gr.refl g _).setS (.inl rfl) _) (fun j hj => by injection hj with hj; omega)).more (by omega)
  · have hLe : L = [] := List.eq_nil_of_length_eq_zero (by omega)
    subst hLe
    rcases hown.2 with ⟨rfl, h0⟩ | ⟨g, cap, cur, rfl, hg, _⟩
    all_goals
      go_wp2
      go_ret
      obtain ⟨A, c, ev, hR, _⟩ := Rd.of_own encTally_len rfl hown
      exact ⟨A, c, [], congrArg Ending.returned ev, by simp, fun h => by simp [ofHour], hR, hgr, hSr.more (by omega)⟩
end Go.Proofs.YthlhomcgjgfdhaaGreatDoor
