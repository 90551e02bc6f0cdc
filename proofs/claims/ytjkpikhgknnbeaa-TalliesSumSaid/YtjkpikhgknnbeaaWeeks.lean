/- Weeks of a window, both ways. -/
import Derived.Test.YtjkpikhgknnbeaaSmo3
namespace Go.Proofs.Ytjkpikhgknnbeaa
open Go.RowKit Go.Sort Go.Shelf Go.Maps

def endMo : Int := 345686400000
def windowB (f t : Int) : Bool := !outB f 0 t && decide (t ≤ endMo)
theorem windowB_true {f t : Int} : windowB f t = true ↔ (0 ≤ f ∧ f ≤ t) ∧ t ≤ 345686400000 := by unfold windowB endMo; simp [outB_false]
/-- The first moment of the hour in the window or behind it. -/
def firstI (f b : Int) : Int := f + (b - f) % 604800000
def weeksI (f t z h : Int) : Int := if t ≤ firstI f (h * 3600000 - z * 60000) then 0 else (t - 1 - firstI f (h * 3600000 - z * 60000)) / 604800000 + 1
theorem firstI_bd (f b : Int) : f ≤ firstI f b ∧ firstI f b < f + 604800000 := by
  have q1 := Int.emod_nonneg (b - f) (b := 604800000) (by omega)
  have q2 := Int.emod_lt_of_pos (b - f) (b := 604800000) (by omega)
  unfold firstI
  omega
theorem firstI_at (f b : Int) (hf : 0 ≤ f) (hb : b ≤ 687600000) : ∃ q : Nat, firstI f b = b - 604800000 + q * 604800000 := by
  have q0 := Int.mul_ediv_add_emod (b - f) 604800000
  have q1 := firstI_bd f b
  refine ⟨(1 - (b - f) / 604800000).toNat, ?_⟩
  unfold firstI at *
  omega
theorem weeksI_count (f t z h : Int) (m q : Nat) (hq : firstI f (h * 3600000 - z * 60000) = h * 3600000 - z * 60000 - 604800000 + q * 604800000)
    (h1 : t ≤ h * 3600000 - z * 60000 - 604800000 + m * 604800000) (h2 : ∀ i : Nat, i < m → h * 3600000 - z * 60000 - 604800000 + i * 604800000 < t) : weeksI f t z h = ((m - q : Nat) : Int) := by
  unfold weeksI
  generalize h * 3600000 - z * 60000 = b at *
  rw [hq]
  by_cases hm : m ≤ q
  · rw [if_pos (by omega)]; omega
  · have h3 := h2 (m - 1) (by omega)
    rw [if_neg (by omega)]
    omega

theorem w_Window (f t : Int) (w : World) : Calls Try.prog 99 #[.agg #[.int .i64 f, .int .i64 t]] w fun e w' => e = .returned (.bool (windowB f t)) ∧ Nx w w' := by
  have H := hide (show decide (t ≤ 345686400000) = decide (t ≤ endMo) from rfl)
  cases h1 : outB f 0 t
  · go_enter Try.func99, Try.ntmps99
    go_wp2_with (go_at_call 52; refine (w_Out _ _ _ _).mono ?_; rintro e w' ⟨rfl, rfl⟩)
    go_ret
    exact ⟨ret_bool (by unfold windowB; rw [h1, ← H.out]; rfl), (Nx.refl _).alloc _⟩
  · go_enter Try.func99, Try.ntmps99
    go_wp2_with (go_at_call 52; refine (w_Out _ _ _ _).mono ?_; rintro e w' ⟨rfl, rfl⟩)
    go_ret
    exact ⟨ret_bool (by unfold windowB; rw [h1]; rfl), (Nx.refl _).alloc _⟩

theorem w_WindowFault (f t : Int) (w : World) : Calls Try.prog 43 #[.agg #[.int .i64 f, .int .i64 t]] w fun e w' => e = .returned (.int .i64 (argF (windowB f t))) ∧ Nx w w' := by
  have e1 := inB_out f 0 t
  cases h1 : outB f 0 t
  · rw [h1] at e1
    cases h2 : decide (345686400000 < t)
    · have H := hide h2
      go_enter Try.func43, Try.ntmps43
      go_wp2_with (go_at_call 54; refine (w_in _ _ _ _).mono ?_; rintro e w' ⟨rfl, rfl⟩)
      go_ret
      exact ⟨ret_int (by have := H.out; rw [decide_eq_false_iff_not] at this; rw [windowB, h1, show decide (t ≤ endMo) = true from decide_eq_true (by unfold endMo; omega)]; rfl), (Nx.refl _).alloc _⟩
    · have H := hide h2
      go_enter Try.func43, Try.ntmps43
      go_wp2_with (go_at_call 54; refine (w_in _ _ _ _).mono ?_; rintro e w' ⟨rfl, rfl⟩)
      go_ret
      exact ⟨ret_int (by have := H.out; rw [decide_eq_true_iff] at this; rw [windowB, h1, show decide (t ≤ endMo) = false from decide_eq_false (by unfold endMo; omega)]; rfl), (Nx.refl _).alloc _⟩
  · rw [h1] at e1
    go_enter Try.func43, Try.ntmps43
    go_wp2_with (go_at_call 54; refine (w_in _ _ _ _).mono ?_; rintro e w' ⟨rfl, rfl⟩)
    go_ret
    exact ⟨ret_int (by rw [windowB, h1]; rfl), (Nx.refl _).alloc _⟩

theorem w_weeksFault (f t z : Int) (w : World) : Calls Try.prog 80 #[.agg #[.int .i64 f, .int .i64 t], .int .i64 z] w fun e w' => e = .returned (.int .i64 (argF (windowB f t && !outB z (-1440) 1440))) ∧ Nx w w' := by
  cases h1 : windowB f t <;> cases h2 : outB z (-1440) 1440
  all_goals
    go_enter Try.func80, Try.ntmps80
    go_wp2_with (first | (go_at_call 99; refine (w_Window _ _ _).mono ?_; rintro e w1 ⟨rfl, hn1⟩) | (go_at_call 52; refine (w_Out _ _ _ _).mono ?_; rintro e w' ⟨rfl, rfl⟩))
    go_ret
    exact ⟨rfl, ((Nx.refl _).alloc _).trans hn1⟩

theorem w_inWeekq (x : Int) (n : Nat) (w : World) (hn : -4611686018427387904 ≤ x ∧ x ≤ 4611686018427387904) : Calls Try.prog 86 #[.int .i64 x] (w.drewN n) fun e w'' => e = .returned (.int .i64 (x % 604800000)) ∧ ∃ m, w'' = w.drewN m :=
  Calls.quiet_of_same ((w_inWeek x _ hn).mono fun _ _ h => ⟨h.1, h.2.symm⟩)
theorem w_weeks (f t z h : Int) (w : World) (hw : windowB f t = true) (hz : outB z (-1440) 1440 = false) (hh : outB h 0 167 = false) :
    Calls Try.prog 81 #[.agg #[.int .i64 f, .int .i64 t], .int .i64 z, .int .i64 h] w fun e w' => e = .returned (.int .i64 (weeksI f t z h)) ∧ Nx w w' := by
  have g1 := windowB_true.1 hw
  have g2 := outB_false.1 hz
  have g3 := outB_false.1 hh
  have q := firstI_bd f (h * 3600000 - z * 60000)
  have HF := hide (show f + (h * 3600000 - z * 60000 - f) % 604800000 = firstI f (h * 3600000 - z * 60000) from rfl)
  clear hw hz hh
  have qd : (t - 1 - firstI f (h * 3600000 - z * 60000)) / 604800000 ≤ t := by omega
  have W1 := IntWalk.i64_in (h * 3600000) (by omega)
  have W2 := IntWalk.i64_in (z * 60000) (by omega)
  have W3 := IntWalk.i64_in (h * 3600000 - z * 60000) (by omega)
  have W4 := IntWalk.i64_in (h * 3600000 - z * 60000 - f) (by omega)
  have W5 := IntWalk.i64_in (f + (h * 3600000 - z * 60000 - f) % 604800000) (by have := HF.out; omega)
  cases hc : decide (t ≤ firstI f (h * 3600000 - z * 60000))
  · have HC := hide hc
    rw [← HF.out] at hc q qd
    have D := Int.tdiv_eq_ediv_of_nonneg (a := t - 1 - (f + (h * 3600000 - z * 60000 - f) % 604800000)) (b := 604800000) (by have := of_decide_eq_false hc; omega)
    have D1 := Int.ediv_nonneg (a := t - 1 - (f + (h * 3600000 - z * 60000 - f) % 604800000)) (b := 604800000) (by have := of_decide_eq_false hc; omega) (by omega)
    go_enter Try.func81, Try.ntmps81
    go_wp2_with fail
    go_quiet (first | (go_at_call 86; exact w_inWeekq _ _ _ (by omega)))
    try rw [W5]
    go_wp2
    go_ret
    exact ⟨ret_int (by unfold weeksI; rw [if_neg (of_decide_eq_false HC.out), ← HF.out]), ((Nx.refl _).alloc _).drewN _⟩
  · have HC := hide hc
    rw [← HF.out] at hc q qd
    go_enter Try.func81, Try.ntmps81
    go_wp2_with fail
    go_quiet (first | (go_at_call 86; exact w_inWeekq _ _ _ (by omega)))
    try rw [W5]
    go_wp2
    go_ret
    exact ⟨ret_int (by unfold weeksI; rw [if_pos (of_decide_eq_true HC.out)]), ((Nx.refl _).alloc _).drewN _⟩

theorem w_Weeks_no (f t z h : Int) (w : World) (hf : (windowB f t && !outB z (-1440) 1440 && !outB h 0 167) = false) :
    Calls Try.prog 42 #[.agg #[.int .i64 f, .int .i64 t], .int .i64 z, .int .i64 h] w fun e w' => e = .returned (.tuple #[.int .i64 0, .int .i64 1]) ∧ Nx w w' := by
  cases h1 : (windowB f t && !outB z (-1440) 1440)
  · have e1 : (argF (windowB f t && !outB z (-1440) 1440) != 0) = true := by rw [h1]; rfl
    clear h1 hf
    go_enter Try.func42, Try.ntmps42
    go_wp2_with (first | (go_at_call 80; refine (w_weeksFault _ _ _ _).mono ?_; rintro e w1 ⟨rfl, hn1⟩) | (go_at_call 52; refine (w_Out _ _ _ _).mono ?_; rintro e w' ⟨rfl, rfl⟩))
    go_ret2
    exact ⟨rfl, ((Nx.refl _).alloc _).trans hn1⟩
  · have e1 : (argF (windowB f t && !outB z (-1440) 1440) != 0) = false := by rw [h1]; rfl
    have h2 : outB h 0 167 = true := by rw [h1] at hf; simpa using hf
    clear h1 hf
    go_enter Try.func42, Try.ntmps42
    go_wp2_with (first | (go_at_call 80; refine (w_weeksFault _ _ _ _).mono ?_; rintro e w1 ⟨rfl, hn1⟩) | (go_at_call 52; refine (w_Out _ _ _ _).mono ?_; rintro e w' ⟨rfl, rfl⟩))
    go_ret2
    exact ⟨rfl, ((Nx.refl _).alloc _).trans hn1⟩

theorem w_Weeks (f t z h : Int) (w : World) (hw : windowB f t = true) (hz : outB z (-1440) 1440 = false) (hh : outB h 0 167 = false) :
    Calls Try.prog 42 #[.agg #[.int .i64 f, .int .i64 t], .int .i64 z, .int .i64 h] w fun e w' => e = .returned (.tuple #[.int .i64 (weeksI f t z h), .int .i64 0]) ∧ Nx w w' := by
  have e1 : (argF (windowB f t && !outB z (-1440) 1440) != 0) = false := by rw [hw, hz]; rfl
  have HC := hide (fun w => w_weeks f t z h w hw hz hh)
  clear hw hz
  go_enter Try.func42, Try.ntmps42
  go_wp2_with (first | (go_at_call 80; refine (w_weeksFault _ _ _ _).mono ?_; rintro e w1 ⟨rfl, hn1⟩; have k0 : w1.cell? ⟨w.heap.size, 0, none⟩ = some (.int .i64 f) := World.grownBy.cell (hn1.gr none) (show (w.alloc (.cells #[.int .i64 f, .int .i64 t] 69)).cell? ⟨w.heap.size, 0, none⟩ = some (.int .i64 f) by go_simp) (by simp); have k1 : w1.cell? ⟨w.heap.size, 1, none⟩ = some (.int .i64 t) := World.grownBy.cell (hn1.gr none) (show (w.alloc (.cells #[.int .i64 f, .int .i64 t] 69)).cell? ⟨w.heap.size, 1, none⟩ = some (.int .i64 t) by go_simp) (by simp)) | (go_at_call 52; refine (w_Out _ _ _ _).mono ?_; rintro e w' ⟨rfl, rfl⟩) | (go_at_call 81; refine (HC.out _).mono ?_; rintro e w2 ⟨rfl, hn2⟩))
  go_ret2
  exact ⟨rfl, (((Nx.refl _).alloc _).trans hn1).trans hn2⟩

set_option maxRecDepth 100000 in
theorem w_WeeksOf (f t z h : Int) (w : World) (hw : windowB f t = true) (hz : outB z (-1440) 1440 = false) (hh : outB h 0 167 = false) :
    Calls Try.prog 45 #[.agg #[.int .i64 f, .int .i64 t], .int .i64 z, .int .i64 h] w fun e w' => e = .returned (.int .i64 (weeksI f t z h)) ∧ Nx w w' := by
  have g1 := windowB_true.1 hw
  have g2 := outB_false.1 hz
  have g3 := outB_false.1 hh
  obtain ⟨q, hq⟩ := firstI_at f (h * 3600000 - z * 60000) g1.1.1 (by omega)
  have hfb := firstI_bd f (h * 3600000 - z * 60000)
  have HWK := hide (fun m => weeksI_count f t z h m q hq)
  clear hw hz hh
  generalize weeksI f t z h = W at *
  have HQ := hide hq
  rw [hq] at hfb
  clear hq
  go_enter Try.func45, Try.ntmps45
  go_wp2_with fail
  go_loopw [7, 8] (fun n a wr => ∃ m : Nat, n = .int .i64 ((m - q : Nat) : Int) ∧ a = .int .i64 (h * 3600000 - z * 60000 - 604800000 + m * 604800000) ∧ (∀ i : Nat, i < m → h * 3600000 - z * 60000 - 604800000 + i * 604800000 < t) ∧ Nx w wr ∧ wr.cell? ⟨w.heap.size, 0, none⟩ = some (.int .i64 f) ∧ wr.cell? ⟨w.heap.size, 1, none⟩ = some (.int .i64 t)) (fun _ a _ => (t - intOf a).toNat)
  case atStart => exact ⟨0, by simp, by simp, fun i hi => by omega, (Nx.refl _).alloc _, by go_simp, by go_simp⟩
  case round =>
    obtain ⟨m, rfl, rfl, hall, hnx, c0, c1⟩ := hrel
    have HALL := hide hall
    clear hall
    cases hlt : decide (h * 3600000 - z * 60000 - 604800000 + m * 604800000 < t)
    · go_wp2
      go_ret
      exact ⟨ret_int (HWK.out m (by have := of_decide_eq_false hlt; omega) HALL.out).symm, hnx⟩
    · have hm : (m : Int) ≤ 1000 := by have := of_decide_eq_true hlt; omega
      have hall2 : ∀ i : Nat, i < m + 1 → h * 3600000 - z * 60000 - 604800000 + i * 604800000 < t := fun i hi => by
        rcases Nat.lt_or_ge i m with h' | h'
        · exact HALL.out i h'
        · have e : i = m := by omega
          rw [e]
          exact of_decide_eq_true hlt
      have HALL2 := hide hall2
      clear hall2
      cases hge : decide (f ≤ h * 3600000 - z * 60000 - 604800000 + m * 604800000)
      · go_wp2
        go_roundw
        case rel => exact ⟨m + 1, by have := of_decide_eq_false hge; congr 1; omega, by rw [show h * 3600000 - z * 60000 - 604800000 + m * 604800000 + 604800000 = h * 3600000 - z * 60000 - 604800000 + ((m + 1 : Nat) : Int) * 604800000 by omega], HALL2.out, hnx, c0, c1⟩
        case measure => simp only [intOf]; have := of_decide_eq_true hlt; omega
      · go_wp2
        go_roundw
        case rel => exact ⟨m + 1, by have := of_decide_eq_true hge; congr 1; omega, by rw [show h * 3600000 - z * 60000 - 604800000 + m * 604800000 + 604800000 = h * 3600000 - z * 60000 - 604800000 + ((m + 1 : Nat) : Int) * 604800000 by omega], HALL2.out, hnx, c0, c1⟩
        case measure => simp only [intOf]; have := of_decide_eq_true hlt; omega
end Go.Proofs.Ytjkpikhgknnbeaa
