/- slices.BinarySearchFunc over tallies. -/
import Derived.Test.YtjkpikhgknnbeaaFind
namespace Go.Proofs.Ytjkpikhgknnbeaa
open Go.RowKit Go.Sort Go.Shelf Go.Maps

/-- What a search has found. -/
def Found (l : List Tally) (t0 : Tally) (w : World) (e : Ending) (w' : World) : Prop :=
  ∃ (i : Nat) (f : Bool), e = .returned (.tuple #[.int .i64 (i : Int), .bool f]) ∧ Nx w w' ∧ (f = true → ∃ h : i < l.length, keyT l[i] = keyT t0) ∧ (f = false → ∀ t ∈ l, keyT t ≠ keyT t0)

theorem tc_trans {a b c : Tally} (h1 : tallyC a b < 0) (h2 : tallyC b c < 0) : tallyC a c < 0 := by
  have e1 := tallyC_neg.1 h1
  have e2 := tallyC_neg.1 h2
  exact tallyC_neg.2 (by omega)
set_option maxRecDepth 100000 in
set_option maxHeartbeats 2000000 in
theorem w_Binary (lo : Nat) (A : Option Addr) (c : Nat) (l : List Tally) (t0 : Tally) (w : World) (hR : Rd w lo A 4 encTally l) (hl : l.length ≤ 400) (hp : l.Pairwise (fun a b => tallyC a b < 0)) :
    Calls Try.prog 82 #[.slice A l.length c, .agg #[.int .i64 t0.x, .int .i64 t0.y, .int .i64 t0.hour, .int .i64 t0.many], .func (.func 75) #[] #[]] w (Found l t0 w) := by
  generalize hn : l.length = n at *
  have HR := hide hR
  have HN := hide hn
  have HP := hide hp
  clear hR hn hp
  go_enter Try.func82, Try.ntmps82
  go_wp2_with fail
  obtain ⟨w2, hw2⟩ : ∃ w2, w2 = w.alloc (.cells #[.int .i64 t0.x, .int .i64 t0.y, .int .i64 t0.hour, .int .i64 t0.many] 47) := ⟨_, rfl⟩
  have hN2 : Nx w w2 := by rw [hw2]; exact (Nx.refl _).alloc _
  have b0 : w2.cell? ⟨w.heap.size, 0, none⟩ = some (.int .i64 t0.x) := by rw [hw2]; go_simp
  have b1 : w2.cell? ⟨w.heap.size, 1, none⟩ = some (.int .i64 t0.y) := by rw [hw2]; go_simp
  have b2 : w2.cell? ⟨w.heap.size, 2, none⟩ = some (.int .i64 t0.hour) := by rw [hw2]; go_simp
  have b3 : w2.cell? ⟨w.heap.size, 3, none⟩ = some (.int .i64 t0.many) := by rw [hw2]; go_simp
  have hs2 : w2.heap.size = w.heap.size + 1 := by rw [hw2]; simp
  have HB := hide (And.intro b0 (And.intro b1 (And.intro b2 b3)))
  rw [← hw2]
  clear hw2 b0 b1 b2 b3
  go_loopw [9, 10, 11] (fun a b _ wr => ∃ i j : Nat, i ≤ j ∧ j ≤ n ∧ a = .int .i64 (i : Int) ∧ b = .int .i64 (j : Int) ∧ Nx w2 wr ∧ (∀ k (hk : k < l.length), k < i → tallyC l[k] t0 < 0) ∧ (∀ k (hk : k < l.length), j ≤ k → 0 ≤ tallyC l[k] t0)) (fun a b _ _ => (intOf b - intOf a).toNat)
  case atStart => exact ⟨0, n, Nat.zero_le _, Nat.le_refl _, rfl, rfl, Nx.refl _, fun k _ h => absurd h (Nat.not_lt_zero _), fun k hk h => absurd (show k < n from HN.out ▸ hk) (by omega)⟩
  case round =>
    obtain ⟨i, j, hij, hjn, rfl, rfl, hbw, hlo, hhi⟩ := hrel
    have HLO := hide hlo
    have HHI := hide hhi
    clear hlo hhi
    have b0 := World.grownBy.cell (hbw.gr none) HB.out.1 (by simp)
    have b1 := World.grownBy.cell (hbw.gr none) HB.out.2.1 (by simp)
    have b2 := World.grownBy.cell (hbw.gr none) HB.out.2.2.1 (by simp)
    have b3 := World.grownBy.cell (hbw.gr none) HB.out.2.2.2 (by simp)
    have hsr := hbw.sz
    have hsr2 : w.heap.size < wr.heap.size := by omega
    by_cases hlt : i < j
    · go_wp2_with fail
      have hh : ((i : Int) + (j : Int)) / 2 = (((i + j) / 2 : Nat) : Int) := by omega
      have h1 : i ≤ (i + j) / 2 := by omega
      have h2 : (i + j) / 2 < j := by omega
      simp only [hh]
      clear hh
      generalize (i + j) / 2 = h at *
      have hlt' : h < l.length := by have := HN.out; omega
      obtain ⟨b, off, rfl, _, hb, hbr, hc⟩ := HR.out.open_ (hN2.trans hbw) (by omega)
      have c0 : wr.cell? ⟨b, off + h * 4, none⟩ = some (.int .i64 l[h].x) := hc h hlt' 0 _ rfl
      have c1 : wr.cell? ⟨b, off + h * 4 + 1, none⟩ = some (.int .i64 l[h].y) := hc h hlt' 1 _ rfl
      have c2 : wr.cell? ⟨b, off + h * 4 + 2, none⟩ = some (.int .i64 l[h].hour) := hc h hlt' 2 _ rfl
      have c3 : wr.cell? ⟨b, off + h * 4 + 3, none⟩ = some (.int .i64 l[h].many) := hc h hlt' 3 _ rfl
      clear hc
      have hi1 : (0 : Int) ≤ (h : Int) := by omega
      have hi2 : (h : Int) < (n : Int) := by omega
      have HS := hide (show ∀ k (hk : k < l.length), (k < h → tallyC l[k] l[h] < 0) ∧ (h < k → tallyC l[h] l[k] < 0) from fun k hk => ⟨fun hkh => List.pairwise_iff_getElem.1 HP.out k h hk hlt' hkh, fun hkh => List.pairwise_iff_getElem.1 HP.out h k hlt' hk hkh⟩)
      cases ht : decide (tallyC l[h] t0 < 0)
      · have HT := hide (of_decide_eq_false ht)
        go_region_held3 (fun w' => w'.cell? ⟨w.heap.size, 0, none⟩ = some (.int .i64 t0.x) ∧ w'.cell? ⟨w.heap.size, 1, none⟩ = some (.int .i64 t0.y) ∧ w'.cell? ⟨w.heap.size, 2, none⟩ = some (.int .i64 t0.hour) ∧ w'.cell? ⟨w.heap.size, 3, none⟩ = some (.int .i64 t0.many) ∧ w'.cell? ⟨b, off + h * 4, none⟩ = some (.int .i64 l[h].x) ∧ w'.cell? ⟨b, off + h * 4 + 1, none⟩ = some (.int .i64 l[h].y) ∧ w'.cell? ⟨b, off + h * 4 + 2, none⟩ = some (.int .i64 l[h].hour) ∧ w'.cell? ⟨b, off + h * 4 + 3, none⟩ = some (.int .i64 l[h].many))
          (first | go_keep | (go_split_ands; exact ⟨hL.cell ‹_›, hL.cell ‹_›, hL.cell ‹_›, hL.cell ‹_›, hL.cell ‹_›, hL.cell ‹_›, hL.cell ‹_›, hL.cell ‹_›⟩))
          (first | (go_at_call 75; refine (w_byTally l[h] t0 _).mono ?_; rintro e w1 ⟨rfl, hL⟩))
        go_wp2
        go_roundw
        case rel => exact ⟨i, h, h1, by omega, rfl, rfl, (by repeat (first | exact hbw | refine Nx.trans ?_ hL.nx | refine Nx.drew ?_ | refine Nx.drewN ?_ _ | refine Nx.alloc ?_ _)), HLO.out, fun k hk hjk => by
          rcases Nat.lt_or_ge h k with h' | h'
          · have e1 := (HS.out k hk).2 h'
            have e2 := HT.out
            exact Int.not_lt.1 (fun h3 => absurd (tc_trans e1 h3) (Int.not_lt.2 e2))
          · have e : k = h := by omega
            subst e
            exact HT.out⟩
        case measure => simp [intOf]; omega
      · have HT := hide (of_decide_eq_true ht)
        go_region_held3 (fun w' => w'.cell? ⟨w.heap.size, 0, none⟩ = some (.int .i64 t0.x) ∧ w'.cell? ⟨w.heap.size, 1, none⟩ = some (.int .i64 t0.y) ∧ w'.cell? ⟨w.heap.size, 2, none⟩ = some (.int .i64 t0.hour) ∧ w'.cell? ⟨w.heap.size, 3, none⟩ = some (.int .i64 t0.many) ∧ w'.cell? ⟨b, off + h * 4, none⟩ = some (.int .i64 l[h].x) ∧ w'.cell? ⟨b, off + h * 4 + 1, none⟩ = some (.int .i64 l[h].y) ∧ w'.cell? ⟨b, off + h * 4 + 2, none⟩ = some (.int .i64 l[h].hour) ∧ w'.cell? ⟨b, off + h * 4 + 3, none⟩ = some (.int .i64 l[h].many))
          (first | go_keep | (go_split_ands; exact ⟨hL.cell ‹_›, hL.cell ‹_›, hL.cell ‹_›, hL.cell ‹_›, hL.cell ‹_›, hL.cell ‹_›, hL.cell ‹_›, hL.cell ‹_›⟩))
          (first | (go_at_call 75; refine (w_byTally l[h] t0 _).mono ?_; rintro e w1 ⟨rfl, hL⟩))
        go_wp2
        go_roundw
        case rel => exact ⟨h + 1, j, by omega, hjn, by go_num, rfl, (by repeat (first | exact hbw | refine Nx.trans ?_ hL.nx | refine Nx.drew ?_ | refine Nx.drewN ?_ _ | refine Nx.alloc ?_ _)), fun k hk hjk => by
          rcases Nat.lt_or_ge k h with h' | h'
          · exact tc_trans ((HS.out k hk).1 h') HT.out
          · have e : k = h := by omega
            subst e
            exact HT.out, HHI.out⟩
        case measure => simp [intOf]; omega
    · have hij2 : j = i := by omega
      subst hij2
      by_cases hn2 : j < n
      · have hlt' : j < l.length := by have := HN.out; omega
        go_wp2_with fail
        obtain ⟨tj, htj⟩ : ∃ tj, tj = l[j] := ⟨_, rfl⟩
        obtain ⟨b, off, rfl, _, hb, hbr, hc⟩ := HR.out.open_ (hN2.trans hbw) (by omega)
        have c0 : wr.cell? ⟨b, off + j * 4, none⟩ = some (.int .i64 tj.x) := by rw [htj]; exact hc j hlt' 0 _ rfl
        have c1 : wr.cell? ⟨b, off + j * 4 + 1, none⟩ = some (.int .i64 tj.y) := by rw [htj]; exact hc j hlt' 1 _ rfl
        have c2 : wr.cell? ⟨b, off + j * 4 + 2, none⟩ = some (.int .i64 tj.hour) := by rw [htj]; exact hc j hlt' 2 _ rfl
        have c3 : wr.cell? ⟨b, off + j * 4 + 3, none⟩ = some (.int .i64 tj.many) := by rw [htj]; exact hc j hlt' 3 _ rfl
        clear hc
        have hi1 : (0 : Int) ≤ (j : Int) := by omega
        have hi2 : (j : Int) < (n : Int) := by omega
        have HTJ := hide htj
        clear htj
        go_region_held3 (fun w' => w'.cell? ⟨w.heap.size, 0, none⟩ = some (.int .i64 t0.x) ∧ w'.cell? ⟨w.heap.size, 1, none⟩ = some (.int .i64 t0.y) ∧ w'.cell? ⟨w.heap.size, 2, none⟩ = some (.int .i64 t0.hour) ∧ w'.cell? ⟨w.heap.size, 3, none⟩ = some (.int .i64 t0.many) ∧ w'.cell? ⟨b, off + j * 4, none⟩ = some (.int .i64 tj.x) ∧ w'.cell? ⟨b, off + j * 4 + 1, none⟩ = some (.int .i64 tj.y) ∧ w'.cell? ⟨b, off + j * 4 + 2, none⟩ = some (.int .i64 tj.hour) ∧ w'.cell? ⟨b, off + j * 4 + 3, none⟩ = some (.int .i64 tj.many))
          (first | go_keep | (go_split_ands; exact ⟨hL.cell ‹_›, hL.cell ‹_›, hL.cell ‹_›, hL.cell ‹_›, hL.cell ‹_›, hL.cell ‹_›, hL.cell ‹_›, hL.cell ‹_›⟩))
          (first | (go_at_call 75; refine (w_byTally tj t0 _).mono ?_; rintro e w1 ⟨rfl, hL⟩))
        all_goals go_wp2
        all_goals go_ret2
        all_goals refine ⟨j, tallyC tj t0 == 0, rfl, ?_, ?_, ?_⟩
        · exact hN2.trans (by repeat (first | exact hbw | refine Nx.trans ?_ hL.nx | refine Nx.drew ?_ | refine Nx.drewN ?_ _ | refine Nx.alloc ?_ _))
        · intro hf
          rw [HTJ.out] at hf
          exact ⟨hlt', tallyC_zero.1 (by simpa using hf)⟩
        · intro hf t ht hk
          rw [HTJ.out] at hf
          obtain ⟨k, hk2, rfl⟩ := List.getElem_of_mem ht
          have e0 : tallyC l[k] t0 = 0 := tallyC_zero.2 hk
          rcases Nat.lt_trichotomy k j with h' | h' | h'
          · have := HLO.out k hk2 h'; omega
          · subst h'; rw [e0] at hf; cases hf
          · have e1 := List.pairwise_iff_getElem.1 HP.out j k hlt' hk2 h'
            have e2 := HHI.out j hlt' (Nat.le_refl _)
            have e3 : tallyC l[j] t0 < 0 := tallyC_neg.2 (by have a1 := tallyC_neg.1 e1; simp only [keyT, Spot.mk.injEq] at hk; omega)
            omega
      · have hjn2 : j = n := by omega
        have hlast : decide ((j : Int) < (n : Int)) = false := by simp; omega
        go_wp2_with fail
        go_quiet (fail)
        go_wp2
        go_ret2
        refine ⟨j, false, rfl, hN2.trans (hbw.drewN _), fun hf => (by cases hf), fun _ t ht hk => ?_⟩
        obtain ⟨k, hk2, rfl⟩ := List.getElem_of_mem ht
        have := HLO.out k hk2 (by have := HN.out; omega)
        have := tallyC_zero.2 hk
        omega
end Go.Proofs.Ytjkpikhgknnbeaa
