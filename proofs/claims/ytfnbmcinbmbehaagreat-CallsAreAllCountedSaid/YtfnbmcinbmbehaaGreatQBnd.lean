/- Sums checked, both ways. -/
import Derived.Test.YtfnbmcinbmbehaaGreatQG9
namespace Go.Proofs.YtfnbmcinbmbehaaGreat
open Go.RowKit Go.Sort Go.Shelf Go.Maps

/-- Sums as tallies, or what is wrong with them. -/
def BndR (f : Spot → Int) (E : Int) (zs : List Tally) : Prop :=
  ((∃ k, maxCents < f k) ∧ E = 1 ∧ zs = []) ∨ ((∀ k, f k ≤ maxCents) ∧ ∃ ys, Listed f ys ∧ E = talliesF ys ∧ zs = if talliesF ys = 0 then ys else [])
theorem BndR.unique {f : Spot → Int} {E E' : Int} {zs zs' : List Tally} (h : BndR f E zs) (h' : BndR f E' zs') : E = E' ∧ zs = zs' := by
  rcases h with ⟨⟨k, hk⟩, rfl, rfl⟩ | ⟨ha, ys, hL, rfl, rfl⟩ <;> rcases h' with ⟨⟨k', hk'⟩, rfl, rfl⟩ | ⟨ha', ys', hL', rfl, rfl⟩
  · exact ⟨rfl, rfl⟩
  · have := ha' k; omega
  · have := ha k'; omega
  · rw [listed_unique hL hL']; exact ⟨rfl, rfl⟩
theorem big_of {f : Spot → Int} {ys : List Tally} (h : Listed f ys) : (ys.any bigT = true ↔ ∃ k, maxCents < f k) := by
  rw [List.any_eq_true]
  constructor
  · rintro ⟨t, ht, hb⟩
    have h1 := (h.mem t).1 ht
    unfold bigT at hb
    exact ⟨keyT t, by rw [h1.1]; simpa using hb⟩
  · rintro ⟨k, hk⟩
    refine ⟨⟨k.x, k.y, k.h, f k⟩, (h.mem _).2 ⟨rfl, by unfold maxCents at hk; show 0 < f k; omega⟩, by unfold bigT; simpa using hk⟩
def Bnd (f : Spot → Int) (w : World) (e : Ending) (w' : World) : Prop :=
  ∃ (A : Option Addr) (c : Nat) (E : Int) (zs : List Tally), BndR f E zs ∧ e = .returned (.tuple #[.slice A zs.length c, .int .i64 E]) ∧ Rd w' w.heap.size A 4 encTally zs ∧ Nx w w'

theorem w_bounded1 (t : Tally) (w : World) : Calls Tryz.prog 62 #[.agg #[.int .i64 t.x, .int .i64 t.y, .int .i64 t.hour, .int .i64 t.many]] w fun e w' => e = .returned (.bool (bigT t)) ∧ Nx w w' := by
  go_enter Tryz.func62, Tryz.ntmps62
  go_wp2
  go_ret
  exact ⟨ret_bool (by unfold bigT maxCents; rfl), (Nx.refl _).alloc _⟩

set_option maxRecDepth 100000 in
set_option maxHeartbeats 2000000 in
theorem w_IndexBig (lo : Nat) (A : Option Addr) (c : Nat) (l : List Tally) (w : World) (hR : Rd w lo A 4 encTally l) (hl : l.length ≤ 400) :
    Calls Tryz.prog 90 #[.slice A l.length c, .func (.func 62) #[] #[]] w fun e w' => ∃ r : Int, e = .returned (.int .i64 r) ∧ decide (0 ≤ r) = l.any bigT ∧ Nx w w' := by
  generalize hn : l.length = n at *
  have HR := hide hR
  have HN := hide hn
  clear hR hn
  go_enter Tryz.func90, Tryz.ntmps90
  go_wp2
  go_loopw [5, 8] (fun _ i wr => ∃ k : Nat, k ≤ n ∧ i = .int .i64 k ∧ Nx w wr ∧ (l.take k).any bigT = false) (fun _ i _ => n - (intOf i).toNat)
  case atStart => exact ⟨0, Nat.zero_le _, rfl, Nx.refl _, rfl⟩
  case round =>
    obtain ⟨k, hk, rfl, hbw, hq⟩ := hrel
    have HQ := hide hq
    clear hq
    by_cases hlt : k < n
    · have hlt' : k < l.length := by have := HN.out; omega
      obtain ⟨b, off, rfl, _, hb, hbr, hc⟩ := HR.out.open_ hbw (by omega)
      have c0 : wr.cell? ⟨b, off + k * 4, none⟩ = some (.int .i64 l[k].x) := hc k hlt' 0 _ rfl
      have c1 : wr.cell? ⟨b, off + k * 4 + 1, none⟩ = some (.int .i64 l[k].y) := hc k hlt' 1 _ rfl
      have c2 : wr.cell? ⟨b, off + k * 4 + 2, none⟩ = some (.int .i64 l[k].hour) := hc k hlt' 2 _ rfl
      have c3 : wr.cell? ⟨b, off + k * 4 + 3, none⟩ = some (.int .i64 l[k].many) := hc k hlt' 3 _ rfl
      clear hc
      cases hbig : bigT l[k]
      · go_wp2_with (go_at_call 62; refine (w_bounded1 l[k] _).mono ?_; rintro e w2 ⟨rfl, hn2⟩)
        go_roundw
        case rel => exact ⟨k + 1, by omega, by go_num, hbw.trans hn2, by rw [List.take_succ_eq_append_getElem hlt', List.any_append, HQ.out]; simp [hbig]⟩
        case measure => simp [intOf]; omega
      · go_wp2_with (go_at_call 62; refine (w_bounded1 l[k] _).mono ?_; rintro e w2 ⟨rfl, hn2⟩)
        go_ret
        refine ⟨_, rfl, ?_, hbw.trans hn2⟩
        rw [show l.any bigT = true from List.any_eq_true.2 ⟨l[k], List.getElem_mem hlt', hbig⟩]
        simp
    · go_wp2
      go_ret
      refine ⟨_, rfl, ?_, hbw⟩
      have := HQ.out
      rw [List.take_of_length_le (by have := HN.out; omega)] at this
      rw [this]; rfl

theorem w_ContainsBig (lo : Nat) (A : Option Addr) (c : Nat) (l : List Tally) (w : World) (hR : Rd w lo A 4 encTally l) (hl : l.length ≤ 400) :
    Calls Tryz.prog 61 #[.slice A l.length c, .func (.func 62) #[] #[]] w fun e w' => e = .returned (.bool (l.any bigT)) ∧ Nx w w' := by
  go_enter Tryz.func61, Tryz.ntmps61
  go_wp2_with (go_at_call 90; refine (w_IndexBig _ _ _ _ _ hR hl).mono ?_; rintro e w2 ⟨r, rfl, hr, hn2⟩)
  go_ret
  exact ⟨rfl, hn2⟩

set_option maxRecDepth 100000 in
set_option maxHeartbeats 2000000 in
theorem w_bounded (b n : Nat) (f : Spot → Int) (w : World) (hm : MpP w b n f) (hn : n ≤ 65536) (hf : ∀ k, 0 < f k → dom64 k) (keys : List Spot) (hk : ∀ k, 0 < f k → k ∈ keys) (hkl : keys.length ≤ 400) :
    Calls Tryz.prog 38 #[.map (some b)] w (Bnd f w) := by
  go_enter Tryz.func38, Tryz.ntmps38
  go_wp2_with (go_at_call 33; refine (w_placelisted _ _ _ _ hm hn hf).mono ?_; rintro e w2 ⟨A2, c2, ys, rfl, hL, hR2, hn2⟩)
  have hyl : ys.length ≤ 400 := by have := listed_len hL keys hk; omega
  have HB := hide (big_of hL)
  cases hbig : ys.any bigT
  · by_cases hf0 : talliesF ys = 0
    · have HE := hide hf0
      have HA := hide (show ∀ k, f k ≤ maxCents from fun k => Classical.byContradiction fun h1 => absurd (HB.out.2 ⟨k, by omega⟩) (by rw [hbig]; simp))
      have hf1 : (talliesF ys != 0) = false := by simpa using hf0
      clear hf0
      go_wp2_with (first
        | (go_at_call 61; refine (w_ContainsBig _ _ _ _ _ hR2 hyl).mono ?_; rintro e w3 ⟨rfl, hn3⟩)
        | (go_at_call 36; refine (w_CheckTallies _ _ _ _ _ (hR2.nx hn3) hyl).mono ?_; rintro e w4 ⟨rfl, hn4⟩))
      go_ret2
      exact ⟨A2, c2, talliesF ys, ys, .inr ⟨HA.out, ys, hL, rfl, by rw [HE.out, if_pos rfl]⟩, by rw [HE.out]; rfl, ((hR2.nx hn3).nx hn4).low (Nat.le_refl _), (hn2.trans hn3).trans hn4⟩
    · have HA := hide (show ∀ k, f k ≤ maxCents from fun k => Classical.byContradiction fun h1 => absurd (HB.out.2 ⟨k, by omega⟩) (by rw [hbig]; simp))
      have hf1 : (talliesF ys != 0) = true := by simpa using hf0
      have HF0 := hide hf0
      clear hf0
      go_wp2_with (first
        | (go_at_call 61; refine (w_ContainsBig _ _ _ _ _ hR2 hyl).mono ?_; rintro e w3 ⟨rfl, hn3⟩)
        | (go_at_call 36; refine (w_CheckTallies _ _ _ _ _ (hR2.nx hn3) hyl).mono ?_; rintro e w4 ⟨rfl, hn4⟩))
      go_ret2
      exact ⟨none, 0, talliesF ys, [], .inr ⟨HA.out, ys, hL, rfl, by rw [if_neg HF0.out]⟩, rfl, Rd.nil, (hn2.trans hn3).trans hn4⟩
  · have HA := hide (HB.out.1 hbig)
    go_wp2_with (go_at_call 61; refine (w_ContainsBig _ _ _ _ _ hR2 hyl).mono ?_; rintro e w3 ⟨rfl, hn3⟩)
    go_ret2
    exact ⟨none, 0, 1, [], .inl ⟨HA.out, rfl, rfl⟩, rfl, Rd.nil, hn2.trans hn3⟩

end Go.Proofs.YtfnbmcinbmbehaaGreat
