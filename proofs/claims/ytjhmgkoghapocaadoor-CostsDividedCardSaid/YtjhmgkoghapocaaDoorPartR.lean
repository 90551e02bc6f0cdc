/- The reference's parts: what is wrong with them; a whole given out by them. -/
import Derived.Test.YtjhmgkoghapocaaDoorPriced
import Derived.Test.YtjhmgkoghapocaaDoorHand
import Derived.Test.YtjhmgkoghapocaaDoorFairR
namespace Go.Proofs.YtjhmgkoghapocaaDoor
open Go.RowKit Go.Sort Go.Proofs Go.Shelf

set_option maxRecDepth 100000 in
set_option maxHeartbeats 1000000 in
theorem w_PartsFault (lo : Nat) (A : Option Addr) (c : Nat) (cents : Int) (parts : List Int) (w : World) (hR : Rd w lo A 1 encI parts) (hl : parts.length < 20) :
    Calls Tryd.prog 37 #[.int .i64 cents, .slice A parts.length c] w fun e w' => e = .returned (.int .i64 (partsF cents parts)) ∧ w = w' := by
  have i1 := inB_out cents 0 maxCt
  cases hd : centB cents
  · have HPO := hide (fun h3 => partsF_sum (parts := parts) hd hl h3)
    have HPA := hide (fun h3 => partsF_any (parts := parts) hd hl h3)
    generalize hn : parts.length = n at *
    have HR := hide hR
    have HN := hide hn
    unfold centB at hd
    rw [hd] at i1
    clear hR hn hd
    go_enter Tryd.func37, Tryd.ntmps37
    go_wp2_with (go_at_call 54; first | (rw [show (1000000000 : Int) = maxCt from rfl]; refine (w_in _ _ _ _).mono ?_; rintro e w' ⟨rfl, rfl⟩))
    go_loop [4, 5, 7, 18] (fun _ s _ i => ∃ k : Nat, k ≤ n ∧ i = .int .i64 k ∧ s = .int .i64 (sumL (parts.take k)) ∧ (parts.take k).any centB = false) (fun _ _ _ i => n - (intOf i).toNat)
    case atStart => exact ⟨0, Nat.zero_le _, rfl, rfl, rfl⟩
    case round =>
      obtain ⟨k, hk, rfl, rfl, hq⟩ := hrel
      have hsb := sum_right hq
      have hkl : (parts.take k).length ≤ k := List.length_take_le _ _
      have HQ := hide hq
      clear hq
      by_cases hlt : k < n
      · have hlt' : k < parts.length := by have := HN.out; omega
        have HT := hide (sumL_take parts k hlt')
        obtain ⟨b, off, rfl, _, hb, _, hc⟩ := HR.out.open_ (Nx.refl w) (by omega)
        have c0 : w.cell? ⟨b, off + k, none⟩ = some (.int .i64 parts[k]) := by have := hc k hlt' 0 _ rfl; simpa using this
        clear hc
        have ix := inB_out parts[k] 0 maxCt
        cases hx : centB parts[k]
        · have HX := hide (any_step hlt' HQ.out hx)
          have hxb := centB_bd hx
          unfold centB at hx
          rw [hx] at ix
          clear hx
          generalize sumL (parts.take k) = s at *
          generalize parts[k] = x at *
          go_wp2_with (go_at_call 54; first | (rw [show (1000000000 : Int) = maxCt from rfl]; refine (w_in _ _ _ _).mono ?_; rintro e w' ⟨rfl, rfl⟩))
          go_round
          case rel => exact ⟨k + 1, by omega, by go_num, by rw [HT.out], HX.out⟩
          case measure => simp [intOf]; omega
        · have HF := hide (HPA.out (any_at hlt' hx))
          unfold centB at hx
          rw [hx] at ix
          clear hx
          go_wp2_with (go_at_call 54; first | (rw [show (1000000000 : Int) = maxCt from rfl]; refine (w_in _ _ _ _).mono ?_; rintro e w' ⟨rfl, rfl⟩))
          go_ret
          exact ⟨ret_int (by rw [HF.out]), rfl⟩
      · have HK := hide (show parts.take k = parts from List.take_of_length_le (by have := HN.out; omega))
        rw [HK.out] at hsb HQ ⊢
        have HF := hide (HPO.out HQ.out)
        by_cases hz : sumL parts = 0
        · have t1 : (sumL parts == 0) = true := by simpa using hz
          have HZ := hide hz
          clear hz
          go_wp2_with fail
          go_ret
          exact ⟨ret_int (by rw [HF.out, if_pos HZ.out]), rfl⟩
        · have t1 : (sumL parts == 0) = false := by simpa using hz
          have HZ := hide hz
          clear hz
          go_wp2_with fail
          go_ret
          exact ⟨ret_int (by rw [HF.out, if_neg HZ.out]), rfl⟩
  · have HF := hide (partsF_cents (parts := parts) hd)
    clear hR
    generalize parts.length = n at *
    unfold centB at hd
    rw [hd] at i1
    clear hd
    go_enter Tryd.func37, Tryd.ntmps37
    go_wp2_with (go_at_call 54; first | (rw [show (1000000000 : Int) = maxCt from rfl]; refine (w_in _ _ _ _).mono ?_; rintro e w' ⟨rfl, rfl⟩))
    go_ret
    exact ⟨ret_int (by rw [HF.out]), rfl⟩

theorem partsF_right {cents : Int} {parts : List Int} (hl : parts.length < 20) (h : partsF cents parts = 0) : centB cents = false ∧ parts.any centB = false ∧ sumL parts ≠ 0 := by
  cases hd : centB cents
  · cases ha : parts.any centB
    · refine ⟨rfl, rfl, fun h0 => ?_⟩
      rw [partsF_sum hd hl ha, if_pos h0] at h
      cases h
    · rw [partsF_any hd hl ha] at h; cases h
  · rw [partsF_cents hd] at h; cases h

set_option maxRecDepth 100000 in
set_option maxHeartbeats 2000000 in
theorem w_DivideOf (lo : Nat) (A : Option Addr) (c : Nat) (cents : Int) (parts : List Int) (w : World) (hR : Rd w lo A 1 encI parts) (hl : parts.length < 20) (h0 : partsF cents parts = 0) :
    Calls Tryd.prog 39 #[.int .i64 cents, .slice A parts.length c] w fun e w' => ∃ (A' : Option Addr) (c' : Nat) (zs : List Int), e = .returned (.slice A' zs.length c') ∧ Divided cents parts zs ∧ Rd w' w.heap.size A' 1 encI zs ∧ Nx w w' := by
  obtain ⟨hd, ha, hz⟩ := partsF_right hl h0
  have hcb := centB_bd hd
  have hsb := sum_right ha
  have hpb : ∀ p ∈ parts, 0 ≤ p ∧ p ≤ 1000000000 := fun p hp => centB_bd (by cases h1 : centB p; rfl; exact absurd (List.any_eq_true.2 ⟨p, hp, h1⟩) (by rw [ha]; simp))
  have hmb : ∀ p ∈ parts, 0 ≤ cents * p ∧ cents * p ≤ 1000000000000000000 := fun p hp => by
    have h1 := hpb p hp
    have h2 := Int.mul_nonneg hcb.1 h1.1
    have h3 : cents * p ≤ 1000000000 * 1000000000 := Int.mul_le_mul hcb.2 h1.2 h1.1 (by omega)
    omega
  have HPB := hide hpb
  have HMB := hide hmb
  have hdl : (numsD cents parts).length = parts.length := by simp [numsD]
  have hqb := q_bd (S := sumL parts) hcb.1 (fun p hp => (hpb p hp).1) rfl (by omega)
  have HHd := hide (fun A' c' w' (hr : Rd w' w.heap.size A' 1 encI (numsD cents parts)) => w_handed _ A' c' cents (sumL parts) (numsD cents parts) w' hr (by omega) (by omega) (fun x hx => by
      obtain ⟨y, hy, rfl⟩ := List.mem_map.1 hx
      have := hmb y hy; omega) (fun x hx => by
      have := hqb (x / sumL parts) (List.mem_map.2 ⟨x, hx, rfl⟩)
      omega) hcb (numsD_sum cents parts))
  clear hmb hpb hqb hd ha hz h0
  generalize hn : parts.length = n at *
  have HR := hide hR
  have HN := hide hn
  have HDL := hide hdl
  obtain ⟨Z, hZ⟩ : ∃ Z, Z = madeCells #[.int .i64 0] n := ⟨_, rfl⟩
  have hmk := fun w => run_make_ints n (by omega) w
  have HZ := hide (made_ints n)
  rw [← hZ] at hmk HZ
  clear hR hn hdl hZ
  go_enter Tryd.func39, Tryd.ntmps39
  go_wp2
  clear hmk
  have h5 := own_made w n w.heap.size (by omega) (Nat.le_refl _) HZ.out
  rw [show List.replicate n (0 : Int) = fillN (numsD cents parts) 0 by rw [fillN_zero, HDL.out]] at h5
  have H5 := hide (And.intro h5 ((Nx.refl w).alloc (.cells Z 3)))
  clear h5 HZ
  go_loopw [6, 7, 8, 14] (fun s _ _ i wr => ∃ k : Nat, k ≤ n ∧ i = .int .i64 k ∧ s = .int .i64 (sumL (parts.take k)) ∧ 0 ≤ sumL (parts.take k) ∧ sumL (parts.take k) ≤ k * 1000000000 ∧ wr.ownsRow w.heap.size 3 1 (.slice (some ⟨w.heap.size, 0, none⟩) n n) n ((fillN (numsD cents parts) k).flatMap encI) ∧ Nx w wr) (fun _ _ _ i _ => n - (intOf i).toNat)
  case atStart => exact ⟨0, Nat.zero_le _, rfl, by simp [sumL], by simp [sumL], by simp [sumL], H5.out.1, H5.out.2⟩
  case round =>
    clear H5
    obtain ⟨k, hk, rfl, rfl, hs0, hs1, h5, hbw⟩ := hrel
    have hb5 := h5.lt _ rfl
    by_cases hlt : k < n
    · have hlt' : k < parts.length := by have := HN.out; omega
      obtain ⟨b, off, rfl, _, hb, hbr, hc⟩ := HR.out.open_ hbw (by omega)
      have c0 : wr.cell? ⟨b, off + k, none⟩ = some (.int .i64 parts[k]) := by have := hc k hlt' 0 _ rfl; simpa using this
      clear hc
      have hpk := HPB.out _ (List.getElem_mem hlt')
      have hmk := HMB.out _ (List.getElem_mem hlt')
      have hfl : (fillN (numsD cents parts) k).length = n := by rw [fillN_len _ _ (by rw [HDL.out]; exact hk), HDL.out]
      have hkd : k < (numsD cents parts).length := by rw [HDL.out]; exact hlt
      have hfs := fillN_set (numsD cents parts) k hkd
      have hde : (numsD cents parts)[k] = cents * parts[k] := by simp [numsD]
      rw [hde] at hfs
      have HT := hide (sumL_take parts k hlt')
      have d5 : wr.cell? ⟨w.heap.size, k, none⟩ = some (.int .i64 ((fillN (numsD cents parts) k)[k]'(by omega))) := by have := own_cell encI_len hfl h5 k (by omega) 0 _ rfl; simpa using this
      have f5 : wr.frozen? ⟨w.heap.size, k, none⟩ = false := h5.frozenAt _
      have h5s := own_set encI_len hfl h5 k (by omega) 0 (by omega) (.int .i64 (cents * parts[k])) (cents * parts[k]) rfl k (by omega)
      rw [hfs] at h5s
      have hbt := hbw.setCell (p := ⟨w.heap.size, k, none⟩) (Nat.le_refl _) (.int .i64 (cents * parts[k]))
      have H5 := hide (And.intro h5s hbt)
      generalize (fillN (numsD cents parts) k)[k]'(by omega) = y5 at d5
      generalize sumL (parts.take k) = s at *
      generalize parts[k] = x at *
      clear hfs hde h5 h5s hbt hfl
      go_wp2_with fail
      go_roundw
      case rel => exact ⟨k + 1, by omega, by go_num, by rw [HT.out], by rw [HT.out]; omega, by rw [HT.out]; omega, H5.out.1, H5.out.2⟩
      case measure => simp [intOf]; omega
    · have ek : k = n := by omega
      subst ek
      rw [show parts.take k = parts from List.take_of_length_le (by have := HN.out; omega)]
      rw [show fillN (numsD cents parts) k = numsD cents parts from by rw [← HDL.out, fillN_all]] at h5
      have hrd := rd_own encI_len HDL.out h5
      have hHd := HHd.out (some ⟨w.heap.size, 0, none⟩) k wr hrd
      rw [HDL.out] at hHd
      have HH := hide hHd
      clear hHd HHd hrd hs0 hs1 hsb h5 hb5
      generalize hSe : sumL parts = S at *
      have HSE := hide hSe
      clear hSe
      go_wp2_with (go_at_call 55; refine HH.out.mono ?_; rintro e w2 ⟨A', c', zs, rfl, hzs, hR2, hn2⟩)
      go_ret
      exact ⟨A', c', zs, rfl, by unfold Divided; rw [HSE.out]; exact hzs, hR2.low hbw.sz, hbw.trans hn2⟩
end Go.Proofs.YtjhmgkoghapocaaDoor
