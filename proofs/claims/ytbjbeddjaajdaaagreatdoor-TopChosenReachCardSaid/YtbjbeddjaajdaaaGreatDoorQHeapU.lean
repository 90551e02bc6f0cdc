/- The library's heap over the queue: up, down. -/
import Derived.Test.YtbjbeddjaajdaaaGreatDoorQHeapN
import Derived.Deep.DeepCutAuto
namespace Go.Proofs.YtbjbeddjaajdaaaGreatDoor
open Go.RowKit

/-- The queue's exits lie in block g. -/
def QA (base gq g cap : Nat) (w : World) (l : List Ext) : Prop := w.heap[gq]? = some (.cells #[.slice (some ⟨g, 0, none⟩) l.length cap] 230 (0, 0)) ∧ ORow base w (.slice (some ⟨g, 0, none⟩) l.length cap) l ∧ gq < base
/-- Some bool comes back. -/
def RetB (e : Ending) : Prop := ∃ b, e = .returned (.bool b)
section
variable {base gq g cap : Nat} {w w' : World} {l : List Ext}
theorem QA.cell (h : QA base gq g cap w l) : w.cell? ⟨gq, 0, none⟩ = some (.slice (some ⟨g, 0, none⟩) l.length cap) := (cell_of_row w gq 0 _ _ _ h.1).trans rfl
theorem QA.ne (h : QA base gq g cap w l) : gq ≠ g := by
  have := own_blk_lt h.2.1 g rfl
  have := h.2.2
  omega
theorem QA.gr (h : QA base gq g cap w l) {l' : List Ext} (hl : l'.length = l.length) (hg : w.grownBy w' (some g)) (hO : ORow base w' (.slice (some ⟨g, 0, none⟩) l.length cap) l') : QA base gq g cap w' l' := by
  have hne := h.ne
  refine ⟨?_, by rw [hl]; exact hO, h.2.2⟩
  rw [hl]
  exact (hg.block gq (Array.getElem?_eq_some_iff.1 h.1).1 (fun e => by injection e with e; exact hne e)).trans h.1
theorem QA.nx (h : QA base gq g cap w l) (hn : Nx w w') : QA base gq g cap w' l := h.gr rfl (hn.gr _) (own_nx h.2.1 hn)
end
set_option maxRecDepth 100000 in
set_option maxHeartbeats 4000000 in
theorem w_hup (base gq g cap : Nat) (l : List Ext) (j : Nat) (w : World) (hQ : QA base gq g cap w l) (hj : j < l.length) (hl : l.length ≤ 1000000) :
    Calls Tryz.prog 190 #[.iface 232 (.pointer (some ⟨gq, 0, none⟩)), .int .i64 (j : Int)] w fun e w' => e = .returned (.tuple #[]) ∧ QA base gq g cap w' (hup l j) ∧ Gr g w w' := by
  generalize hR : hup l j = R at *
  have HQ := hide hQ
  have HR := hide hR
  clear hQ hR
  generalize hn : l.length = n at *
  have HN := hide hn
  clear hn
  go_enter Tryz.func190, Tryz.ntmps190
  go_wp2_with fail
  go_loopw [1] (fun vj wr => ∃ (k : Nat) (m : List Ext), vj = .int .i64 k ∧ k < n ∧ m.length = n ∧ hup m k = R ∧ QA base gq g cap wr m ∧ Gr g w wr) (fun vj _ => (intOf vj).toNat)
  case atStart => exact ⟨j, l, rfl, hj, HN.out, HR.out, HQ.out, Gr.refl _ _⟩
  case round =>
    obtain ⟨k, m, rfl, hk, hm, hRm, hQr, hgr⟩ := hrel
    have HRM := hide hRm
    have HQR := hide hQr
    have hLs := m_Less gq (some ⟨g, 0, none⟩) m.length cap wr hQr.cell
    clear hRm hQr
    by_cases h0 : k = 0
    · subst h0
      have e0 : hup m 0 = m := by unfold hup; simp
      rw [e0] at HRM
      go_wp2_with fail
      go_end0
      exact ⟨rfl, by rw [← HRM.out]; exact HQR.out, hgr⟩
    · obtain ⟨i, hi⟩ : ∃ i : Nat, i = (k - 1) / 2 := ⟨_, rfl⟩
      have hik : i < k := by omega
      have q1 : ((k : Int) - 1) / 2 = (i : Int) := by omega
      have hne : ((i : Int) == (k : Int)) = false := by simpa using (show (i : Int) ≠ (k : Int) by omega)
      have hks : 1 ≤ k := by omega
      have HL := hide (w_QLess base g cap m k i wr HQR.out.2.1 (by omega) (by omega))
      have HSW := hide (fun W (hx : Nx wr W) => w_QSwap base g cap m i k W (own_nx HQR.out.2.1 hx) (by omega) (by omega))
      have HMS := hide (fun W (hx : Nx wr W) => m_Swap gq (some ⟨g, 0, none⟩) m.length cap W ((HQR.out.nx hx).cell))
      have HST := hide (show hup m k = if extLt (gx m k) (gx m i) then hup (swapL m i k) i else m by rw [hi]; conv => lhs; unfold hup; rw [dif_neg h0])
      have HI := hide hi
      clear hi h0
      generalize extLt (gx m k) (gx m i) = B at *
      have HMN := hide hm
      rw [hm] at hLs HL HSW HMS
      clear hm
      cases B
      · go_wp2_with (go_at_call 282; refine HL.out.mono ?_; rintro e w2 ⟨rfl, hn2⟩)
        go_end0
        refine ⟨rfl, ?_, hgr.then_nx hn2⟩
        rw [← HRM.out, HST.out]
        exact HQR.out.nx hn2
      · have HM2 := hide HMS.out
        go_wp2_with (go_at_call 282; refine HL.out.mono ?_; rintro e w2 ⟨rfl, hn2⟩; (have hMS := HMS.out w2 hn2))
        refine (HSW.out _ hn2).mono ?_
        rintro e w3 ⟨rfl, hO3, hg3⟩
        go_wp2_with fail
        go_roundw
        case rel => exact ⟨i, swapL m i k, rfl, by omega, by rw [swapL_len]; exact HMN.out, by rw [← HRM.out, HST.out]; rfl, (HQR.out.nx hn2).gr (by rw [swapL_len]) hg3 (by rw [HMN.out]; exact hO3), (hgr.then_nx hn2).trans hg3⟩
        case measure => simp [intOf]; omega
set_option maxRecDepth 100000 in
set_option maxHeartbeats 8000000 in
theorem w_hdown (base gq g cap : Nat) (l : List Ext) (n : Nat) (w : World) (hQ : QA base gq g cap w l) (hn : n < l.length) (hl : l.length ≤ 1000000) :
    Calls Tryz.prog 191 #[.iface 232 (.pointer (some ⟨gq, 0, none⟩)), .int .i64 0, .int .i64 (n : Int)] w fun e w' => RetB e ∧ QA base gq g cap w' (hdown l 0 n) ∧ Gr g w w' := by
  generalize hR : hdown l 0 n = R at *
  have HQ := hide hQ
  have HR := hide hR
  clear hQ hR
  generalize hN : l.length = N at *
  have HN := hide hN
  clear hN
  go_enter Tryz.func191, Tryz.ntmps191
  go_wp2_with fail
  go_loopw [7] (fun vj wr => ∃ (k : Nat) (m : List Ext), vj = .int .i64 k ∧ k ≤ N ∧ m.length = N ∧ hdown m k n = R ∧ QA base gq g cap wr m ∧ Gr g w wr) (fun vj _ => n - (intOf vj).toNat)
  case atStart => exact ⟨0, l, rfl, Nat.zero_le _, HN.out, HR.out, HQ.out, Gr.refl _ _⟩
  case round =>
    obtain ⟨k, m, rfl, hk, hm, hRm, hQr, hgr⟩ := hrel
    have HRM := hide hRm
    have HQR := hide hQr
    clear hRm hQr
    by_cases hlt : 2 * k + 1 < n
    · obtain ⟨c, hc⟩ : ∃ c, c = kidN m k n := ⟨_, rfl⟩
      have hcc : c < n ∧ k < c := by have := kidN_or m k n; omega
      have HST := hide (show hdown m k n = if extLt (gx m c) (gx m k) then hdown (swapL m k c) c n else m by rw [hc]; conv => lhs; unfold hdown; rw [dif_pos hlt])
      have HC := hide (show c = if 2 * k + 2 < n ∧ extLt (gx m (2 * k + 2)) (gx m (2 * k + 1)) = true then 2 * k + 2 else 2 * k + 1 from hc)
      clear hc
      have HL := hide (fun a b (ha : a < m.length) (hb : b < m.length) W (hx : Nx wr W) => w_QLess base g cap m a b W (own_nx HQR.out.2.1 hx) ha hb)
      have HML := hide (fun W (hx : Nx wr W) => m_Less gq (some ⟨g, 0, none⟩) m.length cap W ((HQR.out.nx hx).cell))
      have HSW := hide (fun W (hx : Nx wr W) => w_QSwap base g cap m k c W (own_nx HQR.out.2.1 hx) (by omega) (by omega))
      have HMS := hide (fun W (hx : Nx wr W) => m_Swap gq (some ⟨g, 0, none⟩) m.length cap W ((HQR.out.nx hx).cell))
      have HMN := hide hm
      rw [hm] at HL HSW HMS HML
      clear hm
      have hLs := HML.out wr (Nx.refl _)
      obtain ⟨B', hB'⟩ : ∃ B', B' = decide (c = 2 * k + 2) := ⟨_, rfl⟩
      have HBC := hide hB'
      clear hB'
      go_upto_region 6 with fail
      go_cut [33] (fun v wx => v = .bool B' ∧ Nx wr wx)
      case first =>
        by_cases h2 : 2 * k + 2 < n
        · have HL2 := hide (HL.out (2 * k + 2) (2 * k + 1) (by omega) (by omega) wr (Nx.refl _))
          rw [show ((2 * k + 2 : Nat) : Int) = 2 * (k : Int) + 1 + 1 by omega, show ((2 * k + 1 : Nat) : Int) = 2 * (k : Int) + 1 by omega] at HL2
          have h2' : decide (2 * (k : Int) + 1 + 1 < (n : Int)) = true := decide_eq_true (by omega)
          have hBB : extLt (gx m (2 * k + 2)) (gx m (2 * k + 1)) = B' := by
            rw [HBC.out]
            have := HC.out
            cases hx : extLt (gx m (2 * k + 2)) (gx m (2 * k + 1)) with
            | true => rw [if_pos ⟨h2, hx⟩] at this; simp [this]
            | false => rw [if_neg (fun h => by rw [hx] at h; cases h.2)] at this; simp [this]
          rw [hBB] at HL2
          clear hBB
          go_wp2_with (go_at_call 282; refine HL2.out.mono ?_; rintro e w2 ⟨rfl, hn2⟩)
          go_meet
          exact ⟨rfl, hn2⟩
        · have h2' : decide (2 * (k : Int) + 1 + 1 < (n : Int)) = false := decide_eq_false (by omega)
          have hBB : B' = false := by
            rw [HBC.out]
            have := HC.out
            rw [if_neg (fun h => h2 h.1)] at this
            simp [this]
          subst hBB
          clear h2
          go_wp2_with fail
          go_meet
          exact ⟨rfl, Nx.refl _⟩
      case rest =>
        obtain ⟨rfl, hx⟩ := hcut
        clear hLs
        have hLs := HML.out wc hx
        have HL3 := hide (HL.out c k (by omega) (by omega) wc hx)
        have HSW2 := hide (fun W hx => HSW.out W hx)
        have HC2 := hide (show c = 2 * k + 1 ∨ c = 2 * k + 2 by have := HC.out; split at this <;> omega)
        have hcv : (c : Int) = if B' then 2 * (k : Int) + 1 + 1 else 2 * (k : Int) + 1 := by
          rw [HBC.out]
          rcases HC2.out with h | h
          · rw [if_neg (by simp; omega)]; omega
          · rw [if_pos (by simp; omega)]; omega
        have HCV := hide hcv
        clear hlt HSW hcv
        generalize extLt (gx m c) (gx m k) = B at *
        cases B'
        all_goals
          have hcv := HCV.out
          simp only [if_pos, Bool.false_eq_true, if_false] at hcv
          rw [hcv] at HL3 HSW2
          have HCE := hide hcv
          clear hcv HCV HBC
          cases B
          · go_wp2_with (go_at_call 282; refine HL3.out.mono ?_; rintro e w2 ⟨rfl, hn2⟩)
            go_ret
            refine ⟨⟨_, rfl⟩, ?_, hgr.then_nx (hx.trans hn2)⟩
            rw [← HRM.out, HST.out]
            exact HQR.out.nx (hx.trans hn2)
          · go_wp2_with (go_at_call 282; refine HL3.out.mono ?_; rintro e w2 ⟨rfl, hn2⟩; (have hMS := HMS.out w2 (hx.trans hn2)))
            refine (HSW2.out _ (hx.trans hn2)).mono ?_
            rintro e w3 ⟨rfl, hO3, hg3⟩
            go_wp2_with fail
            go_roundw
            case rel => exact ⟨c, swapL m k c, by rw [HCE.out], by omega, by rw [swapL_len]; exact HMN.out, by rw [← HRM.out, HST.out]; rfl, (HQR.out.nx (hx.trans hn2)).gr (by rw [swapL_len]) hg3 (by rw [HMN.out]; exact hO3), (hgr.then_nx (hx.trans hn2)).trans hg3⟩
            case measure => simp [intOf]; have := HCE.out; omega
    · have e0 : hdown m k n = m := by unfold hdown; rw [dif_neg hlt]
      rw [e0] at HRM
      go_wp2_with fail
      go_ret
      exact ⟨⟨_, rfl⟩, by rw [← HRM.out]; exact HQR.out, hgr⟩
end Go.Proofs.YtbjbeddjaajdaaaGreatDoor
