/- jitlaw1.TopsFound returns true. -/
import Derived.Test.YthlhomcgjgfdhaaGreatDoorQTalE
import Derived.Test.YthlhomcgjgfdhaaGreatDoorQTalH
import Derived.Test.YthlhomcgjgfdhaaGreatDoorQTopX
import Derived.Test.YthlhomcgjgfdhaaGreatDoorQSurF
import Derived.Test.YthlhomcgjgfdhaaGreatDoorQTalC
import Derived.Test.YthlhomcgjgfdhaaGreatDoorQStrS
import Derived.Test.YthlhomcgjgfdhaaGreatDoorQG6
import Derived.Test.YthlhomcgjgfdhaaGreatDoorQG29
import Derived.Deep.DeepCutAuto
namespace Go.Proofs.YthlhomcgjgfdhaaGreatDoor
open Go.RowKit

theorem w_whenF (b : Bool) (z : Int) (w : World) : Calls Tryz.prog 12 #[.bool b, .int .i64 z] w fun e w' => e = .returned (.int .i64 (if b then z else 0)) ∧ w = w' := by
  cases b
  all_goals
    go_enter Tryz.func12, Tryz.ntmps12
    go_wp2
    go_ret
    exact ⟨rfl, rfl⟩
theorem tal_i64 {L : List Tally} (h : talliesF L = 0) : ∀ t ∈ L, I64T t := by
  intro t ht
  obtain ⟨q, hq⟩ := chkT_all (f := tallyF) h t ht
  have hv : tallyV t = true := by
    unfold tallyF at hq
    split at hq
    · assumption
    · cases hq
  unfold tallyV at hv
  simp only [Bool.and_eq_true, Bool.not_eq_true', outB_false, isPtB_true] at hv
  unfold maxCents at hv
  intro n hn
  simp only [tallyW, List.mem_cons, List.not_mem_nil, or_false] at hn
  rcases hn with rfl | rfl | rfl | rfl <;> omega
theorem topL_len (h : Int) (m : Nat) (l : List Tally) : (topL h m l).length ≤ l.length := by
  unfold topL
  rw [List.length_map, List.length_take, sortT_len]
  exact Nat.le_trans (Nat.min_le_right _ _) (List.length_filter_le _ _)
theorem topF_zero {l : List Tally} {h m : Int} (h0 : topF l h m = 0) : talliesF l = 0 ∧ (0 ≤ h ∧ h ≤ 167) ∧ (0 ≤ m ∧ m ≤ 400) := by
  rw [topF_val] at h0
  split at h0
  · rename_i hf
    split at h0
    · cases h0
    · rename_i h1
      split at h0
      · cases h0
      · rename_i h2
        exact ⟨hf, outB_false.1 (by simpa using h1), outB_false.1 (by simpa using h2)⟩
  · rename_i hf; exact absurd h0 hf
theorem surV_zero {need hv : Int} {l : List Frac} (h : surF need hv l ≠ 0) : surV need hv l = 0 := by unfold surV; rw [if_neg h]
theorem surV_ok {need hv : Int} {l : List Frac} (h : surF need hv l = 0) : surV need hv l = surP need hv l 100 ∧ centB need = false ∧ centB hv = false := by
  refine ⟨by unfold surV; rw [if_pos h], ?_⟩
  unfold surF at h
  split at h
  · cases h
  · rename_i h1
    simpa using h1
set_option maxRecDepth 100000 in
set_option maxHeartbeats 4000000 in
theorem w_lawTF (A0 : Option Addr) (n0 c0 : Nat) (w : World) (hn : n0 ≤ 9223372036854775807)
    (hL : 0 < n0 → ∃ b off, A0 = some ⟨b, off, none⟩ ∧ b < w.heap.size ∧ ∀ j, j < n0 → ∃ z : Int, w.cell? ⟨b, off + j, none⟩ = some (.int .i64 z) ∧ -9223372036854775808 ≤ z ∧ z ≤ 9223372036854775807) (hT : PowTab w) (hM : MaxI w) :
    Calls Tryz.prog 3 #[.slice A0 n0 c0] w (TrueNx w) := by
  have hS0 : Str (w.alloc (.cells #[.slice A0 n0 c0, .int .i64 0] 25)) w.heap.size 0 := str_new A0 n0 c0 w hn hL
  clear hL
  obtain ⟨s, hs⟩ : ∃ s, s = w.heap.size := ⟨_, rfl⟩
  obtain ⟨w0, hw0⟩ : ∃ w0, w0 = w.alloc (.cells #[.slice A0 n0 c0, .int .i64 0] 25) := ⟨_, rfl⟩
  have HW0 := hide (show Nx w w0 from hw0 ▸ (Nx.refl w).alloc _)
  have HSS := hide (show w.heap.size ≤ s by omega)
  have HTG := hide (show ∀ w', Gr s w0 w' → PowTab w' from fun w' hg => tab_nx hT (Nx.of_gr ((Gr.of_nx HW0.out).trans hg) HSS.out))
  have HMG := hide (show ∀ w', Gr s w0 w' → MaxI w' from fun w' hg => hM.nx (Nx.of_gr ((Gr.of_nx HW0.out).trans hg) HSS.out))
  rw [← hw0, ← hs] at hS0
  have HS0 := hide hS0
  have hs0 := hS0.lt
  clear hS0 hT hM
  go_enter Tryz.func3, Tryz.ntmps3
  go_upto_region 2 with fail
  rw [← hw0, ← hs]
  clear hw0 hs
  go_wp2_with fail
  refine (w_TallyListH s 0 _ HS0.out (by omega)).mono ?_
  rintro e w1 ⟨A, c, l, rfl, hl24, h20, hR, hg1, hS1⟩
  have HL24 := hide hl24
  have H20 := hide h20
  have HR := hide hR
  have HG1 := hide hg1
  have HS1 := hide hS1
  have hz1 := hg1.sz
  clear hl24 h20 hR hg1 hS1
  obtain ⟨n, hnl⟩ : ∃ n, n = l.length := ⟨_, rfl⟩
  rw [← hnl]
  have HNL := hide hnl
  clear hnl
  go_wp2_with fail
  refine (w_PickI _ [0, 8, 167, 168] _ _ _ _ (HS1.out.nx ((Nx.refl _).alloc _)) (by omega) (hnew rfl) (by have := HS1.out.lt; omega) rfl (by simp) (by simp)).mono ?_
  rintro e w2 ⟨hour, _, rfl, hg2, hS2⟩
  have HG12 := hide (((Gr.refl s w1).alloc _).trans hg2)
  have HS2 := hide hS2
  clear hg2 hS2
  go_wp2_with fail
  refine (w_PickI _ [0, 1, 3, 20, -1, 401] _ _ _ _ (HS2.out.nx ((Nx.refl _).alloc _)) (by omega) (hnew rfl) (by have := HS2.out.lt; omega) rfl (by simp) (by simp)).mono ?_
  rintro e w3 ⟨many, hmany, rfl, hg3, hS3⟩
  have HG13 := hide (HG12.out.trans (((Gr.refl s w2).alloc _).trans hg3))
  have HS3 := hide hS3
  have HMY := hide (show -1 ≤ many ∧ many ≤ 401 by simp only [List.mem_cons, List.not_mem_nil, or_false] at hmany; omega)
  clear hg3 hS3 hmany HG12 HS2 HS1
  have HR3 := hide (fun W (h : Gr s w3 W) => (HR.out.gr (HG13.out.trans h) (by omega)).low (Nat.zero_le _))
  have HG3 := hide (HG1.out.trans HG13.out)
  clear HR HG13 HG1
  obtain ⟨F, hF⟩ : ∃ F, F = talliesF l := ⟨_, rfl⟩
  have HFE := hide hF
  have HTF := hide (fun W (hn : Nx w3 W) => (show Calls Tryz.prog 8 #[.slice A n c] W fun e w' => e = .returned (.int .i64 F) ∧ Nx W w' from by
    rw [hF, HNL.out]
    exact w_TalliesFault 0 A c l W (HR3.out W (Gr.of_nx hn)) (by have := HL24.out; omega)))
  clear hF
  obtain ⟨V, hV⟩ : ∃ V, V = topF l hour many := ⟨_, rfl⟩
  have HVE := hide hV
  obtain ⟨m, hm⟩ : ∃ m, m = many.toNat := ⟨_, rfl⟩
  have HM := hide hm
  have HVM := hide (show V = 0 → F = 0 ∧ (0 ≤ hour ∧ hour ≤ 167) ∧ (m : Int) = many ∧ m ≤ 400 from fun h0 => by
    obtain ⟨a, b, c⟩ := topF_zero (hV ▸ h0)
    exact ⟨HFE.out.trans a, b, by omega, by omega⟩)
  obtain ⟨TL, hTL⟩ : ∃ TL, TL = topL hour m l := ⟨_, rfl⟩
  have HTLL := hide (show TL.length ≤ 24 by rw [hTL]; have := topL_len hour m l; have := HL24.out; omega)
  have HTP : Hid (∀ W, Nx w3 W → Calls Tryz.prog 9 #[.slice A n c, .int .i64 hour, .int .i64 many] W fun e w' => ∃ (B : Option Addr) (nb d : Nat), e = .returned (.tuple #[.slice B nb d, .int .i64 V]) ∧ (V = 0 → nb = TL.length ∧ Rd w' W.heap.size B 2 encCell TL) ∧ (V ≠ 0 → nb = 0) ∧ Nx W w') := hide (fun W hn => by
    by_cases h0 : V = 0
    · obtain ⟨a, b, d, e⟩ := HVM.out h0
      have h := w_TopO 0 A c l hour m W (HR3.out W (Gr.of_nx hn)) (by have := HL24.out; omega) (H20.out hour) e (HFE.out.symm.trans a) b
      rw [← HNL.out, d, ← hTL] at h
      refine h.mono ?_
      rintro e w' ⟨B, d, rfl, hr, hn⟩
      exact ⟨B, _, d, by rw [h0], fun _ => ⟨rfl, hr⟩, fun h => absurd h0 h, hn⟩
    · have h := w_TopX 0 A c l hour many W (HR3.out W (Gr.of_nx hn)) (by have := HL24.out; omega) (hV ▸ h0)
      rw [← HNL.out, ← hV] at h
      refine h.mono ?_
      rintro e w' ⟨rfl, hn⟩
      exact ⟨none, 0, 0, rfl, fun h => absurd h h0, fun _ => rfl, hn⟩)
  have HTO : Hid (V = 0 → ∀ W, Nx w3 W → Calls Tryz.prog 14 #[.slice A n c, .int .i64 hour, .int .i64 many] W fun e w' => ∃ (B : Option Addr) (d : Nat), e = .returned (.slice B TL.length d) ∧ Rd w' W.heap.size B 2 encCell TL ∧ Nx W w') := hide (fun h0 W hn => by
    obtain ⟨a, b, d, e⟩ := HVM.out h0
    have h := w_TopOf 0 A c l hour m W (HR3.out W (Gr.of_nx hn)) (by have := HL24.out; omega) (H20.out hour) e
    rw [← HNL.out, d, ← hTL] at h
    exact h)
  clear hTL hV hm
  go_wp2_with fail
  refine (HTF.out _ (Nx.refl _)).mono ?_
  rintro e w4 ⟨rfl, hn4⟩
  go_wp2_with fail
  refine (HTP.out _ hn4).mono ?_
  rintro e w5 ⟨B, nb, d, rfl, hB0, hB1, hn5⟩
  have HB0 := hide hB0
  have HB1 := hide hB1
  have HN5 := hide (hn4.trans hn5)
  clear hB0 hB1 hn4 hn5 HTF HTP
  go_upto_region 5 with fail
  go_cut [10] (fun v wx => v = .int .i64 V ∧ Nx w5 wx)
  case first =>
    by_cases hm0 : many < 0
    · have HV1 := hide (show V = orI [F, hourF hour, 1] by rw [HVE.out, HFE.out]; unfold topF; simp [hm0])
      clear HVE
      go_wp2_with (first
        | (go_at_call 11; refine (w_HourFault _ _).mono ?_; rintro e w' ⟨rfl, rfl⟩)
        | (go_at_call 12; refine (w_whenF true 1 _).mono ?_; rintro e w' ⟨rfl, rfl⟩)
        | (go_at_call 10; refine (w_Or3R _ _ _ _ _ (hnew rfl)).mono ?_; rintro e w' ⟨rfl, rfl⟩))
      go_meet
      exact ⟨by rw [HV1.out], (Nx.refl _).alloc _⟩
    · by_cases hm4 : 400 < many
      · have HV1 := hide (show V = orI [F, hourF hour, 1] by rw [HVE.out, HFE.out]; unfold topF; simp [hm4])
        clear HVE
        go_wp2_with (first
          | (go_at_call 11; refine (w_HourFault _ _).mono ?_; rintro e w' ⟨rfl, rfl⟩)
          | (go_at_call 12; refine (w_whenF true 1 _).mono ?_; rintro e w' ⟨rfl, rfl⟩)
          | (go_at_call 10; refine (w_Or3R _ _ _ _ _ (hnew rfl)).mono ?_; rintro e w' ⟨rfl, rfl⟩))
        go_meet
        exact ⟨by rw [HV1.out], (Nx.refl _).alloc _⟩
      · have HV1 := hide (show V = orI [F, hourF hour, 0] by rw [HVE.out, HFE.out]; unfold topF; simp [hm0, hm4])
        have HW3 : Hid (∀ W : World, Calls Tryz.prog 12 #[.bool (decide (many < 0) || decide (400 < many)), .int .i64 1] W fun e w' => e = .returned (.int .i64 0) ∧ W = w') := hide (fun W => by
          have h := w_whenF (decide (many < 0) || decide (400 < many)) 1 W
          rw [show (decide (many < 0) || decide (400 < many)) = false by simp [hm0, hm4]] at h ⊢
          exact h)
        clear HVE
        go_wp2_with (first
          | (go_at_call 11; refine (w_HourFault _ _).mono ?_; rintro e w' ⟨rfl, rfl⟩)
          | (go_at_call 12; refine (HW3.out _).mono ?_; rintro e w' ⟨rfl, rfl⟩)
          | (go_at_call 10; refine (w_Or3R _ _ _ _ _ (hnew rfl)).mono ?_; rintro e w' ⟨rfl, rfl⟩))
        go_meet
        exact ⟨by rw [HV1.out], (Nx.refl _).alloc _⟩
  case rest =>
  obtain ⟨rfl, hn6⟩ := hcut
  obtain ⟨w6, hw6⟩ : ∃ w6, w6 = wc := ⟨_, rfl⟩
  rw [← hw6] at hn6 ⊢
  have HN6 := hide (HN5.out.trans hn6)
  have HN56 := hide hn6
  clear hw6 hn6 HVE
  go_upto_region 6 with fail
  go_cut [80] (fun v wx => v = .bool false ∧ Nx w6 wx)
  case first =>
    by_cases h0 : V = 0
    · obtain ⟨hnb, hRB⟩ := HB0.out h0
      have HRB := hide hRB
      have HTO1 := hide (HTO.out h0)
      subst h0
      subst hnb
      clear hRB HB0 HB1 HTO HVM
      go_wp2_with (first
        | (go_at_call 14; refine (HTO1.out _ HN6.out).mono ?_; rintro e w7 ⟨B7, d7, rfl, hR7, hn7⟩)
        | (go_at_call 13; refine (w_EqualC _ _ B B7 d d7 TL w7 (HRB.out.nx (HN56.out.trans hn7)) hR7 (by have := HTLL.out; omega)).mono ?_; rintro e w8 ⟨rfl, hn8⟩))
      go_meet
      exact ⟨rfl, hn7.trans hn8⟩
    · have hnb := HB1.out h0
      subst hnb
      have t1 : (V == 0) = false := by simpa using h0
      have t2 : (V != 0) = true := by simpa using h0
      clear h0 HB0 HB1 HTO HVM
      go_wp2_with fail
      go_meet
      exact ⟨rfl, Nx.refl _⟩
  case rest =>
  obtain ⟨rfl, hn7⟩ := hcut
  obtain ⟨w7, hw7⟩ : ∃ w7, w7 = wc := ⟨_, rfl⟩
  rw [← hw7] at hn7 ⊢
  have HN7 := hide (HN6.out.trans hn7)
  have HS7 := hide (HS3.out.nx HN7.out)
  clear hw7 hn7 HN6 HN56 HN5 HB0 HB1 HTO HTLL HVM HM HMY H20
  go_upto_region 8 with fail
  have HG7 := hide (HG3.out.then_nx HN7.out)
  go_wp2_with fail
  refine (w_PickI _ [0, 1, 5, 30, -1] _ _ _ _ (HS7.out.nx ((Nx.refl _).alloc _)) (by omega) (hnew rfl) (by have := HS7.out.lt; omega) rfl (by simp) (by simp)).mono ?_
  rintro e w8 ⟨nd, _, rfl, hg8, hS8⟩
  have HG78 := hide (((Gr.refl s w7).alloc _).trans hg8)
  have HS8 := hide hS8
  clear hg8 hS8
  go_wp2_with fail
  refine (w_PickI _ [0, 0, 1, 4, 10] _ _ _ _ (HS8.out.nx ((Nx.refl _).alloc _)) (by omega) (hnew rfl) (by have := HS8.out.lt; omega) rfl (by simp) (by simp)).mono ?_
  rintro e w9 ⟨hv, _, rfl, hg9, hS9⟩
  have HG79 := hide (HG78.out.trans (((Gr.refl s w8).alloc _).trans hg9))
  have HS9 := hide hS9
  clear hg9 hS9
  go_wp2_with fail
  refine (w_Tiers 100 1000 s _ _ HS9.out (by omega) (by omega)).mono ?_
  rintro e w10 ⟨D, cd, st, rfl, hst, hRD, hg10, hS10⟩
  have HST := hide hst
  have HRD := hide hRD
  have HG10 := hide (HG7.out.trans (HG79.out.trans hg10))
  have HG310 := hide ((Gr.of_nx HN7.out).trans (HG79.out.trans hg10))
  have HS10 := hide hS10
  have hz10 := hg10.sz
  clear hst hRD hg10 hS10 HG79 HG78 HS9 HS8 HS7
  obtain ⟨G, hG⟩ : ∃ G, G = surF nd hv st := ⟨_, rfl⟩
  obtain ⟨U, hU⟩ : ∃ U, U = surV nd hv st := ⟨_, rfl⟩
  obtain ⟨ns, hns⟩ : ∃ ns, ns = st.length := ⟨_, rfl⟩
  have HSU := hide (fun W (hn : Nx w10 W) => (show Calls Tryz.prog 16 #[.int .i64 nd, .int .i64 hv, .slice D ns cd] W fun e w' => e = .returned (.tuple #[.int .i64 U, .int .i64 G]) ∧ Nx W w' from by
    rw [hU, hG, hns]
    exact w_Surge w9.heap.size D cd nd hv st W (HRD.out.nx hn) (by have := HST.out; omega)))
  have HSF := hide (fun W (hn : Nx w10 W) => (show Calls Tryz.prog 17 #[.int .i64 nd, .int .i64 hv, .slice D ns cd] W fun e w' => e = .returned (.int .i64 G) ∧ Nx W w' from by
    rw [hG, hns]
    exact w_SurgeFault w9.heap.size D cd nd hv st W (HRD.out.nx hn) (by have := HST.out; omega)))
  have HSO := hide (fun (h0 : G = 0) W (hn : Nx w10 W) => (show Calls Tryz.prog 18 #[.int .i64 nd, .int .i64 hv, .slice D ns cd] W fun e w' => e = .returned (.int .i64 U) ∧ Nx W w' from by
    obtain ⟨h1, h2, h3⟩ := surV_ok (hG ▸ h0)
    rw [hU, h1, hns]
    exact w_SurgeOf w9.heap.size D cd nd hv st W (HRD.out.nx hn) (by have := HST.out; omega) h2 h3))
  have HU0 := hide (show G ≠ 0 → U = 0 from fun h0 => by rw [hU]; exact surV_zero (hG ▸ h0))
  rw [← hns]
  clear hG hU hns
  go_wp2_with fail
  refine (HSU.out _ (Nx.refl _)).mono ?_
  rintro e w11 ⟨rfl, hn11⟩
  go_wp2_with fail
  refine (HSF.out _ hn11).mono ?_
  rintro e w12 ⟨rfl, hn12⟩
  have HN12 := hide (hn11.trans hn12)
  clear hn11 hn12 HSU HSF
  go_upto_if 101 with fail
  go_cut [3] (fun v wx => v = .pointer (some ⟨s, 0, none⟩) ∧ Nx w12 wx)
  case first =>
    by_cases h0 : G = 0
    · have HSO1 := hide (HSO.out h0)
      subst h0
      clear HSO HU0
      go_wp2_with (go_at_call 18; refine (HSO1.out _ HN12.out).mono ?_; rintro e w13 ⟨rfl, hn13⟩)
      go_meet
      exact ⟨rfl, hn13⟩
    · have hu := HU0.out h0
      subst hu
      have t2 : (G != 0) = true := by simpa using h0
      clear h0 HSO HU0
      go_wp2_with fail
      go_meet
      exact ⟨rfl, Nx.refl _⟩
  case rest =>
  obtain ⟨rfl, hn13⟩ := hcut
  obtain ⟨w13, hw13⟩ : ∃ w13, w13 = wc := ⟨_, rfl⟩
  rw [← hw13] at hn13 ⊢
  have HN13 := hide (HN12.out.trans hn13)
  have HG13 := hide (HG10.out.then_nx HN13.out)
  have HG313 := hide (HG310.out.then_nx HN13.out)
  have HS13 := hide (HS10.out.nx HN13.out)
  clear hw13 hn13 HSO HU0 HN12 HG10 HG310 HS10 HN7
  have HR13 := hide (HR3.out w13 HG313.out)
  obtain ⟨T0, hT0⟩ : ∃ T : ByteArray, T = ⟨(tallyText l).toArray⟩ := ⟨_, rfl⟩
  obtain ⟨T, hTe⟩ : ∃ T : ByteArray, T = if F = 0 then T0 else ⟨#[]⟩ := ⟨_, rfl⟩
  have HTX : Hid (Calls Tryz.prog 19 #[.slice A n c] w13 fun e w' => e = .returned (.tuple #[.string T, .int .i64 F]) ∧ Nx w13 w') := hide (by
    by_cases h0 : F = 0
    · have hf : talliesF l = 0 := HFE.out.symm.trans h0
      have h := w_TextT 0 A c l w13 HR13.out (by have := HL24.out; omega) hf (tal_i64 hf) (HTG.out _ HG13.out)
      rw [← hT0, ← HNL.out] at h
      rw [hTe, if_pos h0, h0]; exact h
    · have h := w_TextTF 0 A c l w13 HR13.out (by have := HL24.out; omega) (fun h => h0 (HFE.out.trans h))
      rw [← HFE.out, ← HNL.out] at h
      rw [hTe, if_neg h0]; exact h)
  have HTL : Hid (F = 0 → ∀ W, Nx w13 W → Calls Tryz.prog 20 #[.slice A n c] W fun e w' => e = .returned (.string T) ∧ Nx W w') := hide (fun h0 W hn => by
    have hf : talliesF l = 0 := HFE.out.symm.trans h0
    have h := w_LinesT 0 A c l W (HR13.out.nx hn) (by have := HL24.out; omega) (tal_i64 hf) (HTG.out _ (HG13.out.then_nx hn))
    rw [← hT0, ← HNL.out] at h
    rw [hTe, if_pos h0]; exact h)
  have HTN := hide (show F ≠ 0 → T.toList = [] from fun h0 => by rw [hTe, if_neg h0, Lib.toList_data])
  clear hTe hT0 HR3 HR13 HG313 HG3 HFE HNL HL24
  go_upto_region 17 with (go_at_call 19; refine HTX.out.mono ?_; rintro e w14 ⟨rfl, hn14⟩)
  have HN14 := hide hn14
  clear hn14 HTX
  go_cut [144] (fun v wx => v = .bool false ∧ Nx w14 wx)
  case first =>
    by_cases h0 : F = 0
    · have HTL1 := hide (HTL.out h0)
      have te : (T.toList == T.toList) = true := by simp
      subst h0
      clear HTL HTN
      go_wp2_with (go_at_call 20; refine (HTL1.out _ HN14.out).mono ?_; rintro e w15 ⟨rfl, hn15⟩)
      go_meet
      exact ⟨rfl, hn15⟩
    · have t1 : (F == 0) = false := by simpa using h0
      have t2 : (F != 0) = true := by simpa using h0
      have te := HTN.out h0
      clear h0 HTL HTN
      go_wp2_with fail
      go_meet
      exact ⟨rfl, Nx.refl _⟩
  case rest =>
  obtain ⟨rfl, hnc⟩ := hcut
  have HG14 := hide (HG13.out.then_nx (HN14.out.trans hnc))
  have HJS := hide (w_TallyStr s _ wc (HS13.out.nx (HN14.out.trans hnc)) (by omega) (fun w' hg => HTG.out _ (HG14.out.trans hg)) (fun w' hg => HMG.out _ (HG14.out.trans hg)))
  clear HTL HTN HS13 HG13 hnc HN14
  go_upto_region 20 with (go_at_call 21; refine HJS.out.mono ?_; rintro e w5a ⟨r, rfl, hr, hg5, hS5⟩)
  have HG5 := hide (HG14.out.trans hg5)
  have HRDX := hide (w_ReadTX r (by omega) w5a (HMG.out _ (HG14.out.trans hg5)))
  have HRX := hide (fun W (hn : Nx w5a W) => w_ReadTY r (by omega) W (HMG.out _ (HG5.out.then_nx hn)) (HTG.out _ (HG5.out.then_nx hn)))
  clear hg5 hS5 HJS HG14
  go_upto_region 22 with (first
    | (go_at_call 22; refine HRDX.out.mono ?_; rintro e w6a h6; obtain ⟨hn6, A6, n6, c6, i6, F6, rfl⟩ := h6.ret)
    | (go_at_call 23; refine (HRX.out _ hn6).mono ?_; rintro e w7a h7; obtain ⟨hn7, A7, n7, c7, i7, F7, rfl⟩ := h7.ret))
  have HTW := hide (two_readT h6 h7)
  have HN7 := hide (HG5.out.then_nx (hn6.trans hn7))
  have HN67 := hide hn7
  clear h6 h7 hn6 hn7 HRDX HRX
  have hcase : (∃ L : List Tally, n6 = L.length ∧ n7 = L.length ∧ i6 = 0 ∧ i7 = 0 ∧ F6 = 0 ∧ F7 = 0 ∧ Rd w6a w5a.heap.size A6 4 encTally L ∧ Rd w7a w6a.heap.size A7 4 encTally L ∧ L.length ≤ 400) ∨ (A6 = none ∧ A7 = none ∧ n6 = 0 ∧ n7 = 0 ∧ c6 = 0 ∧ c7 = 0 ∧ i6 = i7 ∧ F6 = F7) := by
    have h := HTW.out
    generalize he : (Ending.returned (.tuple #[.slice A6 n6 c6, .int .i64 i6, .int .i64 F6])) = e at h
    generalize hf : (Ending.returned (.tuple #[.slice A7 n7 c7, .int .i64 i7, .int .i64 F7])) = f at h
    cases h with
    | good L A B c d hA hB hl =>
      simp only [Ending.returned.injEq, Value.tuple.injEq, Array.mk.injEq, List.cons.injEq, Value.slice.injEq, Value.int.injEq, and_true, true_and] at he hf
      obtain ⟨⟨rfl, rfl, rfl⟩, rfl, rfl⟩ := he
      obtain ⟨⟨rfl, rfl, rfl⟩, rfl, rfl⟩ := hf
      exact .inl ⟨L, rfl, rfl, rfl, rfl, rfl, rfl, hA, hB, hl⟩
    | bad i F hF =>
      simp only [Ending.returned.injEq, Value.tuple.injEq, Array.mk.injEq, List.cons.injEq, Value.slice.injEq, Value.int.injEq, and_true, true_and] at he hf
      obtain ⟨⟨rfl, rfl, rfl⟩, rfl, rfl⟩ := he
      obtain ⟨⟨rfl, rfl, rfl⟩, rfl, rfl⟩ := hf
      exact .inr ⟨rfl, rfl, rfl, rfl, rfl, rfl, rfl, rfl⟩
  clear HTW
  have HEQ : Hid (i6 = i7 ∧ F6 = F7 ∧ Calls Tryz.prog 24 #[.slice A6 n6 c6, .slice A7 n7 c7] w7a fun e w' => e = .returned (.bool true) ∧ Nx w7a w') := hide (by
    rcases hcase with ⟨L, rfl, rfl, rfl, rfl, rfl, rfl, hA, hB, hl⟩ | ⟨rfl, rfl, rfl, rfl, rfl, rfl, rfl, rfl⟩
    · exact ⟨rfl, rfl, w_EqualT w5a.heap.size w6a.heap.size A6 A7 c6 c7 L w7a (hA.nx HN67.out) hB (by omega)⟩
    · exact ⟨rfl, rfl, w_EqualT 0 0 none none 0 0 [] w7a Rd.nil Rd.nil (by simp)⟩)
  obtain ⟨he1, he2, he3⟩ := HEQ.out
  subst he1; subst he2
  have HE3 := hide he3
  clear hcase HEQ he3
  go_wp2_with (first
    | (go_at_call 24; refine HE3.out.mono ?_; rintro e w8a ⟨rfl, hn8⟩)
    | (go_at_call 25; refine (w_counted _).mono ?_; rintro e w9a ⟨rfl, hn9⟩))
  go_ret
  exact ⟨rfl, Nx.of_gr ((Gr.of_nx HW0.out).trans (HN7.out.then_nx (hn8.trans hn9))) HSS.out⟩
end Go.Proofs.YthlhomcgjgfdhaaGreatDoor
