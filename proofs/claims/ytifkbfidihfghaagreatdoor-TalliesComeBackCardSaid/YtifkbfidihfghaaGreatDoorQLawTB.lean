/- jitkeep1.TalliesComeBack returns true. -/
import Derived.Test.YtifkbfidihfghaaGreatDoorQTalC
import Derived.Test.YtifkbfidihfghaaGreatDoorQG17
import Derived.Test.YtifkbfidihfghaaGreatDoorQG7
import Derived.Test.YtifkbfidihfghaaGreatDoorQReady
import Derived.Test.YtifkbfidihfghaaGreatDoorQG31
import Derived.Deep.DeepCutAuto
namespace Go.Proofs.YtifkbfidihfghaaGreatDoor
open Go.RowKit

theorem tallies_i64 {L : List Tally} (h : talliesF L = 0) : ∀ t ∈ L, I64T t := by
  intro t ht
  obtain ⟨q, hq⟩ := chkT_all (f := tallyF) h t ht
  have hv : tallyV t = true := by
    unfold tallyF at hq
    split at hq
    · assumption
    · cases hq
  unfold tallyV at hv
  simp only [Bool.and_eq_true, Bool.not_eq_true', outB_false, isPtB_true] at hv
  unfold maxCents at hv
  intro n hn
  simp only [tallyW, List.mem_cons, List.not_mem_nil, or_false] at hn
  rcases hn with rfl | rfl | rfl | rfl <;> omega
set_option maxRecDepth 100000 in
set_option maxHeartbeats 4000000 in
theorem w_lawTB (A : Option Addr) (n c : Nat) (w : World) (hn : n ≤ 9223372036854775807)
    (hL : 0 < n → ∃ b off, A = some ⟨b, off, none⟩ ∧ b < w.heap.size ∧ ∀ j, j < n → ∃ z : Int, w.cell? ⟨b, off + j, none⟩ = some (.int .i64 z) ∧ -9223372036854775808 ≤ z ∧ z ≤ 9223372036854775807) (hT : PowTab w) (hM : MaxI w) :
    Calls Tryz.prog 3 #[.slice A n c] w (TrueNx w) := by
  have hS0 : Str (w.alloc (.cells #[.slice A n c, .int .i64 0] 25)) w.heap.size 0 := str_new A n c w hn hL
  clear hL
  obtain ⟨s, hs⟩ : ∃ s, s = w.heap.size := ⟨_, rfl⟩
  obtain ⟨w0, hw0⟩ : ∃ w0, w0 = w.alloc (.cells #[.slice A n c, .int .i64 0] 25) := ⟨_, rfl⟩
  have HW0 := hide (show Nx w w0 from hw0 ▸ (Nx.refl w).alloc _)
  have HSS := hide (show w.heap.size ≤ s by omega)
  have HTG := hide (show ∀ w', Gr s w0 w' → PowTab w' from fun w' hg => tab_nx hT (Nx.of_gr ((Gr.of_nx HW0.out).trans hg) HSS.out))
  have HMG := hide (show ∀ w', Gr s w0 w' → MaxI w' from fun w' hg => hM.nx (Nx.of_gr ((Gr.of_nx HW0.out).trans hg) HSS.out))
  rw [← hw0, ← hs] at hS0
  have HS0 := hide hS0
  have hs0 := hS0.lt
  clear hS0 hT hM
  go_enter Tryz.func3, Tryz.ntmps3
  go_upto_region 2 with fail
  rw [← hw0, ← hs]
  clear hw0 hs
  go_upto_region 3 with (go_at_call 4; refine (w_RightTG s 0 _ HS0.out (by omega)).mono ?_; rintro e w1 ⟨v, L, rfl, hrt, hown, hg1, hS1⟩; (obtain ⟨A1, c1, ev, hR, _⟩ := Rd.of_own encTally_len rfl hown); (obtain rfl := ev); (have HR := hide hR); (have HG1 := hide hg1); (have HS1 := hide hS1); (have HL24 := hide hrt.1); (have HRT := hide hrt.right); clear hrt hown hR hg1 hS1)
  have HTX := hide (w_TextT w0.heap.size A1 c1 L w1 HR.out (by have := HL24.out; omega) HRT.out (tallies_i64 HRT.out) (HTG.out _ HG1.out))
  obtain ⟨T, hTe⟩ : ∃ T : ByteArray, T = ⟨(tallyText L).toArray⟩ := ⟨_, rfl⟩
  have hTd : T.data.toList = tallyText L := by rw [hTe]
  have hTs : T.size ≤ 3200 := by
    rw [← len_data, hTd]
    have h := text_le (L := L) (fun t ht => (tallies_i64 HRT.out t ht).digs)
    have := HL24.out
    omega
  rw [← hTe] at HTX
  have HTD := hide hTd
  have HTS := hide hTs
  clear hTe hTd hTs
  go_upto_region 4 with (go_at_call 5; refine HTX.out.mono ?_; rintro e w2 ⟨rfl, hn2⟩)
  have HN2 := hide hn2
  clear HTX hn2
  have HRD := hide (w_ReadT T HTS.out w2 (HMG.out _ (HG1.out.then_nx HN2.out)))
  go_upto_region 5 with (go_at_call 6; refine HRD.out.mono ?_; rintro e w3 ⟨hn3, hcase⟩; rcases hcase with ⟨M, B, cB, rfl, hRM, hM4, htm, hfm⟩ | ⟨i, F, hF, rfl, hno⟩)
  · have hML : M = L := by
      have h1 := text_lines M
      rw [htm, HTD.out, text_lines L] at h1
      injection h1 with h1 _
      exact (line_inj (tallies_digs HRT.out) (tallies_digs hfm) h1).symm
    subst hML
    have HN3 := hide (HN2.out.trans hn3)
    have HEQ := hide (w_EqualT w2.heap.size w0.heap.size B A1 cB c1 M w3 hRM (HR.out.nx (HN2.out.trans hn3)) (by omega))
    clear hRM htm hfm hn3 HRD
    go_upto_region 7 with (go_at_call 7; refine HEQ.out.mono ?_; rintro e w4 ⟨rfl, hn4⟩)
    have HG4 := hide (HG1.out.then_nx (HN3.out.trans hn4))
    have HS4 := hide (HS1.out.nx (HN3.out.trans hn4))
    clear hn4 HEQ HR HTD HTS HL24 HRT hM4 HN2 HN3
    have HTT := hide (w_TallyStr s _ w4 HS4.out (by omega) (fun w' hg => HTG.out _ (HG4.out.trans hg)) (fun w' hg => HMG.out _ (HG4.out.trans hg)))
    go_upto_region 8 with (go_at_call 8; refine HTT.out.mono ?_; rintro e w5 ⟨r, rfl, hr, hg5, hS5⟩)
    have HG5 := hide (HG4.out.trans hg5)
    have HRD := hide (w_ReadT r (by omega) w5 (HMG.out _ (HG4.out.trans hg5)))
    clear hg5 hS5 HTT HS4 HG4
    go_upto_region 9 with (go_at_call 6; refine HRD.out.mono ?_; rintro e w6 ⟨hn6, hcase⟩; rcases hcase with ⟨K, B6, c6, rfl, hRK, hK4, htk, hfk⟩ | ⟨i, F, hF, rfl, hno⟩)
    · have htx := w_TextT w5.heap.size B6 c6 K w6 hRK hK4 hfk (tallies_i64 hfk) (HTG.out _ (HG5.out.then_nx hn6))
      have er : (⟨(tallyText K).toArray⟩ : ByteArray) = r := by rw [htk]
      rw [er] at htx
      have HTX := hide htx
      have HG6 := hide (HG5.out.then_nx hn6)
      have te : (r.toList == r.toList) = true := by simp
      clear htx er htk hfk hRK hn6 HRD
      go_wp2_with (first
        | (go_at_call 5; refine HTX.out.mono ?_; rintro e w7 ⟨rfl, hn7⟩)
        | (go_at_call 9; refine (w_ready _).mono ?_; rintro e w9 ⟨rfl, hn9⟩))
      go_ret
      exact ⟨rfl, Nx.of_gr ((Gr.of_nx HW0.out).trans (HG6.out.then_nx (hn7.trans hn9))) HSS.out⟩
    · have t1 : (F == 0) = false := by simpa using hF
      have HG6 := hide (HG5.out.then_nx hn6)
      clear hF hno hn6 HRD
      go_wp2_with (go_at_call 9; refine (w_ready _).mono ?_; rintro e w9 ⟨rfl, hn9⟩)
      go_ret
      exact ⟨rfl, Nx.of_gr ((Gr.of_nx HW0.out).trans (HG6.out.then_nx hn9)) HSS.out⟩
  · exact absurd HTD.out.symm (hno L HRT.out)
end Go.Proofs.YtifkbfidihfghaaGreatDoor
