/- The stream's texts of trips. -/
import Derived.Test.YthlhomcgjgfdhaaGreatDoorQTrpL
import Derived.Test.YthlhomcgjgfdhaaGreatDoorQStJP
import Derived.Test.YthlhomcgjgfdhaaGreatDoorQJouR
import Derived.Test.YthlhomcgjgfdhaaGreatDoorQChgW
import Derived.Test.YthlhomcgjgfdhaaGreatDoorQG3
import Derived.Deep.DeepCutAuto
namespace Go.Proofs.YthlhomcgjgfdhaaGreatDoor
open Go.RowKit

theorem jours_i64 {ts : List Jour} (h : joursF ts = 0) : ∀ x ∈ ts, ∀ n ∈ [x.metres, x.from_, x.to_], -9223372036854775808 ≤ n ∧ n ≤ 9223372036854775807 := by
  intro x hx n hn
  have h1 := joursF_ok h x hx
  have hm := h1.metres
  have ht := h1.time
  simp only [List.mem_cons, List.not_mem_nil, or_false] at hn
  rcases hn with rfl | rfl | rfl <;> omega
theorem few_ok {ts : List Jour} (h : joursF ts = 0) (hf : FewJ ts) (hl : ts.length ≤ 600) : TxtOk ts :=
  ⟨fun x hx => (hf x hx).2, jours_i64 h, by have := text_few h (fun x hx => (hf x hx).1); omega⟩
set_option maxRecDepth 100000 in
set_option maxHeartbeats 4000000 in
theorem w_JourStr (s k : Nat) (w : World) (hS : Str w s k) (hk : k < 600000) (hT : ∀ w', Gr s w w' → PowTab w') :
    Calls Tryz.prog 31 #[.pointer (some ⟨s, 0, none⟩)] w (StrTxt 1300 s (k + 400) w) := by
  have hsl := hS.lt
  have HT := hide hT
  have HS := hide hS
  clear hT hS
  go_enter Tryz.func31, Tryz.ntmps31
  go_upto_region 3 with (first
    | (go_at_call 27; refine (w_Range 0 4 s k _ HS.out (by omega) (by omega) (by omega)).mono ?_; rintro e w1 ⟨m, hm1, hm2, rfl, hg1, hS1⟩; (obtain ⟨m, rfl⟩ := Int.eq_ofNat_of_zero_le hm1); (have HG1 := hide hg1); (have HS1 := hide hS1); (have hm4 : m ≤ 4 := by omega); (have hz1 := hg1.sz); clear hg1 hS1 hm1 hm2)
    | (go_at_call 26; refine (w_JourneysF m s _ _ HS1.out (by omega) (by omega) (fun w' hg => HT.out _ (HG1.out.trans hg))).mono ?_; rintro e w2 ⟨A, c, ts, rfl, hl, hlc, hJ, hf, hg2, hS2⟩; (have HL := hide hl); (have HJ := hide hJ); (have HF := hide hf); (have HG2 := hide (HG1.out.trans hg2)); (have HS2 := hide hS2); clear hl hlc hJ hf hg2 hS2))
  have HL4 := hide (show ts.length ≤ 4 by have := HL.out; omega)
  have HJF := hide (w_JourneysFault w1.heap.size A c ts w2 HJ.out (by have := HL4.out; omega))
  have HTL := hide (fun (h : joursF ts = 0) W (hn : Nx w2 W) => w_LinesJ w1.heap.size A c ts W (HJ.out.nx hn) (by have := HL4.out; omega) (few_ok h HF.out (by have := HL4.out; omega)) (HT.out _ (HG2.out.then_nx hn)))
  have HSZ := hide (show joursF ts = 0 → (tripText (ts.map coreJ)).length ≤ 1204 from fun h => by
    have h1 := text_few h (fun x hx => (HF.out x hx).1)
    have := HL4.out
    omega)
  obtain ⟨F, hF⟩ : ∃ F, F = joursF ts := ⟨_, rfl⟩
  rw [← hF] at HJF HTL HSZ
  obtain ⟨T, hTe⟩ : ∃ T : ByteArray, T = ⟨(tripText (ts.map coreJ)).toArray⟩ := ⟨_, rfl⟩
  rw [← hTe] at HTL
  have HTS := hide (show F = 0 → T.size ≤ 1204 from fun h => by
    have := HSZ.out h
    rw [← len_data, hTe]
    simpa using this)
  obtain ⟨nt, hnt⟩ : ∃ nt, nt = ts.length := ⟨_, rfl⟩
  rw [← hnt] at HJF HTL ⊢
  clear hTe hF hnt HSZ HL4 HF HJ HL
  go_upto_if 11 with (go_at_call 29; refine HJF.out.mono ?_; rintro e w3 ⟨rfl, hn3⟩)
  go_cut [3] (fun v wx => ∃ r : ByteArray, v = .string r ∧ r.size ≤ 1204 ∧ Gr s w wx ∧ Str wx s (k + 1 + 300))
  case first =>
    by_cases h0 : F = 0
    · have t1 : (F == 0) = true := by simpa using h0
      have HTL1 := hide (HTL.out h0)
      have HTS1 := hide (HTS.out h0)
      clear h0 HTL HTS
      go_wp2_with (go_at_call 30; refine (HTL1.out _ hn3).mono ?_; rintro e w4 ⟨rfl, hn4⟩)
      go_meet
      exact ⟨T, rfl, HTS1.out, HG2.out.then_nx (hn3.trans hn4), HS2.out.nx (hn3.trans hn4)⟩
    · have t1 : (F == 0) = false := by simpa using h0
      clear h0 HTL HTS
      go_wp2_with fail
      go_meet
      exact ⟨_, rfl, by show 19 ≤ 1204; omega, HG2.out.then_nx hn3, HS2.out.nx hn3⟩
  case rest =>
  obtain ⟨r0, rfl, hr0, hg3, hS3⟩ := hcut
  have HG3a := hide hg3
  have HS3a := hide hS3
  clear hg3 hS3 HTL HTS HJF HS2 HG2 HS1 HG1
  go_upto_region 6 with (go_at_call 7; refine (w_PickI _ [0, 0, 1, 2] _ _ _ _ (HS3a.out.nx ((Nx.refl _).alloc _)) (by omega) (hnew rfl) (by have := HS3a.out.lt; omega) rfl (by simp) (by simp)).mono ?_; rintro e w4 ⟨n, hn, rfl, hg4, hS4⟩; (have HG4 := hide ((HG3a.out.alloc _).trans hg4)); (have HS4 := hide hS4); clear hg4 hS4)
  have hn02 : 0 ≤ n ∧ n ≤ 2 := by simp only [List.mem_cons, List.not_mem_nil, or_false] at hn; omega
  clear hn
  obtain ⟨n, rfl⟩ := Int.eq_ofNat_of_zero_le hn02.1
  have hn2 : n ≤ 2 := by omega
  clear hn02
  go_loopw [3, 17] (fun v i wr => ∃ (j : Nat) (r : ByteArray), j ≤ n ∧ i = .int .i64 j ∧ v = .string r ∧ r.size ≤ 1204 + 8 * j ∧ Gr s w wr ∧ Str wr s (k + 310 + 3 * j)) (fun _ i _ => n - (intOf i).toNat)
  case atStart => exact ⟨0, r0, Nat.zero_le _, rfl, rfl, by omega, HG4.out, HS4.out.more (by omega)⟩
  case round =>
    obtain ⟨j, r, hj, rfl, rfl, hr, hgr, hSr⟩ := hrel
    by_cases hlt : j < n
    · have HC := hide (w_ChangedC ⟨#[32, 10, 48, 49, 106, 97, 44, 45]⟩ (by decide) (by decide) r (by omega) s _ wr hSr (by omega))
      have HGR := hide hgr
      have i2 : (j : Int) < (n : Int) := by omega
      clear hgr hSr
      go_wp2_with (go_at_call 61; refine HC.out.mono ?_; rintro e w5 ⟨r', rfl, hr', hg5, hS5⟩)
      go_roundw
      case rel => exact ⟨j + 1, r', by omega, by go_num, rfl, by omega, HGR.out.trans hg5, hS5.more (by omega)⟩
      case measure => simp [intOf]; omega
    · have HSR := hide hSr
      have HGR := hide hgr
      clear hSr hgr
      go_wp2_with fail
      go_ret
      exact ⟨r, rfl, by omega, HGR.out, HSR.out.more (by omega)⟩
end Go.Proofs.YthlhomcgjgfdhaaGreatDoor
