/- jitlaw1.TripTexts returns true. -/
import Derived.Test.YthlhomcgjgfdhaaGreatDoorQTrpE
import Derived.Test.YthlhomcgjgfdhaaGreatDoorQTrpW
import Derived.Test.YthlhomcgjgfdhaaGreatDoorQStrJ
import Derived.Test.YthlhomcgjgfdhaaGreatDoorQSameJ
import Derived.Test.YthlhomcgjgfdhaaGreatDoorQG20
import Derived.Test.YthlhomcgjgfdhaaGreatDoorQPriced
import Derived.Deep.DeepCutAuto
namespace Go.Proofs.YthlhomcgjgfdhaaGreatDoor
open Go.RowKit

theorem some_injT : ∀ {l m : List Jour}, l.map (fun x => some (coreJ x)) = m.map (fun x => some (coreJ x)) → l.map coreJ = m.map coreJ
  | [], [], _ => rfl
  | [], _ :: _, h => by cases h
  | _ :: _, [], h => by cases h
  | a :: l, b :: m, h => by
    simp only [List.map_cons, List.cons.injEq, Option.some.injEq] at h
    rw [List.map_cons, List.map_cons, h.1, some_injT h.2]
/-- What the two readers answer. -/
inductive TwoJ (lo lo' : Nat) (W W' : World) : Ending → Ending → Prop
  | good (L M : List Jour) (A B : Option Addr) (c d : Nat) (hA : RdJours W lo A L) (hB : RdJours W' lo' B M) (hl : L.length ≤ 400) (hc : L.map coreJ = M.map coreJ) : TwoJ lo lo' W W' (.returned (.tuple #[.slice A L.length c, .int .i64 0, .int .i64 0])) (.returned (.tuple #[.slice B M.length d, .int .i64 0, .int .i64 0]))
  | bad (i F : Int) (hF : F ≠ 0) : TwoJ lo lo' W W' (.returned (.tuple #[.slice none 0 0, .int .i64 i, .int .i64 F])) (.returned (.tuple #[.slice none 0 0, .int .i64 i, .int .i64 F]))
theorem two_read {r : ByteArray} {w w' u u' : World} {e f : Ending} (h : ReadJR r w e w') (k : ReadJR r u f u') : TwoJ w.heap.size u.heap.size w' u' e f := by
  obtain ⟨_, ls, ends, hll, hc⟩ := h
  obtain ⟨_, ms, endt, hmm, kc⟩ := k
  rw [hll] at hmm
  injection hmm with h1 h2
  have h3 : ls = ms := bas_eq h1
  subst h3
  subst h2
  rcases hc with ⟨L, A, c, he, hm, hJ, hl, _, _, _, hx⟩ | ⟨j, hb, rfl⟩
  · rcases kc with ⟨M, B, d, _, km, kJ, _, _, _, _, kx⟩ | ⟨j, kb, _⟩
    · have hco := some_injT (hm.symm.trans km)
      have hf := joursF_core hco
      rcases hx with ⟨h0, rfl⟩ | ⟨h0, rfl⟩
      · rcases kx with ⟨_, rfl⟩ | ⟨k0, _⟩
        · exact .good L M A B c d hJ kJ hl hco
        · exact absurd (hf.symm.trans h0) k0
      · rcases kx with ⟨k0, _⟩ | ⟨k0, rfl⟩
        · exact absurd (hf.trans k0) h0
        · rw [← hf]; exact .bad 0 _ h0
    · rcases kb.bad with h2 | h2
      · rw [he] at h2; cases h2
      · rw [read_all hm] at h2; cases h2
  · rcases kc with ⟨M, B, d, ke, km, _⟩ | ⟨j2, kb, rfl⟩
    · rcases hb.bad with h2 | h2
      · rw [ke] at h2; cases h2
      · rw [read_all km] at h2; cases h2
    · rw [hb.uniq kb]; exact .bad _ 9 (by decide)
theorem ReadJR.ret {r : ByteArray} {w w' : World} {e : Ending} (h : ReadJR r w e w') : Nx w w' ∧ ∃ (A : Option Addr) (n c : Nat) (i F : Int), e = .returned (.tuple #[.slice A n c, .int .i64 i, .int .i64 F]) := by
  obtain ⟨hn, ls, ends, hll, hc⟩ := h
  refine ⟨hn, ?_⟩
  rcases hc with ⟨L, A, c, _, _, _, _, _, _, _, ⟨_, rfl⟩ | ⟨_, rfl⟩⟩ | ⟨j, _, rfl⟩
  · exact ⟨_, _, _, _, _, rfl⟩
  · exact ⟨_, _, _, _, _, rfl⟩
  · exact ⟨_, _, _, _, _, rfl⟩
set_option maxRecDepth 100000 in
set_option maxHeartbeats 4000000 in
theorem w_lawTT (A : Option Addr) (n c : Nat) (w : World) (hn : n ≤ 9223372036854775807)
    (hL : 0 < n → ∃ b off, A = some ⟨b, off, none⟩ ∧ b < w.heap.size ∧ ∀ j, j < n → ∃ z : Int, w.cell? ⟨b, off + j, none⟩ = some (.int .i64 z) ∧ -9223372036854775808 ≤ z ∧ z ≤ 9223372036854775807) (hT : PowTab w) (hM : MaxI w) :
    Calls Tryz.prog 4 #[.slice A n c] w (TrueNx w) := by
  have hS0 : Str (w.alloc (.cells #[.slice A n c, .int .i64 0] 25)) w.heap.size 0 := str_new A n c w hn hL
  clear hL
  obtain ⟨s, hs⟩ : ∃ s, s = w.heap.size := ⟨_, rfl⟩
  obtain ⟨w0, hw0⟩ : ∃ w0, w0 = w.alloc (.cells #[.slice A n c, .int .i64 0] 25) := ⟨_, rfl⟩
  have HW0 := hide (show Nx w w0 from hw0 ▸ (Nx.refl w).alloc _)
  have HSS := hide (show w.heap.size ≤ s by omega)
  have HTG := hide (show ∀ w', Gr s w0 w' → PowTab w' from fun w' hg => tab_nx hT (Nx.of_gr ((Gr.of_nx HW0.out).trans hg) HSS.out))
  have HMG := hide (show ∀ w', Gr s w0 w' → MaxI w' from fun w' hg => hM.nx (Nx.of_gr ((Gr.of_nx HW0.out).trans hg) HSS.out))
  rw [← hw0, ← hs] at hS0
  have HS0 := hide hS0
  have hs0 := hS0.lt
  clear hS0 hT hM
  go_enter Tryz.func4, Tryz.ntmps4
  go_upto_region 2 with fail
  rw [← hw0, ← hs]
  clear hw0 hs
  go_upto_region 3 with (first
    | (go_at_call 27; refine (w_Range 0 5 s 0 _ HS0.out (by omega) (by omega) (by omega)).mono ?_; rintro e w1 ⟨m, hm1, hm2, rfl, hg1, hS1⟩; (obtain ⟨m, rfl⟩ := Int.eq_ofNat_of_zero_le hm1); (have HG1 := hide hg1); (have HS1 := hide hS1); (have hm4 : m ≤ 5 := by omega); (have hz1 := hg1.sz); clear hg1 hS1 hm1 hm2)
    | (go_at_call 26; refine (w_JourneysF m s _ _ HS1.out (by omega) (by omega) (fun w' hg => HTG.out _ (HG1.out.trans hg))).mono ?_; rintro e w2 ⟨A2, c2, ts, rfl, hl, hlc, hJ, hf, hg2, hS2⟩; (have HL := hide hl); (have HJ := hide hJ); (have HF := hide hf); (have HG2 := hide (HG1.out.trans hg2)); (have HS2 := hide hS2); clear hl hlc hJ hf hg2 hS2))
  have HL4 := hide (show ts.length ≤ 5 by have := HL.out; omega)
  have HJF := hide (fun W (hn : Nx w2 W) => w_JourneysFault w1.heap.size A2 c2 ts W (HJ.out.nx hn) (by have := HL4.out; omega))
  obtain ⟨T0, hT0⟩ : ∃ T : ByteArray, T = ⟨(tripText (ts.map coreJ)).toArray⟩ := ⟨_, rfl⟩
  obtain ⟨F, hF⟩ : ∃ F, F = joursF ts := ⟨_, rfl⟩
  obtain ⟨T, hTe⟩ : ∃ T : ByteArray, T = if F = 0 then T0 else ⟨#[]⟩ := ⟨_, rfl⟩
  have HTX : Hid (Calls Tryz.prog 28 #[.slice A2 ts.length c2] w2 fun e w' => e = .returned (.tuple #[.string T, .int .i64 F]) ∧ Nx w2 w') := hide (by
    by_cases h0 : F = 0
    · have h := w_TextJ w1.heap.size A2 c2 ts w2 HJ.out (by have := HL4.out; omega) (hF ▸ h0) (few_ok (hF ▸ h0) HF.out (by have := HL4.out; omega)) (HTG.out _ HG2.out)
      rw [← hT0] at h
      rw [hTe, if_pos h0, h0]; exact h
    · have h := w_TextJF w1.heap.size A2 c2 ts w2 HJ.out (by have := HL4.out; omega) (hF ▸ h0)
      rw [← hF] at h
      rw [hTe, if_neg h0]; exact h)
  have HTL : Hid (F = 0 → ∀ W, Nx w2 W → Calls Tryz.prog 30 #[.slice A2 ts.length c2] W fun e w' => e = .returned (.string T) ∧ Nx W w') := hide (fun h0 W hn => by
    have h := w_LinesJ w1.heap.size A2 c2 ts W (HJ.out.nx hn) (by have := HL4.out; omega) (few_ok (hF ▸ h0) HF.out (by have := HL4.out; omega)) (HTG.out _ (HG2.out.then_nx hn))
    rw [← hT0] at h
    rw [hTe, if_pos h0]; exact h)
  have HTN := hide (show F ≠ 0 → T.toList = [] from fun h0 => by rw [hTe, if_neg h0, Lib.toList_data])
  rw [← hF] at HJF
  obtain ⟨nt, hnt⟩ : ∃ nt, nt = ts.length := ⟨_, rfl⟩
  rw [← hnt] at HJF HTX HTL ⊢
  clear hTe hT0 hF hnt HL4 HF HJ HL HS1 HG1 HS0 hm4
  go_upto_region 5 with (first
    | (go_at_call 28; refine HTX.out.mono ?_; rintro e w3 ⟨rfl, hn3⟩)
    | (go_at_call 29; refine (HJF.out _ hn3).mono ?_; rintro e w4 ⟨rfl, hn4⟩))
  have HN4 := hide (hn3.trans hn4)
  clear hn3 hn4 HTX HJF
  go_cut [49] (fun v wx => v = .bool false ∧ Nx w2 wx)
  case first =>
    by_cases h0 : F = 0
    · have HTL1 := hide (HTL.out h0)
      have te : (T.toList == T.toList) = true := by simp
      subst h0
      clear HTL HTN
      go_wp2_with (go_at_call 30; refine (HTL1.out _ HN4.out).mono ?_; rintro e w5 ⟨rfl, hn5⟩)
      go_meet
      exact ⟨rfl, HN4.out.trans hn5⟩
    · have t1 : (F == 0) = false := by simpa using h0
      have t2 : (F != 0) = true := by simpa using h0
      have te := HTN.out h0
      clear h0 HTL HTN
      go_wp2_with fail
      go_meet
      exact ⟨rfl, HN4.out⟩
  case rest =>
  obtain ⟨rfl, hnc⟩ := hcut
  have HG4 := hide (HG2.out.then_nx hnc)
  have HJS := hide (w_JourStr s _ wc (HS2.out.nx hnc) (by omega) (fun w' hg => HTG.out _ (HG4.out.trans hg)))
  clear HTL HTN HS2 HG2 hnc HN4
  go_upto_region 8 with (go_at_call 31; refine HJS.out.mono ?_; rintro e w5 ⟨r, rfl, hr, hg5, hS5⟩)
  have HG5 := hide (HG4.out.trans hg5)
  have HRD := hide (w_ReadJ r (by omega) w5 (HMG.out _ (HG4.out.trans hg5)))
  have HRX := hide (fun W (hn : Nx w5 W) => w_ReadJX r (by omega) W (HMG.out _ (HG5.out.then_nx hn)) (HTG.out _ (HG5.out.then_nx hn)))
  clear hg5 hS5 HJS HG4
  go_upto_region 10 with (first
    | (go_at_call 32; refine HRD.out.mono ?_; rintro e w6 h6; obtain ⟨hn6, A6, n6, c6, i6, F6, rfl⟩ := h6.ret)
    | (go_at_call 33; refine (HRX.out _ hn6).mono ?_; rintro e w7 h7; obtain ⟨hn7, A7, n7, c7, i7, F7, rfl⟩ := h7.ret))
  have HTW := hide (two_read h6 h7)
  have hz := hn6.sz
  have HN7 := hide (HG5.out.then_nx (hn6.trans hn7))
  have HN67 := hide hn7
  clear h6 h7 hn6 hn7 HRD HRX
  have hcase : (∃ (L M : List Jour), n6 = L.length ∧ n7 = M.length ∧ i6 = 0 ∧ i7 = 0 ∧ F6 = 0 ∧ F7 = 0 ∧ RdJours w6 w5.heap.size A6 L ∧ RdJours w7 w6.heap.size A7 M ∧ L.length ≤ 400 ∧ L.map coreJ = M.map coreJ) ∨ (A6 = none ∧ A7 = none ∧ n6 = 0 ∧ n7 = 0 ∧ c6 = 0 ∧ c7 = 0 ∧ i6 = i7 ∧ F6 = F7) := by
    have h := HTW.out
    generalize he : (Ending.returned (.tuple #[.slice A6 n6 c6, .int .i64 i6, .int .i64 F6])) = e at h
    generalize hf : (Ending.returned (.tuple #[.slice A7 n7 c7, .int .i64 i7, .int .i64 F7])) = f at h
    cases h with
    | good L M A B c d hA hB hl hc =>
      simp only [Ending.returned.injEq, Value.tuple.injEq, Array.mk.injEq, List.cons.injEq, Value.slice.injEq, Value.int.injEq, and_true, true_and] at he hf
      obtain ⟨⟨rfl, rfl, rfl⟩, rfl, rfl⟩ := he
      obtain ⟨⟨rfl, rfl, rfl⟩, rfl, rfl⟩ := hf
      exact .inl ⟨L, M, rfl, rfl, rfl, rfl, rfl, rfl, hA, hB, hl, hc⟩
    | bad i F hF =>
      simp only [Ending.returned.injEq, Value.tuple.injEq, Array.mk.injEq, List.cons.injEq, Value.slice.injEq, Value.int.injEq, and_true, true_and] at he hf
      obtain ⟨⟨rfl, rfl, rfl⟩, rfl, rfl⟩ := he
      obtain ⟨⟨rfl, rfl, rfl⟩, rfl, rfl⟩ := hf
      exact .inr ⟨rfl, rfl, rfl, rfl, rfl, rfl, rfl, rfl⟩
  clear HTW
  have HEQ : Hid (i6 = i7 ∧ F6 = F7 ∧ Calls Tryz.prog 34 #[.slice A6 n6 c6, .slice A7 n7 c7, .func (.func 35) #[] #[]] w7 fun e w' => e = .returned (.bool true) ∧ Nx w7 w') := hide (by
    rcases hcase with ⟨L, M, rfl, rfl, rfl, rfl, rfl, rfl, hA, hB, hl, hc⟩ | ⟨rfl, rfl, rfl, rfl, rfl, rfl, rfl, rfl⟩
    · exact ⟨rfl, rfl, w_EqualFJ w5.heap.size w6.heap.size A6 A7 c6 c7 L M w7 (hA.nx HN67.out) hB (by omega) hc⟩
    · exact ⟨rfl, rfl, w_EqualFJ 0 0 none none 0 0 [] [] w7 ⟨Rd.nil, fun x hx => by cases hx⟩ ⟨Rd.nil, fun x hx => by cases hx⟩ (by simp) rfl⟩)
  obtain ⟨he1, he2, he3⟩ := HEQ.out
  subst he1; subst he2
  have HE3 := hide he3
  clear hcase HEQ he3
  go_wp2_with (first
    | (go_at_call 34; refine HE3.out.mono ?_; rintro e w8 ⟨rfl, hn8⟩)
    | (go_at_call 36; refine (w_priced _).mono ?_; rintro e w9 ⟨rfl, hn9⟩))
  go_ret
  exact ⟨rfl, Nx.of_gr ((Gr.of_nx HW0.out).trans (HN7.out.then_nx (hn8.trans hn9))) HSS.out⟩
end Go.Proofs.YthlhomcgjgfdhaaGreatDoor
