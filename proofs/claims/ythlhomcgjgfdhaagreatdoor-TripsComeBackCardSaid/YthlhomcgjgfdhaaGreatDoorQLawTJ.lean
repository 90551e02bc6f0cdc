/- jitkeep1.TripsComeBack returns true. -/
import Derived.Test.YthlhomcgjgfdhaaGreatDoorQTrpD
import Derived.Test.YthlhomcgjgfdhaaGreatDoorQTrpW
import Derived.Test.YthlhomcgjgfdhaaGreatDoorQStrJ
import Derived.Test.YthlhomcgjgfdhaaGreatDoorQSameJ
import Derived.Test.YthlhomcgjgfdhaaGreatDoorQReady
import Derived.Test.YthlhomcgjgfdhaaGreatDoorQG19
import Derived.Deep.DeepCutAuto
namespace Go.Proofs.YthlhomcgjgfdhaaGreatDoor
open Go.RowKit

/-- The lines of right trips' text are read as the trips. -/
theorem read_back {ts : List Jour} (h : joursF ts = 0) {ls : List ByteArray} {ends : Bool} (hl : linesL (tripText (ts.map coreJ)) = (dataL ls, ends)) : ends = true ∧ ls.map (fun s => readJ s.data.toList) = ts.map (fun x => some (coreJ x)) := by
  have hg : ∀ t ∈ ts.map coreJ, GoodC t := fun t ht => by
    obtain ⟨x, hx, rfl⟩ := List.mem_map.1 ht
    exact joursF_good h x hx
  rw [trip_lines hg] at hl
  injection hl with h1 h2
  refine ⟨h2.symm, ?_⟩
  have e : ls.map (fun s => readJ s.data.toList) = (dataL ls).map readJ := by unfold dataL; rw [List.map_map]; rfl
  rw [e, ← h1, List.map_map, List.map_map]
  exact List.map_congr_left (fun x hx => readJ_line (joursF_good h x hx))
theorem some_inj : ∀ {l m : List Jour}, l.map (fun x => some (coreJ x)) = m.map (fun x => some (coreJ x)) → l.map coreJ = m.map coreJ
  | [], [], _ => rfl
  | [], _ :: _, h => by cases h
  | _ :: _, [], h => by cases h
  | a :: l, b :: m, h => by
    simp only [List.map_cons, List.cons.injEq, Option.some.injEq] at h
    rw [List.map_cons, List.map_cons, h.1, some_inj h.2]
theorem read_right {ts : List Jour} {T : ByteArray} {w w' : World} {e : Ending} (h0 : joursF ts = 0) (hT : T.data.toList = tripText (ts.map coreJ)) (h : ReadJR T w e w') :
    Nx w w' ∧ ∃ (L : List Jour) (A : Option Addr) (c : Nat), e = .returned (.tuple #[.slice A L.length c, .int .i64 0, .int .i64 0]) ∧ RdJours w' w.heap.size A L ∧ L.length ≤ 400 ∧ L.map coreJ = ts.map coreJ := by
  obtain ⟨hn, ls, ends, hll, hc⟩ := h
  rw [hT] at hll
  obtain ⟨he, hr⟩ := read_back h0 hll
  refine ⟨hn, ?_⟩
  rcases hc with ⟨L, A, c, _, hm, hJ, hl, _, _, _, hx⟩ | ⟨j, hb, _⟩
  · have hco := some_inj (hm.symm.trans hr)
    have hf : joursF L = 0 := (joursF_core hco).trans h0
    rcases hx with ⟨_, rfl⟩ | ⟨hx, _⟩
    · exact ⟨L, A, c, rfl, hJ, hl, hco⟩
    · exact absurd hf hx
  · rcases hb.bad with h2 | h2
    · rw [he] at h2; cases h2
    · rw [read_all hr] at h2; cases h2
set_option maxRecDepth 100000 in
set_option maxHeartbeats 4000000 in
theorem w_lawTJ (A : Option Addr) (n c : Nat) (w : World) (hn : n ≤ 9223372036854775807)
    (hL : 0 < n → ∃ b off, A = some ⟨b, off, none⟩ ∧ b < w.heap.size ∧ ∀ j, j < n → ∃ z : Int, w.cell? ⟨b, off + j, none⟩ = some (.int .i64 z) ∧ -9223372036854775808 ≤ z ∧ z ≤ 9223372036854775807) (hT : PowTab w) (hM : MaxI w) :
    Calls Tryz.prog 5 #[.slice A n c] w (TrueNx w) := by
  have hS0 : Str (w.alloc (.cells #[.slice A n c, .int .i64 0] 25)) w.heap.size 0 := str_new A n c w hn hL
  clear hL
  obtain ⟨s, hs⟩ : ∃ s, s = w.heap.size := ⟨_, rfl⟩
  obtain ⟨w0, hw0⟩ : ∃ w0, w0 = w.alloc (.cells #[.slice A n c, .int .i64 0] 25) := ⟨_, rfl⟩
  have HW0 := hide (show Nx w w0 from hw0 ▸ (Nx.refl w).alloc _)
  have HSS := hide (show w.heap.size ≤ s by omega)
  have HTG := hide (show ∀ w', Gr s w0 w' → PowTab w' from fun w' hg => tab_nx hT (Nx.of_gr ((Gr.of_nx HW0.out).trans hg) HSS.out))
  have HMG := hide (show ∀ w', Gr s w0 w' → MaxI w' from fun w' hg => hM.nx (Nx.of_gr ((Gr.of_nx HW0.out).trans hg) HSS.out))
  rw [← hw0, ← hs] at hS0
  have HS0 := hide hS0
  have hs0 := hS0.lt
  clear hS0 hT hM
  go_enter Tryz.func5, Tryz.ntmps5
  go_upto_region 2 with fail
  rw [← hw0, ← hs]
  clear hw0 hs
  go_upto_region 3 with (first
    | (go_at_call 27; refine (w_Range 0 5 s 0 _ HS0.out (by omega) (by omega) (by omega)).mono ?_; rintro e w1 ⟨m, hm1, hm2, rfl, hg1, hS1⟩; (obtain ⟨m, rfl⟩ := Int.eq_ofNat_of_zero_le hm1); (have HG1 := hide hg1); (have HS1 := hide hS1); (have hm4 : m ≤ 5 := by omega); (have hz1 := hg1.sz); clear hg1 hS1 hm1 hm2)
    | (go_at_call 26; refine (w_JourneysF m s _ _ HS1.out (by omega) (by omega) (fun w' hg => HTG.out _ (HG1.out.trans hg))).mono ?_; rintro e w2 ⟨A2, c2, ts, rfl, hl, hlc, hJ, hf, hg2, hS2⟩; (have HL := hide hl); (have HJ := hide hJ); (have HF := hide hf); (have HG2 := hide (HG1.out.trans hg2)); (have HS2 := hide hS2); clear hl hlc hJ hf hg2 hS2))
  have HL4 := hide (show ts.length ≤ 5 by have := HL.out; omega)
  have HJF := hide (w_JourneysFault w1.heap.size A2 c2 ts w2 HJ.out (by have := HL4.out; omega))
  have HTX := hide (fun (h : joursF ts = 0) W (hn : Nx w2 W) => w_TextJ w1.heap.size A2 c2 ts W (HJ.out.nx hn) (by have := HL4.out; omega) h (few_ok h HF.out (by have := HL4.out; omega)) (HTG.out _ (HG2.out.then_nx hn)))
  have HSZ := hide (show joursF ts = 0 → (tripText (ts.map coreJ)).length ≤ 1505 from fun h => by
    have h1 := text_few h (fun x hx => (HF.out x hx).1)
    have := HL4.out
    omega)
  obtain ⟨T, hTe⟩ : ∃ T : ByteArray, T = ⟨(tripText (ts.map coreJ)).toArray⟩ := ⟨_, rfl⟩
  have hTd : T.data.toList = tripText (ts.map coreJ) := by rw [hTe]
  rw [← hTe] at HTX
  have HRD := hide (show joursF ts = 0 → ∀ W, Nx w2 W → Calls Tryz.prog 32 #[.string T] W fun e w' => Nx W w' ∧ ∃ (L : List Jour) (A : Option Addr) (c : Nat), e = .returned (.tuple #[.slice A L.length c, .int .i64 0, .int .i64 0]) ∧ RdJours w' W.heap.size A L ∧ L.length ≤ 400 ∧ L.map coreJ = ts.map coreJ from fun h W hn =>
    (w_ReadJ T (by have := HSZ.out h; rw [← hTd, len_data] at this; omega) W (HMG.out _ (HG2.out.then_nx hn))).mono (fun e w' hr => read_right h hTd hr))
  have HEQ := hide (show ∀ (L : List Jour) (B : Option Addr) (cB : Nat) (lo : Nat) W, Nx w2 W → RdJours W lo B L → L.length ≤ 400 → L.map coreJ = ts.map coreJ → Calls Tryz.prog 34 #[.slice B L.length cB, .slice A2 ts.length c2, .func (.func 35) #[] #[]] W fun e w' => e = .returned (.bool true) ∧ Nx W w' from fun L B cB lo W hn hr hl hc => w_EqualFJ lo w1.heap.size B A2 cB c2 L ts W hr (HJ.out.nx hn) (by omega) hc)
  obtain ⟨F, hF⟩ : ∃ F, F = joursF ts := ⟨_, rfl⟩
  rw [← hF] at HJF HTX HRD HSZ
  obtain ⟨nt, hnt⟩ : ∃ nt, nt = ts.length := ⟨_, rfl⟩
  rw [← hnt] at HJF HTX HEQ ⊢
  clear hTe hTd hF hnt HSZ HL4 HF HJ HL HS1 HG1 HS0 hm4
  go_upto_if 25 with (go_at_call 29; refine HJF.out.mono ?_; rintro e w3 ⟨rfl, hn3⟩)
  go_cut [3] (fun v wx => v = .pointer (some ⟨s, 0, none⟩) ∧ Gr s w0 wx ∧ Str wx s (0 + 1 + 300))
  case first =>
    by_cases h0 : F = 0
    · have t1 : (F == 0) = true := by simpa using h0
      have HTX1 := hide (HTX.out h0)
      have HRD1 := hide (HRD.out h0)
      clear h0 HTX HRD HJF
      go_wp2_with (first
        | (go_at_call 28; refine (HTX1.out _ hn3).mono ?_; rintro e w4 ⟨rfl, hn4⟩)
        | (go_at_call 32; refine (HRD1.out _ (hn3.trans hn4)).mono ?_; rintro e w5 ⟨hn5, L, B, cB, rfl, hRL, hL4, hco⟩)
        | (go_at_call 34; refine (HEQ.out L B cB _ _ ((hn3.trans hn4).trans hn5) hRL hL4 hco).mono ?_; rintro e w6 ⟨rfl, hn6⟩))
      go_meet
      exact ⟨rfl, HG2.out.then_nx (((hn3.trans hn4).trans hn5).trans hn6), HS2.out.nx (((hn3.trans hn4).trans hn5).trans hn6)⟩
    · have t1 : (F == 0) = false := by simpa using h0
      clear h0 HTX HRD HEQ
      go_wp2_with fail
      go_meet
      exact ⟨rfl, HG2.out.then_nx hn3, HS2.out.nx hn3⟩
  case rest =>
  obtain ⟨rfl, hg4, hS4⟩ := hcut
  have HG4 := hide hg4
  have HJS := hide (w_JourStr s _ wc hS4 (by omega) (fun w' hg => HTG.out _ (HG4.out.trans hg)))
  clear hg4 hS4 HTX HRD HEQ HJF HS2 HG2
  go_upto_region 9 with (go_at_call 31; refine HJS.out.mono ?_; rintro e w5 ⟨r, rfl, hr, hg5, hS5⟩)
  have HG5 := hide (HG4.out.trans hg5)
  have HRD := hide (w_ReadJ r (by omega) w5 (HMG.out _ (HG4.out.trans hg5)))
  have hrs : r.size ≤ 1300 := hr
  clear hg5 hS5 HJS HG4
  go_upto_region 10 with (go_at_call 32; refine HRD.out.mono ?_; rintro e w6 ⟨hn6, ls, ends, hll, hcase⟩; rcases hcase with ⟨L, B, cB, he, hrd, hJL, hL4, hLc, hcap, htk, (⟨hf, rfl⟩ | ⟨hf, rfl⟩)⟩ | ⟨j, hbad, rfl⟩)
  · have htx := w_TextJ w5.heap.size B cB L w6 hJL (by omega) hf ⟨hcap, jours_i64 hf, by rw [htk, len_data]; omega⟩ (HTG.out _ (HG5.out.then_nx hn6))
    have er : (⟨(tripText (L.map coreJ)).toArray⟩ : ByteArray) = r := by rw [htk]
    rw [er] at htx
    have HTX := hide htx
    have HG6 := hide (HG5.out.then_nx hn6)
    have te : (r.toList == r.toList) = true := by simp
    obtain ⟨nl, hnl⟩ : ∃ nl, nl = L.length := ⟨_, rfl⟩
    rw [← hnl] at HTX ⊢
    clear htx er htk hf hrd hJL hn6 HRD hll he hcap hL4 hLc hnl
    go_wp2_with (first
      | (go_at_call 28; refine HTX.out.mono ?_; rintro e w7 ⟨rfl, hn7⟩)
      | (go_at_call 37; refine (w_ready _).mono ?_; rintro e w9 ⟨rfl, hn9⟩))
    go_ret
    exact ⟨rfl, Nx.of_gr ((Gr.of_nx HW0.out).trans (HG6.out.then_nx (hn7.trans hn9))) HSS.out⟩
  · obtain ⟨F2, hF2⟩ : ∃ F2, F2 = joursF L := ⟨_, rfl⟩
    rw [← hF2] at hf ⊢
    have t1 : (F2 == 0) = false := by simpa using hf
    have HG6 := hide (HG5.out.then_nx hn6)
    clear hf hF2 htk hrd hJL hn6 HRD hll he hcap hL4 hLc
    go_wp2_with (go_at_call 37; refine (w_ready _).mono ?_; rintro e w9 ⟨rfl, hn9⟩)
    go_ret
    exact ⟨rfl, Nx.of_gr ((Gr.of_nx HW0.out).trans (HG6.out.then_nx hn9)) HSS.out⟩
  · have HG6 := hide (HG5.out.then_nx hn6)
    clear hbad hn6 HRD hll
    go_wp2_with (go_at_call 37; refine (w_ready _).mono ?_; rintro e w9 ⟨rfl, hn9⟩)
    go_ret
    exact ⟨rfl, Nx.of_gr ((Gr.of_nx HW0.out).trans (HG6.out.then_nx hn9)) HSS.out⟩
end Go.Proofs.YthlhomcgjgfdhaaGreatDoor
