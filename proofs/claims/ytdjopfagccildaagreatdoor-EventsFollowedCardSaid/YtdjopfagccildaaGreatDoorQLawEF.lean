/- jitlaw1.EventsFollowed returns true. -/
import Derived.Test.YtdjopfagccildaaGreatDoorQG43
import Derived.Test.YtdjopfagccildaaGreatDoorQStW
import Derived.Test.YtdjopfagccildaaGreatDoorQEvY
import Derived.Test.YtdjopfagccildaaGreatDoorQG47
import Derived.Test.YtdjopfagccildaaGreatDoorQG48
import Derived.Test.YtdjopfagccildaaGreatDoorQRfW
import Derived.Test.YtdjopfagccildaaGreatDoorQG1
namespace Go.Proofs.YtdjopfagccildaaGreatDoor
open Go.RowKit Go.Maps

theorem w_Or3E (a b d : Int) (g c : Nat) (w : World) (hg : w.heap[g]? = some (.cells #[.int .i64 a, .int .i64 b, .int .i64 d] 31 (0, 0))) :
    Calls Tryz.prog 20 #[.slice (some ⟨g, 0, none⟩) 3 c] w fun e w' => e = .returned (.int .i64 (orI [a, b, d])) ∧ w = w' := by
  have hR : Rd w 0 (some ⟨g, 0, none⟩) 1 encI [a, b, d] := Rd.lit hg (Nat.zero_le _) (fun _ => rfl) rfl
  exact w_OrE 0 _ c [a, b, d] w hR (by simp)
theorem rideF_or (l : List Ev) (r : ByteArray) (at_ : Int) : rideF l r at_ = orI [evsF l, namF r, momF at_] := by
  unfold rideF orI orI orI orI namF momF argF
  by_cases h : evsF l = 0
  · rw [if_pos h, if_pos h]
    cases keyB r <;> cases momB at_ <;> rfl
  · rw [if_neg h, if_neg h]
theorem momentF_or (l : List Ev) (at_ : Int) : momentF l at_ = orI [evsF l, momF at_] := by
  unfold momentF orI orI orI momF argF
  by_cases h : evsF l = 0
  · rw [if_pos h, if_pos h]
    cases momB at_ <;> rfl
  · rw [if_neg h, if_neg h]
theorem ev_end {l : List Ev} (h : evsF l = 0) : ∀ x ∈ l, x.at_ ≤ endMo := by
  intro x hx
  obtain ⟨_, _, h3, _⟩ := evF_zero (evs_right h hx)
  unfold endMo; omega
theorem sta_put {w : World} {g : Nat} {T : TypeId} {a0 a1 a2 a3 a4 a5 a6 : Value} (u0 u1 u2 u3 u4 u5 u6 : Value) (h : w.heap[g]? = some (.cells #[a0, a1, a2, a3, a4, a5, a6] T (0, 0))) :
    (((((((w.setCell ⟨g, 0, none⟩ u0).setCell ⟨g, 1, none⟩ u1).setCell ⟨g, 2, none⟩ u2).setCell ⟨g, 3, none⟩ u3).setCell ⟨g, 4, none⟩ u4).setCell ⟨g, 5, none⟩ u5).setCell ⟨g, 6, none⟩ u6).heap[g]? = some (.cells #[u0, u1, u2, u3, u4, u5, u6] T (0, 0)) := by
    have h0 : (w.setCell ⟨g, 0, none⟩ u0).heap[g]? = some (.cells #[u0, a1, a2, a3, a4, a5, a6] T (0, 0)) := heap_set (i := 0) h
    have h1 : ((w.setCell ⟨g, 0, none⟩ u0).setCell ⟨g, 1, none⟩ u1).heap[g]? = some (.cells #[u0, u1, a2, a3, a4, a5, a6] T (0, 0)) := heap_set (i := 1) h0
    have h2 : (((w.setCell ⟨g, 0, none⟩ u0).setCell ⟨g, 1, none⟩ u1).setCell ⟨g, 2, none⟩ u2).heap[g]? = some (.cells #[u0, u1, u2, a3, a4, a5, a6] T (0, 0)) := heap_set (i := 2) h1
    have h3 : ((((w.setCell ⟨g, 0, none⟩ u0).setCell ⟨g, 1, none⟩ u1).setCell ⟨g, 2, none⟩ u2).setCell ⟨g, 3, none⟩ u3).heap[g]? = some (.cells #[u0, u1, u2, u3, a4, a5, a6] T (0, 0)) := heap_set (i := 3) h2
    have h4 : (((((w.setCell ⟨g, 0, none⟩ u0).setCell ⟨g, 1, none⟩ u1).setCell ⟨g, 2, none⟩ u2).setCell ⟨g, 3, none⟩ u3).setCell ⟨g, 4, none⟩ u4).heap[g]? = some (.cells #[u0, u1, u2, u3, u4, a5, a6] T (0, 0)) := heap_set (i := 4) h3
    have h5 : ((((((w.setCell ⟨g, 0, none⟩ u0).setCell ⟨g, 1, none⟩ u1).setCell ⟨g, 2, none⟩ u2).setCell ⟨g, 3, none⟩ u3).setCell ⟨g, 4, none⟩ u4).setCell ⟨g, 5, none⟩ u5).heap[g]? = some (.cells #[u0, u1, u2, u3, u4, u5, a6] T (0, 0)) := heap_set (i := 5) h4
    have h6 : (((((((w.setCell ⟨g, 0, none⟩ u0).setCell ⟨g, 1, none⟩ u1).setCell ⟨g, 2, none⟩ u2).setCell ⟨g, 3, none⟩ u3).setCell ⟨g, 4, none⟩ u4).setCell ⟨g, 5, none⟩ u5).setCell ⟨g, 6, none⟩ u6).heap[g]? = some (.cells #[u0, u1, u2, u3, u4, u5, u6] T (0, 0)) := heap_set (i := 6) h5
    exact h6
theorem sta_nx {a w : World} {g : Nat} (u0 u1 u2 u3 u4 u5 u6 : Value) (h : Nx a w) (hg : a.heap.size ≤ g) :
    Nx a (((((((w.setCell ⟨g, 0, none⟩ u0).setCell ⟨g, 1, none⟩ u1).setCell ⟨g, 2, none⟩ u2).setCell ⟨g, 3, none⟩ u3).setCell ⟨g, 4, none⟩ u4).setCell ⟨g, 5, none⟩ u5).setCell ⟨g, 6, none⟩ u6) :=
  Nx.of_gr (s := g) (((((((((Gr.of_nx h).setS (p := ⟨g, 0, none⟩) (.inl rfl) u0).setS (p := ⟨g, 1, none⟩) (.inl rfl) u1).setS (p := ⟨g, 2, none⟩) (.inl rfl) u2).setS (p := ⟨g, 3, none⟩) (.inl rfl) u3).setS (p := ⟨g, 4, none⟩) (.inl rfl) u4).setS (p := ⟨g, 5, none⟩) (.inl rfl) u5).setS (p := ⟨g, 6, none⟩) (.inl rfl) u6)) hg
set_option maxRecDepth 100000 in
set_option maxHeartbeats 8000000 in
theorem w_lawEF (A : Option Addr) (n c : Nat) (w : World) (hn : n ≤ 9223372036854775807)
    (hL : 0 < n → ∃ b off, A = some ⟨b, off, none⟩ ∧ b < w.heap.size ∧ ∀ j, j < n → ∃ z : Int, w.cell? ⟨b, off + j, none⟩ = some (.int .i64 z) ∧ -9223372036854775808 ≤ z ∧ z ≤ 9223372036854775807) :
    Calls Tryz.prog 3 #[.slice A n c] w (TrueNx w) := by
  have hS0 : Str (w.alloc (.cells #[.slice A n c, .int .i64 0] 25)) w.heap.size 0 := str_new A n c w hn hL
  clear hL
  have hsz : (w.alloc (.cells #[.slice A n c, .int .i64 0] 25)).heap.size = w.heap.size + 1 := by simp
  go_enter Tryz.func3, Tryz.ntmps3
  go_wp2_with fail
  refine (w_Range 0 20 _ _ _ hS0 (by omega) (by omega) (by omega)).mono ?_
  rintro e w1 ⟨r, hr1, hr2, rfl, hg1, hS1⟩
  obtain ⟨m, rfl⟩ : ∃ m : Nat, r = (m : Int) := ⟨r.toNat, by omega⟩
  have hz1 := hg1.sz
  rw [hsz] at hz1
  have hg01 : Gr w.heap.size w w1 := (Gr.of_nx ((Nx.refl w).alloc _)).trans hg1
  clear hg1 hS0 hsz
  go_wp2_with fail
  refine (w_Events m _ _ _ (by omega) hS1 (by omega)).mono ?_
  rintro e w2 ⟨B, cB, l, rfl, hR2, hlm, hlc, hok, hg2, hS2⟩
  have hg02 := hg01.trans hg2
  have HR2 := hide hR2
  have HOK := hide hok
  have HS2 := hide hS2
  have HG02 := hide hg02
  have hz2 := hg2.sz
  have hl20 : l.length ≤ 20 := by omega
  clear hR2 hok hS2 hg02 hg2 hg01 hS1
  go_upto_region 3 with (first
    | (go_at_call 8; refine (w_PickI _ [0, 20, 50, 100, 200, -1, 345686400000] _ _ _ _ (HS2.out.nx ((Nx.refl _).alloc _)) (by omega) (hnew rfl) (by have := HS2.out.lt; omega) rfl (by simp) (by simp)).mono ?_; rintro e w3 ⟨at_, hm3, rfl, hg3, hS3⟩; (have HS3 := hide hS3); (have HG3 := hide ((Gr.of_nx (s := w.heap.size) ((Nx.refl w2).alloc _)).trans hg3)); clear hg3 hS3)
    | (go_at_call 9; refine (w_Some _ [⟨#[114, 97]⟩, ⟨#[114, 98]⟩, ⟨#[114, 122]⟩, ⟨#[65]⟩] _ _ _ _ (HS3.out.nx ((Nx.refl _).alloc _)) (by omega) (hnew rfl) (by have := HS3.out.lt; omega) rfl (by simp) (by simp)).mono ?_; rintro e w4 ⟨ri, hm4, rfl, hg4, hS4⟩; (have HG4 := hide (HG3.out.trans ((Gr.of_nx ((Nx.refl _).alloc _)).trans hg4))); clear hg4 hS4))
  have hri : ri.size ≤ 1000 := by
    simp only [List.mem_cons, List.not_mem_nil, or_false] at hm4
    rcases hm4 with rfl | rfl | rfl | rfl <;> decide
  clear hm4 hm3
  have HR := hide (HR2.out.gr HG4.out (by omega))
  have HG := hide (HG02.out.trans HG4.out)
  have HT := hide (fun W (h : Nx w4 W) => Nx.of_gr (HG.out.then_nx h) (Nat.le_refl _))
  have hs4 : w.heap.size < w4.heap.size := HG.out.sz |> fun h => by have := HG4.out.sz; omega
  clear HR2 HG02 HG3 HG4 HS2 HS3 hr1 hr2 hlm hz1 hz2 HG
  generalize w1.heap.size = lo at *
  generalize w.heap.size = s at *
  have HF := hide (w_EventsFaultR lo B cB l w4 HR.out (by omega) HOK.out)
  have HC := hide hlc
  obtain ⟨f, hf⟩ : ∃ f, f = evsF l := ⟨_, rfl⟩
  rw [← hf] at HF
  have HFF := hide hf
  clear hf hlc
  go_wp2_with fail
  refine HF.out.mono ?_
  rintro e w5 ⟨rfl, hn5⟩
  have HN5 := hide hn5
  clear hn5
  go_wp2_with fail
  refine (w_RefusedOf lo B cB l w5 (HR.out.nx HN5.out) (by omega) HOK.out).mono ?_
  rintro e w6 ⟨⟨B6, m6, c6, rfl, _, h6⟩, hn6⟩
  rw [← HFF.out] at h6 ⊢
  have HN6 := hide (HN5.out.trans hn6)
  have H6 := hide h6
  clear hn6 h6
  go_wp2_with fail
  refine (w_Undone lo B cB l w6 (HR.out.nx HN6.out) (by omega) HOK.out).mono ?_
  rintro e w7 ⟨⟨B7, m7, c7, rfl, _, h7⟩, hn7⟩
  rw [← HFF.out] at h7 ⊢
  have HN7 := hide (HN6.out.trans hn7)
  have H76 := hide hn7
  have H7 := hide h7
  have tff : (f == f) = true := by simp
  clear hn7 h7
  go_upto_region 6 with fail
  go_cut [70] (fun v wx => v = .bool false ∧ Nx w7 wx)
  case first =>
    rcases Decidable.em (f = 0) with hf | hf
    · subst hf
      have hz := HFF.out.symm
      obtain ⟨R, hRd⟩ : ∃ R, R = refP l endMo l.length := ⟨_, rfl⟩
      obtain ⟨U, hUd⟩ : ∃ U, U = undoneL l l.length := ⟨_, rfl⟩
      obtain ⟨em6, hR6⟩ := H6.out rfl
      obtain ⟨em7, hR7⟩ := H7.out rfl
      have hRr : R = refR l endMo l.length := hRd.trans (ref_same hz endMo (by decide) l.length)
      have HRE := hide (fun W (hn : Nx w7 W) => (show Calls Tryz.prog 14 #[.slice B l.length cB] W fun e w' => ∃ (B : Option Addr) (m : Nat), e = .returned (.slice B R.length m) ∧ Rd w' W.heap.size B 2 encRef R ∧ Nx W w' by
        rw [hRr]; exact w_RefusedEvents lo B cB l endMo W ((HR.out.nx HN7.out).nx hn) (by omega) HC.out HOK.out (ev_end hz)))
      have HUE := hide (fun W (hn : Nx w7 W) => (show Calls Tryz.prog 16 #[.slice B l.length cB] W fun e w' => ∃ (B : Option Addr) (m : Nat), e = .returned (.slice B U.length m) ∧ Rd w' W.heap.size B 1 encI U ∧ Nx W w' by
        rw [hUd]
        refine (w_UndoneOf lo B cB l W ((HR.out.nx HN7.out).nx hn) (by omega)).mono ?_
        rintro e w10 ⟨v10, rfl, hown10, hn10⟩
        obtain ⟨B10, c10, rfl, hR10, _⟩ := Rd.of_own encI_len rfl hown10
        exact ⟨B10, c10, rfl, hR10, hn10⟩))
      rw [← hRd] at em6 hR6
      rw [← hUd] at em7 hR7
      subst em6 em7
      have hRl : R.length ≤ 20 := by rw [hRr]; have := refR_len l endMo l.length; omega
      have hUl : U.length ≤ 20 := by rw [hUd]; have := undoneL_len l l.length; omega
      have HR6 := hide (hR6.nx H76.out)
      have HR7 := hide hR7
      clear hR6 hR7 H6 H7 hRr hRd hUd
      go_wp2_with (first
        | (go_at_call 14; refine (HRE.out _ (Nx.refl _)).mono ?_; rintro e w8 ⟨B8, c8, rfl, hR8, hn8⟩; (have HR8 := hide hR8); (have HN8 := hide hn8); clear hR8 hn8)
        | (go_at_call 13; refine (w_EqualRef _ _ B6 B8 c6 c8 R _ (HR6.out.nx HN8.out) HR8.out (by omega)).mono ?_; rintro e w9 ⟨rfl, hn9⟩; (have HN9 := hide (HN8.out.trans hn9)); clear hn9)
        | (go_at_call 16; refine (HUE.out _ HN9.out).mono ?_; rintro e w10 ⟨B10, c10, rfl, hR10, hn10⟩; (have HR10 := hide hR10); (have HN10 := hide (HN9.out.trans hn10)); clear hR10 hn10)
        | (go_at_call 15; refine (w_EqualIJ _ _ B7 B10 c7 c10 U _ (HR7.out.nx HN10.out) HR10.out (by omega)).mono ?_; rintro e w11 ⟨rfl, hn11⟩; (have HN11 := hide (HN10.out.trans hn11)); clear hn11))
      go_meet
      exact ⟨rfl, HN11.out⟩
    · have tf : (f == 0) = false := by simpa using hf
      clear H6 H7
      go_wp2_with fail
      go_meet
      exact ⟨rfl, Nx.refl _⟩
  case rest =>
    obtain ⟨rfl, hx⟩ := hcut
    obtain ⟨w8, hw8⟩ : ∃ w8, w8 = wc := ⟨_, rfl⟩
    rw [← hw8] at hx ⊢
    clear hw8
    have HN8 := hide (HN7.out.trans hx)
    clear hx H6 H7 H76 HN5 HN6 HN7
    obtain ⟨mf, hmf⟩ : ∃ mf, mf = momentF l at_ := ⟨_, rfl⟩
    obtain ⟨rf, hrf⟩ : ∃ rf, rf = rideF l ri at_ := ⟨_, rfl⟩
    have HMF := hide hmf
    have HRF := hide hrf
    clear hmf hrf
    go_wp2_with fail
    refine (w_Rides lo B cB l at_ w8 (HR.out.nx HN8.out) (by omega) HOK.out).mono ?_
    rintro e w9 ⟨⟨B9, m9, c9, rfl, h9n, h9⟩, hn9⟩
    rw [← HMF.out] at h9 h9n ⊢
    have HN9 := hide (HN8.out.trans hn9)
    have H9 := hide h9
    have H9n := hide h9n
    clear hn9 h9 h9n
    go_wp2_with fail
    refine (w_Cars lo B cB l at_ w9 (HR.out.nx HN9.out) (by omega) HOK.out).mono ?_
    rintro e w10 ⟨⟨B10, m10, c10, rfl, h10n, h10⟩, hn10⟩
    rw [← HMF.out] at h10 h10n ⊢
    have HN10 := hide (HN9.out.trans hn10)
    have HX10 := hide hn10
    have H10 := hide h10
    have H10n := hide h10n
    clear hn10 h10 h10n
    go_wp2_with fail
    refine (w_RideOf lo B cB l ri at_ w10 (HR.out.nx HN10.out) (by omega) HOK.out hri).mono ?_
    rintro e w11 ⟨st, b, rfl, h11n, h11, hn11⟩
    rw [← HRF.out] at h11 h11n ⊢
    have HN11 := hide (HN10.out.trans hn11)
    have HX11 := hide hn11
    have H11 := hide h11
    have H11n := hide h11n
    clear hn11 h11 h11n
    obtain ⟨sri, sca, sho, sup, sdn, spi, sse⟩ := st
    unfold staV
    simp only
    obtain ⟨w12, hw12⟩ : ∃ w12, w12 = w11.alloc (.cells #[.string sri, .string sca, .int .i64 sho, .int .i64 sup, .int .i64 sdn, .int .i64 spi, .int .i64 sse] 51 (0, 0)) := ⟨_, rfl⟩
    obtain ⟨g12, hg12⟩ : ∃ g12, g12 = w11.heap.size := ⟨_, rfl⟩
    have hn12 : Nx w11 w12 := hw12 ▸ (Nx.refl w11).alloc _
    have hB12 : w12.heap[g12]? = some (.cells #[.string sri, .string sca, .int .i64 sho, .int .i64 sup, .int .i64 sdn, .int .i64 spi, .int .i64 sse] 51 (0, 0)) := by rw [hw12, hg12]; exact heap_alloc_new _ _
    have HN12 := hide (HN11.out.trans hn12)
    have HX12 := hide (HX11.out.trans hn12)
    have HB12 := hide hB12
    clear hn12 hB12
    go_upto_region 11 with fail
    rw [← hw12, ← hg12]
    clear hw12 hg12
    have HOR := hide (show orI [f, namF ri, momF at_] = rf by rw [HRF.out, HFF.out]; exact (rideF_or l ri at_).symm)
    have HOM := hide (show orI [f, momF at_] = mf by rw [HMF.out, HFF.out]; exact (momentF_or l at_).symm)
    go_upto_region 12 with (first
      | (go_at_call 21; refine (w_KeyFault ri _ (by omega)).mono ?_; rintro e w13 ⟨rfl, hn13⟩; (have HN13 := hide (HN12.out.trans hn13)); (have HX13 := hide (HX12.out.trans hn13)); (have HB13 := hide ((hn13.block _ (Array.getElem?_eq_some_iff.1 HB12.out).1).trans HB12.out)); clear hn13)
      | (go_at_call 22; refine (w_MomentFault at_ _).mono ?_; rintro e w13' ⟨rfl, rfl⟩)
      | (go_at_call 20; refine (w_Or3E f (namF ri) (momF at_) _ 3 _ (hnew rfl)).mono ?_; rintro e w14 ⟨rfl, hw14⟩; rw [HOR.out]; (have hn14 : Nx w13 w14 := hw14 ▸ (Nx.refl w13).alloc _); (have HN14 := hide (HN13.out.trans hn14)); (have HX14 := hide (HX13.out.trans hn14)); (have HB14 := hide ((hn14.block _ (Array.getElem?_eq_some_iff.1 HB13.out).1).trans HB13.out)); clear hn14; try rw [← hw14]))
    have hgb : g12 < w14.heap.size := (Array.getElem?_eq_some_iff.1 HB14.out).1
    obtain ⟨w15, hw15⟩ : ∃ w15, w15 = w14.alloc (.cells #[.string ⟨#[]⟩, .string ⟨#[]⟩, .int .i64 0, .int .i64 0, .int .i64 0, .int .i64 0, .int .i64 0] 51 (0, 0)) := ⟨_, rfl⟩
    obtain ⟨g15, hg15⟩ : ∃ g15, g15 = w14.heap.size := ⟨_, rfl⟩
    have hn15 : Nx w14 w15 := hw15 ▸ (Nx.refl w14).alloc _
    have hB15 : w15.heap[g15]? = some (.cells #[.string ⟨#[]⟩, .string ⟨#[]⟩, .int .i64 0, .int .i64 0, .int .i64 0, .int .i64 0, .int .i64 0] 51 (0, 0)) := by rw [hw15, hg15]; exact heap_alloc_new _ _
    have HN15 := hide (HN14.out.trans hn15)
    have HX15 := hide (HX14.out.trans hn15)
    have HB15 := hide hB15
    have HGG := hide hg15
    have HN145 := hide hn15
    clear hn15 hB15
    go_upto_region 13 with fail
    rw [← hw15, ← hg15]
    clear hw15 hg15
    have HRUN := hide (fun (h : f = 0) => (show (runP l at_ l.length).rides ri = (runR l at_ l.length).rides ri from (run_sim (HFF.out.symm.trans h) at_ l.length).rides ri))
    go_upto_if 99 with fail
    go_cut [19] (fun v wx => v = .bool b ∧ Nx w14 wx ∧ wx.heap[g15]? = some (.cells #[.string sri, .string sca, .int .i64 sho, .int .i64 sup, .int .i64 sdn, .int .i64 spi, .int .i64 sse] 51 (0, 0)))
    case first =>
      rcases Decidable.em (rf = 0) with hr0 | hr0
      · subst hr0
        obtain ⟨es, eb⟩ := H11.out rfl
        have hf0 : f = 0 := by
          have h := HOR.out
          unfold orI at h
          by_cases h2 : f = 0
          · exact h2
          · rw [if_neg h2] at h; exact h
        have HSO := hide (fun W (hn : Nx w4 W) => (show Calls Tryz.prog 23 #[.slice B l.length cB, .string ri, .int .i64 at_] W fun e w' => e = .returned (.tuple #[.agg #[.string sri, .string sca, .int .i64 sho, .int .i64 sup, .int .i64 sdn, .int .i64 spi, .int .i64 sse], .bool b]) ∧ Nx W w' by
          have h := w_StateOf lo B cB l ri at_ W (HR.out.nx hn) (by omega) HC.out HOK.out hri
          unfold StateEnd at h
          rw [← HRUN.out hf0, ← es, ← eb] at h
          exact h))
        clear es eb H11 H11n hf0
        go_wp2_with (go_at_call 23; refine (HSO.out _ HN15.out).mono ?_; rintro e w16 ⟨rfl, hn16⟩; (have HN16 := hide hn16); (have hb16 := (hn16.block _ (Array.getElem?_eq_some_iff.1 HB15.out).1).trans HB15.out); (have zz16 : ∀ i, w16.frozen? ⟨g15, i, none⟩ = false := fun i => by { simp [World.frozen?, hb16] }); (have hbl16 := (Array.getElem?_eq_some_iff.1 hb16).1); (obtain ⟨y0, y1, y2, y3, y4, y5, y6⟩ := (sta_cells (s := ⟨⟨#[]⟩, ⟨#[]⟩, 0, 0, 0, 0, 0⟩) hb16)); (try simp only at y0 y1 y2 y3 y4 y5 y6); clear hn16)
        go_meet
        exact ⟨rfl, sta_nx _ _ _ _ _ _ _ (HN145.out.trans HN16.out) (Nat.le_of_eq HGG.out.symm), sta_put _ _ _ _ _ _ _ hb16⟩
      · obtain ⟨es, eb⟩ := H11n.out hr0
        injection es with e1 e2 e3 e4 e5 e6 e7
        subst e1 e2 e3 e4 e5 e6 e7 eb
        have tr : (rf == 0) = false := by simpa using hr0
        go_wp2_with fail
        go_meet
        exact ⟨rfl, HN145.out, HB15.out⟩
    case rest =>
      obtain ⟨rfl, hx14, hB16⟩ := hcut
      obtain ⟨w16, hw16⟩ : ∃ w16, w16 = wc := ⟨_, rfl⟩
      rw [← hw16] at hx14 hB16 ⊢
      clear hw16
      have HN16 := hide (HN14.out.trans hx14)
      have HX16 := hide (HX14.out.trans hx14)
      have hB14' := (hx14.block _ hgb).trans HB14.out
      clear hx14
      obtain ⟨y0, y1, y2, y3, y4, y5, y6⟩ := sta_cells (s := ⟨sri, sca, sho, sup, sdn, spi, sse⟩) hB14'
      obtain ⟨z0, z1, z2, z3, z4, z5, z6⟩ := sta_cells (s := ⟨sri, sca, sho, sup, sdn, spi, sse⟩) hB16
      simp only at y0 y1 y2 y3 y4 y5 y6 z0 z1 z2 z3 z4 z5 z6
      have HX16 := hide HX16.out
      clear hB14' hB16 H11 H11n
      go_upto_region 16 with fail
      go_cut [119] (fun v wx => v = .bool false ∧ Nx w16 wx)
      case first =>
        have trr : (rf == rf) = true := by simp
        have tbb : (b == b) = true := by simp
        have tdd : decide ((⟨sri, sca, sho, sup, sdn, spi, sse⟩ : St) = ⟨sri, sca, sho, sup, sdn, spi, sse⟩) = true := by simp
        go_wp2_with fail
        go_meet
        exact ⟨by rfl, Nx.refl _⟩
      case rest =>
        obtain ⟨rfl, hx⟩ := hcut
        obtain ⟨w17, hw17⟩ : ∃ w17, w17 = wc := ⟨_, rfl⟩
        rw [← hw17] at hx ⊢
        clear hw17 y0 y1 y2 y3 y4 y5 y6 z0 z1 z2 z3 z4 z5 z6
        have HN17 := hide (HN16.out.trans hx)
        have HX17 := hide (HX16.out.trans hx)
        clear hx
        go_upto_region 19 with (first
          | (go_at_call 22; refine (w_MomentFault at_ _).mono ?_; rintro e w18' ⟨rfl, rfl⟩)
          | (go_at_call 20; refine (w_Or2 f (momF at_) _ 2 _ (hnew rfl)).mono ?_; rintro e w18 ⟨rfl, hw18⟩; rw [HOM.out]; (have hn18 : Nx w17 w18 := hw18 ▸ (Nx.refl w17).alloc _); (have HN18 := hide (HN17.out.trans hn18)); (have HX18 := hide (HX17.out.trans hn18)); clear hn18; try rw [← hw18]))
        rcases Decidable.em (mf = 0) with hm0 | hm0
        · subst hm0
          obtain ⟨L, em9, hR9, hS9, hl9⟩ := H9.out rfl
          obtain ⟨C, em10, hR10, hS10, hl10, hr10⟩ := H10.out rfl
          subst em9 em10
          have hz := (momentF_zero HMF.out.symm).1
          have hsim := run_sim hz at_ l.length
          have HR9 := hide (hR9.nx (HX10.out.trans HX18.out) |>.low (Nat.zero_le _))
          have HR10 := hide (hR10.nx HX18.out |>.low (Nat.zero_le _))
          have HLL := hide (show L.length ≤ 80 ∧ C.length ≤ 80 ∧ ∀ x ∈ C, x.core.rides.length ≤ 65536 from ⟨by omega, by omega, fun x hx => by have := hr10 x hx; omega⟩)
          have HST := hide (fun W (hn : Nx w4 W) => (show Calls Tryz.prog 26 #[.slice B l.length cB, .int .i64 at_] W fun e w' => ∃ (A : Option Addr) (c : Nat), (∃ rk, KeysOf (runR l at_ l.length).rides rk) ∧ e = .returned (.slice A L.length c) ∧ Rd w' 0 A 7 encSta L ∧ Nx W w' by
            refine (w_StatesAt lo B cB l at_ W (HR.out.nx hn) (by omega) HC.out HOK.out).mono ?_
            rintro e w' ⟨A, c, ks, rfl, hR, hk, _, hn'⟩
            have e := sts_same hsim hS9 hk
            refine ⟨A, c, ⟨ks, hk⟩, ?_, ?_, hn'⟩
            · rw [e]; simp [stsR]
            · rw [e]; exact hR.low (Nat.zero_le _)))
          have HCA := hide (fun W (hn : Nx w4 W) (hrk : ∃ rk, KeysOf (runR l at_ l.length).rides rk) => (show Calls Tryz.prog 28 #[.slice B l.length cB, .int .i64 at_] W fun e w' => ∃ (A : Option Addr) (c : Nat) (M : List WrS), e = .returned (.slice A M.length c) ∧ RdWrs w' 0 A M ∧ C.map (·.core) = M.map (·.core) ∧ Nx W w' by
            refine (w_CarsAt lo B cB l at_ W (HR.out.nx hn) (by omega) HC.out HOK.out).mono ?_
            rintro e w' ⟨A, c, ck, M, rfl, hR, hk, hM, _, _, hn'⟩
            obtain ⟨rk, hrk⟩ := hrk
            exact ⟨A, c, M, rfl, hR.low (Nat.zero_le _), (wrs_same hsim hS10 hk hrk).trans (hM rk hrk).symm, hn'⟩))
          clear hR9 hS9 hl9 hR10 hS10 hl10 hr10 hsim H9 H9n H10 H10n HMF
          go_wp2_with (first
            | (go_at_call 26; refine (HST.out _ HN18.out).mono ?_; rintro e w19 ⟨A19, c19, hrk, rfl, hR19, hn19⟩; (have HR19 := hide hR19); (have HRK := hide hrk); (have HN19 := hide (HN18.out.trans hn19)); (have HY19 := hide hn19); clear hR19 hn19 hrk)
            | (go_at_call 25; refine (w_EqualSta 0 0 B9 A19 c9 c19 L _ (HR9.out.nx HY19.out) HR19.out (by have := HLL.out.1; omega)).mono ?_; rintro e w20 ⟨rfl, hn20⟩; (have HN20 := hide (HN19.out.trans hn20)); (have HY20 := hide (HY19.out.trans hn20)); clear hn20)
            | (go_at_call 28; refine (HCA.out _ HN20.out HRK.out).mono ?_; rintro e w21 ⟨A21, c21, M, rfl, hR21, hco, hn21⟩; (have HR21 := hide hR21); (have HCO := hide hco); (have HN21 := hide (HN20.out.trans hn21)); (have HY21 := hide (HY20.out.trans hn21)); clear hR21 hn21 hco)
            | (go_at_call 27; refine (w_EqualFW 29 eg_sameW w_SameWhere 0 0 B10 A21 c10 c21 C M _ (HR10.out.nx HY21.out) HR21.out (by have := HLL.out.2.1; omega) HLL.out.2.2 HCO.out).mono ?_; rintro e w22 ⟨rfl, hn22⟩; (have HN22 := hide (HN21.out.trans hn22)); clear hn22)
            | (go_at_call 24; refine (w_lived _).mono ?_; rintro e w23 ⟨rfl, hn23⟩; (have HN23 := hide (HN22.out.trans hn23)); clear hn23))
          go_ret
          exact ⟨rfl, HT.out _ HN23.out⟩
        · have em9 := H9n.out hm0
          have em10 := H10n.out hm0
          subst em9 em10
          have tm : (mf != 0) = true := by simpa using hm0
          have tmm : (mf == mf) = true := by simp
          clear H9 H9n H10 H10n HMF
          go_wp2_with (go_at_call 24; refine (w_lived _).mono ?_; rintro e w19 ⟨rfl, hn19⟩)
          go_ret
          exact ⟨rfl, HT.out _ (HN18.out.trans hn19)⟩
end Go.Proofs.YtdjopfagccildaaGreatDoor
