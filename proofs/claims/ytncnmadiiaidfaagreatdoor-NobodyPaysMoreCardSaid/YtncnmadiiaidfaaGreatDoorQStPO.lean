/- The stream's price. -/
import Derived.Test.YtncnmadiiaidfaaGreatDoorQG24
import Derived.Test.YtncnmadiiaidfaaGreatDoorQFullA
import Derived.Deep.RegionHeld
import Derived.RegionTactic
namespace Go.Proofs.YtncnmadiiaidfaaGreatDoor
open Go.RowKit

/-- A price in a block of its own, with no giants. -/
def BoxP (b : Nat) (w : World) : Prop := ∃ x : Price, okP x ∧ w.heap[b]? = some (.cells (encP x).toArray 29 (0, 0))
theorem boxP_pr (b : Nat) : PrBox b 0 (BoxP b) where
  get w h := by
    obtain ⟨x, hok, hb⟩ := h
    exact ⟨x, hok, fun j u hu => by rw [Nat.zero_add]; exact (cell_of_row w b j _ _ _ hb).trans (by rw [← hu, List.getElem?_toArray])⟩
  frz w j h := by obtain ⟨x, _, hb⟩ := h; simp [World.frozen?, hb]
  lt w h := by obtain ⟨x, _, hb⟩ := h; exact (Array.getElem?_eq_some_iff.1 hb).1
  setS w j t h hj ht := by
    obtain ⟨x, hok, hb⟩ := h
    have hs := heap_set (i := 0 + j) (u := .string t) hb
    subst hj
    exact ⟨{ x with key := t }, ⟨ht, hok.2⟩, hs⟩
  setI w j z h hj hz := by
    obtain ⟨x, hok, hb⟩ := h
    have hs := heap_set (i := 0 + j) (u := .int .i64 z) hb
    have hx := hok.2
    simp only [List.forall_mem_cons] at hx
    have hj' : j = 1 ∨ j = 2 ∨ j = 3 ∨ j = 4 ∨ j = 5 ∨ j = 6 ∨ j = 7 ∨ j = 8 ∨ j = 9 := by omega
    rcases hj' with rfl | rfl | rfl | rfl | rfl | rfl | rfl | rfl | rfl
    · refine ⟨{ x with base := z }, ⟨hok.1, ?_⟩, hs⟩
      simp only [List.forall_mem_cons]
      exact ⟨hz, hx.2.1, hx.2.2.1, hx.2.2.2.1, hx.2.2.2.2.1, hx.2.2.2.2.2.1, hx.2.2.2.2.2.2.1, hx.2.2.2.2.2.2.2.1, hx.2.2.2.2.2.2.2.2.1, fun _ h => nomatch h⟩
    · refine ⟨{ x with metre := z }, ⟨hok.1, ?_⟩, hs⟩
      simp only [List.forall_mem_cons]
      exact ⟨hx.1, hz, hx.2.2.1, hx.2.2.2.1, hx.2.2.2.2.1, hx.2.2.2.2.2.1, hx.2.2.2.2.2.2.1, hx.2.2.2.2.2.2.2.1, hx.2.2.2.2.2.2.2.2.1, fun _ h => nomatch h⟩
    · refine ⟨{ x with minute := z }, ⟨hok.1, ?_⟩, hs⟩
      simp only [List.forall_mem_cons]
      exact ⟨hx.1, hx.2.1, hz, hx.2.2.2.1, hx.2.2.2.2.1, hx.2.2.2.2.2.1, hx.2.2.2.2.2.2.1, hx.2.2.2.2.2.2.2.1, hx.2.2.2.2.2.2.2.2.1, fun _ h => nomatch h⟩
    · refine ⟨{ x with cross := z }, ⟨hok.1, ?_⟩, hs⟩
      simp only [List.forall_mem_cons]
      exact ⟨hx.1, hx.2.1, hx.2.2.1, hz, hx.2.2.2.2.1, hx.2.2.2.2.2.1, hx.2.2.2.2.2.2.1, hx.2.2.2.2.2.2.2.1, hx.2.2.2.2.2.2.2.2.1, fun _ h => nomatch h⟩
    · refine ⟨{ x with from_ := z }, ⟨hok.1, ?_⟩, hs⟩
      simp only [List.forall_mem_cons]
      exact ⟨hx.1, hx.2.1, hx.2.2.1, hx.2.2.2.1, hz, hx.2.2.2.2.2.1, hx.2.2.2.2.2.2.1, hx.2.2.2.2.2.2.2.1, hx.2.2.2.2.2.2.2.2.1, fun _ h => nomatch h⟩
    · refine ⟨{ x with to_ := z }, ⟨hok.1, ?_⟩, hs⟩
      simp only [List.forall_mem_cons]
      exact ⟨hx.1, hx.2.1, hx.2.2.1, hx.2.2.2.1, hx.2.2.2.2.1, hz, hx.2.2.2.2.2.2.1, hx.2.2.2.2.2.2.2.1, hx.2.2.2.2.2.2.2.2.1, fun _ h => nomatch h⟩
    · refine ⟨{ x with peak := z }, ⟨hok.1, ?_⟩, hs⟩
      simp only [List.forall_mem_cons]
      exact ⟨hx.1, hx.2.1, hx.2.2.1, hx.2.2.2.1, hx.2.2.2.2.1, hx.2.2.2.2.2.1, hz, hx.2.2.2.2.2.2.2.1, hx.2.2.2.2.2.2.2.2.1, fun _ h => nomatch h⟩
    · refine ⟨{ x with least := z }, ⟨hok.1, ?_⟩, hs⟩
      simp only [List.forall_mem_cons]
      exact ⟨hx.1, hx.2.1, hx.2.2.1, hx.2.2.2.1, hx.2.2.2.2.1, hx.2.2.2.2.2.1, hx.2.2.2.2.2.2.1, hz, hx.2.2.2.2.2.2.2.2.1, fun _ h => nomatch h⟩
    · refine ⟨{ x with most := z }, ⟨hok.1, ?_⟩, hs⟩
      simp only [List.forall_mem_cons]
      exact ⟨hx.1, hx.2.1, hx.2.2.1, hx.2.2.2.1, hx.2.2.2.2.1, hx.2.2.2.2.2.1, hx.2.2.2.2.2.2.1, hx.2.2.2.2.2.2.2.1, hz, fun _ h => nomatch h⟩
  same w w' h e _ := by obtain ⟨x, hok, hb⟩ := h; exact ⟨x, hok, e.trans hb⟩
/-- A price of the stream's. -/
def PriOut (s k : Nat) (w : World) (e : Ending) (w' : World) : Prop := ∃ x : Price, e = .returned (aggP x) ∧ okP x ∧ Gr s w w' ∧ Str w' s (k + 100)
theorem Two.toGrP {s b : Nat} {w w' : World} (h : Two s b w w') (hb : w.heap.size ≤ b) : Gr s w w' :=
  ⟨h.1, h.2.1, h.2.2.1, h.2.2.2.1, fun i hi hne => h.2.2.2.2 i hi (fun e => hne (by rw [e])) (by omega)⟩
theorem Gr.setgP {w w' : World} {s g i : Nat} {u : Value} (h : Gr s w w') (hg : w.heap.size ≤ g) : Gr s w (w'.setCell ⟨g, i, none⟩ u) := h.setS (p := ⟨g, i, none⟩) (.inr hg) u
theorem Str.setgP {w : World} {s k g i : Nat} {u : Value} (h : Str w s k) (hg : s < g) : Str (w.setCell ⟨g, i, none⟩ u) s k := h.row (row := some g) ((Gr.refl g w).setS (p := ⟨g, i, none⟩) (.inl rfl) u) (fun j h => by injection h with h; omega)

set_option maxRecDepth 100000 in
set_option maxHeartbeats 2000000 in
theorem w_PriceOf (key : ByteArray) (s k : Nat) (w : World) (hS : Str w s k) (hk : k < 700000) (hks : key.size ≤ 1000) :
    Calls Tryz.prog 5 #[.pointer (some ⟨s, 0, none⟩), .string key] w (PriOut s k w) := by
  have hsl := hS.lt
  obtain ⟨w0, hw0⟩ : ∃ w0, w0 = w.alloc (.cells #[.string ⟨#[]⟩, .int .i64 0, .int .i64 0, .int .i64 0, .int .i64 0, .int .i64 0, .int .i64 0, .int .i64 0, .int .i64 0, .int .i64 0] 29 (0, 0)) := ⟨_, rfl⟩
  obtain ⟨g4, hg4⟩ : ∃ g4, g4 = w.heap.size := ⟨_, rfl⟩
  have hgA0 := hide (show Gr s w w0 from hw0 ▸ (Gr.refl s w).alloc _)
  have hS0 := hS.nx (hw0 ▸ (Nx.refl w).alloc _ : Nx w w0)
  have hb0 : w0.heap[g4]? = some (.cells #[.string ⟨#[]⟩, .int .i64 0, .int .i64 0, .int .i64 0, .int .i64 0, .int .i64 0, .int .i64 0, .int .i64 0, .int .i64 0, .int .i64 0] 29 (0, 0)) := by rw [hw0, hg4]; exact heap_alloc_new w _
  have HB0 := hide hb0
  have HG4 := hide hg4
  have HS0 := hide hS0
  clear hS hb0 hS0
  go_enter Tryz.func5, Tryz.ntmps5
  go_upto_region 1 with fail
  rw [← hw0, ← hg4]
  clear hw0 hg4
  go_wp2_with fail
  refine (w_PickI _ [0, 100, 250] _ s _ _ (HS0.out.nx ((Nx.refl _).alloc _)) (by omega) (hnew rfl) (by have := HS0.out.lt; omega) rfl (by simp) (by simp)).mono ?_
  rintro e w1 ⟨z1, hz1, rfl, hg1, hS1⟩
  have hb1 := hide (show -1000000000000000 ≤ z1 ∧ z1 ≤ 1000000000000000 by simp only [List.mem_cons, List.not_mem_nil, or_false] at hz1; omega)
  have hgA1 := hide (hgA0.out.trans ((Gr.of_nx ((Nx.refl _).alloc _)).trans hg1))
  have hgB1 := hide ((Gr.of_nx ((Nx.refl w0).alloc _)).trans hg1)
  have HS1 := hide hS1
  clear hz1 hg1 hS1
  go_wp2_with fail
  refine (w_PickI _ [0, 1, 7] _ s _ _ (HS1.out.nx ((Nx.refl _).alloc _)) (by omega) (hnew rfl) (by have := HS1.out.lt; omega) rfl (by simp) (by simp)).mono ?_
  rintro e w2 ⟨z2, hz2, rfl, hg2, hS2⟩
  have hb2 := hide (show -1000000000000000 ≤ z2 ∧ z2 ≤ 1000000000000000 by simp only [List.mem_cons, List.not_mem_nil, or_false] at hz2; omega)
  have hgA2 := hide (hgA1.out.trans ((Gr.of_nx ((Nx.refl _).alloc _)).trans hg2))
  have hgB2 := hide ((hgB1.out.trans ((Gr.of_nx ((Nx.refl w1).alloc _)).trans hg2)))
  have HS2 := hide hS2
  clear hz2 hg2 hS2
  go_wp2_with fail
  refine (w_PickI _ [0, 5, 30] _ s _ _ (HS2.out.nx ((Nx.refl _).alloc _)) (by omega) (hnew rfl) (by have := HS2.out.lt; omega) rfl (by simp) (by simp)).mono ?_
  rintro e w3 ⟨z3, hz3, rfl, hg3, hS3⟩
  have hb3 := hide (show -1000000000000000 ≤ z3 ∧ z3 ≤ 1000000000000000 by simp only [List.mem_cons, List.not_mem_nil, or_false] at hz3; omega)
  have hgA3 := hide (hgA2.out.trans ((Gr.of_nx ((Nx.refl _).alloc _)).trans hg3))
  have hgB3 := hide ((hgB2.out.trans ((Gr.of_nx ((Nx.refl w2).alloc _)).trans hg3)))
  have HS3 := hide hS3
  clear hz3 hg3 hS3
  go_wp2_with fail
  refine (w_PickI _ [0, 50] _ s _ _ (HS3.out.nx ((Nx.refl _).alloc _)) (by omega) (hnew rfl) (by have := HS3.out.lt; omega) rfl (by simp) (by simp)).mono ?_
  rintro e w4 ⟨z4, hz4, rfl, hg4, hS4⟩
  have hb4 := hide (show -1000000000000000 ≤ z4 ∧ z4 ≤ 1000000000000000 by simp only [List.mem_cons, List.not_mem_nil, or_false] at hz4; omega)
  have hgA4 := hide (hgA3.out.trans ((Gr.of_nx ((Nx.refl _).alloc _)).trans hg4))
  have hgB4 := hide ((hgB3.out.trans ((Gr.of_nx ((Nx.refl w3).alloc _)).trans hg4)))
  have HS4 := hide hS4
  clear hz4 hg4 hS4
  go_wp2_with fail
  refine (w_PickI _ [0, 7, 16] _ s _ _ (HS4.out.nx ((Nx.refl _).alloc _)) (by omega) (hnew rfl) (by have := HS4.out.lt; omega) rfl (by simp) (by simp)).mono ?_
  rintro e w5 ⟨z5, hz5, rfl, hg5, hS5⟩
  have hb5 := hide (show -1000000000000000 ≤ z5 ∧ z5 ≤ 1000000000000000 by simp only [List.mem_cons, List.not_mem_nil, or_false] at hz5; omega)
  have hgA5 := hide (hgA4.out.trans ((Gr.of_nx ((Nx.refl _).alloc _)).trans hg5))
  have hgB5 := hide ((hgB4.out.trans ((Gr.of_nx ((Nx.refl w4).alloc _)).trans hg5)))
  have HS5 := hide hS5
  clear hz5 hg5 hS5
  go_wp2_with fail
  refine (w_PickI _ [16, 19, 24] _ s _ _ (HS5.out.nx ((Nx.refl _).alloc _)) (by omega) (hnew rfl) (by have := HS5.out.lt; omega) rfl (by simp) (by simp)).mono ?_
  rintro e w6 ⟨z6, hz6, rfl, hg6, hS6⟩
  have hb6 := hide (show -1000000000000000 ≤ z6 ∧ z6 ≤ 1000000000000000 by simp only [List.mem_cons, List.not_mem_nil, or_false] at hz6; omega)
  have hgA6 := hide (hgA5.out.trans ((Gr.of_nx ((Nx.refl _).alloc _)).trans hg6))
  have hgB6 := hide ((hgB5.out.trans ((Gr.of_nx ((Nx.refl w5).alloc _)).trans hg6)))
  have HS6 := hide hS6
  clear hz6 hg6 hS6
  go_wp2_with fail
  refine (w_PickI _ [100, 150, 133, 0] _ s _ _ (HS6.out.nx ((Nx.refl _).alloc _)) (by omega) (hnew rfl) (by have := HS6.out.lt; omega) rfl (by simp) (by simp)).mono ?_
  rintro e w7 ⟨z7, hz7, rfl, hg7, hS7⟩
  have hb7 := hide (show -1000000000000000 ≤ z7 ∧ z7 ≤ 1000000000000000 by simp only [List.mem_cons, List.not_mem_nil, or_false] at hz7; omega)
  have hgA7 := hide (hgA6.out.trans ((Gr.of_nx ((Nx.refl _).alloc _)).trans hg7))
  have hgB7 := hide ((hgB6.out.trans ((Gr.of_nx ((Nx.refl w6).alloc _)).trans hg7)))
  have HS7 := hide hS7
  clear hz7 hg7 hS7
  go_wp2_with fail
  refine (w_PickI _ [0, 0, 300] _ s _ _ (HS7.out.nx ((Nx.refl _).alloc _)) (by omega) (hnew rfl) (by have := HS7.out.lt; omega) rfl (by simp) (by simp)).mono ?_
  rintro e w8 ⟨z8, hz8, rfl, hg8, hS8⟩
  have hb8 := hide (show -1000000000000000 ≤ z8 ∧ z8 ≤ 1000000000000000 by simp only [List.mem_cons, List.not_mem_nil, or_false] at hz8; omega)
  have hgA8 := hide (hgA7.out.trans ((Gr.of_nx ((Nx.refl _).alloc _)).trans hg8))
  have hgB8 := hide ((hgB7.out.trans ((Gr.of_nx ((Nx.refl w7).alloc _)).trans hg8)))
  have HS8 := hide hS8
  clear hz8 hg8 hS8
  go_wp2_with fail
  refine (w_PickI _ [500, 5000, 1000000] _ s _ _ (HS8.out.nx ((Nx.refl _).alloc _)) (by omega) (hnew rfl) (by have := HS8.out.lt; omega) rfl (by simp) (by simp)).mono ?_
  rintro e w9 ⟨z9, hz9, rfl, hg9, hS9⟩
  have hb9 := hide (show -1000000000000000 ≤ z9 ∧ z9 ≤ 1000000000000000 by simp only [List.mem_cons, List.not_mem_nil, or_false] at hz9; omega)
  have hgA9 := hide (hgA8.out.trans ((Gr.of_nx ((Nx.refl _).alloc _)).trans hg9))
  have hgB9 := hide ((hgB8.out.trans ((Gr.of_nx ((Nx.refl w8).alloc _)).trans hg9)))
  have HS9 := hide hS9
  clear hz9 hg9 hS9
  obtain ⟨b, hb⟩ : ∃ b, b = w9.heap.size := ⟨_, rfl⟩
  obtain ⟨wa, hwa⟩ : ∃ wa, wa = w9.alloc (.cells #[.string key, .int .i64 z1, .int .i64 z2, .int .i64 z3, .int .i64 z4, .int .i64 z5, .int .i64 z6, .int .i64 z7, .int .i64 z8, .int .i64 z9] 29 (0, 0)) := ⟨_, rfl⟩
  have hba : wa.heap[b]? = some (.cells #[.string key, .int .i64 z1, .int .i64 z2, .int .i64 z3, .int .i64 z4, .int .i64 z5, .int .i64 z6, .int .i64 z7, .int .i64 z8, .int .i64 z9] 29 (0, 0)) := by rw [hwa, hb]; exact heap_alloc_new w9 _
  have hwb : w.heap.size ≤ b := by have := hgA9.out.sz; omega
  have hsb : s < b := by omega
  have hgsg : g4 ≠ s := by have := HG4.out; omega
  have hsz0 := (Array.getElem?_eq_some_iff.1 HB0.out).1
  have hgb4 : g4 < b := by have := hgB9.out.sz; omega
  have EB := boxP_pr b
  have HT := hide (show TyW s b (k + 9) (BoxP b) wa 0 wa from ⟨Two.refl _ _ _, (hwa ▸ HS9.out.nx ((Nx.refl w9).alloc _) : Str wa s (k + 9)), ⟨⟨key, z1, z2, z3, z4, z5, z6, z7, z8, z9⟩, ⟨hks, by
    simp only [List.forall_mem_cons]
    exact ⟨hb1.out, hb2.out, hb3.out, hb4.out, hb5.out, hb6.out, hb7.out, hb8.out, hb9.out, fun _ h => nomatch h⟩⟩, hba⟩⟩)
  have HG9 := hide ((hgB9.out.block g4 hsz0 (by intro e; injection e with e; exact hgsg e)).trans HB0.out)
  have HGA := hide ((((Nx.refl w9).alloc (.cells #[.string key, .int .i64 z1, .int .i64 z2, .int .i64 z3, .int .i64 z4, .int .i64 z5, .int .i64 z6, .int .i64 z7, .int .i64 z8, .int .i64 z9] 29 (0, 0))).block g4 (Array.getElem?_eq_some_iff.1 HG9.out).1).trans HG9.out)
  rw [← hwa] at HGA
  have HGW := hide (show Gr s w wa from hwa ▸ hgA9.out.alloc _)
  clear hba HG9 hgB9 hb1 hb2 hb3 hb4 hb5 hb6 hb7 hb8 hb9
  go_upto_region 2 with fail
  rw [← hwa, ← hb]
  clear hwa hb
  go_cut [36] (fun v wx => ∃ bo : Bool, v = .bool bo ∧ TyW s b (k + 10) (BoxP b) wa 0 wx)
  case first =>
    go_wp2_with fail
    refine (w_Flip 20 s _ _ HT.out.str (by omega) (by omega)).mono ?_
    rintro e wf ⟨bo, rfl, hgf, hSf⟩
    have HT2 := hide (show TyW s b (k + 10) (BoxP b) wa 0 wf from ⟨HT.out.two.trans (Two.of_gr hgf), hSf, EB.same _ _ HT.out.box (hgf.block b (EB.lt _ HT.out.box) (by intro e; injection e with e; omega)) hgf.sz⟩)
    clear hgf hSf
    go_wp2_with fail
    go_meet
    exact ⟨bo, rfl, HT2.out⟩
  case rest =>
  obtain ⟨bo, rfl, hcut⟩ := hcut
  have HT2 := hide hcut
  clear hcut
  refine ‹∀ (a : Act) (w_1 : World), Code.wp _ _ _ a w_1 → _› _ _ ?_
  go_cut [] (fun wx => TyW s b (k + 10) (BoxP b) wa 30 wx)
  case first =>
    cases bo with
    | false =>
      go_wp2_with fail
      go_meet
      exact ⟨HT2.out.two, HT2.out.str.more (by omega), HT2.out.box⟩
    | true =>
      go_upto_region 3 with fail
      refine ty_p3 (w0 := wa) (k := k + 10) EB hsb (by omega) rfl rfl rfl ?_ HT2.out ?_
      · exact fun w => ⟨key, rfl, hks⟩
      intro f wg hWg
      simp only [ty_p3D, List.foldl, List.setIfInBounds_toArray, List.set_cons_zero, List.set_cons_succ]
      go_wp2
      go_meet
      exact ⟨hWg.two, hWg.str.more (by omega), hWg.box⟩
  case rest =>
    obtain ⟨wq, hwq⟩ : ∃ wq, wq = wc := ⟨_, rfl⟩
    rw [← hwq] at hcut ⊢
    have HTQ := hide hcut
    obtain ⟨x, hxo, hBq⟩ := HTQ.out.box
    have HXO := hide hxo
    have hG4 : wq.heap[g4]? = some (.cells #[.string ⟨#[]⟩, .int .i64 0, .int .i64 0, .int .i64 0, .int .i64 0, .int .i64 0, .int .i64 0, .int .i64 0, .int .i64 0, .int .i64 0] 29 (0, 0)) := (HTQ.out.two.2.2.2.2 g4 (Array.getElem?_eq_some_iff.1 HGA.out).1 hgsg (by omega)).trans HGA.out
    have HGF := hide (((Two.of_gr HGW.out).trans HTQ.out.two).toGrP hwb)
    have HSF := hide HTQ.out.str
    have hwg : w.heap.size ≤ g4 := by have := HG4.out; omega
    have hsg : s < g4 := by omega
    clear hwq hcut hxo
    obtain ⟨x0, x1, x2, x3, x4, x5, x6, x7, x8, x9⟩ := x
    have hBq' : wq.heap[b]? = some (.cells #[.string x0, .int .i64 x1, .int .i64 x2, .int .i64 x3, .int .i64 x4, .int .i64 x5, .int .i64 x6, .int .i64 x7, .int .i64 x8, .int .i64 x9] 29 (0, 0)) := hBq

    have d0 : wq.cell? ⟨b, 0, none⟩ = some (.string x0) := cell_of_row wq b 0 _ _ _ hBq'
    have d1 : wq.cell? ⟨b, 1, none⟩ = some (.int .i64 x1) := cell_of_row wq b 1 _ _ _ hBq'
    have d2 : wq.cell? ⟨b, 2, none⟩ = some (.int .i64 x2) := cell_of_row wq b 2 _ _ _ hBq'
    have d3 : wq.cell? ⟨b, 3, none⟩ = some (.int .i64 x3) := cell_of_row wq b 3 _ _ _ hBq'
    have d4 : wq.cell? ⟨b, 4, none⟩ = some (.int .i64 x4) := cell_of_row wq b 4 _ _ _ hBq'
    have d5 : wq.cell? ⟨b, 5, none⟩ = some (.int .i64 x5) := cell_of_row wq b 5 _ _ _ hBq'
    have d6 : wq.cell? ⟨b, 6, none⟩ = some (.int .i64 x6) := cell_of_row wq b 6 _ _ _ hBq'
    have d7 : wq.cell? ⟨b, 7, none⟩ = some (.int .i64 x7) := cell_of_row wq b 7 _ _ _ hBq'
    have d8 : wq.cell? ⟨b, 8, none⟩ = some (.int .i64 x8) := cell_of_row wq b 8 _ _ _ hBq'
    have d9 : wq.cell? ⟨b, 9, none⟩ = some (.int .i64 x9) := cell_of_row wq b 9 _ _ _ hBq'
    have hblq := (Array.getElem?_eq_some_iff.1 hBq').1
    have hg4q := (Array.getElem?_eq_some_iff.1 hG4).1
    have hfq : ∀ i, wq.frozen? ⟨g4, i, none⟩ = false := fun i => by simp [World.frozen?, hG4]
    have y0 : wq.cell? ⟨g4, 0, none⟩ = some (.string ⟨#[]⟩) := cell_of_row wq g4 0 _ _ _ hG4
    have y1 : wq.cell? ⟨g4, 1, none⟩ = some (.int .i64 0) := cell_of_row wq g4 1 _ _ _ hG4
    have y2 : wq.cell? ⟨g4, 2, none⟩ = some (.int .i64 0) := cell_of_row wq g4 2 _ _ _ hG4
    have y3 : wq.cell? ⟨g4, 3, none⟩ = some (.int .i64 0) := cell_of_row wq g4 3 _ _ _ hG4
    have y4 : wq.cell? ⟨g4, 4, none⟩ = some (.int .i64 0) := cell_of_row wq g4 4 _ _ _ hG4
    have y5 : wq.cell? ⟨g4, 5, none⟩ = some (.int .i64 0) := cell_of_row wq g4 5 _ _ _ hG4
    have y6 : wq.cell? ⟨g4, 6, none⟩ = some (.int .i64 0) := cell_of_row wq g4 6 _ _ _ hG4
    have y7 : wq.cell? ⟨g4, 7, none⟩ = some (.int .i64 0) := cell_of_row wq g4 7 _ _ _ hG4
    have y8 : wq.cell? ⟨g4, 8, none⟩ = some (.int .i64 0) := cell_of_row wq g4 8 _ _ _ hG4
    have y9 : wq.cell? ⟨g4, 9, none⟩ = some (.int .i64 0) := cell_of_row wq g4 9 _ _ _ hG4
    clear hBq hBq' hG4
    go_wp2_with fail
    exact bodyPost_ret (v := aggP ⟨x0, x1, x2, x3, x4, x5, x6, x7, x8, x9⟩) (by simp [results, Tryz.results5, go_sem, aggP, y0, y1, y2, y3, y4, y5, y6, y7, y8, y9]) rfl ⟨⟨x0, x1, x2, x3, x4, x5, x6, x7, x8, x9⟩, rfl, HXO.out, by repeat (first | with_reducible exact HGF.out | with_reducible refine Gr.setgP ?_ hwg), by refine Str.more (k := k + 10 + 2 * 30) ?_ (by omega); repeat (first | with_reducible exact HSF.out | with_reducible refine Str.setgP ?_ hsg)⟩
end Go.Proofs.YtncnmadiiaidfaaGreatDoor
