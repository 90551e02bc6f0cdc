/- The stream's event, walked whole. -/
import Derived.Test.YtfkmbeppckelfaaGreatDoorQStX1
namespace Go.Proofs.YtfkmbeppckelfaaGreatDoor
open Go.RowKit Go.Maps

set_option maxRecDepth 100000 in
set_option maxHeartbeats 1000000 in
theorem w_event (lo : Nat) (A : Option Addr) (c : Nat) (l : List Ev) (at_ : Int) (s k : Nat) (w : World) (hR : Rd w lo A 11 encEvt l) (hsl : s < lo) (hl : l.length ≤ 40) (hc : l.length ≤ c) (hok : ∀ x ∈ l, okEv x) (hat : -1000000000000 ≤ at_ ∧ at_ ≤ 1000000000000) (hS : Str w s k) (hk : k < 700000) :
    Calls Tryz.prog 39 #[.pointer (some ⟨s, 0, none⟩), .slice A l.length c, .int .i64 at_] w (EvtOut s k w) := by
  obtain ⟨w1, hw1⟩ : ∃ w1, w1 = w.alloc (.cells #[.string ⟨#[]⟩, .int .i64 0, .int .i64 0, .int .i64 0, .string ⟨#[]⟩, .string ⟨#[]⟩, .string ⟨#[]⟩, .int .i64 0, .int .i64 0, .string ⟨#[]⟩, .int .i64 0] 31 (0, 0)) := ⟨_, rfl⟩
  obtain ⟨g6, hg6⟩ : ∃ g6, g6 = w.heap.size := ⟨_, rfl⟩
  have hn1 : Nx w w1 := hw1 ▸ (Nx.refl w).alloc _
  have hb1 : w1.heap[g6]? = some (.cells #[.string ⟨#[]⟩, .int .i64 0, .int .i64 0, .int .i64 0, .string ⟨#[]⟩, .string ⟨#[]⟩, .string ⟨#[]⟩, .int .i64 0, .int .i64 0, .string ⟨#[]⟩, .int .i64 0] 31 (0, 0)) := by rw [hw1, hg6]; exact heap_alloc_new w _
  have hS1 := hS.nx hn1
  have hsw := hS.lt
  have HR := hide hR
  have HOK := hide hok
  have HN1 := hide hn1
  have HB1 := hide hb1
  have HG6 := hide hg6
  have HCC := hide hc
  obtain ⟨n, hn⟩ : ∃ n, n = l.length := ⟨_, rfl⟩
  rw [← hn] at hl ⊢
  have HN := hide hn
  clear hR hok hn1 hb1 hc hn
  go_enter Tryz.func39, Tryz.ntmps39
  go_upto_region 1 with fail
  rw [← hw1, ← hg6]
  clear hw1 hg6
  go_wp2_with fail
  refine (w_PickI _ [1, 1, 1, 2, 2, 2, 3, 3, 3, 4, 4, 5, 6, 7, 7, 8, 9] _ s _ _ (hS1.nx ((Nx.refl _).alloc _)) (by omega) (hnew rfl) (by have := hS1.lt; omega) rfl (by simp) (by simp)).mono ?_
  rintro e w2 ⟨ki, hki, rfl, hg2, hS2⟩
  have hki2 : 1 ≤ ki ∧ ki ≤ 9 := by simp only [List.mem_cons, List.not_mem_nil, or_false] at hki; omega
  obtain ⟨b, hb⟩ : ∃ b, b = w2.heap.size := ⟨_, rfl⟩
  obtain ⟨w3, hw3⟩ : ∃ w3, w3 = w2.alloc (.cells #[.string ⟨#[]⟩, .int .i64 0, .int .i64 0, .int .i64 ki, .string ⟨#[]⟩, .string ⟨#[]⟩, .string ⟨#[]⟩, .int .i64 0, .int .i64 0, .string ⟨#[]⟩, .int .i64 0] 31 (0, 0)) := ⟨_, rfl⟩
  have hb3 : w3.heap[b]? = some (.cells #[.string ⟨#[]⟩, .int .i64 0, .int .i64 0, .int .i64 ki, .string ⟨#[]⟩, .string ⟨#[]⟩, .string ⟨#[]⟩, .int .i64 0, .int .i64 0, .string ⟨#[]⟩, .int .i64 0] 31 (0, 0)) := by rw [hw3, hb]; exact heap_alloc_new w2 _
  have hg12 : Gr s w w2 := ((Gr.of_nx HN1.out).alloc _).trans hg2
  have hwb : w.heap.size ≤ b := by have := hg12.sz; omega
  have hsb : s < b := by omega
  have hbs : b ≠ s := by omega
  have EB := boxE_ev b
  have hT3 : TyW s b k (BoxE b) w 1 w3 := ⟨Two.of_gr (hw3 ▸ hg12.alloc _), (hw3 ▸ hS2.nx ((Nx.refl w2).alloc _) : Str w3 s (k + 1)).more (by omega), ⟨⟨eB, 0, 0, ki, eB, eB, eB, 0, 0, eB, 0⟩, ok_kind hki2, hb3⟩⟩
  have HT3 := hide hT3
  have HB3 := hide hb3
  have hg6b : g6 < w2.heap.size := by have := hg2.sz; have h9 := (Array.getElem?_eq_some_iff.1 HB1.out).1; have h8 := hg2.sz; simp at h8; omega
  have hgs6 : g6 ≠ s := by have := HG6.out; omega
  have HGB := hide (show g6 < b by omega)
  have HB26 := hide ((hg2.block g6 (by have := (Array.getElem?_eq_some_iff.1 HB1.out).1; simp; omega) (by intro e; injection e with e; exact hgs6 e)).trans ((((Nx.refl w1).alloc _).block g6 (Array.getElem?_eq_some_iff.1 HB1.out).1).trans HB1.out))
  have HBBB := hide (show w3.heap.size = b + 1 by rw [hw3, hb]; simp)
  have hn23 : Nx w2 w3 := hw3 ▸ (Nx.refl w2).alloc _
  have HB36 := hide ((hn23.block g6 hg6b).trans HB26.out)
  clear hb3 hT3 hki hg2 hS2 hg12 hS1 hn23
  go_upto_region 2 with fail
  rw [← hw3, ← hb]
  clear hw3 hb
  go_upto_region 3 with (go_at_call 40; refine (w_Some _ [⟨#[114, 97]⟩, ⟨#[114, 98]⟩, ⟨#[114, 99]⟩, ⟨#[114, 100]⟩] _ s _ _ (HT3.out.str.nx ((Nx.refl _).alloc _)) (by omega) (hnew rfl) (by have := HT3.out.str.lt; omega) rfl (by simp) (by simp)).mono ?_; rintro e w4 ⟨ride, hm4, rfl, hg4, hs4⟩; (have hz4 : ride.size ≤ 1000 := by { simp only [List.mem_cons, List.not_mem_nil, or_false] at hm4; rcases hm4 with rfl | rfl | rfl | rfl <;> decide }); (have hT4 := hide ((TyW.alloc HT3.out EB _).gr EB hbs hg4 (hs4.more (by omega)))); (have hgA4 := hide ((Gr.refl s w3).trans ((Gr.of_nx ((Nx.refl _).alloc _)).trans hg4))); clear hm4 hg4 hs4)
  go_upto_region 4 with (go_at_call 40; refine (w_Some _ [⟨#[99, 97]⟩, ⟨#[99, 97]⟩, ⟨#[99, 98]⟩] _ s _ _ (hT4.out.str.nx ((Nx.refl _).alloc _)) (by omega) (hnew rfl) (by have := hT4.out.str.lt; omega) rfl (by simp) (by simp)).mono ?_; rintro e w5 ⟨car, hm5, rfl, hg5, hs5⟩; (have hz5 : car.size ≤ 1000 := by { simp only [List.mem_cons, List.not_mem_nil, or_false] at hm5; rcases hm5 with rfl | rfl | rfl <;> decide }); (have hT5 := hide ((TyW.alloc hT4.out EB _).gr EB hbs hg5 (hs5.more (by omega)))); (have hgA5 := hide (hgA4.out.trans ((Gr.of_nx ((Nx.refl _).alloc _)).trans hg5))); clear hm5 hg5 hs5)
  have hT5' := hT5.out
  have hmm := @run_makeMap Tryz.prog
  have kd2 : domI 2 := by unfold domI; decide
  have kd3 : domI 3 := by unfold domI; decide
  have kd4 : domI 4 := by unfold domI; decide
  have kd6 : domI 6 := by unfold domI; decide
  have hkd : domI ki := wf_15 (by omega)
  obtain ⟨v1, r1, M1, g1⟩ := (MgI.made (P := Tryz.prog) (K := 3) (ek := Value.int .i64) (dom := domI) (R := plainElem Tryz.prog 3) (dv := fun z : Int => (.lit (.int .i64 z) : DataW Unit)) w5).upd intE law_intE intW_inj Tryz.underlying88 (by decide) kd2 (key_int kd2) (1 : Int) (by decide)
  obtain ⟨v2, r2, M2, g2⟩ := M1.upd intE law_intE intW_inj Tryz.underlying88 (by decide) kd3 (key_int kd3) (2 : Int) (by decide)
  obtain ⟨v3, r3, M3, g3⟩ := M2.upd intE law_intE intW_inj Tryz.underlying88 (by decide) kd4 (key_int kd4) (3 : Int) (by decide)
  obtain ⟨v4, r4, M4, g4⟩ := M3.upd intE law_intE intW_inj Tryz.underlying88 (by decide) kd6 (key_int kd6) (2 : Int) (by decide)
  have hlm := (M4.look intE law_intE Tryz.underlying88 (z := (0 : Int)) (by decide) (zeroIntE v4) hkd (key_int hkd)).1
  obtain ⟨want, hwant⟩ : ∃ want : Int, want = ((fun k' : Int => if k' = 6 then some (2 : Int) else (fun k' : Int => if k' = 4 then some (3 : Int) else (fun k' : Int => if k' = 3 then some (2 : Int) else (fun k' : Int => if k' = 2 then some (1 : Int) else none) k') k') k') ki).getD 0 := ⟨_, rfl⟩
  rw [← hwant] at hlm
  clear hwant
  have hnv : Nx w5 v4 := ((((((Nx.refl w5).alloc (.map #[] 0)).grown g1 (fun j hj => by injection hj with hj; omega)).grown g2 (fun j hj => by injection hj with hj; omega)).grown g3 (fun j hj => by injection hj with hj; omega)).grown g4 (fun j hj => by injection hj with hj; omega))
  have hTv := hT5'.nx EB hnv
  have HXB := hide (show ∀ W, Gr s w3 W → W.heap[b]? = some (.cells #[.string ⟨#[]⟩, .int .i64 0, .int .i64 0, .int .i64 ki, .string ⟨#[]⟩, .string ⟨#[]⟩, .string ⟨#[]⟩, .int .i64 0, .int .i64 0, .string ⟨#[]⟩, .int .i64 0] 31 (0, 0)) from fun W hg => (hg.block b (Array.getElem?_eq_some_iff.1 HB3.out).1 (by intro e; injection e with e; exact hbs e)).trans HB3.out)
  have HX6 := hide (show ∀ W, Gr s w3 W → W.heap[g6]? = some (.cells #[.string ⟨#[]⟩, .int .i64 0, .int .i64 0, .int .i64 0, .string ⟨#[]⟩, .string ⟨#[]⟩, .string ⟨#[]⟩, .int .i64 0, .int .i64 0, .string ⟨#[]⟩, .int .i64 0] 31 (0, 0)) from fun W hg => (hg.block g6 (Array.getElem?_eq_some_iff.1 HB36.out).1 (by intro e; injection e with e; exact hgs6 e)).trans HB36.out)
  have HG35 := hide (hgA5.out.trans (Gr.of_nx hnv))
  have hbv := HXB.out v4 HG35.out
  have x3 : v4.cell? ⟨b, 3, none⟩ = some (.int .i64 ki) := cell_of_row v4 _ 3 _ _ _ hbv
  have hblv := (Array.getElem?_eq_some_iff.1 hbv).1
  have HTV := hide hTv
  clear M1 M2 M3 M4 g1 g2 g3 g4 hnv hbv hT5' hTv
  go_upto_region 5 with fail
  have HSA := hide (w_StatesAt lo A c l at_ v4 (HR.out.gr (HTV.out.two.toGr hwb) hsl) (by have := HN.out; omega) HCC.out HOK.out)
  have HSM := hide (fun ks => stsR_small HOK.out at_ ks)
  rw [← HN.out] at HSA
  clear r1 r2 r3 r4 hlm hmm x3
  go_cut [31, 32, 33] (fun v31 v32 v33 wx => ∃ (A6 : Option Addr) (c6 m : Nat) (L : List St), v31 = .slice A6 m c6 ∧ v32 = .int .i64 (m : Int) ∧ v33 = .int .i64 0 ∧ m = L.length ∧ Rd wx v4.heap.size A6 7 encSta L ∧ (∀ s ∈ L, s.ride.size ≤ 1000 ∧ s.car.size ≤ 1000) ∧ m ≤ 3 * n ∧ Nx v4 wx)
  case first =>
    go_wp2_with fail
    refine HSA.out.mono ?_
    rintro e w6 ⟨A6, c6, ks, rfl, hR6, _, hkl, hn6⟩
    rw [← HN.out] at hkl
    have hsm := HSM.out ks
    obtain ⟨L, hL⟩ : ∃ L, L = stsR (runR l at_ l.length).rides ks := ⟨_, rfl⟩
    have hLl : ks.length = L.length := by rw [hL, stsR_len]
    rw [← hL] at hR6 hsm
    obtain ⟨m, hm⟩ : ∃ m, m = ks.length := ⟨_, rfl⟩
    rw [← hm] at hkl hLl ⊢
    have HOUT := hide (And.intro hLl (And.intro hR6 (And.intro hsm (And.intro hkl hn6))))
    clear hn6 hR6 hsm hm hL hLl HSM hkl
    go_wp2_with fail
    go_meet
    exact ⟨A6, c6, m, L, rfl, rfl, rfl, HOUT.out.1, HOUT.out.2.1, HOUT.out.2.2.1, HOUT.out.2.2.2.1, HOUT.out.2.2.2.2⟩
  case rest =>
  obtain ⟨A6, c6, m, L, rfl, rfl, rfl, hm, hR6, hsm, hkl, hn6⟩ := hcut
  obtain ⟨w6, hw6⟩ : ∃ w6, w6 = wc := ⟨_, rfl⟩
  rw [← hw6] at hR6 hn6 ⊢
  have HM := hide hm
  have HR6 := hide hR6
  have HSMM := hide hsm
  have HT6 := hide (HTV.out.nx EB hn6)
  have HG36 := hide (HG35.out.trans (Gr.of_nx hn6))
  have hsv : s < v4.heap.size := by have := HTV.out.str.lt; omega
  clear hn6 hR6 hsm hm hw6 HSM HSA
  refine ‹∀ (a : Act) (w_1 : World), Code.wp _ _ _ a w_1 → _› _ _ ?_
  go_cut [8, 9] (fun r cc wx => ∃ (ride car : ByteArray), r = .string ride ∧ cc = .string car ∧ ride.size ≤ 1000 ∧ car.size ≤ 1000 ∧ Gr s w3 wx ∧ Two s b w wx ∧ Str wx s (k + 150))
  case first =>
    go_wp2_with fail
    go_loopw [8, 9, 12, 33] (fun r cc _ i wr => ∃ (j : Nat) (ride car : ByteArray), j ≤ m ∧ i = .int .i64 j ∧ r = .string ride ∧ cc = .string car ∧ ride.size ≤ 1000 ∧ car.size ≤ 1000 ∧ Gr s w6 wr ∧ Str wr s (k + 10 + j)) (fun _ _ _ i _ => m - (intOf i).toNat)
    case atStart => exact ⟨0, ride, car, Nat.zero_le _, rfl, rfl, rfl, hz4, hz5, Gr.refl _ _, HT6.out.str.more (by omega)⟩
    case round =>
      obtain ⟨j, ride2, car2, hj, rfl, rfl, rfl, hr2, hc2, hgr, hSr⟩ := hrel
      have HGR := hide hgr
      by_cases hlt : j < m
      · have hlt' : j < L.length := by have := HM.out; omega
        obtain ⟨bk, off, eb, _, hbk, hbr, hcs⟩ := (HR6.out.gr hgr hsv).open_ (Nx.refl wr) (by have := HM.out; omega)
        have c0 := hcs j hlt' 0 _ rfl
        have c1 := hcs j hlt' 1 _ rfl
        have c2 := hcs j hlt' 2 _ rfl
        have c3 := hcs j hlt' 3 _ rfl
        have c4 := hcs j hlt' 4 _ rfl
        have c5 := hcs j hlt' 5 _ rfl
        have c6 := hcs j hlt' 6 _ rfl
        have hss := HSMM.out L[j] (List.getElem_mem hlt')
        generalize L[j] = st at *
        obtain ⟨rid, car3, how, up, dn, on, off_⟩ := st
        simp only [Nat.add_zero] at c0 c1 c2 c3 c4 c5 c6 hss
        have q1 : (0 : Int) ≤ (j : Int) := by omega
        have q2 : (j : Int) < (m : Int) := by omega
        subst eb
        clear hcs hgr
        have qh : (how == want) = true ∨ (how == want) = false := by cases (how == want) <;> simp
        rcases qh with qh | qh
        · go_wp2_with fail
          refine (w_Flip _ _ _ _ (hSr.nx ((Nx.refl _).alloc _)) (by omega) (by omega)).mono ?_
          rintro e w8 ⟨bo, rfl, hg8, hS8⟩
          have hsr := hSr.lt
          have hq8 := (hg8.block wr.heap.size (by simp) (by intro e; injection e with e; omega)).trans (heap_alloc_new wr _)
          have y0 : w8.cell? ⟨wr.heap.size, 0, none⟩ = some (.string rid) := cell_of_row w8 _ 0 _ _ _ hq8
          have y1 : w8.cell? ⟨wr.heap.size, 1, none⟩ = some (.string car3) := cell_of_row w8 _ 1 _ _ _ hq8
          have hql8 := (Array.getElem?_eq_some_iff.1 hq8).1
          have HG8 := hide ((HGR.out.alloc _).trans hg8)
          clear hq8 hg8
          cases bo with
          | true =>
            go_wp2_with fail
            go_roundw
            case rel => exact ⟨j + 1, ride2, car2, by omega, by go_num, rfl, rfl, hr2, hc2, HG8.out, hS8.more (by omega)⟩
            case measure => simp [intOf]; omega
          | false =>
            obtain ⟨nb, hnb⟩ : ∃ nb, car3.toList.isEmpty = nb := ⟨_, rfl⟩
            cases nb with
            | true =>
              go_wp2_with fail
              go_roundw
              case rel => exact ⟨j + 1, rid, car2, by omega, by go_num, rfl, rfl, hss.1, hc2, HG8.out, hS8.more (by omega)⟩
              case measure => simp [intOf]; omega
            | false =>
              go_wp2_with fail
              go_roundw
              case rel => exact ⟨j + 1, rid, car3, by omega, by go_num, rfl, rfl, hss.1, hss.2, HG8.out, hS8.more (by omega)⟩
              case measure => simp [intOf]; omega
        · go_wp2_with fail
          go_roundw
          case rel => exact ⟨j + 1, ride2, car2, by omega, by go_num, rfl, rfl, hr2, hc2, HGR.out.alloc _, (hSr.nx ((Nx.refl _).alloc _)).more (by omega)⟩
          case measure => simp [intOf]; omega
      · obtain rfl : j = m := by omega
        have HTX := hide (HT6.out.two.trans (Two.of_gr hgr))
        have HGX := hide (HG36.out.trans hgr)
        have HSX := hide hSr
        clear hgr hSr
        go_wp2_with fail
        go_meet
        exact ⟨_, _, rfl, rfl, hr2, hc2, HGX.out, HTX.out, HSX.out.more (by omega)⟩
  case rest =>
    obtain ⟨ride2, car2, rfl, rfl, hr2, hc2, hg39, htw, hS9⟩ := hcut
    refine ‹∀ (a : Act) (w_1 : World), Code.wp _ _ _ a w_1 → _› _ _ ?_
    exact st_e13 ⟨HR.out, hsl, HN.out, hl, HOK.out, hat, hk, hwb, hsb, by have := HG6.out; omega, by have := HG6.out; omega, HGB.out, htw, HX6.out _ hg39⟩ hki2 (HXB.out _ hg39) hS9 hr2 hc2
end Go.Proofs.YtfkmbeppckelfaaGreatDoor
