/- An event written behind others, by the program. -/
import Derived.Test.YtfkmbeppckelfaaGreatDoorQG41
import Derived.Test.YtfkmbeppckelfaaGreatDoorQG45
import Derived.Test.YtfkmbeppckelfaaGreatDoorQG22
import Derived.Deep.AppendLies
import Derived.Deep.RegionHeld
import Derived.StillTailTactics
namespace Go.Proofs.YtfkmbeppckelfaaGreatDoor
open Go.RowKit Go.Maps

theorem last_num (l : List Ev) : ∀ k s, (lastM l k s).getD 0 = num0 (l.take k) s
  | 0, s => rfl
  | k + 1, s => by
    have ih := last_num l k
    cases hx : l[k]? with
    | none =>
      have hle : l.length ≤ k := List.getElem?_eq_none_iff.1 hx
      rw [List.take_of_length_le (by omega)]
      rw [show lastM l (k + 1) = lastM l k by simp [lastM, hx], ih, List.take_of_length_le hle]
    | some x =>
      rw [lastM_succ hx, List.take_add_one, hx, Option.toList_some, num0_snoc]
      show (if s = x.source then some x.no else lastM l k s).getD 0 = if s = x.source then x.no else num0 (l.take k) s
      by_cases e : s = x.source
      · rw [if_pos e, if_pos e]; rfl
      · rw [if_neg e, if_neg e]; exact ih s
theorem last_prev (l : List Ev) : lastO none l = prevE l l.length := by
  rw [lastO_get]
  rcases snocE l with rfl | ⟨m, x, rfl⟩
  · rfl
  · simp [prevE]
def WriteEnd (l : List Ev) (x : Ev) (w : World) (e : Ending) (w' : World) : Prop :=
  (∃ (B : Option Addr) (m cb : Nat), e = .returned (.tuple #[.slice B m cb, .int .i64 (writeF l x)]) ∧ (writeF l x ≠ 0 → m = 0) ∧ (writeF l x = 0 → m = l.length + 1 ∧ m ≤ cb ∧ Rd w' w.heap.size B 11 encEvt (l ++ [newE l x]))) ∧ Nx w w'
set_option maxRecDepth 100000 in
set_option maxHeartbeats 8000000 in
theorem w_Write (lo : Nat) (A : Option Addr) (c : Nat) (l : List Ev) (x : Ev) (w : World) (hR : Rd w lo A 11 encEvt l) (hl : l.length ≤ 45) (hok : ∀ x ∈ l, okEv x) (hx : okEv x) :
    Calls Tryz.prog 21 #[.slice A l.length c, .agg (evA x)] w (WriteEnd l x w) := by
  have hmm := @run_makeMap Tryz.prog
  have HNUM := hide (fun s => (show (lastM l l.length s).getD 0 = num0 l s by have := last_num l l.length s; rwa [List.take_length] at this))
  have HPV := hide (last_prev l)
  have HBD := hide (fun h : evsF l = 0 => num0_bd l h x.source)
  have HNR := hide (fun (h : evsF l = 0) (h1 : evF (newE l x) = 0) (h2 : lateB (lastO none l) (newE l x) = false) => newE_right h h1 h2)
  have HLR := hide (fun (h : evsF (l ++ [newE l x]) = 0) => refP_last h)
  have hwf : writeF l x = if evsF l = 0 then wrF l x else evsF l := rfl
  have hwr : wrF l x = if x.no ≠ 0 then 3 else if evF (newE l x) ≠ 0 then evF (newE l x) else if lateB (lastO none l) (newE l x) = true then 7 else lastWhy l (newE l x) := rfl
  have HNE := hide (show newE l x = { x with no := num0 l x.source + 1 } from rfl)
  have HWR := hide hwr
  have HWF := hide hwf
  have HFO := hide (fun (lo2 : Nat) (A2 : Option Addr) (c2 : Nat) (W : World) (hR2 : Rd W lo2 A2 11 encEvt (l ++ [newE l x])) (h : evsF (l ++ [newE l x]) = 0) => w_follow lo2 A2 c2 (l ++ [newE l x]) endMo W hR2 (by simp; omega) h)
  have HCLN := hide (fun W (hn : Nx w W) => w_CloneEv lo A c l W (hR.nx hn) (by omega))
  have HC := hide (w_CheckEvents lo A c l w hR (by omega) hok)
  obtain ⟨F, hF⟩ : ∃ F, F = writeF l x := ⟨_, rfl⟩
  unfold WriteEnd
  rw [← hF]
  rw [← hF] at HWF
  obtain ⟨f, hf⟩ : ∃ f, f = evsF l := ⟨_, rfl⟩
  rw [← hf] at HC HWF
  have HF := hide hf
  obtain ⟨y, hy⟩ : ∃ y, y = newE l x := ⟨_, rfl⟩
  rw [← hy] at HNR HLR HNE HWR HFO
  rw [← hy]
  obtain ⟨v9, hv9⟩ : ∃ v9, v9 = num0 l x.source := ⟨_, rfl⟩
  rw [← hv9] at HBD HNE
  have HV9 := hide hv9
  have HY := hide hy
  have HR := hide hR
  have HOK := hide hok
  have HX := hide hx
  obtain ⟨n, hn⟩ : ∃ n, n = l.length := ⟨_, rfl⟩
  rw [← hn] at HC HNUM HBD HCLN hl ⊢
  have HNN := hide hn
  clear hR hok hF hf hn hwf hwr hy hv9
  obtain ⟨so, no, at_, ki, ri, ca, nd, up, dn, fo, nu⟩ := x
  unfold evA
  simp only at HV9 HNE HWR HX HBD hx ⊢
  obtain ⟨bx, hbx⟩ : ∃ bx, bx = w.heap.size := ⟨_, rfl⟩
  obtain ⟨wa, hwa⟩ : ∃ wa, wa = w.alloc (.cells #[.string so, .int .i64 no, .int .i64 at_, .int .i64 ki, .string ri, .string ca, .string nd, .int .i64 up, .int .i64 dn, .string fo, .int .i64 nu] 31 (0, 0)) := ⟨_, rfl⟩
  have hna : Nx w wa := hwa ▸ (Nx.refl w).alloc _
  have hba : wa.heap[bx]? = some (.cells #[.string so, .int .i64 no, .int .i64 at_, .int .i64 ki, .string ri, .string ca, .string nd, .int .i64 up, .int .i64 dn, .string fo, .int .i64 nu] 31 (0, 0)) := by rw [hwa, hbx]; exact heap_alloc_new w _
  have HNA := hide hna
  have HBA := hide hba
  have HBX := hide hbx
  have HCA := hide (w_CheckEvents lo A c l wa (HR.out.nx hna) (by have := HNN.out; omega) HOK.out)
  rw [← HNN.out, ← HF.out] at HCA
  clear hna hba hx HC
  go_enter Tryz.func21, Tryz.ntmps21
  go_upto_region 1 with fail
  rw [← hwa, ← hbx]
  clear hwa hbx
  go_wp2_with fail
  refine HCA.out.mono ?_
  rintro e w1 ⟨rfl, hn1⟩
  have HN1 := hide (HNA.out.trans hn1)
  have hb1 := (hn1.block bx (Array.getElem?_eq_some_iff.1 HBA.out).1).trans HBA.out
  have HB1 := hide hb1
  clear hn1 HCA
  have hq : f = 0 ∨ (f != 0) = true := by simp; omega
  rcases hq with hq | hq
  · have HE := hide (show evsF l = 0 from HF.out ▸ hq)
    have HW2 := hide (HWF.out.trans (if_pos hq))
    subst hq
    obtain ⟨d0, d1, d2, d3, d4, d5, d6, d7, d8, d9, d10⟩ := evb_cells hb1
    have hl1 := (Array.getElem?_eq_some_iff.1 hb1).1
    clear hb1 HWF
    have hq : no = 0 ∨ (no != 0) = true := by simp; omega
    rcases hq with rfl | hq
    · have HW3 := hide (HW2.out.trans (HWR.out.trans (if_neg (by simp))))
      clear HW2 HWR
      go_upto_region 7 with fail
      clear hmm
      obtain ⟨g, hg⟩ : ∃ g, g = w1.heap.size := ⟨_, rfl⟩
      obtain ⟨w2, hw2⟩ : ∃ w2, w2 = w1.alloc (.map #[] 0) := ⟨_, rfl⟩
      have HM2 : Hid (MpSI w2 g 0 (lastM l 0)) := hide (by rw [hw2, hg]; exact MgI.made w1)
      have hn2 : Nx w1 w2 := hw2 ▸ (Nx.refl w1).alloc _
      have HN2 := hide hn2
      have hgb : g ≠ bx := by omega
      have hwg : w.heap.size ≤ g := by have := HN1.out.sz; omega
      rw [← hg, ← hw2]
      have HB2 := hide ((hn2.block bx hl1).trans HB1.out)
      clear hg hw2 hn2 d0 d1 d2 d3 d4 d5 d6 d7 d8 d9 d10
      go_wp2_with fail
      go_loopw [25] (fun i wr => ∃ k : Nat, k ≤ n ∧ i = .int .i64 k ∧ MpSI wr g k (lastM l k) ∧ wr.heap[bx]? = some (.cells #[.string so, .int .i64 0, .int .i64 at_, .int .i64 ki, .string ri, .string ca, .string nd, .int .i64 up, .int .i64 dn, .string fo, .int .i64 nu] 31 (0, 0)) ∧ Nx w wr) (fun i _ => n - (intOf i).toNat)
      case atStart => exact ⟨0, Nat.zero_le _, rfl, HM2.out, HB2.out, HN1.out.trans HN2.out⟩
      case round =>
        obtain ⟨k, hk, rfl, hM, hbr, hnx⟩ := hrel
        have HM := hide hM
        have HBR := hide hbr
        have HNX := hide hnx
        have hml := hM.lt
        clear hM HM2
        by_cases hlt : k < n
        · have hlt' : k < l.length := by have := HNN.out; omega
          obtain ⟨b1, off, rfl, _, hb, hbw, hc⟩ := HR.out.open_ hnx (by have := HNN.out; omega)
          obtain ⟨c0, c1, c2, c3, c4, c5, c6, c7, c8, c9, c10⟩ := ev_cells (hc k hlt')
          have hxk := HOK.out l[k] (List.getElem_mem hlt')
          have hl2 := hide (lastM_succ (List.getElem?_eq_getElem hlt'))
          have hblr := (Array.getElem?_eq_some_iff.1 hbr).1
          clear hc hbr hnx
          generalize l[k] = q at *
          have hkey := keyS_mk (P := Tryz.prog) Tryz.underlying9 (domS_1000 hxk.source)
          have HXK := hide hxk
          obtain ⟨so2, no2, at2, ki2, ri2, ca2, nd2, up2, dn2, fo2, nu2⟩ := q
          simp only at c0 c1 c2 c3 c4 c5 c6 c7 c8 c9 c10 hkey
          have q1 : (0 : Int) ≤ (k : Int) := by omega
          have q2 : (k : Int) < (n : Int) := by omega
          clear hxk
          go_wp2_with (at_mapUpdate; refine wpMgPut _ rfl _ _ _ _ rfl intE law_strE strV_inj Tryz.underlying62 g k _ rfl (HM.out.nx ((Nx.refl _).alloc _)) (by unfold maxLen; omega) so2 rfl (domS_1000 HXK.out.source) _ hkey no2 rfl (wf_15 HXK.out.no) ?_; intro w8 hM8 hg8; (have HM8 := hide hM8); clear hM8)
          go_roundw
          case rel =>
            refine ⟨k + 1, by omega, by go_num, ?_, ?_, (HNX.out.alloc _).grown hg8 (fun j hj => by injection hj with hj; omega)⟩
            · rw [hl2.out]; exact HM8.out
            · exact (hg8.block bx (by simp; omega) (by intro e; injection e with e; exact hgb e.symm)).trans ((((Nx.refl wr).alloc _).block bx hblr).trans HBR.out)
          case measure => simp [intOf]; omega
        · obtain rfl : k = n := by omega
          obtain ⟨d0, d1, d2, d3, d4, d5, d6, d7, d8, d9, d10⟩ := evb_cells hbr
          have hblr := (Array.getElem?_eq_some_iff.1 hbr).1
          have hfz : ∀ i, wr.frozen? ⟨bx, i, none⟩ = false := fun i => by simp [World.frozen?, HBR.out]
          have hlk := look_last HM.out (domS_1000 HX.out.source)
          simp only at hlk
          rw [HNUM.out so, ← HV9.out] at hlk
          have hbd := HBD.out HE.out
          have ww : IntKind.i64.wrap (v9 + 1) = v9 + 1 := IntWalk.i64_in _ (by omega)
          obtain ⟨w9, hw9⟩ : ∃ w9, w9 = wr.setCell ⟨bx, 1, none⟩ (.int .i64 (v9 + 1)) := ⟨_, rfl⟩
          have hg9 : Gr bx wr w9 := hw9 ▸ (Gr.refl bx wr).setS (p := ⟨bx, 1, none⟩) (.inl rfl) _
          have HB9 : Hid (w9.heap[bx]? = some (.cells #[.string so, .int .i64 (v9 + 1), .int .i64 at_, .int .i64 ki, .string ri, .string ca, .string nd, .int .i64 up, .int .i64 dn, .string fo, .int .i64 nu] 31 (0, 0))) := hide (by rw [hw9]; exact heap_set (i := 1) HBR.out)
          have HN9 := hide (Nx.of_gr ((Gr.of_nx HNX.out : Gr bx w wr).trans hg9) (by have := HBX.out; omega))
          have HM9 := hide (HM.out.gr hg9 hgb)
          clear hbr hnx hg9
          go_upto_region 13 with fail
          rw [← hw9]
          clear hw9 hlk hfz d0 d1 d2 d3 d4 d5 d6 d7 d8 d9 d10 hblr
          have hyy : y = ⟨so, v9 + 1, at_, ki, ri, ca, nd, up, dn, fo, nu⟩ := HNE.out
          have hoy : okEv ⟨so, v9 + 1, at_, ki, ri, ca, nd, up, dn, fo, nu⟩ := ⟨HX.out.source, HX.out.ride, HX.out.car, HX.out.node, HX.out.from_, ⟨by show (-1000000000000000 : Int) ≤ v9 + 1; omega, by show v9 + 1 ≤ (1000000000000000 : Int); omega⟩, HX.out.at_, HX.out.kind, HX.out.up, HX.out.down, HX.out.number⟩
          have HEF := hide (fun W => w_eventFault _ W hoy)
          unfold evA at HEF
          simp only at HEF
          have HOY := hide hoy
          obtain ⟨ev, hev⟩ : ∃ ev, ev = evF ⟨so, v9 + 1, at_, ki, ri, ca, nd, up, dn, fo, nu⟩ := ⟨_, rfl⟩
          rw [← hev] at HEF
          have HEV := hide (show evF y = ev by rw [hyy, hev])
          rw [HEV.out] at HW3
          have HYY := hide hyy
          obtain ⟨d0, d1, d2, d3, d4, d5, d6, d7, d8, d9, d10⟩ := evb_cells HB9.out
          have hbl9 := (Array.getElem?_eq_some_iff.1 HB9.out).1
          clear hev hyy hoy
          go_wp2_with fail
          refine (HEF.out _).mono ?_
          rintro e w10 ⟨rfl, hn10⟩
          have HN10 := hide (HN9.out.trans hn10)
          have HB10 := hide ((hn10.block bx hbl9).trans HB9.out)
          have HM10 := hide (HM9.out.nx hn10)
          clear hn10 d0 d1 d2 d3 d4 d5 d6 d7 d8 d9 d10 HEF
          have hq : ev = 0 ∨ (ev != 0) = true := by simp; omega
          rcases hq with hq | hq
          · have HEV0 := hide (HEV.out.trans hq)
            subst hq
            have HW4 := hide (HW3.out.trans (if_neg (by simp)))
            clear HW3
            obtain ⟨d0, d1, d2, d3, d4, d5, d6, d7, d8, d9, d10⟩ := evb_cells HB10.out
            have hbl10 := (Array.getElem?_eq_some_iff.1 HB10.out).1
            obtain ⟨late, hlate⟩ : ∃ late, late = lateB (lastO none l) y := ⟨_, rfl⟩
            rw [← hlate] at HW4 HNR
            have HLT := hide (show late = lateB (prevE l l.length) y by rw [hlate, HPV.out])
            clear hlate
            go_upto_region 17 with fail
            go_cut [59] (fun v wx => v = .bool late ∧ Nx w10 wx)
            case first =>
              rcases Nat.eq_zero_or_pos k with hk0 | hkp
              · have h0 := hide (show late = false by rw [HLT.out, ← HNN.out, hk0]; rfl)
                have hk1 : decide (0 < (k : Int)) = false := by rw [decide_eq_false_iff_not]; omega
                have hk2 : decide ((k : Int) > 0) = false := hk1
                go_quiet (fail)
                go_wp2
                go_meet
                exact ⟨by rw [h0.out], (Nx.refl _).drewN _⟩
              · obtain ⟨j, hj⟩ : ∃ j, k = j + 1 := ⟨k - 1, by omega⟩
                have hjl : j < l.length := by have := HNN.out; omega
                obtain ⟨b1, off, rfl, _, hb, hbw, hc⟩ := HR.out.open_ HN10.out (by have := HNN.out; omega)
                obtain ⟨q0, q1, q2, q3, q4, q5, q6, q7, q8, q9, q10⟩ := ev_cells (hc j hjl)
                have h0 := hide (show late = decide (evOrd y l[j] ≤ 0) by rw [HLT.out, ← HNN.out, hj]; show lateB (l[j]?) y = _; rw [List.getElem?_eq_getElem hjl]; rfl)
                rw [HYY.out] at h0
                clear hc
                generalize l[j] = q at *
                have HBM := hide (fun W => w_byMoment ⟨so, v9 + 1, at_, ki, ri, ca, nd, up, dn, fo, nu⟩ q W)
                obtain ⟨r, hr⟩ : ∃ r, r = evOrd ⟨so, v9 + 1, at_, ki, ri, ca, nd, up, dn, fo, nu⟩ q := ⟨_, rfl⟩
                rw [← hr] at HBM h0
                obtain ⟨so2, no2, at2, ki2, ri2, ca2, nd2, up2, dn2, fo2, nu2⟩ := q
                unfold evA at HBM
                simp only at q0 q1 q2 q3 q4 q5 q6 q7 q8 q9 q10 HBM
                subst hj
                have hj1 : j < j + 1 := by omega
                have hj0 : (0 : Int) ≤ (j : Int) := by omega
                have hj2 : (j : Int) < ((j + 1 : Nat) : Int) := by omega
                have hj3 : (j : Int) < (j : Int) + 1 := by omega
                have wj : IntKind.i64.wrap (j : Int) = (j : Int) := IntWalk.i64_in _ (by omega)
                have wj2 : IntKind.i64.wrap ((j : Int) + 1 - 1) = (j : Int) := by rw [show (j : Int) + 1 - 1 = (j : Int) by omega]; exact wj
                clear hr
                go_still_tail 9, (by kernel_rfl)
                change wpList _ _ _ _ _ w10.drew
                go_wp2_with (go_at_call 45; refine (HBM.out _).mono ?_; rintro e w11 ⟨rfl, hn11⟩)
                go_meet
                exact ⟨by rw [h0.out], (Nx.refl _).drew.trans hn11⟩
            case rest =>
              obtain ⟨rfl, hnc⟩ := hcut
              obtain ⟨w12, hw12⟩ : ∃ w12, w12 = wc := ⟨_, rfl⟩
              rw [← hw12] at hnc ⊢
              clear hw12
              have HN12 := hide (HN10.out.trans hnc)
              have HB12 := hide ((hnc.block bx hbl10).trans HB10.out)
              have HM12 := hide (HM10.out.nx hnc)
              clear hnc d0 d1 d2 d3 d4 d5 d6 d7 d8 d9 d10
              cases late with
              | true =>
                have HW5 := hide (HW4.out.trans (if_pos rfl))
                go_wp2_with fail
                go_ret2
                exact ⟨⟨_, _, _, by rw [HW5.out] <;> rfl, fun _ => rfl, fun h => by rw [HW5.out] at h; cases h⟩, HN12.out⟩
              | false =>
                have HW5 := hide (HW4.out.trans (if_neg (by simp)))
                have HRT := hide (HNR.out HE.out HEV0.out rfl)
                obtain ⟨d0, d1, d2, d3, d4, d5, d6, d7, d8, d9, d10⟩ := evb_cells HB12.out
                have hbl12 := (Array.getElem?_eq_some_iff.1 HB12.out).1
                obtain ⟨iE, zE, e1, e2, e3, e4, e5⟩ := el_Evt.hi
                have E1 := hide e1
                have E2 := hide e2
                have E3 := hide e3
                have E4 := hide e4
                have E5 := hide e5
                clear e1 e2 e3 e4 e5 HW4 HNR
                go_upto_region 19 with fail
                go_cut [12] (fun v wx => wx.ownsRow w12.heap.size 31 11 v (k + 1) ((l ++ [y]).flatMap encEvt) ∧ Nx w12 wx)
                case first =>
                  go_region_law
                    (first
                      | (go_simp; go_at_call 10; refine (HCLN.out _ (HN12.out.trans (by repeat (first | with_reducible exact Nx.refl _ | with_reducible refine Nx.drew ?_ | with_reducible refine Nx.alloc ?_ _)))).mono ?_; rintro e w13 ⟨v4, rfl, hown4, hn4⟩; (have hnac : Nx w12 w13 := Nx.trans (by repeat (first | with_reducible exact Nx.refl _ | with_reducible refine Nx.drew ?_ | with_reducible refine Nx.alloc ?_ _)) hn4); (have r0 := nx_cell hnac hbl12 d0); (have r1 := nx_cell hnac hbl12 d1); (have r2 := nx_cell hnac hbl12 d2); (have r3 := nx_cell hnac hbl12 d3); (have r4 := nx_cell hnac hbl12 d4); (have r5 := nx_cell hnac hbl12 d5); (have r6 := nx_cell hnac hbl12 d6); (have r7 := nx_cell hnac hbl12 d7); (have r8 := nx_cell hnac hbl12 d8); (have r9 := nx_cell hnac hbl12 d9); (have r10 := nx_cell hnac hbl12 d10); (have HV4 : Hid (w13.ownsRow w12.heap.size 31 11 v4 k (l.flatMap encEvt)) := hide (hown4.mono (by simp))))
                      | (refine step_append_lies _ rfl _ _ _ rfl w12.heap.size _ iE zE 11 128 Tryz.underlying26 E1.out E2.out E3.out E4.out E5.out (by omega) v4 k (l.flatMap encEvt) rfl (by first | exact HV4.out | exact HV4.out.alloc _) _ 1 1 [.string so, .int .i64 (v9 + 1), .int .i64 at_, .int .i64 ki, .string ri, .string ca, .string nd, .int .i64 up, .int .i64 dn, .string fo, .int .i64 nu] rfl rfl (by first | exact news_of (hnew rfl) rfl | exact news_of ((hn4.block _ (by simp)).trans (hnew_drew rfl)) rfl) (by intro u hu; simp at hu; rcases hu with rfl | rfl | rfl | rfl | rfl | rfl | rfl | rfl | rfl | rfl | rfl <;> rfl) (by omega) (by unfold maxLen; omega) (by omega) (by have := hnac.sz; simp <;> omega) _ rfl ?_; intro g5 c5 w5 hown5 hg5 hat5 hlt5))
                  all_goals (go_wp2; go_meet)
                  all_goals
                    have e : (l ++ [y]).flatMap encEvt = l.flatMap encEvt ++ [.string so, .int .i64 (v9 + 1), .int .i64 at_, .int .i64 ki, .string ri, .string ca, .string nd, .int .i64 up, .int .i64 dn, .string fo, .int .i64 nu] := by
                      rw [List.flatMap_append, HYY.out]; rfl
                    refine ⟨by rw [e]; exact hown5, ?_⟩
                    first
                      | exact hnac.grown hg5 (own_blk_lt HV4.out)
                      | exact (hnac.alloc _).grown hg5 (own_blk_lt HV4.out)
                case rest =>
                  obtain ⟨hown, hx1⟩ := hcut
                  obtain ⟨w13, hw13⟩ : ∃ w13, w13 = wc := ⟨_, rfl⟩
                  rw [← hw13] at hown hx1 ⊢
                  have hlen : (l ++ [y]).length = k + 1 := by rw [List.length_append, ← HNN.out]; rfl
                  rw [← hlen] at hown
                  obtain ⟨A6, c6, ev6, hcap6, hR6, _⟩ := own_rd encEvt_len hown
                  have hfo := HFO.out _ A6 c6 w13 hR6 HRT.out
                  rw [hlen] at ev6 hcap6 hfo
                  unfold endMo at hfo
                  have HFO2 := hide hfo
                  have HR6 := hide hR6
                  have HCAP := hide hcap6
                  have HN13 := hide (HN12.out.trans hx1)
                  have HB13 := hide ((hx1.block bx hbl12).trans HB12.out)
                  have HM13 := hide (HM12.out.nx hx1)
                  have HLR2 := hide (HLR.out HRT.out)
                  unfold endW at HLR2
                  subst ev6
                  clear hw13 hown hx1 hlen hfo hR6 hcap6 E1 E2 E3 E4 E5 HCLN HFO HLR d0 d1 d2 d3 d4 d5 d6 d7 d8 d9 d10
                  go_wp2_with fail
                  refine HFO2.out.mono ?_
                  rintro e w14 ⟨lo3, d, rb, cb, gb, bb, rv, fr, fc, fm, rfl, hD, hblk, hrow, hG, h1, h2, h3, h4, h5, hnx⟩
                  obtain ⟨A3, c3, e3, hR3, _⟩ := Rd.of_own encRef_len rfl hrow
                  subst e3
                  have d3 := (day_cells hblk).2.2.2.1
                  obtain ⟨R, hRd⟩ : ∃ R, R = refP (l ++ [y]) 345686400000 (l ++ [y]).length := ⟨_, rfl⟩
                  rw [← hRd] at d3 hR3
                  rw [← hRd] at HLR2
                  have HRL := hide (show R.length ≤ 100 by rw [hRd]; have := refP_len (l ++ [y]) 345686400000 (l ++ [y]).length; have := HNN.out; simp at *; omega)
                  have HR3 := hide hR3
                  have HN14 := hide (HN13.out.trans hnx)
                  have HR7 := hide (HR6.out.nx hnx)
                  have hb13l := (Array.getElem?_eq_some_iff.1 HB13.out).1
                  have HB14 := hide ((hnx.block bx hb13l).trans HB13.out)
                  have HM14 := hide (HM13.out.nx hnx)
                  have hz12 := hide (show w.heap.size ≤ w12.heap.size from HN12.out.sz)
                  clear hD hblk hrow hG hR3 hnx h1 h2 h3 h4 h5 hRd
                  obtain ⟨why, hwhy⟩ : ∃ why, why = lastWhy l y := ⟨_, rfl⟩
                  rw [← hwhy] at HW5 HLR2
                  have HFW := HW5.out
                  subst HFW
                  clear hwhy HW5
                  rw [← HNN.out] at HLR2
                  obtain ⟨m3, hm3⟩ : ∃ m3, m3 = R.length := ⟨_, rfl⟩
                  rw [← hm3] at d3
                  have HM3 := hide hm3
                  clear hm3
                  have hg12 : g < w12.heap.size := HM12.out.lt
                  go_upto_region 21 with fail
                  rcases HLR2.out with ⟨hw0, hno⟩ | ⟨hw0, R0, hR0⟩
                  · have HF0 := hide hw0
                    have HNO := hide hno
                    clear hw0 hno HLR2
                    go_cut [84] (fun v wx => v = .bool false ∧ w14 = wx)
                    case first =>
                      rcases snocE R with rfl | ⟨R1, p, rfl⟩
                      · have hm0 : m3 = 0 := HM3.out
                        subst hm0
                        go_wp2_with fail
                        go_meet
                        exact ⟨rfl, rfl⟩
                      · have hp := HNO.out p (by simp)
                        have hp2 : (p.1 == (k : Int)) = false := by simpa using hp
                        obtain ⟨b3, off3, eb3, _, hb3, hb3r, hc⟩ := HR3.out.open_ (Nx.refl _) (by simp)
                        have c0 : w14.cell? ⟨b3, off3 + R1.length * 2, none⟩ = some (.int .i64 p.1) := by
                          have := hc R1.length (by simp) 0 (.int .i64 p.1) (by simp [encRef]); simpa using this
                        obtain ⟨r0, hr0⟩ : ∃ r0, r0 = R1.length := ⟨_, rfl⟩
                        rw [← hr0] at c0
                        have hm0 : m3 = r0 + 1 := by rw [HM3.out, hr0]; simp
                        have hrl : r0 ≤ 100 := by have := HRL.out; rw [← HM3.out, hm0] at this; omega
                        subst hm0 eb3
                        have q0 : (0 : Int) ≤ (r0 : Int) := by omega
                        have q1 : r0 < r0 + 1 := by omega
                        have q2 : (r0 : Int) < (r0 : Int) + 1 := by omega
                        have q3 : (0 : Int) < (r0 : Int) + 1 := by omega
                        have q4 : IntKind.i64.wrap (r0 : Int) = (r0 : Int) := IntWalk.i64_in _ (by omega)
                        have q5 : IntKind.i64.wrap ((r0 : Int) + 1 - 1) = (r0 : Int) := by rw [show (r0 : Int) + 1 - 1 = (r0 : Int) by omega]; exact q4
                        clear hc HM3 hr0 hp HR3 HNO HRL
                        go_wp2_with fail
                        go_meet
                        exact ⟨rfl, rfl⟩
                    case rest =>
                      obtain ⟨rfl, rfl⟩ := hcut
                      obtain ⟨d0, d1, d2, d3, d4, d5, d6, d7, d8, d9, d10⟩ := evb_cells HB14.out
                      have hbl14 := (Array.getElem?_eq_some_iff.1 HB14.out).1
                      have hkey := keyS_mk (P := Tryz.prog) Tryz.underlying9 (domS_1000 HX.out.source)
                      simp only at hkey
                      clear HNO HM3
                      go_upto_region 24 with (at_mapUpdate; refine wpMgPut _ rfl _ _ _ _ rfl intE law_strE strV_inj Tryz.underlying62 g k _ rfl HM14.out (by unfold maxLen; omega) so rfl (domS_1000 HX.out.source) _ hkey (v9 + 1) rfl (wf_15 HOY.out.no) ?_; intro w15 hM15 hg15; (have HM15 := hide hM15); (have HG15 := hide hg15); clear hM15 hg15)
                      obtain ⟨mm, hmm2, hlen⟩ := HM15.out.size (t := 62) (E := 3) Tryz.underlying62 3
                      have HN15 := hide (HN14.out.grown HG15.out (fun j hj => by injection hj with hj; omega))
                      have HR8 := hide (HR7.out.gr HG15.out hg12)
                      have q3000 : decide ((3000 : Int) < (k : Int) + 1) = false := by rw [decide_eq_false_iff_not]; omega
                      have q50 : decide ((50 : Int) < (mm : Int)) = false := by rw [decide_eq_false_iff_not]; omega
                      clear d0 d1 d2 d3 d4 d5 d6 d7 d8 d9 d10 hkey
                      go_wp2_with fail
                      go_ret2
                      exact ⟨⟨_, _, _, by rw [HF0.out] <;> rfl, fun h => absurd HF0.out h, fun _ => ⟨rfl, HCAP.out, HR8.out.low hz12.out⟩⟩, HN15.out⟩
                  · have HQ := hide hw0
                    obtain ⟨b3, off3, eb3, _, hb3, hb3r, hc⟩ := HR3.out.open_ (Nx.refl _) (by rw [hR0]; simp)
                    have c0 : w14.cell? ⟨b3, off3 + R0.length * 2, none⟩ = some (.int .i64 (k : Int)) := by
                      have := hc R0.length (by rw [hR0]; simp) 0 (.int .i64 (k : Int)) (by simp [encRef, hR0]); simpa using this
                    have c1 : w14.cell? ⟨b3, off3 + R0.length * 2 + 1, none⟩ = some (.int .i64 F) := by
                      have := hc R0.length (by rw [hR0]; simp) 1 (.int .i64 F) (by simp [encRef, hR0]); simpa using this
                    obtain ⟨r0, hr0⟩ : ∃ r0, r0 = R0.length := ⟨_, rfl⟩
                    rw [← hr0] at c0 c1
                    have hm0 : m3 = r0 + 1 := by rw [HM3.out, hR0, hr0]; simp
                    have hrl : r0 ≤ 100 := by have := HRL.out; rw [← HM3.out, hm0] at this; omega
                    subst hm0 eb3
                    have q0 : (0 : Int) ≤ (r0 : Int) := by omega
                    have q1 : r0 < r0 + 1 := by omega
                    have q2 : (r0 : Int) < (r0 : Int) + 1 := by omega
                    have q3 : (0 : Int) < (r0 : Int) + 1 := by omega
                    have q4 : IntKind.i64.wrap (r0 : Int) = (r0 : Int) := IntWalk.i64_in _ (by omega)
                    have q5 : IntKind.i64.wrap ((r0 : Int) + 1 - 1) = (r0 : Int) := by rw [show (r0 : Int) + 1 - 1 = (r0 : Int) by omega]; exact q4
                    have q6 : ((k : Int) == (k : Int)) = true := by simp
                    clear hc HM3 hr0 hR0 hw0 HR3 HLR2 HRL
                    go_upto_region 22 with fail
                    go_quiet (fail)
                    go_wp2_with fail
                    go_ret2
                    exact ⟨⟨_, _, _, rfl, fun _ => rfl, fun h => absurd h HQ.out⟩, HN14.out.drewN _⟩
          · have HQ := hide (show ev ≠ 0 by simpa using hq)
            have HW4 := hide (HW3.out.trans (if_pos HQ.out))
            go_wp2_with fail
            go_ret2
            exact ⟨⟨_, _, _, by rw [HW4.out] <;> rfl, fun _ => rfl, fun h => absurd (HW4.out.symm.trans h) HQ.out⟩, HN10.out⟩
    · have HW3 := hide (HW2.out.trans (HWR.out.trans (if_pos (by simpa using hq))))
      go_wp2_with fail
      go_ret2
      exact ⟨⟨_, _, _, by rw [HW3.out] <;> rfl, fun _ => rfl, fun h => by rw [HW3.out] at h; cases h⟩, HN1.out⟩
  · have HQ := hide (show f ≠ 0 by simpa using hq)
    have HW2 := hide (HWF.out.trans (if_neg HQ.out))
    go_wp2_with fail
    go_ret2
    exact ⟨⟨_, _, _, by rw [HW2.out] <;> rfl, fun _ => rfl, fun h => absurd (HW2.out.symm.trans h) HQ.out⟩, HN1.out⟩
end Go.Proofs.YtfkmbeppckelfaaGreatDoor
