/- An event written behind others, by the reference. -/
import Derived.Test.YtfkmbeppckelfaaGreatDoorQWriW
import Derived.Test.YtfkmbeppckelfaaGreatDoorQG22
import Derived.Test.YtfkmbeppckelfaaGreatDoorQG45
import Derived.Test.YtfkmbeppckelfaaGreatDoorQG43
namespace Go.Proofs.YtfkmbeppckelfaaGreatDoor
open Go.RowKit Go.Maps

def WrittenEnd (l : List Ev) (x : Ev) (w : World) (e : Ending) (w' : World) : Prop :=
  (∃ (B : Option Addr) (m cb : Nat), e = .returned (.tuple #[.slice B m cb, .int .i64 (wrF l x)]) ∧ (wrF l x ≠ 0 → m = 0) ∧ (wrF l x = 0 → m = l.length + 1 ∧ Rd w' w.heap.size B 11 encEvt (l ++ [newE l x]))) ∧ Nx w w'
theorem num_take {l : List Ev} {k : Nat} (hk : k < l.length) (s : ByteArray) : num0 (l.take (k + 1)) s = if l[k].source = s then l[k].no else num0 (l.take k) s := by
  rw [List.take_add_one, List.getElem?_eq_getElem hk, Option.toList_some, num0_snoc]
  show (if s = l[k].source then _ else _) = _
  by_cases e : s = l[k].source
  · rw [if_pos e, if_pos e.symm]
  · rw [if_neg e, if_neg (fun h => e h.symm)]
/-- The reference's last answer behind j steps. -/
def lastF (l : List Ev) : Nat → Int
  | 0 => 0
  | k + 1 => match l[k]? with
    | none => 0
    | some x => (stepL l k x (runR l endW k)).2
theorem num_small {l : List Ev} (hok : ∀ x ∈ l, okEv x) (k : Nat) (s : ByteArray) : -1000000000000000 ≤ num0 (l.take k) s ∧ num0 (l.take k) s ≤ 1000000000000000 := by
  rw [← last_num]; exact lastM_bd hok k s
set_option maxRecDepth 100000 in
set_option maxHeartbeats 8000000 in
theorem w_EventWritten (lo : Nat) (A : Option Addr) (c : Nat) (l : List Ev) (x : Ev) (w : World) (hR : Rd w lo A 11 encEvt l) (hl : l.length ≤ 45) (hok : ∀ x ∈ l, okEv x) (hx : okEv x) (hE : evsF l = 0) :
    Calls Tryz.prog 23 #[.slice A l.length c, .agg (evA x)] w (WrittenEnd l x w) := by
  have hmm := @run_makeMap Tryz.prog
  have HPV := hide (last_prev l)
  have HBD := hide (num0_bd l hE x.source)
  have HSM := hide (num_small hok)
  have HNR := hide (fun (h1 : evF (newE l x) = 0) (h2 : lateB (lastO none l) (newE l x) = false) => newE_right hE h1 h2)
  have HLW := hide (fun (h : evsF (l ++ [newE l x]) = 0) => lastWhy_ref h)
  have hwr : wrF l x = if x.no ≠ 0 then 3 else if evF (newE l x) ≠ 0 then evF (newE l x) else if lateB (lastO none l) (newE l x) = true then 7 else lastWhy l (newE l x) := rfl
  have HNE := hide (show newE l x = { x with no := num0 l x.source + 1 } from rfl)
  have HCLN := hide (fun W (hn : Nx w W) => w_CloneEv lo A c l W (hR.nx hn) (by omega))
  unfold WrittenEnd
  obtain ⟨F, hF⟩ : ∃ F, F = wrF l x := ⟨_, rfl⟩
  rw [← hF]
  rw [← hF] at hwr
  have HW2 := hide hwr
  obtain ⟨y, hy⟩ : ∃ y, y = newE l x := ⟨_, rfl⟩
  rw [← hy] at HNR HLW HNE HW2
  rw [← hy]
  obtain ⟨v9, hv9⟩ : ∃ v9, v9 = num0 l x.source := ⟨_, rfl⟩
  rw [← hv9] at HBD HNE
  have HV9 := hide hv9
  have HR := hide hR
  have HOK := hide hok
  have HX := hide hx
  obtain ⟨n, hn⟩ : ∃ n, n = l.length := ⟨_, rfl⟩
  rw [← hn] at HBD HCLN hl ⊢
  have HNN := hide hn
  clear hR hok hF hn hwr hy hv9 hE
  obtain ⟨so, no, at_, ki, ri, ca, nd, up, dn, fo, nu⟩ := x
  unfold evA
  simp only at HV9 HNE HX HBD hx HW2 ⊢
  obtain ⟨bx, hbx⟩ : ∃ bx, bx = w.heap.size := ⟨_, rfl⟩
  obtain ⟨w1, hw1⟩ : ∃ w1, w1 = w.alloc (.cells #[.string so, .int .i64 no, .int .i64 at_, .int .i64 ki, .string ri, .string ca, .string nd, .int .i64 up, .int .i64 dn, .string fo, .int .i64 nu] 31 (0, 0)) := ⟨_, rfl⟩
  have hn1 : Nx w w1 := hw1 ▸ (Nx.refl w).alloc _
  have hb1 : w1.heap[bx]? = some (.cells #[.string so, .int .i64 no, .int .i64 at_, .int .i64 ki, .string ri, .string ca, .string nd, .int .i64 up, .int .i64 dn, .string fo, .int .i64 nu] 31 (0, 0)) := by rw [hw1, hbx]; exact heap_alloc_new w _
  have HN1 := hide hn1
  have HB1 := hide hb1
  have HBX := hide hbx
  clear hn1 hx
  go_enter Tryz.func23, Tryz.ntmps23
  go_upto_region 1 with fail
  rw [← hw1, ← hbx]
  clear hw1 hbx
  obtain ⟨d0, d1, d2, d3, d4, d5, d6, d7, d8, d9, d10⟩ := evb_cells hb1
  have hl1 := (Array.getElem?_eq_some_iff.1 hb1).1
  clear hb1
  have hq : no = 0 ∨ (no != 0) = true := by simp; omega
  rcases hq with rfl | hq
  · have HW3 := hide (HW2.out.trans (if_neg (by simp)))
    have hkey := keyS_mk (P := Tryz.prog) Tryz.underlying9 (domS_1000 HX.out.source)
    simp only at hkey
    clear HW2
    have HDS := hide (domS_1000 HX.out.source)
    simp only at HDS
    go_upto_region 4 with (refine wpMgIns2 _ rfl _ _ _ _ rfl boolE law_strE strV_inj Tryz.underlying97 w1.heap.size 0 (fun _ => none) rfl (MgI.made w1) (by decide) so rfl HDS.out _ hkey true rfl trivial ?_; intro w2 hM3 hg3; (have HM3 := hide hM3); (have HG3 := hide hg3); clear hM3 hg3)
    obtain ⟨g, hg⟩ : ∃ g, g = w1.heap.size := ⟨_, rfl⟩
    rw [← hg] at HM3 HG3 ⊢
    have hgb : g ≠ bx := by omega
    have hwg : w.heap.size ≤ g := by have := HN1.out.sz; omega
    have HGG := hide hg
    have HN2 := hide ((HN1.out.alloc (.map #[] 0)).grown HG3.out (fun j hj => by injection hj with hj; omega))
    have HB2 := hide ((HG3.out.block bx (by simp; omega) (by intro e; injection e with e; exact hgb e.symm)).trans ((((Nx.refl w1).alloc _).block bx hl1).trans HB1.out))
    clear hg d0 d1 d2 d3 d4 d5 d6 d7 d8 d9 d10 hmm
    obtain ⟨d0, d1, d2, d3, d4, d5, d6, d7, d8, d9, d10⟩ := evb_cells HB2.out
    have hl2 := (Array.getElem?_eq_some_iff.1 HB2.out).1
    have hfz : ∀ i, w2.frozen? ⟨bx, i, none⟩ = false := fun i => by simp [World.frozen?, HB2.out]
    obtain ⟨w3, hw3⟩ : ∃ w3, w3 = w2.setCell ⟨bx, 1, none⟩ (.int .i64 1) := ⟨_, rfl⟩
    have hg3 : Gr bx w2 w3 := hw3 ▸ (Gr.refl bx w2).setS (p := ⟨bx, 1, none⟩) (.inl rfl) _
    have HB3 : Hid (w3.heap[bx]? = some (.cells #[.string so, .int .i64 1, .int .i64 at_, .int .i64 ki, .string ri, .string ca, .string nd, .int .i64 up, .int .i64 dn, .string fo, .int .i64 nu] 31 (0, 0))) := hide (by rw [hw3]; exact heap_set (i := 1) HB2.out)
    have HM4 := hide (HM3.out.gr hg3 hgb)
    have HN3 := hide (Nx.of_gr ((Gr.of_nx HN2.out : Gr bx w w2).trans hg3) (by have := HBX.out; omega))
    clear hg3
    go_upto_region 5 with fail
    rw [← hw3]
    clear hw3 d0 d1 d2 d3 d4 d5 d6 d7 d8 d9 d10 hfz
    go_wp2_with fail
    go_loopw [26] (fun i wr => ∃ (k : Nat) (f : ByteArray → Option Bool) (z : Int), k ≤ n ∧ i = .int .i64 k ∧ MpKB wr g (k + 1) f ∧ z = num0 (l.take k) so + 1 ∧ wr.heap[bx]? = some (.cells #[.string so, .int .i64 z, .int .i64 at_, .int .i64 ki, .string ri, .string ca, .string nd, .int .i64 up, .int .i64 dn, .string fo, .int .i64 nu] 31 (0, 0)) ∧ Nx w wr) (fun i _ => n - (intOf i).toNat)
    case atStart => exact ⟨0, _, 1, Nat.zero_le _, rfl, HM4.out, rfl, HB3.out, HN3.out⟩
    case round =>
      obtain ⟨k, f, z, hk, rfl, hM, hz, hbr, hnx⟩ := hrel
      have HM := hide hM
      have HBR := hide hbr
      have HNX := hide hnx
      have HZ := hide hz
      have hml := hM.lt
      have hblr := (Array.getElem?_eq_some_iff.1 hbr).1
      clear hM hz
      by_cases hlt : k < n
      · have hlt' : k < l.length := by have := HNN.out; omega
        obtain ⟨b1, off, rfl, _, hb, hbw, hc⟩ := HR.out.open_ hnx (by have := HNN.out; omega)
        obtain ⟨c0, c1, c2, c3, c4, c5, c6, c7, c8, c9, c10⟩ := ev_cells (hc k hlt')
        have hxk := HOK.out l[k] (List.getElem_mem hlt')
        have hnt := num_take hlt' so
        clear hc hbr hnx
        generalize l[k] = q at *
        have hkey2 := keyS_mk (P := Tryz.prog) Tryz.underlying9 (domS_1000 hxk.source)
        have HXK := hide hxk
        obtain ⟨so2, no2, at2, ki2, ri2, ca2, nd2, up2, dn2, fo2, nu2⟩ := q
        simp only at c0 c1 c2 c3 c4 c5 c6 c7 c8 c9 c10 hkey2 hnt
        have hno2 := HXK.out.no
        simp only at hno2
        have q1 : (0 : Int) ≤ (k : Int) := by omega
        have q2 : (k : Int) < (n : Int) := by omega
        have te : (so2.toList == so.toList) = decide (so2 = so) := eqS_iff _ _
        have HDS2 := hide (domS_1000 HXK.out.source)
        simp only at HDS2
        have ww : IntKind.i64.wrap (no2 + 1) = no2 + 1 := IntWalk.i64_in _ (by omega)
        obtain ⟨e0, o0, z0⟩ : ∃ (e0 : Unit) (o0 : Unit) (z0 : Unit), True := ⟨(), (), (), trivial⟩
        clear hxk e0 o0 z0
        go_upto_region 9 with (at_mapUpdate; refine wpMgPut _ rfl _ _ _ _ rfl boolE law_strE strV_inj Tryz.underlying97 g (k + 1) _ rfl (HM.out.nx ((Nx.refl _).alloc _)) (by unfold maxLen; omega) so2 rfl HDS2.out _ hkey2 true rfl trivial ?_; intro w8 hM8 hg8; (have HM8 := hide hM8); (have HG8 := hide hg8); clear hM8 hg8)
        have HB8 := hide ((HG8.out.block bx (by simp; omega) (by intro e; injection e with e; exact hgb e.symm)).trans ((((Nx.refl wr).alloc _).block bx hblr).trans HBR.out))
        have hbk8 := (HG8.out.block wr.heap.size (by simp) (by intro e; injection e with e; omega)).trans (heap_alloc_new wr (.cells #[.string so2, .int .i64 no2, .int .i64 at2, .int .i64 ki2, .string ri2, .string ca2, .string nd2, .int .i64 up2, .int .i64 dn2, .string fo2, .int .i64 nu2] 31 (0, 0)))
        have HN8 := hide ((HNX.out.alloc (.cells #[.string so2, .int .i64 no2, .int .i64 at2, .int .i64 ki2, .string ri2, .string ca2, .string nd2, .int .i64 up2, .int .i64 dn2, .string fo2, .int .i64 nu2] 31 (0, 0))).grown HG8.out (fun j hj => by injection hj with hj; omega))
        clear c0 c1 c2 c3 c4 c5 c6 c7 c8 c9 c10
        have x0 := cell_of_row w8 _ 0 _ _ _ hbk8
        have x1 := cell_of_row w8 _ 1 _ _ _ hbk8
        simp at x0 x1
        have hxl8 := (Array.getElem?_eq_some_iff.1 hbk8).1
        have hbl8 := (Array.getElem?_eq_some_iff.1 HB8.out).1
        obtain ⟨d0, d1, d2, d3, d4, d5, d6, d7, d8, d9, d10⟩ := evb_cells HB8.out
        have hfz : ∀ i, w8.frozen? ⟨bx, i, none⟩ = false := fun i => by simp [World.frozen?, HB8.out]
        clear hbk8
        by_cases hss : so2 = so
        · have te2 : (so2.toList == so.toList) = true := by rw [te]; exact decide_eq_true hss
          have hz2 : no2 + 1 = num0 (l.take (k + 1)) so + 1 := by rw [hnt, if_pos hss]
          have hg9 : Gr bx w8 (w8.setCell ⟨bx, 1, none⟩ (.int .i64 (no2 + 1))) := (Gr.refl bx w8).setS (p := ⟨bx, 1, none⟩) (.inl rfl) _
          have HM9 := hide (HM8.out.gr hg9 hgb)
          have HN9 := hide (Nx.of_gr ((Gr.of_nx HN8.out : Gr bx w w8).trans hg9) (by have := HBX.out; omega))
          have HB9 := hide (heap_set (i := 1) (u := .int .i64 (no2 + 1)) HB8.out)
          have HZ2 := hide hz2
          clear hz2 hss hnt te hg9
          go_wp2_with fail
          go_roundw
          case rel => exact ⟨k + 1, _, no2 + 1, by omega, by go_num, HM9.out, HZ2.out, HB9.out, HN9.out⟩
          case measure => simp [intOf]; omega
        · have te2 : (so2.toList == so.toList) = false := by rw [te]; exact decide_eq_false hss
          have hz2 : z = num0 (l.take (k + 1)) so + 1 := by rw [hnt, if_neg hss]; exact HZ.out
          have HZ2 := hide hz2
          clear hz2 hss hnt te
          go_wp2_with fail
          go_roundw
          case rel => exact ⟨k + 1, _, z, by omega, by go_num, HM8.out, HZ2.out, HB8.out, HN8.out⟩
          case measure => simp [intOf]; omega
      · obtain rfl : k = n := by omega
        have ht : l.take k = l := List.take_of_length_le (by have := HNN.out; omega)
        have hzv : z = v9 + 1 := by rw [HZ.out, ht, HV9.out]
        subst hzv
        have hbd := HBD.out
        obtain ⟨d0, d1, d2, d3, d4, d5, d6, d7, d8, d9, d10⟩ := evb_cells hbr
        clear hbr hnx ht HZ
        have hyy : y = ⟨so, v9 + 1, at_, ki, ri, ca, nd, up, dn, fo, nu⟩ := HNE.out
        have hoy : okEv ⟨so, v9 + 1, at_, ki, ri, ca, nd, up, dn, fo, nu⟩ := ⟨HX.out.source, HX.out.ride, HX.out.car, HX.out.node, HX.out.from_, ⟨by show (-1000000000000000 : Int) ≤ v9 + 1; omega, by show v9 + 1 ≤ (1000000000000000 : Int); omega⟩, HX.out.at_, HX.out.kind, HX.out.up, HX.out.down, HX.out.number⟩
        have HEF := hide (fun W => w_EventFaultR _ W hoy)
        unfold evA at HEF
        simp only at HEF
        have HOY := hide hoy
        obtain ⟨ev, hev⟩ : ∃ ev, ev = evF ⟨so, v9 + 1, at_, ki, ri, ca, nd, up, dn, fo, nu⟩ := ⟨_, rfl⟩
        rw [← hev] at HEF
        have HEV := hide (show evF y = ev by rw [hyy, hev])
        rw [HEV.out] at HW3
        have HYY := hide hyy
        clear hev hyy hoy
        go_wp2_with fail
        refine (HEF.out _).mono ?_
        rintro e w10 ⟨rfl, hn10⟩
        have HN10 := hide (HNX.out.trans hn10)
        have HB10 := hide ((hn10.block bx hblr).trans HBR.out)
        have HM10 := hide (HM.out.nx hn10)
        clear hn10 d0 d1 d2 d3 d4 d5 d6 d7 d8 d9 d10 HEF
        have hq : ev = 0 ∨ (ev != 0) = true := by simp; omega
        rcases hq with hq | hq
        · have HEV0 := hide (HEV.out.trans hq)
          subst hq
          have HW4 := hide (HW3.out.trans (if_neg (by simp)))
          clear HW3
          obtain ⟨d0, d1, d2, d3, d4, d5, d6, d7, d8, d9, d10⟩ := evb_cells HB10.out
          have hbl10 := (Array.getElem?_eq_some_iff.1 HB10.out).1
          obtain ⟨late, hlate⟩ : ∃ late, late = lateB (lastO none l) y := ⟨_, rfl⟩
          rw [← hlate] at HW4 HNR
          have HLT := hide (show late = lateB (prevE l l.length) y by rw [hlate, HPV.out])
          clear hlate
          go_upto_region 16 with fail
          go_cut [61] (fun v wx => v = .bool late ∧ Nx w10 wx)
          case first =>
            rcases Nat.eq_zero_or_pos k with hk0 | hkp
            · have h0 := hide (show late = false by rw [HLT.out, ← HNN.out, hk0]; rfl)
              have hk1 : decide (0 < (k : Int)) = false := by rw [decide_eq_false_iff_not]; omega
              have hk2 : decide ((k : Int) > 0) = false := hk1
              go_quiet (fail)
              go_wp2
              go_meet
              exact ⟨by rw [h0.out], (Nx.refl _).drewN _⟩
            · obtain ⟨j, hj⟩ : ∃ j, k = j + 1 := ⟨k - 1, by omega⟩
              have hjl : j < l.length := by have := HNN.out; omega
              obtain ⟨b1, off, rfl, _, hb, hbw, hc⟩ := HR.out.open_ HN10.out (by have := HNN.out; omega)
              obtain ⟨q0, q1, q2, q3, q4, q5, q6, q7, q8, q9, q10⟩ := ev_cells (hc j hjl)
              have h0 := hide (show late = decide (evOrd l[j] y ≥ 0) by rw [HLT.out, ← HNN.out, hj]; show lateB (l[j]?) y = _; rw [List.getElem?_eq_getElem hjl]; exact late_ref _ _)
              rw [HYY.out] at h0
              clear hc
              generalize l[j] = q at *
              have HBM := hide (fun W => w_EventOrder q ⟨so, v9 + 1, at_, ki, ri, ca, nd, up, dn, fo, nu⟩ W)
              obtain ⟨r, hr⟩ : ∃ r, r = evOrd q ⟨so, v9 + 1, at_, ki, ri, ca, nd, up, dn, fo, nu⟩ := ⟨_, rfl⟩
              rw [← hr] at HBM h0
              obtain ⟨so2, no2, at2, ki2, ri2, ca2, nd2, up2, dn2, fo2, nu2⟩ := q
              unfold evA at HBM
              simp only at q0 q1 q2 q3 q4 q5 q6 q7 q8 q9 q10 HBM
              subst hj
              have hj1 : j < j + 1 := by omega
              have hj0 : (0 : Int) ≤ (j : Int) := by omega
              have hj2 : (j : Int) < ((j + 1 : Nat) : Int) := by omega
              have hj3 : (j : Int) < (j : Int) + 1 := by omega
              have wj : IntKind.i64.wrap (j : Int) = (j : Int) := IntWalk.i64_in _ (by omega)
              have wj2 : IntKind.i64.wrap ((j : Int) + 1 - 1) = (j : Int) := by rw [show (j : Int) + 1 - 1 = (j : Int) by omega]; exact wj
              clear hr
              go_still_tail 9, (by kernel_rfl)
              change wpList _ _ _ _ _ w10.drew
              go_wp2_with (go_at_call 43; refine (HBM.out _).mono ?_; rintro e w11 ⟨rfl, hn11⟩)
              go_meet
              exact ⟨by rw [h0.out], (Nx.refl _).drew.trans hn11⟩
          case rest =>
            obtain ⟨rfl, hnc⟩ := hcut
            obtain ⟨w12, hw12⟩ : ∃ w12, w12 = wc := ⟨_, rfl⟩
            rw [← hw12] at hnc ⊢
            clear hw12
            have HN12 := hide (HN10.out.trans hnc)
            have HB12 := hide ((hnc.block bx hbl10).trans HB10.out)
            have HM12 := hide (HM10.out.nx hnc)
            clear hnc d0 d1 d2 d3 d4 d5 d6 d7 d8 d9 d10
            cases late with
            | true =>
              have HW5 := hide (HW4.out.trans (if_pos rfl))
              go_wp2_with fail
              go_ret2
              have hne : F ≠ 0 := by rw [HW5.out]; decide
              exact ⟨⟨_, _, ⟨_, by rw [HW5.out] <;> rfl⟩, fun _ => rfl, fun h => absurd h hne⟩, HN12.out⟩
            | false =>
              have HW5 := hide (HW4.out.trans (if_neg (by simp)))
              have HRT := hide (HNR.out HEV0.out rfl)
              obtain ⟨d0, d1, d2, d3, d4, d5, d6, d7, d8, d9, d10⟩ := evb_cells HB12.out
              have hbl12 := (Array.getElem?_eq_some_iff.1 HB12.out).1
              obtain ⟨iE, zE, e1, e2, e3, e4, e5⟩ := el_Evt.hi
              have E1 := hide e1
              have E2 := hide e2
              have E3 := hide e3
              have E4 := hide e4
              have E5 := hide e5
              clear e1 e2 e3 e4 e5 HW4 HNR
              go_upto_region 18 with fail
              go_cut [11] (fun v wx => wx.ownsRow w12.heap.size 31 11 v (k + 1) ((l ++ [y]).flatMap encEvt) ∧ Nx w12 wx)
              case first =>
                go_region_law
                  (first
                    | (go_simp; go_at_call 10; refine (HCLN.out _ (HN12.out.trans (by repeat (first | with_reducible exact Nx.refl _ | with_reducible refine Nx.drew ?_ | with_reducible refine Nx.alloc ?_ _)))).mono ?_; rintro e w13 ⟨v4, rfl, hown4, hn4⟩; (have hnac : Nx w12 w13 := Nx.trans (by repeat (first | with_reducible exact Nx.refl _ | with_reducible refine Nx.drew ?_ | with_reducible refine Nx.alloc ?_ _)) hn4); (have r0 := nx_cell hnac hbl12 d0); (have r1 := nx_cell hnac hbl12 d1); (have r2 := nx_cell hnac hbl12 d2); (have r3 := nx_cell hnac hbl12 d3); (have r4 := nx_cell hnac hbl12 d4); (have r5 := nx_cell hnac hbl12 d5); (have r6 := nx_cell hnac hbl12 d6); (have r7 := nx_cell hnac hbl12 d7); (have r8 := nx_cell hnac hbl12 d8); (have r9 := nx_cell hnac hbl12 d9); (have r10 := nx_cell hnac hbl12 d10); (have HV4 : Hid (w13.ownsRow w12.heap.size 31 11 v4 k (l.flatMap encEvt)) := hide (hown4.mono (by simp))))
                    | (refine step_append_lies _ rfl _ _ _ rfl w12.heap.size _ iE zE 11 128 Tryz.underlying26 E1.out E2.out E3.out E4.out E5.out (by omega) v4 k (l.flatMap encEvt) rfl (by first | exact HV4.out | exact HV4.out.alloc _) _ 1 1 [.string so, .int .i64 (v9 + 1), .int .i64 at_, .int .i64 ki, .string ri, .string ca, .string nd, .int .i64 up, .int .i64 dn, .string fo, .int .i64 nu] rfl rfl (by first | exact news_of (hnew rfl) rfl | exact news_of ((hn4.block _ (by simp)).trans (hnew_drew rfl)) rfl) (by intro u hu; simp at hu; rcases hu with rfl | rfl | rfl | rfl | rfl | rfl | rfl | rfl | rfl | rfl | rfl <;> rfl) (by omega) (by unfold maxLen; omega) (by omega) (by have := hnac.sz; simp <;> omega) _ rfl ?_; intro g5 c5 w5 hown5 hg5 hat5 hlt5))
                all_goals (go_wp2; go_meet)
                all_goals
                  have e : (l ++ [y]).flatMap encEvt = l.flatMap encEvt ++ [.string so, .int .i64 (v9 + 1), .int .i64 at_, .int .i64 ki, .string ri, .string ca, .string nd, .int .i64 up, .int .i64 dn, .string fo, .int .i64 nu] := by
                    rw [List.flatMap_append, HYY.out]; rfl
                  refine ⟨by rw [e]; exact hown5, ?_⟩
                  first
                    | exact hnac.grown hg5 (own_blk_lt HV4.out)
                    | exact (hnac.alloc _).grown hg5 (own_blk_lt HV4.out)
              case rest =>
                obtain ⟨hown, hx1⟩ := hcut
                obtain ⟨w13, hw13⟩ : ∃ w13, w13 = wc := ⟨_, rfl⟩
                rw [← hw13] at hown hx1 ⊢
                have hlen : (l ++ [y]).length = k + 1 := by rw [List.length_append, ← HNN.out]; rfl
                rw [← hlen] at hown
                obtain ⟨A6, c6, ev6, hcap6, hR6, _⟩ := own_rd encEvt_len hown
                obtain ⟨O, hO⟩ : ∃ O, O = l ++ [y] := ⟨_, rfl⟩
                have hlast : O[k]? = some y := by rw [hO, HNN.out]; simp
                have hlw := HLW.out HRT.out
                rw [← hO] at hR6 ev6 hcap6 hlen hlw
                have hro : evsF O = 0 := hO ▸ HRT.out
                have HU := hide (fun (W : World) (hn : Nx w13 W) => w_UndoneOf w12.heap.size A6 c6 O W (hR6.nx hn) (by omega))
                rw [hlen] at ev6 hcap6
                have HR6 := hide hR6
                have HCAP := hide hcap6
                have HN13 := hide (HN12.out.trans hx1)
                have HM13 := hide (HM12.out.nx hx1)
                have HRO := hide hro
                have HLAST := hide hlast
                rw [← HNN.out] at hlw
                have HLWW := hide hlw
                have HLEN := hide hlen
                have HOO := hide hO
                have hul := undoneL_len O O.length
                have hz12 := hide (show w.heap.size ≤ w12.heap.size from HN12.out.sz)
                subst ev6
                obtain ⟨us, hus⟩ : ∃ us, us = undoneL O O.length := ⟨_, rfl⟩
                rw [← hus] at HU hul
                rw [hlen] at hul
                have HUS := hide hus
                have HUL := hide hul
                rw [hlen] at HU
                clear hw13 hown hx1 hR6 hcap6 E1 E2 E3 E4 E5 HCLN HLW d0 d1 d2 d3 d4 d5 d6 d7 d8 d9 d10 hro hlast hlw hO hus hul hlen
                go_wp2_with fail
                refine (w_newDay w13).mono ?_
                rintro e w14 ⟨rfl, hD1, hn1⟩
                obtain ⟨d, hd⟩ : ∃ d, d = w13.heap.size + 3 := ⟨_, rfl⟩
                obtain ⟨rb, hrb⟩ : ∃ rb, rb = w13.heap.size := ⟨_, rfl⟩
                obtain ⟨cb, hcb⟩ : ∃ cb, cb = w13.heap.size + 1 := ⟨_, rfl⟩
                obtain ⟨bb, hbb⟩ : ∃ bb, bb = w13.heap.size + 2 := ⟨_, rfl⟩
                rw [← hd, ← hcb, ← hbb] at hD1
                rw [← hrb] at hD1
                rw [← hd]
                have HLO := hide (show w13.heap.size ≤ d ∧ w13.heap.size ≤ rb ∧ w13.heap.size ≤ cb ∧ w13.heap.size ≤ bb by omega)
                have HD1 := hide hD1
                have HU1 := hide (HU.out w14 hn1)
                have HN14 := hide hn1
                clear hD1 hn1 HU hd hrb hcb hbb
                go_wp2_with fail
                refine HU1.out.mono ?_
                rintro e w15 ⟨v, rfl, hrow, hn2⟩
                obtain ⟨U, uc, eU, hU, _⟩ := Rd.of_own encIE_len rfl hrow
                subst eU
                obtain ⟨ul, hule⟩ : ∃ ul, ul = us.length := ⟨_, rfl⟩
                rw [← hule]
                have HULE := hide hule
                have HUR := hide hU
                have HD2 := hide (HD1.out.nx hn2)
                have HN15 := hide (HN14.out.trans hn2)
                have HZ1 := hide HD1.out.lts
                clear hrow hU hn2 hule HU1
                go_wp2_with fail
                go_loopw [14, 15, 72] (fun v _ i wr => ∃ j : Nat, j ≤ k + 1 ∧ i = .int .i64 j ∧ v = .int .i64 (lastF O j) ∧ DayRW wr d rb cb bb (3 * j) (runR O endW j) ∧ FrR rb cb bb w15 wr) (fun _ _ i _ => k + 1 - (intOf i).toNat)
                case atStart => exact ⟨0, Nat.zero_le _, rfl, rfl, HD2.out, FrR.refl _ _ _ _⟩
                case round =>
                  obtain ⟨j, hj, rfl, rfl, hD, hF⟩ := hrel
                  have HD := hide hD
                  have HF := hide hF
                  have hnx := hF.toNx HN15.out HLO.out.2.1 HLO.out.2.2.1 HLO.out.2.2.2
                  have HNX2 := hide hnx
                  by_cases hlt : j < k + 1
                  · have hlt' : j < O.length := by rw [HLEN.out]; exact hlt
                    obtain ⟨q, hq⟩ : ∃ q, O[j]? = some q := ⟨O[j], List.getElem?_eq_getElem hlt'⟩
                    have hqm := List.mem_of_getElem? hq
                    have hqr := evs_right HRO.out hqm
                    have hrun := hide (show runR O endW (j + 1) = (stepL O j q (runR O endW j)).1 by rw [runR, hq]; exact if_pos (by have := (evF_zero hqr).2.2.1; unfold endW; omega))
                    have hlf := hide (show lastF O (j + 1) = (stepL O j q (runR O endW j)).2 by rw [lastF, hq])
                    have hST := w_stepR w12.heap.size w14.heap.size A6 U c6 uc j O q d rb cb bb (3 * j) (runR O endW j) wr (HR6.out.nx hnx) (by rw [← HUS.out]; exact HUR.out.frR hF HZ1.out.2.1 HZ1.out.2.2.1 HZ1.out.2.2.2) hD (by rw [HLEN.out]; omega) (by rw [HLEN.out]; exact HCAP.out) hq (okEv_of hqr) (by omega)
                    rw [← HUS.out, HLEN.out, ← HULE.out] at hST
                    have HST := hide hST
                    generalize (stepL O j q (runR O endW j)) = r at HST hrun hlf
                    obtain ⟨D', f9⟩ := r
                    have q1 : (0 : Int) ≤ (j : Int) := by omega
                    have q2 : (j : Int) < ((k + 1 : Nat) : Int) := by omega
                    have q3 : (j : Int) < (k : Int) + 1 := by omega
                    clear hD hF hnx hq hqm hqr hST
                    go_wp2_with (go_at_call 54; refine HST.out.mono ?_; rintro e w16 ⟨rfl, hD5, hF5⟩; (have HD5 := hide hD5); (have HF5 := hide hF5); clear hD5 hF5)
                    go_roundw
                    case rel => exact ⟨j + 1, by omega, by go_num, by rw [hlf.out], by rw [hrun.out]; exact HD5.out, HF.out.trans HF5.out⟩
                    case measure => simp [intOf]; omega
                  · obtain rfl : j = k + 1 := by omega
                    have hfe : lastF O (k + 1) = F := by
                      rw [HW5.out, ← HLWW.out]
                      rw [lastF, HLAST.out]
                    have HR8 := hide (HR6.out.nx HNX2.out)
                    have HM8 := hide (HM13.out.nx HNX2.out)
                    obtain ⟨mm, hmm2, hlenm⟩ := HM8.out.size (t := 97) (E := 4) Tryz.underlying97 3
                    have HN16 := hide (HN13.out.trans HNX2.out)
                    rw [hfe]
                    clear hD hF hnx hfe
                    have hq : F = 0 ∨ (F != 0) = true := by simp; omega
                    rcases hq with hq | hq
                    · have HF0 := hide hq
                      have q3000 : decide ((3000 : Int) ≤ (k : Int)) = false := by rw [decide_eq_false_iff_not]; omega
                      have q50 : decide ((50 : Int) < (mm : Int)) = false := by rw [decide_eq_false_iff_not]; omega
                      have hq2 : (F != 0) = false := by simp [hq]
                      clear hq
                      go_wp2_with fail
                      go_ret2
                      exact ⟨⟨_, _, _, by rw [HF0.out] <;> rfl, fun h => absurd HF0.out h, fun _ => ⟨rfl, by rw [← HOO.out]; exact HR8.out.low hz12.out⟩⟩, HN16.out⟩
                    · have HQ := hide (show F ≠ 0 by simpa using hq)
                      go_wp2_with fail
                      go_ret2
                      exact ⟨⟨_, _, _, rfl, fun _ => rfl, fun h => absurd h HQ.out⟩, HN16.out⟩
        · have HQ := hide (show ev ≠ 0 by simpa using hq)
          have HW4 := hide (HW3.out.trans (if_pos HQ.out))
          go_wp2_with fail
          go_ret2
          exact ⟨⟨_, _, _, by rw [HW4.out] <;> rfl, fun _ => rfl, fun h => absurd (HW4.out.symm.trans h) HQ.out⟩, HN10.out⟩
  · have HW3 := hide (HW2.out.trans (if_pos (by simpa using hq)))
    go_wp2_with fail
    go_ret2
    exact ⟨⟨_, _, _, by rw [HW3.out] <;> rfl, fun _ => rfl, fun h => by rw [HW3.out] at h; cases h⟩, HN1.out⟩
end Go.Proofs.YtfkmbeppckelfaaGreatDoor
