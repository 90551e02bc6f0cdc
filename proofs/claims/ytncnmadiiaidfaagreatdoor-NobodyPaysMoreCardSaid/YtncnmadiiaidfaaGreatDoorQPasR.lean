/- Passes: the reference's check. -/
import Derived.Test.YtncnmadiiaidfaaGreatDoorQPasF
import Derived.Deep.DeepCutAuto
import Derived.Deep.RegionHeld
namespace Go.Proofs.YtncnmadiiaidfaaGreatDoor
open Go.RowKit


set_option maxRecDepth 100000 in
set_option maxHeartbeats 4000000 in
theorem w_PassesFault (lo lo' : Nat) (D A : Option Addr) (c cA : Nat) (zs : List Zone) (ps : List Pass) (w : World) (hZ : RdZones w lo D zs) (hzl : zs.length ≤ 100) (hP : RdPasses w lo' A ps) (hl : ps.length ≤ 300) :
    Calls Tryz.prog 11 #[.slice D zs.length c, .slice A ps.length cA] w fun e w' => e = .returned (.int .i64 (passesF zs ps)) ∧ Nx w w' := by
  have HX := hide hP.2
  have HR := hide hP.1
  have HF := hide (show passesF zs ps = chk (passE zs) none ps by unfold passesF; rw [if_neg (by omega)])
  have HCZ : Hid (∀ (s : ByteArray) (q : Nat) (W : World), Nx w W → W.cell? ⟨q, 0, none⟩ = some (.string s) → q < W.heap.size → Calls Tryz.prog 30 #[.slice D zs.length c, .func (.func 31) #[] #[.pointer (some ⟨q, 0, none⟩)]] W fun e w' => e = .returned (.bool (hasK zs s)) ∧ Nx W w') := hide (fun s q W hn hq hql => by
    have h := w_ContZ 31 (fun z => decide (z.key = s)) (.pointer (some ⟨q, 0, none⟩)) eg_pfz lo D c zs W (fun y W' hn' => w_pfz s y q W' (nx_cell hn' hql hq) (Nat.lt_of_lt_of_le hql hn'.sz)) (hZ.1.nx hn) (by omega)
    exact h)
  generalize hzn : zs.length = nz at *
  generalize hn : ps.length = n at *
  have HN := hide hn
  clear hP hn hZ hzn
  go_enter Tryz.func11, Tryz.ntmps11
  obtain ⟨w0, hw0e⟩ : ∃ w0, w0 = w := ⟨_, rfl⟩
  have HW0 := hide (show Nx w w0 from hw0e ▸ Nx.refl w)
  go_wp2_with fail
  rw [← hw0e]
  clear hw0e
  go_loopw [5, 6, 14] (fun _ _ i wr => ∃ k : Nat, k ≤ n ∧ i = .int .i64 k ∧ Nx w wr ∧ chk (passE zs) none ps = chk (passE zs) (prevOf ps k) (ps.drop k)) (fun _ _ i _ => n - (intOf i).toNat)
  case atStart => exact ⟨0, Nat.zero_le _, rfl, HW0.out, rfl⟩
  case round =>
    obtain ⟨k, hk, rfl, hbw, hq⟩ := hrel
    have HQ := hide hq
    clear hq
    by_cases hlt : k < n
    · have hlt' : k < ps.length := by have := HN.out; omega
      have HD := hide (chk_drop (passE zs) ps k hlt')
      obtain ⟨hRx, hSx, hLx, hK1, hK2⟩ := HX.out ps[k] (List.getElem_mem hlt')
      obtain ⟨b, off, rfl, _, hb, hbr, hc⟩ := HR.out.open_ hbw (by omega)
      have c0 : wr.cell? ⟨b, off + k * 7, none⟩ = some (.string ps[k].key) := hc k hlt' 0 _ rfl
      have c1 : wr.cell? ⟨b, off + k * 7 + 1, none⟩ = some (.string ps[k].rider) := hc k hlt' 1 _ rfl
      have c2 : wr.cell? ⟨b, off + k * 7 + 2, none⟩ = some (.int .i64 ps[k].from_) := hc k hlt' 2 _ rfl
      have c3 : wr.cell? ⟨b, off + k * 7 + 3, none⟩ = some (.int .i64 ps[k].to_) := hc k hlt' 3 _ rfl
      have c4 : wr.cell? ⟨b, off + k * 7 + 4, none⟩ = some (.slice ps[k].a ps[k].zones.length ps[k].sc) := hc k hlt' 4 _ rfl
      have c5 : wr.cell? ⟨b, off + k * 7 + 5, none⟩ = some (.int .i64 ps[k].pay) := hc k hlt' 5 _ rfl
      have c6 : wr.cell? ⟨b, off + k * 7 + 6, none⟩ = some (.int .i64 ps[k].most) := hc k hlt' 6 _ rfl
      have HPC := hide (fun h0 : 0 < k => (show wr.cell? ⟨b, off + (k - 1) * 7, none⟩ = some (.string (ps[k - 1]'(by omega)).key) from hc (k - 1) (by omega) 0 _ rfl))
      have HPV := hide (fun (h0 : 0 < k) (y : Pass) => afterX_pos h0 hlt' y)
      have HP0 := hide (fun (h0 : k = 0) (y : Pass) => (show afterX (prevOf ps k) y = false from by rw [h0]; rfl))
      clear hc
      generalize ps[k] = x at *
      obtain ⟨k1, k2, f2, f3, xa, cp, nds, f5, f6⟩ := x
      dsimp only at c0 c1 c2 c3 c4 c5 c6 hK1 hK2 hRx hSx hLx
      generalize prevOf ps k = pv at *
      have HVF := hide (fun (V : Int) (h : passE zs pv ⟨k1, k2, f2, f3, xa, cp, nds, f5, f6⟩ = V) (hv : V ≠ 0) => (show passesF zs ps = V from by rw [HF.out, HQ.out, HD.out, h, if_neg hv]))
      have HBW := hide hbw
      generalize hm : nds.length = m at *
      have HM := hide hm
      clear hm
      obtain ⟨bx, hbx⟩ : ∃ bx, bx = wr.heap.size := ⟨_, rfl⟩
      obtain ⟨wb, hwb⟩ : ∃ wb, wb = wr.alloc (.cells #[.string k1, .string k2, .int .i64 f2, .int .i64 f3, .slice xa m cp, .int .i64 f5, .int .i64 f6] 55 (0, 0)) := ⟨_, rfl⟩
      have HBB := hide (show wb.heap[bx]? = some (.cells #[.string k1, .string k2, .int .i64 f2, .int .i64 f3, .slice xa m cp, .int .i64 f5, .int .i64 f6] 55 (0, 0)) by rw [hwb, hbx]; exact heap_alloc_new wr _)
      have HNB := hide (show Nx wr wb from hwb ▸ (Nx.refl wr).alloc _)
      have hbxb := (Array.getElem?_eq_some_iff.1 HBB.out).1
      have hbb : b < wb.heap.size := by have := HNB.out.sz; omega
      have HP2 := hide (fun h0 : 0 < k => nx_cell HNB.out hbr (HPC.out h0))
      have HRX := hide hRx
      have HSX := hide hSx
      clear hRx hSx HPC
      go_upto_region 6 with fail
      rw [← hwb, ← hbx]
      clear hwb hbx c0 c1 c2 c3 c4 c5 c6
      have HCB := hide (fun (W : World) (hn : Nx wb W) (i : Nat) (v : Value) (hv : (#[.string k1, .string k2, .int .i64 f2, .int .i64 f3, .slice xa m cp, .int .i64 f5, .int .i64 f6] : Array Value)[i]? = some v) => (show W.cell? ⟨bx, i, none⟩ = some v from nx_cell hn hbxb ((cell_of_row wb bx i _ _ _ HBB.out).trans hv)))
      go_cut [19] (fun v wx => v = .bool (!(keyB k1 && keyB k2)) ∧ Nx wb wx)
      case first =>
        have a0 := HCB.out wb (Nx.refl _) 0 _ rfl
        have a1 := HCB.out wb (Nx.refl _) 1 _ rfl
        cases hkb : keyB k1
        · go_wp2_with (go_at_call 25; refine (w_KeyR k1 _ hK1).mono ?_; rw [hkb]; rintro e w1 ⟨rfl, hn1⟩)
          go_meet
          exact ⟨by rw [hkb]; rfl, hn1⟩
        · cases hkc : keyB k2
          all_goals
            (go_wp2_with (first
              | ((have h9 := HH1); clear h9; go_at_call 25; refine (w_KeyR k2 _ hK2).mono ?_; rw [hkc]; rintro e w2 ⟨rfl, hn2⟩)
              | (go_at_call 25; refine (w_KeyR k1 _ hK1).mono ?_; rw [hkb]; rintro e w1 ⟨rfl, hn1⟩; (have HH1 := hide hn1); (have a1' := HCB.out _ hn1 1 _ rfl); (have hb1 : bx < w1.heap.size := Nat.lt_of_lt_of_le hbxb hn1.sz)))
             go_meet
             exact ⟨by rw [hkb, hkc]; rfl, HH1.out.trans hn2⟩)
      case rest =>
      obtain ⟨rfl, hx⟩ := hcut
      obtain ⟨wd, hwd⟩ : ∃ wd, wd = wc := ⟨_, rfl⟩
      rw [← hwd] at hx ⊢
      have HXD := hide hx
      clear hwd hx hK1 hK2
      cases hkb : (keyB k1 && keyB k2)
      · have HE := hide (HVF.out 5 (passE_key hkb) (by decide))
        clear hkb
        go_wp2_with fail
        go_ret
        exact ⟨ret_int (by rw [HE.out]), HBW.out.trans (HNB.out.trans HXD.out)⟩
      have HKB := hide hkb
      clear hkb
      go_upto_region 8 with fail
      go_cut [30] (fun v wx => v = .bool (afterX pv ⟨k1, k2, f2, f3, xa, cp, nds, f5, f6⟩) ∧ Nx wb wx)
      case first =>
        have a0 := HCB.out wd HXD.out 0 _ rfl
        have hbd : bx < wd.heap.size := Nat.lt_of_lt_of_le hbxb HXD.out.sz
        by_cases hk0 : 0 < k
        · have qp := nx_cell HXD.out hbb (HP2.out hk0)
          have hpw := HPV.out hk0 ⟨k1, k2, f2, f3, xa, cp, nds, f5, f6⟩
          have hbd2 : b < wd.heap.size := Nat.lt_of_lt_of_le hbb HXD.out.sz
          generalize (ps[k - 1]'(by omega)).key = p0 at *
          have j1 : IntKind.i64.wrap ((k : Int) - 1) = (k : Int) - 1 := IntWalk.i64_in _ (by omega)
          have j2 : (1 : Int) ≤ (k : Int) := by omega
          have j3 : ((k : Int) - 1).toNat = k - 1 := by omega
          have j4 : (k : Int) - 1 < (n : Int) := by omega
          have kp : decide ((k : Int) > 0) = true := decide_eq_true (by omega)
          have HPW := hide (show afterX pv ⟨k1, k2, f2, f3, xa, cp, nds, f5, f6⟩ = (Op.bytesLess k1.toList p0.toList || k1.toList == p0.toList) from hpw)
          clear hpw
          go_quiet (fail)
          go_wp2
          go_meet
          exact ⟨by rw [HPW.out], HXD.out.trans ((Nx.refl _).drewN _)⟩
        · have hz := HP0.out (by omega) ⟨k1, k2, f2, f3, xa, cp, nds, f5, f6⟩
          have HZZ := hide hz
          clear hz
          have kp : decide ((k : Int) > 0) = false := decide_eq_false (by omega)
          have kp2 : ¬ (0 : Int) < (k : Int) := by omega
          go_quiet (fail)
          go_wp2
          go_meet
          exact ⟨by rw [HZZ.out], HXD.out.trans ((Nx.refl _).drewN _)⟩
      case rest =>
      obtain ⟨rfl, hx⟩ := hcut
      obtain ⟨wd2, hwd⟩ : ∃ wd2, wd2 = wc := ⟨_, rfl⟩
      rw [← hwd] at hx ⊢
      have HXE := hide hx
      clear hwd hx HXD HP2 HPV HP0
      cases haf : afterX pv ⟨k1, k2, f2, f3, xa, cp, nds, f5, f6⟩
      case true =>
        have HE := hide (HVF.out 7 (passE_after HKB.out haf) (by decide))
        clear haf
        go_wp2_with fail
        go_ret
        exact ⟨ret_int (by rw [HE.out]), HBW.out.trans (HNB.out.trans HXE.out)⟩
      have HAF := hide haf
      clear haf
      go_upto_region 10 with fail
      go_cut [44] (fun v wx => v = .bool (!winB f2 f3) ∧ Nx wb wx)
      case first =>
        have a2 := HCB.out wd2 HXE.out 2 _ rfl
        have a3 := HCB.out wd2 HXE.out 3 _ rfl
        have hwf : winF f2 f3 = (if winB f2 f3 then 0 else 1) := rfl
        cases hwn : winB f2 f3
        all_goals
          (rw [hwn] at hwf; simp at hwf
           go_wp2_with (go_at_call 29; refine (w_WinF f2 f3 _).mono ?_; rw [hwf]; rintro e w1 ⟨rfl, hn1⟩)
           go_meet
           exact ⟨by rw [hwn]; rfl, HXE.out.trans hn1⟩)
      case rest =>
      obtain ⟨rfl, hx⟩ := hcut
      obtain ⟨wd3, hwd⟩ : ∃ wd3, wd3 = wc := ⟨_, rfl⟩
      rw [← hwd] at hx ⊢
      have HXF := hide hx
      clear hwd hx HXE
      cases hwn : winB f2 f3
      case false =>
        have HE := hide (HVF.out 1 (passE_win HKB.out HAF.out hwn) (by decide))
        clear hwn
        go_wp2_with fail
        go_ret
        exact ⟨ret_int (by rw [HE.out]), HBW.out.trans (HNB.out.trans HXF.out)⟩
      have HWN := hide hwn
      clear hwn
      have HVZ := hide (fun (V : Int) (h : zonesK zs nds = V) (hv : V ≠ 0) => HVF.out V ((passE_zone HKB.out HAF.out HWN.out (by rw [h]; exact hv)).trans h) hv)
      have a4 := HCB.out wd3 HXF.out 4 _ rfl
      have HZK := hide (show zonesK zs nds = chk (zoneK zs) none nds from rfl)
      have hm2k : m ≤ 2000 := by have := HM.out; omega
      go_wp2_with fail
      go_loopw [7, 8, 52] (fun _ _ i wr => ∃ j : Nat, j ≤ m ∧ i = .int .i64 j ∧ Nx wb wr ∧ zonesK zs nds = chk (zoneK zs) (prevOf nds j) (nds.drop j)) (fun _ _ i _ => m - (intOf i).toNat)
      case atStart => exact ⟨0, Nat.zero_le _, rfl, HXF.out, rfl⟩
      case round =>
        clear a4
        obtain ⟨j, hj, rfl, hbz, hqz⟩ := hrel
        have HQZ := hide hqz
        have HBZ := hide hbz
        clear hqz hbz
        by_cases hltj : j < m
        · have hltj' : j < nds.length := by have := HM.out; omega
          have HDZ := hide (chk_drop (zoneK zs) nds j hltj')
          obtain ⟨b2, off2, rfl, _, hb2, hbr2, hc2⟩ := HRX.out.open_ ((HBW.out.trans HNB.out).trans HBZ.out) (by omega)
          have d0 : wr.cell? ⟨b2, off2 + j, none⟩ = some (.string nds[j]) := by have := hc2 j hltj' 0 _ rfl; simpa using this
          have HPD := hide (fun h0 : 0 < j => (show wr.cell? ⟨b2, off2 + (j - 1), none⟩ = some (.string (nds[j - 1]'(by omega))) from by have := hc2 (j - 1) (by omega) 0 _ rfl; simpa using this))
          have HBH := hide (fun (h0 : 0 < j) (s : ByteArray) => behB_pos h0 hltj' s)
          have HB0 := hide (fun (h0 : j = 0) (s : ByteArray) => (show behB (prevOf nds j) s = false from by rw [h0]; rfl))
          clear hc2
          generalize nds[j] = s at *
          generalize prevOf nds j = pz at *
          have HVS := hide (fun (V : Int) (h : zoneK zs pz s = V) (hv : V ≠ 0) => HVZ.out V (by rw [HQZ.out, HDZ.out, h, if_neg hv]) hv)
          obtain ⟨b9, hb9⟩ : ∃ b9, b9 = wr.heap.size := ⟨_, rfl⟩
          obtain ⟨w9, hw9⟩ : ∃ w9, w9 = wr.alloc (.cells #[.string s] 9 (0, 0)) := ⟨_, rfl⟩
          have HB9 := hide (show w9.heap[b9]? = some (.cells #[.string s] 9 (0, 0)) by rw [hw9, hb9]; exact heap_alloc_new wr _)
          have HN9 := hide (show Nx wr w9 from hw9 ▸ (Nx.refl wr).alloc _)
          have hb9l := (Array.getElem?_eq_some_iff.1 HB9.out).1
          go_upto_region 15 with fail
          rw [← hw9, ← hb9]
          clear hw9 hb9 d0
          have h90 : w9.cell? ⟨b9, 0, none⟩ = some (.string s) := cell_of_row w9 b9 0 _ _ _ HB9.out
          go_cut [57] (fun v wx => v = .bool (!hasK zs s) ∧ Nx w9 wx)
          case first =>
            go_wp2_with (go_at_call 30; refine (HCZ.out s b9 _ (((HBW.out.trans HNB.out).trans HBZ.out).trans HN9.out) h90 hb9l).mono ?_; rintro e w1 ⟨rfl, hn1⟩)
            go_meet
            exact ⟨rfl, hn1⟩
          case rest =>
          obtain ⟨rfl, hx⟩ := hcut
          obtain ⟨we, hwe⟩ : ∃ we, we = wc := ⟨_, rfl⟩
          rw [← hwe] at hx ⊢
          have HXG := hide hx
          clear hwe hx
          have HXH := hide (HBZ.out.trans (HN9.out.trans HXG.out))
          cases hhk : hasK zs s
          case false =>
            have HE := hide (HVS.out 8 (by unfold zoneK; rw [hhk]; rfl) (by decide))
            clear hhk
            go_wp2_with fail
            go_ret
            exact ⟨ret_int (by rw [HE.out]), HBW.out.trans (HNB.out.trans HXH.out)⟩
          have HHK := hide hhk
          clear hhk
          go_upto_region 17 with fail
          go_cut [62] (fun v wx => v = .bool (behB pz s) ∧ Nx wb wx)
          case first =>
            have h91 := nx_cell HXG.out hb9l h90
            have a4 := HCB.out we HXH.out 4 _ rfl
            have hb9e : b9 < we.heap.size := Nat.lt_of_lt_of_le hb9l HXG.out.sz
            have hbde : bx < we.heap.size := Nat.lt_of_lt_of_le hbxb HXH.out.sz
            by_cases hj0 : 0 < j
            · have qd := nx_cell (HN9.out.trans HXG.out) hbr2 (HPD.out hj0)
              have hbh := HBH.out hj0 s
              have hbe2 : b2 < we.heap.size := Nat.lt_of_lt_of_le hbr2 (HN9.out.trans HXG.out).sz
              generalize (nds[j - 1]'(by omega)) = p0 at *
              have j1 : IntKind.i64.wrap ((j : Int) - 1) = (j : Int) - 1 := IntWalk.i64_in _ (by omega)
              have j2 : (1 : Int) ≤ (j : Int) := by omega
              have j3 : ((j : Int) - 1).toNat = j - 1 := by omega
              have j4 : (j : Int) - 1 < (m : Int) := by omega
              have kp : decide ((j : Int) > 0) = true := decide_eq_true (by omega)
              have HPW := hide (show behB pz s = (Op.bytesLess s.toList p0.toList || s.toList == p0.toList) from hbh)
              clear hbh
              go_quiet (fail)
              go_wp2
              go_meet
              exact ⟨by rw [HPW.out], HXH.out.trans ((Nx.refl _).drewN _)⟩
            · have hz := HB0.out (by omega) s
              have HZZ := hide hz
              clear hz
              have kp : decide ((j : Int) > 0) = false := decide_eq_false (by omega)
              have kp2 : ¬ (0 : Int) < (j : Int) := by omega
              go_quiet (fail)
              go_wp2
              go_meet
              exact ⟨by rw [HZZ.out], HXH.out.trans ((Nx.refl _).drewN _)⟩
          case rest =>
          obtain ⟨rfl, hx⟩ := hcut
          obtain ⟨wf, hwf⟩ : ∃ wf, wf = wc := ⟨_, rfl⟩
          rw [← hwf] at hx ⊢
          have HXI := hide hx
          clear hwf hx HXG HXH HPD HBH HB0
          cases hbh : behB pz s
          · have HE := hide (show zoneK zs pz s = 0 by unfold zoneK; rw [HHK.out, hbh]; rfl)
            clear hbh
            go_wp2_with fail
            go_roundw
            case rel => exact ⟨j + 1, by omega, by go_num, HXI.out, by rw [HQZ.out, HDZ.out, if_pos HE.out]⟩
            case measure => simp [intOf]; omega
          · have HE := hide (HVS.out 7 (by unfold zoneK; rw [HHK.out, hbh]; rfl) (by decide))
            clear hbh
            go_wp2_with fail
            go_ret
            exact ⟨ret_int (by rw [HE.out]), HBW.out.trans (HNB.out.trans HXI.out)⟩
        · have ej : j = m := by omega
          subst ej
          have HZ0 := hide (show zonesK zs nds = 0 by rw [HQZ.out, List.drop_eq_nil_iff.2 (by have := HM.out; omega)]; rfl)
          clear HQZ HVZ hltj
          go_upto_region 20 with fail
          go_cut [85] (fun v wx => v = .bool (outB f5 0 100 || outB f6 0 1000000000) ∧ Nx wb wx)
          case first =>
            have a5 := HCB.out wr HBZ.out 5 _ rfl
            have a6 := HCB.out wr HBZ.out 6 _ rfl
            have hbde : bx < wr.heap.size := Nat.lt_of_lt_of_le hbxb HBZ.out.sz
            have i1 := inB_out f5 0 100
            have i2 := inB_out f6 0 1000000000
            cases o1 : outB f5 0 100
            · cases o2 : outB f6 0 1000000000
              all_goals
                (rw [o1] at i1; rw [o2] at i2
                 go_wp2_with (go_at_call 28; refine (w_in _ _ _ _).mono ?_; rintro e w' ⟨rfl, rfl⟩)
                 go_meet
                 exact ⟨by rw [o1, o2]; rfl, HBZ.out⟩)
            · rw [o1] at i1
              go_wp2_with (go_at_call 28; refine (w_in _ _ _ _).mono ?_; rintro e w' ⟨rfl, rfl⟩)
              go_meet
              exact ⟨by rw [o1]; rfl, HBZ.out⟩
          case rest =>
          obtain ⟨rfl, hx⟩ := hcut
          obtain ⟨wf, hwf⟩ : ∃ wf, wf = wc := ⟨_, rfl⟩
          rw [← hwf] at hx ⊢
          have HXI := hide hx
          clear hwf hx
          cases hpb : (outB f5 0 100 || outB f6 0 1000000000)
          · have HE := hide (show passE zs pv ⟨k1, k2, f2, f3, xa, cp, nds, f5, f6⟩ = 0 from passE_zero HKB.out HAF.out HWN.out HZ0.out hpb)
            clear hpb
            go_wp2_with fail
            go_roundw
            case rel => exact ⟨k + 1, by omega, by go_num, HBW.out.trans (HNB.out.trans HXI.out), by rw [HQ.out, HD.out, if_pos HE.out]⟩
            case measure => simp [intOf]; omega
          · have HE := hide (HVF.out 1 (passE_pay HKB.out HAF.out HWN.out HZ0.out hpb) (by decide))
            clear hpb
            go_wp2_with fail
            go_ret
            exact ⟨ret_int (by rw [HE.out]), HBW.out.trans (HNB.out.trans HXI.out)⟩
    · have ek : k = n := by omega
      subst ek
      have HE := hide (show chk (passE zs) (prevOf ps k) (ps.drop k) = 0 by rw [List.drop_eq_nil_iff.2 (by have := HN.out; omega)]; rfl)
      go_wp2_with fail
      go_ret
      exact ⟨ret_int (by rw [HF.out, HQ.out, HE.out]), hbw⟩
end Go.Proofs.YtncnmadiiaidfaaGreatDoor
