/- What each rider pays for a day: the program's Bills. -/
import Derived.Test.YtncnmadiiaidfaaGreatDoorQG24
import Derived.Test.YtncnmadiiaidfaaGreatDoorQDues
import Derived.Deep.DeepCutAuto
namespace Go.Proofs.YtncnmadiiaidfaaGreatDoor
open Go.RowKit Go.Sort Go.Shelf Go.Maps

theorem costOf_bd {P : List Paid} (h : ∀ d ∈ P, 0 ≤ d.cents ∧ d.cents ≤ 1000000000) (r : ByteArray) : 0 ≤ costOf P r ∧ costOf P r ≤ 1000000000 := by
  unfold costOf
  cases hf : P.find? (fun d => decide (d.t.ride = r)) with
  | none => simp
  | some d => simpa using h d (List.mem_of_find?_eq_some hf)
theorem billK_step (P : List Paid) (day : Int) (l : List Jour) (k : Nat) (hk : k < l.length) : billK (billP P day (l.take (k + 1))) = if decide (dayJ l[k] = day) && decide (0 < costOf P l[k].ride) then addK (billK (billP P day (l.take k))) l[k].rider (costOf P l[k].ride) else billK (billP P day (l.take k)) := by
  rw [List.take_succ_eq_append_getElem hk, billP_snoc]
  by_cases h : (decide (dayJ l[k] = day) && decide (0 < costOf P l[k].ride)) = true
  · rw [if_pos h, if_pos h, billK_snoc]
  · rw [if_neg h, if_neg h, List.append_nil]
theorem billK_bd {P : List Paid} (h : ∀ d ∈ P, 0 ≤ d.cents ∧ d.cents ≤ 1000000000) (day : Int) (l : List Jour) : ∀ k, k ≤ l.length → BndK (billK (billP P day (l.take k))) (1000000000 * k)
  | 0, _ => fun s => by simp [billP, billK]
  | k + 1, hk => by
    have ih := billK_bd h day l k (by omega)
    rw [billK_step P day l k hk]
    have hc := costOf_bd h l[k].ride
    split
    · intro s
      have := ih.add l[k].rider hc.1 hc.2 s
      omega
    · intro s
      have := ih s
      omega
set_option maxRecDepth 100000 in
set_option maxHeartbeats 2000000 in
theorem w_BillsO (D X A : Option Addr) (c cx cl : Nat) (zs : List Zone) (p : Price) (xs : List Pass) (l : List Jour) (day : Int) (w : World) (hZ : RdZones w 0 D zs) (hzl : zs.length ≤ 100) (hk : p.key.size ≤ 1000000)
    (hX : RdPasses w 0 X xs) (hxl : xs.length ≤ 300) (hJ : RdJours w 0 A l) (hll : l.length ≤ 1000) (hF : faultB zs p xs l = 0) (h0 : outB day 0 4000 = false) :
    Calls Tryz.prog 16 #[.slice D zs.length c, aggP p, .slice X xs.length cx, .slice A l.length cl, .int .i64 day] w fun e w' => ∃ (O : List Jour) (R : Option Addr) (cR : Nat) (ys : List Due), IsOrd l O ∧ e = .returned (.tuple #[.slice R ys.length cR, .int .i64 0]) ∧ DuesOf (billK (billP (payAll zs p xs [] O) day l)) true ys ∧ Rd w' w.heap.size R 2 encDue ys ∧ ys.length ≤ 65536 ∧ Nx w w' := by
  have HFF := hide (fun W (hn : Nx w W) => w_faresFault D X A c cx cl zs p xs l W (hZ.nx hn) hzl hk (hX.nx hn) hxl (hJ.nx hn) hll)
  rw [hF] at HFF
  have HFS := hide (fun W (hn : Nx w W) => w_fares D X A c cx cl zs p xs l W (hZ.nx hn) hzl (faultB_zero hF).1 (faultB_zero hF).2.1 (hX.nx hn) hxl (faultB_zero hF).2.2.1 (hJ.nx hn) hll (faultB_zero hF).2.2.2.1 (faultB_zero hF).2.2.2.2)
  have HPB := hide (fun (O : List Jour) => payAll_bd (zs := zs) (xs := xs) (faultB_zero hF).2.1 (faultB_zero hF).2.2.1 O [] (fun d hd => by cases hd))
  have HJO := hide (faultB_zero hF).2.2.2.1
  have HJR := hide hJ.1
  have HJX := hide hJ.2
  obtain ⟨n, hn⟩ : ∃ n, n = l.length := ⟨_, rfl⟩
  rw [← hn] at HFF HFS hll ⊢
  have HN := hide hn
  clear hF hZ hzl hk hX hxl hJ hn
  obtain ⟨PA, hPA⟩ : ∃ PA : List Jour → List Paid, PA = fun O => payAll zs p xs [] O := ⟨_, rfl⟩
  have HPB2 : Hid (∀ O, ∀ d ∈ PA O, 0 ≤ d.cents ∧ d.cents ≤ 1000000000) := hide (by rw [hPA]; exact HPB.out)
  have e1 : ∀ O, payAll zs p xs [] O = PA O := fun O => by rw [hPA]
  have HFS2 : Hid (∀ W, Nx w W → Calls Tryz.prog 39 #[.slice D zs.length c, aggP p, .slice X xs.length cx, .slice A n cl] W fun e w' => ∃ (O : List Jour) (R : Option Addr) (cR : Nat), IsOrd l O ∧ e = .returned (.slice R n cR) ∧ Rd w' W.heap.size R 1 encI (l.map (fun t => costOf (PA O) t.ride)) ∧ Nx W w') := hide (by rw [hPA]; exact HFS.out)
  simp only [e1]
  clear HFS HPB e1 hPA
  generalize zs.length = nz at *
  generalize xs.length = nx at *
  have hmm := @run_makeMap Tryz.prog
  obtain ⟨k0, p1, p2, p3, p4, p5, p6, p7, p8, p9⟩ := p
  dsimp only [aggP] at *
  go_enter Tryz.func16, Tryz.ntmps16
  go_upto_region 6 with (first
    | (go_at_call 38; refine (HFF.out _ ((Nx.refl w).alloc _)).mono ?_; rintro e w1 ⟨rfl, hn1⟩; (have HN1 := hide hn1))
    | (go_at_call 40; refine (w_Out _ _ _ _).mono ?_; rw [h0]; rintro e w' ⟨rfl, rfl⟩))
  clear HFF
  obtain ⟨bm, hbm⟩ : ∃ bm, bm = w1.heap.size := ⟨_, rfl⟩
  obtain ⟨wm, hwm⟩ : ∃ wm, wm = w1.alloc (.map #[] 0) := ⟨_, rfl⟩
  have HNM := hide (show Nx (w.alloc (.cells #[.string k0, .int .i64 p1, .int .i64 p2, .int .i64 p3, .int .i64 p4, .int .i64 p5, .int .i64 p6, .int .i64 p7, .int .i64 p8, .int .i64 p9] 29)) wm from hwm ▸ HN1.out.alloc _)
  have hMM : MpK wm bm 0 (fun _ => none) := by rw [hwm, hbm]; exact MoI.made (P := Tryz.prog) (K := 9) (E := 3) (ek := Value.string) (dom := domS) w1
  have hbs : w.heap.size ≤ bm ∧ bm < wm.heap.size := by
    constructor
    · rw [hbm]; exact (((Nx.refl w).alloc _).trans HN1.out).sz
    · exact hMM.lt
  have q0 : wm.cell? ⟨w.heap.size, 0, none⟩ = some (.string k0) := nx_cell HNM.out (by simp) (by go_simp)
  have q1 : wm.cell? ⟨w.heap.size, 1, none⟩ = some (.int .i64 p1) := nx_cell HNM.out (by simp) (by go_simp)
  have q2 : wm.cell? ⟨w.heap.size, 2, none⟩ = some (.int .i64 p2) := nx_cell HNM.out (by simp) (by go_simp)
  have q3 : wm.cell? ⟨w.heap.size, 3, none⟩ = some (.int .i64 p3) := nx_cell HNM.out (by simp) (by go_simp)
  have q4 : wm.cell? ⟨w.heap.size, 4, none⟩ = some (.int .i64 p4) := nx_cell HNM.out (by simp) (by go_simp)
  have q5 : wm.cell? ⟨w.heap.size, 5, none⟩ = some (.int .i64 p5) := nx_cell HNM.out (by simp) (by go_simp)
  have q6 : wm.cell? ⟨w.heap.size, 6, none⟩ = some (.int .i64 p6) := nx_cell HNM.out (by simp) (by go_simp)
  have q7 : wm.cell? ⟨w.heap.size, 7, none⟩ = some (.int .i64 p7) := nx_cell HNM.out (by simp) (by go_simp)
  have q8 : wm.cell? ⟨w.heap.size, 8, none⟩ = some (.int .i64 p8) := nx_cell HNM.out (by simp) (by go_simp)
  have q9 : wm.cell? ⟨w.heap.size, 9, none⟩ = some (.int .i64 p9) := nx_cell HNM.out (by simp) (by go_simp)
  have HWM := hide (((Nx.refl w).alloc (.cells #[.string k0, .int .i64 p1, .int .i64 p2, .int .i64 p3, .int .i64 p4, .int .i64 p5, .int .i64 p6, .int .i64 p7, .int .i64 p8, .int .i64 p9] 29)).trans HNM.out)
  have HMM := hide hMM
  have HF1 := hide (HFS2.out wm HWM.out)
  clear HFS2 hMM
  go_upto_region 7 with fail
  try rw [← hwm]
  try rw [← hbm]
  clear hwm hbm hmm
  go_upto_region 8 with (go_at_call 39; refine HF1.out.mono ?_; rintro e w2 ⟨O, R, cR, hO, rfl, hR, hn2⟩)
  have HO := hide hO
  have HR := hide hR
  have HN2 := hide hn2
  have HW2 := hide (HWM.out.trans hn2)
  have HM2 := hide (HMM.out.nx hn2)
  obtain ⟨P, hP⟩ : ∃ P, P = PA O := ⟨_, rfl⟩
  have hPB := HPB2.out O
  rw [← hP] at hPB
  have HPBB := hide hPB
  have HPE := hide hP
  have HBS := hide (billK_step P day l)
  have HBD := hide (billK_bd hPB day l)
  obtain ⟨G, hG⟩ : ∃ G : Nat → ByteArray → Option Int, G = fun k => billK (billP P day (l.take k)) := ⟨_, rfl⟩
  have hG0 : G 0 = fun _ => none := by rw [hG]; rfl
  have HGS : Hid (∀ k (hk : k < l.length), G (k + 1) = if decide (dayJ l[k] = day) && decide (0 < costOf P l[k].ride) then addK (G k) l[k].rider (costOf P l[k].ride) else G k) := hide (by rw [hG]; exact HBS.out)
  have HGB : Hid (∀ k, k ≤ l.length → BndK (G k) (1000000000 * k)) := hide (by rw [hG]; exact HBD.out)
  have HGN := hide (show G n = billK (billP P day l) by rw [hG, HN.out]; simp)
  have HG0 := hide hG0
  clear hO hR hn2 hP hPB HBS HBD hG hG0 q0 q1 q2 q3 q4 q5 q6 q7 q8 q9 HF1
  go_loopw [14, 15, 16, 34] (fun _ _ _ i wr => ∃ k : Nat, k ≤ n ∧ i = .int .i64 k ∧ MpK wr bm k (G k) ∧ Gr bm w2 wr) (fun _ _ _ i _ => n - (intOf i).toNat)
  case atStart => exact ⟨0, Nat.zero_le _, rfl, by rw [HG0.out]; exact HM2.out, Gr.refl _ _⟩
  case round =>
    obtain ⟨k, hk, rfl, hM, hgr⟩ := hrel
    have hnw : Nx w wr := HW2.out.grown hgr (fun j hj => by injection hj with hj; omega)
    by_cases hlt : k < n
    · have hkl : k < l.length := by have := HN.out; omega
      obtain ⟨t, ht⟩ : ∃ t, t = l[k] := ⟨_, rfl⟩
      have htl : t ∈ l := ht ▸ List.getElem_mem hkl
      have hgs := HGS.out k hkl
      rw [← ht] at hgs
      obtain ⟨v, hv⟩ : ∃ v, v = costOf P t.ride := ⟨_, rfl⟩
      have hvb := costOf_bd HPBB.out t.ride
      rw [← hv] at hgs hvb
      have hR := HR.out
      rw [← HPE.out] at hR
      have hkr : k < (l.map (fun t => costOf P t.ride)).length := by simpa using hkl
      obtain ⟨br, off, rfl, _, hb, hbr, hc⟩ := (hR.gr hgr (by omega)).open_ (Nx.refl wr) (by omega)
      have c0 : wr.cell? ⟨br, off + k, none⟩ = some (.int .i64 v) := by have h := hc k hkr 0 _ rfl; simp only [List.getElem_map] at h; rw [← ht, ← hv] at h; simpa using h
      obtain ⟨bt, offt, rfl, _, hbt, hbtr, hct⟩ := HJR.out.open_ hnw (by omega)
      have e0 : wr.cell? ⟨bt, offt + k * 6, none⟩ = some (.string t.ride) := ht ▸ hct k hkl 0 _ rfl
      have e1 : wr.cell? ⟨bt, offt + k * 6 + 1, none⟩ = some (.string t.rider) := ht ▸ hct k hkl 1 _ rfl
      have e2 : wr.cell? ⟨bt, offt + k * 6 + 2, none⟩ = some (.slice t.a t.nodes.length t.cap) := ht ▸ hct k hkl 2 _ rfl
      have e3 : wr.cell? ⟨bt, offt + k * 6 + 3, none⟩ = some (.int .i64 t.metres) := ht ▸ hct k hkl 3 _ rfl
      have e4 : wr.cell? ⟨bt, offt + k * 6 + 4, none⟩ = some (.int .i64 t.from_) := ht ▸ hct k hkl 4 _ rfl
      have e5 : wr.cell? ⟨bt, offt + k * 6 + 5, none⟩ = some (.int .i64 t.to_) := ht ▸ hct k hkl 5 _ rfl
      have i1 : (0 : Int) ≤ (k : Int) := by omega
      have i2 : (k : Int) < (n : Int) := by omega
      have hjo := HJO.out t htl
      have f86 : (0 : Int) ≤ t.from_ ∧ t.from_ ≤ 9007199254740992 := ⟨by have := hjo.time; omega, by have := hjo.time; omega⟩
      obtain ⟨dj, hdj⟩ : ∃ dj, dj = dayJ t := ⟨_, rfl⟩
      have HDQ := hide (show t.from_ / 86400000 = dj by rw [hdj]; rfl)
      rw [← hdj] at hgs
      have hkd : domS t.rider := by have h := (HJX.out t htl).2.2.2.2; unfold domS maxLen; omega
      have hkm := keyS_mk Tryz.underlying9 hkd
      have hgb := HGB.out k (by omega) t.rider
      obtain ⟨v0, hv0⟩ : ∃ v0, v0 = (G k t.rider).getD 0 := ⟨_, rfl⟩
      have HL := hide ((hM.nx ((Nx.refl wr).alloc (.cells #[.string t.ride, .string t.rider, .slice t.a t.nodes.length t.cap, .int .i64 t.metres, .int .i64 t.from_, .int .i64 t.to_] 52))).look law_str Tryz.underlying101 Tryz.underlying3 (zeroIntK _) hkd hkm).1
      rw [← hv0] at HL hgb
      have HV0 := hide hv0
      have HGR := hide hgr
      have HGSK := hide hgs
      have HM := hide hM
      clear hgs hM hgr hR hc hct ht hv hjo hdj hv0 hkr hnw
      by_cases hd : dj = day
      · have t1 : (t.from_ / 86400000 == day) = true := by rw [HDQ.out]; simpa using hd
        by_cases hp : 0 < v
        · have HS2 := hide (show G (k + 1) = addK (G k) t.rider v by rw [HGSK.out, decide_eq_true hd, decide_eq_true hp]; rfl)
          have w3 : IntKind.i64.wrap (v0 + v) = v0 + v := IntWalk.i64_in _ (by omega)
          have hlk := HL.out
          clear hd HGSK
          go_wp2_with (at_mapUpdate; refine wpMoPut _ rfl _ _ _ _ rfl law_str strV_inj Tryz.underlying101 Tryz.underlying3 bm k (G k) rfl (HM.out.nx ((Nx.refl wr).alloc _)) (by unfold maxLen; omega) t.rider rfl hkd _ hkm (v0 + v) rfl (wf_i64o.2 ⟨by omega, by omega⟩) ?_; intro w5 hm5 hg5; (have HM5 := hide hm5); clear hm5)
          go_roundw
          case rel =>
            refine ⟨k + 1, by omega, by go_num, ?_, HGR.out.trans ((Gr.of_nx ((Nx.refl wr).alloc _)).trans hg5)⟩
            rw [HS2.out]
            have e : (fun k' => if k' = t.rider then some (v0 + v) else G k k') = addK (G k) t.rider v := by unfold addK; rw [HV0.out]
            rw [← e]
            exact HM5.out
          case measure => simp [intOf]; omega
        · have HS2 := hide (show G (k + 1) = G k by rw [HGSK.out, decide_eq_false hp]; simp)
          clear hd HGSK HL
          go_wp2_with fail
          go_roundw
          case rel => exact ⟨k + 1, by omega, by go_num, by rw [HS2.out]; exact (HM.out.nx ((Nx.refl wr).alloc _)).mono (by omega), HGR.out.then_nx ((Nx.refl wr).alloc _)⟩
          case measure => simp [intOf]; omega
      · have t1 : (t.from_ / 86400000 == day) = false := by rw [HDQ.out]; simpa using hd
        have HS2 := hide (show G (k + 1) = G k by rw [HGSK.out, decide_eq_false hd]; simp)
        clear hd HGSK HL
        go_wp2_with fail
        go_roundw
        case rel => exact ⟨k + 1, by omega, by go_num, by rw [HS2.out]; exact (HM.out.nx ((Nx.refl wr).alloc _)).mono (by omega), HGR.out.then_nx ((Nx.refl wr).alloc _)⟩
        case measure => simp [intOf]; omega
    · have ek : k = n := by omega
      subst ek
      have HD := hide (w_duesP bm k (G k) wr hM (by omega))
      have HNW := hide hnw
      clear hM hgr hnw
      go_wp2_with (go_at_call 41; refine HD.out.mono ?_; rintro e w9 ⟨A9, c9, ys, rfl, hys, hr9, hl9, hn9⟩)
      go_ret2
      exact ⟨O, A9, c9, ys, HO.out, rfl, by rw [← HPE.out, ← HGN.out]; exact hys, hr9.low HNW.out.sz, hl9, HNW.out.trans hn9⟩
end Go.Proofs.YtncnmadiiaidfaaGreatDoor
