/- Zones: the program's check and the reference's. -/
import Derived.Test.YtncnmadiiaidfaaGreatDoorQG7
import Derived.Test.YtncnmadiiaidfaaGreatDoorQG0
import Derived.Test.YtncnmadiiaidfaaGreatDoorQG2
import Derived.Deep.DeepCutAuto
namespace Go.Proofs.YtncnmadiiaidfaaGreatDoor
open Go.RowKit Go.Maps

/-- Zones, their nodes each in a row of its own. -/
def RdZones (w : World) (lo : Nat) (A : Option Addr) (zs : List Zone) : Prop :=
  Rd w lo A 2 encZone zs ∧ ∀ x ∈ zs, Rd w lo x.a 1 encS x.nodes ∧ Small x.nodes ∧ x.nodes.length ≤ 400 ∧ x.key.size ≤ 1000000
theorem RdZones.nx {w w' : World} {lo : Nat} {A : Option Addr} {zs : List Zone} (h : RdZones w lo A zs) (hn : Nx w w') : RdZones w' lo A zs :=
  ⟨h.1.nx hn, fun x hx => ⟨(h.2 x hx).1.nx hn, (h.2 x hx).2⟩⟩
theorem law_strB : Keyed Tryz.prog 9 := string_keyed Tryz.underlying9
abbrev MpB (w : World) (b n : Nat) (S : List ByteArray) : Prop := MbI Tryz.prog 9 4 Value.string domS w b n (memB S)
theorem zeroBool (w : World) : (zeroValue 4).run Tryz.prog w = .ok (.bool false) w := by kernel_rfl
theorem memB_snoc (S : List ByteArray) (s : ByteArray) : (fun k' => if k' = s then true else memB S k') = memB (S ++ [s]) := by
  funext k'
  unfold memB
  rw [List.any_append]
  by_cases h : k' = s
  · subst h; simp
  · have : ¬ s = k' := fun e => h e.symm
    simp [h, this]
theorem MpB.snoc {w : World} {b n : Nat} {S : List ByteArray} {s : ByteArray} (h : MbI Tryz.prog 9 4 Value.string domS w b n (fun k' => if k' = s then true else memB S k')) : MpB w b n (S ++ [s]) := by
  rw [memB_snoc] at h; exact h
theorem w_KeyN (s : ByteArray) (w : World) (hs : s.size ≤ 1000000) : Calls Tryz.prog 90 #[.string s] w fun e w' => e = .returned (.bool (keyB s)) ∧ Nx w w' :=
  (w_Key s w hs).mono fun _ _ ⟨a, b⟩ => ⟨a, b ▸ Nx.refl _⟩
theorem zoneE_of {p : Option ByteArray} {z : Zone} (h : strF p z.key = 0) (hl : z.nodes.length ≤ 400) : zoneE p z = 0 := by
  unfold zoneE; rw [if_pos h, if_neg (by omega)]
theorem zoneE_no {p : Option ByteArray} {z : Zone} (h : strF p z.key ≠ 0) : zoneE p z = strF p z.key := by
  unfold zoneE; rw [if_neg h]
theorem nodeE_no {S : List ByteArray} {p : Option ByteArray} {s : ByteArray} (h : strF p s ≠ 0) : nodeE S p s = strF p s := by
  unfold nodeE; rw [if_neg h]
theorem nodeE_ok {S : List ByteArray} {p : Option ByteArray} {s : ByteArray} (h : strF p s = 0) : nodeE S p s = if memB S s = true then 6 else 0 := by
  unfold nodeE; rw [if_pos h]

set_option maxRecDepth 100000 in
set_option maxHeartbeats 4000000 in
theorem w_CheckZones (lo : Nat) (A : Option Addr) (c : Nat) (zs : List Zone) (w : World) (hR : RdZones w lo A zs) (hl : zs.length ≤ 100) :
    Calls Tryz.prog 108 #[.slice A zs.length c] w fun e w' => e = .returned (.int .i64 (zonesF zs)) ∧ Nx w w' := by
  have HX := hide hR.2
  have HR := hide hR.1
  have HF := hide (show zonesF zs = chkZ [] none zs by unfold zonesF; rw [if_neg (by omega)])
  generalize hn : zs.length = n at *
  have HN := hide hn
  clear hR hn
  have hmm := @run_makeMap Tryz.prog
  go_enter Tryz.func108, Tryz.ntmps108
  go_wp2_with fail
  clear hmm
  have HM0 := hide (MbI.made (P := Tryz.prog) (K := 9) (E := 4) (ek := Value.string) (dom := domS) w)
  go_loopw [14] (fun i wr => ∃ k : Nat, k ≤ n ∧ i = .int .i64 k ∧ Nx w wr ∧ MpB wr w.heap.size (400 * k) (seenZ zs k) ∧ chkZ [] none zs = chkZ (seenZ zs k) (prevZ zs k) (zs.drop k)) (fun i _ => n - (intOf i).toNat)
  case atStart => exact ⟨0, Nat.zero_le _, rfl, (Nx.refl _).alloc _, HM0.out, rfl⟩
  case round =>
    clear HM0
    obtain ⟨k, hk, rfl, hbw, hM, hq⟩ := hrel
    have HQ := hide hq
    clear hq
    by_cases hlt : k < n
    · have hlt' : k < zs.length := by have := HN.out; omega
      have HD := hide (chkZ_drop zs k hlt')
      have HSS := hide (seenZ_succ zs k hlt')
      obtain ⟨hRx, hSx, hLx, hKx⟩ := HX.out zs[k] (List.getElem_mem hlt')
      obtain ⟨b, off, rfl, _, hb, hbr, hc⟩ := HR.out.open_ hbw (by omega)
      have c0 : wr.cell? ⟨b, off + k * 2, none⟩ = some (.string zs[k].key) := hc k hlt' 0 _ rfl
      have c1 : wr.cell? ⟨b, off + k * 2 + 1, none⟩ = some (.slice zs[k].a zs[k].nodes.length zs[k].cap) := hc k hlt' 1 _ rfl
      have HPC := hide (fun h0 : 0 < k => (show wr.cell? ⟨b, off + (k - 1) * 2, none⟩ = some (.string (zs[k - 1]'(by omega)).key) from hc (k - 1) (by omega) 0 _ rfl))
      have HPV := hide (fun h0 : 0 < k => (show prevZ zs k = some (zs[k - 1]'(by omega)).key from by
        unfold prevZ
        rw [prevOf_pos _ k h0 (by rw [List.length_map]; omega)]; simp))
      have HP0 := hide (fun h0 : k = 0 => (show prevZ zs k = none from by rw [h0]; rfl))
      clear hc
      generalize zs[k] = x at *
      generalize x.a = xa at *
      generalize hr : x.nodes.length = r at *
      generalize hky : x.key = ky at *
      generalize seenZ zs k = S at *
      have hml := hM.lt
      have HRL := hide hr
      have HKY := hide hky
      have HRX := hide hRx
      have HSX := hide hSx
      have HBW := hide hbw
      have HM := hide hM
      clear hRx hSx hM hbw hr hky
      have tl : decide ((r : Int) > 500) = false := decide_eq_false (by omega)
      have tl2 : ¬ (500 : Int) < (r : Int) := by omega
      cases hkb : keyB ky
      · have HV := hide (show zoneE (prevZ zs k) x = 5 from by
          have e : strF (prevZ zs k) x.key = 5 := by unfold strF; rw [HKY.out, hkb]; rfl
          rw [zoneE_no (by rw [e]; decide), e])
        go_wp2_with (go_at_call 90; refine (w_KeyN _ _ hKx).mono ?_; rintro e w1 ⟨rfl, hn1⟩)
        go_ret
        exact ⟨ret_int (by rw [HF.out, HQ.out, HD.out, HV.out]; rfl), (HBW.out.alloc _).trans hn1⟩
      have HKB := hide hkb
      have hsz0 : (wr.alloc (.cells #[.string ky, .slice xa r x.cap] 61)).heap.size = wr.heap.size + 1 := by simp
      have g0 : (wr.alloc (.cells #[.string ky, .slice xa r x.cap] 61)).cell? ⟨wr.heap.size, 0, none⟩ = some (.string ky) := by go_simp
      have g1 : (wr.alloc (.cells #[.string ky, .slice xa r x.cap] 61)).cell? ⟨wr.heap.size, 1, none⟩ = some (.slice xa r x.cap) := by go_simp
      have HG := hide (And.intro g0 g1)
      clear g0 g1
      have HW : ∀ V : Int, Hid (strF (prevZ zs k) ky = V) → V ≠ 0 → Hid (zonesF zs = V) := fun V h hv => by
        have e := h.out
        rw [← HKY.out] at e
        exact hide (by rw [HF.out, HQ.out, HD.out, zoneE_no (by rw [e]; exact hv), e, if_neg hv])
      have HWF := hide HW
      clear HW
      by_cases hk0 : 0 < k
      · have HP2 := hide (HPC.out hk0)
        have HPW := hide (HPV.out hk0)
        have hkz : k - 1 < zs.length := by omega
        generalize (zs[k - 1]'(by omega)).key = p0 at *
        have k1 : IntKind.i64.wrap ((k : Int) - 1) = (k : Int) - 1 := IntWalk.i64_in _ (by omega)
        have k2 : (1 : Int) ≤ (k : Int) := by omega
        have k3 : ((k : Int) - 1).toNat = k - 1 := by omega
        have k4 : (k : Int) - 1 < (n : Int) := by omega
        have kp : decide ((k : Int) > 0) = true := decide_eq_true (by omega)
        cases ho : strLe ky p0
        · have t1 : (Op.bytesLess ky.toList p0.toList || ky.toList == p0.toList) = false := ho
          have HS0 := hide (show strF (prevZ zs k) ky = 0 from by rw [HPW.out]; unfold strF; rw [HKB.out, if_pos rfl]; simp [ho])
          clear ho
          go_wp2_with (first | (go_at_call 90; refine (w_KeyN _ _ hKx).mono ?_; rintro e w1 ⟨rfl, hn1⟩; (have q0 : w1.cell? ⟨wr.heap.size, 0, none⟩ = some (.string ky) := World.grownBy.cell (hn1.gr none) HG.out.1 (by simp)); (have q1 : w1.cell? ⟨wr.heap.size, 1, none⟩ = some (.slice xa r x.cap) := World.grownBy.cell (hn1.gr none) HG.out.2 (by simp)); (have q2 : w1.cell? ⟨b, off + (k - 1) * 2, none⟩ = some (.string p0) := World.grownBy.cell ((((Nx.refl wr).alloc _).trans hn1).gr none) HP2.out (by simp))))
          go_quiet (fail)
          clear q2
          have hnk : Nx wr (w1.drewN nq) := (((Nx.refl wr).alloc (.cells #[.string ky, .slice xa r x.cap] 61)).trans hn1).trans ((Nx.refl _).drewN _)
          have hq1k : (w1.drewN nq).cell? ⟨wr.heap.size, 1, none⟩ = some (.slice xa r x.cap) := q1
          have hsk : wr.heap.size < (w1.drewN nq).heap.size := by have := hn1.sz; simp at this ⊢; omega
          have HMK := hide (HM.out.nx hnk)
          have HQ1 := hide hq1k
          have HNK := hide (HBW.out.trans hnk)
          clear hq1k hnk q0 q1
          generalize w1.drewN nq = wk at *
          clear hn1 w1
          obtain ⟨wo, hwo⟩ : ∃ wo, wo = wr := ⟨_, rfl⟩
          subst hwo
          have q1k := HQ1.out
          go_wp2_with fail
          clear q1k
          go_loopw [46] (fun i wi => ∃ j : Nat, j ≤ r ∧ i = .int .i64 j ∧ Gr w.heap.size wk wi ∧ MpB wi w.heap.size (400 * k + j) (S ++ x.nodes.take j) ∧ chkN S none x.nodes = chkN (S ++ x.nodes.take j) (prevOf x.nodes j) (x.nodes.drop j)) (fun i _ => r - (intOf i).toNat)
          case atStart => exact ⟨0, Nat.zero_le _, rfl, Gr.refl _ _, by rw [List.take_zero, List.append_nil]; exact HMK.out, by rw [List.take_zero, List.append_nil]; rfl⟩
          case round =>
            clear HMK
            obtain ⟨j, hj, rfl, hgw, hM2, hq2⟩ := hrel
            have HQ2 := hide hq2
            have HM2 := hide hM2
            clear hq2 hM2
            have hszi := hgw.sz
            have hnxi : Nx w wr := HNK.out.grown hgw (fun i hi => by injection hi with hi; omega)
            have HZE := hide (show zoneE (prevZ zs k) x = 0 from zoneE_of (by rw [HKY.out]; exact HS0.out) (by rw [HRL.out]; exact hLx))
            by_cases hjl : j < r
            · have hjl' : j < x.nodes.length := by have := HRL.out; omega
              have c2 : wr.cell? ⟨wo.heap.size, 1, none⟩ = some (.slice xa r x.cap) := World.grownBy.cell (row := some w.heap.size) hgw HQ1.out (by simp; omega)
              obtain ⟨b2, off2, rfl, _, hb2, hbr2, hc2⟩ := HRX.out.open_ hnxi (by omega)
              have c4 : wr.cell? ⟨b2, off2 + j, none⟩ = some (.string x.nodes[j]) := by have := hc2 j hjl' 0 _ rfl; simpa using this
              have HC2 := hide (fun h0 : 0 < j => (show wr.cell? ⟨b2, off2 + (j - 1), none⟩ = some (.string (x.nodes[j - 1]'(by omega))) from by have := hc2 (j - 1) (by omega) 0 _ rfl; simpa using this))
              have HPV2 := hide (fun h0 : 0 < j => (prevOf_pos x.nodes j h0 (by omega)))
              have HP02 := hide (fun h0 : j = 0 => (show prevOf x.nodes j = none by rw [h0]; exact prevOf_zero _))
              have hsz := HSX.out.at j hjl'
              have hdk : domS x.nodes[j] := by unfold domS maxLen; omega
              have HD2 := hide (chkN_drop S x.nodes j hjl')
              have HTK := hide (show S ++ x.nodes.take (j + 1) = S ++ x.nodes.take j ++ [x.nodes[j]] by rw [List.take_succ_eq_append_getElem hjl', List.append_assoc])
              clear hc2
              generalize x.nodes[j] = nd at *
              generalize S ++ x.nodes.take j = S2 at *
              have hkm := keyS_mk Tryz.underlying9 hdk
              have HRV := hide (fun (V : Int) (h : Hid (nodeE S2 (prevOf x.nodes j) nd = V)) (hv : V ≠ 0) => hide (show zonesF zs = V by
                rw [HF.out, HQ.out, HD.out, if_pos HZE.out, HQ2.out, HD2.out, h.out, if_neg hv, if_neg hv]))
              cases hkb2 : keyB nd
              · have HE := HRV.out 5 (hide (by
                  have e : strF (prevOf x.nodes j) nd = 5 := by unfold strF; rw [hkb2]; rfl
                  rw [nodeE_no (by rw [e]; decide), e])) (by decide)
                go_wp2_with (go_at_call 90; refine (w_KeyN _ _ hsz).mono ?_; rintro e w1 ⟨rfl, hn1⟩)
                go_ret
                exact ⟨ret_int (by rw [HE.out]), hnxi.trans hn1⟩
              have HKB2 := hide hkb2
              by_cases hj0 : 0 < j
              · have c5 := HC2.out hj0
                have HPW2 := hide (HPV2.out hj0)
                generalize (x.nodes[j - 1]'(by omega)) = p2 at *
                have j1 : IntKind.i64.wrap ((j : Int) - 1) = (j : Int) - 1 := IntWalk.i64_in _ (by omega)
                have j2 : (1 : Int) ≤ (j : Int) := by omega
                have j3 : ((j : Int) - 1).toNat = j - 1 := by omega
                have j4 : (j : Int) - 1 < (r : Int) := by omega
                have jp : decide ((j : Int) > 0) = true := decide_eq_true (by omega)
                cases ho2 : strLe nd p2
                · have t2 : (Op.bytesLess nd.toList p2.toList || nd.toList == p2.toList) = false := ho2
                  have HS2 := hide (show strF (prevOf x.nodes j) nd = 0 from by rw [HPW2.out]; unfold strF; rw [HKB2.out, if_pos rfl]; simp [ho2])
                  clear ho2
                  cases hm : memB S2 nd
                  · have HN0 := hide (show nodeE S2 (prevOf x.nodes j) nd = 0 from by rw [nodeE_ok HS2.out, hm]; rfl)
                    go_wp2_with (first
                      | (go_at_call 90; refine (w_KeyN _ _ hsz).mono ?_; rintro e w1 ⟨rfl, hn1⟩; (have q1 : w1.cell? ⟨wo.heap.size, 1, none⟩ = some (.slice (some ⟨b2, off2, none⟩) r x.cap) := World.grownBy.cell (hn1.gr none) c2 (by simp)); (have q2 : w1.cell? ⟨b2, off2 + (j - 1), none⟩ = some (.string p2) := World.grownBy.cell (hn1.gr none) c5 (by simp)); (have hlk := (HM2.out.nx hn1).look law_strB Tryz.underlying71 Tryz.underlying4 (zeroBool _) hdk hkm))
                      | (at_mapUpdate; refine wpMbPut _ rfl _ _ _ _ rfl law_strB strV_inj Tryz.underlying71 Tryz.underlying4 w.heap.size (400 * k + j) (memB S2) rfl (HM2.out.nx hn1) (by unfold maxLen; omega) nd rfl _ hkm true rfl ?_; intro w5 hm5 hg5; (have HM5 := hide hm5); clear hm5))
                    go_roundw
                    case rel => exact ⟨j + 1, by omega, by go_num, (hgw.then_nx hn1).trans hg5, by rw [HTK.out]; exact (MpB.snoc HM5.out).mono (by omega), by rw [HQ2.out, HD2.out, if_pos HN0.out]⟩
                    case measure => simp [intOf]; omega
                  · have HE := HRV.out 6 (hide (by rw [nodeE_ok HS2.out, hm]; rfl)) (by decide)
                    go_wp2_with (first
                      | (go_at_call 90; refine (w_KeyN _ _ hsz).mono ?_; rintro e w1 ⟨rfl, hn1⟩; (have q1 : w1.cell? ⟨wo.heap.size, 1, none⟩ = some (.slice (some ⟨b2, off2, none⟩) r x.cap) := World.grownBy.cell (hn1.gr none) c2 (by simp)); (have q2 : w1.cell? ⟨b2, off2 + (j - 1), none⟩ = some (.string p2) := World.grownBy.cell (hn1.gr none) c5 (by simp)); (have hlk := (HM2.out.nx hn1).look law_strB Tryz.underlying71 Tryz.underlying4 (zeroBool _) hdk hkm)))
                    go_ret
                    exact ⟨ret_int (by rw [HE.out]), hnxi.trans hn1⟩
                · have t2 : (Op.bytesLess nd.toList p2.toList || nd.toList == p2.toList) = true := ho2
                  have HE := HRV.out 7 (hide (by
                    have e : strF (prevOf x.nodes j) nd = 7 := by rw [HPW2.out]; unfold strF; rw [HKB2.out, if_pos rfl]; simp [ho2]
                    rw [nodeE_no (by rw [e]; decide), e])) (by decide)
                  clear ho2
                  go_wp2_with (first
                    | (go_at_call 90; refine (w_KeyN _ _ hsz).mono ?_; rintro e w1 ⟨rfl, hn1⟩; (have q1 : w1.cell? ⟨wo.heap.size, 1, none⟩ = some (.slice (some ⟨b2, off2, none⟩) r x.cap) := World.grownBy.cell (hn1.gr none) c2 (by simp)); (have q2 : w1.cell? ⟨b2, off2 + (j - 1), none⟩ = some (.string p2) := World.grownBy.cell (hn1.gr none) c5 (by simp)); (have hlk := (HM2.out.nx hn1).look law_strB Tryz.underlying71 Tryz.underlying4 (zeroBool _) hdk hkm)))
                  go_ret
                  exact ⟨ret_int (by rw [HE.out]), hnxi.trans hn1⟩
              · have HS2 := hide (show strF (prevOf x.nodes j) nd = 0 from by rw [HP02.out (by omega)]; unfold strF; rw [HKB2.out]; rfl)
                have jp : decide ((j : Int) > 0) = false := decide_eq_false (by omega)
                have jp2 : ¬ (0 : Int) < (j : Int) := by omega
                cases hm : memB S2 nd
                · have HN0 := hide (show nodeE S2 (prevOf x.nodes j) nd = 0 from by rw [nodeE_ok HS2.out, hm]; rfl)
                  go_wp2_with (first
                    | (go_at_call 90; refine (w_KeyN _ _ hsz).mono ?_; rintro e w1 ⟨rfl, hn1⟩; (have q1 : w1.cell? ⟨wo.heap.size, 1, none⟩ = some (.slice (some ⟨b2, off2, none⟩) r x.cap) := World.grownBy.cell (hn1.gr none) c2 (by simp)); (have hlk := (HM2.out.nx hn1).look law_strB Tryz.underlying71 Tryz.underlying4 (zeroBool _) hdk hkm))
                    | (at_mapUpdate; refine wpMbPut _ rfl _ _ _ _ rfl law_strB strV_inj Tryz.underlying71 Tryz.underlying4 w.heap.size (400 * k + j) (memB S2) rfl (HM2.out.nx hn1) (by unfold maxLen; omega) nd rfl _ hkm true rfl ?_; intro w5 hm5 hg5; (have HM5 := hide hm5); clear hm5))
                  go_roundw
                  case rel => exact ⟨j + 1, by omega, by go_num, (hgw.then_nx hn1).trans hg5, by rw [HTK.out]; exact (MpB.snoc HM5.out).mono (by omega), by rw [HQ2.out, HD2.out, if_pos HN0.out]⟩
                  case measure => simp [intOf]; omega
                · have HE := HRV.out 6 (hide (by rw [nodeE_ok HS2.out, hm]; rfl)) (by decide)
                  go_wp2_with (first
                    | (go_at_call 90; refine (w_KeyN _ _ hsz).mono ?_; rintro e w1 ⟨rfl, hn1⟩; (have q1 : w1.cell? ⟨wo.heap.size, 1, none⟩ = some (.slice (some ⟨b2, off2, none⟩) r x.cap) := World.grownBy.cell (hn1.gr none) c2 (by simp)); (have hlk := (HM2.out.nx hn1).look law_strB Tryz.underlying71 Tryz.underlying4 (zeroBool _) hdk hkm)))
                  go_ret
                  exact ⟨ret_int (by rw [HE.out]), hnxi.trans hn1⟩
            · have ej : j = r := by omega
              subst ej
              have HDN := hide (show x.nodes.drop j = [] from List.drop_eq_nil_iff.2 (by have := HRL.out; omega))
              have HTN := hide (show x.nodes.take j = x.nodes from List.take_of_length_le (by have := HRL.out; omega))
              have HN0 := hide (show chkN S none x.nodes = 0 from by rw [HQ2.out, HDN.out]; rfl)
              go_wp2_with fail
              go_roundw
              case rel => exact ⟨k + 1, by omega, by go_num, hnxi, by rw [HSS.out, ← HTN.out]; exact HM2.out.mono (by omega), by rw [HQ.out, HD.out, if_pos HZE.out, if_pos HN0.out]⟩
              case measure => simp [intOf]; omega
        · have t1 : (Op.bytesLess ky.toList p0.toList || ky.toList == p0.toList) = true := ho
          have HS7 := HWF.out 7 (hide (show strF (prevZ zs k) ky = 7 from by rw [HPW.out]; unfold strF; rw [HKB.out, if_pos rfl]; simp [ho])) (by decide)
          clear ho
          go_wp2_with (first | (go_at_call 90; refine (w_KeyN _ _ hKx).mono ?_; rintro e w1 ⟨rfl, hn1⟩; (have q0 : w1.cell? ⟨wr.heap.size, 0, none⟩ = some (.string ky) := World.grownBy.cell (hn1.gr none) HG.out.1 (by simp)); (have q1 : w1.cell? ⟨wr.heap.size, 1, none⟩ = some (.slice xa r x.cap) := World.grownBy.cell (hn1.gr none) HG.out.2 (by simp)); (have q2 : w1.cell? ⟨b, off + (k - 1) * 2, none⟩ = some (.string p0) := World.grownBy.cell ((((Nx.refl wr).alloc _).trans hn1).gr none) HP2.out (by simp))))
          go_quiet (fail)
          go_wp2_with fail
          go_ret
          exact ⟨ret_int (by rw [HS7.out]), (HBW.out.alloc _).trans (hn1.trans ((Nx.refl _).drewN _))⟩
      · have HS0 := hide (show strF (prevZ zs k) ky = 0 from by rw [HP0.out (by omega)]; unfold strF; rw [HKB.out]; rfl)
        have kp : decide ((k : Int) > 0) = false := decide_eq_false (by omega)
        have kp2 : ¬ (0 : Int) < (k : Int) := by omega
        have kp3 : ¬ 0 < k := hk0
        go_wp2_with (first | (go_at_call 90; refine (w_KeyN _ _ hKx).mono ?_; rintro e w1 ⟨rfl, hn1⟩; (have q0 : w1.cell? ⟨wr.heap.size, 0, none⟩ = some (.string ky) := World.grownBy.cell (hn1.gr none) HG.out.1 (by simp)); (have q1 : w1.cell? ⟨wr.heap.size, 1, none⟩ = some (.slice xa r x.cap) := World.grownBy.cell (hn1.gr none) HG.out.2 (by simp))))
        go_quiet (fail)
        have hnk : Nx wr (w1.drewN nq) := (((Nx.refl wr).alloc (.cells #[.string ky, .slice xa r x.cap] 61)).trans hn1).trans ((Nx.refl _).drewN _)
        have hq1k : (w1.drewN nq).cell? ⟨wr.heap.size, 1, none⟩ = some (.slice xa r x.cap) := q1
        have hsk : wr.heap.size < (w1.drewN nq).heap.size := by have := hn1.sz; simp at this ⊢; omega
        have HMK := hide (HM.out.nx hnk)
        have HQ1 := hide hq1k
        have HNK := hide (HBW.out.trans hnk)
        clear hq1k hnk q0 q1
        generalize w1.drewN nq = wk at *
        clear hn1 w1
        obtain ⟨wo, hwo⟩ : ∃ wo, wo = wr := ⟨_, rfl⟩
        subst hwo
        have q1k := HQ1.out
        go_wp2_with fail
        clear q1k
        go_loopw [46] (fun i wi => ∃ j : Nat, j ≤ r ∧ i = .int .i64 j ∧ Gr w.heap.size wk wi ∧ MpB wi w.heap.size (400 * k + j) (S ++ x.nodes.take j) ∧ chkN S none x.nodes = chkN (S ++ x.nodes.take j) (prevOf x.nodes j) (x.nodes.drop j)) (fun i _ => r - (intOf i).toNat)
        case atStart => exact ⟨0, Nat.zero_le _, rfl, Gr.refl _ _, by rw [List.take_zero, List.append_nil]; exact HMK.out, by rw [List.take_zero, List.append_nil]; rfl⟩
        case round =>
          clear HMK
          obtain ⟨j, hj, rfl, hgw, hM2, hq2⟩ := hrel
          have HQ2 := hide hq2
          have HM2 := hide hM2
          clear hq2 hM2
          have hszi := hgw.sz
          have hnxi : Nx w wr := HNK.out.grown hgw (fun i hi => by injection hi with hi; omega)
          have HZE := hide (show zoneE (prevZ zs k) x = 0 from zoneE_of (by rw [HKY.out]; exact HS0.out) (by rw [HRL.out]; exact hLx))
          by_cases hjl : j < r
          · have hjl' : j < x.nodes.length := by have := HRL.out; omega
            have c2 : wr.cell? ⟨wo.heap.size, 1, none⟩ = some (.slice xa r x.cap) := World.grownBy.cell (row := some w.heap.size) hgw HQ1.out (by simp; omega)
            obtain ⟨b2, off2, rfl, _, hb2, hbr2, hc2⟩ := HRX.out.open_ hnxi (by omega)
            have c4 : wr.cell? ⟨b2, off2 + j, none⟩ = some (.string x.nodes[j]) := by have := hc2 j hjl' 0 _ rfl; simpa using this
            have HC2 := hide (fun h0 : 0 < j => (show wr.cell? ⟨b2, off2 + (j - 1), none⟩ = some (.string (x.nodes[j - 1]'(by omega))) from by have := hc2 (j - 1) (by omega) 0 _ rfl; simpa using this))
            have HPV2 := hide (fun h0 : 0 < j => (prevOf_pos x.nodes j h0 (by omega)))
            have HP02 := hide (fun h0 : j = 0 => (show prevOf x.nodes j = none by rw [h0]; exact prevOf_zero _))
            have hsz := HSX.out.at j hjl'
            have hdk : domS x.nodes[j] := by unfold domS maxLen; omega
            have HD2 := hide (chkN_drop S x.nodes j hjl')
            have HTK := hide (show S ++ x.nodes.take (j + 1) = S ++ x.nodes.take j ++ [x.nodes[j]] by rw [List.take_succ_eq_append_getElem hjl', List.append_assoc])
            clear hc2
            generalize x.nodes[j] = nd at *
            generalize S ++ x.nodes.take j = S2 at *
            have hkm := keyS_mk Tryz.underlying9 hdk
            have HRV := hide (fun (V : Int) (h : Hid (nodeE S2 (prevOf x.nodes j) nd = V)) (hv : V ≠ 0) => hide (show zonesF zs = V by
              rw [HF.out, HQ.out, HD.out, if_pos HZE.out, HQ2.out, HD2.out, h.out, if_neg hv, if_neg hv]))
            cases hkb2 : keyB nd
            · have HE := HRV.out 5 (hide (by
                have e : strF (prevOf x.nodes j) nd = 5 := by unfold strF; rw [hkb2]; rfl
                rw [nodeE_no (by rw [e]; decide), e])) (by decide)
              go_wp2_with (go_at_call 90; refine (w_KeyN _ _ hsz).mono ?_; rintro e w1 ⟨rfl, hn1⟩)
              go_ret
              exact ⟨ret_int (by rw [HE.out]), hnxi.trans hn1⟩
            have HKB2 := hide hkb2
            by_cases hj0 : 0 < j
            · have c5 := HC2.out hj0
              have HPW2 := hide (HPV2.out hj0)
              generalize (x.nodes[j - 1]'(by omega)) = p2 at *
              have j1 : IntKind.i64.wrap ((j : Int) - 1) = (j : Int) - 1 := IntWalk.i64_in _ (by omega)
              have j2 : (1 : Int) ≤ (j : Int) := by omega
              have j3 : ((j : Int) - 1).toNat = j - 1 := by omega
              have j4 : (j : Int) - 1 < (r : Int) := by omega
              have jp : decide ((j : Int) > 0) = true := decide_eq_true (by omega)
              cases ho2 : strLe nd p2
              · have t2 : (Op.bytesLess nd.toList p2.toList || nd.toList == p2.toList) = false := ho2
                have HS2 := hide (show strF (prevOf x.nodes j) nd = 0 from by rw [HPW2.out]; unfold strF; rw [HKB2.out, if_pos rfl]; simp [ho2])
                clear ho2
                cases hm : memB S2 nd
                · have HN0 := hide (show nodeE S2 (prevOf x.nodes j) nd = 0 from by rw [nodeE_ok HS2.out, hm]; rfl)
                  go_wp2_with (first
                    | (go_at_call 90; refine (w_KeyN _ _ hsz).mono ?_; rintro e w1 ⟨rfl, hn1⟩; (have q1 : w1.cell? ⟨wo.heap.size, 1, none⟩ = some (.slice (some ⟨b2, off2, none⟩) r x.cap) := World.grownBy.cell (hn1.gr none) c2 (by simp)); (have q2 : w1.cell? ⟨b2, off2 + (j - 1), none⟩ = some (.string p2) := World.grownBy.cell (hn1.gr none) c5 (by simp)); (have hlk := (HM2.out.nx hn1).look law_strB Tryz.underlying71 Tryz.underlying4 (zeroBool _) hdk hkm))
                    | (at_mapUpdate; refine wpMbPut _ rfl _ _ _ _ rfl law_strB strV_inj Tryz.underlying71 Tryz.underlying4 w.heap.size (400 * k + j) (memB S2) rfl (HM2.out.nx hn1) (by unfold maxLen; omega) nd rfl _ hkm true rfl ?_; intro w5 hm5 hg5; (have HM5 := hide hm5); clear hm5))
                  go_roundw
                  case rel => exact ⟨j + 1, by omega, by go_num, (hgw.then_nx hn1).trans hg5, by rw [HTK.out]; exact (MpB.snoc HM5.out).mono (by omega), by rw [HQ2.out, HD2.out, if_pos HN0.out]⟩
                  case measure => simp [intOf]; omega
                · have HE := HRV.out 6 (hide (by rw [nodeE_ok HS2.out, hm]; rfl)) (by decide)
                  go_wp2_with (first
                    | (go_at_call 90; refine (w_KeyN _ _ hsz).mono ?_; rintro e w1 ⟨rfl, hn1⟩; (have q1 : w1.cell? ⟨wo.heap.size, 1, none⟩ = some (.slice (some ⟨b2, off2, none⟩) r x.cap) := World.grownBy.cell (hn1.gr none) c2 (by simp)); (have q2 : w1.cell? ⟨b2, off2 + (j - 1), none⟩ = some (.string p2) := World.grownBy.cell (hn1.gr none) c5 (by simp)); (have hlk := (HM2.out.nx hn1).look law_strB Tryz.underlying71 Tryz.underlying4 (zeroBool _) hdk hkm)))
                  go_ret
                  exact ⟨ret_int (by rw [HE.out]), hnxi.trans hn1⟩
              · have t2 : (Op.bytesLess nd.toList p2.toList || nd.toList == p2.toList) = true := ho2
                have HE := HRV.out 7 (hide (by
                  have e : strF (prevOf x.nodes j) nd = 7 := by rw [HPW2.out]; unfold strF; rw [HKB2.out, if_pos rfl]; simp [ho2]
                  rw [nodeE_no (by rw [e]; decide), e])) (by decide)
                clear ho2
                go_wp2_with (first
                  | (go_at_call 90; refine (w_KeyN _ _ hsz).mono ?_; rintro e w1 ⟨rfl, hn1⟩; (have q1 : w1.cell? ⟨wo.heap.size, 1, none⟩ = some (.slice (some ⟨b2, off2, none⟩) r x.cap) := World.grownBy.cell (hn1.gr none) c2 (by simp)); (have q2 : w1.cell? ⟨b2, off2 + (j - 1), none⟩ = some (.string p2) := World.grownBy.cell (hn1.gr none) c5 (by simp)); (have hlk := (HM2.out.nx hn1).look law_strB Tryz.underlying71 Tryz.underlying4 (zeroBool _) hdk hkm)))
                go_ret
                exact ⟨ret_int (by rw [HE.out]), hnxi.trans hn1⟩
            · have HS2 := hide (show strF (prevOf x.nodes j) nd = 0 from by rw [HP02.out (by omega)]; unfold strF; rw [HKB2.out]; rfl)
              have jp : decide ((j : Int) > 0) = false := decide_eq_false (by omega)
              have jp2 : ¬ (0 : Int) < (j : Int) := by omega
              cases hm : memB S2 nd
              · have HN0 := hide (show nodeE S2 (prevOf x.nodes j) nd = 0 from by rw [nodeE_ok HS2.out, hm]; rfl)
                go_wp2_with (first
                  | (go_at_call 90; refine (w_KeyN _ _ hsz).mono ?_; rintro e w1 ⟨rfl, hn1⟩; (have q1 : w1.cell? ⟨wo.heap.size, 1, none⟩ = some (.slice (some ⟨b2, off2, none⟩) r x.cap) := World.grownBy.cell (hn1.gr none) c2 (by simp)); (have hlk := (HM2.out.nx hn1).look law_strB Tryz.underlying71 Tryz.underlying4 (zeroBool _) hdk hkm))
                  | (at_mapUpdate; refine wpMbPut _ rfl _ _ _ _ rfl law_strB strV_inj Tryz.underlying71 Tryz.underlying4 w.heap.size (400 * k + j) (memB S2) rfl (HM2.out.nx hn1) (by unfold maxLen; omega) nd rfl _ hkm true rfl ?_; intro w5 hm5 hg5; (have HM5 := hide hm5); clear hm5))
                go_roundw
                case rel => exact ⟨j + 1, by omega, by go_num, (hgw.then_nx hn1).trans hg5, by rw [HTK.out]; exact (MpB.snoc HM5.out).mono (by omega), by rw [HQ2.out, HD2.out, if_pos HN0.out]⟩
                case measure => simp [intOf]; omega
              · have HE := HRV.out 6 (hide (by rw [nodeE_ok HS2.out, hm]; rfl)) (by decide)
                go_wp2_with (first
                  | (go_at_call 90; refine (w_KeyN _ _ hsz).mono ?_; rintro e w1 ⟨rfl, hn1⟩; (have q1 : w1.cell? ⟨wo.heap.size, 1, none⟩ = some (.slice (some ⟨b2, off2, none⟩) r x.cap) := World.grownBy.cell (hn1.gr none) c2 (by simp)); (have hlk := (HM2.out.nx hn1).look law_strB Tryz.underlying71 Tryz.underlying4 (zeroBool _) hdk hkm)))
                go_ret
                exact ⟨ret_int (by rw [HE.out]), hnxi.trans hn1⟩
          · have ej : j = r := by omega
            subst ej
            have HDN := hide (show x.nodes.drop j = [] from List.drop_eq_nil_iff.2 (by have := HRL.out; omega))
            have HTN := hide (show x.nodes.take j = x.nodes from List.take_of_length_le (by have := HRL.out; omega))
            have HN0 := hide (show chkN S none x.nodes = 0 from by rw [HQ2.out, HDN.out]; rfl)
            go_wp2_with fail
            go_roundw
            case rel => exact ⟨k + 1, by omega, by go_num, hnxi, by rw [HSS.out, ← HTN.out]; exact HM2.out.mono (by omega), by rw [HQ.out, HD.out, if_pos HZE.out, if_pos HN0.out]⟩
            case measure => simp [intOf]; omega
    · have ek : k = n := by omega
      subst ek
      have HE := hide (show chkZ (seenZ zs k) (prevZ zs k) (zs.drop k) = 0 by rw [List.drop_eq_nil_iff.2 (by have := HN.out; omega)]; rfl)
      go_wp2_with fail
      go_ret
      exact ⟨ret_int (by rw [HF.out, HQ.out, HE.out]), hbw⟩

set_option maxRecDepth 100000 in
set_option maxHeartbeats 4000000 in
theorem w_ZonesFault (lo : Nat) (A : Option Addr) (c : Nat) (zs : List Zone) (w : World) (hR : RdZones w lo A zs) (hl : zs.length ≤ 100) :
    Calls Tryz.prog 9 #[.slice A zs.length c] w fun e w' => e = .returned (.int .i64 (zonesF zs)) ∧ Nx w w' := by
  have HX := hide hR.2
  have HR := hide hR.1
  have HF := hide (show zonesF zs = chkZ [] none zs by unfold zonesF; rw [if_neg (by omega)])
  generalize hn : zs.length = n at *
  have HN := hide hn
  clear hR hn
  have hmm := @run_makeMap Tryz.prog
  go_enter Tryz.func9, Tryz.ntmps9
  go_wp2_with fail
  clear hmm
  have HM0 := hide (MbI.made (P := Tryz.prog) (K := 9) (E := 4) (ek := Value.string) (dom := domS) w)
  go_loopw [14] (fun i wr => ∃ k : Nat, k ≤ n ∧ i = .int .i64 k ∧ Nx w wr ∧ MpB wr w.heap.size (400 * k) (seenZ zs k) ∧ chkZ [] none zs = chkZ (seenZ zs k) (prevZ zs k) (zs.drop k)) (fun i _ => n - (intOf i).toNat)
  case atStart => exact ⟨0, Nat.zero_le _, rfl, (Nx.refl _).alloc _, HM0.out, rfl⟩
  case round =>
    clear HM0
    obtain ⟨k, hk, rfl, hbw, hM, hq⟩ := hrel
    have HQ := hide hq
    clear hq
    by_cases hlt : k < n
    · have hlt' : k < zs.length := by have := HN.out; omega
      have HD := hide (chkZ_drop zs k hlt')
      have HSS := hide (seenZ_succ zs k hlt')
      obtain ⟨hRx, hSx, hLx, hKx⟩ := HX.out zs[k] (List.getElem_mem hlt')
      obtain ⟨b, off, rfl, _, hb, hbr, hc⟩ := HR.out.open_ hbw (by omega)
      have c0 : wr.cell? ⟨b, off + k * 2, none⟩ = some (.string zs[k].key) := hc k hlt' 0 _ rfl
      have c1 : wr.cell? ⟨b, off + k * 2 + 1, none⟩ = some (.slice zs[k].a zs[k].nodes.length zs[k].cap) := hc k hlt' 1 _ rfl
      have HPC := hide (fun h0 : 0 < k => (show wr.cell? ⟨b, off + (k - 1) * 2, none⟩ = some (.string (zs[k - 1]'(by omega)).key) from hc (k - 1) (by omega) 0 _ rfl))
      have HPV := hide (fun h0 : 0 < k => (show prevZ zs k = some (zs[k - 1]'(by omega)).key from by
        unfold prevZ
        rw [prevOf_pos _ k h0 (by rw [List.length_map]; omega)]; simp))
      have HP0 := hide (fun h0 : k = 0 => (show prevZ zs k = none from by rw [h0]; rfl))
      clear hc
      generalize zs[k] = x at *
      generalize x.a = xa at *
      generalize hr : x.nodes.length = r at *
      generalize hky : x.key = ky at *
      generalize seenZ zs k = S at *
      have hml := hM.lt
      have HRL := hide hr
      have HKY := hide hky
      have HRX := hide hRx
      have HSX := hide hSx
      have HBW := hide hbw
      have HM := hide hM
      clear hRx hSx hM hbw hr hky
      have tl : decide ((r : Int) > 500) = false := decide_eq_false (by omega)
      have tl2 : ¬ (500 : Int) < (r : Int) := by omega
      cases hkb : keyB ky
      · have HV := hide (show zoneE (prevZ zs k) x = 5 from by
          have e : strF (prevZ zs k) x.key = 5 := by unfold strF; rw [HKY.out, hkb]; rfl
          rw [zoneE_no (by rw [e]; decide), e])
        go_wp2_with (go_at_call 25; refine (w_KeyR _ _ hKx).mono ?_; rintro e w1 ⟨rfl, hn1⟩)
        go_ret
        exact ⟨ret_int (by rw [HF.out, HQ.out, HD.out, HV.out]; rfl), (HBW.out.alloc _).trans hn1⟩
      have HKB := hide hkb
      have hsz0 : (wr.alloc (.cells #[.string ky, .slice xa r x.cap] 61)).heap.size = wr.heap.size + 1 := by simp
      have g0 : (wr.alloc (.cells #[.string ky, .slice xa r x.cap] 61)).cell? ⟨wr.heap.size, 0, none⟩ = some (.string ky) := by go_simp
      have g1 : (wr.alloc (.cells #[.string ky, .slice xa r x.cap] 61)).cell? ⟨wr.heap.size, 1, none⟩ = some (.slice xa r x.cap) := by go_simp
      have HG := hide (And.intro g0 g1)
      clear g0 g1
      have HW : ∀ V : Int, Hid (strF (prevZ zs k) ky = V) → V ≠ 0 → Hid (zonesF zs = V) := fun V h hv => by
        have e := h.out
        rw [← HKY.out] at e
        exact hide (by rw [HF.out, HQ.out, HD.out, zoneE_no (by rw [e]; exact hv), e, if_neg hv])
      have HWF := hide HW
      clear HW
      by_cases hk0 : 0 < k
      · have HP2 := hide (HPC.out hk0)
        have HPW := hide (HPV.out hk0)
        have hkz : k - 1 < zs.length := by omega
        generalize (zs[k - 1]'(by omega)).key = p0 at *
        have k1 : IntKind.i64.wrap ((k : Int) - 1) = (k : Int) - 1 := IntWalk.i64_in _ (by omega)
        have k2 : (1 : Int) ≤ (k : Int) := by omega
        have k3 : ((k : Int) - 1).toNat = k - 1 := by omega
        have k4 : (k : Int) - 1 < (n : Int) := by omega
        have kp : decide ((k : Int) > 0) = true := decide_eq_true (by omega)
        cases ho : strLe ky p0
        · have t1 : (Op.bytesLess ky.toList p0.toList || ky.toList == p0.toList) = false := ho
          have HS0 := hide (show strF (prevZ zs k) ky = 0 from by rw [HPW.out]; unfold strF; rw [HKB.out, if_pos rfl]; simp [ho])
          clear ho
          go_wp2_with (first | (go_at_call 25; refine (w_KeyR _ _ hKx).mono ?_; rintro e w1 ⟨rfl, hn1⟩; (have q0 : w1.cell? ⟨wr.heap.size, 0, none⟩ = some (.string ky) := World.grownBy.cell (hn1.gr none) HG.out.1 (by simp)); (have q1 : w1.cell? ⟨wr.heap.size, 1, none⟩ = some (.slice xa r x.cap) := World.grownBy.cell (hn1.gr none) HG.out.2 (by simp)); (have q2 : w1.cell? ⟨b, off + (k - 1) * 2, none⟩ = some (.string p0) := World.grownBy.cell ((((Nx.refl wr).alloc _).trans hn1).gr none) HP2.out (by simp))))
          go_quiet (fail)
          clear q2
          have hnk : Nx wr (w1.drewN nq) := (((Nx.refl wr).alloc (.cells #[.string ky, .slice xa r x.cap] 61)).trans hn1).trans ((Nx.refl _).drewN _)
          have hq1k : (w1.drewN nq).cell? ⟨wr.heap.size, 1, none⟩ = some (.slice xa r x.cap) := q1
          have hsk : wr.heap.size < (w1.drewN nq).heap.size := by have := hn1.sz; simp at this ⊢; omega
          have HMK := hide (HM.out.nx hnk)
          have HQ1 := hide hq1k
          have HNK := hide (HBW.out.trans hnk)
          clear hq1k hnk q0 q1
          generalize w1.drewN nq = wk at *
          clear hn1 w1
          obtain ⟨wo, hwo⟩ : ∃ wo, wo = wr := ⟨_, rfl⟩
          subst hwo
          have q1k := HQ1.out
          go_wp2_with fail
          clear q1k
          go_loopw [46] (fun i wi => ∃ j : Nat, j ≤ r ∧ i = .int .i64 j ∧ Gr w.heap.size wk wi ∧ MpB wi w.heap.size (400 * k + j) (S ++ x.nodes.take j) ∧ chkN S none x.nodes = chkN (S ++ x.nodes.take j) (prevOf x.nodes j) (x.nodes.drop j)) (fun i _ => r - (intOf i).toNat)
          case atStart => exact ⟨0, Nat.zero_le _, rfl, Gr.refl _ _, by rw [List.take_zero, List.append_nil]; exact HMK.out, by rw [List.take_zero, List.append_nil]; rfl⟩
          case round =>
            clear HMK
            obtain ⟨j, hj, rfl, hgw, hM2, hq2⟩ := hrel
            have HQ2 := hide hq2
            have HM2 := hide hM2
            clear hq2 hM2
            have hszi := hgw.sz
            have hnxi : Nx w wr := HNK.out.grown hgw (fun i hi => by injection hi with hi; omega)
            have HZE := hide (show zoneE (prevZ zs k) x = 0 from zoneE_of (by rw [HKY.out]; exact HS0.out) (by rw [HRL.out]; exact hLx))
            by_cases hjl : j < r
            · have hjl' : j < x.nodes.length := by have := HRL.out; omega
              have c2 : wr.cell? ⟨wo.heap.size, 1, none⟩ = some (.slice xa r x.cap) := World.grownBy.cell (row := some w.heap.size) hgw HQ1.out (by simp; omega)
              obtain ⟨b2, off2, rfl, _, hb2, hbr2, hc2⟩ := HRX.out.open_ hnxi (by omega)
              have c4 : wr.cell? ⟨b2, off2 + j, none⟩ = some (.string x.nodes[j]) := by have := hc2 j hjl' 0 _ rfl; simpa using this
              have HC2 := hide (fun h0 : 0 < j => (show wr.cell? ⟨b2, off2 + (j - 1), none⟩ = some (.string (x.nodes[j - 1]'(by omega))) from by have := hc2 (j - 1) (by omega) 0 _ rfl; simpa using this))
              have HPV2 := hide (fun h0 : 0 < j => (prevOf_pos x.nodes j h0 (by omega)))
              have HP02 := hide (fun h0 : j = 0 => (show prevOf x.nodes j = none by rw [h0]; exact prevOf_zero _))
              have hsz := HSX.out.at j hjl'
              have hdk : domS x.nodes[j] := by unfold domS maxLen; omega
              have HD2 := hide (chkN_drop S x.nodes j hjl')
              have HTK := hide (show S ++ x.nodes.take (j + 1) = S ++ x.nodes.take j ++ [x.nodes[j]] by rw [List.take_succ_eq_append_getElem hjl', List.append_assoc])
              clear hc2
              generalize x.nodes[j] = nd at *
              generalize S ++ x.nodes.take j = S2 at *
              have hkm := keyS_mk Tryz.underlying9 hdk
              have HRV := hide (fun (V : Int) (h : Hid (nodeE S2 (prevOf x.nodes j) nd = V)) (hv : V ≠ 0) => hide (show zonesF zs = V by
                rw [HF.out, HQ.out, HD.out, if_pos HZE.out, HQ2.out, HD2.out, h.out, if_neg hv, if_neg hv]))
              cases hkb2 : keyB nd
              · have HE := HRV.out 5 (hide (by
                  have e : strF (prevOf x.nodes j) nd = 5 := by unfold strF; rw [hkb2]; rfl
                  rw [nodeE_no (by rw [e]; decide), e])) (by decide)
                go_wp2_with (go_at_call 25; refine (w_KeyR _ _ hsz).mono ?_; rintro e w1 ⟨rfl, hn1⟩)
                go_ret
                exact ⟨ret_int (by rw [HE.out]), hnxi.trans hn1⟩
              have HKB2 := hide hkb2
              by_cases hj0 : 0 < j
              · have c5 := HC2.out hj0
                have HPW2 := hide (HPV2.out hj0)
                generalize (x.nodes[j - 1]'(by omega)) = p2 at *
                have j1 : IntKind.i64.wrap ((j : Int) - 1) = (j : Int) - 1 := IntWalk.i64_in _ (by omega)
                have j2 : (1 : Int) ≤ (j : Int) := by omega
                have j3 : ((j : Int) - 1).toNat = j - 1 := by omega
                have j4 : (j : Int) - 1 < (r : Int) := by omega
                have jp : decide ((j : Int) > 0) = true := decide_eq_true (by omega)
                cases ho2 : strLe nd p2
                · have t2 : (Op.bytesLess nd.toList p2.toList || nd.toList == p2.toList) = false := ho2
                  have HS2 := hide (show strF (prevOf x.nodes j) nd = 0 from by rw [HPW2.out]; unfold strF; rw [HKB2.out, if_pos rfl]; simp [ho2])
                  clear ho2
                  cases hm : memB S2 nd
                  · have HN0 := hide (show nodeE S2 (prevOf x.nodes j) nd = 0 from by rw [nodeE_ok HS2.out, hm]; rfl)
                    go_wp2_with (first
                      | (go_at_call 25; refine (w_KeyR _ _ hsz).mono ?_; rintro e w1 ⟨rfl, hn1⟩; (have q1 : w1.cell? ⟨wo.heap.size, 1, none⟩ = some (.slice (some ⟨b2, off2, none⟩) r x.cap) := World.grownBy.cell (hn1.gr none) c2 (by simp)); (have q2 : w1.cell? ⟨b2, off2 + (j - 1), none⟩ = some (.string p2) := World.grownBy.cell (hn1.gr none) c5 (by simp)); (have hlk := (HM2.out.nx hn1).look law_strB Tryz.underlying71 Tryz.underlying4 (zeroBool _) hdk hkm))
                      | (at_mapUpdate; refine wpMbPut _ rfl _ _ _ _ rfl law_strB strV_inj Tryz.underlying71 Tryz.underlying4 w.heap.size (400 * k + j) (memB S2) rfl (HM2.out.nx hn1) (by unfold maxLen; omega) nd rfl _ hkm true rfl ?_; intro w5 hm5 hg5; (have HM5 := hide hm5); clear hm5))
                    go_roundw
                    case rel => exact ⟨j + 1, by omega, by go_num, (hgw.then_nx hn1).trans hg5, by rw [HTK.out]; exact (MpB.snoc HM5.out).mono (by omega), by rw [HQ2.out, HD2.out, if_pos HN0.out]⟩
                    case measure => simp [intOf]; omega
                  · have HE := HRV.out 6 (hide (by rw [nodeE_ok HS2.out, hm]; rfl)) (by decide)
                    go_wp2_with (first
                      | (go_at_call 25; refine (w_KeyR _ _ hsz).mono ?_; rintro e w1 ⟨rfl, hn1⟩; (have q1 : w1.cell? ⟨wo.heap.size, 1, none⟩ = some (.slice (some ⟨b2, off2, none⟩) r x.cap) := World.grownBy.cell (hn1.gr none) c2 (by simp)); (have q2 : w1.cell? ⟨b2, off2 + (j - 1), none⟩ = some (.string p2) := World.grownBy.cell (hn1.gr none) c5 (by simp)); (have hlk := (HM2.out.nx hn1).look law_strB Tryz.underlying71 Tryz.underlying4 (zeroBool _) hdk hkm)))
                    go_ret
                    exact ⟨ret_int (by rw [HE.out]), hnxi.trans hn1⟩
                · have t2 : (Op.bytesLess nd.toList p2.toList || nd.toList == p2.toList) = true := ho2
                  have HE := HRV.out 7 (hide (by
                    have e : strF (prevOf x.nodes j) nd = 7 := by rw [HPW2.out]; unfold strF; rw [HKB2.out, if_pos rfl]; simp [ho2]
                    rw [nodeE_no (by rw [e]; decide), e])) (by decide)
                  clear ho2
                  go_wp2_with (first
                    | (go_at_call 25; refine (w_KeyR _ _ hsz).mono ?_; rintro e w1 ⟨rfl, hn1⟩; (have q1 : w1.cell? ⟨wo.heap.size, 1, none⟩ = some (.slice (some ⟨b2, off2, none⟩) r x.cap) := World.grownBy.cell (hn1.gr none) c2 (by simp)); (have q2 : w1.cell? ⟨b2, off2 + (j - 1), none⟩ = some (.string p2) := World.grownBy.cell (hn1.gr none) c5 (by simp)); (have hlk := (HM2.out.nx hn1).look law_strB Tryz.underlying71 Tryz.underlying4 (zeroBool _) hdk hkm)))
                  go_ret
                  exact ⟨ret_int (by rw [HE.out]), hnxi.trans hn1⟩
              · have HS2 := hide (show strF (prevOf x.nodes j) nd = 0 from by rw [HP02.out (by omega)]; unfold strF; rw [HKB2.out]; rfl)
                have jp : decide ((j : Int) > 0) = false := decide_eq_false (by omega)
                have jp2 : ¬ (0 : Int) < (j : Int) := by omega
                cases hm : memB S2 nd
                · have HN0 := hide (show nodeE S2 (prevOf x.nodes j) nd = 0 from by rw [nodeE_ok HS2.out, hm]; rfl)
                  go_wp2_with (first
                    | (go_at_call 25; refine (w_KeyR _ _ hsz).mono ?_; rintro e w1 ⟨rfl, hn1⟩; (have q1 : w1.cell? ⟨wo.heap.size, 1, none⟩ = some (.slice (some ⟨b2, off2, none⟩) r x.cap) := World.grownBy.cell (hn1.gr none) c2 (by simp)); (have hlk := (HM2.out.nx hn1).look law_strB Tryz.underlying71 Tryz.underlying4 (zeroBool _) hdk hkm))
                    | (at_mapUpdate; refine wpMbPut _ rfl _ _ _ _ rfl law_strB strV_inj Tryz.underlying71 Tryz.underlying4 w.heap.size (400 * k + j) (memB S2) rfl (HM2.out.nx hn1) (by unfold maxLen; omega) nd rfl _ hkm true rfl ?_; intro w5 hm5 hg5; (have HM5 := hide hm5); clear hm5))
                  go_roundw
                  case rel => exact ⟨j + 1, by omega, by go_num, (hgw.then_nx hn1).trans hg5, by rw [HTK.out]; exact (MpB.snoc HM5.out).mono (by omega), by rw [HQ2.out, HD2.out, if_pos HN0.out]⟩
                  case measure => simp [intOf]; omega
                · have HE := HRV.out 6 (hide (by rw [nodeE_ok HS2.out, hm]; rfl)) (by decide)
                  go_wp2_with (first
                    | (go_at_call 25; refine (w_KeyR _ _ hsz).mono ?_; rintro e w1 ⟨rfl, hn1⟩; (have q1 : w1.cell? ⟨wo.heap.size, 1, none⟩ = some (.slice (some ⟨b2, off2, none⟩) r x.cap) := World.grownBy.cell (hn1.gr none) c2 (by simp)); (have hlk := (HM2.out.nx hn1).look law_strB Tryz.underlying71 Tryz.underlying4 (zeroBool _) hdk hkm)))
                  go_ret
                  exact ⟨ret_int (by rw [HE.out]), hnxi.trans hn1⟩
            · have ej : j = r := by omega
              subst ej
              have HDN := hide (show x.nodes.drop j = [] from List.drop_eq_nil_iff.2 (by have := HRL.out; omega))
              have HTN := hide (show x.nodes.take j = x.nodes from List.take_of_length_le (by have := HRL.out; omega))
              have HN0 := hide (show chkN S none x.nodes = 0 from by rw [HQ2.out, HDN.out]; rfl)
              go_wp2_with fail
              go_roundw
              case rel => exact ⟨k + 1, by omega, by go_num, hnxi, by rw [HSS.out, ← HTN.out]; exact HM2.out.mono (by omega), by rw [HQ.out, HD.out, if_pos HZE.out, if_pos HN0.out]⟩
              case measure => simp [intOf]; omega
        · have t1 : (Op.bytesLess ky.toList p0.toList || ky.toList == p0.toList) = true := ho
          have HS7 := HWF.out 7 (hide (show strF (prevZ zs k) ky = 7 from by rw [HPW.out]; unfold strF; rw [HKB.out, if_pos rfl]; simp [ho])) (by decide)
          clear ho
          go_wp2_with (first | (go_at_call 25; refine (w_KeyR _ _ hKx).mono ?_; rintro e w1 ⟨rfl, hn1⟩; (have q0 : w1.cell? ⟨wr.heap.size, 0, none⟩ = some (.string ky) := World.grownBy.cell (hn1.gr none) HG.out.1 (by simp)); (have q1 : w1.cell? ⟨wr.heap.size, 1, none⟩ = some (.slice xa r x.cap) := World.grownBy.cell (hn1.gr none) HG.out.2 (by simp)); (have q2 : w1.cell? ⟨b, off + (k - 1) * 2, none⟩ = some (.string p0) := World.grownBy.cell ((((Nx.refl wr).alloc _).trans hn1).gr none) HP2.out (by simp))))
          go_quiet (fail)
          go_wp2_with fail
          go_ret
          exact ⟨ret_int (by rw [HS7.out]), (HBW.out.alloc _).trans (hn1.trans ((Nx.refl _).drewN _))⟩
      · have HS0 := hide (show strF (prevZ zs k) ky = 0 from by rw [HP0.out (by omega)]; unfold strF; rw [HKB.out]; rfl)
        have kp : decide ((k : Int) > 0) = false := decide_eq_false (by omega)
        have kp2 : ¬ (0 : Int) < (k : Int) := by omega
        have kp3 : ¬ 0 < k := hk0
        go_wp2_with (first | (go_at_call 25; refine (w_KeyR _ _ hKx).mono ?_; rintro e w1 ⟨rfl, hn1⟩; (have q0 : w1.cell? ⟨wr.heap.size, 0, none⟩ = some (.string ky) := World.grownBy.cell (hn1.gr none) HG.out.1 (by simp)); (have q1 : w1.cell? ⟨wr.heap.size, 1, none⟩ = some (.slice xa r x.cap) := World.grownBy.cell (hn1.gr none) HG.out.2 (by simp))))
        go_quiet (fail)
        have hnk : Nx wr (w1.drewN nq) := (((Nx.refl wr).alloc (.cells #[.string ky, .slice xa r x.cap] 61)).trans hn1).trans ((Nx.refl _).drewN _)
        have hq1k : (w1.drewN nq).cell? ⟨wr.heap.size, 1, none⟩ = some (.slice xa r x.cap) := q1
        have hsk : wr.heap.size < (w1.drewN nq).heap.size := by have := hn1.sz; simp at this ⊢; omega
        have HMK := hide (HM.out.nx hnk)
        have HQ1 := hide hq1k
        have HNK := hide (HBW.out.trans hnk)
        clear hq1k hnk q0 q1
        generalize w1.drewN nq = wk at *
        clear hn1 w1
        obtain ⟨wo, hwo⟩ : ∃ wo, wo = wr := ⟨_, rfl⟩
        subst hwo
        have q1k := HQ1.out
        go_wp2_with fail
        clear q1k
        go_loopw [46] (fun i wi => ∃ j : Nat, j ≤ r ∧ i = .int .i64 j ∧ Gr w.heap.size wk wi ∧ MpB wi w.heap.size (400 * k + j) (S ++ x.nodes.take j) ∧ chkN S none x.nodes = chkN (S ++ x.nodes.take j) (prevOf x.nodes j) (x.nodes.drop j)) (fun i _ => r - (intOf i).toNat)
        case atStart => exact ⟨0, Nat.zero_le _, rfl, Gr.refl _ _, by rw [List.take_zero, List.append_nil]; exact HMK.out, by rw [List.take_zero, List.append_nil]; rfl⟩
        case round =>
          clear HMK
          obtain ⟨j, hj, rfl, hgw, hM2, hq2⟩ := hrel
          have HQ2 := hide hq2
          have HM2 := hide hM2
          clear hq2 hM2
          have hszi := hgw.sz
          have hnxi : Nx w wr := HNK.out.grown hgw (fun i hi => by injection hi with hi; omega)
          have HZE := hide (show zoneE (prevZ zs k) x = 0 from zoneE_of (by rw [HKY.out]; exact HS0.out) (by rw [HRL.out]; exact hLx))
          by_cases hjl : j < r
          · have hjl' : j < x.nodes.length := by have := HRL.out; omega
            have c2 : wr.cell? ⟨wo.heap.size, 1, none⟩ = some (.slice xa r x.cap) := World.grownBy.cell (row := some w.heap.size) hgw HQ1.out (by simp; omega)
            obtain ⟨b2, off2, rfl, _, hb2, hbr2, hc2⟩ := HRX.out.open_ hnxi (by omega)
            have c4 : wr.cell? ⟨b2, off2 + j, none⟩ = some (.string x.nodes[j]) := by have := hc2 j hjl' 0 _ rfl; simpa using this
            have HC2 := hide (fun h0 : 0 < j => (show wr.cell? ⟨b2, off2 + (j - 1), none⟩ = some (.string (x.nodes[j - 1]'(by omega))) from by have := hc2 (j - 1) (by omega) 0 _ rfl; simpa using this))
            have HPV2 := hide (fun h0 : 0 < j => (prevOf_pos x.nodes j h0 (by omega)))
            have HP02 := hide (fun h0 : j = 0 => (show prevOf x.nodes j = none by rw [h0]; exact prevOf_zero _))
            have hsz := HSX.out.at j hjl'
            have hdk : domS x.nodes[j] := by unfold domS maxLen; omega
            have HD2 := hide (chkN_drop S x.nodes j hjl')
            have HTK := hide (show S ++ x.nodes.take (j + 1) = S ++ x.nodes.take j ++ [x.nodes[j]] by rw [List.take_succ_eq_append_getElem hjl', List.append_assoc])
            clear hc2
            generalize x.nodes[j] = nd at *
            generalize S ++ x.nodes.take j = S2 at *
            have hkm := keyS_mk Tryz.underlying9 hdk
            have HRV := hide (fun (V : Int) (h : Hid (nodeE S2 (prevOf x.nodes j) nd = V)) (hv : V ≠ 0) => hide (show zonesF zs = V by
              rw [HF.out, HQ.out, HD.out, if_pos HZE.out, HQ2.out, HD2.out, h.out, if_neg hv, if_neg hv]))
            cases hkb2 : keyB nd
            · have HE := HRV.out 5 (hide (by
                have e : strF (prevOf x.nodes j) nd = 5 := by unfold strF; rw [hkb2]; rfl
                rw [nodeE_no (by rw [e]; decide), e])) (by decide)
              go_wp2_with (go_at_call 25; refine (w_KeyR _ _ hsz).mono ?_; rintro e w1 ⟨rfl, hn1⟩)
              go_ret
              exact ⟨ret_int (by rw [HE.out]), hnxi.trans hn1⟩
            have HKB2 := hide hkb2
            by_cases hj0 : 0 < j
            · have c5 := HC2.out hj0
              have HPW2 := hide (HPV2.out hj0)
              generalize (x.nodes[j - 1]'(by omega)) = p2 at *
              have j1 : IntKind.i64.wrap ((j : Int) - 1) = (j : Int) - 1 := IntWalk.i64_in _ (by omega)
              have j2 : (1 : Int) ≤ (j : Int) := by omega
              have j3 : ((j : Int) - 1).toNat = j - 1 := by omega
              have j4 : (j : Int) - 1 < (r : Int) := by omega
              have jp : decide ((j : Int) > 0) = true := decide_eq_true (by omega)
              cases ho2 : strLe nd p2
              · have t2 : (Op.bytesLess nd.toList p2.toList || nd.toList == p2.toList) = false := ho2
                have HS2 := hide (show strF (prevOf x.nodes j) nd = 0 from by rw [HPW2.out]; unfold strF; rw [HKB2.out, if_pos rfl]; simp [ho2])
                clear ho2
                cases hm : memB S2 nd
                · have HN0 := hide (show nodeE S2 (prevOf x.nodes j) nd = 0 from by rw [nodeE_ok HS2.out, hm]; rfl)
                  go_wp2_with (first
                    | (go_at_call 25; refine (w_KeyR _ _ hsz).mono ?_; rintro e w1 ⟨rfl, hn1⟩; (have q1 : w1.cell? ⟨wo.heap.size, 1, none⟩ = some (.slice (some ⟨b2, off2, none⟩) r x.cap) := World.grownBy.cell (hn1.gr none) c2 (by simp)); (have q2 : w1.cell? ⟨b2, off2 + (j - 1), none⟩ = some (.string p2) := World.grownBy.cell (hn1.gr none) c5 (by simp)); (have hlk := (HM2.out.nx hn1).look law_strB Tryz.underlying71 Tryz.underlying4 (zeroBool _) hdk hkm))
                    | (at_mapUpdate; refine wpMbPut _ rfl _ _ _ _ rfl law_strB strV_inj Tryz.underlying71 Tryz.underlying4 w.heap.size (400 * k + j) (memB S2) rfl (HM2.out.nx hn1) (by unfold maxLen; omega) nd rfl _ hkm true rfl ?_; intro w5 hm5 hg5; (have HM5 := hide hm5); clear hm5))
                  go_roundw
                  case rel => exact ⟨j + 1, by omega, by go_num, (hgw.then_nx hn1).trans hg5, by rw [HTK.out]; exact (MpB.snoc HM5.out).mono (by omega), by rw [HQ2.out, HD2.out, if_pos HN0.out]⟩
                  case measure => simp [intOf]; omega
                · have HE := HRV.out 6 (hide (by rw [nodeE_ok HS2.out, hm]; rfl)) (by decide)
                  go_wp2_with (first
                    | (go_at_call 25; refine (w_KeyR _ _ hsz).mono ?_; rintro e w1 ⟨rfl, hn1⟩; (have q1 : w1.cell? ⟨wo.heap.size, 1, none⟩ = some (.slice (some ⟨b2, off2, none⟩) r x.cap) := World.grownBy.cell (hn1.gr none) c2 (by simp)); (have q2 : w1.cell? ⟨b2, off2 + (j - 1), none⟩ = some (.string p2) := World.grownBy.cell (hn1.gr none) c5 (by simp)); (have hlk := (HM2.out.nx hn1).look law_strB Tryz.underlying71 Tryz.underlying4 (zeroBool _) hdk hkm)))
                  go_ret
                  exact ⟨ret_int (by rw [HE.out]), hnxi.trans hn1⟩
              · have t2 : (Op.bytesLess nd.toList p2.toList || nd.toList == p2.toList) = true := ho2
                have HE := HRV.out 7 (hide (by
                  have e : strF (prevOf x.nodes j) nd = 7 := by rw [HPW2.out]; unfold strF; rw [HKB2.out, if_pos rfl]; simp [ho2]
                  rw [nodeE_no (by rw [e]; decide), e])) (by decide)
                clear ho2
                go_wp2_with (first
                  | (go_at_call 25; refine (w_KeyR _ _ hsz).mono ?_; rintro e w1 ⟨rfl, hn1⟩; (have q1 : w1.cell? ⟨wo.heap.size, 1, none⟩ = some (.slice (some ⟨b2, off2, none⟩) r x.cap) := World.grownBy.cell (hn1.gr none) c2 (by simp)); (have q2 : w1.cell? ⟨b2, off2 + (j - 1), none⟩ = some (.string p2) := World.grownBy.cell (hn1.gr none) c5 (by simp)); (have hlk := (HM2.out.nx hn1).look law_strB Tryz.underlying71 Tryz.underlying4 (zeroBool _) hdk hkm)))
                go_ret
                exact ⟨ret_int (by rw [HE.out]), hnxi.trans hn1⟩
            · have HS2 := hide (show strF (prevOf x.nodes j) nd = 0 from by rw [HP02.out (by omega)]; unfold strF; rw [HKB2.out]; rfl)
              have jp : decide ((j : Int) > 0) = false := decide_eq_false (by omega)
              have jp2 : ¬ (0 : Int) < (j : Int) := by omega
              cases hm : memB S2 nd
              · have HN0 := hide (show nodeE S2 (prevOf x.nodes j) nd = 0 from by rw [nodeE_ok HS2.out, hm]; rfl)
                go_wp2_with (first
                  | (go_at_call 25; refine (w_KeyR _ _ hsz).mono ?_; rintro e w1 ⟨rfl, hn1⟩; (have q1 : w1.cell? ⟨wo.heap.size, 1, none⟩ = some (.slice (some ⟨b2, off2, none⟩) r x.cap) := World.grownBy.cell (hn1.gr none) c2 (by simp)); (have hlk := (HM2.out.nx hn1).look law_strB Tryz.underlying71 Tryz.underlying4 (zeroBool _) hdk hkm))
                  | (at_mapUpdate; refine wpMbPut _ rfl _ _ _ _ rfl law_strB strV_inj Tryz.underlying71 Tryz.underlying4 w.heap.size (400 * k + j) (memB S2) rfl (HM2.out.nx hn1) (by unfold maxLen; omega) nd rfl _ hkm true rfl ?_; intro w5 hm5 hg5; (have HM5 := hide hm5); clear hm5))
                go_roundw
                case rel => exact ⟨j + 1, by omega, by go_num, (hgw.then_nx hn1).trans hg5, by rw [HTK.out]; exact (MpB.snoc HM5.out).mono (by omega), by rw [HQ2.out, HD2.out, if_pos HN0.out]⟩
                case measure => simp [intOf]; omega
              · have HE := HRV.out 6 (hide (by rw [nodeE_ok HS2.out, hm]; rfl)) (by decide)
                go_wp2_with (first
                  | (go_at_call 25; refine (w_KeyR _ _ hsz).mono ?_; rintro e w1 ⟨rfl, hn1⟩; (have q1 : w1.cell? ⟨wo.heap.size, 1, none⟩ = some (.slice (some ⟨b2, off2, none⟩) r x.cap) := World.grownBy.cell (hn1.gr none) c2 (by simp)); (have hlk := (HM2.out.nx hn1).look law_strB Tryz.underlying71 Tryz.underlying4 (zeroBool _) hdk hkm)))
                go_ret
                exact ⟨ret_int (by rw [HE.out]), hnxi.trans hn1⟩
          · have ej : j = r := by omega
            subst ej
            have HDN := hide (show x.nodes.drop j = [] from List.drop_eq_nil_iff.2 (by have := HRL.out; omega))
            have HTN := hide (show x.nodes.take j = x.nodes from List.take_of_length_le (by have := HRL.out; omega))
            have HN0 := hide (show chkN S none x.nodes = 0 from by rw [HQ2.out, HDN.out]; rfl)
            go_wp2_with fail
            go_roundw
            case rel => exact ⟨k + 1, by omega, by go_num, hnxi, by rw [HSS.out, ← HTN.out]; exact HM2.out.mono (by omega), by rw [HQ.out, HD.out, if_pos HZE.out, if_pos HN0.out]⟩
            case measure => simp [intOf]; omega
    · have ek : k = n := by omega
      subst ek
      have HE := hide (show chkZ (seenZ zs k) (prevZ zs k) (zs.drop k) = 0 by rw [List.drop_eq_nil_iff.2 (by have := HN.out; omega)]; rfl)
      go_wp2_with fail
      go_ret
      exact ⟨ret_int (by rw [HF.out, HQ.out, HE.out]), hbw⟩
end Go.Proofs.YtncnmadiiaidfaaGreatDoor
