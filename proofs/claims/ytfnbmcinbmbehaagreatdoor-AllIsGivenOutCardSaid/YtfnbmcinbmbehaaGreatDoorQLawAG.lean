/- jitkeep1.AllIsGivenOut returns true. -/
import Derived.Test.YtfnbmcinbmbehaaGreatDoorQG0
import Derived.Test.YtfnbmcinbmbehaaGreatDoorQByP
import Derived.Test.YtfnbmcinbmbehaaGreatDoorQLegsS
import Derived.Test.YtfnbmcinbmbehaaGreatDoorQG19
import Derived.Test.YtfnbmcinbmbehaaGreatDoorQG9
import Derived.Test.YtfnbmcinbmbehaaGreatDoorQFairP
import Derived.Test.YtfnbmcinbmbehaaGreatDoorQG22
import Derived.Test.YtfnbmcinbmbehaaGreatDoorQG30
import Derived.Deep.DeepCutAuto
namespace Go.Proofs.YtfnbmcinbmbehaaGreatDoor
open Go.RowKit Go.Sort Go.Shelf

theorem RdLegs.gr {s : Nat} {w w' : World} {lo : Nat} {A : Option Addr} {ls : List Leg} (h : RdLegs w lo A ls) (hn : Gr s w w') (hs : s < lo) : RdLegs w' lo A ls :=
  ⟨h.1.gr hn hs, fun x hx => ⟨(h.2 x hx).1.gr hn hs, (h.2 x hx).2⟩⟩

theorem sumDues_rest {ds : List Due} (h : ∀ d ∈ ds, -7680000000001 ≤ d.cents ∧ d.cents ≤ 7680000000001) (hl : ds.length ≤ 5) (k : Nat) : -38400000000005 ≤ sumDues ds - sumDues (ds.take k) ∧ sumDues ds - sumDues (ds.take k) ≤ 38400000000005 := by
  have e : sumDues ds = sumDues (ds.take k) + sumDues (ds.drop k) := by
    unfold sumDues; rw [← sumL_app, ← List.map_append, List.take_append_drop]
  have h2 := sumL_bd ((ds.drop k).map (·.cents)) (-7680000000001) 7680000000001 (fun z hz => by
    obtain ⟨x, hx, rfl⟩ := List.mem_map.1 hz
    exact h x (List.mem_of_mem_drop hx))
  rw [List.length_map, List.length_drop] at h2
  have h3 : sumDues (ds.drop k) = sumL ((ds.drop k).map (·.cents)) := rfl
  have h4 : ((ds.length - k : Nat) : Int) ≤ 5 := by omega
  omega

set_option maxRecDepth 100000 in
set_option maxHeartbeats 8000000 in
theorem w_lawAG (A : Option Addr) (n c : Nat) (w : World) (hn : n ≤ 9223372036854775807)
    (hL : 0 < n → ∃ b off, A = some ⟨b, off, none⟩ ∧ b < w.heap.size ∧ ∀ j, j < n → ∃ z : Int, w.cell? ⟨b, off + j, none⟩ = some (.int .i64 z) ∧ -9223372036854775808 ≤ z ∧ z ≤ 9223372036854775807) :
    Calls Tryz.prog 3 #[.slice A n c] w (TrueNx w) := by
  have hS0 : Str (w.alloc (.cells #[.slice A n c, .int .i64 0] 25)) w.heap.size 0 := str_new A n c w hn hL
  clear hL
  go_enter Tryz.func3, Tryz.ntmps3
  go_wp2_with fail
  refine (w_PickI _ [0, 1, 10, 101, 12345] _ _ _ _ (hS0.nx ((Nx.refl _).alloc _)) (by omega) (hnew (by simp)) (by simp) rfl (by simp) (by simp)).mono ?_
  rintro e w1 ⟨cents, hcents, rfl, hg1, hS1⟩
  have hg01 : Gr w.heap.size w w1 := (Gr.of_nx (((Nx.refl w).alloc _).alloc _)).trans hg1
  have hs1 := hS1.lt
  clear hS0 hg1
  go_wp2_with fail
  refine (w_Parts _ _ _ hS1 (by omega)).mono ?_
  rintro e w2 ⟨B, c2, ps, rfl, hpl, hP, hg2, hS2⟩
  have hg02 := hg01.trans hg2
  have hs2 := hS2.lt
  clear hg01 hg2 hS1
  go_wp2_with fail
  refine (w_Legs _ _ _ hS2 (by omega)).mono ?_
  rintro e w3 ⟨D, c3, ls, rfl, hll, hRL, hg3, hS3⟩
  have hg03 := hg02.trans hg3
  have hs3 := hS3.lt
  go_wp2_with fail
  refine (w_Costs _ _ _ hS3 (by omega)).mono ?_
  rintro e w4 ⟨E, c4, rs, F, c5, cs, rfl, hrl, hrs, hcs, hRR, hRC, hg4, hS4⟩
  have hn4 : Nx w w4 := Nx.of_gr (hg03.trans hg4) (Nat.le_refl _)
  have HP := hide (hP.gr (hg3.trans hg4) hs1)
  have HRL := hide (hRL.gr hg4 hs2)
  have HRR := hide hRR
  have HRC := hide hRC
  have HRS := hide hrs
  have hcb : 0 ≤ cents ∧ cents ≤ 12345 := by simp at hcents; omega
  have HN4 := hide hn4
  have HPL := hide (show ps.length < 20 by omega)
  have HLL := hide (show ls.length ≤ 100 by omega)
  have HL5 := hide hll
  have HRN := hide hrl
  have HCN := hide hcs
  clear hP hRL hRR hRC hrs hg3 hg4 hg03 hS2 hS3 hS4 hcents hs1 hs2 hs3 hpl hll hrl hcs hn4
  go_upto_if 43 with (go_at_call 8; refine (w_PartsFault _ _ _ _ _ _ HP.out HPL.out).mono ?_; rintro e w5 ⟨rfl, rfl⟩)
  go_cut [] (fun wx => Nx w4 wx)
  case first =>
    by_cases h0 : partsF cents ps = 0
    · have t1 : (partsF cents ps == 0) = true := by rw [h0]; rfl
      have t3 : (partsF cents ps != 0) = false := by rw [h0]; rfl
      go_wp2_with (go_at_call 9; refine (w_Divide _ _ _ _ _ _ HP.out HPL.out).mono ?_; rintro e w5 ⟨A5, c5', zs, rfl, hz, hnz, hR5, hn5⟩; (have HZ := hide (hz h0)); (have HR5 := hide hR5); clear hz hnz hR5)
      obtain ⟨_, hpb, hps⟩ := partsF_bds h0
      have hD := divided_out hcb.1 (fun p hp => (hpb p hp).1) hps HZ.out
      have HD := hide hD
      have HT := hide (sumL_takeB fun i hi => (hD.each i hi).1)
      have hzl := hD.len
      have HP5 := hide (HP.out.nx hn5)
      have HN5 := hide hn5
      clear hD hpb hps HZ h0 t1 hn5
      generalize hn : zs.length = n at *
      have HN := hide hn
      have HK := hide hzl
      clear hn hzl
      go_loop [4, 11, 12, 52] (fun v _ _ i => ∃ k : Nat, k ≤ n ∧ i = .int .i64 k ∧ v = .int .i64 (cents - sumL (zs.take k))) (fun _ _ _ i => n - (intOf i).toNat)
      case atStart => exact ⟨0, Nat.zero_le _, rfl, by simp [sumL]⟩
      case round =>
        obtain ⟨k, hk, rfl, rfl⟩ := hrel
        have hn20 : n < 20 := by have := HPL.out; have := HK.out; omega
        by_cases hlt : k < n
        · have hl1 : k < zs.length := by have := HN.out; omega
          have hl2 : k < ps.length := by have := HK.out; omega
          have h5 := HT.out k
          have h6 := HT.out (k + 1)
          rw [HD.out.sum] at h5 h6
          rw [sumL_take zs k hl1] at h6
          have HS := hide (sumL_take zs k hl1)
          have hE := HD.out.each k hl1
          rw [List.getD_eq_getElem?_getD, List.getElem?_eq_getElem hl1, List.getD_eq_getElem?_getD, List.getElem?_eq_getElem hl2] at hE
          simp only [Option.getD_some] at hE
          obtain ⟨b, off, rfl, _, hb, _, hc⟩ := HR5.out.open_ (Nx.refl w5) (by omega)
          have c0 : w5.cell? ⟨b, off + k, none⟩ = some (.int .i64 zs[k]) := by have := hc k hl1 0 _ rfl; simpa using this
          clear hc
          obtain ⟨b', off', rfl, _, hb', _, hc'⟩ := HP5.out.open_ (Nx.refl w5) (by omega)
          have c1 : w5.cell? ⟨b', off' + k, none⟩ = some (.int .i64 ps[k]) := by have := hc' k hl2 0 _ rfl; simpa using this
          clear hc'
          generalize sumL (zs.take k) = s at *
          generalize zs[k] = x at *
          generalize ps[k] = p at *
          obtain ⟨hx0, hxp⟩ := hE
          have q1 : ¬ x < 0 := by omega
          by_cases hp0 : p = 0
          · have hx1 : x = 0 := hxp hp0
            subst hx1
            subst hp0
            clear hxp
            go_wp2_with fail
            go_round
            case rel => exact ⟨k + 1, by omega, by go_num, by rw [HS.out]; congr 1; omega⟩
            case measure => simp [intOf]; omega
          · clear hxp
            have q2 : (p == 0) = false := by simpa using hp0
            go_wp2_with fail
            go_round
            case rel => exact ⟨k + 1, by omega, by go_num, by rw [HS.out]; congr 1; omega⟩
            case measure => simp [intOf]; omega
        · have HK2 := hide (show cents - sumL (zs.take k) = 0 by rw [List.take_of_length_le (by have := HN.out; omega), HD.out.sum]; omega)
          rw [HK2.out]
          go_wp2_with fail
          go_meet
          exact HN5.out
    · have t1 : (partsF cents ps == 0) = false := by simpa using h0
      clear h0
      go_wp2_with fail
      go_meet
      exact Nx.refl _
  case rest =>
    clear HP HPL hcb
    have HRL5 := hide (HRL.out.nx hcut)
    have HNC := hide hcut
    clear hcut HRL
    go_upto_if 82 with (go_at_call 10; refine (w_LegsFault _ _ _ ls _ HRL5.out HLL.out).mono ?_; rintro e w5 ⟨rfl, hn5⟩)
    go_cut [] (fun wx => Nx w4 wx)
    case first =>
      clear HRR HRC HRS HN4 HRN HCN
      have HNC5 := hide (HNC.out.trans hn5)
      have HRL6 := hide (HRL5.out.nx hn5)
      clear hn5 HNC HRL5
      by_cases h0 : legsF ls = 0
      · have t1 : (legsF ls == 0) = true := by rw [h0]; rfl
        have t3 : (legsF ls != 0) = false := by rw [h0]; rfl
        go_wp2_with (go_at_call 11; refine (w_ByLegs _ _ _ ls _ HRL6.out HLL.out).mono ?_; rintro e w6 ⟨A6, c6, ys, rfl, hy, hny, hR6, hyl, hn6⟩; (have HY := hide (hy h0)); (have HR6 := hide hR6); clear hy hny hR6)
        have HO := hide (legs_out h0 HY.out)
        have HCB := hide (legs_bd h0)
        have HSL := hide (fun k => sumLegs_bd (legs_bd h0) k)
        have HSD := hide (fun k => sumDues_bd (dues_bd h0 HY.out) k)
        have HN6 := hide (HNC5.out.trans hn6)
        have HR5 := hide (HRL6.out.1.nx hn6)
        have hm5 := HL5.out
        clear h0 HY t1 hn6 HRL6 HNC5 HLL HL5
        generalize hm : ls.length = m at *
        generalize hn : ys.length = n at *
        have HM := hide hm
        have HN := hide hn
        clear hm hn
        go_loopw [15, 17, 90] (fun v _ i wr => ∃ k : Nat, k ≤ m ∧ i = .int .i64 k ∧ v = .int .i64 (sumLegs (ls.take k)) ∧ Nx w6 wr) (fun _ _ i _ => m - (intOf i).toNat)
        case atStart => exact ⟨0, Nat.zero_le _, rfl, rfl, Nx.refl _⟩
        case round =>
          obtain ⟨k, hk, rfl, rfl, hbw⟩ := hrel
          by_cases hlt : k < m
          · have hl1 : k < ls.length := by have := HM.out; omega
            have hs := HSL.out k
            have HS := hide (sumLegs_take ls k hl1)
            have hx := HCB.out ls[k] (List.getElem_mem hl1)
            obtain ⟨b, off, rfl, _, hb, hbr, hc⟩ := HR5.out.open_ hbw (by omega)
            have c0 : wr.cell? ⟨b, off + k * 2, none⟩ = some (.slice ls[k].a ls[k].rides.length ls[k].cap) := hc k hl1 0 _ rfl
            have c1 : wr.cell? ⟨b, off + k * 2 + 1, none⟩ = some (.int .i64 ls[k].cents) := hc k hl1 1 _ rfl
            clear hc
            generalize sumLegs (ls.take k) = s at *
            generalize ls[k] = x at *
            generalize x.cents = ct at *
            go_wp2_with fail
            go_round
            case rel => exact ⟨k + 1, by omega, by go_num, by rw [HS.out], hbw.alloc _⟩
            case measure => simp [intOf]; omega
          · have HK2 := hide (show sumLegs (ls.take k) = sumDues ys by rw [HO.out, List.take_of_length_le (by have := HM.out; omega)])
            rw [HK2.out]
            clear HK2
            have hT := HSL.out m
            rw [List.take_of_length_le (by have := HM.out; omega), ← HO.out] at hT
            obtain ⟨T, hTT⟩ : ∃ T, T = sumDues ys := ⟨_, rfl⟩
            rw [← hTT] at hT ⊢
            have HTT := hide hTT
            clear hTT
            go_wp2_with fail
            obtain ⟨wo, hwo⟩ : ∃ wo, wo = wr := ⟨_, rfl⟩
            rw [← hwo] at hbw ⊢
            clear hwo
            go_loopw [15, 19, 101] (fun v _ i wr => ∃ j : Nat, j ≤ n ∧ i = .int .i64 j ∧ v = .int .i64 (T - sumDues (ys.take j)) ∧ Nx w6 wr) (fun _ _ i _ => n - (intOf i).toNat)
            case atStart => exact ⟨0, Nat.zero_le _, rfl, by simp [sumDues, sumL], hbw⟩
            case round =>
              clear hbw
              obtain ⟨j, hj, rfl, rfl, hbw⟩ := hrel
              by_cases hlj : j < n
              · have hl1 : j < ys.length := by have := HN.out; omega
                have h5 := HSD.out j
                have h6 := HSD.out (j + 1)
                rw [← HTT.out] at h5 h6
                rw [sumDues_take ys j hl1] at h6
                have HS := hide (sumDues_take ys j hl1)
                obtain ⟨b, off, rfl, _, hb, hbr, hc⟩ := HR6.out.open_ hbw (by omega)
                have c0 : wr.cell? ⟨b, off + j * 2, none⟩ = some (.string ys[j].key) := hc j hl1 0 _ rfl
                have c1 : wr.cell? ⟨b, off + j * 2 + 1, none⟩ = some (.int .i64 ys[j].cents) := hc j hl1 1 _ rfl
                clear hc
                generalize sumDues (ys.take j) = s at *
                generalize ys[j] = x at *
                generalize x.cents = ct at *
                go_wp2_with fail
                go_round
                case rel => exact ⟨j + 1, by omega, by go_num, by rw [HS.out]; congr 1; omega, hbw.alloc _⟩
                case measure => simp [intOf]; omega
              · have HK3 := hide (show T - sumDues (ys.take j) = 0 by rw [HTT.out, List.take_of_length_le (by have := HN.out; omega)]; omega)
                rw [HK3.out]
                go_wp2_with fail
                go_meet
                exact HN6.out.trans hbw
      · have t1 : (legsF ls == 0) = false := by simpa using h0
        clear h0
        go_wp2_with fail
        go_meet
        exact HNC5.out
    case rest =>
      have HRR5 := hide (HRR.out.nx hcut)
      have HRC5 := hide (HRC.out.nx hcut)
      have HNC := hide (HN4.out.trans hcut)
      have HRN1 := hide (show rs.length ≤ 65536 by have := HRN.out; omega)
      have HCN1 := hide (show cs.length ≤ 65536 by have := HCN.out; omega)
      have HRN2 := hide (show rs.length ≤ 100 by have := HRN.out; omega)
      clear hcut HRR HRC HN4 HLL HL5 HRN
      by_cases h0 : fairF rs cs = 0
      · have t1 : (fairF rs cs == 0) = true := by rw [h0]; rfl
        have t3 : (fairF rs cs != 0) = false := by rw [h0]; rfl
        by_cases hp : 0 < rs.length
        · have HH0 := hide h0
          clear h0
          go_upto_region 32 with (first
            | (go_at_call 12; refine (w_FairFault _ _ _ _ _ _ rs cs _ HRR5.out HRS.out HRC5.out HRN1.out HCN1.out).mono ?_; rintro e w5 ⟨rfl, hn5⟩)
            | (go_at_call 13; refine (w_Fair _ _ _ _ _ _ rs cs _ (HRR5.out.nx hn5) HRS.out (HRC5.out.nx hn5) HRN2.out HCN.out).mono ?_; rintro e w6 ⟨A6, c6, ds, rfl, hy, hny, hR6, hn6⟩; (have HY := hide (hy HH0.out)); (have HR6 := hide hR6); clear hy hny hR6))
          have HO := hide (fair_out HCN.out HH0.out HY.out)
          have HN6 := hide ((HNC.out.trans hn5).trans hn6)
          have hR5 := (HRC5.out.nx hn5).nx hn6
          have hdl : ds.length ≤ 5 := by have := HO.out.len; have := HO.out.n5; omega
          have hcp : 0 < cs.length := by rw [HO.out.cl]; exact Nat.two_pow_pos _
          have hcn := HCN.out
          obtain ⟨b, off, rfl, _, hb, hbr, hc⟩ := hR5.open_ (Nx.refl w6) hcp
          have c0 : w6.cell? ⟨b, off + (cs.length - 1), none⟩ = some (.int .i64 (sumDues ds)) := by
            have h1 := hc (cs.length - 1) (by omega) 0 _ rfl
            rw [HO.out.sum, List.getD_eq_getElem?_getD, List.getElem?_eq_getElem (by omega), Option.getD_some]
            simpa using h1
          have HSD := hide (fun k => sumDues_rest HO.out.bd hdl k)
          have HDB := hide HO.out.bd
          clear hR5 hc hn5 hn6 HRC5 HRR5 HNC HH0 HY HCN HRN1 HCN1 HRN2 t1 HO
          generalize cs.length = N at *
          obtain ⟨q, rfl⟩ : ∃ q, N = q + 1 := ⟨N - 1, by omega⟩
          rw [Nat.add_sub_cancel] at c0
          generalize hn : ds.length = n at *
          have HN := hide hn
          clear hn
          have hT := HSD.out 0
          rw [List.take_zero] at hT
          have hT0 : sumDues [] = 0 := rfl
          rw [hT0, Int.sub_zero] at hT
          obtain ⟨T, hTT⟩ : ∃ T, T = sumDues ds := ⟨_, rfl⟩
          rw [← hTT] at hT c0
          have HTT := hide hTT
          clear hTT hT0
          go_wp2_with fail
          go_loopw [22, 24, 139] (fun v _ i wr => ∃ j : Nat, j ≤ n ∧ i = .int .i64 j ∧ v = .int .i64 (T - sumDues (ds.take j)) ∧ Nx w6 wr) (fun _ _ i _ => n - (intOf i).toNat)
          case atStart => exact ⟨0, Nat.zero_le _, rfl, by simp [sumDues, sumL], Nx.refl _⟩
          case round =>
            clear c0
            obtain ⟨j, hj, rfl, rfl, hbw⟩ := hrel
            by_cases hlj : j < n
            · have hl1 : j < ds.length := by have := HN.out; omega
              have h5 := HSD.out j
              have h6 := HSD.out (j + 1)
              rw [← HTT.out] at h5 h6
              rw [sumDues_take ds j hl1] at h6
              have HS := hide (sumDues_take ds j hl1)
              have hx := HDB.out ds[j] (List.getElem_mem hl1)
              obtain ⟨b2, off2, rfl, _, hb2, hbr2, hc⟩ := HR6.out.open_ hbw (by omega)
              have c0 : wr.cell? ⟨b2, off2 + j * 2, none⟩ = some (.string ds[j].key) := hc j hl1 0 _ rfl
              have c1 : wr.cell? ⟨b2, off2 + j * 2 + 1, none⟩ = some (.int .i64 ds[j].cents) := hc j hl1 1 _ rfl
              clear hc
              generalize sumDues (ds.take j) = s at *
              generalize ds[j] = x at *
              generalize x.cents = ct at *
              go_wp2_with fail
              go_round
              case rel => exact ⟨j + 1, by omega, by go_num, by rw [HS.out]; congr 1; omega, hbw.alloc _⟩
              case measure => simp [intOf]; omega
            · have HK3 := hide (show T - sumDues (ds.take j) = 0 by rw [HTT.out, List.take_of_length_le (by have := HN.out; omega)]; omega)
              rw [HK3.out]
              have HNW := hide (HN6.out.trans hbw)
              go_wp2_with (go_at_call 14; refine (w_ready _).mono ?_; rintro e w12 ⟨rfl, hn12⟩)
              go_ret
              exact ⟨rfl, HNW.out.trans hn12⟩
        · obtain rfl : rs = [] := List.length_eq_zero_iff.1 (by omega)
          have HFF := hide (w_FairFault _ _ _ _ c4 c5 [] cs _ HRR5.out HRS.out HRC5.out HRN1.out HCN1.out)
          rw [List.length_nil] at HFF ⊢
          clear h0 hp HRR5 HRS HRC5 HRN1 HCN1 HRN2 t3
          go_wp2_with (first
            | (go_at_call 12; refine HFF.out.mono ?_; rintro e w5 ⟨rfl, hn5⟩)
            | (go_at_call 14; refine (w_ready _).mono ?_; rintro e w12 ⟨rfl, hn12⟩))
          go_ret
          exact ⟨rfl, (HNC.out.trans hn5).trans hn12⟩
      · have t1 : (fairF rs cs == 0) = false := by simpa using h0
        clear h0
        go_wp2_with (first
          | (go_at_call 12; refine (w_FairFault _ _ _ _ _ _ rs cs _ HRR5.out HRS.out HRC5.out HRN1.out HCN1.out).mono ?_; rintro e w5 ⟨rfl, hn5⟩)
          | (go_at_call 14; refine (w_ready _).mono ?_; rintro e w12 ⟨rfl, hn12⟩))
        go_ret
        exact ⟨rfl, (HNC.out.trans hn5).trans hn12⟩
end Go.Proofs.YtfnbmcinbmbehaaGreatDoor
