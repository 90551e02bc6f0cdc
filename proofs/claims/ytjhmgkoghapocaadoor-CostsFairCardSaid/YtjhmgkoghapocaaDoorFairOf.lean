/- A whole shared fairly: the reference's walk. -/
import Derived.Test.YtjhmgkoghapocaaDoorFairR
namespace Go.Proofs.YtjhmgkoghapocaaDoor
open Go.RowKit Go.Sort Go.Proofs Go.Shelf

theorem shl_pow2 {n : Nat} (h : n ≤ 10) : IntKind.i64.wrap ((2 : Int) ^ n) = ((2 ^ n : Nat) : Int) := by
  have h1 := pow_bd h
  have e : ((2 : Int) ^ n) = ((2 ^ n : Nat) : Int) := by rw [Int.natCast_pow]; rfl
  rw [e]
  generalize 2 ^ n = P at *
  exact IntWalk.i64_in _ (by omega)
set_option maxRecDepth 100000 in
set_option maxHeartbeats 4000000 in
theorem w_FairOf (lo lo' : Nat) (A B : Option Addr) (c c' : Nat) (l : List ByteArray) (cs : List Int) (w : World) (hR : Rd w lo A 1 encS l) (hC : Rd w lo' B 1 encI cs) (hl : l.length ≤ 5) (h0 : fairF l cs = 0) :
    Calls Tryd.prog 10 #[.slice A l.length c, .slice B cs.length c'] w fun e w' => ∃ (A' : Option Addr) (c3 : Nat) (ds : List Due), e = .returned (.slice A' ds.length c3) ∧ FairR l cs ds ∧ Rd w' w.heap.size A' 2 encDue ds ∧ Nx w w' := by
  obtain ⟨_, hcl, hc0, hcb⟩ := fairF_right h0
  have HC := hide hC
  have HR := hide hR
  have HCB := hide hcb
  have HC0 := hide hc0
  have hp := pow_bd (n := l.length) (by omega)
  generalize hm : cs.length = m at *
  have HM := hide hm
  generalize hn : l.length = n at *
  have HN := hide hn
  have HCL := hide hcl
  rw [← hcl] at hp
  clear h0 hC hR hcb hc0 hm hn hcl
  go_enter Tryd.func10, Tryd.ntmps10
  go_wp2_with fail
  have hst := own_lit (w := w.alloc (.cells #[.int .i64 1] 3)) (e := 3) (g := w.heap.size) (n := 1) (m := 1) (base := w.heap.size) (xs := factL 1) encI_len (hnew rfl) (Nat.le_refl _) rfl rfl (Nat.le_refl _) (by unfold maxLen; omega)
  rw [List.take_of_length_le (by rw [factL_len]; omega)] at hst
  have HST := hide hst
  clear hst
  go_loopw [6, 7] (fun v i wr => ∃ k : Nat, 1 ≤ k ∧ k ≤ n + 1 ∧ i = .int .i64 k ∧ wr.ownsRow w.heap.size 3 1 v k ((factL k).flatMap encI) ∧ Nx w wr) (fun _ i _ => (n : Nat) + 1 - (intOf i).toNat)
  case atStart => exact ⟨1, by omega, by omega, rfl, HST.out, (Nx.refl _).alloc _⟩
  case round =>
    clear HST
    obtain ⟨k, hk1, hk, rfl, hown, hbw⟩ := hrel
    by_cases hlt : k ≤ n
    · rcases hown.2 with ⟨rfl, h0⟩ | ⟨g, cap, cur, rfl, hg, _⟩
      · omega
      have hsz := hbw.sz
      have c0 : wr.cell? ⟨g, k - 1, none⟩ = some (.int .i64 ((factN (k - 1) : Nat) : Int)) := by
        have := own_cell encI_len (factL_len k) hown (k - 1) (by rw [factL_len]; omega) 0 _ rfl
        rw [factL_get] at this
        simpa using this
      have hfb := fact_bd (k - 1) (by omega)
      have HSn := hide (show factL (k + 1) = factL k ++ [((factN (k - 1) * k : Nat) : Int)] by
        rw [factL_snoc]
        obtain ⟨j, rfl⟩ : ∃ j, k = j + 1 := ⟨k - 1, by omega⟩
        rfl)
      have hfb2 : factN (k - 1) * k ≤ 5040 * 7 := Nat.mul_le_mul hfb.2 (by omega)
      have e1 : ((factN (k - 1) * k : Nat) : Int) = ((factN (k - 1) : Nat) : Int) * (k : Int) := Int.natCast_mul _ _
      rw [e1] at HSn
      have hfb3 : ((factN (k - 1) : Nat) : Int) * (k : Int) ≤ 35280 := by rw [← e1]; omega
      have hfb4 : 0 ≤ ((factN (k - 1) : Nat) : Int) * (k : Int) := by rw [← e1]; omega
      clear e1 hfb2
      generalize factN (k - 1) = f at *
      have q1 : IntKind.i64.wrap ((k : Int) - 1) = (k : Int) - 1 := IntWalk.i64_in _ (by omega)
      have q2 : (1 : Int) ≤ (k : Int) := by omega
      have q3 : ((k : Int) - 1).toNat = k - 1 := by omega
      have q4 : (k : Int) - 1 < (k : Int) := by omega
      generalize hz : (f : Int) * (k : Int) = z at *
      have hown' : (wr.alloc (.cells #[.int .i64 z] 3)).ownsRow w.heap.size 3 1 (.slice (some ⟨g, 0, none⟩) k cap) (factL k).length ((factL k).flatMap encI) := by rw [factL_len]; exact hown.alloc _
      have HLB := hide (show (factL k).length ≤ 10000000 by rw [factL_len]; omega)
      have t1 : decide ((k : Int) ≤ (n : Int)) = true := decide_eq_true (by omega)
      go_wp2_with (at_builtin; refine wpApp rfl _ _ _ rfl el_Int encI encI_len encI_one (by omega) (by omega) w.heap.size _ (factL k) rfl hown' _ z _ rfl (hnew rfl) rfl HLB.out (by simp; omega) ?_; intro v2 w2 hown2 hg2)
      rw [List.length_append, factL_len, List.length_singleton, ← HSn.out] at hown2
      go_roundw
      case rel => exact ⟨k + 1, by omega, by omega, by go_num, hown2, (hbw.alloc _).grown hg2 (own_blk_lt hown)⟩
      case measure => simp [intOf]; omega
    · have ek : k = n + 1 := by omega
      subst ek
      clear hlt hk hk1
      obtain ⟨w1, hw1⟩ : ∃ w1, w1 = wr := ⟨_, rfl⟩
      subst hw1
      rcases hown.2 with ⟨rfl, h0⟩ | ⟨gf, capf, cur, rfl, hgf, _⟩
      · omega
      have hgl := (hown.lt _ rfl).2
      have HFC := hide (fun j (hj : j ≤ n) => (show w1.cell? ⟨gf, j, none⟩ = some (.int .i64 ((factN j : Nat) : Int)) from by
        have := own_cell encI_len (factL_len (n + 1)) hown j (by rw [factL_len]; omega) 0 _ rfl
        rw [factL_get] at this
        simpa using this))
      have hsz := hbw.sz
      have t1 : decide (((n + 1 : Nat) : Int) ≤ (n : Int)) = false := decide_eq_false (by omega)
      obtain ⟨Z, hZ⟩ : ∃ Z, Z = madeCells #[.int .i64 0] n := ⟨_, rfl⟩
      have hmk := fun w => run_make_ints n (by omega) w
      have HZ := hide (made_ints n)
      rw [← hZ] at hmk HZ
      clear hZ hown
      go_wp2_with fail
      clear hmk
      have h8 := own_made w1 n w1.heap.size (by omega) (Nat.le_refl _) HZ.out
      obtain ⟨NF, hNF⟩ : ∃ NF, NF = numsF n cs m := ⟨_, rfl⟩
      have hNFl : NF.length = n := by rw [hNF, numsF_len]
      have HNF := hide (fun i (hi : i < NF.length) => (show NF[i] = numTo n cs m i from by subst hNF; rw [numsF_get]))
      have HNL := hide hNFl
      have HNFD := hide hNF
      rw [show List.replicate n (0 : Int) = fillN NF 0 by rw [fillN_zero, hNFl]] at h8
      have H8 := hide h8
      clear h8 hNF hNFl HZ
      go_loopw [9, 10, 11, 12, 37] (fun _ _ _ _ i wr => ∃ k : Nat, k ≤ n ∧ i = .int .i64 k ∧ wr.ownsRow w1.heap.size 3 1 (.slice (some ⟨w1.heap.size, 0, none⟩) n n) n ((fillN NF k).flatMap encI) ∧ Nx w1 wr) (fun _ _ _ _ i _ => n - (intOf i).toNat)
      case atStart => exact ⟨0, Nat.zero_le _, rfl, H8.out, (Nx.refl _).alloc _⟩
      case round =>
        clear H8
        obtain ⟨i, hi, rfl, h8, hbr⟩ := hrel
        by_cases hlt : i < n
        · have hst0 : fillN NF i = (fillN NF i).set i (numTo n cs 0 i) := (set_self (by rw [fillN_len _ _ (by have := HNL.out; omega)]; have := HNL.out; omega) (fillN_at NF i (by have := HNL.out; omega))).symm
          rw [hst0] at h8
          have H8 := hide h8
          have HEN := hide (show (fillN NF i).set i (numTo n cs m i) = fillN NF (i + 1) by rw [← HNF.out i (by have := HNL.out; omega)]; exact fillN_set NF i (by have := HNL.out; omega))
          have HBL := hide (show (fillN NF i).length = n by rw [fillN_len _ _ (by have := HNL.out; omega)]; exact HNL.out)
          clear hst0 h8
          generalize fillN NF i = BF at *
          go_wp2_with fail
          go_loopw [10, 11, 12, 42] (fun _ _ _ gi wr => ∃ g : Nat, g ≤ m ∧ gi = .int .i64 g ∧ wr.ownsRow w1.heap.size 3 1 (.slice (some ⟨w1.heap.size, 0, none⟩) n n) n ((BF.set i (numTo n cs g i)).flatMap encI) ∧ Nx w1 wr) (fun _ _ _ gi _ => m - (intOf gi).toNat)
          case atStart => exact ⟨0, Nat.zero_le _, rfl, H8.out, hbr⟩
          case round =>
            clear H8 hbr
            obtain ⟨g, hg, rfl, h8, hbr⟩ := hrel
            by_cases hlg : g < m
            · have hg64 : g < 64 := by
                have h5 : 2 ^ n ≤ 2 ^ 5 := Nat.pow_le_pow_right (by omega) hl
                have := HCL.out
                omega
              have hmb := mod_bit g i
              have hmt := tmod_bit g i
              rcases bit_le g i with hbit | hbit
              · have HB := hide hbit
                rw [hbit] at hmb hmt
                have HTn := hide (show numTo n cs (g + 1) i = numTo n cs g i + (wN n g : Int) * (cs.getD (g + 2 ^ i) 0 - cs.getD g 0) by simp only [numTo, term]; rw [if_pos hbit])
                clear hbit
                go_wp2_with fail
                go_loop [11, 12, 51] (fun s _ ki => ∃ k : Nat, k ≤ n ∧ ki = .int .i64 k ∧ s = .int .i64 ((szN k g : Nat) : Int)) (fun _ _ ki => n - (intOf ki).toNat)
                case atStart => exact ⟨0, Nat.zero_le _, rfl, rfl⟩
                case round =>
                  obtain ⟨k, hk, rfl, rfl⟩ := hrel
                  have hsz4 := szN_le k g
                  by_cases hlk : k < n
                  · have hkb := mod_bit g k
                    have hkt := tmod_bit g k
                    have hbl := bit_le g k
                    have HSZ := hide (show szN (k + 1) g = szN k g + bitN g k from rfl)
                    generalize szN k g = s at *
                    generalize bitN g k = bk at *
                    go_wp2_with fail
                    go_round
                    case rel => exact ⟨k + 1, by omega, by go_num, by rw [HSZ.out]; go_num⟩
                    case measure => simp [intOf]; omega
                  · have ek : k = n := by omega
                    subst ek
                    have hs1 := szN_at k g i (by omega) hg64 hlt HB.out
                    have hW := wN_bd k g (by omega) hs1
                    have hWd : wN k g = factN (szN k g) * factN (k - 1 - szN k g) := rfl
                    have c1 := (Below.cell hbr (p := ⟨gf, _, none⟩) hgl).trans (HFC.out (szN k g) hsz4)
                    have c2 := (Below.cell hbr (p := ⟨gf, _, none⟩) hgl).trans (HFC.out (k - 1 - szN k g) (by omega))
                    have hgi : g + 2 ^ i < m := by
                      rw [HCL.out]
                      exact add_lt_small ⟨k, by omega⟩ ⟨g, hg64⟩ ⟨i, by omega⟩ (by have := HCL.out; show g < 2 ^ k; omega) hlt HB.out
                    obtain ⟨b, off, rfl, _, hb, hbr2, hc⟩ := (HC.out.nx hbw).open_ hbr (by have := HM.out; omega)
                    have c3 : wr.cell? ⟨b, off + (g + 2 ^ i), none⟩ = some (.int .i64 (cs.getD (g + 2 ^ i) 0)) := by
                      have := hc (g + 2 ^ i) (by have := HM.out; omega) 0 _ rfl
                      rw [getD_at (by have := HM.out; omega)]; simpa using this
                    have c4 : wr.cell? ⟨b, off + g, none⟩ = some (.int .i64 (cs.getD g 0)) := by
                      have := hc g (by have := HM.out; omega) 0 _ rfl
                      rw [getD_at (by have := HM.out; omega)]; simpa using this
                    clear hc
                    have hb3 := getD_bd HCB.out (g + 2 ^ i)
                    have hb4 := getD_bd HCB.out g
                    have hTb := numTo_bd k (by omega) cs HCB.out g i (by omega) hlt
                    have hBl : i < BF.length := by have := HBL.out; omega
                    have d8 : wr.cell? ⟨w1.heap.size, i, none⟩ = some (.int .i64 (numTo k cs g i)) := by
                      have := own_cell encI_len (by rw [List.length_set]; exact HBL.out) h8 i (by rw [List.length_set]; exact hBl) 0 _ rfl
                      rw [List.getElem_set_self] at this
                      simpa using this
                    have f8 : wr.frozen? ⟨w1.heap.size, i, none⟩ = false := h8.frozenAt _
                    have hpw := pow_bd (n := i) (by omega)
                    have hshl := shl_pow (n := i) (by omega)
                    have hshm := shl_pow2 (n := i) (by omega)
                    generalize cs.getD (g + 2 ^ i) 0 = a at *
                    generalize cs.getD g 0 = bb at *
                    generalize numTo k cs g i = T at *
                    generalize factN (szN k g) = f1 at *
                    have HWd := hide hWd
                    clear hWd
                    generalize szN k g = s at *
                    generalize factN (k - 1 - s) = f2 at *
                    generalize wN k g = W at *
                    generalize 2 ^ i = p2 at *
                    have HSH := hide hshl
                    have HSH2 := hide hshm
                    clear hshl hshm
                    go_wp2_with fail
                    obtain ⟨P, hP⟩ : ∃ P, P = (W : Int) * (a - bb) := ⟨_, rfl⟩
                    have hPb : -120000000000 ≤ P ∧ P ≤ 120000000000 := by
                      have h4 : (W : Int) * (a - bb) ≤ W * 1000000000 := Int.mul_le_mul_of_nonneg_left (by omega) (by omega)
                      have h5 : (W : Int) * (-1000000000) ≤ W * (a - bb) := Int.mul_le_mul_of_nonneg_left (by omega) (by omega)
                      omega
                    rw [← hP] at HTn
                    have EW1 := hide (show IntKind.i64.wrap ((k : Int) - 1) = (k : Int) - 1 from IntWalk.i64_in _ (by omega))
                    have EW2 := hide (show IntKind.i64.wrap ((k : Int) - 1 - (s : Int)) = (k : Int) - 1 - (s : Int) from IntWalk.i64_in _ (by omega))
                    have en2 : ((k : Int) - 1 - (s : Int)).toNat = k - 1 - s := by omega
                    have eb2' : (s : Int) ≤ (k : Int) - 1 := by omega
                    have eb2 : (0 : Int) ≤ (k : Int) - 1 - (s : Int) := by omega
                    have ec2 : (k : Int) - 1 - (s : Int) < ((k : Int) + 1) := by omega
                    have ed2 : (s : Int) < ((k : Int) + 1) := by omega
                    have ee2 : (i : Int) < (k : Int) := by omega
                    have EW3 := hide (show IntKind.i64.wrap ((f1 : Int) * (f2 : Int)) = (W : Int) from by rw [← Int.natCast_mul, ← HWd.out]; exact IntWalk.i64_in _ (by omega))
                    have EW5 := hide (show IntKind.i64.wrap ((g : Int) + (p2 : Int)) = (g : Int) + (p2 : Int) from IntWalk.i64_in _ (by omega))
                    have en5 : ((g : Int) + (p2 : Int)).toNat = g + p2 := by omega
                    have eb5 : (0 : Int) ≤ (g : Int) + (p2 : Int) := by omega
                    have ec5 : (g : Int) + (p2 : Int) < (m : Int) := by omega
                    have EW6 := hide (show IntKind.i64.wrap (a - bb) = a - bb from IntWalk.i64_in _ (by omega))
                    have EW7 := hide (show IntKind.i64.wrap ((W : Int) * (a - bb)) = P from by rw [← hP]; exact IntWalk.i64_in _ (by omega))
                    have EW8 := hide (show IntKind.i64.wrap (T + P) = T + P from IntWalk.i64_in _ (by omega))
                    have HP := hide hP
                    clear hP
                    have ew1 := EW1.out
                    have ew2 := EW2.out
                    have ew3 := EW3.out
                    have ew5 := EW5.out
                    have ew6 := EW6.out
                    have ew7 := EW7.out
                    have ew8 := EW8.out
                    have hshl2 := HSH2.out
                    have hshl := HSH.out
                    go_still_tail 31, (by kernel_rfl)
                    change wpList _ _ _ _ _ wr.drew
                    clear ew1 ew2 ew3 ew5 ew6 ew7 ew8 hshl hshl2
                    have h8s := own_set encI_len (by rw [List.length_set]; exact HBL.out) h8 i (by rw [List.length_set]; exact hBl) 0 (by omega) (.int .i64 (T + P)) (T + P) rfl i (by omega)
                    rw [List.set_set] at h8s
                    go_wp2
                    go_roundw
                    case rel => exact ⟨g + 1, by omega, by go_num, by rw [HTn.out]; exact h8s, (hbr.setCell (p := ⟨w1.heap.size, i, none⟩) (Nat.le_refl _) _).drew⟩
                    case measure => simp [intOf]; omega
              · have HTn := hide (show numTo n cs (g + 1) i = numTo n cs g i by simp only [numTo, term]; rw [if_neg (by omega)]; omega)
                rw [hbit] at hmb hmt
                clear hbit
                go_wp2_with fail
                go_roundw
                case rel => exact ⟨g + 1, by omega, by go_num, by rw [HTn.out]; exact h8, hbr⟩
                case measure => simp [intOf]; omega
            · have eg : g = m := by omega
              subst eg
              rw [HEN.out] at h8
              go_wp2_with fail
              go_roundw
              case rel => exact ⟨i + 1, by omega, by go_num, h8, hbr⟩
              case measure => simp [intOf]; omega
        · have ei : i = n := by omega
          subst ei
          clear hlt hi
          obtain ⟨w5, hw5⟩ : ∃ w5, w5 = wr := ⟨_, rfl⟩
          subst hw5
          rw [← HNL.out, fillN_all, HNL.out] at h8
          have HNS := hide (show sumL NF = ((factN i : Nat) : Int) * cs.getD (m - 1) 0 by rw [HNFD.out, HCL.out]; exact numsF_sum i hl cs HC0.out)
          have hRN := rd_own encI_len HNL.out h8
          have hfb := fact_bd i (by omega)
          have HNB := hide (fun x (hx : x ∈ NF) => (show -7680000000000 ≤ x ∧ x ≤ 7680000000000 from by
            rw [HNFD.out] at hx
            unfold numsF at hx
            obtain ⟨j, hj, rfl⟩ := List.mem_map.1 hx
            have h5 : 2 ^ i ≤ 2 ^ 5 := Nat.pow_le_pow_right (by omega) hl
            have h6 := numTo_bd i (by omega) cs HCB.out m j (by have := HCL.out; omega) (List.mem_range.1 hj)
            have h7 := HCL.out
            omega))
          have HDN := hide (fun F x (h1 : (1 : Int) ≤ F) (h2 : -7680000000000 ≤ x ∧ x ≤ 7680000000000) => (show -10000000000000 ≤ x / F ∧ x / F ≤ 10000000000000 from by
            constructor
            · have : -7680000000000 ≤ x / F := by
                rw [Int.le_ediv_iff_mul_le (by omega)]
                have : (-7680000000000 : Int) * F ≤ -7680000000000 * 1 := Int.mul_le_mul_of_nonpos_left (by omega) (by omega)
                omega
              omega
            · have : x / F ≤ 7680000000000 := by
                refine Int.ediv_le_of_le_mul (by omega) ?_
                have : (7680000000000 : Int) * 1 ≤ 7680000000000 * F := Int.mul_le_mul_of_nonneg_left (by omega) (by omega)
                omega
              omega))
          have hall := getD_bd HCB.out (m - 1)
          have HHD := hide (fun W (hW : Nx w5 W) => w_handed w1.heap.size (some ⟨w1.heap.size, 0, none⟩) NF.length (cs.getD (m - 1) 0) ((factN i : Nat) : Int) NF W (hRN.nx hW) (by have := HNL.out; omega) (by omega) (fun x hx => by have := HNB.out x hx; omega) (fun x hx => HDN.out _ x (by omega) (HNB.out x hx)) hall HNS.out)
          rw [HNL.out] at HHD
          have c1 := (Below.cell hbr (p := ⟨gf, _, none⟩) hgl).trans (HFC.out i (Nat.le_refl _))
          obtain ⟨b, off, rfl, _, hb, hbr2, hc⟩ := (HC.out.nx hbw).open_ hbr (by have := HM.out; omega)
          have c3 : w5.cell? ⟨b, off + (m - 1), none⟩ = some (.int .i64 (cs.getD (m - 1) 0)) := by
            have := hc (m - 1) (by have := HM.out; omega) 0 _ rfl
            rw [getD_at (by have := HM.out; omega)]; simpa using this
          clear hc
          generalize hf1 : factN i = f1 at *
          generalize ha : cs.getD (m - 1) 0 = a at *
          have HF1 := hide hf1
          have HA := hide ha
          clear hf1 ha
          obtain ⟨Z2, hZ2⟩ : ∃ Z, Z = madeCells #[.string ByteArray.empty, .int .i64 0] (i * 2) := ⟨_, rfl⟩
          have hmk2 := fun w => run_make_dues i (by omega) w
          have HZ2 := hide (made_dues i)
          rw [← hZ2] at hmk2 HZ2
          clear hZ2
          go_wp2_with fail
          clear hmk2
          have hDn := own_madeD w5 i w5.heap.size (by omega) (Nat.le_refl _) HZ2.out
          have hxn : Nx w5 (w5.alloc (.cells Z2 36)) := (Nx.refl _).alloc _
          generalize w5.alloc (.cells Z2 36) = wx at *
          have e1 := (Below.cell hxn (p := ⟨gf, _, none⟩) (Nat.lt_of_lt_of_le hgl hbr.sz)).trans c1
          have e3 := (Below.cell hxn (p := ⟨b, _, none⟩) hbr2).trans c3
          clear c1 c3
          have EW1 := hide (show IntKind.i64.wrap ((m : Int) - 1) = (m : Int) - 1 from IntWalk.i64_in _ (by omega))
          have en1 : ((m : Int) - 1).toNat = m - 1 := by omega
          have eb1 : (1 : Int) ≤ (m : Int) := by omega
          have ec1 : (m : Int) - 1 < (m : Int) := by omega
          have ed1 : (i : Int) < (i : Int) + 1 := by omega
          have H9 := hide hDn
          clear hDn HZ2
          have ew1 := EW1.out
          go_region_held3 (fun w' => w'.cell? ⟨b, off + (m - 1), none⟩ = some (.int .i64 a) ∧ w'.cell? ⟨gf, i, none⟩ = some (.int .i64 (f1 : Int)))
            (first | go_keep | (go_split_ands; exact ⟨Nx.cellS hn4 ‹_›, Nx.cellS hn4 ‹_›⟩))
            (first | (go_at_call 55; refine (HHD.out _ (by repeat (first | exact hxn | refine Nx.drew ?_ | refine Nx.drewN ?_ _))).mono ?_; rintro e w4 ⟨A4, c4, zs, rfl, hHd, hR4, hn4⟩))
          clear ew1
          have hzl : zs.length = i := by rw [hHd.len]; exact HNL.out
          have HZL := hide hzl
          have HHd := hide hHd
          have HR4 := hide hR4
          have hnw : Nx w w4 := ((hbw.trans hbr).trans hxn.drew).trans hn4
          have hnw5 : Nx w5 w4 := hxn.drew.trans hn4
          have h4 : w4.ownsRow w5.heap.size 36 2 (.slice (some ⟨w5.heap.size, 0, none⟩) i i) i ((List.replicate i (⟨ByteArray.empty, 0⟩ : Due)).flatMap encDue) := own_nx (own_nx H9.out ((Nx.refl _).drew)) hn4
          obtain ⟨DS, hDS⟩ : ∃ DS, DS = List.zipWith Due.mk l zs := ⟨_, rfl⟩
          have hDl : DS.length = i := by rw [hDS, List.length_zipWith, HN.out, hzl]; omega
          have HDG := hide (fun k (hk : k < DS.length) (h1 : k < l.length) (h2 : k < zs.length) => (show DS[k] = ⟨l[k], zs[k]⟩ from by subst hDS; rw [List.getElem_zipWith]))
          have HDS := hide hDS
          have HDL := hide hDl
          rw [show List.replicate i (⟨ByteArray.empty, 0⟩ : Due) = fillG ⟨ByteArray.empty, 0⟩ DS 0 by rw [fillG_zero, hDl]] at h4
          have H4 := hide h4
          have hxs : w5.heap.size + 1 ≤ wx.heap.size := (H9.out.lt _ rfl).2
          have HR5 := hide (HR4.out.low (lo' := w5.heap.size + 1) (show w5.heap.size + 1 ≤ wx.drew.heap.size from hxs))
          clear hDS hDl h4 hzl hHd hR4 H9 e1 e3
          have hb5 := hbr.sz
          have hb1 := hbw.sz
          go_wp2_with fail
          go_loopw [14, 15, 109] (fun _ _ ki wr => ∃ k : Nat, k ≤ i ∧ ki = .int .i64 k ∧ wr.ownsRow w5.heap.size 36 2 (.slice (some ⟨w5.heap.size, 0, none⟩) i i) i ((fillG ⟨ByteArray.empty, 0⟩ DS k).flatMap encDue) ∧ Nx w wr ∧ Nx w5 wr ∧ Rd wr (w5.heap.size + 1) A4 1 encI zs) (fun _ _ ki _ => i - (intOf ki).toNat)
          case atStart => exact ⟨0, Nat.zero_le _, by first | rfl | simp, H4.out, hnw, hnw5, HR5.out⟩
          case round =>
            clear H4 hnw hnw5 HR5
            obtain ⟨k, hk, rfl, h4, hnw, hnw5, hR5⟩ := hrel
            have hb4 := (h4.lt _ rfl).2
            have hfl : (fillG ⟨ByteArray.empty, 0⟩ DS k).length = i := by rw [fillG_len _ _ _ (by rw [HDL.out]; exact hk), HDL.out]
            by_cases hlk : k < i
            · have hlz : k < zs.length := by have := HZL.out; omega
              have hll : k < l.length := by have := HN.out; omega
              have hdd : k < DS.length := by have := HDL.out; omega
              obtain ⟨b1, off1, rfl, hlo1, hb1', _, hc1⟩ := hR5.open_ (Nx.refl _) (by omega)
              have c1 : wr.cell? ⟨b1, off1 + k, none⟩ = some (.int .i64 zs[k]) := by have := hc1 k hlz 0 _ rfl; simpa using this
              obtain ⟨b2, off2, rfl, _, hb2, hb2', hc2⟩ := HR.out.open_ hnw (by omega)
              have c2 : wr.cell? ⟨b2, off2 + k, none⟩ = some (.string l[k]) := by have := hc2 k hll 0 _ rfl; simpa using this
              clear hc1 hc2
              have hst := fillG_set (⟨ByteArray.empty, 0⟩ : Due) DS k hdd
              rw [HDG.out k hdd hll hlz] at hst
              generalize fillG (⟨ByteArray.empty, 0⟩ : Due) DS k = L4 at *
              generalize l[k] = key at *
              generalize zs[k] = z at *
              have hkl : k < L4.length := by omega
              have d0 := own_cell encDue_len hfl h4 k hkl 0 _ rfl
              have d1 := own_cell encDue_len hfl h4 k hkl 1 _ rfl
              rw [Nat.add_zero] at d0
              have f0 : wr.frozen? ⟨w5.heap.size, k * 2, none⟩ = false := h4.frozenAt _
              have f1' : wr.frozen? ⟨w5.heap.size, k * 2 + 1, none⟩ = false := h4.frozenAt _
              have h4a := own_set encDue_len hfl h4 k hkl 0 (by omega) (.string key) ⟨key, L4[k].cents⟩ rfl (k * 2) (by omega)
              have h4b := own_set encDue_len (by rw [List.length_set]; exact hfl) h4a k (by rw [List.length_set]; exact hkl) 1 (by omega) (.int .i64 z) ⟨key, z⟩ (by simp [encDue]) (k * 2 + 1) (by omega)
              rw [List.set_set, hst] at h4b
              have hR6 := (hR5.gr ((Gr.refl w5.heap.size _).setS (p := ⟨w5.heap.size, k * 2, none⟩) (.inl rfl) (.string key)) (by omega)).gr ((Gr.refl w5.heap.size _).setS (p := ⟨w5.heap.size, k * 2 + 1, none⟩) (.inl rfl) (.int .i64 z)) (by omega)
              have hn6 := (hnw.setCell (p := ⟨w5.heap.size, k * 2, none⟩) (by show w.heap.size ≤ w5.heap.size; omega) (.string key)).setCell (p := ⟨w5.heap.size, k * 2 + 1, none⟩) (by show w.heap.size ≤ w5.heap.size; omega) (.int .i64 z)
              have hn7 := (hnw5.setCell (p := ⟨w5.heap.size, k * 2, none⟩) (Nat.le_refl _) (.string key)).setCell (p := ⟨w5.heap.size, k * 2 + 1, none⟩) (Nat.le_refl _) (.int .i64 z)
              clear h4a hst
              go_wp2_with fail
              go_roundw
              case rel => exact ⟨k + 1, by omega, by go_num, h4b, hn6, hn7, hR6⟩
              case measure => simp [intOf]; omega
            · have ek : k = i := by omega
              subst ek
              rw [← HDL.out, fillG_all, HDL.out] at h4
              have t9 : zs.length ≤ k := by have := HZL.out; omega
              have t8 : (zs.length : Int) ≤ (k : Int) := by omega
              go_wp2_with fail
              go_ret
              obtain ⟨A6, c6, ev, hR6, _⟩ := Rd.of_own encDue_len HDL.out.symm h4
              refine ⟨A6, c6, DS, congrArg Ending.returned ev, ?_, hR6.low (by omega), hnw⟩
              refine ⟨zs, ?_, HDS.out⟩
              rw [HN.out, ← HCL.out, ← HNFD.out, HF1.out, HA.out]
              exact HHd.out
end Go.Proofs.YtjhmgkoghapocaaDoor
