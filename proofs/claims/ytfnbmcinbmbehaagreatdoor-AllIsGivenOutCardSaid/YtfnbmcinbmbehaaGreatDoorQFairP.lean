/- A whole shared fairly: the program's walk. -/
import Derived.Test.YtfnbmcinbmbehaaGreatDoorQFairT
namespace Go.Proofs.YtfnbmcinbmbehaaGreatDoor
open Go.RowKit Go.Sort Go.Proofs Go.Shelf

theorem three_alloc (w : World) (a b c : Obj) : ((((w.alloc a).alloc b).alloc c).drew.heap[w.heap.size]? = some a) ∧ ((((w.alloc a).alloc b).alloc c).drew.heap[w.heap.size + 1]? = some b) ∧ ((((w.alloc a).alloc b).alloc c).drew.heap[w.heap.size + 1 + 1]? = some c) ∧ Nx w (((w.alloc a).alloc b).alloc c).drew := by
  refine ⟨?_, ?_, ?_, ((((Nx.refl w).alloc _).alloc _).alloc _).drew⟩
  · show (((w.heap.push a).push b).push c)[w.heap.size]? = _
    rw [Array.getElem?_push, if_neg (by simp; omega), Array.getElem?_push, if_neg (by simp), Array.getElem?_push, if_pos rfl]
  · show (((w.heap.push a).push b).push c)[w.heap.size + 1]? = _
    rw [Array.getElem?_push, if_neg (by simp), Array.getElem?_push, if_pos (by simp)]
  · show (((w.heap.push a).push b).push c)[w.heap.size + 1 + 1]? = _
    rw [Array.getElem?_push, if_pos (by simp)]
theorem fairMid_of {k go gr gb : Nat} {w5 W : World} {Z : Array Value} (hk : k ≤ 100000) (hZ : Z.toList = (List.replicate k (0 : Int)).flatMap encI) (h1 : W.heap[go]? = some (.cells Z 3 (0, 0))) (h2 : W.heap[gr]? = some (.cells Z 3 (0, 0))) (h3 : W.heap[gb]? = some (.cells #[.slice (some ⟨gr, 0, none⟩) k k] 22 (0, 0)))
    (hb : w5.heap.size ≤ go ∧ w5.heap.size ≤ gr ∧ w5.heap.size ≤ gb ∧ go ≠ gr ∧ go ≠ gb ∧ gr ≠ gb) (hn : Nx w5 W) : FairMid k w5 (.slice (some ⟨go, 0, none⟩) k k) (.pointer (some ⟨gb, 0, none⟩)) W := by
  have e : (List.replicate k (0 : Int)).take k = List.replicate k 0 := List.take_of_length_le (by simp)
  have o1 := own_lit (w := W) (g := go) (n := k) (m := k) (base := w5.heap.size) (xs := List.replicate k (0 : Int)) encI_len h1 hb.1 hZ (by simp) (Nat.le_refl _) (by unfold maxLen; omega)
  have o2 := own_lit (w := W) (g := gr) (n := k) (m := k) (base := w5.heap.size) (xs := List.replicate k (0 : Int)) encI_len h2 hb.2.1 hZ (by simp) (Nat.le_refl _) (by unfold maxLen; omega)
  rw [e] at o1 o2
  exact ⟨go, gr, gb, rfl, rfl, hb, o1, o2, h3, hn⟩
/-- The sums of a group, some of them already with the next group. -/
def mixN (n : Nat) (cs : List Int) (g i : Nat) : List Int := (List.range n).map (fun j => if j < i then numTo n cs (g + 1) j else numTo n cs g j)
theorem mixN_len (n : Nat) (cs : List Int) (g i : Nat) : (mixN n cs g i).length = n := by simp [mixN]
theorem mixN_zero (n : Nat) (cs : List Int) (g : Nat) : mixN n cs g 0 = numsF n cs g := by simp [mixN, numsF]
theorem mixN_all (n : Nat) (cs : List Int) (g : Nat) : mixN n cs g n = numsF n cs (g + 1) := by
  unfold mixN numsF
  apply List.map_congr_left
  intro j hj
  rw [if_pos (List.mem_range.1 hj)]
theorem mixN_get (n : Nat) (cs : List Int) (g i : Nat) (h : i < (mixN n cs g i).length) : (mixN n cs g i)[i] = numTo n cs g i := by simp [mixN]
theorem mixN_set (n : Nat) (cs : List Int) (g i : Nat) : (mixN n cs g i).set i (numTo n cs (g + 1) i) = mixN n cs g (i + 1) := by
  apply List.ext_getElem
  · simp [mixN]
  · intro j h1 h2
    rw [List.getElem_set]
    have hj : j < n := by simpa [mixN] using h2
    by_cases e : i = j
    · subst e; simp [mixN]
    · rw [if_neg e]
      simp only [mixN, List.getElem_map, List.getElem_range]
      by_cases h3 : j < i
      · rw [if_pos h3, if_pos (by omega)]
      · rw [if_neg h3, if_neg (by omega)]
theorem mixN_same (n : Nat) (cs : List Int) (g i : Nat) (h : numTo n cs (g + 1) i = numTo n cs g i) (hi : i < n) : mixN n cs g i = mixN n cs g (i + 1) := by
  rw [← mixN_set, h]
  exact (set_self (by rw [mixN_len]; exact hi) (mixN_get n cs g i (by rw [mixN_len]; exact hi))).symm

set_option maxRecDepth 100000 in
set_option maxHeartbeats 8000000 in
theorem w_FairOk (lo lo' : Nat) (A B : Option Addr) (c c' : Nat) (l : List ByteArray) (cs : List Int) (w : World) (hR : Rd w lo A 1 encS l) (hS : Small l) (hC : Rd w lo' B 1 encI cs) (hl : l.length ≤ 5) (h0 : fairF l cs = 0) :
    Calls Tryz.prog 13 #[.slice A l.length c, .slice B cs.length c'] w (DuesU 0 (FairR l cs) w) := by
  obtain ⟨_, hcl, hc0, hcb⟩ := fairF_right h0
  have hp := pow_bd (n := l.length) (by omega)
  have HFa := hide (w_fairFault lo lo' A B c c' l cs w hR hS hC (by omega) (by omega))
  rw [h0] at HFa
  have HC := hide hC
  have HR := hide hR
  have HCB := hide hcb
  have HC0 := hide hc0
  generalize hm : cs.length = m at *
  have HM := hide hm
  generalize hn : l.length = n at *
  have HN := hide hn
  have HCL := hide hcl
  rw [← hcl] at hp
  clear h0 hC hR hcb hc0 hm hn hcl
  go_enter Tryz.func13, Tryz.ntmps13
  go_wp2_with (go_at_call 30; refine (HFa.out).mono ?_; rintro e w1 ⟨rfl, rfl⟩)
  have hst := own_lit (w := w.alloc (.cells #[.int .i64 1] 3)) (e := 3) (g := w.heap.size) (n := 1) (m := 1) (base := w.heap.size) (xs := factL 1) encI_len (hnew rfl) (Nat.le_refl _) rfl rfl (Nat.le_refl _) (by unfold maxLen; omega)
  rw [List.take_of_length_le (by rw [factL_len]; omega)] at hst
  have HST := hide hst
  clear hst HFa
  go_loopw [8, 9, 34] (fun v _ i wr => ∃ k : Nat, k ≤ n ∧ i = .int .i64 k ∧ wr.ownsRow w.heap.size 3 1 v (k + 1) ((factL (k + 1)).flatMap encI) ∧ Nx w wr) (fun _ _ i _ => (n : Nat) - (intOf i).toNat)
  case atStart => exact ⟨0, by omega, rfl, HST.out, (Nx.refl _).alloc _⟩
  case round =>
    clear HST
    obtain ⟨k, hk, rfl, hown, hbw⟩ := hrel
    by_cases hlt : k < n
    · rcases hown.2 with ⟨rfl, h0⟩ | ⟨g, cap, cur, rfl, hg, _⟩
      · omega
      have hsz := hbw.sz
      have c0 : wr.cell? ⟨g, k, none⟩ = some (.int .i64 ((factN k : Nat) : Int)) := by
        have := own_cell encI_len (factL_len (k + 1)) hown k (by rw [factL_len]; omega) 0 _ rfl
        rw [factL_get] at this
        simpa using this
      have hfb := fact_bd k (by omega)
      have HSn := hide (show factL (k + 1 + 1) = factL (k + 1) ++ [((factN k * (k + 1) : Nat) : Int)] by rw [factL_snoc]; rfl)
      have hfb2 : factN k * (k + 1) ≤ 5040 * 7 := Nat.mul_le_mul hfb.2 (by omega)
      have e1 : ((factN k * (k + 1) : Nat) : Int) = ((factN k : Nat) : Int) * ((k : Int) + 1) := by rw [Int.natCast_mul]; rfl
      rw [e1] at HSn
      have hfb3 : ((factN k : Nat) : Int) * ((k : Int) + 1) ≤ 35280 := by rw [← e1]; omega
      have hfb4 : 0 ≤ ((factN k : Nat) : Int) * ((k : Int) + 1) := by rw [← e1]; omega
      clear e1 hfb2
      generalize factN k = f at *
      generalize hz : (f : Int) * ((k : Int) + 1) = z at *
      have hown' : (wr.alloc (.cells #[.int .i64 z] 3)).ownsRow w.heap.size 3 1 (.slice (some ⟨g, 0, none⟩) (k + 1) cap) (factL (k + 1)).length ((factL (k + 1)).flatMap encI) := by rw [factL_len]; exact hown.alloc _
      have HLB := hide (show (factL (k + 1)).length ≤ 10000000 by rw [factL_len]; omega)
      go_wp2_with (at_builtin; refine wpApp rfl _ _ _ rfl el_Int encI encI_len encI_one (by omega) (by omega) w.heap.size _ (factL (k + 1)) rfl hown' _ z _ rfl (hnew rfl) rfl HLB.out (by simp; omega) ?_; intro v2 w2 hown2 hg2)
      rw [List.length_append, factL_len, List.length_singleton, ← HSn.out] at hown2
      go_roundw
      case rel => exact ⟨k + 1, by omega, by go_num, hown2, (hbw.alloc _).grown hg2 (own_blk_lt hown)⟩
      case measure => simp [intOf]; omega
    · have ek : k = n := by omega
      subst ek
      clear hlt hk
      obtain ⟨w1, hw1⟩ : ∃ w1, w1 = wr := ⟨_, rfl⟩
      subst hw1
      rcases hown.2 with ⟨rfl, h0⟩ | ⟨gf, capf, cur, rfl, hgf, _⟩
      · omega
      have hgl := (hown.lt _ rfl).2
      have HFC := hide (fun j (hj : j ≤ k) => (show w1.cell? ⟨gf, j, none⟩ = some (.int .i64 ((factN j : Nat) : Int)) from by
        have := own_cell encI_len (factL_len (k + 1)) hown j (by rw [factL_len]; omega) 0 _ rfl
        rw [factL_get] at this
        simpa using this))
      have hsz := hbw.sz
      obtain ⟨Z, hZ⟩ : ∃ Z, Z = madeCells #[.int .i64 0] k := ⟨_, rfl⟩
      have hmk := fun w => run_make_ints k (by omega) w
      have HZ := hide (made_ints k)
      rw [← hZ] at hmk HZ
      clear hZ hown
      go_wp2_with fail
      have HMK := hide hmk
      clear hmk
      have h8 := own_made w1 k w1.heap.size (by omega) (Nat.le_refl _) HZ.out
      rw [show List.replicate k (0 : Int) = numsF k cs 0 by
        apply List.ext_getElem
        · simp [numsF]
        · intro i h1 h2; simp [numsF, numTo]] at h8
      have H8 := hide h8
      clear h8
      go_loopw [11, 12, 13, 14, 52] (fun _ _ _ _ gi wr => ∃ g : Nat, g ≤ m ∧ gi = .int .i64 g ∧ wr.ownsRow w1.heap.size 3 1 (.slice (some ⟨w1.heap.size, 0, none⟩) k k) k ((numsF k cs g).flatMap encI) ∧ Nx w1 wr) (fun _ _ _ _ gi _ => m - (intOf gi).toNat)
      case atStart => exact ⟨0, Nat.zero_le _, rfl, H8.out, (Nx.refl _).alloc _⟩
      case round =>
        clear H8
        obtain ⟨g, hg, rfl, h8, hbr⟩ := hrel
        by_cases hlg : g < m
        · have hg64 : g < 64 := by
            have h5 : 2 ^ k ≤ 2 ^ 5 := Nat.pow_le_pow_right (by omega) hl
            have := HCL.out
            omega
          rw [← mixN_zero] at h8
          have H8 := hide h8
          clear h8
          go_wp2_with fail
          go_loop [12, 13, 56] (fun s _ ki => ∃ j : Nat, j ≤ k ∧ ki = .int .i64 j ∧ s = .int .i64 ((szN j g : Nat) : Int)) (fun _ _ ki => k - (intOf ki).toNat)
          case atStart => exact ⟨0, Nat.zero_le _, rfl, rfl⟩
          case round =>
            obtain ⟨j, hj, rfl, rfl⟩ := hrel
            have hsz4 := szN_le j g
            by_cases hlj : j < k
            · have hkb := and_bit g j (by omega)
              have hbl := bit_le g j
              have HSZ := hide (show szN (j + 1) g = szN j g + bitN g j from rfl)
              generalize szN j g = s at *
              generalize bitN g j = bk at *
              go_wp2_with fail
              go_round
              case rel => exact ⟨j + 1, by omega, by go_num, by rw [HSZ.out]; go_num⟩
              case measure => simp [intOf]; omega
            · have ej : j = k := by omega
              subst ej
              clear hlj hj
              go_wp2_with fail
              have hs0 := szN_le j g
              go_loopw [14, 67] (fun _ ii wr => ∃ i : Nat, i ≤ j ∧ ii = .int .i64 i ∧ wr.ownsRow w1.heap.size 3 1 (.slice (some ⟨w1.heap.size, 0, none⟩) j j) j ((mixN j cs g i).flatMap encI) ∧ Nx w1 wr) (fun _ ii _ => j - (intOf ii).toNat)
              case atStart => exact ⟨0, Nat.zero_le _, rfl, H8.out, hbr⟩
              case round =>
                clear H8 hbr
                obtain ⟨i, hi, rfl, h8, hbr⟩ := hrel
                by_cases hlt : i < j
                · have hab := and_bit g i (by omega)
                  rcases bit_le g i with hbit | hbit
                  · have HB := hide hbit
                    rw [hbit] at hab
                    have HTn := hide (show numTo j cs (g + 1) i = numTo j cs g i + (wN j g : Int) * (cs.getD (g + 2 ^ i) 0 - cs.getD g 0) by simp only [numTo, term]; rw [if_pos hbit])
                    have hs1 := szN_at j g i (by omega) hg64 hlt hbit
                    have hW := wN_bd j g (by omega) hs1
                    have hWd : wN j g = factN (szN j g) * factN (j - 1 - szN j g) := rfl
                    have c1 := (Below.cell hbr (p := ⟨gf, _, none⟩) hgl).trans (HFC.out (szN j g) hs0)
                    have c2 := (Below.cell hbr (p := ⟨gf, _, none⟩) hgl).trans (HFC.out (j - 1 - szN j g) (by omega))
                    have hgi : g + 2 ^ i < m := by
                      rw [HCL.out]
                      exact add_lt_small ⟨j, by omega⟩ ⟨g, hg64⟩ ⟨i, by omega⟩ (by have := HCL.out; show g < 2 ^ j; omega) hlt hbit
                    obtain ⟨b, off, rfl, _, hb, hbr2, hc⟩ := (HC.out.nx hbw).open_ hbr (by have := HM.out; omega)
                    have c3 : wr.cell? ⟨b, off + (g + 2 ^ i), none⟩ = some (.int .i64 (cs.getD (g + 2 ^ i) 0)) := by
                      have := hc (g + 2 ^ i) (by have := HM.out; omega) 0 _ rfl
                      rw [getD_at (by have := HM.out; omega)]; simpa using this
                    have c4 : wr.cell? ⟨b, off + g, none⟩ = some (.int .i64 (cs.getD g 0)) := by
                      have := hc g (by have := HM.out; omega) 0 _ rfl
                      rw [getD_at (by have := HM.out; omega)]; simpa using this
                    clear hc
                    have hb3 := getD_bd HCB.out (g + 2 ^ i)
                    have hb4 := getD_bd HCB.out g
                    have hTb := numTo_bd j (by omega) cs HCB.out g i (by omega) hlt
                    have hml : i < (mixN j cs g i).length := by rw [mixN_len]; exact hlt
                    have d8 : wr.cell? ⟨w1.heap.size, i, none⟩ = some (.int .i64 (numTo j cs g i)) := by
                      have := own_cell encI_len (mixN_len _ _ _ _) h8 i hml 0 _ rfl
                      rw [mixN_get] at this
                      simpa using this
                    have f8 : wr.frozen? ⟨w1.heap.size, i, none⟩ = false := h8.frozenAt _
                    have hpw := pow_bd (n := i) (by omega)
                    have hshl := shl_pow (n := i) (by omega)
                    have hshm := shl_pow2 (n := i) (by omega)
                    have hor := or_bit g i hg64 (by omega) hbit
                    have hsh3 : ((2 : Int) ^ i) = ((2 ^ i : Nat) : Int) := by rw [Int.natCast_pow]; rfl
                    rw [hsh3] at hor
                    have h8s := fun z => own_set encI_len (mixN_len j cs g i) h8 i hml 0 (by omega) (.int .i64 z) z rfl i (by omega)
                    have HST := hide (mixN_set j cs g i)
                    have H8s := hide h8s
                    clear hbit h8s hsh3 h8
                    generalize cs.getD (g + 2 ^ i) 0 = a at *
                    generalize cs.getD g 0 = bb at *
                    generalize numTo j cs g i = T at *
                    generalize factN (szN j g) = f1 at *
                    have HWd := hide hWd
                    have HSH := hide hshl
                    have HSH2 := hide hshm
                    have HOR := hide hor
                    clear hWd hshl hshm hor
                    generalize szN j g = s at *
                    generalize factN (j - 1 - s) = f2 at *
                    generalize wN j g = W at *
                    generalize 2 ^ i = p2 at *
                    go_wp2_with fail
                    obtain ⟨P, hP⟩ : ∃ P, P = (W : Int) * (a - bb) := ⟨_, rfl⟩
                    have hPb : -120000000000 ≤ P ∧ P ≤ 120000000000 := by
                      have h4 : (W : Int) * (a - bb) ≤ W * 1000000000 := Int.mul_le_mul_of_nonneg_left (by omega) (by omega)
                      have h5 : (W : Int) * (-1000000000) ≤ W * (a - bb) := Int.mul_le_mul_of_nonneg_left (by omega) (by omega)
                      omega
                    rw [← hP] at HTn
                    have EW1 := hide (show IntKind.i64.wrap ((j : Int) - (s : Int)) = (j : Int) - (s : Int) from IntWalk.i64_in _ (by omega))
                    have EW2 := hide (show IntKind.i64.wrap ((j : Int) - (s : Int) - 1) = (j : Int) - (s : Int) - 1 from IntWalk.i64_in _ (by omega))
                    have en2 : ((j : Int) - (s : Int) - 1).toNat = j - 1 - s := by omega
                    have eb2' : (1 : Int) ≤ (j : Int) - (s : Int) := by omega
                    have eb2 : (0 : Int) ≤ (j : Int) - (s : Int) - 1 := by omega
                    have ec2 : (j : Int) - (s : Int) - 1 < ((j : Int) + 1) := by omega
                    have ed2 : (s : Int) < ((j : Int) + 1) := by omega
                    have ee2 : (i : Int) < (j : Int) := by omega
                    have EW3 := hide (show IntKind.i64.wrap ((f1 : Int) * (f2 : Int)) = (W : Int) from by rw [← Int.natCast_mul, ← HWd.out]; exact IntWalk.i64_in _ (by omega))
                    have en5 : ((g : Int) + (p2 : Int)).toNat = g + p2 := by omega
                    have eb5 : (0 : Int) ≤ (g : Int) + (p2 : Int) := by omega
                    have ec5 : (g : Int) + (p2 : Int) < (m : Int) := by omega
                    have EOR := hide (show bits BinOp.or IntKind.i64 (g : Int) (p2 : Int) = (g : Int) + (p2 : Int) from by rw [HOR.out]; omega)
                    have EW6 := hide (show IntKind.i64.wrap (a - bb) = a - bb from IntWalk.i64_in _ (by omega))
                    have EW7 := hide (show IntKind.i64.wrap ((W : Int) * (a - bb)) = P from by rw [← hP]; exact IntWalk.i64_in _ (by omega))
                    have EW8 := hide (show IntKind.i64.wrap (T + P) = T + P from IntWalk.i64_in _ (by omega))
                    have HP := hide hP
                    clear hP
                    have ew1 := EW1.out
                    have ew2 := EW2.out
                    have ew3 := EW3.out
                    have eor := EOR.out
                    have ew6 := EW6.out
                    have ew7 := EW7.out
                    have ew8 := EW8.out
                    have hshl2 := HSH2.out
                    have hshl := HSH.out
                    go_still_tail 31, (by kernel_rfl)
                    change wpList _ _ _ _ _ wr.drew
                    clear ew1 ew2 ew3 eor ew6 ew7 ew8 hshl hshl2
                    go_wp2
                    go_roundw
                    case rel => exact ⟨i + 1, by omega, by go_num, by rw [← HST.out, HTn.out]; exact H8s.out _, (hbr.setCell (p := ⟨w1.heap.size, i, none⟩) (Nat.le_refl _) _).drew⟩
                    case measure => simp [intOf]; omega
                  · have HSA := hide (mixN_same j cs g i (by simp only [numTo, term]; rw [if_neg (by omega)]; omega) hlt)
                    rw [hbit] at hab
                    clear hbit
                    go_wp2_with fail
                    go_roundw
                    case rel => exact ⟨i + 1, by omega, by go_num, by rw [← HSA.out]; exact h8, hbr⟩
                    case measure => simp [intOf]; omega
                · have ei : i = j := by omega
                  subst ei
                  rw [mixN_all] at h8
                  go_wp2_with fail
                  go_roundw
                  case rel => exact ⟨g + 1, by omega, by go_num, h8, hbr⟩
                  case measure => simp [intOf]; omega
        · have eg : g = m := by omega
          subst eg
          clear hlg hg
          obtain ⟨w5, hw5⟩ : ∃ w5, w5 = wr := ⟨_, rfl⟩
          subst hw5
          go_wp2_with fail
          go_cut [16, 17] (fun vo vb wx => FairMid k w5 vo vb wx)
          case first =>
            have hmk := HMK.out
            clear HFC HC HR HCB HC0 HM HN HCL
            go_region
            all_goals (go_wp2; go_meet)
            all_goals
              first
                | exact fairMid_of (gr := w5.heap.size) (by omega) HZ.out (by first | exact (three_alloc _ _ _ _).1 | exact (three_alloc _ _ _ _).2.1 | exact (three_alloc _ _ _ _).2.2.1) (by first | exact (three_alloc _ _ _ _).1 | exact (three_alloc _ _ _ _).2.1 | exact (three_alloc _ _ _ _).2.2.1) (by first | exact (three_alloc _ _ _ _).1 | exact (three_alloc _ _ _ _).2.1 | exact (three_alloc _ _ _ _).2.2.1) (by omega) (three_alloc _ _ _ _).2.2.2
                | exact fairMid_of (gr := w5.heap.size + 1) (by omega) HZ.out (by first | exact (three_alloc _ _ _ _).1 | exact (three_alloc _ _ _ _).2.1 | exact (three_alloc _ _ _ _).2.2.1) (by first | exact (three_alloc _ _ _ _).1 | exact (three_alloc _ _ _ _).2.1 | exact (three_alloc _ _ _ _).2.2.1) (by first | exact (three_alloc _ _ _ _).1 | exact (three_alloc _ _ _ _).2.1 | exact (three_alloc _ _ _ _).2.2.1) (by omega) (three_alloc _ _ _ _).2.2.2
                | exact fairMid_of (gr := w5.heap.size + 1 + 1) (by omega) HZ.out (by first | exact (three_alloc _ _ _ _).1 | exact (three_alloc _ _ _ _).2.1 | exact (three_alloc _ _ _ _).2.2.1) (by first | exact (three_alloc _ _ _ _).1 | exact (three_alloc _ _ _ _).2.1 | exact (three_alloc _ _ _ _).2.2.1) (by first | exact (three_alloc _ _ _ _).1 | exact (three_alloc _ _ _ _).2.1 | exact (three_alloc _ _ _ _).2.2.1) (by omega) (three_alloc _ _ _ _).2.2.2
          case rest =>
            have hRN := rd_own encI_len (numsF_len k cs g) h8
            have hNS : sumL (numsF k cs g) = ((factN k : Nat) : Int) * cs.getD (g - 1) 0 := by rw [HCL.out]; exact numsF_sum k hl cs HC0.out
            have hNB : ∀ x ∈ numsF k cs g, -7680000000000 ≤ x ∧ x ≤ 7680000000000 := by
              intro x hx
              unfold numsF at hx
              obtain ⟨j, hj, rfl⟩ := List.mem_map.1 hx
              have h5 : 2 ^ k ≤ 2 ^ 5 := Nat.pow_le_pow_right (by omega) hl
              have h6 := numTo_bd k (by omega) cs HCB.out g j (by have := HCL.out; omega) (List.mem_range.1 hj)
              have h7 := HCL.out
              omega
            have hfc := (Below.cell hbr (p := ⟨gf, _, none⟩) hgl).trans (HFC.out k (Nat.le_refl _))
            refine ‹∀ (a : Act) (w_1 : World), Code.wp _ _ _ a w_1 → _› _ _ ?_
            exact st_Fair HR.out HC.out HN.out HM.out hl hp (hbw.trans hbr) hcut (hRN.low hsz) (Nat.lt_of_lt_of_le hgl hbr.sz) hfc (numsF_len k cs g) hNS hNB (getD_bd HCB.out (g - 1)) (FairR l cs) (fun zs hz => ⟨zs, by rw [HN.out, ← HCL.out]; exact hz, rfl⟩) _ _ _ _ _ _ _ _ _ _ _ _ _ _ _ _ _ _ _ _ _ _ _ _ _ _ _ _ _ _ _ _ _ _ _ _ _ _ _ _ _ _ _ _ _ _ _ _ _ _ _ _ _ _ _ _ _ _ _ _ _ _ _ _ _ _ _ _ _ _ _ _ _ _ _ _ _ _ _ _ _ _ _ _ _ _ _ _ _ _ _ _ _ _ _ _ _ _ _ _ _ _ _ _ _ _ _ _ _ _ _ _ _ _ _ _ _ _ _ _ _ _ _ _ _ _ _ _ _ _ _ _ _ _ _ _ _ _ _ _ _ _ _ _ _ _ _ _ _ _ _ _ _ _ _ _ _ _ _ _ _ _ _ _ _ _ _ _ _

set_option maxRecDepth 100000 in
theorem w_Fair (lo lo' : Nat) (A B : Option Addr) (c c' : Nat) (l : List ByteArray) (cs : List Int) (w : World) (hR : Rd w lo A 1 encS l) (hS : Small l) (hC : Rd w lo' B 1 encI cs) (hl : l.length ≤ 100) (hl' : cs.length ≤ 40) :
    Calls Tryz.prog 13 #[.slice A l.length c, .slice B cs.length c'] w (DuesU (fairF l cs) (FairR l cs) w) := by
  by_cases h0 : fairF l cs = 0
  · rw [h0]
    obtain ⟨h1, h2, _⟩ := fairF_right h0
    have h3 : l.length ≤ 5 := by
      rcases Nat.lt_or_ge 5 l.length with h4 | h4
      · have : 2 ^ 6 ≤ 2 ^ l.length := Nat.pow_le_pow_right (by omega) h4
        omega
      · exact h4
    exact w_FairOk lo lo' A B c c' l cs w hR hS hC h3 h0
  · have HFa := hide (w_fairFault lo lo' A B c c' l cs w hR hS hC (by omega) (by omega))
    have H0 := hide h0
    have t1 : (fairF l cs != 0) = true := by simpa using h0
    generalize fairF l cs = F at *
    generalize FairR l cs = R at *
    clear hR hC hS h0
    generalize cs.length = m at *
    generalize l.length = n at *
    go_enter Tryz.func13, Tryz.ntmps13
    go_wp2_with (go_at_call 30; refine (HFa.out).mono ?_; rintro e w1 ⟨rfl, rfl⟩)
    go_ret2
    exact DuesU.no H0.out (Nx.refl _)
end Go.Proofs.YtfnbmcinbmbehaaGreatDoor
