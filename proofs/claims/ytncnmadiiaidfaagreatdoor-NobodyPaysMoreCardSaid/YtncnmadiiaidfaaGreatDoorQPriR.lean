/- Prices: the reference's check. -/
import Derived.Test.YtncnmadiiaidfaaGreatDoorQPriF
import Derived.Deep.DeepCutAuto
namespace Go.Proofs.YtncnmadiiaidfaaGreatDoor
open Go.RowKit

theorem w_PF1 (x : Int) (w : World) : Calls Tryz.prog 27 #[.int .i64 x] w fun e w' => e = .returned (.bool (centB x)) ∧ w = w' := by
  have H := hide (show centB x = outB x 0 maxCt from rfl)
  have H2 := hide (inB_out x 0 maxCt)
  go_enter Tryz.func27, Tryz.ntmps27
  go_wp2_with (go_at_call 28; rw [show (1000000000 : Int) = maxCt from rfl]; refine (w_in _ _ _ _).mono ?_; rintro e w' ⟨rfl, rfl⟩)
  go_ret
  exact ⟨ret_bool (by rw [H.out, H2.out]; simp), rfl⟩
theorem eg_PF1 : Enters 27 := enters_of Tryz.func27 (by kernel_rfl) rfl

set_option maxRecDepth 100000 in
set_option maxHeartbeats 4000000 in
theorem w_PricesFault (lo : Nat) (A : Option Addr) (c : Nat) (ps : List Price) (w : World) (hR : RdPrices w lo A ps) (hl : ps.length ≤ 50) :
    Calls Tryz.prog 10 #[.slice A ps.length c] w fun e w' => e = .returned (.int .i64 (pricesF ps)) ∧ Nx w w' := by
  have HX := hide hR.2
  have HR := hide hR.1
  have HF := hide (show pricesF ps = chk priceE none ps by unfold pricesF; rw [if_neg (by omega)])
  generalize hn : ps.length = n at *
  have HN := hide hn
  clear hR hn
  go_enter Tryz.func10, Tryz.ntmps10
  go_wp2_with fail
  go_loopw [11] (fun i wr => ∃ k : Nat, k ≤ n ∧ i = .int .i64 k ∧ Nx w wr ∧ chk priceE none ps = chk priceE (prevOf ps k) (ps.drop k)) (fun i _ => n - (intOf i).toNat)
  case atStart => exact ⟨0, Nat.zero_le _, rfl, Nx.refl _, rfl⟩
  case round =>
    obtain ⟨k, hk, rfl, hbw, hq⟩ := hrel
    have HQ := hide hq
    clear hq
    by_cases hlt : k < n
    · have hlt' : k < ps.length := by have := HN.out; omega
      have HD := hide (chk_drop priceE ps k hlt')
      have hKx := HX.out ps[k] (List.getElem_mem hlt')
      obtain ⟨b, off, rfl, _, hb, hbr, hc⟩ := HR.out.open_ hbw (by omega)
      have c0 : wr.cell? ⟨b, off + k * 10, none⟩ = some (.string ps[k].key) := hc k hlt' 0 _ rfl
      have c1 : wr.cell? ⟨b, off + k * 10 + 1, none⟩ = some (.int .i64 ps[k].base) := hc k hlt' 1 _ rfl
      have c2 : wr.cell? ⟨b, off + k * 10 + 2, none⟩ = some (.int .i64 ps[k].metre) := hc k hlt' 2 _ rfl
      have c3 : wr.cell? ⟨b, off + k * 10 + 3, none⟩ = some (.int .i64 ps[k].minute) := hc k hlt' 3 _ rfl
      have c4 : wr.cell? ⟨b, off + k * 10 + 4, none⟩ = some (.int .i64 ps[k].cross) := hc k hlt' 4 _ rfl
      have c5 : wr.cell? ⟨b, off + k * 10 + 5, none⟩ = some (.int .i64 ps[k].from_) := hc k hlt' 5 _ rfl
      have c6 : wr.cell? ⟨b, off + k * 10 + 6, none⟩ = some (.int .i64 ps[k].to_) := hc k hlt' 6 _ rfl
      have c7 : wr.cell? ⟨b, off + k * 10 + 7, none⟩ = some (.int .i64 ps[k].peak) := hc k hlt' 7 _ rfl
      have c8 : wr.cell? ⟨b, off + k * 10 + 8, none⟩ = some (.int .i64 ps[k].least) := hc k hlt' 8 _ rfl
      have c9 : wr.cell? ⟨b, off + k * 10 + 9, none⟩ = some (.int .i64 ps[k].most) := hc k hlt' 9 _ rfl
      have HPC := hide (fun h0 : 0 < k => (show wr.cell? ⟨b, off + (k - 1) * 10, none⟩ = some (.string (ps[k - 1]'(by omega)).key) from hc (k - 1) (by omega) 0 _ rfl))
      have HPV := hide (fun h0 : 0 < k => (show (prevOf ps k).map Price.key = some (ps[k - 1]'(by omega)).key from by rw [prevOf_pos ps k h0 (by omega)]; rfl))
      have HP0 := hide (fun h0 : k = 0 => (show (prevOf ps k).map Price.key = none from by rw [h0]; rfl))
      clear hc
      generalize ps[k] = x at *
      obtain ⟨ky, f1, f2, f3, f4, f5, f6, f7, f8, f9⟩ := x
      dsimp only at c0 c1 c2 c3 c4 c5 c6 c7 c8 c9 hKx
      generalize prevOf ps k = pv at *
      have HVF := hide (fun (V : Int) (h : priceE pv ⟨ky, f1, f2, f3, f4, f5, f6, f7, f8, f9⟩ = V) (hv : V ≠ 0) => (show pricesF ps = V from by rw [HF.out, HQ.out, HD.out, h, if_neg hv]))
      have HBW := hide hbw
      have hsw : b < wr.heap.size := by have := hbw.sz; omega
      cases hkb : keyB ky
      · have HE := hide (HVF.out 5 (priceE_no (strF_5 hkb) (by decide)) (by decide))
        go_wp2_with (go_at_call 25; refine (w_KeyR _ _ hKx).mono ?_; rintro e w1 ⟨rfl, hn1⟩)
        go_ret
        exact ⟨ret_int (by rw [HE.out]), HBW.out.trans ((((Nx.refl wr).alloc _).alloc _).trans hn1)⟩
      have HKB := hide hkb
      have HG := hide (show ((wr.alloc (.cells #[.string ky, .int .i64 f1, .int .i64 f2, .int .i64 f3, .int .i64 f4, .int .i64 f5, .int .i64 f6, .int .i64 f7, .int .i64 f8, .int .i64 f9] 29)).alloc (.cells #[.int .i64 f1, .int .i64 f2, .int .i64 f3, .int .i64 f4, .int .i64 f8, .int .i64 f9] 3)).cell? ⟨wr.heap.size, 0, none⟩ = some (.string ky) ∧ ((wr.alloc (.cells #[.string ky, .int .i64 f1, .int .i64 f2, .int .i64 f3, .int .i64 f4, .int .i64 f5, .int .i64 f6, .int .i64 f7, .int .i64 f8, .int .i64 f9] 29)).alloc (.cells #[.int .i64 f1, .int .i64 f2, .int .i64 f3, .int .i64 f4, .int .i64 f8, .int .i64 f9] 3)).cell? ⟨wr.heap.size, 1, none⟩ = some (.int .i64 f1) ∧ ((wr.alloc (.cells #[.string ky, .int .i64 f1, .int .i64 f2, .int .i64 f3, .int .i64 f4, .int .i64 f5, .int .i64 f6, .int .i64 f7, .int .i64 f8, .int .i64 f9] 29)).alloc (.cells #[.int .i64 f1, .int .i64 f2, .int .i64 f3, .int .i64 f4, .int .i64 f8, .int .i64 f9] 3)).cell? ⟨wr.heap.size, 2, none⟩ = some (.int .i64 f2) ∧ ((wr.alloc (.cells #[.string ky, .int .i64 f1, .int .i64 f2, .int .i64 f3, .int .i64 f4, .int .i64 f5, .int .i64 f6, .int .i64 f7, .int .i64 f8, .int .i64 f9] 29)).alloc (.cells #[.int .i64 f1, .int .i64 f2, .int .i64 f3, .int .i64 f4, .int .i64 f8, .int .i64 f9] 3)).cell? ⟨wr.heap.size, 3, none⟩ = some (.int .i64 f3) ∧ ((wr.alloc (.cells #[.string ky, .int .i64 f1, .int .i64 f2, .int .i64 f3, .int .i64 f4, .int .i64 f5, .int .i64 f6, .int .i64 f7, .int .i64 f8, .int .i64 f9] 29)).alloc (.cells #[.int .i64 f1, .int .i64 f2, .int .i64 f3, .int .i64 f4, .int .i64 f8, .int .i64 f9] 3)).cell? ⟨wr.heap.size, 4, none⟩ = some (.int .i64 f4) ∧ ((wr.alloc (.cells #[.string ky, .int .i64 f1, .int .i64 f2, .int .i64 f3, .int .i64 f4, .int .i64 f5, .int .i64 f6, .int .i64 f7, .int .i64 f8, .int .i64 f9] 29)).alloc (.cells #[.int .i64 f1, .int .i64 f2, .int .i64 f3, .int .i64 f4, .int .i64 f8, .int .i64 f9] 3)).cell? ⟨wr.heap.size, 5, none⟩ = some (.int .i64 f5) ∧ ((wr.alloc (.cells #[.string ky, .int .i64 f1, .int .i64 f2, .int .i64 f3, .int .i64 f4, .int .i64 f5, .int .i64 f6, .int .i64 f7, .int .i64 f8, .int .i64 f9] 29)).alloc (.cells #[.int .i64 f1, .int .i64 f2, .int .i64 f3, .int .i64 f4, .int .i64 f8, .int .i64 f9] 3)).cell? ⟨wr.heap.size, 6, none⟩ = some (.int .i64 f6) ∧ ((wr.alloc (.cells #[.string ky, .int .i64 f1, .int .i64 f2, .int .i64 f3, .int .i64 f4, .int .i64 f5, .int .i64 f6, .int .i64 f7, .int .i64 f8, .int .i64 f9] 29)).alloc (.cells #[.int .i64 f1, .int .i64 f2, .int .i64 f3, .int .i64 f4, .int .i64 f8, .int .i64 f9] 3)).cell? ⟨wr.heap.size, 7, none⟩ = some (.int .i64 f7) ∧ ((wr.alloc (.cells #[.string ky, .int .i64 f1, .int .i64 f2, .int .i64 f3, .int .i64 f4, .int .i64 f5, .int .i64 f6, .int .i64 f7, .int .i64 f8, .int .i64 f9] 29)).alloc (.cells #[.int .i64 f1, .int .i64 f2, .int .i64 f3, .int .i64 f4, .int .i64 f8, .int .i64 f9] 3)).cell? ⟨wr.heap.size, 8, none⟩ = some (.int .i64 f8) ∧ ((wr.alloc (.cells #[.string ky, .int .i64 f1, .int .i64 f2, .int .i64 f3, .int .i64 f4, .int .i64 f5, .int .i64 f6, .int .i64 f7, .int .i64 f8, .int .i64 f9] 29)).alloc (.cells #[.int .i64 f1, .int .i64 f2, .int .i64 f3, .int .i64 f4, .int .i64 f8, .int .i64 f9] 3)).cell? ⟨wr.heap.size, 9, none⟩ = some (.int .i64 f9) from by refine ⟨?_, ?_, ?_, ?_, ?_, ?_, ?_, ?_, ?_, ?_⟩ <;> go_simp)
      by_cases hk0 : 0 < k
      · have HP2 := hide (HPC.out hk0)
        have HPW := hide (HPV.out hk0)
        generalize (ps[k - 1]'(by omega)).key = p0 at *
        have k1 : IntKind.i64.wrap ((k : Int) - 1) = (k : Int) - 1 := IntWalk.i64_in _ (by omega)
        have k2 : (1 : Int) ≤ (k : Int) := by omega
        have k3 : ((k : Int) - 1).toNat = k - 1 := by omega
        have k4 : (k : Int) - 1 < (n : Int) := by omega
        have kp : decide ((k : Int) > 0) = true := decide_eq_true (by omega)
        cases ho : strLe ky p0
        · have t1 : (Op.bytesLess ky.toList p0.toList || ky.toList == p0.toList) = false := ho
          have HS0 := hide (show strF (pv.map Price.key) ky = 0 from by rw [HPW.out]; exact strF_0 HKB.out ho)
          clear ho
          go_wp2_with (go_at_call 25; refine (w_KeyR _ _ hKx).mono ?_; rintro e w1 ⟨rfl, hn1⟩; (have q0 : w1.cell? ⟨wr.heap.size, 0, none⟩ = some (.string ky) := World.grownBy.cell (hn1.gr none) HG.out.1 (by simp)); (have q1 : w1.cell? ⟨wr.heap.size, 1, none⟩ = some (.int .i64 f1) := World.grownBy.cell (hn1.gr none) HG.out.2.1 (by simp)); (have q2 : w1.cell? ⟨wr.heap.size, 2, none⟩ = some (.int .i64 f2) := World.grownBy.cell (hn1.gr none) HG.out.2.2.1 (by simp)); (have q3 : w1.cell? ⟨wr.heap.size, 3, none⟩ = some (.int .i64 f3) := World.grownBy.cell (hn1.gr none) HG.out.2.2.2.1 (by simp)); (have q4 : w1.cell? ⟨wr.heap.size, 4, none⟩ = some (.int .i64 f4) := World.grownBy.cell (hn1.gr none) HG.out.2.2.2.2.1 (by simp)); (have q5 : w1.cell? ⟨wr.heap.size, 5, none⟩ = some (.int .i64 f5) := World.grownBy.cell (hn1.gr none) HG.out.2.2.2.2.2.1 (by simp)); (have q6 : w1.cell? ⟨wr.heap.size, 6, none⟩ = some (.int .i64 f6) := World.grownBy.cell (hn1.gr none) HG.out.2.2.2.2.2.2.1 (by simp)); (have q7 : w1.cell? ⟨wr.heap.size, 7, none⟩ = some (.int .i64 f7) := World.grownBy.cell (hn1.gr none) HG.out.2.2.2.2.2.2.2.1 (by simp)); (have q8 : w1.cell? ⟨wr.heap.size, 8, none⟩ = some (.int .i64 f8) := World.grownBy.cell (hn1.gr none) HG.out.2.2.2.2.2.2.2.2.1 (by simp)); (have q9 : w1.cell? ⟨wr.heap.size, 9, none⟩ = some (.int .i64 f9) := World.grownBy.cell (hn1.gr none) HG.out.2.2.2.2.2.2.2.2.2 (by simp)); (have hRL : Rd w1 0 (some ⟨wr.heap.size + 1, 0, none⟩) 1 encI [f1, f2, f3, f4, f8, f9] := Rd.nx (Rd.lit (hnew (by simp)) (Nat.zero_le _) (fun _ => rfl) rfl) hn1); (have qp : w1.cell? ⟨b, off + (k - 1) * 10, none⟩ = some (.string p0) := World.grownBy.cell (((((Nx.refl wr).alloc _).alloc _).trans hn1).gr none) HP2.out (by simp)))
          go_quiet (fail)
          clear qp
          have hnk : Nx wr (w1.drewN nq) := ((((Nx.refl wr).alloc _).alloc _).trans hn1).trans ((Nx.refl _).drewN _)
          have HQC := hide (show (w1.drewN nq).cell? ⟨wr.heap.size, 0, none⟩ = some (.string ky) ∧ (w1.drewN nq).cell? ⟨wr.heap.size, 1, none⟩ = some (.int .i64 f1) ∧ (w1.drewN nq).cell? ⟨wr.heap.size, 2, none⟩ = some (.int .i64 f2) ∧ (w1.drewN nq).cell? ⟨wr.heap.size, 3, none⟩ = some (.int .i64 f3) ∧ (w1.drewN nq).cell? ⟨wr.heap.size, 4, none⟩ = some (.int .i64 f4) ∧ (w1.drewN nq).cell? ⟨wr.heap.size, 5, none⟩ = some (.int .i64 f5) ∧ (w1.drewN nq).cell? ⟨wr.heap.size, 6, none⟩ = some (.int .i64 f6) ∧ (w1.drewN nq).cell? ⟨wr.heap.size, 7, none⟩ = some (.int .i64 f7) ∧ (w1.drewN nq).cell? ⟨wr.heap.size, 8, none⟩ = some (.int .i64 f8) ∧ (w1.drewN nq).cell? ⟨wr.heap.size, 9, none⟩ = some (.int .i64 f9) from ⟨q0, q1, q2, q3, q4, q5, q6, q7, q8, q9⟩)
          have HRL := hide (Rd.nx hRL ((Nx.refl _).drewN nq))
          clear hRL
          have hsk : wr.heap.size < (w1.drewN nq).heap.size := by have := hn1.sz; simp at this ⊢; omega
          have HNK := hide (HBW.out.trans hnk)
          clear hnk q0 q1 q2 q3 q4 q5 q6 q7 q8 q9
          generalize w1.drewN nq = wk at *
          clear hn1 w1
          have q0 := HQC.out.1
          have q1 := HQC.out.2.1
          have q2 := HQC.out.2.2.1
          have q3 := HQC.out.2.2.2.1
          have q4 := HQC.out.2.2.2.2.1
          have q5 := HQC.out.2.2.2.2.2.1
          have q6 := HQC.out.2.2.2.2.2.2.1
          have q7 := HQC.out.2.2.2.2.2.2.2.1
          have q8 := HQC.out.2.2.2.2.2.2.2.2.1
          have q9 := HQC.out.2.2.2.2.2.2.2.2.2
          cases ha : [f1, f2, f3, f4, f8, f9].any centB
          · have HA := hide ha
            cases ho : outB f5 0 f6
            · have HO := hide ho
              have hoi : inB f5 0 f6 = true := by rw [inB_out, ho]; rfl
              by_cases h24 : 24 < f6
              · have HE := hide (HVF.out 1 (priceE_hour HS0.out HA.out (show hourP ⟨ky, f1, f2, f3, f4, f5, f6, f7, f8, f9⟩ = true from by unfold hourP; rw [decide_eq_true h24]; simp)) (by decide))
                have t24 : decide (f6 > 24) = true := decide_eq_true h24
                go_wp2_with (first | (go_at_call 26; refine (w_ContFI 27 centB eg_PF1 w_PF1 0 _ _ [f1, f2, f3, f4, f8, f9] _ HRL.out (by simp)).mono ?_; rw [ha]; rintro e w2 ⟨rfl, he⟩; (have hn2 : Nx wk w2 := he ▸ Nx.refl _); clear he; clear q0 q1 q2 q3 q4 q5 q6 q7 q8 q9; (have r5 : w2.cell? ⟨wr.heap.size, 5, none⟩ = some (.int .i64 f5) := World.grownBy.cell (hn2.gr none) HQC.out.2.2.2.2.2.1 (by simp)); (have r6 : w2.cell? ⟨wr.heap.size, 6, none⟩ = some (.int .i64 f6) := World.grownBy.cell (hn2.gr none) HQC.out.2.2.2.2.2.2.1 (by simp)); (have r7 : w2.cell? ⟨wr.heap.size, 7, none⟩ = some (.int .i64 f7) := World.grownBy.cell (hn2.gr none) HQC.out.2.2.2.2.2.2.2.1 (by simp)); (have r8 : w2.cell? ⟨wr.heap.size, 8, none⟩ = some (.int .i64 f8) := World.grownBy.cell (hn2.gr none) HQC.out.2.2.2.2.2.2.2.2.1 (by simp)); (have r9 : w2.cell? ⟨wr.heap.size, 9, none⟩ = some (.int .i64 f9) := World.grownBy.cell (hn2.gr none) HQC.out.2.2.2.2.2.2.2.2.2 (by simp))) | (go_at_call 28; refine (w_in _ _ _ _).mono ?_; rintro e w' ⟨rfl, rfl⟩))
                go_ret
                exact ⟨ret_int (by rw [HE.out]), HNK.out.trans hn2⟩
              have t24 : decide (f6 > 24) = false := decide_eq_false (by omega)
              cases hp : outB f7 0 1000
              · have HP := hide hp
                have hpi : inB f7 0 1000 = true := by rw [inB_out, hp]; rfl
                by_cases hm : f9 < f8
                · have HE := hide (HVF.out 1 (priceE_hour HS0.out HA.out (show hourP ⟨ky, f1, f2, f3, f4, f5, f6, f7, f8, f9⟩ = true from by unfold hourP; rw [decide_eq_true hm]; simp)) (by decide))
                  have tm : decide (f8 > f9) = true := decide_eq_true hm
                  go_wp2_with (first | (go_at_call 26; refine (w_ContFI 27 centB eg_PF1 w_PF1 0 _ _ [f1, f2, f3, f4, f8, f9] _ HRL.out (by simp)).mono ?_; rw [ha]; rintro e w2 ⟨rfl, he⟩; (have hn2 : Nx wk w2 := he ▸ Nx.refl _); clear he; clear q0 q1 q2 q3 q4 q5 q6 q7 q8 q9; (have r5 : w2.cell? ⟨wr.heap.size, 5, none⟩ = some (.int .i64 f5) := World.grownBy.cell (hn2.gr none) HQC.out.2.2.2.2.2.1 (by simp)); (have r6 : w2.cell? ⟨wr.heap.size, 6, none⟩ = some (.int .i64 f6) := World.grownBy.cell (hn2.gr none) HQC.out.2.2.2.2.2.2.1 (by simp)); (have r7 : w2.cell? ⟨wr.heap.size, 7, none⟩ = some (.int .i64 f7) := World.grownBy.cell (hn2.gr none) HQC.out.2.2.2.2.2.2.2.1 (by simp)); (have r8 : w2.cell? ⟨wr.heap.size, 8, none⟩ = some (.int .i64 f8) := World.grownBy.cell (hn2.gr none) HQC.out.2.2.2.2.2.2.2.2.1 (by simp)); (have r9 : w2.cell? ⟨wr.heap.size, 9, none⟩ = some (.int .i64 f9) := World.grownBy.cell (hn2.gr none) HQC.out.2.2.2.2.2.2.2.2.2 (by simp))) | (go_at_call 28; refine (w_in _ _ _ _).mono ?_; rintro e w' ⟨rfl, rfl⟩))
                  go_ret
                  exact ⟨ret_int (by rw [HE.out]), HNK.out.trans hn2⟩
                · have HE := hide (show priceE pv ⟨ky, f1, f2, f3, f4, f5, f6, f7, f8, f9⟩ = 0 from priceE_zero HS0.out HA.out (show hourP ⟨ky, f1, f2, f3, f4, f5, f6, f7, f8, f9⟩ = false from by unfold hourP; rw [decide_eq_false hm, decide_eq_false h24, show outB f5 0 f6 = false from HO.out, show outB f7 0 1000 = false from HP.out]; rfl))
                  have tm : decide (f8 > f9) = false := decide_eq_false hm
                  go_wp2_with (first | (go_at_call 26; refine (w_ContFI 27 centB eg_PF1 w_PF1 0 _ _ [f1, f2, f3, f4, f8, f9] _ HRL.out (by simp)).mono ?_; rw [ha]; rintro e w2 ⟨rfl, he⟩; (have hn2 : Nx wk w2 := he ▸ Nx.refl _); clear he; clear q0 q1 q2 q3 q4 q5 q6 q7 q8 q9; (have r5 : w2.cell? ⟨wr.heap.size, 5, none⟩ = some (.int .i64 f5) := World.grownBy.cell (hn2.gr none) HQC.out.2.2.2.2.2.1 (by simp)); (have r6 : w2.cell? ⟨wr.heap.size, 6, none⟩ = some (.int .i64 f6) := World.grownBy.cell (hn2.gr none) HQC.out.2.2.2.2.2.2.1 (by simp)); (have r7 : w2.cell? ⟨wr.heap.size, 7, none⟩ = some (.int .i64 f7) := World.grownBy.cell (hn2.gr none) HQC.out.2.2.2.2.2.2.2.1 (by simp)); (have r8 : w2.cell? ⟨wr.heap.size, 8, none⟩ = some (.int .i64 f8) := World.grownBy.cell (hn2.gr none) HQC.out.2.2.2.2.2.2.2.2.1 (by simp)); (have r9 : w2.cell? ⟨wr.heap.size, 9, none⟩ = some (.int .i64 f9) := World.grownBy.cell (hn2.gr none) HQC.out.2.2.2.2.2.2.2.2.2 (by simp))) | (go_at_call 28; refine (w_in _ _ _ _).mono ?_; rintro e w' ⟨rfl, rfl⟩))
                  go_roundw
                  case rel => exact ⟨k + 1, by omega, by go_num, HNK.out.trans hn2, by rw [HQ.out, HD.out, if_pos HE.out]⟩
                  case measure => simp [intOf]; omega
              · have HE := hide (HVF.out 1 (priceE_hour HS0.out HA.out (show hourP ⟨ky, f1, f2, f3, f4, f5, f6, f7, f8, f9⟩ = true from by unfold hourP; rw [show outB f7 0 1000 = true from hp]; simp)) (by decide))
                have hpi : inB f7 0 1000 = false := by rw [inB_out, hp]; rfl
                go_wp2_with (first | (go_at_call 26; refine (w_ContFI 27 centB eg_PF1 w_PF1 0 _ _ [f1, f2, f3, f4, f8, f9] _ HRL.out (by simp)).mono ?_; rw [ha]; rintro e w2 ⟨rfl, he⟩; (have hn2 : Nx wk w2 := he ▸ Nx.refl _); clear he; clear q0 q1 q2 q3 q4 q5 q6 q7 q8 q9; (have r5 : w2.cell? ⟨wr.heap.size, 5, none⟩ = some (.int .i64 f5) := World.grownBy.cell (hn2.gr none) HQC.out.2.2.2.2.2.1 (by simp)); (have r6 : w2.cell? ⟨wr.heap.size, 6, none⟩ = some (.int .i64 f6) := World.grownBy.cell (hn2.gr none) HQC.out.2.2.2.2.2.2.1 (by simp)); (have r7 : w2.cell? ⟨wr.heap.size, 7, none⟩ = some (.int .i64 f7) := World.grownBy.cell (hn2.gr none) HQC.out.2.2.2.2.2.2.2.1 (by simp)); (have r8 : w2.cell? ⟨wr.heap.size, 8, none⟩ = some (.int .i64 f8) := World.grownBy.cell (hn2.gr none) HQC.out.2.2.2.2.2.2.2.2.1 (by simp)); (have r9 : w2.cell? ⟨wr.heap.size, 9, none⟩ = some (.int .i64 f9) := World.grownBy.cell (hn2.gr none) HQC.out.2.2.2.2.2.2.2.2.2 (by simp))) | (go_at_call 28; refine (w_in _ _ _ _).mono ?_; rintro e w' ⟨rfl, rfl⟩))
                go_ret
                exact ⟨ret_int (by rw [HE.out]), HNK.out.trans hn2⟩
            · have HE := hide (HVF.out 1 (priceE_hour HS0.out HA.out (show hourP ⟨ky, f1, f2, f3, f4, f5, f6, f7, f8, f9⟩ = true from by unfold hourP; rw [show outB f5 0 f6 = true from ho]; simp)) (by decide))
              have hoi : inB f5 0 f6 = false := by rw [inB_out, ho]; rfl
              go_wp2_with (first | (go_at_call 26; refine (w_ContFI 27 centB eg_PF1 w_PF1 0 _ _ [f1, f2, f3, f4, f8, f9] _ HRL.out (by simp)).mono ?_; rw [ha]; rintro e w2 ⟨rfl, he⟩; (have hn2 : Nx wk w2 := he ▸ Nx.refl _); clear he; clear q0 q1 q2 q3 q4 q5 q6 q7 q8 q9; (have r5 : w2.cell? ⟨wr.heap.size, 5, none⟩ = some (.int .i64 f5) := World.grownBy.cell (hn2.gr none) HQC.out.2.2.2.2.2.1 (by simp)); (have r6 : w2.cell? ⟨wr.heap.size, 6, none⟩ = some (.int .i64 f6) := World.grownBy.cell (hn2.gr none) HQC.out.2.2.2.2.2.2.1 (by simp)); (have r7 : w2.cell? ⟨wr.heap.size, 7, none⟩ = some (.int .i64 f7) := World.grownBy.cell (hn2.gr none) HQC.out.2.2.2.2.2.2.2.1 (by simp)); (have r8 : w2.cell? ⟨wr.heap.size, 8, none⟩ = some (.int .i64 f8) := World.grownBy.cell (hn2.gr none) HQC.out.2.2.2.2.2.2.2.2.1 (by simp)); (have r9 : w2.cell? ⟨wr.heap.size, 9, none⟩ = some (.int .i64 f9) := World.grownBy.cell (hn2.gr none) HQC.out.2.2.2.2.2.2.2.2.2 (by simp))) | (go_at_call 28; refine (w_in _ _ _ _).mono ?_; rintro e w' ⟨rfl, rfl⟩))
              go_ret
              exact ⟨ret_int (by rw [HE.out]), HNK.out.trans hn2⟩
          · have HE := hide (HVF.out 1 (priceE_any HS0.out ha) (by decide))
            go_wp2_with (first | (go_at_call 26; refine (w_ContFI 27 centB eg_PF1 w_PF1 0 _ _ [f1, f2, f3, f4, f8, f9] _ HRL.out (by simp)).mono ?_; rw [ha]; rintro e w2 ⟨rfl, he⟩; (have hn2 : Nx wk w2 := he ▸ Nx.refl _); clear he; clear q0 q1 q2 q3 q4 q5 q6 q7 q8 q9; (have r5 : w2.cell? ⟨wr.heap.size, 5, none⟩ = some (.int .i64 f5) := World.grownBy.cell (hn2.gr none) HQC.out.2.2.2.2.2.1 (by simp)); (have r6 : w2.cell? ⟨wr.heap.size, 6, none⟩ = some (.int .i64 f6) := World.grownBy.cell (hn2.gr none) HQC.out.2.2.2.2.2.2.1 (by simp)); (have r7 : w2.cell? ⟨wr.heap.size, 7, none⟩ = some (.int .i64 f7) := World.grownBy.cell (hn2.gr none) HQC.out.2.2.2.2.2.2.2.1 (by simp)); (have r8 : w2.cell? ⟨wr.heap.size, 8, none⟩ = some (.int .i64 f8) := World.grownBy.cell (hn2.gr none) HQC.out.2.2.2.2.2.2.2.2.1 (by simp)); (have r9 : w2.cell? ⟨wr.heap.size, 9, none⟩ = some (.int .i64 f9) := World.grownBy.cell (hn2.gr none) HQC.out.2.2.2.2.2.2.2.2.2 (by simp))) | (go_at_call 28; refine (w_in _ _ _ _).mono ?_; rintro e w' ⟨rfl, rfl⟩))
            go_ret
            exact ⟨ret_int (by rw [HE.out]), HNK.out.trans hn2⟩
        · have t1 : (Op.bytesLess ky.toList p0.toList || ky.toList == p0.toList) = true := ho
          have HE := hide (HVF.out 7 (priceE_no (show strF (pv.map Price.key) ky = 7 from by rw [HPW.out]; exact strF_7 HKB.out ho) (by decide)) (by decide))
          clear ho
          go_wp2_with (go_at_call 25; refine (w_KeyR _ _ hKx).mono ?_; rintro e w1 ⟨rfl, hn1⟩; (have q0 : w1.cell? ⟨wr.heap.size, 0, none⟩ = some (.string ky) := World.grownBy.cell (hn1.gr none) HG.out.1 (by simp)); (have qp : w1.cell? ⟨b, off + (k - 1) * 10, none⟩ = some (.string p0) := World.grownBy.cell (((((Nx.refl wr).alloc _).alloc _).trans hn1).gr none) HP2.out (by simp)))
          go_quiet (fail)
          go_wp2_with fail
          go_ret
          exact ⟨ret_int (by rw [HE.out]), HBW.out.trans (((((Nx.refl wr).alloc _).alloc _).trans hn1).trans ((Nx.refl _).drewN _))⟩
      · have HS0 := hide (show strF (pv.map Price.key) ky = 0 from by rw [HP0.out (by omega)]; exact strF_n HKB.out)
        have kp : decide ((k : Int) > 0) = false := decide_eq_false (by omega)
        have kp2 : ¬ (0 : Int) < (k : Int) := by omega
        have kp3 : ¬ 0 < k := hk0
        go_wp2_with (go_at_call 25; refine (w_KeyR _ _ hKx).mono ?_; rintro e w1 ⟨rfl, hn1⟩; (have q0 : w1.cell? ⟨wr.heap.size, 0, none⟩ = some (.string ky) := World.grownBy.cell (hn1.gr none) HG.out.1 (by simp)); (have q1 : w1.cell? ⟨wr.heap.size, 1, none⟩ = some (.int .i64 f1) := World.grownBy.cell (hn1.gr none) HG.out.2.1 (by simp)); (have q2 : w1.cell? ⟨wr.heap.size, 2, none⟩ = some (.int .i64 f2) := World.grownBy.cell (hn1.gr none) HG.out.2.2.1 (by simp)); (have q3 : w1.cell? ⟨wr.heap.size, 3, none⟩ = some (.int .i64 f3) := World.grownBy.cell (hn1.gr none) HG.out.2.2.2.1 (by simp)); (have q4 : w1.cell? ⟨wr.heap.size, 4, none⟩ = some (.int .i64 f4) := World.grownBy.cell (hn1.gr none) HG.out.2.2.2.2.1 (by simp)); (have q5 : w1.cell? ⟨wr.heap.size, 5, none⟩ = some (.int .i64 f5) := World.grownBy.cell (hn1.gr none) HG.out.2.2.2.2.2.1 (by simp)); (have q6 : w1.cell? ⟨wr.heap.size, 6, none⟩ = some (.int .i64 f6) := World.grownBy.cell (hn1.gr none) HG.out.2.2.2.2.2.2.1 (by simp)); (have q7 : w1.cell? ⟨wr.heap.size, 7, none⟩ = some (.int .i64 f7) := World.grownBy.cell (hn1.gr none) HG.out.2.2.2.2.2.2.2.1 (by simp)); (have q8 : w1.cell? ⟨wr.heap.size, 8, none⟩ = some (.int .i64 f8) := World.grownBy.cell (hn1.gr none) HG.out.2.2.2.2.2.2.2.2.1 (by simp)); (have q9 : w1.cell? ⟨wr.heap.size, 9, none⟩ = some (.int .i64 f9) := World.grownBy.cell (hn1.gr none) HG.out.2.2.2.2.2.2.2.2.2 (by simp)); (have hRL : Rd w1 0 (some ⟨wr.heap.size + 1, 0, none⟩) 1 encI [f1, f2, f3, f4, f8, f9] := Rd.nx (Rd.lit (hnew (by simp)) (Nat.zero_le _) (fun _ => rfl) rfl) hn1))
        go_quiet (fail)
        have hnk : Nx wr (w1.drewN nq) := ((((Nx.refl wr).alloc _).alloc _).trans hn1).trans ((Nx.refl _).drewN _)
        have HQC := hide (show (w1.drewN nq).cell? ⟨wr.heap.size, 0, none⟩ = some (.string ky) ∧ (w1.drewN nq).cell? ⟨wr.heap.size, 1, none⟩ = some (.int .i64 f1) ∧ (w1.drewN nq).cell? ⟨wr.heap.size, 2, none⟩ = some (.int .i64 f2) ∧ (w1.drewN nq).cell? ⟨wr.heap.size, 3, none⟩ = some (.int .i64 f3) ∧ (w1.drewN nq).cell? ⟨wr.heap.size, 4, none⟩ = some (.int .i64 f4) ∧ (w1.drewN nq).cell? ⟨wr.heap.size, 5, none⟩ = some (.int .i64 f5) ∧ (w1.drewN nq).cell? ⟨wr.heap.size, 6, none⟩ = some (.int .i64 f6) ∧ (w1.drewN nq).cell? ⟨wr.heap.size, 7, none⟩ = some (.int .i64 f7) ∧ (w1.drewN nq).cell? ⟨wr.heap.size, 8, none⟩ = some (.int .i64 f8) ∧ (w1.drewN nq).cell? ⟨wr.heap.size, 9, none⟩ = some (.int .i64 f9) from ⟨q0, q1, q2, q3, q4, q5, q6, q7, q8, q9⟩)
        have HRL := hide (Rd.nx hRL ((Nx.refl _).drewN nq))
        clear hRL
        have hsk : wr.heap.size < (w1.drewN nq).heap.size := by have := hn1.sz; simp at this ⊢; omega
        have HNK := hide (HBW.out.trans hnk)
        clear hnk q0 q1 q2 q3 q4 q5 q6 q7 q8 q9
        generalize w1.drewN nq = wk at *
        clear hn1 w1
        have q0 := HQC.out.1
        have q1 := HQC.out.2.1
        have q2 := HQC.out.2.2.1
        have q3 := HQC.out.2.2.2.1
        have q4 := HQC.out.2.2.2.2.1
        have q5 := HQC.out.2.2.2.2.2.1
        have q6 := HQC.out.2.2.2.2.2.2.1
        have q7 := HQC.out.2.2.2.2.2.2.2.1
        have q8 := HQC.out.2.2.2.2.2.2.2.2.1
        have q9 := HQC.out.2.2.2.2.2.2.2.2.2
        cases ha : [f1, f2, f3, f4, f8, f9].any centB
        · have HA := hide ha
          cases ho : outB f5 0 f6
          · have HO := hide ho
            have hoi : inB f5 0 f6 = true := by rw [inB_out, ho]; rfl
            by_cases h24 : 24 < f6
            · have HE := hide (HVF.out 1 (priceE_hour HS0.out HA.out (show hourP ⟨ky, f1, f2, f3, f4, f5, f6, f7, f8, f9⟩ = true from by unfold hourP; rw [decide_eq_true h24]; simp)) (by decide))
              have t24 : decide (f6 > 24) = true := decide_eq_true h24
              go_wp2_with (first | (go_at_call 26; refine (w_ContFI 27 centB eg_PF1 w_PF1 0 _ _ [f1, f2, f3, f4, f8, f9] _ HRL.out (by simp)).mono ?_; rw [ha]; rintro e w2 ⟨rfl, he⟩; (have hn2 : Nx wk w2 := he ▸ Nx.refl _); clear he; clear q0 q1 q2 q3 q4 q5 q6 q7 q8 q9; (have r5 : w2.cell? ⟨wr.heap.size, 5, none⟩ = some (.int .i64 f5) := World.grownBy.cell (hn2.gr none) HQC.out.2.2.2.2.2.1 (by simp)); (have r6 : w2.cell? ⟨wr.heap.size, 6, none⟩ = some (.int .i64 f6) := World.grownBy.cell (hn2.gr none) HQC.out.2.2.2.2.2.2.1 (by simp)); (have r7 : w2.cell? ⟨wr.heap.size, 7, none⟩ = some (.int .i64 f7) := World.grownBy.cell (hn2.gr none) HQC.out.2.2.2.2.2.2.2.1 (by simp)); (have r8 : w2.cell? ⟨wr.heap.size, 8, none⟩ = some (.int .i64 f8) := World.grownBy.cell (hn2.gr none) HQC.out.2.2.2.2.2.2.2.2.1 (by simp)); (have r9 : w2.cell? ⟨wr.heap.size, 9, none⟩ = some (.int .i64 f9) := World.grownBy.cell (hn2.gr none) HQC.out.2.2.2.2.2.2.2.2.2 (by simp))) | (go_at_call 28; refine (w_in _ _ _ _).mono ?_; rintro e w' ⟨rfl, rfl⟩))
              go_ret
              exact ⟨ret_int (by rw [HE.out]), HNK.out.trans hn2⟩
            have t24 : decide (f6 > 24) = false := decide_eq_false (by omega)
            cases hp : outB f7 0 1000
            · have HP := hide hp
              have hpi : inB f7 0 1000 = true := by rw [inB_out, hp]; rfl
              by_cases hm : f9 < f8
              · have HE := hide (HVF.out 1 (priceE_hour HS0.out HA.out (show hourP ⟨ky, f1, f2, f3, f4, f5, f6, f7, f8, f9⟩ = true from by unfold hourP; rw [decide_eq_true hm]; simp)) (by decide))
                have tm : decide (f8 > f9) = true := decide_eq_true hm
                go_wp2_with (first | (go_at_call 26; refine (w_ContFI 27 centB eg_PF1 w_PF1 0 _ _ [f1, f2, f3, f4, f8, f9] _ HRL.out (by simp)).mono ?_; rw [ha]; rintro e w2 ⟨rfl, he⟩; (have hn2 : Nx wk w2 := he ▸ Nx.refl _); clear he; clear q0 q1 q2 q3 q4 q5 q6 q7 q8 q9; (have r5 : w2.cell? ⟨wr.heap.size, 5, none⟩ = some (.int .i64 f5) := World.grownBy.cell (hn2.gr none) HQC.out.2.2.2.2.2.1 (by simp)); (have r6 : w2.cell? ⟨wr.heap.size, 6, none⟩ = some (.int .i64 f6) := World.grownBy.cell (hn2.gr none) HQC.out.2.2.2.2.2.2.1 (by simp)); (have r7 : w2.cell? ⟨wr.heap.size, 7, none⟩ = some (.int .i64 f7) := World.grownBy.cell (hn2.gr none) HQC.out.2.2.2.2.2.2.2.1 (by simp)); (have r8 : w2.cell? ⟨wr.heap.size, 8, none⟩ = some (.int .i64 f8) := World.grownBy.cell (hn2.gr none) HQC.out.2.2.2.2.2.2.2.2.1 (by simp)); (have r9 : w2.cell? ⟨wr.heap.size, 9, none⟩ = some (.int .i64 f9) := World.grownBy.cell (hn2.gr none) HQC.out.2.2.2.2.2.2.2.2.2 (by simp))) | (go_at_call 28; refine (w_in _ _ _ _).mono ?_; rintro e w' ⟨rfl, rfl⟩))
                go_ret
                exact ⟨ret_int (by rw [HE.out]), HNK.out.trans hn2⟩
              · have HE := hide (show priceE pv ⟨ky, f1, f2, f3, f4, f5, f6, f7, f8, f9⟩ = 0 from priceE_zero HS0.out HA.out (show hourP ⟨ky, f1, f2, f3, f4, f5, f6, f7, f8, f9⟩ = false from by unfold hourP; rw [decide_eq_false hm, decide_eq_false h24, show outB f5 0 f6 = false from HO.out, show outB f7 0 1000 = false from HP.out]; rfl))
                have tm : decide (f8 > f9) = false := decide_eq_false hm
                go_wp2_with (first | (go_at_call 26; refine (w_ContFI 27 centB eg_PF1 w_PF1 0 _ _ [f1, f2, f3, f4, f8, f9] _ HRL.out (by simp)).mono ?_; rw [ha]; rintro e w2 ⟨rfl, he⟩; (have hn2 : Nx wk w2 := he ▸ Nx.refl _); clear he; clear q0 q1 q2 q3 q4 q5 q6 q7 q8 q9; (have r5 : w2.cell? ⟨wr.heap.size, 5, none⟩ = some (.int .i64 f5) := World.grownBy.cell (hn2.gr none) HQC.out.2.2.2.2.2.1 (by simp)); (have r6 : w2.cell? ⟨wr.heap.size, 6, none⟩ = some (.int .i64 f6) := World.grownBy.cell (hn2.gr none) HQC.out.2.2.2.2.2.2.1 (by simp)); (have r7 : w2.cell? ⟨wr.heap.size, 7, none⟩ = some (.int .i64 f7) := World.grownBy.cell (hn2.gr none) HQC.out.2.2.2.2.2.2.2.1 (by simp)); (have r8 : w2.cell? ⟨wr.heap.size, 8, none⟩ = some (.int .i64 f8) := World.grownBy.cell (hn2.gr none) HQC.out.2.2.2.2.2.2.2.2.1 (by simp)); (have r9 : w2.cell? ⟨wr.heap.size, 9, none⟩ = some (.int .i64 f9) := World.grownBy.cell (hn2.gr none) HQC.out.2.2.2.2.2.2.2.2.2 (by simp))) | (go_at_call 28; refine (w_in _ _ _ _).mono ?_; rintro e w' ⟨rfl, rfl⟩))
                go_roundw
                case rel => exact ⟨k + 1, by omega, by go_num, HNK.out.trans hn2, by rw [HQ.out, HD.out, if_pos HE.out]⟩
                case measure => simp [intOf]; omega
            · have HE := hide (HVF.out 1 (priceE_hour HS0.out HA.out (show hourP ⟨ky, f1, f2, f3, f4, f5, f6, f7, f8, f9⟩ = true from by unfold hourP; rw [show outB f7 0 1000 = true from hp]; simp)) (by decide))
              have hpi : inB f7 0 1000 = false := by rw [inB_out, hp]; rfl
              go_wp2_with (first | (go_at_call 26; refine (w_ContFI 27 centB eg_PF1 w_PF1 0 _ _ [f1, f2, f3, f4, f8, f9] _ HRL.out (by simp)).mono ?_; rw [ha]; rintro e w2 ⟨rfl, he⟩; (have hn2 : Nx wk w2 := he ▸ Nx.refl _); clear he; clear q0 q1 q2 q3 q4 q5 q6 q7 q8 q9; (have r5 : w2.cell? ⟨wr.heap.size, 5, none⟩ = some (.int .i64 f5) := World.grownBy.cell (hn2.gr none) HQC.out.2.2.2.2.2.1 (by simp)); (have r6 : w2.cell? ⟨wr.heap.size, 6, none⟩ = some (.int .i64 f6) := World.grownBy.cell (hn2.gr none) HQC.out.2.2.2.2.2.2.1 (by simp)); (have r7 : w2.cell? ⟨wr.heap.size, 7, none⟩ = some (.int .i64 f7) := World.grownBy.cell (hn2.gr none) HQC.out.2.2.2.2.2.2.2.1 (by simp)); (have r8 : w2.cell? ⟨wr.heap.size, 8, none⟩ = some (.int .i64 f8) := World.grownBy.cell (hn2.gr none) HQC.out.2.2.2.2.2.2.2.2.1 (by simp)); (have r9 : w2.cell? ⟨wr.heap.size, 9, none⟩ = some (.int .i64 f9) := World.grownBy.cell (hn2.gr none) HQC.out.2.2.2.2.2.2.2.2.2 (by simp))) | (go_at_call 28; refine (w_in _ _ _ _).mono ?_; rintro e w' ⟨rfl, rfl⟩))
              go_ret
              exact ⟨ret_int (by rw [HE.out]), HNK.out.trans hn2⟩
          · have HE := hide (HVF.out 1 (priceE_hour HS0.out HA.out (show hourP ⟨ky, f1, f2, f3, f4, f5, f6, f7, f8, f9⟩ = true from by unfold hourP; rw [show outB f5 0 f6 = true from ho]; simp)) (by decide))
            have hoi : inB f5 0 f6 = false := by rw [inB_out, ho]; rfl
            go_wp2_with (first | (go_at_call 26; refine (w_ContFI 27 centB eg_PF1 w_PF1 0 _ _ [f1, f2, f3, f4, f8, f9] _ HRL.out (by simp)).mono ?_; rw [ha]; rintro e w2 ⟨rfl, he⟩; (have hn2 : Nx wk w2 := he ▸ Nx.refl _); clear he; clear q0 q1 q2 q3 q4 q5 q6 q7 q8 q9; (have r5 : w2.cell? ⟨wr.heap.size, 5, none⟩ = some (.int .i64 f5) := World.grownBy.cell (hn2.gr none) HQC.out.2.2.2.2.2.1 (by simp)); (have r6 : w2.cell? ⟨wr.heap.size, 6, none⟩ = some (.int .i64 f6) := World.grownBy.cell (hn2.gr none) HQC.out.2.2.2.2.2.2.1 (by simp)); (have r7 : w2.cell? ⟨wr.heap.size, 7, none⟩ = some (.int .i64 f7) := World.grownBy.cell (hn2.gr none) HQC.out.2.2.2.2.2.2.2.1 (by simp)); (have r8 : w2.cell? ⟨wr.heap.size, 8, none⟩ = some (.int .i64 f8) := World.grownBy.cell (hn2.gr none) HQC.out.2.2.2.2.2.2.2.2.1 (by simp)); (have r9 : w2.cell? ⟨wr.heap.size, 9, none⟩ = some (.int .i64 f9) := World.grownBy.cell (hn2.gr none) HQC.out.2.2.2.2.2.2.2.2.2 (by simp))) | (go_at_call 28; refine (w_in _ _ _ _).mono ?_; rintro e w' ⟨rfl, rfl⟩))
            go_ret
            exact ⟨ret_int (by rw [HE.out]), HNK.out.trans hn2⟩
        · have HE := hide (HVF.out 1 (priceE_any HS0.out ha) (by decide))
          go_wp2_with (first | (go_at_call 26; refine (w_ContFI 27 centB eg_PF1 w_PF1 0 _ _ [f1, f2, f3, f4, f8, f9] _ HRL.out (by simp)).mono ?_; rw [ha]; rintro e w2 ⟨rfl, he⟩; (have hn2 : Nx wk w2 := he ▸ Nx.refl _); clear he; clear q0 q1 q2 q3 q4 q5 q6 q7 q8 q9; (have r5 : w2.cell? ⟨wr.heap.size, 5, none⟩ = some (.int .i64 f5) := World.grownBy.cell (hn2.gr none) HQC.out.2.2.2.2.2.1 (by simp)); (have r6 : w2.cell? ⟨wr.heap.size, 6, none⟩ = some (.int .i64 f6) := World.grownBy.cell (hn2.gr none) HQC.out.2.2.2.2.2.2.1 (by simp)); (have r7 : w2.cell? ⟨wr.heap.size, 7, none⟩ = some (.int .i64 f7) := World.grownBy.cell (hn2.gr none) HQC.out.2.2.2.2.2.2.2.1 (by simp)); (have r8 : w2.cell? ⟨wr.heap.size, 8, none⟩ = some (.int .i64 f8) := World.grownBy.cell (hn2.gr none) HQC.out.2.2.2.2.2.2.2.2.1 (by simp)); (have r9 : w2.cell? ⟨wr.heap.size, 9, none⟩ = some (.int .i64 f9) := World.grownBy.cell (hn2.gr none) HQC.out.2.2.2.2.2.2.2.2.2 (by simp))) | (go_at_call 28; refine (w_in _ _ _ _).mono ?_; rintro e w' ⟨rfl, rfl⟩))
          go_ret
          exact ⟨ret_int (by rw [HE.out]), HNK.out.trans hn2⟩
    · have ek : k = n := by omega
      subst ek
      have HE := hide (show chk priceE (prevOf ps k) (ps.drop k) = 0 by rw [List.drop_eq_nil_iff.2 (by have := HN.out; omega)]; rfl)
      go_wp2_with fail
      go_ret
      exact ⟨ret_int (by rw [HF.out, HQ.out, HE.out]), hbw⟩
end Go.Proofs.YtncnmadiiaidfaaGreatDoor
