/- Trips: the program's check. -/
import Derived.Test.YthlhomcgjgfdhaaGreatDoorQG8
import Derived.Deep.DeepCutAuto
namespace Go.Proofs.YthlhomcgjgfdhaaGreatDoor
open Go.RowKit

/-- Trips in a row, the nodes of each in a row of its own. -/
def RdJours (w : World) (lo : Nat) (A : Option Addr) (ts : List Jour) : Prop :=
  Rd w lo A 6 encJ ts ∧ ∀ x ∈ ts, Rd w lo x.a 1 encS x.nodes ∧ Small x.nodes ∧ x.nodes.length ≤ 2000 ∧ x.ride.size ≤ 1000000 ∧ x.rider.size ≤ 1000000
theorem RdJours.nx {w w' : World} {lo : Nat} {A : Option Addr} {ts : List Jour} (h : RdJours w lo A ts) (hn : Nx w w') : RdJours w' lo A ts :=
  ⟨h.1.nx hn, fun x hx => ⟨(h.2 x hx).1.nx hn, (h.2 x hx).2⟩⟩
theorem namesF_all {l : List ByteArray} (h : l.length ≤ 2000) (h2 : l.all keyB = true) : namesF l 2000 = 0 := by unfold namesF; rw [if_neg (by omega), if_pos h2]
theorem namesF_not {l : List ByteArray} (h : l.length ≤ 2000) (h2 : l.all keyB = false) : namesF l 2000 = 5 := by unfold namesF; rw [if_neg (by omega), h2]; rfl

set_option maxRecDepth 100000 in
set_option maxHeartbeats 4000000 in
theorem w_CheckTrips (lo : Nat) (A : Option Addr) (c : Nat) (ts : List Jour) (w : World) (hR : RdJours w lo A ts) (hl : ts.length ≤ 1000) :
    Calls Tryz.prog 73 #[.slice A ts.length c] w fun e w' => e = .returned (.int .i64 (joursF ts)) ∧ Nx w w' := by
  have HX := hide hR.2
  have HR := hide hR.1
  have HF := hide (show joursF ts = chk jourE none ts by unfold joursF; rw [if_neg (by omega)])
  generalize hn : ts.length = n at *
  have HN := hide hn
  clear hR hn
  go_enter Tryz.func73, Tryz.ntmps73
  go_wp2_with fail
  go_loopw [11] (fun i wr => ∃ k : Nat, k ≤ n ∧ i = .int .i64 k ∧ Nx w wr ∧ chk jourE none ts = chk jourE (prevOf ts k) (ts.drop k)) (fun i _ => n - (intOf i).toNat)
  case atStart => exact ⟨0, Nat.zero_le _, rfl, Nx.refl _, rfl⟩
  case round =>
    obtain ⟨k, hk, rfl, hbw, hq⟩ := hrel
    have HQ := hide hq
    clear hq
    by_cases hlt : k < n
    · have hlt' : k < ts.length := by have := HN.out; omega
      have HD := hide (chk_drop jourE ts k hlt')
      obtain ⟨hRx, hSx, hLx, hK1, hK2⟩ := HX.out ts[k] (List.getElem_mem hlt')
      obtain ⟨b, off, rfl, _, hb, hbr, hc⟩ := HR.out.open_ hbw (by omega)
      have c0 : wr.cell? ⟨b, off + k * 6, none⟩ = some (.string ts[k].ride) := hc k hlt' 0 _ rfl
      have c1 : wr.cell? ⟨b, off + k * 6 + 1, none⟩ = some (.string ts[k].rider) := hc k hlt' 1 _ rfl
      have c2 : wr.cell? ⟨b, off + k * 6 + 2, none⟩ = some (.slice ts[k].a ts[k].nodes.length ts[k].cap) := hc k hlt' 2 _ rfl
      have c3 : wr.cell? ⟨b, off + k * 6 + 3, none⟩ = some (.int .i64 ts[k].metres) := hc k hlt' 3 _ rfl
      have c4 : wr.cell? ⟨b, off + k * 6 + 4, none⟩ = some (.int .i64 ts[k].from_) := hc k hlt' 4 _ rfl
      have c5 : wr.cell? ⟨b, off + k * 6 + 5, none⟩ = some (.int .i64 ts[k].to_) := hc k hlt' 5 _ rfl
      have HPC := hide (fun h0 : 0 < k => (show wr.cell? ⟨b, off + (k - 1) * 6, none⟩ = some (.string (ts[k - 1]'(by omega)).ride) from hc (k - 1) (by omega) 0 _ rfl))
      have HPV := hide (fun (h0 : 0 < k) (y : Jour) => (show afterJ (prevOf ts k) y = strLe y.ride (ts[k - 1]'(by omega)).ride from by rw [prevOf_pos ts k h0 (by omega)]; rfl))
      have HP0 := hide (fun (h0 : k = 0) (y : Jour) => (show afterJ (prevOf ts k) y = false from by rw [h0]; rfl))
      clear hc
      generalize ts[k] = x at *
      obtain ⟨k1, k2, xa, cp, nds, f3, f4, f5⟩ := x
      dsimp only at c0 c1 c2 c3 c4 c5 hK1 hK2 hRx hSx hLx
      generalize prevOf ts k = pv at *
      have HVF := hide (fun (V : Int) (h : jourE pv ⟨k1, k2, xa, cp, nds, f3, f4, f5⟩ = V) (hv : V ≠ 0) => (show joursF ts = V from by rw [HF.out, HQ.out, HD.out, h, if_neg hv]))
      have HBW := hide hbw
      have HNF : Hid (∀ W, Nx w W → Calls Tryz.prog 105 #[.slice xa nds.length cp] W fun e w' => e = .returned (.int .i64 (namesF nds 2000)) ∧ Nx W w') := hide (fun W hW => w_nodesFault lo xa cp nds W (hRx.nx hW) hSx (by omega))
      have HLX := hide hLx
      have HNL := hide (show nds.length = 0 ↔ ((nds.length : Nat) : Int) = 0 from by omega)
      generalize hr : nds.length = r at *
      have HRL := hide hr
      clear hr hRx hSx
      have hsw : b < wr.heap.size := by have := hbw.sz; omega
      have HG := hide (show (wr.alloc (.cells #[.string k1, .string k2, .slice xa r cp, .int .i64 f3, .int .i64 f4, .int .i64 f5] 71)).cell? ⟨wr.heap.size, 0, none⟩ = some (.string k1) ∧ (wr.alloc (.cells #[.string k1, .string k2, .slice xa r cp, .int .i64 f3, .int .i64 f4, .int .i64 f5] 71)).cell? ⟨wr.heap.size, 1, none⟩ = some (.string k2) ∧ (wr.alloc (.cells #[.string k1, .string k2, .slice xa r cp, .int .i64 f3, .int .i64 f4, .int .i64 f5] 71)).cell? ⟨wr.heap.size, 2, none⟩ = some (.slice xa r cp) ∧ (wr.alloc (.cells #[.string k1, .string k2, .slice xa r cp, .int .i64 f3, .int .i64 f4, .int .i64 f5] 71)).cell? ⟨wr.heap.size, 3, none⟩ = some (.int .i64 f3) ∧ (wr.alloc (.cells #[.string k1, .string k2, .slice xa r cp, .int .i64 f3, .int .i64 f4, .int .i64 f5] 71)).cell? ⟨wr.heap.size, 4, none⟩ = some (.int .i64 f4) ∧ (wr.alloc (.cells #[.string k1, .string k2, .slice xa r cp, .int .i64 f3, .int .i64 f4, .int .i64 f5] 71)).cell? ⟨wr.heap.size, 5, none⟩ = some (.int .i64 f5) from by refine ⟨?_, ?_, ?_, ?_, ?_, ?_⟩ <;> go_simp)
      cases hkb : keyB k1
      · have HE := hide (HVF.out 5 (jourE_key (show (keyB k1 && keyB k2) = false from by rw [hkb]; rfl)) (by decide))
        go_wp2_with (go_at_call 104; refine (w_KeyN k1 _ hK1).mono ?_; rintro e w1 ⟨rfl, hn1⟩)
        go_ret
        exact ⟨ret_int (by rw [HE.out]), HBW.out.trans (((Nx.refl wr).alloc _).trans hn1)⟩
      cases hkc : keyB k2
      · have HE := hide (HVF.out 5 (jourE_key (show (keyB k1 && keyB k2) = false from by rw [hkb, hkc]; rfl)) (by decide))
        go_wp2_with (first | (go_at_call 104; (have h9 := hn1); clear h9; refine (w_KeyN k2 _ hK2).mono ?_; rintro e w2 ⟨rfl, hn2⟩) | (go_at_call 104; refine (w_KeyN k1 _ hK1).mono ?_; rintro e w1 ⟨rfl, hn1⟩; (have q1 : w1.cell? ⟨wr.heap.size, 1, none⟩ = some (.string k2) := World.grownBy.cell (hn1.gr none) HG.out.2.1 (by simp))))
        go_ret
        exact ⟨ret_int (by rw [HE.out]), HBW.out.trans ((((Nx.refl wr).alloc _).trans hn1).trans hn2)⟩
      have HKB := hide (show (keyB k1 && keyB k2) = true from by rw [hkb, hkc]; rfl)
      by_cases hk0 : 0 < k
      · have HP2 := hide (HPC.out hk0)
        have HPW := hide (HPV.out hk0)
        generalize (ts[k - 1]'(by omega)).ride = p0 at *
        have j1 : IntKind.i64.wrap ((k : Int) - 1) = (k : Int) - 1 := IntWalk.i64_in _ (by omega)
        have j2 : (1 : Int) ≤ (k : Int) := by omega
        have j3 : ((k : Int) - 1).toNat = k - 1 := by omega
        have j4 : (k : Int) - 1 < (n : Int) := by omega
        have kp : decide ((k : Int) > 0) = true := decide_eq_true (by omega)
        cases ho : strLe k1 p0
        · have t1 : (Op.bytesLess k1.toList p0.toList || k1.toList == p0.toList) = false := ho
          have HA0 := hide (show afterJ pv ⟨k1, k2, xa, cp, nds, f3, f4, f5⟩ = false from by rw [HPW.out]; exact ho)
          clear ho
          go_wp2_with (first | (go_at_call 104; (have h9 := hn1); clear h9; refine (w_KeyN k2 _ hK2).mono ?_; rintro e w2 ⟨rfl, hn2⟩; (have s0 : w2.cell? ⟨wr.heap.size, 0, none⟩ = some (.string k1) := World.grownBy.cell ((hn1.trans hn2).gr none) HG.out.1 (by simp)); (have s2 : w2.cell? ⟨wr.heap.size, 2, none⟩ = some (.slice xa r cp) := World.grownBy.cell ((hn1.trans hn2).gr none) HG.out.2.2.1 (by simp)); (have s3 : w2.cell? ⟨wr.heap.size, 3, none⟩ = some (.int .i64 f3) := World.grownBy.cell ((hn1.trans hn2).gr none) HG.out.2.2.2.1 (by simp)); (have s4 : w2.cell? ⟨wr.heap.size, 4, none⟩ = some (.int .i64 f4) := World.grownBy.cell ((hn1.trans hn2).gr none) HG.out.2.2.2.2.1 (by simp)); (have s5 : w2.cell? ⟨wr.heap.size, 5, none⟩ = some (.int .i64 f5) := World.grownBy.cell ((hn1.trans hn2).gr none) HG.out.2.2.2.2.2 (by simp)); (have qp : w2.cell? ⟨b, off + (k - 1) * 6, none⟩ = some (.string p0) := World.grownBy.cell (((((Nx.refl wr).alloc _).trans hn1).trans hn2).gr none) HP2.out (by simp))) | (go_at_call 104; refine (w_KeyN k1 _ hK1).mono ?_; rintro e w1 ⟨rfl, hn1⟩; (have q1 : w1.cell? ⟨wr.heap.size, 1, none⟩ = some (.string k2) := World.grownBy.cell (hn1.gr none) HG.out.2.1 (by simp))))
          go_quiet (fail)
          clear qp
          have hnk : Nx wr (w2.drewN nq) := ((((Nx.refl wr).alloc _).trans hn1).trans hn2).trans ((Nx.refl _).drewN _)
          have HQC := hide (show (w2.drewN nq).cell? ⟨wr.heap.size, 2, none⟩ = some (.slice xa r cp) ∧ (w2.drewN nq).cell? ⟨wr.heap.size, 3, none⟩ = some (.int .i64 f3) ∧ (w2.drewN nq).cell? ⟨wr.heap.size, 4, none⟩ = some (.int .i64 f4) ∧ (w2.drewN nq).cell? ⟨wr.heap.size, 5, none⟩ = some (.int .i64 f5) from ⟨s2, s3, s4, s5⟩)
          have hsk : wr.heap.size < (w2.drewN nq).heap.size := by have h1 := hn1.sz; have h2 := hn2.sz; simp at h1 h2 ⊢; omega
          have HNK := hide (HBW.out.trans hnk)
          clear hnk q1 s0 s2 s3 s4 s5
          generalize w2.drewN nq = wk at *
          clear hn2 hn1 w1 w2
          have q2 := HQC.out.1
          have q3 := HQC.out.2.1
          have q4 := HQC.out.2.2.1
          have q5 := HQC.out.2.2.2
          by_cases hr0 : r = 0
          · have HE := hide (HVF.out 8 (jourE_none HKB.out HA0.out (show nds.length = 0 from by rw [HRL.out]; exact hr0)) (by decide))
            subst hr0
            go_wp2_with fail
            go_ret
            exact ⟨ret_int (by rw [HE.out]), HNK.out⟩
          have tr : ((r : Int) == 0) = false := by simp; omega
          have HR0 := hide (show nds.length ≠ 0 from by rw [HRL.out]; exact hr0)
          cases hall : nds.all keyB
          · have hnf : namesF nds 2000 = 5 := namesF_not (by rw [HRL.out]; exact HLX.out) hall
            have HE := hide (HVF.out 5 (jourE_names HKB.out HA0.out HR0.out hnf (by decide)) (by decide))
            go_wp2_with (first | (go_at_call 105; refine (HNF.out _ HNK.out).mono ?_; rw [hnf]; rintro e w3 ⟨rfl, hn3⟩; clear q2 q3 q4 q5; (have r3 : w3.cell? ⟨wr.heap.size, 3, none⟩ = some (.int .i64 f3) := World.grownBy.cell (hn3.gr none) HQC.out.2.1 (by simp)); (have r4 : w3.cell? ⟨wr.heap.size, 4, none⟩ = some (.int .i64 f4) := World.grownBy.cell (hn3.gr none) HQC.out.2.2.1 (by simp)); (have r5 : w3.cell? ⟨wr.heap.size, 5, none⟩ = some (.int .i64 f5) := World.grownBy.cell (hn3.gr none) HQC.out.2.2.2 (by simp))) | (go_at_call 49; refine (w_Out _ _ _ _).mono ?_; rintro e w' ⟨rfl, rfl⟩))
            go_ret
            exact ⟨ret_int (by rw [HE.out]), HNK.out.trans hn3⟩
          have hnf : namesF nds 2000 = 0 := namesF_all (by rw [HRL.out]; exact HLX.out) hall
          have HNN := hide hnf
          cases hm : outB f3 0 100000000
          · have HM := hide hm
            cases ho : outB f4 0 f5
            · have HO := hide ho
              by_cases ht : 345686399999 < f5
              · have HE := hide (HVF.out 1 (jourE_time HKB.out HA0.out HR0.out HNN.out (show timeJ ⟨k1, k2, xa, cp, nds, f3, f4, f5⟩ = true from by unfold timeJ; rw [decide_eq_true ht]; simp)) (by decide))
                have tt : decide (f5 > 345686399999) = true := decide_eq_true ht
                go_wp2_with (first | (go_at_call 105; refine (HNF.out _ HNK.out).mono ?_; rw [hnf]; rintro e w3 ⟨rfl, hn3⟩; clear q2 q3 q4 q5; (have r3 : w3.cell? ⟨wr.heap.size, 3, none⟩ = some (.int .i64 f3) := World.grownBy.cell (hn3.gr none) HQC.out.2.1 (by simp)); (have r4 : w3.cell? ⟨wr.heap.size, 4, none⟩ = some (.int .i64 f4) := World.grownBy.cell (hn3.gr none) HQC.out.2.2.1 (by simp)); (have r5 : w3.cell? ⟨wr.heap.size, 5, none⟩ = some (.int .i64 f5) := World.grownBy.cell (hn3.gr none) HQC.out.2.2.2 (by simp))) | (go_at_call 49; refine (w_Out _ _ _ _).mono ?_; rintro e w' ⟨rfl, rfl⟩))
                go_ret
                exact ⟨ret_int (by rw [HE.out]), HNK.out.trans hn3⟩
              · have HE := hide (show jourE pv ⟨k1, k2, xa, cp, nds, f3, f4, f5⟩ = 0 from jourE_zero HKB.out HA0.out HR0.out HNN.out (show timeJ ⟨k1, k2, xa, cp, nds, f3, f4, f5⟩ = false from by unfold timeJ; rw [decide_eq_false ht, show outB f3 0 100000000 = false from HM.out, show outB f4 0 f5 = false from HO.out]; rfl))
                have tt : decide (f5 > 345686399999) = false := decide_eq_false ht
                go_wp2_with (first | (go_at_call 105; refine (HNF.out _ HNK.out).mono ?_; rw [hnf]; rintro e w3 ⟨rfl, hn3⟩; clear q2 q3 q4 q5; (have r3 : w3.cell? ⟨wr.heap.size, 3, none⟩ = some (.int .i64 f3) := World.grownBy.cell (hn3.gr none) HQC.out.2.1 (by simp)); (have r4 : w3.cell? ⟨wr.heap.size, 4, none⟩ = some (.int .i64 f4) := World.grownBy.cell (hn3.gr none) HQC.out.2.2.1 (by simp)); (have r5 : w3.cell? ⟨wr.heap.size, 5, none⟩ = some (.int .i64 f5) := World.grownBy.cell (hn3.gr none) HQC.out.2.2.2 (by simp))) | (go_at_call 49; refine (w_Out _ _ _ _).mono ?_; rintro e w' ⟨rfl, rfl⟩))
                go_roundw
                case rel => exact ⟨k + 1, by omega, by go_num, HNK.out.trans hn3, by rw [HQ.out, HD.out, if_pos HE.out]⟩
                case measure => simp [intOf]; omega
            · have HE := hide (HVF.out 1 (jourE_time HKB.out HA0.out HR0.out HNN.out (show timeJ ⟨k1, k2, xa, cp, nds, f3, f4, f5⟩ = true from by unfold timeJ; rw [show outB f4 0 f5 = true from ho]; simp)) (by decide))
              go_wp2_with (first | (go_at_call 105; refine (HNF.out _ HNK.out).mono ?_; rw [hnf]; rintro e w3 ⟨rfl, hn3⟩; clear q2 q3 q4 q5; (have r3 : w3.cell? ⟨wr.heap.size, 3, none⟩ = some (.int .i64 f3) := World.grownBy.cell (hn3.gr none) HQC.out.2.1 (by simp)); (have r4 : w3.cell? ⟨wr.heap.size, 4, none⟩ = some (.int .i64 f4) := World.grownBy.cell (hn3.gr none) HQC.out.2.2.1 (by simp)); (have r5 : w3.cell? ⟨wr.heap.size, 5, none⟩ = some (.int .i64 f5) := World.grownBy.cell (hn3.gr none) HQC.out.2.2.2 (by simp))) | (go_at_call 49; refine (w_Out _ _ _ _).mono ?_; rintro e w' ⟨rfl, rfl⟩))
              go_ret
              exact ⟨ret_int (by rw [HE.out]), HNK.out.trans hn3⟩
          · have HE := hide (HVF.out 1 (jourE_time HKB.out HA0.out HR0.out HNN.out (show timeJ ⟨k1, k2, xa, cp, nds, f3, f4, f5⟩ = true from by unfold timeJ; rw [show outB f3 0 100000000 = true from hm]; simp)) (by decide))
            go_wp2_with (first | (go_at_call 105; refine (HNF.out _ HNK.out).mono ?_; rw [hnf]; rintro e w3 ⟨rfl, hn3⟩; clear q2 q3 q4 q5; (have r3 : w3.cell? ⟨wr.heap.size, 3, none⟩ = some (.int .i64 f3) := World.grownBy.cell (hn3.gr none) HQC.out.2.1 (by simp)); (have r4 : w3.cell? ⟨wr.heap.size, 4, none⟩ = some (.int .i64 f4) := World.grownBy.cell (hn3.gr none) HQC.out.2.2.1 (by simp)); (have r5 : w3.cell? ⟨wr.heap.size, 5, none⟩ = some (.int .i64 f5) := World.grownBy.cell (hn3.gr none) HQC.out.2.2.2 (by simp))) | (go_at_call 49; refine (w_Out _ _ _ _).mono ?_; rintro e w' ⟨rfl, rfl⟩))
            go_ret
            exact ⟨ret_int (by rw [HE.out]), HNK.out.trans hn3⟩
        · have t1 : (Op.bytesLess k1.toList p0.toList || k1.toList == p0.toList) = true := ho
          have HE := hide (HVF.out 7 (jourE_after HKB.out (show afterJ pv ⟨k1, k2, xa, cp, nds, f3, f4, f5⟩ = true from by rw [HPW.out]; exact ho)) (by decide))
          clear ho
          go_wp2_with (first | (go_at_call 104; (have h9 := hn1); clear h9; refine (w_KeyN k2 _ hK2).mono ?_; rintro e w2 ⟨rfl, hn2⟩; (have s0 : w2.cell? ⟨wr.heap.size, 0, none⟩ = some (.string k1) := World.grownBy.cell ((hn1.trans hn2).gr none) HG.out.1 (by simp)); (have qp : w2.cell? ⟨b, off + (k - 1) * 6, none⟩ = some (.string p0) := World.grownBy.cell (((((Nx.refl wr).alloc _).trans hn1).trans hn2).gr none) HP2.out (by simp))) | (go_at_call 104; refine (w_KeyN k1 _ hK1).mono ?_; rintro e w1 ⟨rfl, hn1⟩; (have q1 : w1.cell? ⟨wr.heap.size, 1, none⟩ = some (.string k2) := World.grownBy.cell (hn1.gr none) HG.out.2.1 (by simp))))
          go_quiet (fail)
          go_wp2_with fail
          go_ret
          exact ⟨ret_int (by rw [HE.out]), HBW.out.trans (((((Nx.refl wr).alloc _).trans hn1).trans hn2).trans ((Nx.refl _).drewN _))⟩
      · have HA0 := hide (show afterJ pv ⟨k1, k2, xa, cp, nds, f3, f4, f5⟩ = false from HP0.out (by omega) _)
        have kp : decide ((k : Int) > 0) = false := decide_eq_false (by omega)
        have kp2 : ¬ (0 : Int) < (k : Int) := by omega
        have kp3 : ¬ 0 < k := hk0
        go_wp2_with (first | (go_at_call 104; (have h9 := hn1); clear h9; refine (w_KeyN k2 _ hK2).mono ?_; rintro e w2 ⟨rfl, hn2⟩; (have s0 : w2.cell? ⟨wr.heap.size, 0, none⟩ = some (.string k1) := World.grownBy.cell ((hn1.trans hn2).gr none) HG.out.1 (by simp)); (have s2 : w2.cell? ⟨wr.heap.size, 2, none⟩ = some (.slice xa r cp) := World.grownBy.cell ((hn1.trans hn2).gr none) HG.out.2.2.1 (by simp)); (have s3 : w2.cell? ⟨wr.heap.size, 3, none⟩ = some (.int .i64 f3) := World.grownBy.cell ((hn1.trans hn2).gr none) HG.out.2.2.2.1 (by simp)); (have s4 : w2.cell? ⟨wr.heap.size, 4, none⟩ = some (.int .i64 f4) := World.grownBy.cell ((hn1.trans hn2).gr none) HG.out.2.2.2.2.1 (by simp)); (have s5 : w2.cell? ⟨wr.heap.size, 5, none⟩ = some (.int .i64 f5) := World.grownBy.cell ((hn1.trans hn2).gr none) HG.out.2.2.2.2.2 (by simp))) | (go_at_call 104; refine (w_KeyN k1 _ hK1).mono ?_; rintro e w1 ⟨rfl, hn1⟩; (have q1 : w1.cell? ⟨wr.heap.size, 1, none⟩ = some (.string k2) := World.grownBy.cell (hn1.gr none) HG.out.2.1 (by simp))))
        go_quiet (fail)
        have hnk : Nx wr (w2.drewN nq) := ((((Nx.refl wr).alloc _).trans hn1).trans hn2).trans ((Nx.refl _).drewN _)
        have HQC := hide (show (w2.drewN nq).cell? ⟨wr.heap.size, 2, none⟩ = some (.slice xa r cp) ∧ (w2.drewN nq).cell? ⟨wr.heap.size, 3, none⟩ = some (.int .i64 f3) ∧ (w2.drewN nq).cell? ⟨wr.heap.size, 4, none⟩ = some (.int .i64 f4) ∧ (w2.drewN nq).cell? ⟨wr.heap.size, 5, none⟩ = some (.int .i64 f5) from ⟨s2, s3, s4, s5⟩)
        have hsk : wr.heap.size < (w2.drewN nq).heap.size := by have h1 := hn1.sz; have h2 := hn2.sz; simp at h1 h2 ⊢; omega
        have HNK := hide (HBW.out.trans hnk)
        clear hnk q1 s0 s2 s3 s4 s5
        generalize w2.drewN nq = wk at *
        clear hn2 hn1 w1 w2
        have q2 := HQC.out.1
        have q3 := HQC.out.2.1
        have q4 := HQC.out.2.2.1
        have q5 := HQC.out.2.2.2
        by_cases hr0 : r = 0
        · have HE := hide (HVF.out 8 (jourE_none HKB.out HA0.out (show nds.length = 0 from by rw [HRL.out]; exact hr0)) (by decide))
          subst hr0
          go_wp2_with fail
          go_ret
          exact ⟨ret_int (by rw [HE.out]), HNK.out⟩
        have tr : ((r : Int) == 0) = false := by simp; omega
        have HR0 := hide (show nds.length ≠ 0 from by rw [HRL.out]; exact hr0)
        cases hall : nds.all keyB
        · have hnf : namesF nds 2000 = 5 := namesF_not (by rw [HRL.out]; exact HLX.out) hall
          have HE := hide (HVF.out 5 (jourE_names HKB.out HA0.out HR0.out hnf (by decide)) (by decide))
          go_wp2_with (first | (go_at_call 105; refine (HNF.out _ HNK.out).mono ?_; rw [hnf]; rintro e w3 ⟨rfl, hn3⟩; clear q2 q3 q4 q5; (have r3 : w3.cell? ⟨wr.heap.size, 3, none⟩ = some (.int .i64 f3) := World.grownBy.cell (hn3.gr none) HQC.out.2.1 (by simp)); (have r4 : w3.cell? ⟨wr.heap.size, 4, none⟩ = some (.int .i64 f4) := World.grownBy.cell (hn3.gr none) HQC.out.2.2.1 (by simp)); (have r5 : w3.cell? ⟨wr.heap.size, 5, none⟩ = some (.int .i64 f5) := World.grownBy.cell (hn3.gr none) HQC.out.2.2.2 (by simp))) | (go_at_call 49; refine (w_Out _ _ _ _).mono ?_; rintro e w' ⟨rfl, rfl⟩))
          go_ret
          exact ⟨ret_int (by rw [HE.out]), HNK.out.trans hn3⟩
        have hnf : namesF nds 2000 = 0 := namesF_all (by rw [HRL.out]; exact HLX.out) hall
        have HNN := hide hnf
        cases hm : outB f3 0 100000000
        · have HM := hide hm
          cases ho : outB f4 0 f5
          · have HO := hide ho
            by_cases ht : 345686399999 < f5
            · have HE := hide (HVF.out 1 (jourE_time HKB.out HA0.out HR0.out HNN.out (show timeJ ⟨k1, k2, xa, cp, nds, f3, f4, f5⟩ = true from by unfold timeJ; rw [decide_eq_true ht]; simp)) (by decide))
              have tt : decide (f5 > 345686399999) = true := decide_eq_true ht
              go_wp2_with (first | (go_at_call 105; refine (HNF.out _ HNK.out).mono ?_; rw [hnf]; rintro e w3 ⟨rfl, hn3⟩; clear q2 q3 q4 q5; (have r3 : w3.cell? ⟨wr.heap.size, 3, none⟩ = some (.int .i64 f3) := World.grownBy.cell (hn3.gr none) HQC.out.2.1 (by simp)); (have r4 : w3.cell? ⟨wr.heap.size, 4, none⟩ = some (.int .i64 f4) := World.grownBy.cell (hn3.gr none) HQC.out.2.2.1 (by simp)); (have r5 : w3.cell? ⟨wr.heap.size, 5, none⟩ = some (.int .i64 f5) := World.grownBy.cell (hn3.gr none) HQC.out.2.2.2 (by simp))) | (go_at_call 49; refine (w_Out _ _ _ _).mono ?_; rintro e w' ⟨rfl, rfl⟩))
              go_ret
              exact ⟨ret_int (by rw [HE.out]), HNK.out.trans hn3⟩
            · have HE := hide (show jourE pv ⟨k1, k2, xa, cp, nds, f3, f4, f5⟩ = 0 from jourE_zero HKB.out HA0.out HR0.out HNN.out (show timeJ ⟨k1, k2, xa, cp, nds, f3, f4, f5⟩ = false from by unfold timeJ; rw [decide_eq_false ht, show outB f3 0 100000000 = false from HM.out, show outB f4 0 f5 = false from HO.out]; rfl))
              have tt : decide (f5 > 345686399999) = false := decide_eq_false ht
              go_wp2_with (first | (go_at_call 105; refine (HNF.out _ HNK.out).mono ?_; rw [hnf]; rintro e w3 ⟨rfl, hn3⟩; clear q2 q3 q4 q5; (have r3 : w3.cell? ⟨wr.heap.size, 3, none⟩ = some (.int .i64 f3) := World.grownBy.cell (hn3.gr none) HQC.out.2.1 (by simp)); (have r4 : w3.cell? ⟨wr.heap.size, 4, none⟩ = some (.int .i64 f4) := World.grownBy.cell (hn3.gr none) HQC.out.2.2.1 (by simp)); (have r5 : w3.cell? ⟨wr.heap.size, 5, none⟩ = some (.int .i64 f5) := World.grownBy.cell (hn3.gr none) HQC.out.2.2.2 (by simp))) | (go_at_call 49; refine (w_Out _ _ _ _).mono ?_; rintro e w' ⟨rfl, rfl⟩))
              go_roundw
              case rel => exact ⟨k + 1, by omega, by go_num, HNK.out.trans hn3, by rw [HQ.out, HD.out, if_pos HE.out]⟩
              case measure => simp [intOf]; omega
          · have HE := hide (HVF.out 1 (jourE_time HKB.out HA0.out HR0.out HNN.out (show timeJ ⟨k1, k2, xa, cp, nds, f3, f4, f5⟩ = true from by unfold timeJ; rw [show outB f4 0 f5 = true from ho]; simp)) (by decide))
            go_wp2_with (first | (go_at_call 105; refine (HNF.out _ HNK.out).mono ?_; rw [hnf]; rintro e w3 ⟨rfl, hn3⟩; clear q2 q3 q4 q5; (have r3 : w3.cell? ⟨wr.heap.size, 3, none⟩ = some (.int .i64 f3) := World.grownBy.cell (hn3.gr none) HQC.out.2.1 (by simp)); (have r4 : w3.cell? ⟨wr.heap.size, 4, none⟩ = some (.int .i64 f4) := World.grownBy.cell (hn3.gr none) HQC.out.2.2.1 (by simp)); (have r5 : w3.cell? ⟨wr.heap.size, 5, none⟩ = some (.int .i64 f5) := World.grownBy.cell (hn3.gr none) HQC.out.2.2.2 (by simp))) | (go_at_call 49; refine (w_Out _ _ _ _).mono ?_; rintro e w' ⟨rfl, rfl⟩))
            go_ret
            exact ⟨ret_int (by rw [HE.out]), HNK.out.trans hn3⟩
        · have HE := hide (HVF.out 1 (jourE_time HKB.out HA0.out HR0.out HNN.out (show timeJ ⟨k1, k2, xa, cp, nds, f3, f4, f5⟩ = true from by unfold timeJ; rw [show outB f3 0 100000000 = true from hm]; simp)) (by decide))
          go_wp2_with (first | (go_at_call 105; refine (HNF.out _ HNK.out).mono ?_; rw [hnf]; rintro e w3 ⟨rfl, hn3⟩; clear q2 q3 q4 q5; (have r3 : w3.cell? ⟨wr.heap.size, 3, none⟩ = some (.int .i64 f3) := World.grownBy.cell (hn3.gr none) HQC.out.2.1 (by simp)); (have r4 : w3.cell? ⟨wr.heap.size, 4, none⟩ = some (.int .i64 f4) := World.grownBy.cell (hn3.gr none) HQC.out.2.2.1 (by simp)); (have r5 : w3.cell? ⟨wr.heap.size, 5, none⟩ = some (.int .i64 f5) := World.grownBy.cell (hn3.gr none) HQC.out.2.2.2 (by simp))) | (go_at_call 49; refine (w_Out _ _ _ _).mono ?_; rintro e w' ⟨rfl, rfl⟩))
          go_ret
          exact ⟨ret_int (by rw [HE.out]), HNK.out.trans hn3⟩
    · have ek : k = n := by omega
      subst ek
      have HE := hide (show chk jourE (prevOf ts k) (ts.drop k) = 0 by rw [List.drop_eq_nil_iff.2 (by have := HN.out; omega)]; rfl)
      go_wp2_with fail
      go_ret
      exact ⟨ret_int (by rw [HF.out, HQ.out, HE.out]), hbw⟩
end Go.Proofs.YthlhomcgjgfdhaaGreatDoor
