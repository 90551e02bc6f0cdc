/- Legs split by ride: the reference's sums. -/
import Derived.Test.YtjhmgkoghapocaaDoorByLS
import Derived.Test.YtjhmgkoghapocaaDoorDues
import Derived.StillTailTactics
import Derived.StillTail
namespace Go.Proofs.YtjhmgkoghapocaaDoor
open Go.RowKit Go.Sort Go.Shelf Go.Maps Go.Proofs

theorem small_dom {l : List ByteArray} (h : Small l) (k : Nat) (hk : k < l.length) : domS l[k] := by
  have := h.at k hk
  unfold domS maxLen; omega

set_option maxRecDepth 100000 in
set_option maxHeartbeats 2000000 in
theorem w_ByLegsOf (lo : Nat) (A : Option Addr) (c : Nat) (ls : List Leg) (w : World) (hR : RdLegs w lo A ls) (hl : ls.length ≤ 100) (h0 : legsF ls = 0) :
    Calls Tryd.prog 43 #[.slice A ls.length c] w (DuesR (legsK ls ls.length) true w) := by
  have HX := hide hR.2
  have HR := hide hR.1
  have HG := hide (legsF_ok h0)
  have HB := hide (legsK_bd ls (legsF_ok h0))
  generalize hn : ls.length = n at *
  have HN := hide hn
  clear hR hn h0
  have hmm := @run_makeMap Tryd.prog
  go_enter Tryd.func43, Tryd.ntmps43
  go_wp2_with fail
  clear hmm
  have HM0 := hide (MoI.made (P := Tryd.prog) (K := 9) (E := 3) (ek := Value.string) (dom := domS) w)
  go_loopw [12] (fun i wr => ∃ k : Nat, k ≤ n ∧ i = .int .i64 k ∧ Nx w wr ∧ MpK wr w.heap.size (40 * k) (legsK ls k)) (fun i _ => n - (intOf i).toNat)
  case atStart => exact ⟨0, Nat.zero_le _, rfl, (Nx.refl _).alloc _, HM0.out⟩
  case round =>
    clear HM0
    obtain ⟨k, hk, rfl, hbw, hM⟩ := hrel
    by_cases hlt : k < n
    · have hlt' : k < ls.length := by have := HN.out; omega
      obtain ⟨hRx, hSx, hLx⟩ := HX.out ls[k] (List.getElem_mem hlt')
      have HOK := hide (HG.out ls[k] (List.getElem_mem hlt'))
      have HS := hide (legsK_succ ls k hlt')
      have HBK := hide (HB.out k (by omega))
      obtain ⟨b, off, rfl, _, hb, hbr, hc⟩ := HR.out.open_ hbw (by omega)
      have c0 : wr.cell? ⟨b, off + k * 2, none⟩ = some (.slice ls[k].a ls[k].rides.length ls[k].cap) := hc k hlt' 0 _ rfl
      have c1 : wr.cell? ⟨b, off + k * 2 + 1, none⟩ = some (.int .i64 ls[k].cents) := hc k hlt' 1 _ rfl
      clear hc
      generalize ls[k] = x at *
      generalize x.a = xa at *
      generalize legsK ls k = f at *
      have hml := hM.lt
      generalize hr : x.rides.length = r at *
      have HRL := hide hr
      have HRX := hide hRx
      have HSX := hide hSx
      have HM := hide (hM.nx ((Nx.refl _).alloc (.cells #[.slice xa r x.cap, .int .i64 x.cents] 100)))
      have hbw1 := hbw.alloc (.cells #[.slice xa r x.cap, .int .i64 x.cents] 100)
      have hb0 : (wr.alloc (.cells #[.slice xa r x.cap, .int .i64 x.cents] 100)).cell? ⟨wr.heap.size, 0, none⟩ = some (.slice xa r x.cap) := by go_simp
      have hb1 : (wr.alloc (.cells #[.slice xa r x.cap, .int .i64 x.cents] 100)).cell? ⟨wr.heap.size, 1, none⟩ = some (.int .i64 x.cents) := by go_simp
      have hsz1 : (wr.alloc (.cells #[.slice xa r x.cap, .int .i64 x.cents] 100)).heap.size = wr.heap.size + 1 := by simp
      clear hRx hSx hM hbw hr
      go_wp2_with fail
      generalize wr.alloc (.cells #[.slice xa r x.cap, .int .i64 x.cents] 100) = wk at *
      have HB1 := hide (And.intro hb0 hb1)
      clear hb0 hb1
      obtain ⟨wo, hwo⟩ : ∃ wo, wo = wr := ⟨_, rfl⟩
      subst hwo
      have hr1 : 1 ≤ r ∧ r ≤ 10 := by have h1 := HOK.out.pos; have h2 := HOK.out.le; have := HRL.out; omega
      have hc01 : 0 ≤ x.cents ∧ x.cents ≤ 1000000000 := by have h1 := HOK.out.c0; have h2 := HOK.out.c1; unfold maxCt at h2; omega
      go_loopw [22] (fun i wi => ∃ j : Nat, j ≤ r ∧ i = .int .i64 j ∧ Gr w.heap.size wk wi ∧ MpK wi w.heap.size (40 * k + 2 * j) (rideK x.rides x.cents f j)) (fun i _ => r - (intOf i).toNat)
      case atStart => exact ⟨0, Nat.zero_le _, rfl, Gr.refl _ _, HM.out⟩
      case round =>
        clear HM
        obtain ⟨j, hj, rfl, hgw, hM⟩ := hrel
        have hszi := hgw.sz
        have c2 : wr.cell? ⟨wo.heap.size, 0, none⟩ = some (.slice xa r x.cap) := World.grownBy.cell (row := some w.heap.size) hgw HB1.out.1 (by simp; omega)
        have c3 : wr.cell? ⟨wo.heap.size, 1, none⟩ = some (.int .i64 x.cents) := World.grownBy.cell (row := some w.heap.size) hgw HB1.out.2 (by simp; omega)
        by_cases hjl : j < r
        · have hjl' : j < x.rides.length := by have := HRL.out; omega
          have hnxi : Nx w wr := hbw1.grown hgw (fun i hi => by injection hi with hi; omega)
          obtain ⟨b2, off2, rfl, _, hb2, hbr2, hc2⟩ := HRX.out.open_ hnxi (by omega)
          have c4 : wr.cell? ⟨b2, off2 + j, none⟩ = some (.string x.rides[j]) := by have := hc2 j hjl' 0 _ rfl; simpa using this
          have hdk := small_dom HSX.out j hjl'
          have HD := hide (rideK_succ x.rides x.cents f j hjl')
          have HBD := hide (rideK_bd HBK.out HOK.out.pos HOK.out.c0 HOK.out.c1 j)
          clear hc2
          generalize x.rides[j] = ky at *
          generalize rideK x.rides x.cents f j = g at *
          have hkm := keyS_mk Tryd.underlying9 hdk
          have HL := hide ((hM.nx ((Nx.refl _).drew)).look law_str Tryd.underlying102 Tryd.underlying3 (zeroIntK _) hdk hkm).1
          have hbk := HBD.out ky
          unfold maxCt at hbk
          obtain ⟨v0, hv0⟩ : ∃ v0, v0 = (g ky).getD 0 := ⟨_, rfl⟩
          rw [← hv0] at HL hbk
          have hvb : 0 ≤ v0 ∧ v0 ≤ 1020000000000 := by omega
          obtain ⟨q0, hq0⟩ : ∃ q0, q0 = x.cents / (r : Int) := ⟨_, rfl⟩
          obtain ⟨m0, hm0⟩ : ∃ m0, m0 = x.cents % (r : Int) := ⟨_, rfl⟩
          have d1 : x.cents.tdiv (r : Int) = q0 := by rw [Int.tdiv_eq_ediv_of_nonneg hc01.1, hq0]
          have d2 : x.cents.tmod (r : Int) = m0 := by rw [Int.tmod_eq_emod_of_nonneg hc01.1, hm0]
          have hqb : 0 ≤ q0 ∧ q0 ≤ 1000000000 := by
            have e1 : 0 ≤ x.cents / (r : Int) := Int.ediv_nonneg hc01.1 (by omega)
            have e2 : x.cents / (r : Int) * (r : Int) ≤ x.cents := Int.ediv_mul_le _ (by omega)
            have e3 : x.cents / (r : Int) * 1 ≤ x.cents / (r : Int) * (r : Int) := Int.mul_le_mul_of_nonneg_left (by omega) e1
            omega
          have hmb : 0 ≤ m0 ∧ m0 < r := by
            rw [hm0]; exact ⟨Int.emod_nonneg _ (by omega), Int.emod_lt_of_pos _ (by omega)⟩
          have t0 : ¬ r = 0 := by omega
          have HLI := hide (show legI x.cents r j = q0 + if (j : Int) < m0 then 1 else 0 by rw [hq0, hm0]; rfl)
          have w1 : IntKind.i64.wrap q0 = q0 := IntWalk.i64_in _ (by omega)
          have w2 : IntKind.i64.wrap m0 = m0 := IntWalk.i64_in _ (by omega)
          have w3 : IntKind.i64.wrap (v0 + q0) = v0 + q0 := IntWalk.i64_in _ (by omega)
          have w4 : IntKind.i64.wrap (v0 + q0 + 1) = v0 + q0 + 1 := IntWalk.i64_in _ (by omega)
          have HV := hide hv0
          have HMM := hide hM
          clear hv0 hq0 hm0 hM hbk
          have hlk := HL.out
          go_wp2_with fail
          go_still_tail 8, (by kernel_rfl)
          change wpList _ _ _ _ _ wr.drew
          have hgx : BndK g (10000000000 * (k : Int) + maxCt * (j : Int)) := HBD.out
          clear w1
          by_cases hjm : (j : Int) < m0
          · have t1 : decide ((j : Int) < m0) = true := decide_eq_true hjm
            rw [if_pos hjm] at HLI
            clear hjm
            go_wp2_with (first
              | (at_mapUpdate; refine wpMoPut _ rfl _ _ _ _ rfl law_str strV_inj Tryd.underlying102 Tryd.underlying3 w.heap.size (40 * k + 2 * j) g rfl (HMM.out.nx ((Nx.refl _).drew)) (by unfold maxLen; omega) ky rfl hdk _ hkm (v0 + q0) rfl (wf_i64o.2 ⟨by omega, by omega⟩) ?_; intro w2 hm2 hg2; (have hgr2 := (Gr.refl w.heap.size wr).drew.trans hg2); (have c23 := World.grownBy.cell (row := some w.heap.size) hgr2 c3 (by simp; omega)); (have HM2 := hide hm2); clear hm2)
              | (at_lookup; refine wpMoLook _ rfl _ _ _ rfl law_str Tryd.underlying102 Tryd.underlying3 (zeroIntK _) w.heap.size (40 * k + 2 * j + 1) _ rfl HM2.out ky rfl hdk _ hkm ?_; rw [if_pos rfl]; intro hwf2)
              | (at_mapUpdate; refine wpMoPut _ rfl _ _ _ _ rfl law_str strV_inj Tryd.underlying102 Tryd.underlying3 w.heap.size (40 * k + 2 * j + 1) _ rfl HM2.out (by unfold maxLen; omega) ky rfl hdk _ hkm (v0 + q0 + 1) rfl (wf_i64o.2 ⟨by omega, by omega⟩) ?_; intro w5 hm5 hg5; (have HM5 := hide hm5); clear hm5))
            go_roundw
            case rel =>
              refine ⟨j + 1, by omega, by go_num, hgw.trans (hgr2.trans hg5), ?_⟩
              rw [HD.out, HRL.out, HLI.out]
              have e : (fun k' => if k' = ky then some (v0 + q0 + 1) else (fun k' => if k' = ky then some (v0 + q0) else g k') k') = addK g ky (q0 + 1) := by
                funext k'
                unfold addK
                by_cases h : k' = ky
                · simp [h, ← HV.out]; omega
                · simp [h]
              rw [← e]
              exact HM5.out.mono (by omega)
            case measure => simp [intOf]; omega
          · have t1 : decide ((j : Int) < m0) = false := decide_eq_false hjm
            rw [if_neg hjm] at HLI
            clear hjm
            go_wp2_with (first
              | (at_mapUpdate; refine wpMoPut _ rfl _ _ _ _ rfl law_str strV_inj Tryd.underlying102 Tryd.underlying3 w.heap.size (40 * k + 2 * j) g rfl (HMM.out.nx ((Nx.refl _).drew)) (by unfold maxLen; omega) ky rfl hdk _ hkm (v0 + q0) rfl (wf_i64o.2 ⟨by omega, by omega⟩) ?_; intro w2 hm2 hg2; (have hgr2 := (Gr.refl w.heap.size wr).drew.trans hg2); (have c23 := World.grownBy.cell (row := some w.heap.size) hgr2 c3 (by simp; omega)); (have HM2 := hide hm2); clear hm2))
            go_roundw
            case rel =>
              refine ⟨j + 1, by omega, by go_num, hgw.trans hgr2, ?_⟩
              rw [HD.out, HRL.out, HLI.out]
              have e : (fun k' => if k' = ky then some (v0 + q0) else g k') = addK g ky (q0 + 0) := by
                funext k'
                unfold addK
                by_cases h : k' = ky
                · simp [h, ← HV.out]
                · simp [h]
              rw [← e]
              exact HM2.out.mono (by omega)
            case measure => simp [intOf]; omega
        · have ej : j = r := by omega
          subst ej
          go_wp2_with fail
          go_roundw
          case rel => exact ⟨k + 1, by omega, by go_num, hbw1.grown hgw (fun i hi => by injection hi with hi; omega), by rw [HS.out]; exact (by have := HRL.out; rw [this] at *; exact hM.mono (by omega))⟩
          case measure => simp [intOf]; omega
    · have ek : k = n := by omega
      subst ek
      go_wp2_with (go_at_call 78; refine (w_duesR _ _ _ true _ hM (by omega)).mono ?_; rintro e w2 ⟨A2, c2, ys, rfl, hD, hR2, hyl, hn2⟩)
      go_ret
      exact ⟨A2, c2, ys, rfl, hD, hR2.low (by have := hbw.sz; omega), hyl, hbw.trans hn2⟩
end Go.Proofs.YtjhmgkoghapocaaDoor
