/- jitkeep1.CallsAreAllCounted returns true. -/
import Derived.Test.YtfnbmcinbmbehaaGreatQG0
import Derived.Test.YtfnbmcinbmbehaaGreatQCalls
import Derived.Test.YtfnbmcinbmbehaaGreatQSum2
import Derived.Test.YtfnbmcinbmbehaaGreatQG12
import Derived.Test.YtfnbmcinbmbehaaGreatQG28
import Derived.Deep.DeepCutAuto
namespace Go.Proofs.YtfnbmcinbmbehaaGreat
open Go.RowKit Go.Sort Go.Shelf Go.Maps

theorem hd_add (A : Option Addr) (q : Nat) (h : 0 < q → ∃ b off, A = some ⟨b, off, none⟩) : (if q = 0 then A else A.map (·.add (0 * 3))) = A := by
  by_cases h0 : q = 0
  · rw [if_pos h0]
  · rw [if_neg h0]
    obtain ⟨b, off, rfl⟩ := h (by omega)
    simp [Addr.add]
/-- The first ones: their room is cut off. -/
theorem cut_head (A : Option Addr) (n c q : Nat) (hq : q ≤ n) (hnc : n ≤ c) (h : 0 < q → ∃ b off, A = some ⟨b, off, none⟩) (w : World) :
    (Instr.slice 36 (.slice A n c) none (some (.int .i64 (q : Int))) (some (.int .i64 (q : Int)))).run Tryz.prog w = .ok (.slice A q q) w := by
  rw [run_slice_hm w 36 A n c (by kernel_rfl) .i64 .i64 (q : Int) (q : Int) (by omega) (by omega) (by omega)]
  have e := hd_add A q h
  simp at e
  go_simp
  try exact e
theorem cut_tail (A : Option Addr) (n c q : Nat) (hq : q ≤ n) (w : World) :
    (Instr.slice 36 (.slice A n c) (some (.int .i64 (q : Int))) none none).run Tryz.prog w = .ok (.slice (if c = q then A else A.map (·.add (q * 3))) (n - q) (c - q)) w := by
  rw [run_slice_l w 36 A n c (by kernel_rfl) .i64 (q : Int) (by omega) (by omega)]
  go_simp
theorem rd_tail {w : World} {lo : Nat} {A : Option Addr} {l : List Call} {c q : Nat} (h : Rd w lo A 3 encCall l) (hq : q ≤ l.length) (hc : l.length ≤ c) : Rd w lo (if c = q then A else A.map (·.add (q * 3))) 3 encCall (l.drop q) := fun hp => by
  rw [List.length_drop] at hp
  obtain ⟨b, off, rfl, h1, h2, h3⟩ := h (by omega)
  rw [if_neg (by omega)]
  refine ⟨b, off + q * 3, by simp [Addr.add], h1, h2, fun i x hx j u hu => ?_⟩
  rw [List.getElem?_drop] at hx
  have := h3 (q + i) x hx j u hu
  rw [Nat.add_mul, ← Nat.add_assoc] at this
  exact this
set_option maxRecDepth 100000 in
set_option maxHeartbeats 8000000 in
theorem w_lawCA (A : Option Addr) (n c : Nat) (w : World) (hn : n ≤ 9223372036854775807)
    (hL : 0 < n → ∃ b off, A = some ⟨b, off, none⟩ ∧ b < w.heap.size ∧ ∀ j, j < n → ∃ z : Int, w.cell? ⟨b, off + j, none⟩ = some (.int .i64 z) ∧ -9223372036854775808 ≤ z ∧ z ≤ 9223372036854775807) :
    Calls Tryz.prog 4 #[.slice A n c] w (TrueNx w) := by
  have hS0 : Str (w.alloc (.cells #[.slice A n c, .int .i64 0] 25)) w.heap.size 0 := str_new A n c w hn hL
  clear hL
  go_enter Tryz.func4, Tryz.ntmps4
  go_wp2_with fail
  refine (w_Range _ _ _ _ _ hS0 (by omega) (by omega) (by omega)).mono ?_
  rintro e w1 ⟨many, hm1, hm2, rfl, hg1, hS1⟩
  go_wp2_with fail
  refine (w_Calls _ _ _ _ hS1 (by omega) ⟨hm1, hm2⟩).mono ?_
  rintro e w2 ⟨cA, cc, cl, rfl, hcl, hR2, hg2, hS2, hcap⟩
  have hNG : Gr w.heap.size w w2 := (Gr.of_nx ((Nx.refl w).alloc _)).trans (hg1.trans hg2)
  have hs1 := hS1.lt
  clear hS0 hS1 hg1 hg2
  go_wp2_with fail
  refine (w_CallsFault _ _ _ _ _ hR2 (by omega)).mono ?_
  rintro e w3 ⟨rfl, hn3⟩
  by_cases hf : callsF cl = 0
  · have t1 : (callsF cl != 0) = false := by rw [hf]; rfl
    have hS3 := hS2.nx hn3
    have hR3 := hR2.nx hn3
    have HF := hide hf
    clear hf hS2 hR2
    go_wp2_with fail
    refine (w_Next _ _ _ _ hS3 (by omega) (by omega)).mono ?_
    rintro e w4 ⟨r, hr1, hr2, rfl, hg4, hS4⟩
    obtain ⟨q, rfl⟩ := Int.eq_ofNat_of_zero_le hr1
    have hq : q ≤ cl.length := by omega
    have hR4 := hR3.gr hg4 hs1
    have hNW : Nx w w4 := Nx.of_gr ((hNG.then_nx hn3).trans hg4) (Nat.le_refl _)
    have hc1 : ∀ W, (Instr.slice 36 (.slice cA cl.length cc) none (some (.int .i64 (q : Int))) (some (.int .i64 (q : Int)))).run Tryz.prog W = .ok (.slice cA q q) W :=
      cut_head cA cl.length cc q hq hcap (fun h0 => by obtain ⟨b, off, e, _⟩ := hR4 (by omega); exact ⟨b, off, e⟩)
    obtain ⟨dA, hdA⟩ : ∃ dA, dA = (if cc = q then cA else cA.map (·.add (q * 3))) := ⟨_, rfl⟩
    have hc2 : ∀ W, (Instr.slice 36 (.slice cA cl.length cc) (some (.int .i64 (q : Int))) none none).run Tryz.prog W = .ok (.slice dA (cl.length - q) (cc - q)) W := hdA ▸ cut_tail cA cl.length cc q hq
    have hD4 : Rd w4 w1.heap.size dA 3 encCall (cl.drop q) := hdA ▸ rd_tail hR4 hq hcap
    have hT4 := hR4.take q
    obtain ⟨hf1, hf2⟩ := calls_parts (by omega) HF.out q
    have hlt : (cl.take q).length = q := by rw [List.length_take]; omega
    have hld : (cl.drop q).length = cl.length - q := by rw [List.length_drop]
    have HT := hide (fun W (hx : Nx w4 W) => w_Tallies _ cA q (cl.take q) 100 60 W (hT4.nx hx) (by omega) hf1 (by decide) (by decide))
    have HD := hide (fun W (hx : Nx w4 W) => w_Tallies _ dA (cc - q) (cl.drop q) 100 60 W (hD4.nx hx) (by omega) hf2 (by decide) (by decide))
    have HA := hide (fun W (hx : Nx w4 W) => w_Tallies _ cA cc cl 100 60 W (hR4.nx hx) (by omega) HF.out (by decide) (by decide))
    rw [hlt] at HT
    rw [hld] at HD
    have HSP := hide (List.take_append_drop q cl)
    have HLT := hide hlt
    have HLD := hide hld
    have HOK := hide (callsF_ok HF.out)
    clear hdA hR3 hR4 hD4 hT4 hf1 hf2 hlt hld hS3 hS4
    go_wp2_with fail
    refine (HT.out _ (Nx.refl _)).mono ?_
    rintro e w5 ⟨A5, c5, ya, rfl, hLa, hRa, hn5⟩
    go_wp2_with fail
    refine (HD.out _ hn5).mono ?_
    rintro e w6 ⟨A6, c6, yb, rfl, hLb, hRb, hn6⟩
    go_wp2_with fail
    refine (HA.out _ (hn5.trans hn6)).mono ?_
    rintro e w7 ⟨A7, c7, yc, rfl, hLc, hRc, hn7⟩
    have HLa := hide hLa
    have HLb := hide hLb
    have HLc := hide hLc
    have hx7 : Nx w w7 := ((hNW.trans hn5).trans hn6).trans hn7
    have HRa := hide ((hRa.nx hn6).nx hn7)
    have HRb := hide (hRb.nx hn7)
    have HRc := hide hRc
    clear hLa hLb hLc hRa hRb hRc HT HD HA hc1 hc2
    have hyc : yc.length ≤ 12 := by
      have h3 := listed_len HLc.out (cl.map (spotOf 100 60)) (fun s hs => by obtain ⟨c, hc, rfl⟩ := cntF_pos hs; exact List.mem_map_of_mem hc)
      rw [List.length_map] at h3; omega
    have hya : ya.length ≤ 12 := by
      have h3 := listed_len HLa.out ((cl.take q).map (spotOf 100 60)) (fun s hs => by obtain ⟨c, hc, rfl⟩ := cntF_pos hs; exact List.mem_map_of_mem hc)
      rw [List.length_map, HLT.out] at h3; omega
    have hyb : yb.length ≤ 12 := by
      have h3 := listed_len HLb.out ((cl.drop q).map (spotOf 100 60)) (fun s hs => by obtain ⟨c, hc, rfl⟩ := cntF_pos hs; exact List.mem_map_of_mem hc)
      rw [List.length_map, HLD.out] at h3; omega
    have HSU := hide (sumT_cnt HLc.out)
    have HSB := hide (fun k => sumT_le (fun t ht => (cnt_many HLc.out t ht).1) k)
    have HMB := hide (cnt_many HLc.out)
    have HTA := hide (cnt_talliesF (by omega) (fun c hc => HOK.out c (List.mem_of_mem_take hc)) (by rw [HLT.out]; omega) HLa.out)
    have HTB := hide (cnt_talliesF (by omega) (fun c hc => HOK.out c (List.mem_of_mem_drop hc)) (by rw [HLD.out]; omega) HLb.out)
    have HTC := hide (cnt_talliesF (by omega) HOK.out (by omega) HLc.out)
    have HACC := hide (show accF ((ya ++ yb).map pairT) = cntF 100 60 cl by rw [acc_both HLa.out HLb.out, HSP.out])
    have HCB := hide (fun s => (show cntF 100 60 cl s ≤ 12 by have := cntF_le 100 60 cl s; omega))
    go_wp2_with fail
    generalize hnc : yc.length = m at *
    have HNC := hide hnc
    clear hnc
    generalize cl.length = lc at *
    go_loopw [12, 14, 67] (fun v _ i wr => ∃ k : Nat, k ≤ m ∧ i = .int .i64 k ∧ v = .int .i64 ((lc : Int) - sumT (yc.take k)) ∧ Nx w7 wr) (fun _ _ i _ => m - (intOf i).toNat)
    case atStart => exact ⟨0, Nat.zero_le _, rfl, by simp [sumT], Nx.refl _⟩
    case round =>
      obtain ⟨k, hk, rfl, rfl, hbw⟩ := hrel
      have hsk := HSB.out k
      rw [HSU.out] at hsk
      by_cases hlt : k < m
      · have hlt' : k < yc.length := by have := HNC.out; omega
        obtain ⟨b, off, rfl, _, hb, hbr, hc⟩ := HRc.out.open_ hbw (by omega)
        have c0 : wr.cell? ⟨b, off + k * 4, none⟩ = some (.int .i64 yc[k].x) := hc k hlt' 0 _ rfl
        have c1 : wr.cell? ⟨b, off + k * 4 + 1, none⟩ = some (.int .i64 yc[k].y) := hc k hlt' 1 _ rfl
        have c2 : wr.cell? ⟨b, off + k * 4 + 2, none⟩ = some (.int .i64 yc[k].hour) := hc k hlt' 2 _ rfl
        have c3 : wr.cell? ⟨b, off + k * 4 + 3, none⟩ = some (.int .i64 yc[k].many) := hc k hlt' 3 _ rfl
        have hmk := HMB.out yc[k] (List.getElem_mem hlt')
        have HTK := hide (sumT_take yc k hlt')
        clear hc
        generalize sumT (yc.take k) = sk at *
        obtain ⟨hsk1, hsk2⟩ := hsk
        obtain ⟨hm1', hm2'⟩ := hmk
        go_wp2_with fail
        go_roundw
        case rel => exact ⟨k + 1, by omega, by go_num, by rw [HTK.out]; congr 1; omega, hbw.alloc _⟩
        case measure => simp [intOf]; omega
      · have hkm : k = m := by omega
        subst hkm
        have HS0 := hide (show (lc : Int) - sumT (yc.take k) = 0 by rw [List.take_of_length_le (by have := HNC.out; omega), HSU.out]; omega)
        rw [HS0.out]
        have hTG := w_Together _ _ A5 A6 c5 c6 ya yb wr (HRa.out.nx hbw) (HRb.out.nx hbw) (by omega) (by omega) HTA.out HTB.out
        rw [HACC.out] at hTG
        have HTG := hide hTG
        have hB' : BndR (cntF 100 60 cl) 0 yc := .inr ⟨fun s => by have := HCB.out s; unfold maxCents; omega, yc, HLc.out, HTC.out.symm, by rw [HTC.out]; rfl⟩
        have HB' := hide hB'
        clear hTG hB'
        go_wp2_with fail
        refine HTG.out.mono ?_
        rintro e w8 ⟨A8, c8, E, zs, hB, rfl, hR8, hn8⟩
        obtain ⟨hE, hzs⟩ := hB.unique HB'.out
        subst hE hzs
        have hEQ := w_EqualT _ _ A8 A7 c8 c7 zs w8 hR8 ((HRc.out.nx hbw).nx hn8) (by rw [HNC.out]; omega)
        rw [HNC.out] at hEQ ⊢
        have HEQ := hide hEQ
        clear hEQ hR8 hB
        go_wp2_with (first
          | (go_at_call 14; refine HEQ.out.mono ?_; rintro e w9 ⟨rfl, hn9⟩)
          | (go_at_call 7; refine (w_ready _).mono ?_; rintro e w10 ⟨rfl, hn10⟩))
        go_ret
        exact ⟨rfl, (((hx7.trans hbw).trans hn8).trans hn9).trans hn10⟩
  · have t1 : (callsF cl != 0) = true := by simpa using hf
    go_wp2_with (go_at_call 7; refine (w_ready _).mono ?_; rintro e w6 ⟨rfl, hn6⟩)
    go_ret
    exact ⟨rfl, (Nx.of_gr (hNG.then_nx hn3) (Nat.le_refl _)).trans hn6⟩
end Go.Proofs.YtfnbmcinbmbehaaGreat
