/- A whole shared fairly: the program's walk, its second half: what is given out. -/
import Derived.Test.YtfnbmcinbmbehaaGreatDoorQG5
import Derived.Test.YtfnbmcinbmbehaaGreatDoorQG19
namespace Go.Proofs.YtfnbmcinbmbehaaGreatDoor
open Go.RowKit Go.Sort Go.Proofs Go.Shelf

set_option maxRecDepth 100000 in
set_option maxHeartbeats 8000000 in
theorem st_Fair {lo lo' c c' capf gp gf m k : Nat} {A B : Option Addr} {l : List ByteArray} {cs NF : List Int} {w w5 wc : World} {vo vb : Value} (hR : Rd w lo A 1 encS l) (hC : Rd w lo' B 1 encI cs) (hn : l.length = k) (hm : cs.length = m) (hk : k ≤ 5) (hm1 : 1 ≤ m ∧ m ≤ 1024)
    (hbw : Nx w w5) (hcut : FairMid k w5 vo vb wc) (hP : Rd w5 w.heap.size (some ⟨gp, 0, none⟩) 1 encI NF) (hgf : gf < w5.heap.size) (hfc : w5.cell? ⟨gf, k, none⟩ = some (.int .i64 ((factN k : Nat) : Int)))
    (hNL : NF.length = k) (hNS : sumL NF = ((factN k : Nat) : Int) * cs.getD (m - 1) 0) (hNB : ∀ x ∈ NF, -7680000000000 ≤ x ∧ x ≤ 7680000000000) (hall : 0 ≤ cs.getD (m - 1) 0 ∧ cs.getD (m - 1) 0 ≤ 1000000000) (R : List Due → Prop)
    (hRR : ∀ zs, Handed (cs.getD (m - 1) 0) NF ((factN k : Nat) : Int) zs → R (List.zipWith Due.mk l zs)) (u2 u3 u9 u11 u12 u13 u14 u18 u19 u20 u21 u22 u23 u24 u25 u26 u27 u28 u29 u30 u31 u32 u33 u34 u35 u36 u37 u38 u39 u40 u41 u42 u43 u44 u45 u46 u47 u48 u49 u50 u51 u52 u53 u54 u55 u56 u57 u58 u59 u60 u61 u62 u63 u64 u65 u66 u67 u68 u69 u70 u71 u72 u73 u74 u75 u76 u77 u78 u79 u80 u81 u82 u83 u84 u85 u86 u87 u88 u89 u90 u91 u92 u93 u94 u95 u96 u97 u98 u99 u100 u101 u102 u103 u104 u105 u106 u107 u108 u109 u110 u111 u112 u113 u114 u115 u116 u117 u118 u119 u120 u121 u122 u123 u124 u125 u126 u127 u128 u129 u130 u131 u132 u133 u134 u135 u136 u137 u138 u139 u140 u141 u142 u143 u144 u145 u146 u147 u148 u149 u150 u151 u152 u153 u154 u155 u156 u157 u158 u159 u160 u161 u162 u163 u164 u165 u166 u167 u168 u169 u170 u171 u172 u173 u174 u175 u176 u177 u178 u179 : Value) :
    Code.wp Tryz.prog (codeF 30) (bodyPost Tryz.prog Tryz.f13 (DuesU 0 R w)) ⟨#[.slice A k c, .slice B m c', u2, u3, .slice none 0 0, .int .i64 0, .int .i64 0, .int .i64 (k : Int), .slice (some ⟨gf, 0, none⟩) (k + 1) capf, u9, .slice (some ⟨gp, 0, none⟩) k k, u11, u12, u13, u14, .slice none 0 0, vo, vb, u18, u19, u20, u21, u22, u23, u24, u25, u26, u27, u28, u29, u30, u31, u32, u33, u34, u35, u36, u37, u38, u39, u40, u41, u42, u43, u44, u45, u46, u47, u48, u49, u50, u51, u52, u53, u54, u55, u56, u57, u58, u59, u60, u61, u62, u63, u64, u65, u66, u67, u68, u69, u70, u71, u72, u73, u74, u75, u76, u77, u78, u79, u80, u81, u82, u83, u84, u85, u86, u87, u88, u89, u90, u91, u92, u93, u94, u95, u96, u97, u98, u99, u100, u101, u102, u103, u104, u105, u106, u107, u108, u109, u110, u111, u112, u113, u114, u115, u116, u117, u118, u119, u120, u121, u122, u123, u124, u125, u126, u127, u128, u129, u130, u131, u132, u133, u134, u135, u136, u137, u138, u139, u140, u141, u142, u143, u144, u145, u146, u147, u148, u149, u150, u151, u152, u153, u154, u155, u156, u157, u158, u159, u160, u161, u162, u163, u164, u165, u166, u167, u168, u169, u170, u171, u172, u173, u174, u175, u176, u177, u178, u179], []⟩ wc := by
  conv => arg 2; whnf
  obtain ⟨go, gr, gb, rfl, rfl, ⟨hb1, hb2, hb3, hne1, hne2, hne3⟩, h1, h2, h3, hn5⟩ := hcut
  have hwc : Nx w wc := hbw.trans hn5
  have hs5 := hbw.sz
  have hl1 := (h1.lt _ rfl).2
  have hl2 := (h2.lt _ rfl).2
  have hl3 : gb < wc.heap.size := (Array.getElem?_eq_some_iff.1 h3).1
  have hfb := fact_bd k (by omega)
  have HR := hide hR
  have HP := hide hP
  have HFC := hide hfc
  have HNB := hide hNB
  have HNS := hide hNS
  have HNL := hide hNL
  have HRR := hide hRR
  have HN := hide hn
  have H1 := hide h1
  have H2 := hide h2
  have H3 := hide h3
  obtain ⟨b, off, rfl, _, hb, hbc, hc⟩ := hC.open_ hwc (by omega)
  have c0 : wc.cell? ⟨b, off + (m - 1), none⟩ = some (.int .i64 (cs.getD (m - 1) 0)) := by
    have := hc (m - 1) (by omega) 0 _ rfl
    rw [getD_at (by omega)]; simpa using this
  have HM := hide hm
  clear hR hP hfc hNB hNS hNL hRR hn h1 h2 h3 hc hm hC
  generalize cs.getD (m - 1) 0 = a at *
  generalize factN k = F at *
  have q1 : (1 : Int) ≤ (m : Int) := by omega
  have q3 : ((m : Int) - 1).toNat = m - 1 := by omega
  have q4 : (m : Int) - 1 < (m : Int) := by omega
  go_wp2_with fail
  clear q3 q4
  obtain ⟨QS, hQS⟩ : ∃ QS, QS = qsN NF (F : Int) := ⟨_, rfl⟩
  obtain ⟨RS, hRS⟩ : ∃ RS, RS = rsN NF (F : Int) := ⟨_, rfl⟩
  have hQL : QS.length = k := by rw [hQS, qsN_len]; exact HNL.out
  have hRL : RS.length = k := by rw [hRS, rsN_len]; exact HNL.out
  have HQB := hide (fun j => (show -100000000000000 ≤ sumL (QS.take j) ∧ sumL (QS.take j) ≤ 100000000000000 from by
    have h1 := sumL_bd (QS.take j) (-10000000000000) 10000000000000 (fun x hx => by
      have h2 := List.mem_of_mem_take hx
      rw [hQS] at h2
      obtain ⟨y, hy, rfl⟩ := List.mem_map.1 h2
      exact div_fit (by omega) (HNB.out y hy))
    have h2 : (QS.take j).length ≤ QS.length := by rw [List.length_take]; omega
    omega))
  have HQS := hide hQS
  have HRS := hide hRS
  have HQL := hide hQL
  have HRL := hide hRL
  obtain ⟨DS, hDS⟩ : ∃ DS, DS = List.zipWith Due.mk l QS := ⟨_, rfl⟩
  have hDl : DS.length = k := by rw [hDS, List.length_zipWith, HN.out, hQL]; omega
  have HDL := hide hDl
  have HDG := hide (fun j (hj : j < DS.length) (h1 : j < l.length) (h2 : j < QS.length) => (show DS[j] = ⟨l[j], QS[j]⟩ from by subst hDS; rw [List.getElem_zipWith]))
  have HDS := hide hDS
  have HST1 := hide (show wc.ownsRow w5.heap.size 3 1 (.slice (some ⟨go, 0, none⟩) k k) k ((fillN (ordL k) 0).flatMap encI) from by rw [fillN_zero, ordL_len]; exact H1.out)
  have HST2 := hide (show wc.ownsRow w5.heap.size 3 1 (.slice (some ⟨gr, 0, none⟩) k k) k ((fillN RS 0).flatMap encI) from by rw [fillN_zero, hRL]; exact H2.out)
  clear hQS hRS hQL hRL hDS hDl H1 H2
  go_loopw [15, 18, 19, 20, 21, 120] (fun v l_ _ _ _ ii wr => ∃ i : Nat, i ≤ k ∧ ii = .int .i64 i ∧ wr.ownsRow wc.heap.size 44 2 v (DS.take i).length ((DS.take i).flatMap encDue) ∧ l_ = .int .i64 (a - sumL (QS.take i)) ∧
    wr.ownsRow w5.heap.size 3 1 (.slice (some ⟨go, 0, none⟩) k k) k ((fillN (ordL k) i).flatMap encI) ∧ wr.ownsRow w5.heap.size 3 1 (.slice (some ⟨gr, 0, none⟩) k k) k ((fillN RS i).flatMap encI) ∧
    wr.heap[gb]? = some (.cells #[.slice (some ⟨gr, 0, none⟩) k k] 22 (0, 0)) ∧ Nx w5 wr ∧ wc.heap.size ≤ wr.heap.size) (fun _ _ _ _ _ ii _ => k - (intOf ii).toNat)
  case atStart => exact ⟨0, Nat.zero_le _, rfl, World.ownsRow_nil _ _ _ _, by simp [sumL], HST1.out, HST2.out, H3.out, hn5, Nat.le_refl _⟩
  case round =>
    clear HST1 HST2 H3
    obtain ⟨i, hi, rfl, h15, rfl, h1, h2, h3, hbr, hszr⟩ := hrel
    have hqb := HQB.out i
    by_cases hlt : i < k
    · have hlN : i < NF.length := by have := HNL.out; omega
      have hlQ : i < QS.length := by have := HQL.out; omega
      have hlR : i < RS.length := by have := HRL.out; omega
      have hll : i < l.length := by have := HN.out; omega
      have hdd : i < DS.length := by have := HDL.out; omega
      have hlo : i < (ordL k).length := by rw [ordL_len]; exact hlt
      obtain ⟨b1, off1, e, _, _, _, hc1⟩ := HP.out.open_ hbr (by omega)
      obtain ⟨rfl, rfl⟩ : gp = b1 ∧ 0 = off1 := by simpa using e
      have c1 : wr.cell? ⟨gp, i, none⟩ = some (.int .i64 NF[i]) := by have := hc1 i hlN 0 _ rfl; simpa using this
      obtain ⟨b2, off2, rfl, _, hby, hby', hc2⟩ := HR.out.open_ (hbw.trans hbr) (by omega)
      have c2 : wr.cell? ⟨b2, off2 + i, none⟩ = some (.string l[i]) := by have := hc2 i hll 0 _ rfl; simpa using this
      have cF := (Below.cell hbr (p := ⟨gf, _, none⟩) hgf).trans HFC.out
      clear hc1 hc2 e
      have hxb := HNB.out NF[i] (List.getElem_mem hlN)
      have hqe := div_fit (F := (F : Int)) (by omega) hxb
      have eq1 : QS[i] = NF[i] / (F : Int) := by have := HQS.out; subst this; simp [qsN]
      have eq2 : RS[i] = NF[i] % (F : Int) := by have := HRS.out; subst this; simp [rsN]
      have hmod1 := Int.mul_ediv_add_emod NF[i] F
      have hmod2 := Int.emod_nonneg NF[i] (b := (F : Int)) (by omega)
      have hmod3 := Int.emod_lt_of_pos NF[i] (b := (F : Int)) (by omega)
      have HDw := hide (fun w => w_Down NF[i] (F : Int) w (by omega) (by omega))
      have HTk := hide (show DS.take (i + 1) = DS.take i ++ [(⟨l[i], NF[i] / (F : Int)⟩ : Due)] by rw [List.take_succ_eq_append_getElem hdd, HDG.out i hdd hll hlQ, eq1])
      have HQk := hide (show sumL (QS.take (i + 1)) = sumL (QS.take i) + NF[i] / (F : Int) by rw [sumL_take QS i hlQ, eq1])
      have hf1 : (fillN (ordL k) i).length = k := by rw [fillN_len _ _ (by omega), ordL_len]
      have hf2 : (fillN RS i).length = k := by rw [fillN_len _ _ (by omega)]; exact HRL.out
      have hst1 := fillN_set (ordL k) i hlo
      rw [ordL_get] at hst1
      have hst2 := fillN_set RS i hlR
      rw [eq2] at hst2
      clear eq1 eq2
      have hDt : (DS.take i).length ≤ i := List.length_take_le _ _
      generalize fillN (ordL k) i = L1 at *
      generalize fillN RS i = L2 at *
      generalize DS.take i = L15 at *
      generalize sumL (QS.take i) = s at *
      generalize NF[i] % (F : Int) = r at *
      generalize NF[i] / (F : Int) = q at *
      generalize NF[i] = p at *
      generalize l[i] = key at *
      have hqF : q * (F : Int) = p - r := by rw [Int.mul_comm]; omega
      have HQF := hide hqF
      have hl15 := h15.lt
      have hs1 := hn5.sz
      clear hqF hmod1
      have H15 := hide (own_blk_lt h15)
      have h1lt := (h1.lt _ rfl).2
      have h3lt : gb < wr.heap.size := (Array.getElem?_eq_some_iff.1 h3).1
      have HK := hide (fun (W : World) (vb : Option Nat) (hvb : ∀ j, vb = some j → wc.heap.size ≤ j) (hg : (wr.alloc (.cells #[.string key, .int .i64 q] 44)).grownBy W vb) =>
        (show W.ownsRow w5.heap.size 3 1 (.slice (some ⟨go, 0, none⟩) k k) k (L1.flatMap encI) ∧ W.ownsRow w5.heap.size 3 1 (.slice (some ⟨gr, 0, none⟩) k k) k (L2.flatMap encI) ∧ W.heap[gb]? = some (.cells #[.slice (some ⟨gr, 0, none⟩) k k] 22 (0, 0)) ∧ Nx w5 W ∧ wc.heap.size ≤ W.heap.size from
          ⟨(h1.alloc _).kept hg (.inr fun e => by have := hvb go e.symm; omega), (h2.alloc _).kept hg (.inr fun e => by have := hvb gr e.symm; omega),
            ((hg.block gb (by simp; omega) (fun e => by have := hvb gb e.symm; omega)).trans (((Nx.refl wr).alloc _).block gb h3lt)).trans h3,
            (hbr.alloc _).grown hg (fun j hj => by have := hvb j hj; omega), by have := hg.size; simp at this; omega⟩))
      go_wp2_with (first
        | (go_at_call 31; refine (HDw.out _).mono ?_; rintro e w' ⟨rfl, rfl⟩)
        | (at_builtin; refine wpApp rfl _ _ _ rfl el_Due encDue encDue_len encDue_one (by omega) (by omega) wc.heap.size _ L15 rfl (h15.alloc _) _ ⟨key, q⟩ _ rfl (hnew rfl) rfl (by omega) (by simp; omega) ?_; intro v2 w2 hown2 hg2; obtain ⟨k1, k2, k3, k4, k5⟩ := HK.out w2 _ H15.out hg2))
      have o1 := own_cell encI_len hf1 k1 i (by omega) 0 _ rfl
      have o2 := own_cell encI_len hf2 k2 i (by omega) 0 _ rfl
      rw [Nat.mul_one, Nat.add_zero] at o1 o2
      have g1 : w2.frozen? ⟨go, i, none⟩ = false := k1.frozenAt _
      have g2 : w2.frozen? ⟨gr, i, none⟩ = false := k2.frozenAt _
      have o3 : w2.cell? ⟨gb, 0, none⟩ = some (.slice (some ⟨gr, 0, none⟩) k k) := cell_of_row w2 gb 0 _ _ _ k3
      have o4 := (Below.cell k4 (p := ⟨gf, _, none⟩) hgf).trans HFC.out
      have HS1 := hide (own_set encI_len hf1 k1 i (by omega) 0 (by omega) (.int .i64 (i : Int)) (i : Int) rfl i (by omega))
      have HS2 := hide (fun (W : World) (h : W.ownsRow w5.heap.size 3 1 (.slice (some ⟨gr, 0, none⟩) k k) k (L2.flatMap encI)) => own_set encI_len hf2 h i (by omega) 0 (by omega) (.int .i64 r) r rfl i (by omega))
      have hin1 : (L1[i]'(by omega)) = L1[i]'(by omega) := rfl
      generalize (L1[i]'(by omega)) = z1 at *
      generalize (L2[i]'(by omega)) = z2 at *
      have EW1 := hide (show IntKind.i64.wrap (q * (F : Int)) = p - r from by rw [HQF.out]; exact IntWalk.i64_in _ (by omega))
      have EW2 := hide (show IntKind.i64.wrap (p - (p - r)) = r from by rw [show p - (p - r) = r by omega]; exact IntWalk.i64_in _ (by omega))
      have e1 : (0 : Int) ≤ (i : Int) := by omega
      have e2 : (i : Int) < (k : Int) := by omega
      have e3 : (k : Int) < (k : Int) + 1 := by omega
      have ew1 := EW1.out
      have ew2 := EW2.out
      have hqF := HQF.out
      go_region
      clear ew1 ew2 hqF
      have j1 := HS1.out
      have j2a := k2.kept ((Gr.refl go _).setS (p := ⟨go, i, none⟩) (.inl rfl) (.int .i64 (i : Int))) (.inr (by intro e; injection e with e; exact hne1 e.symm))
      have j2 := HS2.out _ j2a
      have j1b := j1.kept ((Gr.refl gr _).setS (p := ⟨gr, i, none⟩) (.inl rfl) (.int .i64 r)) (.inr (by intro e; injection e with e; exact hne1 e))
      have hv2 := own_blk_lt hown2
      have j15 := (hown2.kept ((Gr.refl go _).setS (p := ⟨go, i, none⟩) (.inl rfl) (.int .i64 (i : Int))) (.inr (fun e => by have := hv2 go e; omega))).kept ((Gr.refl gr _).setS (p := ⟨gr, i, none⟩) (.inl rfl) (.int .i64 r)) (.inr (fun e => by have := hv2 gr e; omega))
      have j3 := ((Below.heap_setCell (w2.setCell ⟨go, i, none⟩ (.int .i64 (i : Int))) ⟨gr, i, none⟩ (.int .i64 r) gb (by first | exact hne3 | exact hne3.symm)).trans (Below.heap_setCell w2 ⟨go, i, none⟩ (.int .i64 (i : Int)) gb (by first | exact hne2 | exact hne2.symm))).trans k3
      have j4 := ((k4.setCell (p := ⟨go, i, none⟩) hb1 (.int .i64 (i : Int))).setCell (p := ⟨gr, i, none⟩) hb2 (.int .i64 r)).drew
      rw [hst1] at j1b
      rw [hst2] at j2
      rw [← HTk.out] at j15
      clear j1 j2a hv2 k1 k2 k3 HS1 HS2
      go_wp2_with fail
      go_roundw
      case rel => exact ⟨i + 1, by omega, by go_num, j15, by rw [HQk.out]; go_num, j1b, j2, j3, j4, by simp; omega⟩
      case measure => simp [intOf]; omega
    · have ei : i = k := by omega
      subst ei
      clear hlt hi
      have e1 : DS.take i = DS := List.take_of_length_le (by have := HDL.out; omega)
      have e2 : QS.take i = QS := List.take_of_length_le (by have := HQL.out; omega)
      have e3 : fillN (ordL i) i = ordL i := by have := fillN_all (ordL i); rwa [ordL_len] at this
      have e4 : fillN RS i = RS := by have := fillN_all RS; rwa [HRL.out] at this
      rw [e1, HDL.out] at h15
      rw [e2] at hqb ⊢
      rw [e3] at h1
      rw [e4] at h2
      clear e1 e2 e3 e4
      have hLb := leftN_bd (nums := NF) (F := (F : Int)) (c := a) (by omega) HNS.out
      have hLd : leftN a NF (F : Int) = a - sumL QS := by rw [HQS.out]; rfl
      rw [← hLd]
      rw [HNL.out] at hLb
      generalize hLe : leftN a NF (F : Int) = L at *
      obtain ⟨ln, rfl⟩ := Int.eq_ofNat_of_zero_le hLb.1
      have HLE := hide hLe
      clear hLe hLd
      have o3 : wr.cell? ⟨gb, 0, none⟩ = some (.slice (some ⟨gr, 0, none⟩) i i) := cell_of_row wr gb 0 _ _ _ h3
      have HRC := hide (fun j (hj : j < i) => (show wr.cell? ⟨gr, j, none⟩ = some (.int .i64 (RS.getD j 0)) from by
        have := own_cell encI_len HRL.out h2 j (by have := HRL.out; omega) 0 _ rfl
        rw [getD_at (by have := HRL.out; omega)]; simpa using this))
      have HSO := hide (w_SortOrd RS (by omega) h1 o3 (fun j hj => HRC.out j hj) (by omega) (by omega))
      have hl15 := own_blk_lt h15
      go_wp2_with (go_at_call 32; refine (HSO.out).mono ?_; rintro e w3 ⟨rfl, ys, hperm, hpw, h1', hgr1⟩)
      have h15' := h15.kept hgr1 (.inr (fun e => by have := hl15 go e; omega))
      have hbr3 : Nx w5 w3 := hbr.grown hgr1 (fun j hj => by injection hj with hj; omega)
      have HUP := hide (fun m => UpSet.take (rs := RS) (l := ys) (by rw [HRL.out]; exact hperm) hpw m)
      have hyl : ys.length = i := by rw [hperm.length_eq, List.length_range]
      have HYL := hide hyl
      have HYM := hide (fun y (hy : y ∈ ys) => (show y < i from List.mem_range.1 (hperm.mem_iff.1 hy)))
      have HQE := hide (fun q (hq : q ∈ QS) => (show -10000000000000 ≤ q ∧ q ≤ 10000000000000 from by
        rw [HQS.out] at hq
        obtain ⟨y, hy, rfl⟩ := List.mem_map.1 hq
        exact div_fit (by omega) (HNB.out y hy)))
      have HD0 := hide (show DS = List.zipWith Due.mk l (bump QS (ys.take 0)) from by rw [List.take_zero, bump_nil]; exact HDS.out)
      rw [HD0.out] at h15'
      have hs3 := hbr3.sz
      have hs35 := hgr1.sz
      clear hyl hperm hpw h15 h1 h2 h3 hbr
      go_loopw [23, 166] (fun _ ji wr => ∃ j : Nat, j ≤ ln ∧ ji = .int .i64 j ∧ wr.ownsRow wc.heap.size 44 2 u15 i ((List.zipWith Due.mk l (bump QS (ys.take j))).flatMap encDue) ∧ wr.ownsRow w5.heap.size 3 1 (.slice (some ⟨go, 0, none⟩) i i) i ((ys.map (fun (i : Nat) => (i : Int))).flatMap encI) ∧ Nx w5 wr) (fun _ ji _ => ln - (intOf ji).toNat)
      case atStart => exact ⟨0, Nat.zero_le _, rfl, h15', h1', hbr3⟩
      case round =>
        clear h15' h1' hbr3
        obtain ⟨j, hj, rfl, h15, h1, hbr⟩ := hrel
        have hwb := hbw.trans hbr
        by_cases hlt : j < ln
        · rcases h15.2 with ⟨rfl, h0⟩ | ⟨g15, cap15, cur15, rfl, hg15, hh15, hjc15, _, _⟩
          · omega
          clear hh15
          have hjy : j < ys.length := by have := HYL.out; omega
          have hcx : ys.take (j + 1) = ys.take j ++ [ys[j]] := List.take_succ_eq_append_getElem hjy
          have hnd := (HUP.out (j + 1)).nd
          rw [hcx] at hnd
          have hnot : ys[j] ∉ ys.take j := fun h => (List.nodup_append.1 hnd).2.2 _ h _ (by simp) rfl
          have haj := HYM.out ys[j] (List.getElem_mem hjy)
          have hym : (ys.map (fun (i : Nat) => (i : Int))).length = i := by rw [List.length_map]; exact HYL.out
          have c0 : wr.cell? ⟨go, j, none⟩ = some (.int .i64 (ys[j] : Int)) := by
            have := own_cell encI_len hym h1 j (by omega) 0 _ rfl
            simpa using this
          have hbl : (bump QS (ys.take j)).length = i := by rw [bump_len, HQL.out]
          have hin : ys[j] < (bump QS (ys.take j)).length := by omega
          have hil : ys[j] < l.length := by have := HN.out; omega
          have hbs := bump_snoc QS _ _ hnot hin
          have hbg := bump_get QS (ys.take j) ys[j] hin
          rw [if_neg hnot] at hbg
          have hqe := HQE.out _ (List.getElem_mem (l := QS) (n := ys[j]) (by rw [HQL.out]; exact haj))
          rw [← hbg] at hqe
          rw [← hcx] at hbs
          clear hbg hnd hnot hcx
          have hzl : (List.zipWith Due.mk l (bump QS (ys.take j))).length = i := by rw [List.length_zipWith, HN.out, hbl]; omega
          have hiz : ys[j] < (List.zipWith Due.mk l (bump QS (ys.take j))).length := by omega
          have hzg : (List.zipWith Due.mk l (bump QS (ys.take j)))[ys[j]]'hiz = ⟨l[ys[j]], (bump QS (ys.take j))[ys[j]]⟩ := by rw [List.getElem_zipWith]
          have d1 : wr.cell? ⟨g15, ys[j] * 2 + 1, none⟩ = some (.int .i64 ((bump QS (ys.take j))[ys[j]]'hin)) := own_cell encDue_len hzl h15 ys[j] hiz 1 _ (by rw [hzg]; rfl)
          have f1 : wr.frozen? ⟨g15, ys[j] * 2 + 1, none⟩ = false := h15.frozenAt _
          have h15s := own_set encDue_len hzl h15 ys[j] hiz 1 (by omega) (.int .i64 ((bump QS (ys.take j))[ys[j]]'hin + 1)) ⟨l[ys[j]], (bump QS (ys.take j))[ys[j]]'hin + 1⟩ (by rw [hzg]; rfl) (ys[j] * 2 + 1) rfl
          rw [zip_set l _ ys[j] hil, hbs] at h15s
          have h1s := h1.kept ((Gr.refl g15 _).setS (p := ⟨g15, ys[j] * 2 + 1, none⟩) (.inl rfl) (.int .i64 ((bump QS (ys.take j))[ys[j]]'hin + 1))) (.inr (by intro e; injection e with e; have e' : go = g15 := e; omega))
          have hbrs := hbr.setCell (p := ⟨g15, ys[j] * 2 + 1, none⟩) (by show w5.heap.size ≤ g15; have := hn5.sz; omega) (.int .i64 ((bump QS (ys.take j))[ys[j]]'hin + 1))
          clear hzg h15 h1 hbs
          generalize (bump QS (ys.take j))[ys[j]]'hin = z at *
          generalize hya : ys[j] = ya at *
          clear hya
          go_wp2_with fail
          go_roundw
          case rel => exact ⟨j + 1, by omega, by go_num, h15s, h1s, hbrs⟩
          case measure => simp [intOf]; omega
        · have ej : j = ln := by omega
          subst ej
          go_wp2_with fail
          go_ret2
          have hbl : (bump QS (ys.take j)).length = i := by rw [bump_len, HQL.out]
          have hzl : (List.zipWith Due.mk l (bump QS (ys.take j))).length = i := by rw [List.length_zipWith, HN.out, hbl]; omega
          obtain ⟨A6, c6, ev, hR6, _⟩ := Rd.of_own encDue_len hzl.symm h15
          refine ⟨A6, c6, _, congrArg (fun v => Ending.returned (Value.tuple #[v, .int .i64 0])) ev, fun _ => ?_, fun h => absurd rfl h, hR6.low (by omega), hwb⟩
          refine HRR.out _ ?_
          unfold Handed
          rw [HLE.out, ← HQS.out, ← HRS.out]
          refine ⟨_, HUP.out j, ?_, rfl⟩
          rw [List.length_take, HYL.out, Int.toNat_natCast]
          omega
end Go.Proofs.YtfnbmcinbmbehaaGreatDoor
