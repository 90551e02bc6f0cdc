/- jitlaw1.RidesPriced from its region 15 on. -/
import Derived.Test.YtdnmcpojjndjbaaGreatDoorQRpU
import Derived.Deep.DeepCutAuto
import Derived.Deep.RegionHeld
import Derived.RegionTactic
namespace Go.Proofs.YtdnmcpojjndjbaaGreatDoor
open Go.RowKit

noncomputable def codeRP (r : Nat) : Code := fromReg r (Tryz.f3.body.getD .skip)
theorem pri_nx {a w : World} {g : Nat} (u0 u1 u2 u3 u4 u5 u6 u7 u8 u9 : Value) (h : Nx a w) (hg : a.heap.size ≤ g) :
    Nx a ((((((((((w.setCell ⟨g, 0, none⟩ u0).setCell ⟨g, 1, none⟩ u1).setCell ⟨g, 2, none⟩ u2).setCell ⟨g, 3, none⟩ u3).setCell ⟨g, 4, none⟩ u4).setCell ⟨g, 5, none⟩ u5).setCell ⟨g, 6, none⟩ u6).setCell ⟨g, 7, none⟩ u7).setCell ⟨g, 8, none⟩ u8).setCell ⟨g, 9, none⟩ u9) := by
  have h0 := h.setCell (p := ⟨g, 0, none⟩) hg u0
  have h1 := h0.setCell (p := ⟨g, 1, none⟩) hg u1
  have h2 := h1.setCell (p := ⟨g, 2, none⟩) hg u2
  have h3 := h2.setCell (p := ⟨g, 3, none⟩) hg u3
  have h4 := h3.setCell (p := ⟨g, 4, none⟩) hg u4
  have h5 := h4.setCell (p := ⟨g, 5, none⟩) hg u5
  have h6 := h5.setCell (p := ⟨g, 6, none⟩) hg u6
  have h7 := h6.setCell (p := ⟨g, 7, none⟩) hg u7
  have h8 := h7.setCell (p := ⟨g, 8, none⟩) hg u8
  exact h8.setCell (p := ⟨g, 9, none⟩) hg u9
theorem cheapP_step (f : Price → Int) (b : Price) (l : List Price) (j : Nat) (hj : j < l.length) (r : Price) (h : cheapP f (some b) (l.take j) = some r) : cheapP f (some b) (l.take (j + 1)) = some (if f l[j] < f r then l[j] else r) := by
  rw [List.take_succ_eq_append_getElem hj, cheapP_snoc, h]
set_option maxRecDepth 100000 in
set_option maxHeartbeats 2000000 in
theorem st_RP15 {D B : Option Addr} {bt ot b8 nz c1 np d nj e : Nat} {zs : List Zone} {ps : List Price} {t : Jour} {x q : Price} {w wb : World} {K : ByteArray} {N4 F4 : Int} (hC : RpB w wb D B bt ot b8 zs ps t x) (hnz : zs.length = nz) (hnp : ps.length = np) (hnp1 : 1 ≤ np) (hnj : 1 ≤ nj) (h40 : faultT zs ps [t] = 0) (hq : cheapP (fun p => fullI zs p t) none ps = some q) (hK : K = q.key) (hN4 : N4 = fullI zs q t) (hF4 : F4 = 0) {u0 u1 u2 u3 u7 u8 u11 u14 u15 u16 u17 u18 u19 u20 u21 u22 u23 u24 u25 u26 u27 u28 u29 u30 u31 u32 u33 u34 u35 u36 u37 u38 u39 u40 u41 u42 u43 u44 u45 u46 u47 u48 u49 u50 u51 u52 u53 u54 u55 u56 u57 u58 u59 u60 u61 u62 u63 u64 u65 u66 u67 u68 u69 u70 u71 u72 u73 u74 u75 u76 u77 u78 u79 u80 u81 u82 u83 u84 u85 u86 u87 u88 u89 u90 u91 u92 u93 u94 u95 u96 u97 u98 u99 u100 u101 u102 u103 u104 u105 u106 u107 u108 u109 u110 u111 u112 u113 u114 u115 u116 u117 u118 u119 u120 u121 u122 u123 u124 u125 u126 u127 u128 u129 u130 u131 u132 u133 u134 u135 u136 u137 u138 u139 u140 u141 u142 u143 u144 u145 u146 u147 u148 u149 u150 u151 u152 u153 u154 u155 u156 u157 u158 u159 u160 u161 u162 u163 u164 u165 u166 u167 u168 u169 u170 u171 u172 u173 u174 u175 u176 u177 u178 u179 u180 u181 u182 u183 u184 u185 u186 : Value} :
    Code.wp Tryz.prog (codeRP 15) (bodyPost Tryz.prog Tryz.f3 (TrueNx w)) ⟨#[u0, u1, u2, u3, .slice D nz c1, .slice B np d, .slice (some ⟨bt, ot, none⟩) nj e, u7, u8, .int .i64 N4, .int .i64 F4, u11, .string K, .bool true, u14, u15, u16, u17, u18, u19, u20, u21, u22, u23, u24, u25, u26, u27, u28, u29, u30, u31, u32, u33, u34, u35, u36, u37, u38, u39, u40, u41, u42, u43, u44, u45, u46, u47, u48, u49, u50, u51, u52, u53, u54, u55, u56, u57, u58, u59, u60, u61, u62, u63, u64, u65, u66, u67, u68, u69, u70, u71, u72, u73, u74, u75, u76, u77, u78, u79, u80, u81, u82, u83, u84, u85, u86, u87, u88, u89, u90, u91, u92, u93, u94, u95, u96, u97, u98, u99, u100, u101, u102, u103, u104, u105, u106, u107, u108, u109, u110, u111, u112, u113, u114, u115, u116, u117, u118, u119, u120, u121, u122, u123, u124, u125, u126, u127, u128, u129, u130, u131, u132, u133, u134, u135, u136, u137, u138, u139, u140, u141, u142, u143, u144, u145, u146, u147, u148, u149, u150, u151, u152, u153, u154, u155, u156, u157, u158, u159, u160, u161, u162, u163, u164, u165, u166, u167, u168, u169, u170, u171, u172, u173, u174, u175, u176, u177, u178, u179, u180, u181, u182, u183, u184, u185, u186], []⟩ wb := by
  conv => arg 2; whnf
  dsimp only
  subst hF4
  have HNX := hide hC.nx
  have HFO : Hid (∀ p, PriceOk p → ∀ W, Nx wb W → Calls Tryz.prog 15 #[.slice D nz c1, aggP p, aggJ t] W fun e w' => e = .returned (.int .i64 (fullI zs p t)) ∧ Nx W w') := hide (fun p hp W hn => by
    obtain ⟨z1, z2, z3⟩ := orI_zero3 h40
    have h := w_FullOf 0 0 D c1 zs p t W (hC.z.nx hn) hC.zl (hC.tr.nx hn) hp (joursF_ok z3 t (by simp))
    rw [hnz] at h; exact h)
  have HOK := hide (pricesF_ok (orI_zero3 h40).2.1)
  have HPR := hide hC.p.1
  have hnp50 : np ≤ 50 := by have := hC.pl; omega
  have htc := hC.tc
  have htb := hC.tb
  obtain ⟨f, hf⟩ : ∃ f : Price → Int, f = fun p => fullI zs p t := ⟨_, rfl⟩
  have HFE := hide (show ∀ p, fullI zs p t = f p from fun p => by rw [hf])
  rw [← hf] at hq
  have HQ := hide hq
  have HN4 := hide (hN4.trans (HFE.out q))
  have HK := hide hK
  have HNP := hide hnp
  clear hC hnz h40 hq hf hN4 hK hnp
  obtain ⟨k1, k2, xa, cp, nds, me, fr, to_⟩ := t
  dsimp only [aggJ] at *
  obtain ⟨nn, hnn⟩ : ∃ nn, nn = nds.length := ⟨_, rfl⟩
  rw [← hnn] at HFO
  have HGT : Hid (∀ W, Nx wb W → (fun w' : World => w'.cell? ⟨bt, ot, none⟩ = some (.string k1) ∧ w'.cell? ⟨bt, ot + 1, none⟩ = some (.string k2) ∧ w'.cell? ⟨bt, ot + 2, none⟩ = some (.slice xa nn cp) ∧ w'.cell? ⟨bt, ot + 3, none⟩ = some (.int .i64 me) ∧ w'.cell? ⟨bt, ot + 4, none⟩ = some (.int .i64 fr) ∧ w'.cell? ⟨bt, ot + 5, none⟩ = some (.int .i64 to_)) W) := hide (fun W hn => by
    refine ⟨nx_cell hn htb (htc 0 _ rfl), nx_cell hn htb (htc 1 _ rfl), nx_cell hn htb (by rw [hnn]; exact htc 2 _ rfl), nx_cell hn htb (htc 3 _ rfl), nx_cell hn htb (htc 4 _ rfl), nx_cell hn htb (htc 5 _ rfl)⟩)
  have HFP : Hid (∀ p, PriceOk p → ∀ W, Nx wb W → Calls Tryz.prog 15 #[.slice D nz c1, .agg #[.string p.key, .int .i64 p.base, .int .i64 p.metre, .int .i64 p.minute, .int .i64 p.cross, .int .i64 p.from_, .int .i64 p.to_, .int .i64 p.peak, .int .i64 p.least, .int .i64 p.most], .agg #[.string k1, .string k2, .slice xa nn cp, .int .i64 me, .int .i64 fr, .int .i64 to_]] W fun e w' => e = .returned (.int .i64 (f p)) ∧ Nx W w') := hide (fun p hp W hn => by
    have h := HFO.out p hp W hn
    rw [HFE.out p] at h; exact h)
  clear HFO HFE htc hnn
  have hnj0 : (0 : Int) < (nj : Int) := by omega
  have hnj2 : 0 < nj := by omega
  have hnp0 : (0 : Int) < (np : Int) := by omega
  have hl0 : 0 < ps.length := by have := HNP.out; omega
  obtain ⟨bb, ob, rfl, _, hbb, _, hpc⟩ := HPR.out.open_ (Nx.refl wb) hl0
  have p0k := hide (List.getElem_mem hl0)
  obtain ⟨p0, hp0⟩ : ∃ p0, p0 = ps[0] := ⟨_, rfl⟩
  have HHD := hide (show cheapP f (some p0) ps = some q by
    rw [← HQ.out, hp0]
    cases ps with
    | nil => exact absurd hl0 (by simp)
    | cons y l => exact cheapP_head f y l)
  have HP0 := hide hp0
  have HPM := hide (show p0 ∈ ps by rw [hp0]; exact p0k.out)
  have c0 : wb.cell? ⟨bb, ob, none⟩ = some (.string p0.key) := by have := hpc 0 hl0 0 _ rfl; rw [← hp0] at this; simpa using this
  have d1 : wb.cell? ⟨bb, ob + 1, none⟩ = some (.int .i64 p0.base) := by have := hpc 0 hl0 1 _ rfl; rw [← hp0] at this; simpa using this
  have c2 : wb.cell? ⟨bb, ob + 2, none⟩ = some (.int .i64 p0.metre) := by have := hpc 0 hl0 2 _ rfl; rw [← hp0] at this; simpa using this
  have c3 : wb.cell? ⟨bb, ob + 3, none⟩ = some (.int .i64 p0.minute) := by have := hpc 0 hl0 3 _ rfl; rw [← hp0] at this; simpa using this
  have c4 : wb.cell? ⟨bb, ob + 4, none⟩ = some (.int .i64 p0.cross) := by have := hpc 0 hl0 4 _ rfl; rw [← hp0] at this; simpa using this
  have c5 : wb.cell? ⟨bb, ob + 5, none⟩ = some (.int .i64 p0.from_) := by have := hpc 0 hl0 5 _ rfl; rw [← hp0] at this; simpa using this
  have c6 : wb.cell? ⟨bb, ob + 6, none⟩ = some (.int .i64 p0.to_) := by have := hpc 0 hl0 6 _ rfl; rw [← hp0] at this; simpa using this
  have c7 : wb.cell? ⟨bb, ob + 7, none⟩ = some (.int .i64 p0.peak) := by have := hpc 0 hl0 7 _ rfl; rw [← hp0] at this; simpa using this
  have c8 : wb.cell? ⟨bb, ob + 8, none⟩ = some (.int .i64 p0.least) := by have := hpc 0 hl0 8 _ rfl; rw [← hp0] at this; simpa using this
  have c9 : wb.cell? ⟨bb, ob + 9, none⟩ = some (.int .i64 p0.most) := by have := hpc 0 hl0 9 _ rfl; rw [← hp0] at this; simpa using this
  have HPC := hide hpc
  clear hpc hp0 p0k HQ
  obtain ⟨b14, hb14⟩ : ∃ b14, b14 = wb.heap.size := ⟨_, rfl⟩
  obtain ⟨w1, hw1⟩ : ∃ w1, w1 = wb.alloc (.cells #[.string p0.key, .int .i64 p0.base, .int .i64 p0.metre, .int .i64 p0.minute, .int .i64 p0.cross, .int .i64 p0.from_, .int .i64 p0.to_, .int .i64 p0.peak, .int .i64 p0.least, .int .i64 p0.most] 30 (0, 0)) := ⟨_, rfl⟩
  have HB1 := hide (show w1.heap[b14]? = some (.cells #[.string p0.key, .int .i64 p0.base, .int .i64 p0.metre, .int .i64 p0.minute, .int .i64 p0.cross, .int .i64 p0.from_, .int .i64 p0.to_, .int .i64 p0.peak, .int .i64 p0.least, .int .i64 p0.most] 30 (0, 0)) by rw [hw1, hb14]; exact heap_alloc_new wb _)
  have HX1 := hide (show Nx wb w1 from hw1 ▸ (Nx.refl wb).alloc _)
  have hbw : wb.heap.size ≤ b14 := by omega
  go_upto_region 17 with fail
  rw [← hw1, ← hb14]
  clear hw1 hb14 c0 d1 c2 c3 c4 c5 c6 c7 c8 c9
  go_loopw [16, 144] (fun _ i wr => ∃ (j : Nat) (r : Price), j ≤ np ∧ i = .int .i64 j ∧ cheapP f (some p0) (ps.take j) = some r ∧ r ∈ ps ∧ wr.heap[b14]? = some (.cells #[.string r.key, .int .i64 r.base, .int .i64 r.metre, .int .i64 r.minute, .int .i64 r.cross, .int .i64 r.from_, .int .i64 r.to_, .int .i64 r.peak, .int .i64 r.least, .int .i64 r.most] 30 (0, 0)) ∧ Nx wb wr) (fun _ i _ => np - (intOf i).toNat)
  case atStart => exact ⟨0, p0, Nat.zero_le _, rfl, rfl, HPM.out, HB1.out, HX1.out⟩
  case round =>
    clear HB1 HX1
    obtain ⟨j, r, hj, rfl, hch, hrm, hbr, hxr⟩ := hrel
    have HCH := hide hch
    have HRM := hide hrm
    have HBR := hide hbr
    have HXR := hide hxr
    clear hch hrm hbr hxr
    by_cases hlt : j < np
    · have hlt' : j < ps.length := by have := HNP.out; omega
      have hpj := HPC.out j hlt'
      have HST := hide (cheapP_step f p0 ps j hlt' r HCH.out)
      have HYM := hide (List.getElem_mem hlt')
      obtain ⟨y, hy⟩ : ∃ y, y = ps[j] := ⟨_, rfl⟩
      rw [← hy] at HST HYM
      have hbbr := Nat.lt_of_lt_of_le hbb HXR.out.sz
      have g0 : wr.cell? ⟨bb, ob + j * 10, none⟩ = some (.string y.key) := by have := nx_cell HXR.out hbb (hpj 0 _ rfl); rw [← hy] at this; simpa using this
      have g1 : wr.cell? ⟨bb, ob + j * 10 + 1, none⟩ = some (.int .i64 y.base) := by have := nx_cell HXR.out hbb (hpj 1 _ rfl); rw [← hy] at this; simpa using this
      have g2 : wr.cell? ⟨bb, ob + j * 10 + 2, none⟩ = some (.int .i64 y.metre) := by have := nx_cell HXR.out hbb (hpj 2 _ rfl); rw [← hy] at this; simpa using this
      have g3 : wr.cell? ⟨bb, ob + j * 10 + 3, none⟩ = some (.int .i64 y.minute) := by have := nx_cell HXR.out hbb (hpj 3 _ rfl); rw [← hy] at this; simpa using this
      have g4 : wr.cell? ⟨bb, ob + j * 10 + 4, none⟩ = some (.int .i64 y.cross) := by have := nx_cell HXR.out hbb (hpj 4 _ rfl); rw [← hy] at this; simpa using this
      have g5 : wr.cell? ⟨bb, ob + j * 10 + 5, none⟩ = some (.int .i64 y.from_) := by have := nx_cell HXR.out hbb (hpj 5 _ rfl); rw [← hy] at this; simpa using this
      have g6 : wr.cell? ⟨bb, ob + j * 10 + 6, none⟩ = some (.int .i64 y.to_) := by have := nx_cell HXR.out hbb (hpj 6 _ rfl); rw [← hy] at this; simpa using this
      have g7 : wr.cell? ⟨bb, ob + j * 10 + 7, none⟩ = some (.int .i64 y.peak) := by have := nx_cell HXR.out hbb (hpj 7 _ rfl); rw [← hy] at this; simpa using this
      have g8 : wr.cell? ⟨bb, ob + j * 10 + 8, none⟩ = some (.int .i64 y.least) := by have := nx_cell HXR.out hbb (hpj 8 _ rfl); rw [← hy] at this; simpa using this
      have g9 : wr.cell? ⟨bb, ob + j * 10 + 9, none⟩ = some (.int .i64 y.most) := by have := nx_cell HXR.out hbb (hpj 9 _ rfl); rw [← hy] at this; simpa using this
      clear hpj hy
      obtain ⟨b16, hb16⟩ : ∃ b16, b16 = wr.heap.size := ⟨_, rfl⟩
      obtain ⟨w2, hw2⟩ : ∃ w2, w2 = wr.alloc (.cells #[.string y.key, .int .i64 y.base, .int .i64 y.metre, .int .i64 y.minute, .int .i64 y.cross, .int .i64 y.from_, .int .i64 y.to_, .int .i64 y.peak, .int .i64 y.least, .int .i64 y.most] 30 (0, 0)) := ⟨_, rfl⟩
      have HB2 := hide (show w2.heap[b16]? = some (.cells #[.string y.key, .int .i64 y.base, .int .i64 y.metre, .int .i64 y.minute, .int .i64 y.cross, .int .i64 y.from_, .int .i64 y.to_, .int .i64 y.peak, .int .i64 y.least, .int .i64 y.most] 30 (0, 0)) by rw [hw2, hb16]; exact heap_alloc_new wr _)
      have hn2 : Nx wr w2 := hw2 ▸ (Nx.refl wr).alloc _
      have hb14l := (Array.getElem?_eq_some_iff.1 HBR.out).1
      have HB14 := hide ((hn2.block b14 hb14l).trans HBR.out)
      have HX := hide (HXR.out.trans hn2)
      clear hn2
      have hlti : (j : Int) < (np : Int) := by omega
      go_upto_region 19 with fail
      rw [← hw2, ← hb16]
      clear hw2 hb16 g0 g1 g2 g3 g4 g5 g6 g7 g8 g9
      have htb2 := Nat.lt_of_lt_of_le htb HX.out.sz
      have hbl16 := (Array.getElem?_eq_some_iff.1 HB2.out).1
      have hbl14 := (Array.getElem?_eq_some_iff.1 HB14.out).1
      have HGS : Hid (∀ W, Nx w2 W → (fun w' : World => w'.cell? ⟨b16, 0, none⟩ = some (.string y.key) ∧ w'.cell? ⟨b16, 1, none⟩ = some (.int .i64 y.base) ∧ w'.cell? ⟨b16, 2, none⟩ = some (.int .i64 y.metre) ∧ w'.cell? ⟨b16, 3, none⟩ = some (.int .i64 y.minute) ∧ w'.cell? ⟨b16, 4, none⟩ = some (.int .i64 y.cross) ∧ w'.cell? ⟨b16, 5, none⟩ = some (.int .i64 y.from_) ∧ w'.cell? ⟨b16, 6, none⟩ = some (.int .i64 y.to_) ∧ w'.cell? ⟨b16, 7, none⟩ = some (.int .i64 y.peak) ∧ w'.cell? ⟨b16, 8, none⟩ = some (.int .i64 y.least) ∧ w'.cell? ⟨b16, 9, none⟩ = some (.int .i64 y.most) ∧ w'.cell? ⟨b14, 0, none⟩ = some (.string r.key) ∧ w'.cell? ⟨b14, 1, none⟩ = some (.int .i64 r.base) ∧ w'.cell? ⟨b14, 2, none⟩ = some (.int .i64 r.metre) ∧ w'.cell? ⟨b14, 3, none⟩ = some (.int .i64 r.minute) ∧ w'.cell? ⟨b14, 4, none⟩ = some (.int .i64 r.cross) ∧ w'.cell? ⟨b14, 5, none⟩ = some (.int .i64 r.from_) ∧ w'.cell? ⟨b14, 6, none⟩ = some (.int .i64 r.to_) ∧ w'.cell? ⟨b14, 7, none⟩ = some (.int .i64 r.peak) ∧ w'.cell? ⟨b14, 8, none⟩ = some (.int .i64 r.least) ∧ w'.cell? ⟨b14, 9, none⟩ = some (.int .i64 r.most) ∧ w'.cell? ⟨bt, ot, none⟩ = some (.string k1) ∧ w'.cell? ⟨bt, ot + 1, none⟩ = some (.string k2) ∧ w'.cell? ⟨bt, ot + 2, none⟩ = some (.slice xa nn cp) ∧ w'.cell? ⟨bt, ot + 3, none⟩ = some (.int .i64 me) ∧ w'.cell? ⟨bt, ot + 4, none⟩ = some (.int .i64 fr) ∧ w'.cell? ⟨bt, ot + 5, none⟩ = some (.int .i64 to_)) W) := hide (fun W hn => by
        obtain ⟨a0, a1, a2, a3, a4, a5⟩ := HGT.out W (HX.out.trans hn)
        exact ⟨nx_cell hn hbl16 (cell_of_row w2 b16 0 _ _ _ HB2.out), nx_cell hn hbl16 (cell_of_row w2 b16 1 _ _ _ HB2.out), nx_cell hn hbl16 (cell_of_row w2 b16 2 _ _ _ HB2.out), nx_cell hn hbl16 (cell_of_row w2 b16 3 _ _ _ HB2.out), nx_cell hn hbl16 (cell_of_row w2 b16 4 _ _ _ HB2.out), nx_cell hn hbl16 (cell_of_row w2 b16 5 _ _ _ HB2.out), nx_cell hn hbl16 (cell_of_row w2 b16 6 _ _ _ HB2.out), nx_cell hn hbl16 (cell_of_row w2 b16 7 _ _ _ HB2.out), nx_cell hn hbl16 (cell_of_row w2 b16 8 _ _ _ HB2.out), nx_cell hn hbl16 (cell_of_row w2 b16 9 _ _ _ HB2.out), nx_cell hn hbl14 (cell_of_row w2 b14 0 _ _ _ HB14.out), nx_cell hn hbl14 (cell_of_row w2 b14 1 _ _ _ HB14.out), nx_cell hn hbl14 (cell_of_row w2 b14 2 _ _ _ HB14.out), nx_cell hn hbl14 (cell_of_row w2 b14 3 _ _ _ HB14.out), nx_cell hn hbl14 (cell_of_row w2 b14 4 _ _ _ HB14.out), nx_cell hn hbl14 (cell_of_row w2 b14 5 _ _ _ HB14.out), nx_cell hn hbl14 (cell_of_row w2 b14 6 _ _ _ HB14.out), nx_cell hn hbl14 (cell_of_row w2 b14 7 _ _ _ HB14.out), nx_cell hn hbl14 (cell_of_row w2 b14 8 _ _ _ HB14.out), nx_cell hn hbl14 (cell_of_row w2 b14 9 _ _ _ HB14.out), a0, a1, a2, a3, a4, a5⟩)
      have HFY := hide (HFP.out y (HOK.out y HYM.out))
      have HFR := hide (HFP.out r (HOK.out r HRM.out))
      obtain ⟨fy, hfy⟩ : ∃ fy, fy = f y := ⟨_, rfl⟩
      obtain ⟨fq, hfq⟩ : ∃ fq, fq = f r := ⟨_, rfl⟩
      rw [← hfy] at HFY HST
      rw [← hfq] at HFR HST
      clear hfy hfq
      have HZ := hide (Nx.refl w2)
      go_cut [160] (fun v wx => v = .bool (decide (fy < fq)) ∧ Nx w2 wx)
      case first =>
        go_region_held3 (fun w' : World => w'.cell? ⟨b16, 0, none⟩ = some (.string y.key) ∧ w'.cell? ⟨b16, 1, none⟩ = some (.int .i64 y.base) ∧ w'.cell? ⟨b16, 2, none⟩ = some (.int .i64 y.metre) ∧ w'.cell? ⟨b16, 3, none⟩ = some (.int .i64 y.minute) ∧ w'.cell? ⟨b16, 4, none⟩ = some (.int .i64 y.cross) ∧ w'.cell? ⟨b16, 5, none⟩ = some (.int .i64 y.from_) ∧ w'.cell? ⟨b16, 6, none⟩ = some (.int .i64 y.to_) ∧ w'.cell? ⟨b16, 7, none⟩ = some (.int .i64 y.peak) ∧ w'.cell? ⟨b16, 8, none⟩ = some (.int .i64 y.least) ∧ w'.cell? ⟨b16, 9, none⟩ = some (.int .i64 y.most) ∧ w'.cell? ⟨b14, 0, none⟩ = some (.string r.key) ∧ w'.cell? ⟨b14, 1, none⟩ = some (.int .i64 r.base) ∧ w'.cell? ⟨b14, 2, none⟩ = some (.int .i64 r.metre) ∧ w'.cell? ⟨b14, 3, none⟩ = some (.int .i64 r.minute) ∧ w'.cell? ⟨b14, 4, none⟩ = some (.int .i64 r.cross) ∧ w'.cell? ⟨b14, 5, none⟩ = some (.int .i64 r.from_) ∧ w'.cell? ⟨b14, 6, none⟩ = some (.int .i64 r.to_) ∧ w'.cell? ⟨b14, 7, none⟩ = some (.int .i64 r.peak) ∧ w'.cell? ⟨b14, 8, none⟩ = some (.int .i64 r.least) ∧ w'.cell? ⟨b14, 9, none⟩ = some (.int .i64 r.most) ∧ w'.cell? ⟨bt, ot, none⟩ = some (.string k1) ∧ w'.cell? ⟨bt, ot + 1, none⟩ = some (.string k2) ∧ w'.cell? ⟨bt, ot + 2, none⟩ = some (.slice xa nn cp) ∧ w'.cell? ⟨bt, ot + 3, none⟩ = some (.int .i64 me) ∧ w'.cell? ⟨bt, ot + 4, none⟩ = some (.int .i64 fr) ∧ w'.cell? ⟨bt, ot + 5, none⟩ = some (.int .i64 to_))
          (first | (refine HGS.out _ ?_; (repeat (first | exact HZ.out | refine Nx.trans ?_ hm2 | refine Nx.trans ?_ hm1 | refine Nx.drew ?_)); done))
          (first
            | ((have h9 := hm1); clear h9; go_at_call 15; refine (HFR.out _ ?_).mono ?_; (· (repeat (first | exact HX.out | refine Nx.trans ?_ hm1 | refine Nx.drew ?_))); rintro e w4 ⟨rfl, hm2⟩)
            | (go_at_call 15; refine (HFY.out _ ?_).mono ?_; (· (repeat (first | exact HX.out | refine Nx.drew ?_))); rintro e w3 ⟨rfl, hm1⟩))
        all_goals
          (go_wp2
           go_meet
           exact ⟨rfl, by repeat (first | exact HZ.out | refine Nx.trans ?_ hm2 | refine Nx.trans ?_ hm1 | refine Nx.drew ?_)⟩)
      case rest =>
      obtain ⟨rfl, hx9⟩ := hcut
      obtain ⟨w9, hw9⟩ : ∃ w9, w9 = wc := ⟨_, rfl⟩
      rw [← hw9] at hx9 ⊢
      have HX9 := hide (HX.out.trans hx9)
      have HB16 := hide ((hx9.block b16 hbl16).trans HB2.out)
      have HB19 := hide ((hx9.block b14 hbl14).trans HB14.out)
      clear hw9 hx9 HGS HFY HFR HZ HX
      have hbz : b14 < w9.heap.size := (Array.getElem?_eq_some_iff.1 HB19.out).1
      have hbz16 : b16 < w9.heap.size := (Array.getElem?_eq_some_iff.1 HB16.out).1
      by_cases hle : fy < fq
      · have tl : decide (fy < fq) = true := decide_eq_true hle
        rw [tl]
        have hst := HST.out
        rw [if_pos hle] at hst
        have HSN := hide hst
        clear hst hle tl HST
        have d0 : w9.cell? ⟨b16, 0, none⟩ = some (.string y.key) := cell_of_row w9 b16 0 _ _ _ HB16.out
        have d1 : w9.cell? ⟨b16, 1, none⟩ = some (.int .i64 y.base) := cell_of_row w9 b16 1 _ _ _ HB16.out
        have d2 : w9.cell? ⟨b16, 2, none⟩ = some (.int .i64 y.metre) := cell_of_row w9 b16 2 _ _ _ HB16.out
        have d3 : w9.cell? ⟨b16, 3, none⟩ = some (.int .i64 y.minute) := cell_of_row w9 b16 3 _ _ _ HB16.out
        have d4 : w9.cell? ⟨b16, 4, none⟩ = some (.int .i64 y.cross) := cell_of_row w9 b16 4 _ _ _ HB16.out
        have d5 : w9.cell? ⟨b16, 5, none⟩ = some (.int .i64 y.from_) := cell_of_row w9 b16 5 _ _ _ HB16.out
        have d6 : w9.cell? ⟨b16, 6, none⟩ = some (.int .i64 y.to_) := cell_of_row w9 b16 6 _ _ _ HB16.out
        have d7 : w9.cell? ⟨b16, 7, none⟩ = some (.int .i64 y.peak) := cell_of_row w9 b16 7 _ _ _ HB16.out
        have d8 : w9.cell? ⟨b16, 8, none⟩ = some (.int .i64 y.least) := cell_of_row w9 b16 8 _ _ _ HB16.out
        have d9 : w9.cell? ⟨b16, 9, none⟩ = some (.int .i64 y.most) := cell_of_row w9 b16 9 _ _ _ HB16.out
        have h0 : w9.cell? ⟨b14, 0, none⟩ = some (.string r.key) := cell_of_row w9 b14 0 _ _ _ HB19.out
        have h1 : w9.cell? ⟨b14, 1, none⟩ = some (.int .i64 r.base) := cell_of_row w9 b14 1 _ _ _ HB19.out
        have h2 : w9.cell? ⟨b14, 2, none⟩ = some (.int .i64 r.metre) := cell_of_row w9 b14 2 _ _ _ HB19.out
        have h3 : w9.cell? ⟨b14, 3, none⟩ = some (.int .i64 r.minute) := cell_of_row w9 b14 3 _ _ _ HB19.out
        have h4 : w9.cell? ⟨b14, 4, none⟩ = some (.int .i64 r.cross) := cell_of_row w9 b14 4 _ _ _ HB19.out
        have h5 : w9.cell? ⟨b14, 5, none⟩ = some (.int .i64 r.from_) := cell_of_row w9 b14 5 _ _ _ HB19.out
        have h6 : w9.cell? ⟨b14, 6, none⟩ = some (.int .i64 r.to_) := cell_of_row w9 b14 6 _ _ _ HB19.out
        have h7 : w9.cell? ⟨b14, 7, none⟩ = some (.int .i64 r.peak) := cell_of_row w9 b14 7 _ _ _ HB19.out
        have h8 : w9.cell? ⟨b14, 8, none⟩ = some (.int .i64 r.least) := cell_of_row w9 b14 8 _ _ _ HB19.out
        have h9 : w9.cell? ⟨b14, 9, none⟩ = some (.int .i64 r.most) := cell_of_row w9 b14 9 _ _ _ HB19.out
        have hfz : ∀ i, w9.frozen? ⟨b14, i, none⟩ = false := fun i => by simp [World.frozen?, HB19.out]
        go_wp2_with fail
        go_roundw
        case rel => exact ⟨j + 1, y, by omega, by go_num, HSN.out, HYM.out, pri_put (.string y.key) (.int .i64 y.base) (.int .i64 y.metre) (.int .i64 y.minute) (.int .i64 y.cross) (.int .i64 y.from_) (.int .i64 y.to_) (.int .i64 y.peak) (.int .i64 y.least) (.int .i64 y.most) HB19.out, pri_nx (.string y.key) (.int .i64 y.base) (.int .i64 y.metre) (.int .i64 y.minute) (.int .i64 y.cross) (.int .i64 y.from_) (.int .i64 y.to_) (.int .i64 y.peak) (.int .i64 y.least) (.int .i64 y.most) HX9.out hbw⟩
        case measure => simp [intOf]; omega
      · have tl : decide (fy < fq) = false := decide_eq_false hle
        rw [tl]
        have hst := HST.out
        rw [if_neg hle] at hst
        have HSN := hide hst
        clear hst hle tl HST
        go_wp2_with fail
        go_roundw
        case rel => exact ⟨j + 1, r, by omega, by go_num, HSN.out, HRM.out, HB19.out, HX9.out⟩
        case measure => simp [intOf]; omega
    · have ej : j = np := by omega
      subst ej
      have hrq : r = q := by
        have h := HCH.out
        rw [List.take_of_length_le (by have := HNP.out; omega), HHD.out] at h
        exact (Option.some.inj h).symm
      subst hrq
      have hk := HK.out
      have hn4 := HN4.out
      subst hk
      have HFY := hide (HFP.out r (HOK.out r HRM.out))
      obtain ⟨fq, hfq⟩ : ∃ fq, fq = f r := ⟨_, rfl⟩
      rw [← hfq] at HFY hn4
      subst hn4
      clear hfq hlt hj HCH HHD
      have HX := HXR
      have hbl14 := (Array.getElem?_eq_some_iff.1 HBR.out).1
      have htb2 := Nat.lt_of_lt_of_le htb HX.out.sz
      have HGS : Hid (∀ W, Nx wr W → (fun w' : World => w'.cell? ⟨b14, 0, none⟩ = some (.string r.key) ∧ w'.cell? ⟨b14, 1, none⟩ = some (.int .i64 r.base) ∧ w'.cell? ⟨b14, 2, none⟩ = some (.int .i64 r.metre) ∧ w'.cell? ⟨b14, 3, none⟩ = some (.int .i64 r.minute) ∧ w'.cell? ⟨b14, 4, none⟩ = some (.int .i64 r.cross) ∧ w'.cell? ⟨b14, 5, none⟩ = some (.int .i64 r.from_) ∧ w'.cell? ⟨b14, 6, none⟩ = some (.int .i64 r.to_) ∧ w'.cell? ⟨b14, 7, none⟩ = some (.int .i64 r.peak) ∧ w'.cell? ⟨b14, 8, none⟩ = some (.int .i64 r.least) ∧ w'.cell? ⟨b14, 9, none⟩ = some (.int .i64 r.most) ∧ w'.cell? ⟨bt, ot, none⟩ = some (.string k1) ∧ w'.cell? ⟨bt, ot + 1, none⟩ = some (.string k2) ∧ w'.cell? ⟨bt, ot + 2, none⟩ = some (.slice xa nn cp) ∧ w'.cell? ⟨bt, ot + 3, none⟩ = some (.int .i64 me) ∧ w'.cell? ⟨bt, ot + 4, none⟩ = some (.int .i64 fr) ∧ w'.cell? ⟨bt, ot + 5, none⟩ = some (.int .i64 to_)) W) := hide (fun W hn => by
        obtain ⟨a0, a1, a2, a3, a4, a5⟩ := HGT.out W (HX.out.trans hn)
        exact ⟨nx_cell hn hbl14 (cell_of_row wr b14 0 _ _ _ HBR.out), nx_cell hn hbl14 (cell_of_row wr b14 1 _ _ _ HBR.out), nx_cell hn hbl14 (cell_of_row wr b14 2 _ _ _ HBR.out), nx_cell hn hbl14 (cell_of_row wr b14 3 _ _ _ HBR.out), nx_cell hn hbl14 (cell_of_row wr b14 4 _ _ _ HBR.out), nx_cell hn hbl14 (cell_of_row wr b14 5 _ _ _ HBR.out), nx_cell hn hbl14 (cell_of_row wr b14 6 _ _ _ HBR.out), nx_cell hn hbl14 (cell_of_row wr b14 7 _ _ _ HBR.out), nx_cell hn hbl14 (cell_of_row wr b14 8 _ _ _ HBR.out), nx_cell hn hbl14 (cell_of_row wr b14 9 _ _ _ HBR.out), a0, a1, a2, a3, a4, a5⟩)
      have HZ := hide (Nx.refl wr)
      have ts : (r.key.toList == r.key.toList) = true := by simp
      have tn : (N4 == N4) = true := by simp
      have t0 : ((0 : Int) == 0) = true := rfl
      go_upto_region 22 with fail
      go_region_held3 (fun w' : World => w'.cell? ⟨b14, 0, none⟩ = some (.string r.key) ∧ w'.cell? ⟨b14, 1, none⟩ = some (.int .i64 r.base) ∧ w'.cell? ⟨b14, 2, none⟩ = some (.int .i64 r.metre) ∧ w'.cell? ⟨b14, 3, none⟩ = some (.int .i64 r.minute) ∧ w'.cell? ⟨b14, 4, none⟩ = some (.int .i64 r.cross) ∧ w'.cell? ⟨b14, 5, none⟩ = some (.int .i64 r.from_) ∧ w'.cell? ⟨b14, 6, none⟩ = some (.int .i64 r.to_) ∧ w'.cell? ⟨b14, 7, none⟩ = some (.int .i64 r.peak) ∧ w'.cell? ⟨b14, 8, none⟩ = some (.int .i64 r.least) ∧ w'.cell? ⟨b14, 9, none⟩ = some (.int .i64 r.most) ∧ w'.cell? ⟨bt, ot, none⟩ = some (.string k1) ∧ w'.cell? ⟨bt, ot + 1, none⟩ = some (.string k2) ∧ w'.cell? ⟨bt, ot + 2, none⟩ = some (.slice xa nn cp) ∧ w'.cell? ⟨bt, ot + 3, none⟩ = some (.int .i64 me) ∧ w'.cell? ⟨bt, ot + 4, none⟩ = some (.int .i64 fr) ∧ w'.cell? ⟨bt, ot + 5, none⟩ = some (.int .i64 to_))
        (first | (refine HGS.out _ ?_; (repeat (first | exact HZ.out | refine Nx.trans ?_ hm2 | refine Nx.trans ?_ hm1 | refine Nx.drew ?_)); done))
        (first
          | (go_at_call 15; refine (HFY.out _ ?_).mono ?_; (· (repeat (first | exact HX.out | refine Nx.drew ?_))); rintro e w3 ⟨rfl, hm1⟩)
          | (go_at_call 17; refine (w_priced _).mono ?_; rintro e w4 ⟨rfl, hm2⟩))
      all_goals
        (go_wp2_with fail
         go_ret
         exact ⟨rfl, HNX.out.trans (HX.out.trans (by repeat (first | exact HZ.out | refine Nx.trans ?_ hm2 | refine Nx.trans ?_ hm1 | refine Nx.drew ?_)))⟩)
end Go.Proofs.YtdnmcpojjndjbaaGreatDoor
