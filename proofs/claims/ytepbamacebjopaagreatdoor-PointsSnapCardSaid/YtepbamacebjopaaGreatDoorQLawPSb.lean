/- jitlaw1.PointsSnap, its second part: what is answered (gen_calls.py ps13.src). -/
import Derived.Test.YtepbamacebjopaaGreatDoorQG29
import Derived.Test.YtepbamacebjopaaGreatDoorQG32
import Derived.Test.YtepbamacebjopaaGreatDoorQG34
import Derived.Test.YtepbamacebjopaaGreatDoorQG24
import Derived.Test.YtepbamacebjopaaGreatDoorQG2
import Derived.Deep.DeepCutAuto
import Derived.Deep.DeepMust
import Derived.Deep.RegionHeldLaw
namespace Go.Proofs.YtepbamacebjopaaGreatDoor
open Go.RowKit Go.Sort

theorem islL_bd (R : ByteArray → List ByteArray) : ∀ (l : List Node) (T : List ByteArray), (islL R l T).length ≤ l.length ∧ ∀ x ∈ islL R l T, ∃ a, x = R a
  | [], _ => ⟨Nat.le_refl _, fun x h => absurd h (by simp [islL])⟩
  | n :: l, T => by
    unfold islL
    split
    · have h := islL_bd R l T
      exact ⟨by rw [List.length_cons]; omega, h.2⟩
    · have h := islL_bd R l (T ++ R n.key)
      refine ⟨by rw [List.length_cons, List.length_cons]; omega, fun x hx => ?_⟩
      rcases List.mem_cons.1 hx with e | e
      · exact ⟨_, e⟩
      · exact h.2 x e
theorem isl_bd {ns : List Node} {rs : List Arc} {es : List RowS} (h : es.map (·.l) = islandsL ns rs) : es.length ≤ ns.length ∧ ∀ r ∈ es, r.l.length ≤ ns.length := by
  obtain ⟨h1, h2⟩ := islL_bd (fun a => rowI (Both rs a) ns) ns []
  have hl := congrArg List.length h
  rw [List.length_map] at hl
  refine ⟨by unfold islandsL at hl; omega, fun r hr => ?_⟩
  have hm : r.l ∈ islandsL ns rs := h ▸ List.mem_map.2 ⟨r, hr, rfl⟩
  obtain ⟨a, e⟩ := h2 _ hm
  rw [e]
  unfold rowI
  rw [List.length_map]
  exact List.length_filter_le _ _
theorem rows_rd {w : World} {base c : Nat} {A : Option Addr} {es : List RowS} (h : w.ownsRow base 34 1 (.slice A es.length c) es.length (es.flatMap encRS)) (hr : OwnRowsS w base es) : RdRows w 0 A es := by
  obtain ⟨A', c', e, h1, _⟩ := Rd.of_own encRS_len rfl h
  injection e with e1 e2 e3
  subst e1
  refine ⟨h1.low (Nat.zero_le _), fun r hm => ?_⟩
  obtain ⟨A2, c2, e, h2, _⟩ := Rd.of_own encS_len rfl (hr r hm)
  injection e with e1 e2 e3
  subst e1
  exact h2.low (Nat.zero_le _)
theorem endsF_bad {ns : List Node} {rs : List Arc} {bs : List Ban} {f t : ByteArray} (h : roadsF ns rs bs ≠ 0) : endsF ns rs bs f t 0 = roadsF ns rs bs := by
  unfold endsF
  rw [if_neg h]
/-- Both sides' roads without some arcs are the same. -/
theorem samer (O0 O1 O2 A A1 A2 : Option Addr) (k0 k1 k2 ca d1 d2 : Nat) {ns ns1 : List Node} {rs rs1 : List Arc} {bs bs1 : List Ban} {l : List ByteArray} {w : World} {lo m0 m1 m2 nn : Nat} (h : Rd w 0 O0 3 encNode ns1 ∧ RdArcs w 0 O1 rs1 ∧ Rd w 0 O2 2 encBan bs1) (e1 : ns1 = ns) (e2 : rs1.map coreA = (lessA rs (memS l)).map coreA) (e3 : bs1 = lessB bs (memS l)) (hm0 : m0 = ns1.length) (hm1 : m1 = rs1.length) (hm2 : m2 = bs1.length) (hnn : ns.length = nn)
    (hN : Rd w lo A 3 encNode ns) (hRA : Rd w 0 A1 5 encArc (lessA rs (memS l))) (hRB : Rd w 0 A2 2 encBan (lessB bs (memS l))) (hK : ∀ a ∈ lessA rs (memS l), Rd w lo a.ka 2 encKnot a.knots ∧ a.knots.length ≤ 400 ∧ a.key.size ≤ 1000000) (hb0 : ns.length ≤ 65536) (hb1 : rs.length ≤ 65536) (hb2 : bs.length ≤ 65536) :
    Calls Tryz.prog 14 #[.agg #[.slice O0 m0 k0, .slice O1 m1 k1, .slice O2 m2 k2], .agg #[.slice A nn ca, .slice A1 (lessA rs (memS l)).length d1, .slice A2 (lessB bs (memS l)).length d2]] w fun e w' => e = .returned (.bool true) ∧ Nx w w' := by
  subst e1 e3 hm0 hm1 hm2 hnn
  have hl1 : rs1.length = (lessA rs (memS l)).length := by have := congrArg List.length e2; simpa using this
  exact w_SameRoads 0 0 O0 O1 O2 A A1 A2 k0 k1 k2 ca d1 d2 _ rs1 _ _ w h.1 h.2.1 h.2.2 (hN.low (Nat.zero_le _)) ⟨hRA, fun a ha => ⟨(hK a ha).1.low (Nat.zero_le _), (hK a ha).2⟩⟩ hRB hb0 (by rw [hl1]; exact Nat.le_trans lessA_len hb1) (Nat.le_trans lessB_len hb2) e2
noncomputable def codePS (r : Nat) : Code := fromReg r (Tryz.f3.body.getD .skip)
section
attribute [local go_sem ↓] neq_Spot2
set_option maxRecDepth 100000 in
set_option maxHeartbeats 8000000 in
theorem st_PS13 {w w5 : World} {g lo ca cb cc cd : Nat} {B0 B1 B2 D : Option Addr} {ns : List Node} {rs : List Arc} {bs : List Ban} {l : List ByteArray} {x y : Int} {f t : ByteArray}
    (HT : Hid (∀ W, Nx w5 W → Nx w W)) (HR5 : Hid (∀ W, Nx w5 W → Rd W lo B0 3 encNode ns ∧ RdArcs W lo B1 rs ∧ Rd W lo B2 2 encBan bs))
    (HB5 : Hid (∀ W, Nx w5 W → W.cell? ⟨g, 0, none⟩ = some (.slice B0 ns.length ca) ∧ W.cell? ⟨g, 1, none⟩ = some (.slice B1 rs.length cb) ∧ W.cell? ⟨g, 2, none⟩ = some (.slice B2 bs.length cc)))
    (HDD : Hid (Rd w5 lo D 1 encS l)) (HSN : Hid (SmallN ns)) (hn5 : ns.length ≤ 5) (hr10 : rs.length ≤ 10) (hb101 : bs.length ≤ 101) (hl12 : l.length ≤ 12) {u0 u1 u2 u3 u10 u11 u12 u13 u14 u15 u16 u17 u18 u19 u20 u21 u22 u23 u24 u25 u26 u27 u28 u29 u30 u31 u32 u33 u34 u35 u36 u37 u38 u39 u40 u41 u42 u43 u44 u45 u46 u47 u48 u49 u50 u51 u52 u53 u54 u55 u56 u57 u58 u59 u60 u61 u62 u63 u64 u65 u66 u67 u68 u69 u70 u71 u72 u73 u74 u75 u76 u77 u78 u79 u80 u81 u82 u83 u84 u85 u86 u87 u88 u89 u90 u91 u92 u93 u94 u95 u96 u97 u98 u99 u100 u101 u102 u103 u104 u105 u106 u107 u108 u109 u110 u111 u112 u113 u114 u115 u116 u117 u118 u119 u120 u121 u122 u123 u124 u125 u126 u127 u128 u129 u130 u131 u132 u133 u134 u135 u136 u137 u138 u139 u140 u141 u142 u143 u144 u145 u146 u147 u148 u149 u150 u151 u152 u153 u154 u155 u156 u157 u158 u159 u160 u161 u162 u163 u164 u165 u166 u167 u168 u169 u170 u171 u172 u173 u174 u175 u176 u177 u178 u179 u180 u181 u182 u183 u184 u185 u186 u187 u188 u189 u190 u191 u192 u193 u194 u195 u196 u197 u198 u199 u200 u201 u202 u203 u204 u205 u206 u207 u208 u209 u210 u211 u212 u213 u214 u215 u216 u217 u218 u219 u220 u221 u222 u223 u224 u225 u226 u227 u228 u229 : Value} :
    Code.wp Tryz.prog (codePS 13) (bodyPost Tryz.prog Tryz.f3 (TrueNx w)) ⟨#[u0, u1, u2, u3, .pointer (some ⟨g, 0, none⟩), .int .i64 x, .int .i64 y, .string f, .string t, .slice D l.length cd, u10, u11, u12, u13, u14, u15, u16, u17, u18, u19, u20, u21, u22, u23, u24, u25, u26, u27, u28, u29, u30, u31, u32, u33, u34, u35, u36, u37, u38, u39, u40, u41, u42, u43, u44, u45, u46, u47, u48, u49, u50, u51, u52, u53, u54, u55, u56, u57, u58, u59, u60, u61, u62, u63, u64, u65, u66, u67, u68, u69, u70, u71, u72, u73, u74, u75, u76, u77, u78, u79, u80, u81, u82, u83, u84, u85, u86, u87, u88, u89, u90, u91, u92, u93, u94, u95, u96, u97, u98, u99, u100, u101, u102, u103, u104, u105, u106, u107, u108, u109, u110, u111, u112, u113, u114, u115, u116, u117, u118, u119, u120, u121, u122, u123, u124, u125, u126, u127, u128, u129, u130, u131, u132, u133, u134, u135, u136, u137, u138, u139, u140, u141, u142, u143, u144, u145, u146, u147, u148, u149, u150, u151, u152, u153, u154, u155, u156, u157, u158, u159, u160, u161, u162, u163, u164, u165, u166, u167, u168, u169, u170, u171, u172, u173, u174, u175, u176, u177, u178, u179, u180, u181, u182, u183, u184, u185, u186, u187, u188, u189, u190, u191, u192, u193, u194, u195, u196, u197, u198, u199, u200, u201, u202, u203, u204, u205, u206, u207, u208, u209, u210, u211, u212, u213, u214, u215, u216, u217, u218, u219, u220, u221, u222, u223, u224, u225, u226, u227, u228, u229], []⟩ w5 := by
  conv => arg 2; whnf
  have HRF := hide (fun W (hx : Nx w5 W) => w_RoadsFault lo lo lo B0 B1 B2 ca cb cc ns rs bs W (HR5.out W hx).1 HSN.out (by omega) (HR5.out W hx).2.1 (by omega) (HR5.out W hx).2.2 (by omega))
  have hnl : ns.length ≤ 400 := by omega
  have hal : rs.length ≤ 400 := by omega
  have hbl : bs.length ≤ 400 := by omega
  have hll : l.length ≤ 400 := by omega
  by_cases hF : roadsF ns rs bs = 0
  · have HSU := hide (fun W (hx : Nx w5 W) => w_SnapU lo B0 B1 B2 ca cb cc ns rs bs W (HR5.out W hx).1 (HR5.out W hx).2.1 (HR5.out W hx).2.2 hnl hal hbl HSN.out hF x y)
    have HIS := hide (fun W (hx : Nx w5 W) => w_Islands lo B0 B1 B2 ca cb cc ns rs bs W (HR5.out W hx).1 (HR5.out W hx).2.1 (HR5.out W hx).2.2 hnl hal hbl HSN.out hF)
    have HNU := hide (fun W (hx : Nx w5 W) => w_NeedU lo B0 B1 B2 ca cb cc ns rs bs W (HR5.out W hx).1 (HR5.out W hx).2.1 (HR5.out W hx).2.2 hnl hal hbl HSN.out hF f t)
    have HWU := hide (fun W (hx : Nx w5 W) => w_WithU lo B0 B1 B2 ca cb cc ns rs bs W (HR5.out W hx).1 (HR5.out W hx).2.1 (HR5.out W hx).2.2 hnl hal hbl HSN.out hF lo D cd l (HDD.out.nx hx) hll)
    have HSO := hide (fun (hp : isPtB x y = true) W (hx : Nx w5 W) => w_SnapOf lo B0 B1 B2 ca cb cc ns rs bs x y W (HR5.out W hx).1 (HR5.out W hx).2.1 hnl hal hF hp)
    have HIO := hide (fun W (hx : Nx w5 W) => w_IslandsOf lo B0 B1 B2 bs.length ca cb cc ns rs W (HR5.out W hx).1 (HR5.out W hx).2.1.1 hnl hal (sortN_of (roads_ok hF).1) (roads_ok hF).2.1)
    have HNO := hide (fun (hf : 0 ≤ nodeI ns f) (ht : 0 ≤ nodeI ns t) W (hx : Nx w5 W) => w_NeededOf lo B0 B1 B2 ns.length ca cb cc ns rs bs f t W (HR5.out W hx).2.1 (HR5.out W hx).2.2 hal hbl (roads_ok hF).2.1 hf ht)
    have HNF := hide (fun s W (hx : Nx w5 W) => w_NodeFault lo B0 B1 B2 rs.length bs.length ca cb cc ns s W (HR5.out W hx).1 (by omega))
    have HWF := hide (fun W (hx : Nx w5 W) => w_WithoutFault lo B0 B1 B2 ns.length bs.length ca cb cc rs lo D cd l W (HR5.out W hx).2.1.1 (by omega) (HDD.out.nx hx) (by omega))
    have HWO := hide (fun W (hx : Nx w5 W) => w_WithoutOf lo B0 B1 B2 ns.length ca cb cc rs bs lo D cd l W (HR5.out W hx).2.1.1 (HR5.out W hx).2.2 hal hbl (HDD.out.nx hx) (by omega))
    have HAN := hide (fun W (hx : Nx w5 W) a (ha : a ∈ lessA rs (memS l)) => (HR5.out W hx).2.1.2 a (lessA_mem.1 ha).1)
    have HRN := hide (fun W (hx : Nx w5 W) => (HR5.out W hx).1)
    have HISL := hide (fun (es : List RowS) (h : es.map (·.l) = islandsL ns rs) => isl_bd (ns := ns) (rs := rs) h)
    rw [hF] at HRF
    generalize hn : ns.length = nn at *
    generalize hr : rs.length = nr at *
    generalize hb : bs.length = nb at *
    generalize hlq : l.length = nl at *
    have HNN := hide hn
    have HNR := hide hr
    have HNB := hide hb
    have HNL := hide hlq
    clear hn hr hb hlq hnl hal hbl hll
    obtain ⟨c0, c1, c2⟩ := HB5.out w5 (Nx.refl _)
    go_wp2_with fail
    refine (HSU.out w5 (Nx.refl _)).mono ?_
    rintro e w6 ⟨S, b, rfl, hS0, hS1, hn6⟩
    rw [← HNR.out] at hS0
    have HSV := hide (⟨hS0, hS1⟩ : (ptF x y = 0 → S = snapV ns rs x y ∧ b = decide (0 < rs.length)) ∧ (ptF x y ≠ 0 → S = default ∧ b = false))
    have HN6 := hide hn6
    clear c0 c1 c2 hS0 hS1 hn6 HSU
    have HPT := hide (fun h : ptF x y = 0 => (show isPtB x y = true from by
      cases hq : isPtB x y with
      | true => rfl
      | false => unfold ptF argF at h; rw [hq] at h; exact absurd h (by decide)))
    have HPF := hide (fun W => w_PointFault x y W)
    generalize ptF x y = PF at *
    unfold spotAgg
    go_upto_region 14 with fail
    obtain ⟨q12, hq12⟩ : ∃ q, q = w6.heap.size := ⟨_, rfl⟩
    obtain ⟨w7, hw7⟩ : ∃ w7, w7 = w6.alloc (.cells #[.string S.key, .int .i64 (S.pn : Int), .int .i64 (S.pd : Int), .int .i64 (S.fn : Int), .int .i64 (S.fd : Int)] 43) := ⟨_, rfl⟩
    have HQ12 := hide (show SpotAt w7 q12 S by rw [hw7]; exact hnew hq12)
    have HN7 := hide (show Nx w5 w7 from HN6.out.trans (hw7 ▸ (Nx.refl w6).alloc _))
    rw [← hq12, ← hw7]
    clear hw7 hq12
    obtain ⟨c0, c1, c2⟩ := HB5.out w7 HN7.out
    go_wp2_with fail
    refine (HIS.out w7 HN7.out).mono ?_
    rintro e w8 ⟨vI, es, rfl, hes, hownI, hrowsI, hn8⟩
    obtain ⟨ZI, zi, rfl, _, _⟩ := Rd.of_own encRS_len rfl hownI
    obtain ⟨hb1, hb2⟩ := HISL.out es hes
    have HRI := hide (rows_rd hownI hrowsI)
    have HES := hide hes
    have HEB := hide (⟨by omega, fun r hr => by have := hb2 r hr; omega⟩ : es.length ≤ 65536 ∧ ∀ r ∈ es, r.l.length ≤ 65536)
    have HX8 := hide hn8
    have HN8 := hide (HN7.out.trans hn8)
    clear c0 c1 c2 hes hownI hrowsI hn8 hb1 hb2 HIS HISL
    obtain ⟨ne, hne⟩ : ∃ ne, ne = es.length := ⟨_, rfl⟩
    rw [← hne]
    have HNE := hide hne
    clear hne
    obtain ⟨c0, c1, c2⟩ := HB5.out w8 HN8.out
    go_wp2_with fail
    refine (HNU.out w8 HN8.out).mono ?_
    rintro e w9 ⟨ZL, zc, L, F, rfl, hRL, hLl, hn9, hcaseF⟩
    have HRL := hide hRL
    have HCF := hide hcaseF
    have HLL := hide (show L.length ≤ 65536 by omega)
    have HX9 := hide (HX8.out.trans hn9)
    have HY9 := hide hn9
    have HN9 := hide (HN8.out.trans hn9)
    clear c0 c1 c2 hRL hLl hn9 hcaseF HNU
    obtain ⟨n1, hn1⟩ : ∃ n1, n1 = L.length := ⟨_, rfl⟩
    rw [← hn1]
    have HN1 := hide hn1
    clear hn1
    obtain ⟨c0, c1, c2⟩ := HB5.out w9 HN9.out
    go_wp2_with fail
    refine (HWU.out w9 HN9.out).mono ?_
    rintro e w10 ⟨O0, O1, O2, k0, k1, k2, ns1, rs1, bs1, rfl, hRO, hn10, hcaseO⟩
    have HRO := hide hRO
    have HCO := hide hcaseO
    have HX10 := hide (HX9.out.trans hn10)
    have HY10 := hide (HY9.out.trans hn10)
    have HZ10 := hide hn10
    have HN10 := hide (HN9.out.trans hn10)
    clear c0 c1 c2 hRO hn10 hcaseO HWU
    obtain ⟨m0, hm0⟩ : ∃ n, n = ns1.length := ⟨_, rfl⟩
    obtain ⟨m1, hm1⟩ : ∃ n, n = rs1.length := ⟨_, rfl⟩
    obtain ⟨m2, hm2⟩ : ∃ n, n = bs1.length := ⟨_, rfl⟩
    rw [← hm0, ← hm1, ← hm2]
    have HM0 := hide hm0
    have HM1 := hide hm1
    have HM2 := hide hm2
    clear hm0 hm1 hm2
    generalize hwf : wdsF rs l = WF at *
    have HWFE := hide hwf
    clear hwf
    go_upto_region 17 with fail
    obtain ⟨q19, hq19⟩ : ∃ q, q = w10.heap.size := ⟨_, rfl⟩
    obtain ⟨w11, hw11⟩ : ∃ w11, w11 = w10.alloc (.cells #[.slice O0 m0 k0, .slice O1 m1 k1, .slice O2 m2 k2] 30) := ⟨_, rfl⟩
    have hn11 : Nx w10 w11 := hw11 ▸ (Nx.refl w10).alloc _
    have hl19 : q19 < w11.heap.size := by rw [hw11, hq19]; simp
    have o0 : w11.cell? ⟨q19, 0, none⟩ = some (.slice O0 m0 k0) := by rw [hw11, hq19]; go_simp
    have o1 : w11.cell? ⟨q19, 1, none⟩ = some (.slice O1 m1 k1) := by rw [hw11, hq19]; go_simp
    have o2 : w11.cell? ⟨q19, 2, none⟩ = some (.slice O2 m2 k2) := by rw [hw11, hq19]; go_simp
    have HN11 := hide (HN10.out.trans hn11)
    -- what lies in w11, and in each world behind it
    have HB := hide (fun W (hx : Nx w11 W) => HB5.out W (HN11.out.trans hx))
    have HOB := hide (fun W (hx : Nx w11 W) => (⟨nx_cell hx hl19 o0, nx_cell hx hl19 o1, nx_cell hx hl19 o2⟩ : W.cell? ⟨q19, 0, none⟩ = some (.slice O0 m0 k0) ∧ W.cell? ⟨q19, 1, none⟩ = some (.slice O1 m1 k1) ∧ W.cell? ⟨q19, 2, none⟩ = some (.slice O2 m2 k2)))
    have HSP := hide (fun W (hx : Nx w11 W) => HQ12.out.nx (HX10.out.trans (hn11.trans hx)))
    have HRI2 := hide (fun W (hx : Nx w11 W) => HRI.out.nx (HY10.out.trans (hn11.trans hx)))
    have HRL2 := hide (fun W (hx : Nx w11 W) => HRL.out.nx (HZ10.out.trans (hn11.trans hx)))
    have HRO2 := hide (fun W (hx : Nx w11 W) => (⟨HRO.out.1.nx (hn11.trans hx), HRO.out.2.1.nx (hn11.trans hx), HRO.out.2.2.nx (hn11.trans hx)⟩ : Rd W 0 O0 3 encNode ns1 ∧ RdArcs W 0 O1 rs1 ∧ Rd W 0 O2 2 encBan bs1))
    rw [← hq19, ← hw11]
    clear hw11 hq19 hn11 hl19 o0 o1 o2 HRI HRL HRO HQ12 HX8 HX9 HX10 HY9 HY10 HZ10 HN6 HN7 HN8 HN9 HN10
    obtain ⟨c0, c1, c2⟩ := HB.out w11 (Nx.refl _)
    go_wp2_with fail
    refine (HRF.out w11 HN11.out).mono ?_
    rintro e w12 ⟨rfl, hn12⟩
    clear c0 c1 c2 HRF
    go_wp2_with fail
    refine (HPF.out _).mono ?_
    rintro e w13 ⟨rfl, rfl⟩
    have HN12 := hide hn12
    clear hn12
    go_upto_region 22 with fail
    obtain ⟨q23, hq23⟩ : ∃ q, q = w12.heap.size := ⟨_, rfl⟩
    obtain ⟨w14, hw14⟩ : ∃ w14, w14 = w12.alloc (.cells #[.string ⟨#[]⟩, .int .i64 0, .int .i64 0, .int .i64 0, .int .i64 0] 43) := ⟨_, rfl⟩
    have HQ23 := hide (show SpotAt w14 q23 default by rw [hw14]; exact hnew hq23)
    have HN14 := hide (show Nx w11 w14 from HN12.out.trans (hw14 ▸ (Nx.refl w12).alloc _))
    have HL23 := hide (show w11.heap.size ≤ q23 by rw [hq23]; exact HN12.out.sz)
    rw [← hq23, ← hw14]
    clear hw14 hq23
    go_upto_if 141 with fail
    go_cut [24] (fun v wx => v = .bool b ∧ SpotAt wx q23 S ∧ Nx w11 wx)
    case first =>
      by_cases hp : PF = 0
      · have tp : (PF == 0) = true := by rw [hp]; rfl
        obtain ⟨e1, e2⟩ := HSV.out.1 hp
        have HSO1 := hide (HSO.out (HPT.out hp) w14 (HN11.out.trans HN14.out))
        rw [HNR.out] at e2
        rw [← e1, ← e2] at HSO1
        unfold spotAgg at HSO1
        obtain ⟨c0, c1, c2⟩ := HB.out w14 HN14.out
        clear hp e1 e2 HSO HPT HSV
        go_wp2_with fail
        refine HSO1.out.mono ?_
        rintro e w15 ⟨rfl, hn15⟩
        have h23 := HQ23.out.nx hn15
        obtain ⟨k0', k1', k2', k3', k4'⟩ := h23.cells
        have z0 := h23.open_ 0
        have z1 := h23.open_ 1
        have z2 := h23.open_ 2
        have z3 := h23.open_ 3
        have z4 := h23.open_ 4
        have H23 := hide h23
        have hl := HL23.out
        have HN15 := hide (((((HN14.out.trans hn15).setCell (p := ⟨q23, 0, none⟩) hl (.string S.key)).setCell (p := ⟨q23, 1, none⟩) hl (.int .i64 (S.pn : Int))).setCell (p := ⟨q23, 2, none⟩) hl (.int .i64 (S.pd : Int))).setCell (p := ⟨q23, 3, none⟩) hl (.int .i64 (S.fn : Int)) |>.setCell (p := ⟨q23, 4, none⟩) hl (.int .i64 (S.fd : Int)))
        clear c0 c1 c2 hn15 h23 hl
        go_wp2_with fail
        go_meet
        exact ⟨rfl, H23.out.put, HN15.out⟩
      · have tp : (PF == 0) = false := by rw [beq_eq_false_iff_ne]; exact hp
        obtain ⟨e1, e2⟩ := HSV.out.2 hp
        have E1 := hide e1
        have E2 := hide e2
        clear hp e1 e2
        go_wp2_with fail
        go_meet
        exact ⟨by rw [E2.out], by rw [E1.out]; exact HQ23.out, HN14.out⟩
    case rest =>
      obtain ⟨rfl, hQc, hxc⟩ := hcut
      clear HQ23 HN14 HL23 HN12 HSO HSV HPT HPF
      have HNC := hide (HN11.out.trans hxc)
      obtain ⟨c0, c1, c2⟩ := HB.out wc hxc
      obtain ⟨s0, s1, s2, s3, s4⟩ := (HSP.out wc hxc).cells
      obtain ⟨v0, v1, v2, v3, v4⟩ := hQc.cells
      have HXC := hide hxc
      clear hQc hxc
      go_wp2_with fail
      refine (HIO.out wc HNC.out).mono ?_
      rintro e w16 ⟨vI2, es2, rfl, hes2, hownI2, hrowsI2, hn16⟩
      obtain ⟨ZI2, zi2, rfl, _, _⟩ := Rd.of_own encRS_len rfl hownI2
      have HX16 := hide (HXC.out.trans hn16)
      have HEF := hide (w_EqualFR 20 eg_eqS w_EqualSS 0 0 ZI ZI2 zi zi2 es es2 w16 (HRI2.out w16 HX16.out) (rows_rd hownI2 hrowsI2) HEB.out.1 HEB.out.2 (HES.out.trans hes2.symm))
      rw [← HNE.out] at HEF
      obtain ⟨ne2, hne2⟩ : ∃ ne2, ne2 = es2.length := ⟨_, rfl⟩
      rw [← hne2] at HEF ⊢
      clear c0 c1 c2 s0 s1 s2 s3 s4 v0 v1 v2 v3 v4 hes2 hownI2 hrowsI2 hn16 hne2 HIO HSP HRI2 HES
      go_wp2_with fail
      refine HEF.out.mono ?_
      rintro e w17 ⟨rfl, hn17⟩
      have HX17 := hide (HX16.out.trans hn17)
      have HN17 := hide (HN11.out.trans (HX16.out.trans hn17))
      clear hn17 HEF HX16 HNC HXC
      go_upto_region 27 with fail
      -- both ends, and whether there is a way
      obtain ⟨F2, hF2⟩ : ∃ F2, F2 = orI [noneF ns f, noneF ns t] := ⟨_, rfl⟩
      have HF2 := hide hF2
      have HOR := hide (fun (P : Nat) (W : World) (h : W.heap[P]? = some (.cells #[.int .i64 (noneF ns f), .int .i64 (noneF ns t)] 44 (0, 0))) => (show Calls Tryz.prog 21 #[.slice (some ⟨P, 0, none⟩) 2 2] W fun e w' => e = .returned (.int .i64 F2) ∧ W = w' from hF2 ▸ w_Or2 (noneF ns f) (noneF ns t) P 2 W h))
      clear hF2
      go_cut [25] (fun v wx => v = .int .i64 F2 ∧ Nx w11 wx)
      case first =>
        have hx : Nx w11 w17.drew := HX17.out.drew
        refine wp_region_held_drew (S := fun W => W.cell? ⟨g, 0, none⟩ = some (.slice B0 nn ca) ∧ W.cell? ⟨g, 1, none⟩ = some (.slice B1 nr cb) ∧ W.cell? ⟨g, 2, none⟩ = some (.slice B2 nb cc)) (by kernel_rfl) (HB.out _ hx) (fun hHeld => ?_)
        generalize w17.drew = wd at *
        refine wpAnyH_take (i := 0) (oi := ⟨some 173, _, _, _, _, _⟩) (v := ?_) rfl (by kernel_rfl) (by kernel_rfl) (by kernel_rfl) (fun _ _ _ h => h) (Or.inl ⟨by rfl, ?_⟩) (by assumption) ?_
        rotate_left 1
        · intro w hSw
          (try dsimp only at hSw)
          go_simp
          try with_reducible rfl
        try simp only [Act.put, List.setIfInBounds_toArray, List.set_cons_zero, List.set_cons_succ]
        refine wpAnyH_take (i := 1) (oi := ⟨some 174, _, _, _, _, _⟩) (v := ?_) rfl (by kernel_rfl) (by kernel_rfl) (by kernel_rfl) (fun _ _ _ h => h) (Or.inl ⟨by rfl, ?_⟩) (by assumption) ?_
        rotate_left 1
        · intro w hSw
          (try dsimp only at hSw)
          go_simp
          try with_reducible rfl
        try simp only [Act.put, List.setIfInBounds_toArray, List.set_cons_zero, List.set_cons_succ]
        refine wpAnyH_take (i := 3) (oi := ⟨some 176, _, _, _, _, _⟩) (v := ?_) rfl (by kernel_rfl) (by kernel_rfl) (by kernel_rfl) (fun _ _ _ h => h) (Or.inl ⟨by rfl, ?_⟩) (by assumption) ?_
        rotate_left 1
        · intro w hSw
          (try dsimp only at hSw)
          go_simp
          try with_reducible rfl
        try simp only [Act.put, List.setIfInBounds_toArray, List.set_cons_zero, List.set_cons_succ]
        refine wpAnyH_take (i := 4) (oi := ⟨some 177, _, _, _, _, _⟩) (v := ?_) rfl (by kernel_rfl) (by kernel_rfl) (by kernel_rfl) (fun _ _ _ h => h) (Or.inl ⟨by rfl, ?_⟩) (by assumption) ?_
        rotate_left 1
        · intro w hSw
          (try dsimp only at hSw)
          go_simp
          try with_reducible rfl
        try simp only [Act.put, List.setIfInBounds_toArray, List.set_cons_zero, List.set_cons_succ]
        refine wpAnyH_ready (rs := [2]) (by kernel_rfl) (by simp) ?_
        refine AllReadyH.cons rfl (fun K hK => ?_) AllReadyH.nil
        go_simp
        go_at_call 22
        refine (HNF.out f wd (HN11.out.trans hx)).mono ?_
        rintro e w18 ⟨rfl, hn18⟩
        replace hx := hx.trans hn18
        go_simp
        refine hK.out _ _ (HB.out _ hx) (fun hHeld => ?_)
        clear hK K
        try simp only [Act.put, List.setIfInBounds_toArray, List.set_cons_zero, List.set_cons_succ]
        refine wpAnyH_ready (rs := [5]) (by kernel_rfl) (by simp) ?_
        refine AllReadyH.cons rfl (fun K hK => ?_) AllReadyH.nil
        go_simp
        go_at_call 22
        refine (HNF.out t w18 (HN11.out.trans hx)).mono ?_
        rintro e w19 ⟨rfl, hn19⟩
        replace hx := hx.trans hn19
        go_simp
        refine hK.out _ _ (HB.out _ hx) (fun hHeld => ?_)
        clear hK K
        try simp only [Act.put, List.setIfInBounds_toArray, List.set_cons_zero, List.set_cons_succ]
        generalize noneF ns f = z1 at *
        generalize noneF ns t = z2 at *
        refine wpAnyH_ready (rs := [6]) (by kernel_rfl) (by simp) ?_
        refine AllReadyH.cons rfl (fun K hK => ?_) AllReadyH.nil
        go_simp
        obtain ⟨P, hP⟩ : ∃ P, P = w19.heap.size := ⟨_, rfl⟩
        have HLB := hide (hnew hP : (w19.alloc (.cells #[.int .i64 z1, .int .i64 z2] 44)).heap[P]? = some (.cells #[.int .i64 z1, .int .i64 z2] 44 (0, 0)))
        have hx20 := hx.alloc (.cells #[.int .i64 z1, .int .i64 z2] 44)
        rw [← hP]
        clear hP
        generalize w19.alloc (.cells #[.int .i64 z1, .int .i64 z2] 44) = w20 at *
        refine hK.out _ _ (HB.out _ hx20) (fun hHeld => ?_)
        clear hK K
        try simp only [Act.put, List.setIfInBounds_toArray, List.set_cons_zero, List.set_cons_succ]
        refine wpAnyH_ready (rs := [7]) (by kernel_rfl) (by simp) ?_
        refine AllReadyH.cons rfl (fun K hK => ?_) AllReadyH.nil
        go_simp
        go_at_call 21
        refine (HOR.out P w20 HLB.out).mono ?_
        rintro e w21 ⟨rfl, rfl⟩
        go_simp
        refine hK.out _ _ (HB.out _ hx20) (fun hHeld => ?_)
        clear hK K
        try simp only [Act.put, List.setIfInBounds_toArray, List.set_cons_zero, List.set_cons_succ]
        refine wpAnyH_take (i := 8) (oi := ⟨some 25, _, _, _, _, _⟩) (v := ?_) rfl (by kernel_rfl) (by kernel_rfl) (by kernel_rfl) (fun _ _ _ h => h) (Or.inl ⟨by rfl, ?_⟩) (by assumption) ?_
        rotate_left 1
        · intro w hSw
          (try dsimp only at hSw)
          go_simp
          try with_reducible rfl
        try simp only [Act.put, List.setIfInBounds_toArray, List.set_cons_zero, List.set_cons_succ]
        refine wpAnyH_done (by kernel_rfl) ?_ _
        go_wp2
        go_meet
        exact ⟨rfl, hx20⟩
      case rest =>
        obtain ⟨rfl, hxc⟩ := hcut
        obtain ⟨w22, hw22⟩ : ∃ w22, w22 = wc := ⟨_, rfl⟩
        subst hw22
        have HX22 := hide hxc
        clear hxc HX17 HN17 HNF
        go_upto_if 182 with fail
        go_cut [25, 26] (fun v25 v26 wx => v25 = .int .i64 F ∧ (∃ (Z2 : Option Addr) (z2 : Nat), v26 = .slice Z2 n1 z2 ∧ Rd wx 0 Z2 1 encS L) ∧ Nx w11 wx)
        case first =>
          by_cases hft : 0 ≤ nodeI ns f ∧ 0 ≤ nodeI ns t
          · have e0 : F2 = 0 := by rw [HF2.out]; unfold noneF; rw [if_neg (by omega), if_neg (by omega)]; rfl
            have E0 := hide e0
            have te : (F2 == 0) = true := by rw [e0]; rfl
            obtain ⟨c0, c1, c2⟩ := HB.out w22 HX22.out
            have HNO1 := hide (HNO.out hft.1 hft.2 w22 (HN11.out.trans HX22.out))
            have hcf := (HCF.out.resolve_left (fun h => h.1 hft)).2
            have HCF1 := hide hcf
            clear e0 hft hcf HNO HCF
            generalize arrG (gphOf ns rs bs) (nodeN ns f) (nodeN ns t) 0 = za at *
            generalize needR ns rs bs (nodeN ns f) (nodeN ns t) rs = LR at *
            go_wp2_with fail
            refine HNO1.out.mono ?_
            rintro e w23 (⟨hza, Z2, z2, rfl, hR2, hn23⟩ | ⟨hza, rfl, hn23⟩)
            · rcases HCF1.out with ⟨_, e1, e2⟩ | ⟨h, _⟩
              · rw [e2] at HN1
                have hlen : LR.length = n1 := HN1.out.symm
                rw [hlen]
                have HZ := hide (show F = 0 from e1)
                have HR2 := hide (show Rd w23 0 Z2 1 encS L by rw [e2]; exact hR2)
                clear hza e1 e2 hR2 hlen c0 c1 c2
                go_wp2_with (go_at_call 24; refine (w_when _ _ _).mono ?_; rintro e w24 ⟨rfl, rfl⟩)
                go_meet
                exact ⟨by rw [HZ.out], ⟨Z2, z2, rfl, HR2.out⟩, HX22.out.trans hn23⟩
              · omega
            · rcases HCF1.out with ⟨h, _⟩ | ⟨_, e1, e2⟩
              · omega
              · rw [e2] at HN1
                have hlen : (0 : Nat) = n1 := HN1.out.symm
                have HZ := hide (show F = 8 from e1)
                have HR2 := hide (show L = [] from e2)
                have HL0 := hide hlen
                clear hza e1 e2 c0 c1 c2 hlen
                go_wp2_with (go_at_call 24; refine (w_when _ _ _).mono ?_; rintro e w24 ⟨rfl, rfl⟩)
                go_meet
                exact ⟨by rw [HZ.out], ⟨none, 0, by rw [← HL0.out], by rw [HR2.out]; exact Rd.nil⟩, HX22.out.trans hn23⟩
          · have e0 : F2 = 8 := by
              rw [HF2.out]
              unfold noneF
              by_cases h1 : nodeI ns f < 0
              · rw [if_pos h1]; rfl
              · rw [if_neg h1, if_pos (by omega)]; rfl
            have E0 := hide e0
            have te : (F2 == 0) = false := by rw [e0]; rfl
            have hcf := HCF.out.resolve_right (fun h => hft h.1)
            have HCF1 := hide hcf
            clear e0 hft hcf HNO HCF
            go_wp2_with fail
            go_meet
            have h1 := HN1.out
            rw [HCF1.out.2.2] at h1
            exact ⟨by rw [HCF1.out.2.1, E0.out], ⟨none, 0, by rw [h1]; rfl, by rw [HCF1.out.2.2]; exact Rd.nil⟩, HX22.out⟩
        case rest =>
          obtain ⟨rfl, ⟨Z2, z2, rfl, hR2⟩, hxc⟩ := hcut
          obtain ⟨w25, hw25⟩ : ∃ w25, w25 = wc := ⟨_, rfl⟩
          subst hw25
          have HES2 := hide (w_EqualSS 0 0 ZL Z2 zc z2 L w25 (HRL2.out w25 hxc) hR2 HLL.out)
          rw [← HN1.out] at HES2
          have HX25 := hide hxc
          clear hxc hR2 HCF HNO HRL2 HX22
          go_wp2_with fail
          refine HES2.out.mono ?_
          rintro e w26 ⟨rfl, hn26⟩
          have HX26 := hide (HX25.out.trans hn26)
          obtain ⟨c0, c1, c2⟩ := HB.out w26 (HX25.out.trans hn26)
          have HWF1 := hide (HWF.out w26 (HN11.out.trans (HX25.out.trans hn26)))
          clear hn26 HES2 HX25
          go_wp2_with fail
          refine HWF1.out.mono ?_
          rintro e w27 ⟨rfl, hn27⟩
          have HX27 := hide (HX26.out.trans hn27)
          clear c0 c1 c2 hn27 HWF1 HX26 HWF
          by_cases hW : WF = 0
          · have tW : (WF == 0) = true := by rw [hW]; rfl
            have tW2 : (WF != 0) = false := by rw [hW]; rfl
            have hco := HCO.out.resolve_right (fun h => h.1 hW)
            obtain ⟨_, e1, e2, e3⟩ := hco
            have hx27 := HX27.out
            obtain ⟨c0, c1, c2⟩ := HB.out w27 hx27
            obtain ⟨o0, o1, o2⟩ := HOB.out w27 hx27
            have E1 := hide e1
            have E2 := hide e2
            have E3 := hide e3
            clear hW e1 e2 e3 HCO hx27 c0 c1 c2 o0 o1 o2
            go_upto_region 38 with fail
            have hx : Nx w11 w27.drew := HX27.out.drew
            have HSS := hide (fun W (hx : Nx w11 W) => (⟨HB.out W hx, HOB.out W hx⟩ : (W.cell? ⟨g, 0, none⟩ = some (.slice B0 nn ca) ∧ W.cell? ⟨g, 1, none⟩ = some (.slice B1 nr cb) ∧ W.cell? ⟨g, 2, none⟩ = some (.slice B2 nb cc)) ∧ (W.cell? ⟨q19, 0, none⟩ = some (.slice O0 m0 k0) ∧ W.cell? ⟨q19, 1, none⟩ = some (.slice O1 m1 k1) ∧ W.cell? ⟨q19, 2, none⟩ = some (.slice O2 m2 k2))))
            refine wp_region_held_drew (S := fun W => (W.cell? ⟨g, 0, none⟩ = some (.slice B0 nn ca) ∧ W.cell? ⟨g, 1, none⟩ = some (.slice B1 nr cb) ∧ W.cell? ⟨g, 2, none⟩ = some (.slice B2 nb cc)) ∧ (W.cell? ⟨q19, 0, none⟩ = some (.slice O0 m0 k0) ∧ W.cell? ⟨q19, 1, none⟩ = some (.slice O1 m1 k1) ∧ W.cell? ⟨q19, 2, none⟩ = some (.slice O2 m2 k2))) (by kernel_rfl) (HSS.out _ hx) (fun hHeld => ?_)
            generalize w27.drew = wd at *
            refine wpAnyH_take (i := 0) (oi := ⟨some 218, _, _, _, _, _⟩) (v := ?_) rfl (by kernel_rfl) (by kernel_rfl) (by kernel_rfl) (fun _ _ _ h => h) (Or.inl ⟨by rfl, ?_⟩) (by assumption) ?_
            rotate_left 1
            · intro w hSw
              (try dsimp only at hSw)
              go_simp
              try with_reducible rfl
            try simp only [Act.put, List.setIfInBounds_toArray, List.set_cons_zero, List.set_cons_succ]
            refine wpAnyH_take (i := 1) (oi := ⟨some 219, _, _, _, _, _⟩) (v := ?_) rfl (by kernel_rfl) (by kernel_rfl) (by kernel_rfl) (fun _ _ _ h => h) (Or.inl ⟨by rfl, ?_⟩) (by assumption) ?_
            rotate_left 1
            · intro w hSw
              (try dsimp only at hSw)
              go_simp
              try with_reducible rfl
            try simp only [Act.put, List.setIfInBounds_toArray, List.set_cons_zero, List.set_cons_succ]
            refine wpAnyH_take (i := 2) (oi := ⟨some 220, _, _, _, _, _⟩) (v := ?_) rfl (by kernel_rfl) (by kernel_rfl) (by kernel_rfl) (fun _ _ _ h => h) (Or.inl ⟨by rfl, ?_⟩) (by assumption) ?_
            rotate_left 1
            · intro w hSw
              (try dsimp only at hSw)
              go_simp
              try with_reducible rfl
            try simp only [Act.put, List.setIfInBounds_toArray, List.set_cons_zero, List.set_cons_succ]
            refine wpAnyH_take (i := 3) (oi := ⟨some 221, _, _, _, _, _⟩) (v := ?_) rfl (by kernel_rfl) (by kernel_rfl) (by kernel_rfl) (fun _ _ _ h => h) (Or.inl ⟨by rfl, ?_⟩) (by assumption) ?_
            rotate_left 1
            · intro w hSw
              (try dsimp only at hSw)
              go_simp
              try with_reducible rfl
            try simp only [Act.put, List.setIfInBounds_toArray, List.set_cons_zero, List.set_cons_succ]
            refine wpAnyH_take (i := 4) (oi := ⟨some 222, _, _, _, _, _⟩) (v := ?_) rfl (by kernel_rfl) (by kernel_rfl) (by kernel_rfl) (fun _ _ _ h => h) (Or.inl ⟨by rfl, ?_⟩) (by assumption) ?_
            rotate_left 1
            · intro w hSw
              (try dsimp only at hSw)
              go_simp
              try with_reducible rfl
            try simp only [Act.put, List.setIfInBounds_toArray, List.set_cons_zero, List.set_cons_succ]
            refine wpAnyH_take (i := 5) (oi := ⟨some 223, _, _, _, _, _⟩) (v := ?_) rfl (by kernel_rfl) (by kernel_rfl) (by kernel_rfl) (fun _ _ _ h => h) (Or.inl ⟨by rfl, ?_⟩) (by assumption) ?_
            rotate_left 1
            · intro w hSw
              (try dsimp only at hSw)
              go_simp
              try with_reducible rfl
            try simp only [Act.put, List.setIfInBounds_toArray, List.set_cons_zero, List.set_cons_succ]
            refine wpAnyH_ready (rs := [6]) (by kernel_rfl) (by simp) ?_
            refine AllReadyH.cons rfl (fun K hK => ?_) AllReadyH.nil
            go_simp
            go_at_call 26
            refine (HWO.out wd (HN11.out.trans hx)).mono ?_
            rintro e w28 ⟨vA, vB, rfl, hoA, hoB, hn28⟩
            replace hx := hx.trans hn28
            obtain ⟨A1, d1, rfl, hRA, _⟩ := Rd.of_own encArc_len rfl hoA
            obtain ⟨A2, d2, rfl, hRB, _⟩ := Rd.of_own encBan_len rfl hoB
            have HSR := hide (samer O0 O1 O2 B0 A1 A2 k0 k1 k2 ca d1 d2 (HRO2.out w28 hx) E1.out E2.out E3.out HM0.out HM1.out HM2.out HNN.out (HRN.out w28 (HN11.out.trans hx)) (hRA.low (Nat.zero_le _)) (hRB.low (Nat.zero_le _)) (HAN.out w28 (HN11.out.trans hx)) (by rw [HNN.out]; omega) (by rw [HNR.out]; omega) (by rw [HNB.out]; omega))
            clear hoA hoB hRA hRB
            generalize (lessA rs (memS l)).length = la at *
            generalize (lessB bs (memS l)).length = lb at *
            go_simp
            refine hK.out _ _ (HSS.out _ hx) (fun hHeld => ?_)
            clear hK K
            try simp only [Act.put, List.setIfInBounds_toArray, List.set_cons_zero, List.set_cons_succ]
            refine wpAnyH_ready (rs := [7]) (by kernel_rfl) (by simp) ?_
            refine AllReadyH.cons rfl (fun K hK => ?_) AllReadyH.nil
            go_simp
            go_at_call 14
            refine HSR.out.mono ?_
            rintro e w29 ⟨rfl, hn29⟩
            replace hx := hx.trans hn29
            go_simp
            refine hK.out _ _ (HSS.out _ hx) (fun hHeld => ?_)
            clear hK K
            try simp only [Act.put, List.setIfInBounds_toArray, List.set_cons_zero, List.set_cons_succ]
            refine wpAnyH_take (i := 8) (oi := ⟨some 226, _, _, _, _, _⟩) (v := ?_) rfl (by kernel_rfl) (by kernel_rfl) (by kernel_rfl) (fun _ _ _ h => h) (Or.inl ⟨by rfl, ?_⟩) (by assumption) ?_
            rotate_left 1
            · intro w hSw
              (try dsimp only at hSw)
              go_simp
              try with_reducible rfl
            try simp only [Act.put, List.setIfInBounds_toArray, List.set_cons_zero, List.set_cons_succ]
            refine wpAnyH_take (i := 9) (oi := ⟨some 227, _, _, _, _, _⟩) (v := ?_) rfl (by kernel_rfl) (by kernel_rfl) (by kernel_rfl) (fun _ _ _ h => h) (Or.inl ⟨by rfl, ?_⟩) (by assumption) ?_
            rotate_left 1
            · intro w hSw
              (try dsimp only at hSw)
              go_simp
              try with_reducible rfl
            try simp only [Act.put, List.setIfInBounds_toArray, List.set_cons_zero, List.set_cons_succ]
            refine wpAnyH_ready (rs := [10]) (by kernel_rfl) (by simp) ?_
            refine AllReadyH.cons rfl (fun K hK => ?_) AllReadyH.nil
            go_simp
            go_at_call 15
            refine (w_driven w29).mono ?_
            rintro e w30 ⟨rfl, hn30⟩
            replace hx := hx.trans hn30
            go_simp
            refine hK.out _ _ (HSS.out _ hx) (fun hHeld => ?_)
            clear hK K
            try simp only [Act.put, List.setIfInBounds_toArray, List.set_cons_zero, List.set_cons_succ]
            refine wpAnyH_take (i := 11) (oi := ⟨some 229, _, _, _, _, _⟩) (v := ?_) rfl (by kernel_rfl) (by kernel_rfl) (by kernel_rfl) (fun _ _ _ h => h) (Or.inl ⟨by rfl, ?_⟩) (by assumption) ?_
            rotate_left 1
            · intro w hSw
              (try dsimp only at hSw)
              go_simp
              try with_reducible rfl
            try simp only [Act.put, List.setIfInBounds_toArray, List.set_cons_zero, List.set_cons_succ]
            refine wpAnyH_take (i := 12) (oi := ⟨some 2, _, _, _, _, _⟩) (v := ?_) rfl (by kernel_rfl) (by kernel_rfl) (by kernel_rfl) (fun _ _ _ h => h) (Or.inl ⟨by rfl, ?_⟩) (by assumption) ?_
            rotate_left 1
            · intro w hSw
              (try dsimp only at hSw)
              go_simp
              try with_reducible rfl
            try simp only [Act.put, List.setIfInBounds_toArray, List.set_cons_zero, List.set_cons_succ]
            refine wpAnyH_done (by kernel_rfl) ?_ _
            go_wp2
            go_ret
            exact ⟨rfl, HT.out _ (HN11.out.trans hx)⟩
          · have tW : (WF == 0) = false := by rw [beq_eq_false_iff_ne]; exact hW
            have tW2 : (WF != 0) = true := by rw [bne_iff_ne]; exact hW
            have hco := HCO.out.resolve_left (fun h => hW h.1)
            obtain ⟨_, rfl, rfl, rfl, rfl, rfl, rfl, rfl, rfl, rfl⟩ := hco
            have hm0 : m0 = 0 := HM0.out
            have hm1 : m1 = 0 := HM1.out
            have hm2 : m2 = 0 := HM2.out
            subst hm0 hm1 hm2
            obtain ⟨o0, o1, o2⟩ := HOB.out w27 HX27.out
            have HSZ := hide (fun W => w_SameRoads 0 0 none none none none none none 0 0 0 0 0 0 [] [] [] [] W Rd.nil ⟨Rd.nil, fun a ha => absurd ha (by simp)⟩ Rd.nil Rd.nil ⟨Rd.nil, fun a ha => absurd ha (by simp)⟩ Rd.nil (by simp) (by simp) (by simp) rfl)
            clear hW HCO
            go_wp2_with (first
              | (go_at_call 14; refine (HSZ.out _).mono ?_; rintro e w28 ⟨rfl, hn28⟩)
              | (go_at_call 15; refine (w_driven _).mono ?_; rintro e w29 ⟨rfl, hn29⟩))
            go_ret
            exact ⟨rfl, HT.out _ (HN11.out.trans ((HX27.out.trans hn28).trans hn29))⟩
  · have HSN2 := hide (fun W (hx : Nx w5 W) => w_SnapNo lo B0 B1 B2 ca cb cc ns rs bs x y (roadsF ns rs bs) W (HR5.out W hx).1 (HR5.out W hx).2.1 (HR5.out W hx).2.2 hnl hal hbl HSN.out (by rw [if_neg hF]) hF)
    have HIB := hide (fun W (hx : Nx w5 W) => w_IslandsBad lo B0 B1 B2 ca cb cc ns rs bs W (HR5.out W hx).1 (HR5.out W hx).2.1 (HR5.out W hx).2.2 hnl hal hbl HSN.out hF)
    have HEN := endsF_bad (f := f) (t := t) hF
    have HNB2 := hide (fun W (hx : Nx w5 W) => HEN ▸ w_NeededBad lo B0 B1 B2 ca cb cc ns rs bs f t W (HR5.out W hx).1 (HR5.out W hx).2.1 (HR5.out W hx).2.2 hnl hal hbl HSN.out (by rw [HEN]; exact hF))
    have HWB := hide (fun W (hx : Nx w5 W) => w_WithoutBad lo B0 B1 B2 ca cb cc ns rs bs lo D cd l (roadsF ns rs bs) W (HR5.out W hx).1 (HR5.out W hx).2.1 (HR5.out W hx).2.2 hnl hal hbl HSN.out (HDD.out.nx hx) hll (by rw [if_neg hF]) hF)
    have HSZ := hide (fun W => w_SameRoads 0 0 none none none none none none 0 0 0 0 0 0 [] [] [] [] W Rd.nil ⟨Rd.nil, fun a ha => absurd ha (by simp)⟩ Rd.nil Rd.nil ⟨Rd.nil, fun a ha => absurd ha (by simp)⟩ Rd.nil (by simp) (by simp) (by simp) rfl)
    clear HEN hnl hal hbl hll HR5 HDD
    generalize roadsF ns rs bs = RF at *
    have tF : (RF != 0) = true := by rw [bne_iff_ne]; exact hF
    clear hF
    generalize ns.length = nn at *
    generalize rs.length = nr at *
    generalize bs.length = nb at *
    generalize l.length = nl at *
    obtain ⟨c0, c1, c2⟩ := HB5.out w5 (Nx.refl _)
    go_wp2_with fail
    refine (HSN2.out w5 (Nx.refl _)).mono ?_
    rintro e w6 ⟨rfl, hn6⟩
    unfold spotAgg
    clear c0 c1 c2
    have c0 : ∀ o, (w6.alloc o).cell? ⟨g, 0, none⟩ = some (.slice B0 nn ca) := fun o => (HB5.out _ (hn6.alloc o)).1
    have c1 : ∀ o, (w6.alloc o).cell? ⟨g, 1, none⟩ = some (.slice B1 nr cb) := fun o => (HB5.out _ (hn6.alloc o)).2.1
    have c2 : ∀ o, (w6.alloc o).cell? ⟨g, 2, none⟩ = some (.slice B2 nb cc) := fun o => (HB5.out _ (hn6.alloc o)).2.2
    go_wp2_with fail
    refine (HIB.out _ (hn6.alloc _)).mono ?_
    rintro e w7 ⟨rfl, hn7⟩
    have HN7 := hide ((hn6.alloc _).trans hn7)
    clear c0 c1 c2 hn6 hn7
    obtain ⟨c0, c1, c2⟩ := HB5.out w7 HN7.out
    go_wp2_with fail
    refine (HNB2.out w7 HN7.out).mono ?_
    rintro e w8 ⟨rfl, hn8⟩
    have HN8 := hide (HN7.out.trans hn8)
    clear c0 c1 c2 hn8
    obtain ⟨c0, c1, c2⟩ := HB5.out w8 HN8.out
    go_wp2_with fail
    refine (HWB.out w8 HN8.out).mono ?_
    rintro e w9 ⟨rfl, hn9⟩
    have HN9 := hide (HN8.out.trans hn9)
    clear c0 c1 c2 hn9
    go_upto_region 17 with fail
    obtain ⟨q19, hq19⟩ : ∃ q, q = w9.heap.size := ⟨_, rfl⟩
    obtain ⟨w11, hw11⟩ : ∃ w11, w11 = w9.alloc (.cells #[.slice none 0 0, .slice none 0 0, .slice none 0 0] 30) := ⟨_, rfl⟩
    have hn11 : Nx w9 w11 := hw11 ▸ (Nx.refl w9).alloc _
    have hl19 : q19 < w11.heap.size := by rw [hw11, hq19]; simp
    have o0 : w11.cell? ⟨q19, 0, none⟩ = some (.slice none 0 0) := by rw [hw11, hq19]; go_simp
    have o1 : w11.cell? ⟨q19, 1, none⟩ = some (.slice none 0 0) := by rw [hw11, hq19]; go_simp
    have o2 : w11.cell? ⟨q19, 2, none⟩ = some (.slice none 0 0) := by rw [hw11, hq19]; go_simp
    have HOB := hide (fun W (hx : Nx w11 W) => (⟨nx_cell hx hl19 o0, nx_cell hx hl19 o1, nx_cell hx hl19 o2⟩ : W.cell? ⟨q19, 0, none⟩ = some (.slice none 0 0) ∧ W.cell? ⟨q19, 1, none⟩ = some (.slice none 0 0) ∧ W.cell? ⟨q19, 2, none⟩ = some (.slice none 0 0)))
    have HN11 := hide (HN9.out.trans hn11)
    rw [← hq19, ← hw11]
    clear hw11 hq19 hn11 hl19 o0 o1 o2
    obtain ⟨c0, c1, c2⟩ := HB5.out w11 HN11.out
    go_wp2_with fail
    refine (HRF.out w11 HN11.out).mono ?_
    rintro e w12 ⟨rfl, hn12⟩
    obtain ⟨o0, o1, o2⟩ := HOB.out w12 hn12
    clear c0 c1 c2
    go_wp2_with (first
      | (go_at_call 14; refine (HSZ.out _).mono ?_; rintro e w28 ⟨rfl, hn28⟩)
      | (go_at_call 15; refine (w_driven _).mono ?_; rintro e w29 ⟨rfl, hn29⟩))
    go_ret
    exact ⟨rfl, HT.out _ (HN11.out.trans ((hn12.trans hn28).trans hn29))⟩
end
end Go.Proofs.YtepbamacebjopaaGreatDoor
