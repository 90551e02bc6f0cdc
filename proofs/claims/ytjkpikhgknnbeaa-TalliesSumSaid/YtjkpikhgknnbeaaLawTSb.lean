/- jitlaw1.TalliesSum returns true. -/
import Derived.Test.YtjkpikhgknnbeaaLawTSc
namespace Go.Proofs.Ytjkpikhgknnbeaa
open Go.RowKit Go.Sort Go.Shelf Go.Maps
attribute [local go_sem ↓] eql_Frac
attribute [local go_sem] gd_Frac

set_option maxRecDepth 100000 in
set_option maxHeartbeats 8000000 in
theorem st3B {w w10 wc : World} {A1 A2 A5 A6 : Option Addr} {a b zs5 : List Tally} {s6 s9 lo c1 c5 c6 : Nat} {f t x y z h E5 : Int} (hla : a.length ≤ 24) (D : Drawn w w10 A1 A2 a b s6 s9 f t x y)
    (hwc8 : Nx w10 wc) (hR5' : Rd wc lo A5 4 encTally zs5) (hR6 : Rd wc 0 A6 4 encTally zs5) (HZ : Hid (zs5.length ≤ 65536)) (hx : ¬ (exF a f t z x y h ≠ 0 ∨ weeksI f t z h = 0)) (u0 u1 u2 u3 u5 u10 u11 u17 u18 u19 u20 u21 u22 u23 u24 u25 u26 u27 u28 u29 u30 u31 u32 u33 u34 u35 u36 u37 u38 u39 u40 u41 u42 u43 u44 u45 u46 u47 u48 u49 u50 u51 u52 u53 u54 u55 u56 u57 u58 u59 u60 u61 u62 u63 u64 u65 u66 u67 u68 u69 u70 u71 u72 u73 u74 u75 u76 u77 u78 u79 u80 u81 u82 u83 u84 u85 u86 u87 u88 u89 u90 u91 u92 u93 u94 u95 u96 u97 u98 u99 u100 u101 u102 u103 u104 u105 u106 u107 u108 u109 u110 u111 u112 u113 u114 u115 u116 u117 u118 u119 u120 u121 u122 u123 u124 u125 u126 u127 u128 u129 u130 u131 u132 u133 u134 u135 u136 u137 u138 u139 u140 u141 u142 u143 u144 u145 u146 u147 u148 u149 u150 u151 u152 u153 u154 u155 u156 u157 u158 u159 u160 u161 u162 u163 u164 u165 u166 u167 u168 u169 u170 u171 u172 u173 u174 u175 u176 u177 u178 u179 u180 u181 u182 u183 u184 u185 u186 u187 u188 u189 u190 u191 u192 u193 u194 u195 u196 u197 u198 u199 u200 u201 u202 u203 u204 u205 u206 u207 u208 u209 u210 u211 u212 u213 u214 u215 u216 u217 u218 u219 u220 u221 u222 u223 u224 u225 u226 u227 u228 u229 u230 u231 u232 u233 u234 u235 u236 : Value) :
    Code.wp Try.prog (codeTS 20) (bodyPost Try.prog Try.f5 (TrueNx w)) ⟨#[u0, u1, u2, u3, .slice A1 a.length c1, u5, .pointer (some ⟨s6, 0, none⟩), .int .i64 z, .int .i64 h, .pointer (some ⟨s9, 0, none⟩), u10, u11, .int .i64 (talliesF a), .slice A5 zs5.length c5, .int .i64 E5, .int .i64 E5, .slice A6 zs5.length c6, u17, u18, u19, u20, u21, u22, u23, u24, u25, u26, u27, u28, u29, u30, u31, u32, u33, u34, u35, u36, u37, u38, u39, u40, u41, u42, u43, u44, u45, u46, u47, u48, u49, u50, u51, u52, u53, u54, u55, u56, u57, u58, u59, u60, u61, u62, u63, u64, u65, u66, u67, u68, u69, u70, u71, u72, u73, u74, u75, u76, u77, u78, u79, u80, u81, u82, u83, u84, u85, u86, u87, u88, u89, u90, u91, u92, u93, u94, u95, u96, u97, u98, u99, u100, u101, u102, u103, u104, u105, u106, u107, u108, u109, u110, u111, u112, u113, u114, u115, u116, u117, u118, u119, u120, u121, u122, u123, u124, u125, u126, u127, u128, u129, u130, u131, u132, u133, u134, u135, u136, u137, u138, u139, u140, u141, u142, u143, u144, u145, u146, u147, u148, u149, u150, u151, u152, u153, u154, u155, u156, u157, u158, u159, u160, u161, u162, u163, u164, u165, u166, u167, u168, u169, u170, u171, u172, u173, u174, u175, u176, u177, u178, u179, u180, u181, u182, u183, u184, u185, u186, u187, u188, u189, u190, u191, u192, u193, u194, u195, u196, u197, u198, u199, u200, u201, u202, u203, u204, u205, u206, u207, u208, u209, u210, u211, u212, u213, u214, u215, u216, u217, u218, u219, u220, u221, u222, u223, u224, u225, u226, u227, u228, u229, u230, u231, u232, u233, u234, u235, u236], []⟩ wc := by
  conv => arg 2; whnf
  have T2 : (E5 != E5) = false := by simp
  have HX := hide hx
  clear hx
  go_upto_region 24 with (first
    | (go_at_call 23; refine (w_EqualT _ _ _ _ _ _ _ _ hR5' hR6 HZ.out).mono ?_; rintro e v9 ⟨rfl, hv9⟩; obtain ⟨p0, p1⟩ := D.c6 (hwc8.trans hv9))
    | (go_at_call 42; refine (w_WeeksU _ _ _ _ _).mono ?_; rintro e va ⟨rfl, hva⟩; obtain ⟨p2, p3⟩ := D.c6 ((hwc8.trans hv9).trans hva))
    | (go_at_call 43; refine (w_WindowFault _ _ _).mono ?_; rintro e vb ⟨rfl, hvb⟩)
    | (go_at_call 17; refine (w_ZoneFault _ _).mono ?_; rintro e w' ⟨rfl, rfl⟩)
    | (go_at_call 44; refine (w_HourFault _ _).mono ?_; rintro e w' ⟨rfl, rfl⟩)
    | (go_at_call 11; refine (w_Or3 (argF (windowB f t)) (zoneF z) (hourF h) _ _ _ (hnew (by simp))).mono ?_; rintro e v5 ⟨rfl, rfl⟩))
  have hnb := ((hwc8.trans hv9).trans hva).trans hvb
  clear hR5' hR6 HZ T2 p0 p1 p2 p3
  go_cut [167] (fun u wx => u = .bool false ∧ Nx vb wx)
  case first =>
    have ho := or_weeks f t z h
    have t1 : (argF (wkV f t z h) != orI [argF (windowB f t), zoneF z, hourF h]) = false := by rw [ho]; simp
    rcases Bool.eq_false_or_eq_true (wkV f t z h) with hv | hv
    · have t2 : (orI [argF (windowB f t), zoneF z, hourF h] != 0) = false := by rw [ho, argF_ne, hv]; rfl
      have t3 : (orI [argF (windowB f t), zoneF z, hourF h] == 0) = true := by rw [ho, hv]; rfl
      have t4 : (wkX f t z h != weeksI f t z h) = false := by unfold wkX; rw [hv]; simp
      have HV := hide (wkV_true hv)
      obtain ⟨p0, p1⟩ := D.c6 (hnb.alloc (.cells #[.int .i64 (argF (windowB f t)), .int .i64 (zoneF z), .int .i64 (hourF h)] 32))
      clear ho hv
      go_wp2_with (first | (go_at_call 45; refine (w_WeeksOf _ _ _ _ _ HV.out.1 HV.out.2.1 HV.out.2.2).mono ?_; rintro e vc ⟨rfl, hvc⟩))
      go_meet
      exact ⟨rfl, ((Nx.refl _).alloc _).trans hvc⟩
    · have t2 : (orI [argF (windowB f t), zoneF z, hourF h] != 0) = true := by rw [ho, argF_ne, hv]; rfl
      have t3 : (orI [argF (windowB f t), zoneF z, hourF h] == 0) = false := by rw [ho, hv]; rfl
      have t4 : (wkX f t z h != 0) = false := by unfold wkX; rw [hv]; rfl
      clear ho hv
      go_wp2
      go_meet
      exact ⟨rfl, (Nx.refl _).alloc _⟩
  case rest =>
    obtain ⟨rfl, hxb⟩ := hcut
    have hnc := hnb.trans hxb
    obtain ⟨p0, p1⟩ := D.c6 hnc
    obtain ⟨p2, p3⟩ := D.c9 hnc
    have hx1 : exF a f t z x y h = 0 := Classical.byContradiction fun h' => HX.out (.inl h')
    have hx2 : weeksI f t z h ≠ 0 := fun h' => HX.out (.inr h')
    have HV := hide (exF_zero.1 hx1)
    have e3 : (weeksI f t z h == 0) = false := by simpa using hx2
    have hmb := manyI_bd (talliesF_ok HV.out.1).1 ⟨x, y, h⟩
    have hwb := weeksI_bd z h HV.out.2.1
    have hL := fun w1 => w_Lowest2 (manyI a ⟨x, y, h⟩) (weeksI f t z h) w1 (by omega) (by omega)
    have hC := fun w1 (hn1 : Nx w10 w1) => w_ExpB _ _ c1 _ _ _ _ _ _ _ _ (D.ra.nx hn1) (by omega) hx1 hx2
    have HX1 := hide hx1
    obtain ⟨u, v, hlow⟩ : ∃ u v, lowV (manyI a ⟨x, y, h⟩) (weeksI f t z h) = .agg #[.int .i64 u, .int .i64 v] := ⟨_, _, rfl⟩
    rw [hlow] at hL hC
    have HL := hide hL
    have HC := hide hC
    clear hL hC hlow hx1 hx2 hmb hwb
    go_wp2_with fail
    refine (HC.out _ hnc).mono ?_
    rintro e vd ⟨rfl, hvd⟩
    have hnd := hnc.trans hvd
    clear p0 p1 p2 p3
    obtain ⟨p0, p1⟩ := D.c6 hnd
    obtain ⟨p2, p3⟩ := D.c9 hnd
    go_wp2_with fail
    obtain ⟨U, hU⟩ : ∃ U, U = vd.alloc (.cells #[.int .i64 u, .int .i64 v] 77) := ⟨_, rfl⟩
    have hNU : Nx w10 U := by rw [hU]; exact hnd.alloc _
    have hbU : U.heap[vd.heap.size]? = some (.cells #[.int .i64 u, .int .i64 v] 77 (0, 0)) := by rw [hU]; exact hnew rfl
    clear p0 p1 p2 p3
    obtain ⟨p0, p1⟩ := D.c6 hNU
    obtain ⟨p2, p3⟩ := D.c9 hNU
    have HB := hide hbU
    have hlU : vd.heap.size < U.heap.size := (Array.getElem?_eq_some_iff.1 hbU).1
    rw [← hU]
    clear hU hbU
    generalize vd.heap.size = s18 at *
    go_region_held3 (fun w' => w'.cell? ⟨s6, 0, none⟩ = some (.int .i64 f) ∧ w'.cell? ⟨s6, 1, none⟩ = some (.int .i64 t) ∧ w'.cell? ⟨s9, 0, none⟩ = some (.int .i64 x) ∧ w'.cell? ⟨s9, 1, none⟩ = some (.int .i64 y))
      (first | go_keep | (go_split_ands; exact ⟨World.grownBy.cell (hn1.gr none) ‹_› (by simp), World.grownBy.cell (hn1.gr none) ‹_› (by simp), World.grownBy.cell (hn1.gr none) ‹_› (by simp), World.grownBy.cell (hn1.gr none) ‹_› (by simp)⟩))
      (first
        | (go_at_call 43; refine (w_WindowFault _ _ _).mono ?_; rintro e ve ⟨rfl, hn1⟩)
        | (go_at_call 17; refine (w_ZoneFault _ _).mono ?_; rintro e w' ⟨rfl, rfl⟩)
        | (go_at_call 44; refine (w_HourFault _ _).mono ?_; rintro e w' ⟨rfl, rfl⟩)
        | (go_at_call 12; refine (w_PointFault _ _ _).mono ?_; rintro e w' ⟨rfl, rfl⟩)
        | (go_at_call 11; refine (w_Or5 (talliesF a) (argF (windowB f t)) (zoneF z) (ptF x y) (hourF h) _ _ _ (hnew rfl)).mono ?_; rintro e w3 ⟨rfl, rfl⟩))
    have hn1' : Nx U ve := ((Nx.refl U).drew).trans hn1
    have hwE : Nx w10 (ve.alloc (.cells #[.int .i64 (talliesF a), .int .i64 (argF (windowB f t)), .int .i64 (zoneF z), .int .i64 (ptF x y), .int .i64 (hourF h)] 32)) := (hNU.trans hn1').alloc _
    have hlE : s18 < (ve.alloc (.cells #[.int .i64 (talliesF a), .int .i64 (argF (windowB f t)), .int .i64 (zoneF z), .int .i64 (ptF x y), .int .i64 (hourF h)] 32)).heap.size := by have := hn1'.sz; simp; omega
    have hBE := hide ((((hn1'.alloc (.cells #[.int .i64 (talliesF a), .int .i64 (argF (windowB f t)), .int .i64 (zoneF z), .int .i64 (ptF x y), .int .i64 (hourF h)] 32))).block s18 hlU).trans HB.out)
    generalize ve.alloc (.cells #[.int .i64 (talliesF a), .int .i64 (argF (windowB f t)), .int .i64 (zoneF z), .int .i64 (ptF x y), .int .i64 (hourF h)] 32) = W at *
    have hE : orI [talliesF a, argF (windowB f t), zoneF z, ptF x y, hourF h] = 0 := HX1.out
    generalize orI [talliesF a, argF (windowB f t), zoneF z, ptF x y, hourF h] = F5 at *
    subst hE
    have q0 : W.cell? ⟨s18, 0, none⟩ = some (.int .i64 u) := cell_of_row W s18 0 _ _ _ hBE.out
    have q1 : W.cell? ⟨s18, 1, none⟩ = some (.int .i64 v) := cell_of_row W s18 1 _ _ _ hBE.out
    obtain ⟨p4, p5⟩ := D.c6 hwE
    go_wp2_with (first
      | (go_at_call 45; refine (w_WeeksOf _ _ _ _ _ HV.out.2.1 HV.out.2.2.1 HV.out.2.2.2.2).mono ?_; rintro e vf ⟨rfl, hvf⟩))
    have hNf := hwE.trans hvf
    have q2 : vf.cell? ⟨s18, 0, none⟩ = some (.int .i64 u) := World.grownBy.cell (hvf.gr none) q0 (by simp)
    have q3 : vf.cell? ⟨s18, 1, none⟩ = some (.int .i64 v) := World.grownBy.cell (hvf.gr none) q1 (by simp)
    clear p0 p1 p2 p3 p4 p5 q0 q1
    obtain ⟨p0, p1⟩ := D.c6 hNf
    obtain ⟨p2, p3⟩ := D.c9 hNf
    go_region_held3 (fun w' => w'.cell? ⟨s6, 0, none⟩ = some (.int .i64 f) ∧ w'.cell? ⟨s6, 1, none⟩ = some (.int .i64 t) ∧ w'.cell? ⟨s9, 0, none⟩ = some (.int .i64 x) ∧ w'.cell? ⟨s9, 1, none⟩ = some (.int .i64 y) ∧ w'.cell? ⟨s18, 0, none⟩ = some (.int .i64 u) ∧ w'.cell? ⟨s18, 1, none⟩ = some (.int .i64 v))
      (first
        | go_keep
        | (go_split_ands; exact ⟨World.grownBy.cell (hnx.gr none) ‹_› (by simp), World.grownBy.cell (hnx.gr none) ‹_› (by simp), World.grownBy.cell (hnx.gr none) ‹_› (by simp), World.grownBy.cell (hnx.gr none) ‹_› (by simp), World.grownBy.cell (hnx.gr none) ‹_› (by simp), World.grownBy.cell (hnx.gr none) ‹_› (by simp)⟩)
        | (go_split_ands; exact ⟨World.grownBy.cell (hni.gr none) ‹_› (by simp), World.grownBy.cell (hni.gr none) ‹_› (by simp), World.grownBy.cell (hni.gr none) ‹_› (by simp), World.grownBy.cell (hni.gr none) ‹_› (by simp), World.grownBy.cell (hni.gr none) ‹_› (by simp), World.grownBy.cell (hni.gr none) ‹_› (by simp)⟩)
        | (go_split_ands; exact ⟨World.grownBy.cell (hnh.gr none) ‹_› (by simp), World.grownBy.cell (hnh.gr none) ‹_› (by simp), World.grownBy.cell (hnh.gr none) ‹_› (by simp), World.grownBy.cell (hnh.gr none) ‹_› (by simp), World.grownBy.cell (hnh.gr none) ‹_› (by simp), World.grownBy.cell (hnh.gr none) ‹_› (by simp)⟩)
        | (go_split_ands; exact ⟨World.grownBy.cell (hng.gr none) ‹_› (by simp), World.grownBy.cell (hng.gr none) ‹_› (by simp), World.grownBy.cell (hng.gr none) ‹_› (by simp), World.grownBy.cell (hng.gr none) ‹_› (by simp), World.grownBy.cell (hng.gr none) ‹_› (by simp), World.grownBy.cell (hng.gr none) ‹_› (by simp)⟩))
      (first
        | (go_at_call 48; refine (w_ManyOf _ _ _ a x y h _ (D.ra.nx hNf.drew) (by omega)).mono ?_; rintro e wg ⟨rfl, hng⟩)
        | (go_at_call 45; refine (w_WeeksOf _ _ _ _ _ HV.out.2.1 HV.out.2.2.1 HV.out.2.2.2.2).mono ?_; rintro e wh ⟨rfl, hnh⟩)
        | (go_at_call 47; refine (HL.out _).mono ?_; rintro e wi ⟨rfl, hni⟩)
        | (go_at_call 24; refine (w_counted _).mono ?_; rintro e wx ⟨rfl, hnx⟩))
    go_wp2
    go_ret
    exact ⟨rfl, (((((D.nx.trans hNf).drew).trans hng).trans hnh).trans hni).trans hnx⟩
end Go.Proofs.Ytjkpikhgknnbeaa
