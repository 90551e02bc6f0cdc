/- jitlaw1.TalliesSum returns true. -/
import Derived.Test.YtjkpikhgknnbeaaLawTSb
namespace Go.Proofs.Ytjkpikhgknnbeaa
open Go.RowKit Go.Sort Go.Shelf Go.Maps
attribute [local go_sem ↓] eql_Frac
attribute [local go_sem] gd_Frac

set_option maxRecDepth 100000 in
set_option maxHeartbeats 8000000 in
theorem st2 {w w10 wc : World} {A1 A2 A3 A4 : Option Addr} {a b zs : List Tally} {s6 s9 lo c1 c3 c4 : Nat} {f t x y z h self side E : Int} (hla : a.length ≤ 24) (D : Drawn w w10 A1 A2 a b s6 s9 f t x y)
    (hwc : Nx w10 wc) (hR3' : Rd wc lo A3 4 encTally zs) (hR4 : Rd wc 0 A4 4 encTally zs) (HZ : Hid (zs.length ≤ 65536)) (u0 u1 u2 u3 u5 u17 u18 u19 u20 u21 u22 u23 u24 u25 u26 u27 u28 u29 u30 u31 u32 u33 u34 u35 u36 u37 u38 u39 u40 u41 u42 u43 u44 u45 u46 u47 u48 u49 u50 u51 u52 u53 u54 u55 u56 u57 u58 u59 u60 u61 u62 u63 u64 u65 u66 u67 u68 u69 u70 u71 u72 u73 u74 u75 u76 u77 u78 u79 u80 u81 u82 u83 u84 u85 u86 u87 u88 u89 u90 u91 u92 u93 u94 u95 u96 u97 u98 u99 u100 u101 u102 u103 u104 u105 u106 u107 u108 u109 u110 u111 u112 u113 u114 u115 u116 u117 u118 u119 u120 u121 u122 u123 u124 u125 u126 u127 u128 u129 u130 u131 u132 u133 u134 u135 u136 u137 u138 u139 u140 u141 u142 u143 u144 u145 u146 u147 u148 u149 u150 u151 u152 u153 u154 u155 u156 u157 u158 u159 u160 u161 u162 u163 u164 u165 u166 u167 u168 u169 u170 u171 u172 u173 u174 u175 u176 u177 u178 u179 u180 u181 u182 u183 u184 u185 u186 u187 u188 u189 u190 u191 u192 u193 u194 u195 u196 u197 u198 u199 u200 u201 u202 u203 u204 u205 u206 u207 u208 u209 u210 u211 u212 u213 u214 u215 u216 u217 u218 u219 u220 u221 u222 u223 u224 u225 u226 u227 u228 u229 u230 u231 u232 u233 u234 u235 u236 : Value) :
    Code.wp Try.prog (codeTS 14) (bodyPost Try.prog Try.f5 (TrueNx w)) ⟨#[u0, u1, u2, u3, .slice A1 a.length c1, u5, .pointer (some ⟨s6, 0, none⟩), .int .i64 z, .int .i64 h, .pointer (some ⟨s9, 0, none⟩), .int .i64 self, .int .i64 side, .int .i64 (talliesF a), .slice A3 zs.length c3, .int .i64 E, .int .i64 E, .slice A4 zs.length c4, u17, u18, u19, u20, u21, u22, u23, u24, u25, u26, u27, u28, u29, u30, u31, u32, u33, u34, u35, u36, u37, u38, u39, u40, u41, u42, u43, u44, u45, u46, u47, u48, u49, u50, u51, u52, u53, u54, u55, u56, u57, u58, u59, u60, u61, u62, u63, u64, u65, u66, u67, u68, u69, u70, u71, u72, u73, u74, u75, u76, u77, u78, u79, u80, u81, u82, u83, u84, u85, u86, u87, u88, u89, u90, u91, u92, u93, u94, u95, u96, u97, u98, u99, u100, u101, u102, u103, u104, u105, u106, u107, u108, u109, u110, u111, u112, u113, u114, u115, u116, u117, u118, u119, u120, u121, u122, u123, u124, u125, u126, u127, u128, u129, u130, u131, u132, u133, u134, u135, u136, u137, u138, u139, u140, u141, u142, u143, u144, u145, u146, u147, u148, u149, u150, u151, u152, u153, u154, u155, u156, u157, u158, u159, u160, u161, u162, u163, u164, u165, u166, u167, u168, u169, u170, u171, u172, u173, u174, u175, u176, u177, u178, u179, u180, u181, u182, u183, u184, u185, u186, u187, u188, u189, u190, u191, u192, u193, u194, u195, u196, u197, u198, u199, u200, u201, u202, u203, u204, u205, u206, u207, u208, u209, u210, u211, u212, u213, u214, u215, u216, u217, u218, u219, u220, u221, u222, u223, u224, u225, u226, u227, u228, u229, u230, u231, u232, u233, u234, u235, u236], []⟩ wc := by
  conv => arg 2; whnf
  have T2 : (E != E) = false := by simp
  go_upto_region 17 with (first
    | (go_at_call 23; refine (w_EqualT _ _ _ _ _ _ _ _ hR3' hR4 HZ.out).mono ?_; rintro e v7 ⟨rfl, hv7⟩)
    | (go_at_call 40; refine (w_SmoothU _ _ _ _ _ _ _ (D.ra.nx (hwc.trans hv7)) (by omega)).mono ?_; rintro e v8 ⟨A5, c5, E5, zs5, hU5, rfl, hR5, hn5⟩))
  clear HZ T2 hR3' hR4
  have hn8 := (hwc.trans hv7).trans hn5
  go_cut [15, 16] (fun u v wx => u = .int .i64 (smF a self side) ∧ v = .slice none 0 0 ∧ Nx v8 wx)
  case first =>
    rcases sm_cases self side with ⟨d1, hX⟩ | ⟨d1, d2, hX⟩ | ⟨d1, d2, d3, hX⟩ | ⟨d1, d2, d3, d4, hX⟩ | ⟨d1, d2, d3, d4, hX⟩
    all_goals
      have HX := hide hX
      clear hX hU5
      go_wp2_with (first
        | (go_at_call 29; refine (w_when _ _ _).mono ?_; rintro e w' ⟨rfl, rfl⟩)
        | (go_at_call 11; refine (w_Or2 (talliesF a) _ _ _ _ (hnew (by simp))).mono ?_; rintro e v5 ⟨rfl, rfl⟩))
      go_meet
      exact ⟨by unfold smF; rw [HX.out], rfl, (Nx.refl _).alloc _⟩
  case rest =>
    obtain ⟨rfl, rfl, hx8⟩ := hcut
    go_upto_if 113 with fail
    go_cut [15, 16] (fun u v wx => SameT E5 zs5 v8 u v wx)
    case first =>
      rcases hU5 with ⟨hF, rfl, rfl⟩ | ⟨hF, hU5⟩
      · have t1 : (smF a self side == 0) = false := by simpa using hF
        have HF := hide hF
        clear hF
        go_wp2
        go_meet
        exact ⟨rfl, ⟨none, 0, rfl, Rd.nil⟩, hx8⟩
      · have t1 : (smF a self side == 0) = true := by simpa using hF
        have HF := hide (smF_zero hF)
        have HU := hide hU5
        clear hF hU5
        go_wp2_with fail
        refine (w_SmoothOf _ _ _ _ _ _ _ (D.ra.nx (hn8.trans hx8)) (by omega) HF.out.1 HF.out.2.1 HF.out.2.2).mono ?_
        rintro e v9 ⟨A6, c6, E6, zs6, hU6, rfl, hR6, hn6⟩
        rw [flat_eq] at hU6
        obtain ⟨rfl, rfl⟩ := BndR.unique HU.out hU6
        clear hU6
        go_wp2
        go_meet
        exact ⟨rfl, ⟨_, _, rfl, hR6.low (Nat.zero_le _)⟩, hx8.trans hn6⟩
    case rest =>
      clear hx8
      obtain ⟨rfl, ⟨A6, c6, rfl, hR6⟩, hx8⟩ := hcut
      have HZ := hide (BndU.len hU5 ((a.flatMap (conP self side)).map (·.1)) (fun k hk => accF_keys k hk) (by rw [List.length_map]; have := conP_len self side a; omega))
      by_cases hx : exF a f t z x y h ≠ 0 ∨ weeksI f t z h = 0
      · refine ‹∀ (a : Act) (w_1 : World), Code.wp _ _ _ a w_1 → _› _ _ ?_
        exact st3A hla D (hn8.trans hx8) (hR5.nx hx8) hR6 HZ hx _ _ _ _ _ _ _ _ _ _ _ _ _ _ _ _ _ _ _ _ _ _ _ _ _ _ _ _ _ _ _ _ _ _ _ _ _ _ _ _ _ _ _ _ _ _ _ _ _ _ _ _ _ _ _ _ _ _ _ _ _ _ _ _ _ _ _ _ _ _ _ _ _ _ _ _ _ _ _ _ _ _ _ _ _ _ _ _ _ _ _ _ _ _ _ _ _ _ _ _ _ _ _ _ _ _ _ _ _ _ _ _ _ _ _ _ _ _ _ _ _ _ _ _ _ _ _ _ _ _ _ _ _ _ _ _ _ _ _ _ _ _ _ _ _ _ _ _ _ _ _ _ _ _ _ _ _ _ _ _ _ _ _ _ _ _ _ _ _ _ _ _ _ _ _ _ _ _ _ _ _ _ _ _ _ _ _ _ _ _ _ _ _ _ _ _ _ _ _ _ _ _ _ _ _ _ _ _ _ _ _ _ _ _ _ _ _ _ _ _ _ _ _ _ _ _ _
      · refine ‹∀ (a : Act) (w_1 : World), Code.wp _ _ _ a w_1 → _› _ _ ?_
        exact st3B hla D (hn8.trans hx8) (hR5.nx hx8) hR6 HZ hx _ _ _ _ _ _ _ _ _ _ _ _ _ _ _ _ _ _ _ _ _ _ _ _ _ _ _ _ _ _ _ _ _ _ _ _ _ _ _ _ _ _ _ _ _ _ _ _ _ _ _ _ _ _ _ _ _ _ _ _ _ _ _ _ _ _ _ _ _ _ _ _ _ _ _ _ _ _ _ _ _ _ _ _ _ _ _ _ _ _ _ _ _ _ _ _ _ _ _ _ _ _ _ _ _ _ _ _ _ _ _ _ _ _ _ _ _ _ _ _ _ _ _ _ _ _ _ _ _ _ _ _ _ _ _ _ _ _ _ _ _ _ _ _ _ _ _ _ _ _ _ _ _ _ _ _ _ _ _ _ _ _ _ _ _ _ _ _ _ _ _ _ _ _ _ _ _ _ _ _ _ _ _ _ _ _ _ _ _ _ _ _ _ _ _ _ _ _ _ _ _ _ _ _ _ _ _ _ _ _ _ _ _ _ _ _ _ _ _ _ _ _ _ _ _ _ _
end Go.Proofs.Ytjkpikhgknnbeaa
