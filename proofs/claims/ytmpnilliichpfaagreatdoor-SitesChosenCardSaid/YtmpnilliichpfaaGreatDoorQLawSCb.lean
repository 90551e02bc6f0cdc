/- jitlaw1.SitesChosen, its second part: what is asked, and what is answered. -/
import Derived.Test.YtmpnilliichpfaaGreatDoorQG30
import Derived.Test.YtmpnilliichpfaaGreatDoorQRdsS
import Derived.Test.YtmpnilliichpfaaGreatDoorQG32
import Derived.Test.YtmpnilliichpfaaGreatDoorQWeights
import Derived.Deep.DeepCutAuto
namespace Go.Proofs.YtmpnilliichpfaaGreatDoor
open Go.RowKit

noncomputable def codeSC (r : Nat) : Code := fromReg r (Tryz.f3.body.getD .skip)
set_option maxRecDepth 100000 in
set_option maxHeartbeats 8000000 in
theorem st_SC14 {w w5 : World} {g lo ca cb cc cd ce cs : Nat} {B0 B1 B2 D E S : Option Addr} {ns : List Node} {rs : List Arc} {bs : List Ban} {l sites : List ByteArray} {ws : List Wgt} {ad wi many : Int}
    (HT : Hid (∀ W, Nx w5 W → Nx w W)) (HR5 : Hid (∀ W, Nx w5 W → Rd W lo B0 3 encNode ns ∧ RdArcs W lo B1 rs ∧ Rd W lo B2 2 encBan bs))
    (HB5 : Hid (∀ W, Nx w5 W → W.cell? ⟨g, 0, none⟩ = some (.slice B0 ns.length ca) ∧ W.cell? ⟨g, 1, none⟩ = some (.slice B1 rs.length cb) ∧ W.cell? ⟨g, 2, none⟩ = some (.slice B2 bs.length cc)))
    (HDD : Hid (Rd w5 lo D 1 encS l)) (HEE : Hid (Rd w5 lo E 2 encW ws)) (HSS : Hid (Rd w5 lo S 1 encS sites)) (HSZ : Hid (∀ s ∈ sites, s.size ≤ 1000000)) (HSN : Hid (SmallN ns)) (hn5 : ns.length ≤ 5) (hr10 : rs.length ≤ 10) (hb101 : bs.length ≤ 101) (hl3 : l.length ≤ 3) (hw5 : ws.length ≤ 5) (hs6 : sites.length ≤ 6) {u0 u1 u2 u3 u10 u11 u13 u14 u15 u16 u17 u18 u19 u20 u21 u22 u23 u24 u25 u26 u27 u28 u29 u30 u31 u32 u33 u34 u35 u36 u37 u38 u39 u40 u41 u42 u43 u44 u45 u46 u47 u48 u49 u50 u51 u52 u53 u54 u55 u56 u57 u58 u59 u60 u61 u62 u63 u64 u65 u66 u67 u68 u69 u70 u71 u72 u73 u74 u75 u76 u77 u78 u79 u80 u81 u82 u83 u84 u85 u86 u87 u88 u89 u90 u91 u92 u93 u94 u95 u96 u97 u98 u99 u100 u101 u102 u103 u104 u105 u106 u107 u108 u109 u110 u111 u112 u113 u114 u115 u116 u117 u118 u119 u120 u121 u122 u123 u124 u125 u126 u127 u128 u129 u130 u131 u132 u133 u134 u135 u136 u137 u138 u139 u140 u141 u142 u143 u144 u145 u146 u147 u148 u149 u150 u151 u152 u153 u154 u155 u156 u157 u158 u159 u160 u161 u162 u163 u164 u165 u166 u167 u168 u169 u170 u171 u172 u173 u174 u175 u176 u177 u178 u179 u180 u181 u182 u183 u184 u185 u186 u187 u188 u189 u190 u191 u192 u193 u194 u195 u196 u197 u198 u199 u200 u201 u202 u203 u204 u205 u206 u207 u208 u209 u210 u211 u212 u213 u214 u215 u216 u217 u218 u219 u220 u221 u222 u223 : Value} :
    Code.wp Tryz.prog (codeSC 14) (bodyPost Tryz.prog Tryz.f3 (TrueNx w)) ⟨#[u0, u1, u2, u3, .pointer (some ⟨g, 0, none⟩), .slice D l.length cd, .slice E ws.length ce, .int .i64 ad, .int .i64 wi, .slice S sites.length cs, u10, u11, .int .i64 many, u13, u14, u15, u16, u17, u18, u19, u20, u21, u22, u23, u24, u25, u26, u27, u28, u29, u30, u31, u32, u33, u34, u35, u36, u37, u38, u39, u40, u41, u42, u43, u44, u45, u46, u47, u48, u49, u50, u51, u52, u53, u54, u55, u56, u57, u58, u59, u60, u61, u62, u63, u64, u65, u66, u67, u68, u69, u70, u71, u72, u73, u74, u75, u76, u77, u78, u79, u80, u81, u82, u83, u84, u85, u86, u87, u88, u89, u90, u91, u92, u93, u94, u95, u96, u97, u98, u99, u100, u101, u102, u103, u104, u105, u106, u107, u108, u109, u110, u111, u112, u113, u114, u115, u116, u117, u118, u119, u120, u121, u122, u123, u124, u125, u126, u127, u128, u129, u130, u131, u132, u133, u134, u135, u136, u137, u138, u139, u140, u141, u142, u143, u144, u145, u146, u147, u148, u149, u150, u151, u152, u153, u154, u155, u156, u157, u158, u159, u160, u161, u162, u163, u164, u165, u166, u167, u168, u169, u170, u171, u172, u173, u174, u175, u176, u177, u178, u179, u180, u181, u182, u183, u184, u185, u186, u187, u188, u189, u190, u191, u192, u193, u194, u195, u196, u197, u198, u199, u200, u201, u202, u203, u204, u205, u206, u207, u208, u209, u210, u211, u212, u213, u214, u215, u216, u217, u218, u219, u220, u221, u222, u223], []⟩ w5 := by
  conv => arg 2; whnf
  have HCO := hide (fun W (hx : Nx w5 W) => w_Covered lo B0 B1 B2 ca cb cc ns rs bs lo D cd l lo E ce ws ad wi W (HR5.out W hx).1 (HR5.out W hx).2.1 (HR5.out W hx).2.2 (by omega) (by omega) (by omega) HSN.out (HDD.out.nx hx) (by omega) (HEE.out.nx hx) (by omega))
  have HCH := hide (fun W (hx : Nx w5 W) => w_Choose lo B0 B1 B2 ca cb cc ns rs bs lo S cs sites many lo E ce ws ad wi W (HR5.out W hx).1 (HR5.out W hx).2.1 (HR5.out W hx).2.2 (by omega) (by omega) (by omega) HSN.out (HSS.out.nx hx) (by omega) (HEE.out.nx hx) (by omega))
  have HRF := hide (fun W (hx : Nx w5 W) => w_RoadsFault lo lo lo B0 B1 B2 ca cb cc ns rs bs W (HR5.out W hx).1 HSN.out (by omega) (HR5.out W hx).2.1 (by omega) (HR5.out W hx).2.2 (by omega))
  have HWF := hide (fun W (hx : Nx w5 W) => w_WeightsFault lo B0 B1 B2 rs.length bs.length ca cb cc ns lo E ce ws W (HR5.out W hx).1 (by omega) (HEE.out.nx hx) (by omega))
  have HNS := hide (fun W (hx : Nx w5 W) => w_NodesFault lo B0 B1 B2 rs.length bs.length ca cb cc ns lo D cd l 200 W (HR5.out W hx).1 (by omega) (HDD.out.nx hx) (by omega))
  have HSF := hide (fun W (hx : Nx w5 W) => w_SitesFault lo B0 B1 B2 rs.length bs.length ca cb cc ns lo S cs sites W (HR5.out W hx).1 (by omega) (HSS.out.nx hx) (by omega))
  have HVR := hide (fun W (hx : Nx w5 W) (hC : chk (arcF ns) none rs = 0) => (⟨(HR5.out W hx).2.1, by omega, (HR5.out W hx).2.2, by omega, hC⟩ : ValR W lo B0 B1 B2 ns.length ca cb cc ns rs bs))
  have HCV := hide (fun (h : coverF ns rs bs l ws ad wi = 0) W (hx : Nx w5 W) => (show Calls Tryz.prog 28 #[.agg #[.slice B0 ns.length ca, .slice B1 rs.length cb, .slice B2 bs.length cc], .slice D l.length cd, .slice E ws.length ce, .int .i64 ad, .int .i64 wi] W fun e w' => e = .returned (.int .i64 (coverV ns rs bs l ws ad wi)) ∧ Nx W w' by
    obtain ⟨k1, k2, k3⟩ := coverF_ok h
    obtain ⟨k4, k5, _⟩ := restF_ok k3
    rw [show coverV ns rs bs l ws ad wi = covS (reachB ns rs bs ad wi) l ws from if_pos h]
    exact w_CoveredOf lo B0 B1 B2 ns.length ca cb cc ns rs bs lo D cd l lo E ce ws ad wi W (HVR.out W hx (roads_ok k1).2.1) (HDD.out.nx hx) (by omega) k2 (HEE.out.nx hx) (by omega) (wgts_bd k4).2 (momB_true.1 k5)))
  have HCS := hide (fun (h : chooseF ns rs bs sites many ws ad wi = 0) W (hx : Nx w5 W) => (show Calls Tryz.prog 29 #[.agg #[.slice B0 ns.length ca, .slice B1 rs.length cb, .slice B2 bs.length cc], .slice S sites.length cs, .int .i64 many, .slice E ws.length ce, .int .i64 ad, .int .i64 wi] W fun e w' => ∃ (Z : Option Addr) (cz : Nat), e = .returned (.tuple #[.slice Z (chooseP ns rs bs sites many ws ad wi).1.length cz, .int .i64 (chooseP ns rs bs sites many ws ad wi).2]) ∧ Rd w' 0 Z 1 encS (chooseP ns rs bs sites many ws ad wi).1 ∧ (chooseP ns rs bs sites many ws ad wi).1.length ≤ cz ∧ Nx W w' by
    obtain ⟨k1, k2, k3⟩ := chooseF_ok h
    obtain ⟨k4, k5, _⟩ := restF_ok k3
    rw [show chooseP ns rs bs sites many ws ad wi = chooseR ns rs bs sites many ws ad wi from if_pos h]
    exact w_ChooseOf lo B0 B1 B2 ns.length ca cb cc ns rs bs lo S cs sites many lo E ce ws ad wi W (HVR.out W hx (roads_ok k1).2.1) (HSS.out.nx hx) (by omega) (site_ok k2).2 (HEE.out.nx hx) (by omega) (wgts_bd k4).2 (momB_true.1 k5)))
  have HPS := hide (chooseP_sub ns rs bs sites many ws ad wi)
  have HX1 := hide (fun h : roadsF ns rs bs = 0 => cover_or (l := l) (ws := ws) (ad := ad) (wi := wi) h (by omega))
  have HX2 := hide (fun h : roadsF ns rs bs = 0 => many_cases (choose_or (sites := sites) (ws := ws) (ad := ad) (wi := wi) (many := many) h))
  have HX3 := hide (wi_cases (restF_or ns ws ad wi))
  have HBAD := hide (fun h : roadsF ns rs bs ≠ 0 => (⟨if_neg h, if_neg h⟩ : coverF ns rs bs l ws ad wi = roadsF ns rs bs ∧ chooseF ns rs bs sites many ws ad wi = roadsF ns rs bs))
  have HV0 := hide (fun h : coverF ns rs bs l ws ad wi ≠ 0 => (show coverV ns rs bs l ws ad wi = 0 from if_neg h))
  have HP0 := hide (fun h : chooseF ns rs bs sites many ws ad wi ≠ 0 => (show chooseP ns rs bs sites many ws ad wi = ([], 0) from if_neg h))
  clear HVR HR5 HSN HDD HEE HSS
  generalize coverF ns rs bs l ws ad wi = F1 at *
  generalize coverV ns rs bs l ws ad wi = V1 at *
  generalize chooseF ns rs bs sites many ws ad wi = F2 at *
  generalize chooseP ns rs bs sites many ws ad wi = P2 at *
  generalize restF ns ws ad wi = RE at *
  generalize wgtsF ns ws = WF at *
  generalize askF ns l 200 = AF at *
  generalize sitesF ns sites = SF at *
  generalize roadsF ns rs bs = RF at *
  have HJO := hide (fun Z cz W (hR : Rd W 0 Z 1 encS P2.1) (hc : P2.1.length ≤ cz) => w_JoinS 0 Z cz P2.1 W hR hc (by have := HPS.out.2; omega) (fun s hs => HSZ.out s (HPS.out.1 s hs)))
  clear HPS HSZ
  generalize ns.length = nn at *
  generalize rs.length = nr at *
  generalize bs.length = nb at *
  generalize l.length = n1 at *
  generalize ws.length = n2 at *
  generalize sites.length = n3 at *
  obtain ⟨PL, PM⟩ := P2
  obtain ⟨c0, c1, c2⟩ := HB5.out w5 (Nx.refl _)
  go_wp2_with fail
  refine (HCO.out w5 (Nx.refl _)).mono ?_
  rintro e w6 ⟨rfl, hn6⟩
  clear c0 c1 c2
  obtain ⟨c0, c1, c2⟩ := HB5.out w6 hn6
  go_wp2_with fail
  refine (HCH.out w6 hn6).mono ?_
  rintro e w7 ⟨Z, cz, rfl, hRZ, hcz, hn7⟩
  have hn57 := hn6.trans hn7
  have HRZ := hide hRZ
  clear c0 c1 c2 hn6 hn7 hRZ
  obtain ⟨c0, c1, c2⟩ := HB5.out w7 hn57
  go_wp2_with fail
  refine (HRF.out w7 hn57).mono ?_
  rintro e w8 ⟨rfl, hn8⟩
  have hn58 := hn57.trans hn8
  have HRZ := hide (HRZ.out.nx hn8)
  clear c0 c1 c2 hn57 hn8 HCO HCH HRF
  by_cases hF : RF = 0
  · have HX1' := hide (HX1.out hF)
    have HX2' := hide (HX2.out hF)
    subst hF
    clear HBAD HX2 HX1
    have HMF := hide (fun W => w_MomentFault ad W)
    have HO3 := hide (fun a b d g c W h => w_Or3 a b d g c W h)
    have HO2 := hide (fun a b g c W h => w_Or2 a b g c W h)
    obtain ⟨c0, c1, c2⟩ := HB5.out w8 hn58
    go_upto_region 19 with fail
    go_cut [19] (fun v wx => v = .int .i64 RE ∧ Nx w8 wx)
    case first =>
      obtain ⟨z, hz, hw⟩ := HX3.out
      have HZ := hide hz
      clear hz HX3
      rcases hw with ⟨x1, rfl⟩ | ⟨x1, x2, rfl⟩ | ⟨x1, x2, rfl⟩
      all_goals
        go_wp2_with fail
        refine (HWF.out w8 hn58).mono ?_
        rintro e w10 ⟨rfl, hn10⟩
        go_wp2_with fail
        refine (HMF.out w10).mono ?_
        rintro e w' ⟨rfl, rfl⟩
        go_wp2_with fail
        refine (w_when _ _ _).mono ?_
        rintro e w' ⟨rfl, rfl⟩
        go_wp2_with fail
        refine (HO3.out _ _ _ _ _ _ (hnew rfl)).mono ?_
        rintro e w' ⟨rfl, rfl⟩
        go_wp2_with fail
        go_meet
        exact ⟨congrArg (Value.int .i64) HZ.out, hn10.alloc _⟩
    case rest =>
      obtain ⟨rfl, hx⟩ := hcut
      obtain ⟨w10, hw10⟩ : ∃ w10, w10 = wc := ⟨_, rfl⟩
      subst hw10
      have hn5a := hn58.trans hx
      have HRZ := hide (HRZ.out.nx hx)
      clear c0 c1 c2 hx hn58 HX3 HWF HMF
      obtain ⟨c0, c1, c2⟩ := HB5.out w10 hn5a
      go_upto_region 20 with fail
      go_cut [20] (fun v wx => v = .int .i64 F1 ∧ Nx w10 wx)
      case first =>
        go_wp2_with fail
        refine (HNS.out w10 hn5a).mono ?_
        rintro e w11 ⟨rfl, hn11⟩
        go_wp2_with fail
        refine (HO2.out _ _ _ _ _ (hnew rfl)).mono ?_
        rintro e w' ⟨rfl, rfl⟩
        go_wp2_with fail
        go_meet
        exact ⟨congrArg (Value.int .i64) HX1'.out, hn11.alloc _⟩
      case rest =>
        obtain ⟨rfl, hx⟩ := hcut
        obtain ⟨w12, hw12⟩ : ∃ w12, w12 = wc := ⟨_, rfl⟩
        subst hw12
        have hn5b := hn5a.trans hx
        have HRZ := hide (HRZ.out.nx hx)
        clear c0 c1 c2 hx hn5a HNS HX1'
        obtain ⟨c0, c1, c2⟩ := HB5.out w12 hn5b
        go_upto_region 21 with fail
        go_cut [21] (fun v wx => v = .int .i64 F2 ∧ Nx w12 wx)
        case first =>
          obtain ⟨z, hz, hw⟩ := HX2'.out
          have HZ := hide hz
          clear hz HX2'
          rcases hw with ⟨x1, rfl⟩ | ⟨x1, x2, rfl⟩ | ⟨x1, x2, rfl⟩
          all_goals
            go_wp2_with fail
            refine (HSF.out w12 hn5b).mono ?_
            rintro e w13 ⟨rfl, hn13⟩
            go_wp2_with fail
            refine (w_when _ _ _).mono ?_
            rintro e w' ⟨rfl, rfl⟩
            go_wp2_with fail
            refine (HO3.out _ _ _ _ _ _ (hnew rfl)).mono ?_
            rintro e w' ⟨rfl, rfl⟩
            go_wp2_with fail
            go_meet
            exact ⟨congrArg (Value.int .i64) HZ.out, hn13.alloc _⟩
        case rest =>
          obtain ⟨rfl, hx⟩ := hcut
          obtain ⟨w14, hw14⟩ : ∃ w14, w14 = wc := ⟨_, rfl⟩
          subst hw14
          have hn5c := hn5b.trans hx
          have HRZ := hide (HRZ.out.nx hx)
          clear c0 c1 c2 hx hn5b HSF HX2' HO3 HO2
          obtain ⟨c0, c1, c2⟩ := HB5.out w14 hn5c
          go_upto_region 22 with fail
          go_cut [179] (fun v wx => v = .bool false ∧ Nx w14 wx)
          case first =>
            have t1 : (F1 == F1) = true := by simp
            by_cases h1 : F1 = 0
            · subst h1
              have t2 : (V1 == V1) = true := by simp
              go_wp2_with fail
              refine (HCV.out (by first | trivial | rfl) w14 hn5c).mono ?_
              rintro e w15 ⟨rfl, hn15⟩
              go_wp2_with fail
              go_meet
              exact ⟨rfl, hn15⟩
            · obtain rfl : V1 = 0 := HV0.out h1
              have tF : (F1 == 0) = false := by simpa using h1
              have tF2 : (F1 != 0) = true := by simpa using h1
              clear h1
              go_wp2_with fail
              go_meet
              exact ⟨rfl, Nx.refl _⟩
          case rest =>
            obtain ⟨rfl, hx⟩ := hcut
            obtain ⟨w16, hw16⟩ : ∃ w16, w16 = wc := ⟨_, rfl⟩
            subst hw16
            have hn5d := hn5c.trans hx
            have HRZ := hide (HRZ.out.nx hx)
            clear c0 c1 c2 hx hn5c HCV HV0
            obtain ⟨c0, c1, c2⟩ := HB5.out w16 hn5d
            by_cases h2 : F2 = 0
            · subst h2
              go_wp2_with fail
              refine (HCS.out (by first | trivial | rfl) w16 hn5d).mono ?_
              rintro e w17 ⟨Z2, cz2, rfl, hR2, hcz2, hn17⟩
              have HJ1 := hide (HJO.out Z cz w17 (HRZ.out.nx hn17) hcz)
              have HJ2 := hide (fun W (h : Nx w17 W) => HJO.out Z2 cz2 W (hR2.nx h) hcz2)
              have HN17 := hide (hn5d.trans hn17)
              clear c0 c1 c2 hR2 hcz2 hcz HRZ HJO hn17
              generalize joinS PL = J at *
              have tJ : (J.toList == J.toList) = true := by simp
              have tk : (PM == PM) = true := by simp
              go_wp2_with fail
              refine HJ1.out.mono ?_
              rintro e w18 ⟨rfl, hn18⟩
              go_wp2_with fail
              refine (HJ2.out w18 hn18).mono ?_
              rintro e w19 ⟨rfl, hn19⟩
              go_wp2_with fail
              refine (w_counted _).mono ?_
              rintro e w20 ⟨rfl, hn20⟩
              go_wp2_with fail
              go_ret
              exact ⟨rfl, HT.out _ (((HN17.out.trans hn18).trans hn19).trans hn20)⟩
            · have hp := HP0.out h2
              injection hp with hp1 hp2
              subst hp1 hp2
              have tF : (F2 == 0) = false := by simpa using h2
              have tF2 : (F2 != 0) = true := by simpa using h2
              have tM : (F2 == F2) = true := by simp
              clear h2 HP0 HCS HJO
              go_wp2_with fail
              refine (w_counted _).mono ?_
              rintro e w20 ⟨rfl, hn20⟩
              go_wp2_with fail
              go_ret
              exact ⟨rfl, HT.out _ (hn5d.trans hn20)⟩
  · obtain ⟨h1, h2⟩ := HBAD.out hF
    obtain rfl : V1 = 0 := HV0.out (by rw [h1]; exact hF)
    have hp := HP0.out (by rw [h2]; exact hF)
    injection hp with hp1 hp2
    subst hp1 hp2
    clear HX1 HX2 HX3 HBAD HV0 HP0 HCV HCS HJO HWF HNS HSF
    subst h1 h2
    have tF : (F2 == 0) = false := by simpa using hF
    have tF2 : (F2 != 0) = true := by simpa using hF
    have tM : (F2 == F2) = true := by simp
    clear hF
    go_wp2_with fail
    refine (w_counted _).mono ?_
    rintro e w20 ⟨rfl, hn20⟩
    go_wp2_with fail
    go_ret
    exact ⟨rfl, HT.out _ (hn58.trans hn20)⟩
end Go.Proofs.YtmpnilliichpfaaGreatDoor
