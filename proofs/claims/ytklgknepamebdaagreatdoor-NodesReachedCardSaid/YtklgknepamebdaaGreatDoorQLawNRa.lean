/- jitlaw1.NodesReached, its second part: what is asked of the program; what is reached. -/
import Derived.Test.YtklgknepamebdaaGreatDoorQG37
namespace Go.Proofs.YtklgknepamebdaaGreatDoor
open Go.RowKit

set_option maxRecDepth 100000 in
set_option maxHeartbeats 8000000 in
theorem st_NR4 {w w5 : World} {g lo ca cb cc cd : Nat} {B0 B1 B2 D : Option Addr} {ns : List Node} {rs : List Arc} {bs : List Ban} {fr to_ : ByteArray} {l : List ByteArray} {ad wi : Int}
    (HT : Hid (∀ W, Nx w5 W → Nx w W)) (HR5 : Hid (∀ W, Nx w5 W → Rd W lo B0 3 encNode ns ∧ RdArcs W lo B1 rs ∧ Rd W lo B2 2 encBan bs))
    (HB5 : Hid (∀ W, Nx w5 W → W.cell? ⟨g, 0, none⟩ = some (.slice B0 ns.length ca) ∧ W.cell? ⟨g, 1, none⟩ = some (.slice B1 rs.length cb) ∧ W.cell? ⟨g, 2, none⟩ = some (.slice B2 bs.length cc)))
    (HDD : Hid (Rd w5 lo D 1 encS l)) (HTAB : Hid (PowTab w)) (HSN : Hid (SmallN ns)) (hn5 : ns.length ≤ 5) (hr10 : rs.length ≤ 10) (hb101 : bs.length ≤ 101) (hl4 : l.length ≤ 4) {u0 u1 u2 u3 u10 u11 u12 u13 u14 u15 u16 u17 u18 u19 u20 u21 u22 u23 u24 u25 u26 u27 u28 u29 u30 u31 u32 u33 u34 u35 u36 u37 u38 u39 u40 u41 u42 u43 u44 u45 u46 u47 u48 u49 u50 u51 u52 u53 u54 u55 u56 u57 u58 u59 u60 u61 u62 u63 u64 u65 u66 u67 u68 u69 u70 u71 u72 u73 u74 u75 u76 u77 u78 u79 u80 u81 u82 u83 u84 u85 u86 u87 u88 u89 u90 u91 u92 u93 u94 u95 u96 u97 u98 u99 u100 u101 u102 u103 u104 u105 u106 u107 u108 u109 u110 u111 u112 u113 u114 u115 u116 u117 u118 u119 u120 u121 u122 u123 u124 u125 u126 u127 u128 u129 u130 u131 u132 u133 u134 u135 u136 u137 u138 u139 u140 u141 u142 u143 u144 u145 u146 u147 u148 u149 u150 u151 u152 u153 u154 u155 u156 u157 u158 u159 u160 u161 u162 u163 u164 u165 u166 u167 u168 u169 u170 u171 u172 u173 u174 u175 u176 u177 u178 u179 u180 u181 u182 u183 u184 u185 u186 u187 u188 u189 u190 u191 u192 u193 u194 u195 u196 u197 u198 u199 u200 u201 u202 u203 u204 u205 u206 u207 u208 u209 u210 u211 u212 u213 u214 u215 u216 u217 u218 u219 u220 u221 u222 u223 u224 u225 u226 u227 u228 u229 u230 u231 u232 u233 u234 u235 u236 u237 u238 u239 u240 u241 u242 u243 u244 u245 u246 u247 u248 u249 u250 u251 u252 u253 u254 u255 u256 u257 u258 u259 u260 u261 u262 u263 u264 u265 u266 u267 u268 u269 u270 u271 u272 u273 : Value} :
    Code.wp Tryz.prog (codeNR 4) (bodyPost Tryz.prog Tryz.f5 (TrueNx w)) ⟨#[u0, u1, u2, u3, .pointer (some ⟨g, 0, none⟩), .string fr, .string to_, .slice D l.length cd, .int .i64 ad, .int .i64 wi, u10, u11, u12, u13, u14, u15, u16, u17, u18, u19, u20, u21, u22, u23, u24, u25, u26, u27, u28, u29, u30, u31, u32, u33, u34, u35, u36, u37, u38, u39, u40, u41, u42, u43, u44, u45, u46, u47, u48, u49, u50, u51, u52, u53, u54, u55, u56, u57, u58, u59, u60, u61, u62, u63, u64, u65, u66, u67, u68, u69, u70, u71, u72, u73, u74, u75, u76, u77, u78, u79, u80, u81, u82, u83, u84, u85, u86, u87, u88, u89, u90, u91, u92, u93, u94, u95, u96, u97, u98, u99, u100, u101, u102, u103, u104, u105, u106, u107, u108, u109, u110, u111, u112, u113, u114, u115, u116, u117, u118, u119, u120, u121, u122, u123, u124, u125, u126, u127, u128, u129, u130, u131, u132, u133, u134, u135, u136, u137, u138, u139, u140, u141, u142, u143, u144, u145, u146, u147, u148, u149, u150, u151, u152, u153, u154, u155, u156, u157, u158, u159, u160, u161, u162, u163, u164, u165, u166, u167, u168, u169, u170, u171, u172, u173, u174, u175, u176, u177, u178, u179, u180, u181, u182, u183, u184, u185, u186, u187, u188, u189, u190, u191, u192, u193, u194, u195, u196, u197, u198, u199, u200, u201, u202, u203, u204, u205, u206, u207, u208, u209, u210, u211, u212, u213, u214, u215, u216, u217, u218, u219, u220, u221, u222, u223, u224, u225, u226, u227, u228, u229, u230, u231, u232, u233, u234, u235, u236, u237, u238, u239, u240, u241, u242, u243, u244, u245, u246, u247, u248, u249, u250, u251, u252, u253, u254, u255, u256, u257, u258, u259, u260, u261, u262, u263, u264, u265, u266, u267, u268, u269, u270, u271, u272, u273], []⟩ w5 := by
  conv => arg 2; whnf
  have HRE := hide (fun W (hx : Nx w5 W) => w_Reach lo B0 B1 B2 ca cb cc ns rs bs fr ad wi W (HR5.out W hx).1 (HR5.out W hx).2.1 (HR5.out W hx).2.2 (by omega) (by omega) (by omega) HSN.out (tab_nx HTAB.out (HT.out W hx)))
  obtain ⟨kk, tt, is, hi1, hNE⟩ := near_pack (nearP ns rs bs l to_ ad) (nearF ns rs bs l to_ ad) (Q := fun W => Nx w5 W) (fun W (hx : Nx w5 W) => w_Nearest lo B0 B1 B2 ca cb cc ns rs bs lo D cd l to_ ad W (HR5.out W hx).1 (HR5.out W hx).2.1 (HR5.out W hx).2.2 (by omega) (by omega) (by omega) HSN.out (HDD.out.nx hx) (by omega))
  have HI1 := hide hi1
  have HNE := hide hNE
  have HMA := hide (fun W (hx : Nx w5 W) => w_Matrix lo B0 B1 B2 ca cb cc ns rs bs lo D cd l ad W (HR5.out W hx).1 (HR5.out W hx).2.1 (HR5.out W hx).2.2 (by omega) (by omega) (by omega) HSN.out (HDD.out.nx hx) (by omega))
  have HRF := hide (fun W (hx : Nx w5 W) => w_RoadsFault lo lo lo B0 B1 B2 ca cb cc ns rs bs W (HR5.out W hx).1 HSN.out (by omega) (HR5.out W hx).2.1 (by omega) (HR5.out W hx).2.2 (by omega))
  have HNF := hide (fun s W (hx : Nx w5 W) => w_NodeFault lo B0 B1 B2 rs.length bs.length ca cb cc ns s W (HR5.out W hx).1 (by omega))
  have HNS := hide (fun most W (hx : Nx w5 W) => w_NodesFault lo B0 B1 B2 rs.length bs.length ca cb cc ns lo D cd l most W (HR5.out W hx).1 (by omega) (HDD.out.nx hx) (by omega))
  have HVR := hide (fun W (hx : Nx w5 W) (hC : chk (arcF ns) none rs = 0) => (⟨(HR5.out W hx).2.1, by omega, (HR5.out W hx).2.2, by omega, hC⟩ : ValR W lo B0 B1 B2 ns.length ca cb cc ns rs bs))
  have HAR := hide (fun s t W (hx : Nx w5 W) (hC : chk (arcF ns) none rs = 0) (hf : 0 ≤ nodeI ns s) (ht : 0 ≤ nodeI ns t) hat => w_ArriveAt lo B0 B1 B2 ns.length ca cb cc ns rs bs s t ad W (HVR.out W hx hC) hf ht hat)
  have HRO := hide (fun W (hx : Nx w5 W) (hF : reachF ns rs bs fr ad wi = 0) => reachOf_pack hF (w_ReachOf lo B0 B1 B2 ca cb cc ns rs bs fr ad wi W (HR5.out W hx).1 (by omega) (sort_of (reachF_ok hF).1) (HVR.out W hx (roads_ok (reachF_ok hF).1).2.1) (reachF_ok hF).2.1 (momB_true.1 (reachF_ok hF).2.2.1) (reachF_ok hF).2.2.2 (tab_nx HTAB.out (HT.out W hx))))
  have HAI := hide (fun s t (hC : chk (arcF ns) none rs = 0) (hs : 0 ≤ nodeI ns s) (ht : 0 ≤ nodeI ns t) hat => arrS_in (bs := bs) (ad := ad) hC hs ht hat)
  have HRL := hide (reachL_len ns rs bs fr ad wi)
  have HR0 := hide (fun h : reachF ns rs bs fr ad wi ≠ 0 => (show reachL ns rs bs fr ad wi = [] from if_neg h))
  have HXO := hide (fun h : roadsF ns rs bs = 0 => reach_or (f := fr) (ad := ad) (wi := wi) h)
  have HNO := hide (fun h : roadsF ns rs bs = 0 => near_or (t := to_) (ad := ad) (l := l) h (by omega))
  have HMO := hide (fun h : roadsF ns rs bs = 0 => mat_or (ad := ad) (l := l) h (by omega))
  have HX1 := hide (fun h : roadsF ns rs bs ≠ 0 => reachF_bad (f := fr) (ad := ad) (wi := wi) h)
  have HN1 := hide (fun h : roadsF ns rs bs ≠ 0 => (show nearF ns rs bs l to_ ad = roadsF ns rs bs from if_neg h))
  have HM1 := hide (fun h : roadsF ns rs bs ≠ 0 => (show matF ns rs bs l ad = roadsF ns rs bs from if_neg h))
  have HNK2 := hide (fun h : nearF ns rs bs l to_ ad = 0 => nearF_ok h)
  have HMK2 := hide (fun h : matF ns rs bs l ad = 0 => matF_ok h)
  have HNP := hide (fun h : nearF ns rs bs l to_ ad = 0 => (show nearO (fun s => arrS ns rs bs s to_ ad) l 0 (-1) endT = nearP ns rs bs l to_ ad from (if_pos h).symm))
  have HN0 := hide (fun h : nearF ns rs bs l to_ ad ≠ 0 => (show nearP ns rs bs l to_ ad = (-1, endT) from if_neg h))
  have HMT := hide (fun (es : List RowE) (h : es.map (·.l) = matL ns rs bs l ad) => matL_at h)
  have HSR := hide (fun h : roadsF ns rs bs = 0 => (roads_ok h).2.1)
  clear HSN HR5 HTAB HVR hi1 hNE
  generalize hE : reachF ns rs bs fr ad wi = E at *
  generalize hNF : nearF ns rs bs l to_ ad = NF at *
  generalize hMF : matF ns rs bs l ad = MF at *
  generalize hRL : reachL ns rs bs fr ad wi = RL at *
  generalize hNP : nearP ns rs bs l to_ ad = NP at *
  generalize hML : matL ns rs bs l ad = ML at *
  generalize hRF : roadsF ns rs bs = RF at *
  generalize hnl : ns.length = nn at *
  generalize hrl : rs.length = nr at *
  generalize hbl : bs.length = nb at *
  clear hnl hrl hbl hE hNF hMF hRL hNP hML hRF
  generalize hll : l.length = n at *
  have HLN := hide hll
  have hn4 : n ≤ 4 := by omega
  clear hll hl4
  obtain ⟨c0, c1, c2⟩ := HB5.out w5 (Nx.refl _)
  go_wp2_with fail
  refine (HRE.out w5 (Nx.refl _)).mono ?_
  rintro e w6 ⟨Z, cz, rfl, hRZ, hn6⟩
  have HRZ := hide hRZ
  clear hRZ c0 c1 c2
  obtain ⟨c0, c1, c2⟩ := HB5.out w6 hn6
  go_wp2_with fail
  refine (HNE.out w6 hn6).mono ?_
  rintro e w7 ⟨rfl, hn7⟩
  have hn57 := hn6.trans hn7
  have HRZ := hide (HRZ.out.nx hn7)
  clear c0 c1 c2 hn6 hn7
  obtain ⟨c0, c1, c2⟩ := HB5.out w7 hn57
  go_wp2_with fail
  refine (HMA.out w7 hn57).mono ?_
  rintro e w8 ⟨Y, cy, es, hes, rfl, hRY, hRr, hn8⟩
  have hn58 := hn57.trans hn8
  have HRZ := hide (HRZ.out.nx hn8)
  have HES := hide hes
  have HRY := hide hRY
  have HRR := hide hRr
  clear c0 c1 c2 hn57 hn8 hes hRY hRr
  obtain ⟨c0, c1, c2⟩ := HB5.out w8 hn58
  go_wp2_with fail
  refine (HRF.out w8 hn58).mono ?_
  rintro e w9 ⟨rfl, hn9⟩
  have hn59 := hn58.trans hn9
  have HRZ := hide (HRZ.out.nx hn9)
  have HRY := hide (HRY.out.nx hn9)
  have HRR := hide (fun r hr => (HRR.out r hr).nx hn9)
  clear c0 c1 c2 hn58 hn9 HRE HNE HMA HRF
  by_cases hF : RF = 0
  · have HXO2 := hide (HXO.out hF)
    have HNO2 := hide (HNO.out hF)
    have HMO2 := hide (HMO.out hF)
    have HC := hide (HSR.out hF)
    clear HX1 HN1 HM1 HSR HXO HNO HMO
    have HXO := HXO2
    have HNO := HNO2
    have HMO := HMO2
    clear HXO2 HNO2 HMO2
    subst hF
    have HMFm := hide (fun W => w_MomentFault ad W)
    have HO3 := hide (fun a b d g c W h => w_Or3 a b d g c W h)
    have HNF1 := hide (fun W hx => HNF.out fr W hx)
    have HNF2 := hide (fun W hx => HNF.out to_ W hx)
    have HNS1 := hide (fun W hx => HNS.out 200 W hx)
    have HNS2 := hide (fun W hx => HNS.out 50 W hx)
    have HW3 := hide (show ∃ z : Int, orI [noneF ns fr, momF ad, z] = E ∧ ((decide (wi < 0) = true ∧ z = 1) ∨ (decide (wi < 0) = false ∧ decide (wi > 86400000) = true ∧ z = 1) ∨ (decide (wi < 0) = false ∧ decide (wi > 86400000) = false ∧ z = 0)) from wi_cases HXO.out)
    clear HNF HNS HXO
    obtain ⟨c0, c1, c2⟩ := HB5.out w9 hn59
    go_upto_region 10 with fail
    go_cut [19] (fun v wx => v = .int .i64 E ∧ Nx w9 wx)
    case first =>
      obtain ⟨z, hz, hw⟩ := HW3.out
      have HZ := hide hz
      clear hz HW3
      rcases hw with ⟨x1, rfl⟩ | ⟨x1, x2, rfl⟩ | ⟨x1, x2, rfl⟩
      all_goals
        go_wp2_with fail
        refine (HNF1.out w9 hn59).mono ?_
        rintro e w10 ⟨rfl, hn10⟩
        go_wp2_with fail
        refine (HMFm.out w10).mono ?_
        rintro e w' ⟨rfl, rfl⟩
        go_wp2_with fail
        refine (w_when _ _ _).mono ?_
        rintro e w' ⟨rfl, rfl⟩
        go_wp2_with fail
        refine (HO3.out _ _ _ _ _ _ (hnew rfl)).mono ?_
        rintro e w' ⟨rfl, rfl⟩
        go_wp2_with fail
        go_meet
        exact ⟨congrArg (Value.int .i64) HZ.out, hn10.alloc _⟩
    case rest =>
      obtain ⟨rfl, hx⟩ := hcut
      obtain ⟨w10, hw10⟩ : ∃ w10, w10 = wc := ⟨_, rfl⟩
      subst hw10
      have hn5a := hn59.trans hx
      have HRZ := hide (HRZ.out.nx hx)
      have HRY := hide (HRY.out.nx hx)
      have HRR := hide (fun r hr => (HRR.out r hr).nx hx)
      clear c0 c1 c2 hx hn59 HW3 HNF1
      obtain ⟨c0, c1, c2⟩ := HB5.out w10 hn5a
      go_upto_region 11 with fail
      go_cut [138] (fun v wx => v = .bool false ∧ Nx w10 wx)
      case first =>
        have t1 : (E == E) = true := by simp
        by_cases hE0 : E = 0
        · subst hE0
          go_wp2_with fail
          refine (HRO.out w10 hn5a (by first | trivial | rfl)).mono ?_
          rintro e w11 ⟨X, cx, rfl, hRX, hn11⟩
          go_wp2_with fail
          refine (w_EqualP 0 0 Z X cz cx RL w11 (HRZ.out.nx hn11) hRX (by have := HRL.out; omega)).mono ?_
          rintro e w12 ⟨rfl, hn12⟩
          go_wp2_with fail
          go_meet
          exact ⟨rfl, hn11.trans hn12⟩
        · have tF : (E == 0) = false := by simpa using hE0
          clear hE0
          go_wp2_with fail
          go_meet
          exact ⟨rfl, Nx.refl _⟩
      case rest =>
        obtain ⟨rfl, hcut⟩ := hcut
        obtain ⟨w12, hw12⟩ : ∃ w12, w12 = wc := ⟨_, rfl⟩
        subst hw12
        have hn5b := hn5a.trans hcut
        have HRY := hide (HRY.out.nx hcut)
        have HRR := hide (fun r hr => (HRR.out r hr).nx hcut)
        clear c0 c1 c2 HRO HRZ HRL HR0 hcut hn5a
        obtain ⟨c0, c1, c2⟩ := HB5.out w12 hn5b
        go_upto_region 14 with fail
        clear c0 c1 c2
        go_cut [22] (fun v wx => v = .int .i64 NF ∧ Nx w12 wx)
        case first =>
          refine wp_region_held_drew (S := fun w' => w'.cell? ⟨g, 0, none⟩ = some (.slice B0 nn ca) ∧ w'.cell? ⟨g, 1, none⟩ = some (.slice B1 nr cb) ∧ w'.cell? ⟨g, 2, none⟩ = some (.slice B2 nb cc)) (by kernel_rfl) ?_ (fun hHeld => ?_)
          · exact HB5.out _ hn5b.drew
          refine wpAnyH_take (i := 0) (oi := ⟨some 139, _, _, _, _, _⟩) (v := ?_) rfl (by kernel_rfl) (by kernel_rfl) (by kernel_rfl) (fun _ _ _ h => h) (Or.inl ⟨by rfl, ?_⟩) (by assumption) ?_
          rotate_left 1
          · intro w hSw
            (try dsimp only at hSw)
            go_simp
            try with_reducible rfl
          try simp only [Act.put, List.setIfInBounds_toArray, List.set_cons_zero, List.set_cons_succ]
          refine wpAnyH_take (i := 1) (oi := ⟨some 140, _, _, _, _, _⟩) (v := ?_) rfl (by kernel_rfl) (by kernel_rfl) (by kernel_rfl) (fun _ _ _ h => h) (Or.inl ⟨by rfl, ?_⟩) (by assumption) ?_
          rotate_left 1
          · intro w hSw
            (try dsimp only at hSw)
            go_simp
            try with_reducible rfl
          try simp only [Act.put, List.setIfInBounds_toArray, List.set_cons_zero, List.set_cons_succ]
          refine wpAnyH_take (i := 3) (oi := ⟨some 142, _, _, _, _, _⟩) (v := ?_) rfl (by kernel_rfl) (by kernel_rfl) (by kernel_rfl) (fun _ _ _ h => h) (Or.inl ⟨by rfl, ?_⟩) (by assumption) ?_
          rotate_left 1
          · intro w hSw
            (try dsimp only at hSw)
            go_simp
            try with_reducible rfl
          try simp only [Act.put, List.setIfInBounds_toArray, List.set_cons_zero, List.set_cons_succ]
          refine wpAnyH_take (i := 4) (oi := ⟨some 143, _, _, _, _, _⟩) (v := ?_) rfl (by kernel_rfl) (by kernel_rfl) (by kernel_rfl) (fun _ _ _ h => h) (Or.inl ⟨by rfl, ?_⟩) (by assumption) ?_
          rotate_left 1
          · intro w hSw
            (try dsimp only at hSw)
            go_simp
            try with_reducible rfl
          try simp only [Act.put, List.setIfInBounds_toArray, List.set_cons_zero, List.set_cons_succ]
          refine wpAnyH_take (i := 6) (oi := ⟨some 145, _, _, _, _, _⟩) (v := ?_) rfl (by kernel_rfl) (by kernel_rfl) (by kernel_rfl) (fun _ _ _ h => h) (Or.inl ⟨by rfl, ?_⟩) (by assumption) ?_
          rotate_left 1
          · intro w hSw
            (try dsimp only at hSw)
            go_simp
            try with_reducible rfl
          try simp only [Act.put, List.setIfInBounds_toArray, List.set_cons_zero, List.set_cons_succ]
          refine wpAnyH_ready (rs := [2]) (by kernel_rfl) (by simp) ?_
          refine AllReadyH.cons rfl (fun K hK => ?_) AllReadyH.nil
          go_simp
          go_at_call 22
          refine (HNS1.out _ hn5b.drew).mono ?_
          rintro e w13 ⟨rfl, hn13⟩
          have h13 : Nx w12 w13 := (Nx.refl _).drew.trans hn13
          go_simp
          refine hK.out _ _ (HB5.out _ (hn5b.trans h13)) (fun hHeld => ?_)
          clear hK K
          try simp only [Act.put, List.setIfInBounds_toArray, List.set_cons_zero, List.set_cons_succ]
          refine wpAnyH_ready (rs := [5]) (by kernel_rfl) (by simp) ?_
          refine AllReadyH.cons rfl (fun K hK => ?_) AllReadyH.nil
          go_simp
          go_at_call 30
          refine (HNF2.out _ (hn5b.trans h13)).mono ?_
          rintro e w14 ⟨rfl, hn14⟩
          have h14 : Nx w12 w14 := h13.trans hn14
          go_simp
          refine hK.out _ _ (HB5.out _ (hn5b.trans h14)) (fun hHeld => ?_)
          clear hK K
          try simp only [Act.put, List.setIfInBounds_toArray, List.set_cons_zero, List.set_cons_succ]
          refine wpAnyH_ready (rs := [7]) (by kernel_rfl) (by simp) ?_
          refine AllReadyH.cons rfl (fun K hK => ?_) AllReadyH.nil
          go_simp
          go_at_call 20
          refine (HMFm.out _).mono ?_
          rintro e w' ⟨rfl, rfl⟩
          go_simp
          refine hK.out _ _ (HB5.out _ (hn5b.trans h14)) (fun hHeld => ?_)
          clear hK K
          try simp only [Act.put, List.setIfInBounds_toArray, List.set_cons_zero, List.set_cons_succ]
          refine wpAnyH_ready (rs := [8]) (by kernel_rfl) (by simp) ?_
          refine AllReadyH.cons rfl (fun K hK => ?_) AllReadyH.nil
          go_simp
          refine hK.out _ _ (HB5.out _ ((hn5b.trans h14).alloc _)) (fun hHeld => ?_)
          clear hK K
          try simp only [Act.put, List.setIfInBounds_toArray, List.set_cons_zero, List.set_cons_succ]
          refine wpAnyH_ready (rs := [9]) (by kernel_rfl) (by simp) ?_
          refine AllReadyH.cons rfl (fun K hK => ?_) AllReadyH.nil
          go_simp
          go_at_call 18
          refine (HO3.out _ _ _ _ _ _ (hnew rfl)).mono ?_
          rintro e w' ⟨rfl, rfl⟩
          go_simp
          refine hK.out _ _ (HB5.out _ ((hn5b.trans h14).alloc _)) (fun hHeld => ?_)
          clear hK K
          try simp only [Act.put, List.setIfInBounds_toArray, List.set_cons_zero, List.set_cons_succ]
          refine wpAnyH_take (i := 10) (oi := ⟨some 22, _, _, _, _, _⟩) (v := ?_) rfl (by kernel_rfl) (by kernel_rfl) (by kernel_rfl) (fun _ _ _ h => h) (Or.inl ⟨by rfl, ?_⟩) (by assumption) ?_
          rotate_left 1
          · intro w hSw
            (try dsimp only at hSw)
            go_simp
            try with_reducible rfl
          try simp only [Act.put, List.setIfInBounds_toArray, List.set_cons_zero, List.set_cons_succ]
          refine wpAnyH_done (by kernel_rfl) ?_ _
          go_wp2
          go_meet
          exact ⟨congrArg (Value.int .i64) HNO.out, h14.alloc _⟩
        case rest =>
          obtain ⟨rfl, hx⟩ := hcut
          obtain ⟨w14, hw14⟩ : ∃ w14, w14 = wc := ⟨_, rfl⟩
          subst hw14
          have hn5c := hn5b.trans hx
          have HRY := hide (HRY.out.nx hx)
          have HRR := hide (fun r hr => (HRR.out r hr).nx hx)
          obtain ⟨V, hV⟩ : ∃ V : ByteArray → Int, V = fun s => arrS ns rs bs s to_ ad := ⟨_, rfl⟩
          rw [← hV] at HNP
          have HNA := hide (near_if HNP.out HN0.out)
          have HAV := hide (fun (h : NF = 0) s (hs : s ∈ l) W (hx : Nx w5 W) => (show Calls Tryz.prog 32 #[.agg #[.slice B0 nn ca, .slice B1 nr cb, .slice B2 nb cc], .string s, .string to_, .int .i64 ad] W fun e w' => e = .returned (.int .i64 (V s)) ∧ Nx W w' by rw [hV]; exact HAR.out s to_ W hx HC.out ((HNK2.out h).2.1 s hs) (HNK2.out h).2.2.1 (momB_true.1 (HNK2.out h).2.2.2)))
          have HG := hide (fun h0 : MF = 0 => (show (es.length = l.length ∧ ∀ i, i < l.length → (es.getD i default).l.length = l.length ∧ ∀ j, j < l.length → (es.getD i default).l.getD j 0 = matV (arrS ns rs bs (l.getD i default) (l.getD j default) ad) ad) ∧ (0 ≤ ad ∧ ad ≤ 345686399999) ∧ ∀ s ∈ l, ∀ t ∈ l, (ad ≤ arrS ns rs bs s t ad ∧ arrS ns rs bs s t ad ≤ endT) ∧ ∀ W, Nx w5 W → Calls Tryz.prog 32 #[.agg #[.slice B0 nn ca, .slice B1 nr cb, .slice B2 nb cc], .string s, .string t, .int .i64 ad] W fun e w' => e = .returned (.int .i64 (arrS ns rs bs s t ad)) ∧ Nx W w' from
            ⟨by rw [HLN.out]; exact HMT.out es (by have h := HES.out; rw [if_pos h0] at h; exact h), momB_true.1 (HMK2.out h0).2.2, fun s hs t ht => ⟨HAI.out s t HC.out ((HMK2.out h0).2.1 s hs) ((HMK2.out h0).2.1 t ht) (momB_true.1 (HMK2.out h0).2.2), fun W hx => HAR.out s t W hx HC.out ((HMK2.out h0).2.1 s hs) ((HMK2.out h0).2.1 t ht) (momB_true.1 (HMK2.out h0).2.2)⟩⟩))
          have HBAD := hide (fun h0 : MF ≠ 0 => (show es = [] from List.map_eq_nil_iff.1 (by have h := HES.out; rw [if_neg h0] at h; exact h)))
          refine ‹∀ (a : Act) (w_1 : World), Code.wp _ _ _ a w_1 → _› _ _ ?_
          exact st_NR15 HT HB5 HDD HLN hn4 HG HBAD hn5c HRY HRR HI1 HNA HAV HNS2 HMO
  · have h1 := HX1.out hF
    have h2 := HN1.out hF
    have h3 := HM1.out hF
    have HR0 := hide (HR0.out (by rw [h1]; exact hF))
    have HNN := hide (HN0.out (by rw [h2]; exact hF))
    obtain ⟨rfl, rfl, rfl⟩ : kk = 0 ∧ tt = 0 ∧ is = false := by
      rcases HI1.out with ⟨_, a, b, c⟩ | ⟨a, _⟩
      · exact ⟨a, b, c⟩
      · rw [HNN.out] at a; exact absurd a (by decide)
    have HES := HES.out
    rw [h3, if_neg hF] at HES
    obtain rfl : es = [] := List.map_eq_nil_iff.1 HES
    obtain rfl : RL = [] := HR0.out
    subst h1 h2 h3
    have tF : (MF == 0) = false := by simpa using hF
    have tF2 : (MF != 0) = true := by simpa using hF
    have tM : (MF == MF) = true := by simp
    clear hF HX1 HN1 HM1 HES HR0 HNN HXO HNO HMO HMK2 HNK2 HAR HAI HRO HSR HMT HRL HI1 HRY HRR HRZ HNP HN0
    go_wp2_with fail
    refine (w_driven _).mono ?_
    rintro e w20 ⟨rfl, hn20⟩
    go_wp2_with fail
    go_ret
    exact ⟨rfl, HT.out _ (hn59.trans hn20)⟩
end Go.Proofs.YtklgknepamebdaaGreatDoor
