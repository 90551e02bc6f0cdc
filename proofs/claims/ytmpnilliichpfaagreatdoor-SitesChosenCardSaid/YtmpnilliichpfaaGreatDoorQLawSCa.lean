/- jitlaw1.SitesChosen, its first part behind the draws: the sites. -/
import Derived.Test.YtmpnilliichpfaaGreatDoorQLawSCb
import Derived.Test.YtmpnilliichpfaaGreatDoorQG13
namespace Go.Proofs.YtmpnilliichpfaaGreatDoor
open Go.RowKit

set_option maxRecDepth 100000 in
set_option maxHeartbeats 8000000 in
theorem st_SC4 {w w2 w5 : World} {g K ca cb cc cd ce : Nat} {B0 B1 B2 D E : Option Addr} {ns : List Node} {rs : List Arc} {bs : List Ban} {l : List ByteArray} {ws : List Wgt} {ad wi : Int}
    (HG02 : Hid (Gr w.heap.size w w2)) (HRD : Hid (∀ W, Gr w.heap.size w2 W → Rd W (w.heap.size + 1) B0 3 encNode ns ∧ RdArcs W (w.heap.size + 1) B1 rs ∧ Rd W (w.heap.size + 1) B2 2 encBan bs))
    (HBX : Hid (∀ W, Gr w.heap.size w2 W → W.cell? ⟨g, 0, none⟩ = some (.slice B0 ns.length ca) ∧ W.cell? ⟨g, 1, none⟩ = some (.slice B1 rs.length cb) ∧ W.cell? ⟨g, 2, none⟩ = some (.slice B2 bs.length cc)))
    (HG5 : Hid (Gr w.heap.size w2 w5)) (HDD : Hid (Rd w5 (w.heap.size + 1) D 1 encS l)) (HEE : Hid (Rd w5 (w.heap.size + 1) E 2 encW ws)) (HSN : Hid (SmallN ns)) (hS : Str w5 w.heap.size K) (hK : K < 100000) (hws : w.heap.size + 1 ≤ w5.heap.size) (hn5 : ns.length ≤ 5) (hr10 : rs.length ≤ 10) (hb101 : bs.length ≤ 101) (hl3 : l.length ≤ 3) (hw5 : ws.length ≤ 5) {u0 u1 u2 u9 u10 u11 u12 u13 u14 u15 u16 u17 u18 u19 u20 u21 u22 u23 u24 u25 u26 u27 u28 u29 u30 u31 u32 u33 u34 u35 u36 u37 u38 u39 u40 u41 u42 u43 u44 u45 u46 u47 u48 u49 u50 u51 u52 u53 u54 u55 u56 u57 u58 u59 u60 u61 u62 u63 u64 u65 u66 u67 u68 u69 u70 u71 u72 u73 u74 u75 u76 u77 u78 u79 u80 u81 u82 u83 u84 u85 u86 u87 u88 u89 u90 u91 u92 u93 u94 u95 u96 u97 u98 u99 u100 u101 u102 u103 u104 u105 u106 u107 u108 u109 u110 u111 u112 u113 u114 u115 u116 u117 u118 u119 u120 u121 u122 u123 u124 u125 u126 u127 u128 u129 u130 u131 u132 u133 u134 u135 u136 u137 u138 u139 u140 u141 u142 u143 u144 u145 u146 u147 u148 u149 u150 u151 u152 u153 u154 u155 u156 u157 u158 u159 u160 u161 u162 u163 u164 u165 u166 u167 u168 u169 u170 u171 u172 u173 u174 u175 u176 u177 u178 u179 u180 u181 u182 u183 u184 u185 u186 u187 u188 u189 u190 u191 u192 u193 u194 u195 u196 u197 u198 u199 u200 u201 u202 u203 u204 u205 u206 u207 u208 u209 u210 u211 u212 u213 u214 u215 u216 u217 u218 u219 u220 u221 u222 u223 : Value} :
    Code.wp Tryz.prog (codeSC 4) (bodyPost Tryz.prog Tryz.f3 (TrueNx w)) ⟨#[u0, u1, u2, .pointer (some ⟨w.heap.size, 0, none⟩), .pointer (some ⟨g, 0, none⟩), .slice D l.length cd, .slice E ws.length ce, .int .i64 ad, .int .i64 wi, u9, u10, u11, u12, u13, u14, u15, u16, u17, u18, u19, u20, u21, u22, u23, u24, u25, u26, u27, u28, u29, u30, u31, u32, u33, u34, u35, u36, u37, u38, u39, u40, u41, u42, u43, u44, u45, u46, u47, u48, u49, u50, u51, u52, u53, u54, u55, u56, u57, u58, u59, u60, u61, u62, u63, u64, u65, u66, u67, u68, u69, u70, u71, u72, u73, u74, u75, u76, u77, u78, u79, u80, u81, u82, u83, u84, u85, u86, u87, u88, u89, u90, u91, u92, u93, u94, u95, u96, u97, u98, u99, u100, u101, u102, u103, u104, u105, u106, u107, u108, u109, u110, u111, u112, u113, u114, u115, u116, u117, u118, u119, u120, u121, u122, u123, u124, u125, u126, u127, u128, u129, u130, u131, u132, u133, u134, u135, u136, u137, u138, u139, u140, u141, u142, u143, u144, u145, u146, u147, u148, u149, u150, u151, u152, u153, u154, u155, u156, u157, u158, u159, u160, u161, u162, u163, u164, u165, u166, u167, u168, u169, u170, u171, u172, u173, u174, u175, u176, u177, u178, u179, u180, u181, u182, u183, u184, u185, u186, u187, u188, u189, u190, u191, u192, u193, u194, u195, u196, u197, u198, u199, u200, u201, u202, u203, u204, u205, u206, u207, u208, u209, u210, u211, u212, u213, u214, u215, u216, u217, u218, u219, u220, u221, u222, u223], []⟩ w5 := by
  conv => arg 2; whnf
  have HS5 := hide hS
  have hlos : w.heap.size < w.heap.size + 1 := by omega
  have HRN := hide (fun W (hg : Gr w.heap.size w5 W) => (HRD.out W (HG5.out.trans hg)).1)
  have HCUT := hide (fun (W : World) (hg : Gr w.heap.size w5 W) => (⟨hide (fun W' (h : Nx W W') => Nx.of_gr (HG02.out.trans (HG5.out.trans (hg.then_nx h))) (Nat.le_refl _)), hide (fun W' (h : Nx W W') => HRD.out W' (HG5.out.trans (hg.then_nx h))), hide (fun W' (h : Nx W W') => HBX.out W' (HG5.out.trans (hg.then_nx h))), hide (HDD.out.gr hg hlos), hide (HEE.out.gr hg hlos)⟩ : Hid (∀ W', Nx W W' → Nx w W') ∧ Hid (∀ W', Nx W W' → Rd W' (w.heap.size + 1) B0 3 encNode ns ∧ RdArcs W' (w.heap.size + 1) B1 rs ∧ Rd W' (w.heap.size + 1) B2 2 encBan bs) ∧ Hid (∀ W', Nx W W' → W'.cell? ⟨g, 0, none⟩ = some (.slice B0 ns.length ca) ∧ W'.cell? ⟨g, 1, none⟩ = some (.slice B1 rs.length cb) ∧ W'.cell? ⟨g, 2, none⟩ = some (.slice B2 bs.length cc)) ∧ Hid (Rd W (w.heap.size + 1) D 1 encS l) ∧ Hid (Rd W (w.heap.size + 1) E 2 encW ws)))
  have HNB := hide (⟨hn5, hr10, hb101, hl3, hw5⟩ : ns.length ≤ 5 ∧ rs.length ≤ 10 ∧ bs.length ≤ 101 ∧ l.length ≤ 3 ∧ ws.length ≤ 5)
  have hn65 : ns.length ≤ 5 := hn5
  clear hn5 hr10 hb101 hl3 hw5 hS
  obtain ⟨c0, _, _⟩ := HBX.out w5 HG5.out
  go_wp2_with fail
  clear c0
  go_loopw [9, 43] (fun v u wr => ∃ (j : Nat) (sl : List ByteArray), j ≤ ns.length ∧ u = .int .i64 (j : Int) ∧ sl.length ≤ j ∧ (∀ s ∈ sl, s.size ≤ 1000000) ∧ wr.ownsRow w5.heap.size 9 1 v sl.length (sl.flatMap encS) ∧ Gr w.heap.size w5 wr ∧ Str wr w.heap.size (K + j)) (fun _ u _ => ns.length - (intOf u).toNat)
  case atStart => exact ⟨0, [], Nat.zero_le _, rfl, Nat.zero_le _, (fun s h => absurd h (by simp)), World.ownsRow_nil _ _ _ _, Gr.refl _ _, HS5.out⟩
  case round =>
    obtain ⟨j, sl, hj, rfl, hlj, hsz, hown, hgr, hSr⟩ := hrel
    have HO := hide hown
    have HGR := hide hgr
    have HSR := hide hSr
    have HLJ := hide hlj
    have HSZ := hide hsz
    have hszr := hgr.sz
    clear hown hgr hSr hlj hsz
    by_cases hlt : j < ns.length
    · obtain ⟨yb, yo, e0, _, hyb, hyb1, hyc⟩ := (HRN.out wr HGR.out).open_ (Nx.refl wr) (by omega)
      subst e0
      have c0 : wr.cell? ⟨yb, yo + j * 3, none⟩ = some (.string ns[j].key) := hyc j hlt 0 _ rfl
      have c1 : wr.cell? ⟨yb, yo + j * 3 + 1, none⟩ = some (.int .i64 ns[j].x) := hyc j hlt 1 _ rfl
      have c2 : wr.cell? ⟨yb, yo + j * 3 + 2, none⟩ = some (.int .i64 ns[j].y) := hyc j hlt 2 _ rfl
      have HKS := hide (HSN.out _ (List.getElem_mem hlt))
      clear hyc
      generalize ns[j].key = key at *
      generalize ns[j].x = nx at *
      generalize ns[j].y = ny at *
      obtain ⟨wb, hwb⟩ : ∃ wb, wb = wr.alloc (.cells #[.string key, .int .i64 nx, .int .i64 ny] 39) := ⟨_, rfl⟩
      have hnb : Nx wr wb := hwb ▸ (Nx.refl wr).alloc _
      have hsb : wr.heap.size < wb.heap.size := by rw [hwb]; simp
      have k0 : wb.cell? ⟨wr.heap.size, 0, none⟩ = some (.string key) := by rw [hwb]; go_simp
      have HOB := hide (own_nx HO.out hnb)
      have HGB := hide (HGR.out.then_nx hnb)
      have HSB := hide (HSR.out.nx hnb)
      have hne : w.heap.size ≠ wr.heap.size := by omega
      have HK0 := hide (fun W (h : Gr w.heap.size wb W) => World.grownBy.cell (row := some w.heap.size) h k0 (by simp; omega))
      have HWB := hide hwb
      clear hwb hnb k0
      go_upto_region 8 with fail
      rw [← HWB.out]
      clear HWB c0 c1 c2
      generalize wr.heap.size = p7 at *
      go_wp2_with fail
      refine (w_Flip 3 w.heap.size _ wb HSB.out (by omega) (by omega)).mono ?_
      rintro e w3 ⟨fl, rfl, hg3, hS3⟩
      have HO3 := hide (own_gr HOB.out hg3 (by omega))
      have HG3 := hide (HGB.out.trans hg3)
      have HS3 := hide hS3
      have m0 := HK0.out w3 hg3
      clear hg3 hS3
      cases fl
      · go_wp2_with (at_builtin; refine wpApp2 rfl _ _ _ rfl el_SN encS encS_len encS_one (by omega) (by omega) w5.heap.size _ sl rfl (HO3.out.alloc _) _ key _ rfl (hnew rfl) rfl (by have := HLJ.out; omega) (by have := HG3.out.sz; simp; omega) ?_; intro v9 w9 hown9 hg9 _; (have HO9 := hide hown9); (have HG9 := hide hg9); clear hown9 hg9)
        go_roundw
        case rel =>
          refine ⟨j + 1, sl ++ [key], by omega, by go_num, by have := HLJ.out; simp; omega, fun x hx => (List.mem_append.1 hx).elim (HSZ.out x) (fun h => by rw [List.mem_singleton.1 h]; exact HKS.out), HO9.out, (HG3.out.alloc _).grown HG9.out (fun x hx => .inr (own_blk_lt HO3.out x hx)), ?_⟩
          exact ((HS3.out.nx ((Nx.refl w3).alloc (.cells #[.string key] 9))).row HG9.out (fun x hx => Nat.lt_of_lt_of_le (by omega) (own_blk_lt HO3.out x hx))).more (by omega)
        case measure => simp [intOf]; omega
      · go_wp2_with fail
        go_roundw
        case rel => exact ⟨j + 1, sl, by omega, by go_num, by have := HLJ.out; omega, HSZ.out, HO3.out, HG3.out, HS3.out.more (by omega)⟩
        case measure => simp [intOf]; omega
    · obtain rfl : j = ns.length := by omega
      go_wp2_with fail
      refine (w_Flip 15 w.heap.size _ wr HSR.out (by omega) (by omega)).mono ?_
      rintro e w3 ⟨fl, rfl, hg3, hS3⟩
      have HO3 := hide (own_gr HO.out hg3 (by omega))
      have HG3 := hide (HGR.out.trans hg3)
      have HS3 := hide hS3
      clear hg3 hS3
      cases fl
      · have HLX := hide (show sl.length ≤ 6 by have := HLJ.out; omega)
        have HSX := HSZ
        obtain ⟨S, cs, rfl, hRS, _⟩ := Rd.of_own encS_len rfl HO3.out
        have HRS := hide (hRS.low hws)
        have hsq := (HS3.out).lt
        clear hRS
        go_upto_region 13 with fail
        go_cut [12] (fun v wx => ∃ many : Int, v = .int .i64 many ∧ Gr w.heap.size w3 wx)
        case first =>
          have W1 : IntKind.i64.wrap ((sl.length : Int) + 1) = (sl.length : Int) + 1 := IntWalk.i64_in _ (by have := HLX.out; omega)
          go_wp2_with fail
          refine (w_PickI w3.heap.size [0, 1, 2, (sl.length : Int), (sl.length : Int) + 1, -1] _ _ _ _ ((HS3.out).nx ((Nx.refl w3).alloc _)) (by omega) (hnew rfl) (by omega) rfl (by simp) (by simp)).mono ?_
          rintro e wq ⟨z, _, rfl, hg9, _⟩
          go_wp2_with fail
          go_meet
          exact ⟨z, rfl, ((Gr.refl w.heap.size w3).alloc _).trans hg9⟩
        case rest =>
          obtain ⟨many, rfl, hg9⟩ := hcut
          obtain ⟨h1, h2, h3, h4, h5⟩ := HCUT.out wc ((HG3.out).trans hg9)
          obtain ⟨q1, q2, q3, q4, q5⟩ := HNB.out
          refine ‹∀ (a : Act) (w_1 : World), Code.wp _ _ _ a w_1 → _› _ _ ?_
          exact st_SC14 (sites := sl) h1 h2 h3 h4 h5 (hide (HRS.out.gr hg9 hlos)) HSX HSN q1 q2 q3 q4 q5 HLX.out
      · go_wp2_with fail
        refine (w_Some w3.heap.size [⟨#[122, 122]⟩, ⟨#[110, 97]⟩] _ w.heap.size _ _ (HS3.out.nx ((Nx.refl w3).alloc _)) (by omega) (hnew rfl) (by have := HS3.out.lt; omega) rfl (by simp) (by simp)).mono ?_
        rintro e w4 ⟨nk, hnk, rfl, hg4, hS4⟩
        have HO4 := hide (own_gr (HO3.out.alloc _) hg4 (by omega))
        have HG4 := hide ((HG3.out.alloc _).trans hg4)
        have HS4 := hide hS4
        have HNK := hide (show nk.size ≤ 1000000 by simp at hnk; rcases hnk with rfl | rfl <;> decide)
        clear hg4 hS4 hnk
        have hw54 := HG4.out.sz
        go_upto_region 13 with (at_builtin; refine wpApp2 rfl _ _ _ rfl el_SN encS encS_len encS_one (by omega) (by omega) w5.heap.size _ sl rfl (HO4.out.alloc _) _ nk _ rfl (hnew rfl) rfl (by have := HLJ.out; omega) (by simp; omega) ?_; intro v9 w9 hown9 hg9 _; (have HO9 := hide hown9); (have HG9' := hide hg9); clear hown9 hg9)
        have HLX := hide (show (sl ++ [nk]).length ≤ 6 by have := HLJ.out; simp; omega)
        have HSX : Hid (∀ x ∈ sl ++ [nk], x.size ≤ 1000000) := hide (fun x hx => (List.mem_append.1 hx).elim (HSZ.out x) (fun h => by rw [List.mem_singleton.1 h]; exact HNK.out))
        have HG9 := hide ((HG4.out.alloc (.cells #[.string nk] 9)).grown HG9'.out (fun x hx => .inr (own_blk_lt HO4.out x hx)))
        have HS9 := hide ((HS4.out.nx ((Nx.refl w4).alloc (.cells #[.string nk] 9))).row HG9'.out (fun x hx => Nat.lt_of_lt_of_le (by omega) (own_blk_lt HO4.out x hx)))
        generalize sl ++ [nk] = sm at *
        obtain ⟨S, cs, rfl, hRS, _⟩ := Rd.of_own encS_len rfl HO9.out
        have HRS := hide (hRS.low hws)
        have hsq := (HS9.out).lt
        clear hRS
        go_cut [12] (fun v wx => ∃ many : Int, v = .int .i64 many ∧ Gr w.heap.size w9 wx)
        case first =>
          have W1 : IntKind.i64.wrap ((sm.length : Int) + 1) = (sm.length : Int) + 1 := IntWalk.i64_in _ (by have := HLX.out; omega)
          go_wp2_with fail
          refine (w_PickI w9.heap.size [0, 1, 2, (sm.length : Int), (sm.length : Int) + 1, -1] _ _ _ _ ((HS9.out).nx ((Nx.refl w9).alloc _)) (by omega) (hnew rfl) (by omega) rfl (by simp) (by simp)).mono ?_
          rintro e wq ⟨z, _, rfl, hg9, _⟩
          go_wp2_with fail
          go_meet
          exact ⟨z, rfl, ((Gr.refl w.heap.size w9).alloc _).trans hg9⟩
        case rest =>
          obtain ⟨many, rfl, hg9⟩ := hcut
          obtain ⟨h1, h2, h3, h4, h5⟩ := HCUT.out wc ((HG9.out).trans hg9)
          obtain ⟨q1, q2, q3, q4, q5⟩ := HNB.out
          refine ‹∀ (a : Act) (w_1 : World), Code.wp _ _ _ a w_1 → _› _ _ ?_
          exact st_SC14 (sites := sm) h1 h2 h3 h4 h5 (hide (HRS.out.gr hg9 hlos)) HSX HSN q1 q2 q3 q4 q5 HLX.out
end Go.Proofs.YtmpnilliichpfaaGreatDoor
