/- jitlaw1.RidesPriced from its region 7 on. -/
import Derived.Test.YtdnmcpojjndjbaaGreatDoorQLawRPc
import Derived.Deep.DeepCutAuto
import Derived.Deep.RegionHeld
import Derived.RegionTactic
namespace Go.Proofs.YtdnmcpojjndjbaaGreatDoor
open Go.RowKit

set_option maxRecDepth 100000 in
set_option maxHeartbeats 2000000 in
theorem st_RP7 {D B : Option Addr} {bt ot b8 nz c1 np d nj e : Nat} {zs : List Zone} {ps : List Price} {t : Jour} {x : Price} {w wb : World} (hC : RpB w wb D B bt ot b8 zs ps t x) (hnz : zs.length = nz) (hnp : ps.length = np) (hnj : 1 ≤ nj) {u0 u1 u2 u3 u9 u10 u11 u12 u13 u14 u15 u16 u17 u18 u19 u20 u21 u22 u23 u24 u25 u26 u27 u28 u29 u30 u31 u32 u33 u34 u35 u36 u37 u38 u39 u40 u41 u42 u43 u44 u45 u46 u47 u48 u49 u50 u51 u52 u53 u54 u55 u56 u57 u58 u59 u60 u61 u62 u63 u64 u65 u66 u67 u68 u69 u70 u71 u72 u73 u74 u75 u76 u77 u78 u79 u80 u81 u82 u83 u84 u85 u86 u87 u88 u89 u90 u91 u92 u93 u94 u95 u96 u97 u98 u99 u100 u101 u102 u103 u104 u105 u106 u107 u108 u109 u110 u111 u112 u113 u114 u115 u116 u117 u118 u119 u120 u121 u122 u123 u124 u125 u126 u127 u128 u129 u130 u131 u132 u133 u134 u135 u136 u137 u138 u139 u140 u141 u142 u143 u144 u145 u146 u147 u148 u149 u150 u151 u152 u153 u154 u155 u156 u157 u158 u159 u160 u161 u162 u163 u164 u165 u166 u167 u168 u169 u170 u171 u172 u173 u174 u175 u176 u177 u178 u179 u180 u181 u182 u183 u184 u185 u186 : Value} :
    Code.wp Tryz.prog (codeRP 7) (bodyPost Tryz.prog Tryz.f3 (TrueNx w)) ⟨#[u0, u1, u2, u3, .slice D nz c1, .slice B np d, .slice (some ⟨bt, ot, none⟩) nj e, .slice (some ⟨bt, ot, none⟩) 1 e, .pointer (some ⟨b8, 0, none⟩), u9, u10, u11, u12, u13, u14, u15, u16, u17, u18, u19, u20, u21, u22, u23, u24, u25, u26, u27, u28, u29, u30, u31, u32, u33, u34, u35, u36, u37, u38, u39, u40, u41, u42, u43, u44, u45, u46, u47, u48, u49, u50, u51, u52, u53, u54, u55, u56, u57, u58, u59, u60, u61, u62, u63, u64, u65, u66, u67, u68, u69, u70, u71, u72, u73, u74, u75, u76, u77, u78, u79, u80, u81, u82, u83, u84, u85, u86, u87, u88, u89, u90, u91, u92, u93, u94, u95, u96, u97, u98, u99, u100, u101, u102, u103, u104, u105, u106, u107, u108, u109, u110, u111, u112, u113, u114, u115, u116, u117, u118, u119, u120, u121, u122, u123, u124, u125, u126, u127, u128, u129, u130, u131, u132, u133, u134, u135, u136, u137, u138, u139, u140, u141, u142, u143, u144, u145, u146, u147, u148, u149, u150, u151, u152, u153, u154, u155, u156, u157, u158, u159, u160, u161, u162, u163, u164, u165, u166, u167, u168, u169, u170, u171, u172, u173, u174, u175, u176, u177, u178, u179, u180, u181, u182, u183, u184, u185, u186], []⟩ wb := by
  conv => arg 2; whnf
  dsimp only
  have hz := hC.zl
  obtain ⟨V, hV⟩ : ∃ V, V = fullI zs x t := ⟨_, rfl⟩
  obtain ⟨F, hF⟩ : ∃ F, F = faultT zs [x] [t] := ⟨_, rfl⟩
  obtain ⟨N, hN⟩ : ∃ N, N = if F = 0 then V else 0 := ⟨_, rfl⟩
  obtain ⟨F4, hF4⟩ : ∃ F4, F4 = faultT zs ps [t] := ⟨_, rfl⟩
  obtain ⟨Z1, hZ1⟩ : ∃ Z1, Z1 = zonesF zs := ⟨_, rfl⟩
  obtain ⟨P1, hP1⟩ : ∃ P1, P1 = pricesF [x] := ⟨_, rfl⟩
  obtain ⟨P2, hP2⟩ : ∃ P2, P2 = pricesF ps := ⟨_, rfl⟩
  obtain ⟨J1, hJ1⟩ : ∃ J1, J1 = joursF [t] := ⟨_, rfl⟩
  have HO1 := hide (show orI [Z1, P1, J1] = F by rw [hZ1, hP1, hJ1, hF]; rfl)
  have HO2 := hide (show orI [Z1, P2, J1] = F4 by rw [hZ1, hP2, hJ1, hF4]; rfl)
  obtain ⟨G, hG⟩ : ∃ G : Option Price, G = cheapP (fun p => fullI zs p t) none ps := ⟨_, rfl⟩
  obtain ⟨K, hK⟩ : ∃ K, K = if F4 = 0 then bestK G else ByteArray.empty := ⟨_, rfl⟩
  obtain ⟨N4, hN4⟩ : ∃ N4, N4 = if F4 = 0 then bestN (fun p => fullI zs p t) G else 0 := ⟨_, rfl⟩
  obtain ⟨I, hI⟩ : ∃ I, I = if F4 = 0 then G.isSome else false := ⟨_, rfl⟩
  have HFU : Hid (∀ W, Nx wb W → Calls Tryz.prog 12 #[.slice D nz c1, aggP x, aggJ t] W fun e w' => e = .returned (.tuple #[.int .i64 N, .int .i64 F]) ∧ Nx W w') := hide (fun W hn => by
    have h := w_FullU D c1 zs x t W (hC.z.nx hn) hC.zl (hC.tr.nx hn) hC.ts hC.tn hC.xk hC.tk1 hC.tk2
    rw [← hF, ← hV, ← hN, hnz] at h; exact h)
  have HFO : Hid (F = 0 → ∀ W, Nx wb W → Calls Tryz.prog 15 #[.slice D nz c1, aggP x, aggJ t] W fun e w' => e = .returned (.int .i64 V) ∧ Nx W w') := hide (fun h0 W hn => by
    obtain ⟨z1, z2, z3⟩ := orI_zero3 (hF.symm.trans h0)
    have h := w_FullOf 0 0 D c1 zs x t W (hC.z.nx hn) hC.zl (hC.tr.nx hn) (pricesF_ok z2 x (by simp)) (joursF_ok z3 t (by simp))
    rw [← hV, hnz] at h; exact h)
  have HZF : Hid (∀ W, Nx wb W → Calls Tryz.prog 14 #[.slice D nz c1] W fun e w' => e = .returned (.int .i64 Z1) ∧ Nx W w') := hide (fun W hn => by
    have h := w_ZonesFault 0 D c1 zs W (hC.z.nx hn) hC.zl
    rw [← hZ1, hnz] at h; exact h)
  have HPX : Hid (∀ (g : Nat) (W : World), Rd W 0 (some ⟨g, 0, none⟩) 10 encP [x] → Calls Tryz.prog 9 #[.slice (some ⟨g, 0, none⟩) 1 1] W fun e w' => e = .returned (.int .i64 P1) ∧ Nx W w') := hide (fun g W hr => by
    have h := w_PricesFault 0 (some ⟨g, 0, none⟩) 1 [x] W ⟨hr, fun y hy => by rw [List.mem_singleton.1 hy]; exact hC.xk⟩ (by simp)
    rw [← hP1] at h; exact h)
  have HPF : Hid (∀ W, Nx wb W → Calls Tryz.prog 9 #[.slice B np d] W fun e w' => e = .returned (.int .i64 P2) ∧ Nx W w') := hide (fun W hn => by
    have h := w_PricesFault 0 B d ps W (hC.p.nx hn) hC.pl
    rw [← hP2, hnp] at h; exact h)
  have HJO : Hid (∀ W, Nx wb W → Calls Tryz.prog 11 #[.slice (some ⟨bt, ot, none⟩) 1 e] W fun e w' => e = .returned (.int .i64 J1) ∧ Nx W w') := hide (fun W hn => by
    have h := w_JourneysFault 0 (some ⟨bt, ot, none⟩) e [t] W ⟨hC.one.nx hn, fun y hy => by rw [List.mem_singleton.1 hy]; exact ⟨hC.tr.nx hn, hC.ts, hC.tn, hC.tk1, hC.tk2⟩⟩ (by simp)
    rw [← hJ1] at h; exact h)
  have HCH : Hid (∀ W, Nx wb W → Calls Tryz.prog 16 #[.slice D nz c1, .slice B np d, aggJ t] W fun e w' => e = .returned (.tuple #[.string K, .int .i64 N4, .bool I, .int .i64 F4]) ∧ Nx W w') := hide (fun W hn => by
    have h := w_CheapU D B c1 d zs ps t W (hC.z.nx hn) hC.zl (hC.p.nx hn) hC.pl (hC.tr.nx hn) hC.ts hC.tn hC.tk1 hC.tk2 G hG
    rw [← hF4, ← hK, ← hN4, ← hI, hnz, hnp] at h; exact h)
  have hxb := hC.xb
  have htc := hC.tc
  have htb := hC.tb
  have HC := hide hC
  have HNN := hide hN
  have HNZ := hide hnz
  have HNP := hide hnp
  have HGE := hide hG
  have HKK := hide hK
  have HN4 := hide hN4
  have HII := hide hI
  have HF4 := hide hF4
  clear hC hV hF hN hF4 hZ1 hP1 hP2 hJ1 hG hK hN4 hI hz hnz hnp
  obtain ⟨x0, x1, x2, x3, x4, x5, x6, x7, x8, x9⟩ := x
  obtain ⟨k1, k2, xa, cp, nds, me, fr, to_⟩ := t
  dsimp only [aggP, aggJ] at *
  obtain ⟨nn, hnn⟩ : ∃ nn, nn = nds.length := ⟨_, rfl⟩
  rw [← hnn] at HFU HFO HCH
  have hb8 := (Array.getElem?_eq_some_iff.1 hxb).1
  have HGF : Hid (∀ W, Nx wb W → (fun w' : World => w'.cell? ⟨b8, 0, none⟩ = some (.string x0) ∧ w'.cell? ⟨b8, 1, none⟩ = some (.int .i64 x1) ∧ w'.cell? ⟨b8, 2, none⟩ = some (.int .i64 x2) ∧ w'.cell? ⟨b8, 3, none⟩ = some (.int .i64 x3) ∧ w'.cell? ⟨b8, 4, none⟩ = some (.int .i64 x4) ∧ w'.cell? ⟨b8, 5, none⟩ = some (.int .i64 x5) ∧ w'.cell? ⟨b8, 6, none⟩ = some (.int .i64 x6) ∧ w'.cell? ⟨b8, 7, none⟩ = some (.int .i64 x7) ∧ w'.cell? ⟨b8, 8, none⟩ = some (.int .i64 x8) ∧ w'.cell? ⟨b8, 9, none⟩ = some (.int .i64 x9) ∧ w'.cell? ⟨bt, ot, none⟩ = some (.string k1) ∧ w'.cell? ⟨bt, ot + 1, none⟩ = some (.string k2) ∧ w'.cell? ⟨bt, ot + 2, none⟩ = some (.slice xa nn cp) ∧ w'.cell? ⟨bt, ot + 3, none⟩ = some (.int .i64 me) ∧ w'.cell? ⟨bt, ot + 4, none⟩ = some (.int .i64 fr) ∧ w'.cell? ⟨bt, ot + 5, none⟩ = some (.int .i64 to_)) W) := hide (fun W hn => by
    refine ⟨nx_cell hn hb8 (cell_of_row wb b8 0 _ _ _ hxb), nx_cell hn hb8 (cell_of_row wb b8 1 _ _ _ hxb), nx_cell hn hb8 (cell_of_row wb b8 2 _ _ _ hxb), nx_cell hn hb8 (cell_of_row wb b8 3 _ _ _ hxb), nx_cell hn hb8 (cell_of_row wb b8 4 _ _ _ hxb), nx_cell hn hb8 (cell_of_row wb b8 5 _ _ _ hxb), nx_cell hn hb8 (cell_of_row wb b8 6 _ _ _ hxb), nx_cell hn hb8 (cell_of_row wb b8 7 _ _ _ hxb), nx_cell hn hb8 (cell_of_row wb b8 8 _ _ _ hxb), nx_cell hn hb8 (cell_of_row wb b8 9 _ _ _ hxb), nx_cell hn htb (htc 0 _ rfl), nx_cell hn htb (htc 1 _ rfl), nx_cell hn htb (by rw [hnn]; exact htc 2 _ rfl), nx_cell hn htb (htc 3 _ rfl), nx_cell hn htb (htc 4 _ rfl), nx_cell hn htb (htc 5 _ rfl)⟩)
  have HNL := hide hnn
  clear hxb htc hnn
  have hNX := hide HC.out.nx
  have hnj0 : (0 : Int) < (nj : Int) := by omega
  have hnj2 : 0 < nj := by omega
  go_upto_region 7 with fail
  go_cut [9, 10] (fun v v2 wx => v = .int .i64 N ∧ v2 = .int .i64 F ∧ Nx wb wx)
  case first =>
    have HX := hide (Nx.refl wb)
    go_region_held3 (fun w' : World => w'.cell? ⟨b8, 0, none⟩ = some (.string x0) ∧ w'.cell? ⟨b8, 1, none⟩ = some (.int .i64 x1) ∧ w'.cell? ⟨b8, 2, none⟩ = some (.int .i64 x2) ∧ w'.cell? ⟨b8, 3, none⟩ = some (.int .i64 x3) ∧ w'.cell? ⟨b8, 4, none⟩ = some (.int .i64 x4) ∧ w'.cell? ⟨b8, 5, none⟩ = some (.int .i64 x5) ∧ w'.cell? ⟨b8, 6, none⟩ = some (.int .i64 x6) ∧ w'.cell? ⟨b8, 7, none⟩ = some (.int .i64 x7) ∧ w'.cell? ⟨b8, 8, none⟩ = some (.int .i64 x8) ∧ w'.cell? ⟨b8, 9, none⟩ = some (.int .i64 x9) ∧ w'.cell? ⟨bt, ot, none⟩ = some (.string k1) ∧ w'.cell? ⟨bt, ot + 1, none⟩ = some (.string k2) ∧ w'.cell? ⟨bt, ot + 2, none⟩ = some (.slice xa nn cp) ∧ w'.cell? ⟨bt, ot + 3, none⟩ = some (.int .i64 me) ∧ w'.cell? ⟨bt, ot + 4, none⟩ = some (.int .i64 fr) ∧ w'.cell? ⟨bt, ot + 5, none⟩ = some (.int .i64 to_))
      (first | (refine HGF.out _ ?_; (repeat (first | exact HX.out | refine Nx.trans ?_ hn3 | refine Nx.trans ?_ hn2 | refine Nx.trans ?_ hn1 | refine Nx.drew ?_ | refine Nx.drewN ?_ _ | refine Nx.alloc ?_ _ | exact Nx.refl _)); done))
      (first | (go_at_call 12; refine (HFU.out _ ?_).mono ?_; (· (repeat (first | exact HX.out | refine Nx.trans ?_ hn3 | refine Nx.trans ?_ hn2 | refine Nx.trans ?_ hn1 | refine Nx.drew ?_ | refine Nx.drewN ?_ _ | refine Nx.alloc ?_ _ | exact Nx.refl _))); rintro e w1 ⟨rfl, hn1⟩))
    all_goals
      (go_wp2
       go_meet
       exact ⟨rfl, rfl, by repeat (first | exact HX.out | refine Nx.trans ?_ hn3 | refine Nx.trans ?_ hn2 | refine Nx.trans ?_ hn1 | refine Nx.drew ?_ | refine Nx.drewN ?_ _ | refine Nx.alloc ?_ _ | exact Nx.refl _)⟩)
  case rest =>
  obtain ⟨rfl, rfl, hx⟩ := hcut
  obtain ⟨wd, hwd⟩ : ∃ wd, wd = wc := ⟨_, rfl⟩
  rw [← hwd] at hx ⊢
  have HX := hide hx
  clear hwd hx HFU
  go_upto_region 8 with fail
  go_cut [11] (fun v wx => v = .int .i64 F ∧ Nx wb wx)
  case first =>
    have HS := hide (HGF.out wd HX.out)
    go_region_held3 (fun w' : World => w'.cell? ⟨b8, 0, none⟩ = some (.string x0) ∧ w'.cell? ⟨b8, 1, none⟩ = some (.int .i64 x1) ∧ w'.cell? ⟨b8, 2, none⟩ = some (.int .i64 x2) ∧ w'.cell? ⟨b8, 3, none⟩ = some (.int .i64 x3) ∧ w'.cell? ⟨b8, 4, none⟩ = some (.int .i64 x4) ∧ w'.cell? ⟨b8, 5, none⟩ = some (.int .i64 x5) ∧ w'.cell? ⟨b8, 6, none⟩ = some (.int .i64 x6) ∧ w'.cell? ⟨b8, 7, none⟩ = some (.int .i64 x7) ∧ w'.cell? ⟨b8, 8, none⟩ = some (.int .i64 x8) ∧ w'.cell? ⟨b8, 9, none⟩ = some (.int .i64 x9) ∧ w'.cell? ⟨bt, ot, none⟩ = some (.string k1) ∧ w'.cell? ⟨bt, ot + 1, none⟩ = some (.string k2) ∧ w'.cell? ⟨bt, ot + 2, none⟩ = some (.slice xa nn cp) ∧ w'.cell? ⟨bt, ot + 3, none⟩ = some (.int .i64 me) ∧ w'.cell? ⟨bt, ot + 4, none⟩ = some (.int .i64 fr) ∧ w'.cell? ⟨bt, ot + 5, none⟩ = some (.int .i64 to_))
      (first | (refine HGF.out _ ?_; (repeat (first | exact HX.out | refine Nx.trans ?_ hn3 | refine Nx.trans ?_ hn2 | refine Nx.trans ?_ hn1 | refine Nx.drew ?_ | refine Nx.drewN ?_ _ | refine Nx.alloc ?_ _ | exact Nx.refl _)); done))
      (first
        | (go_at_call 14; refine (HZF.out _ ?_).mono ?_; (· (repeat (first | exact HX.out | refine Nx.trans ?_ hn3 | refine Nx.trans ?_ hn2 | refine Nx.trans ?_ hn1 | refine Nx.drew ?_ | refine Nx.drewN ?_ _ | refine Nx.alloc ?_ _ | exact Nx.refl _))); rintro e w1 ⟨rfl, hn1⟩)
        | (go_at_call 9; refine (HPX.out _ _ ?_).mono ?_; (· (repeat (first | (refine Rd.lit (hnew ?_) (Nat.zero_le _) (fun _ => rfl) ?_ <;> first | rfl | (simp; done)) | refine Rd.nx ?_ hn1 | refine Rd.nx ?_ (Nx.alloc (Nx.refl _) _) | refine Rd.nx ?_ (Nx.drew (Nx.refl _))))); rintro e w2 ⟨rfl, hn2⟩)
        | (go_at_call 11; refine (HJO.out _ ?_).mono ?_; (· (repeat (first | exact HX.out | refine Nx.trans ?_ hn3 | refine Nx.trans ?_ hn2 | refine Nx.trans ?_ hn1 | refine Nx.drew ?_ | refine Nx.drewN ?_ _ | refine Nx.alloc ?_ _ | exact Nx.refl _))); rintro e w3 ⟨rfl, hn3⟩)
        | (go_at_call 13; refine (w_Or3R Z1 P1 J1 _ _ (hnew rfl)).mono ?_; rw [HO1.out]; rintro e w4 ⟨rfl, rfl⟩))
    all_goals
      (go_wp2
       go_meet
       exact ⟨rfl, by repeat (first | exact HX.out | refine Nx.trans ?_ hn3 | refine Nx.trans ?_ hn2 | refine Nx.trans ?_ hn1 | refine Nx.drew ?_ | refine Nx.drewN ?_ _ | refine Nx.alloc ?_ _ | exact Nx.refl _)⟩)
  case rest =>
  obtain ⟨rfl, hx⟩ := hcut
  clear HX
  obtain ⟨wd2, hwd⟩ : ∃ wd2, wd2 = wc := ⟨_, rfl⟩
  rw [← hwd] at hx ⊢
  have HX := hide hx
  clear hwd hx HPX HO1
  go_upto_region 9 with fail
  go_cut [94] (fun v wx => v = .bool false ∧ Nx wb wx)
  case first =>
    have tF : (F != F) = false := by simp
    by_cases h0 : F = 0
    · have hv : N = V := by rw [HNN.out, if_pos h0]
      subst hv
      have t3 : (N != N) = false := by simp
      have HFO0 := hide (HFO.out h0)
      clear HFO HNN HF4 HKK HN4 HII HGE tF
      subst h0
      have hx : Nx wb wd2.drew := HX.out.drew
      refine wp_region_held_drew (S := (fun w' : World => w'.cell? ⟨b8, 0, none⟩ = some (.string x0) ∧ w'.cell? ⟨b8, 1, none⟩ = some (.int .i64 x1) ∧ w'.cell? ⟨b8, 2, none⟩ = some (.int .i64 x2) ∧ w'.cell? ⟨b8, 3, none⟩ = some (.int .i64 x3) ∧ w'.cell? ⟨b8, 4, none⟩ = some (.int .i64 x4) ∧ w'.cell? ⟨b8, 5, none⟩ = some (.int .i64 x5) ∧ w'.cell? ⟨b8, 6, none⟩ = some (.int .i64 x6) ∧ w'.cell? ⟨b8, 7, none⟩ = some (.int .i64 x7) ∧ w'.cell? ⟨b8, 8, none⟩ = some (.int .i64 x8) ∧ w'.cell? ⟨b8, 9, none⟩ = some (.int .i64 x9) ∧ w'.cell? ⟨bt, ot, none⟩ = some (.string k1) ∧ w'.cell? ⟨bt, ot + 1, none⟩ = some (.string k2) ∧ w'.cell? ⟨bt, ot + 2, none⟩ = some (.slice xa nn cp) ∧ w'.cell? ⟨bt, ot + 3, none⟩ = some (.int .i64 me) ∧ w'.cell? ⟨bt, ot + 4, none⟩ = some (.int .i64 fr) ∧ w'.cell? ⟨bt, ot + 5, none⟩ = some (.int .i64 to_))) (by kernel_rfl) (HGF.out _ hx) (fun hHeld => ?_)
      generalize wd2.drew = wd at *
      refine wpAnyH_take (i := 0) (oi := ⟨some 70, _, _, _, _, _⟩) (v := ?_) rfl (by kernel_rfl) (by kernel_rfl) (by kernel_rfl) (fun _ _ _ h => h) (Or.inl ⟨by rfl, ?_⟩) (by assumption) ?_
      rotate_left 1
      · intro w hSw
        (try dsimp only at hSw)
        go_simp
        try with_reducible rfl
      try simp only [Act.put, List.setIfInBounds_toArray, List.set_cons_zero, List.set_cons_succ]
      refine wpAnyH_take (i := 1) (oi := ⟨some 71, _, _, _, _, _⟩) (v := ?_) rfl (by kernel_rfl) (by kernel_rfl) (by kernel_rfl) (fun _ _ _ h => h) (Or.inl ⟨by rfl, ?_⟩) (by assumption) ?_
      rotate_left 1
      · intro w hSw
        (try dsimp only at hSw)
        go_simp
        try with_reducible rfl
      try simp only [Act.put, List.setIfInBounds_toArray, List.set_cons_zero, List.set_cons_succ]
      refine wpAnyH_take (i := 2) (oi := ⟨some 72, _, _, _, _, _⟩) (v := ?_) rfl (by kernel_rfl) (by kernel_rfl) (by kernel_rfl) (fun _ _ _ h => h) (Or.inl ⟨by rfl, ?_⟩) (by assumption) ?_
      rotate_left 1
      · intro w hSw
        (try dsimp only at hSw)
        go_simp
        try with_reducible rfl
      try simp only [Act.put, List.setIfInBounds_toArray, List.set_cons_zero, List.set_cons_succ]
      refine wpAnyH_take (i := 3) (oi := ⟨some 73, _, _, _, _, _⟩) (v := ?_) rfl (by kernel_rfl) (by kernel_rfl) (by kernel_rfl) (fun _ _ _ h => h) (Or.inl ⟨by rfl, ?_⟩) (by assumption) ?_
      rotate_left 1
      · intro w hSw
        (try dsimp only at hSw)
        go_simp
        try with_reducible rfl
      try simp only [Act.put, List.setIfInBounds_toArray, List.set_cons_zero, List.set_cons_succ]
      refine wpAnyH_take (i := 4) (oi := ⟨some 74, _, _, _, _, _⟩) (v := ?_) rfl (by kernel_rfl) (by kernel_rfl) (by kernel_rfl) (fun _ _ _ h => h) (Or.inl ⟨by rfl, ?_⟩) (by assumption) ?_
      rotate_left 1
      · intro w hSw
        (try dsimp only at hSw)
        go_simp
        try with_reducible rfl
      try simp only [Act.put, List.setIfInBounds_toArray, List.set_cons_zero, List.set_cons_succ]
      refine wpAnyH_take (i := 5) (oi := ⟨some 75, _, _, _, _, _⟩) (v := ?_) rfl (by kernel_rfl) (by kernel_rfl) (by kernel_rfl) (fun _ _ _ h => h) (Or.inl ⟨by rfl, ?_⟩) (by assumption) ?_
      rotate_left 1
      · intro w hSw
        (try dsimp only at hSw)
        go_simp
        try with_reducible rfl
      try simp only [Act.put, List.setIfInBounds_toArray, List.set_cons_zero, List.set_cons_succ]
      refine wpAnyH_take (i := 6) (oi := ⟨some 76, _, _, _, _, _⟩) (v := ?_) rfl (by kernel_rfl) (by kernel_rfl) (by kernel_rfl) (fun _ _ _ h => h) (Or.inl ⟨by rfl, ?_⟩) (by assumption) ?_
      rotate_left 1
      · intro w hSw
        (try dsimp only at hSw)
        go_simp
        try with_reducible rfl
      try simp only [Act.put, List.setIfInBounds_toArray, List.set_cons_zero, List.set_cons_succ]
      refine wpAnyH_take (i := 7) (oi := ⟨some 77, _, _, _, _, _⟩) (v := ?_) rfl (by kernel_rfl) (by kernel_rfl) (by kernel_rfl) (fun _ _ _ h => h) (Or.inl ⟨by rfl, ?_⟩) (by assumption) ?_
      rotate_left 1
      · intro w hSw
        (try dsimp only at hSw)
        go_simp
        try with_reducible rfl
      try simp only [Act.put, List.setIfInBounds_toArray, List.set_cons_zero, List.set_cons_succ]
      refine wpAnyH_take (i := 8) (oi := ⟨some 78, _, _, _, _, _⟩) (v := ?_) rfl (by kernel_rfl) (by kernel_rfl) (by kernel_rfl) (fun _ _ _ h => h) (Or.inl ⟨by rfl, ?_⟩) (by assumption) ?_
      rotate_left 1
      · intro w hSw
        (try dsimp only at hSw)
        go_simp
        try with_reducible rfl
      try simp only [Act.put, List.setIfInBounds_toArray, List.set_cons_zero, List.set_cons_succ]
      refine wpAnyH_take (i := 9) (oi := ⟨some 79, _, _, _, _, _⟩) (v := ?_) rfl (by kernel_rfl) (by kernel_rfl) (by kernel_rfl) (fun _ _ _ h => h) (Or.inl ⟨by rfl, ?_⟩) (by assumption) ?_
      rotate_left 1
      · intro w hSw
        (try dsimp only at hSw)
        go_simp
        try with_reducible rfl
      try simp only [Act.put, List.setIfInBounds_toArray, List.set_cons_zero, List.set_cons_succ]
      refine wpAnyH_take (i := 10) (oi := ⟨some 80, _, _, _, _, _⟩) (v := ?_) rfl (by kernel_rfl) (by kernel_rfl) (by kernel_rfl) (fun _ _ _ h => h) (Or.inl ⟨by rfl, ?_⟩) (by assumption) ?_
      rotate_left 1
      · intro w hSw
        (try dsimp only at hSw)
        go_simp
        try with_reducible rfl
      try simp only [Act.put, List.setIfInBounds_toArray, List.set_cons_zero, List.set_cons_succ]
      refine wpAnyH_take (i := 11) (oi := ⟨some 81, _, _, _, _, _⟩) (v := ?_) rfl (by kernel_rfl) (by kernel_rfl) (by kernel_rfl) (fun _ _ _ h => h) (Or.inl ⟨by rfl, ?_⟩) (by assumption) ?_
      rotate_left 1
      · intro w hSw
        (try dsimp only at hSw)
        go_simp
        try with_reducible rfl
      try simp only [Act.put, List.setIfInBounds_toArray, List.set_cons_zero, List.set_cons_succ]
      refine wpAnyH_take (i := 12) (oi := ⟨some 82, _, _, _, _, _⟩) (v := ?_) rfl (by kernel_rfl) (by kernel_rfl) (by kernel_rfl) (fun _ _ _ h => h) (Or.inl ⟨by rfl, ?_⟩) (by assumption) ?_
      rotate_left 1
      · intro w hSw
        (try dsimp only at hSw)
        go_simp
        try with_reducible rfl
      try simp only [Act.put, List.setIfInBounds_toArray, List.set_cons_zero, List.set_cons_succ]
      refine wpAnyH_ready (rs := [13]) (by kernel_rfl) (by simp) ?_
      refine AllReadyH.cons rfl (fun K hK => ?_) AllReadyH.nil
      go_simp
      go_at_call 15
      refine (HFO0.out _ hx).mono ?_
      rintro e w1 ⟨rfl, hn1⟩
      replace hx := hx.trans hn1
      go_simp
      refine hK.out _ _ (HGF.out _ hx) (fun hHeld => ?_)
      clear hK K
      try simp only [Act.put, List.setIfInBounds_toArray, List.set_cons_zero, List.set_cons_succ]
      refine wpAnyH_take (i := 14) (oi := ⟨some 84, _, _, _, _, _⟩) (v := ?_) rfl (by kernel_rfl) (by kernel_rfl) (by kernel_rfl) (fun _ _ _ h => h) (Or.inl ⟨by rfl, ?_⟩) (by assumption) ?_
      rotate_left 1
      · intro w hSw
        (try dsimp only at hSw)
        go_simp
        try with_reducible rfl
      try simp only [Act.put, List.setIfInBounds_toArray, List.set_cons_zero, List.set_cons_succ]
      refine wpAnyH_take (i := 15) (oi := ⟨some 85, _, _, _, _, _⟩) (v := ?_) rfl (by kernel_rfl) (by kernel_rfl) (by kernel_rfl) (fun _ _ _ h => h) (Or.inl ⟨by rfl, ?_⟩) (by assumption) ?_
      rotate_left 1
      · intro w hSw
        (try dsimp only at hSw)
        go_simp
        try with_reducible rfl
      try simp only [Act.put, List.setIfInBounds_toArray, List.set_cons_zero, List.set_cons_succ]
      refine wpAnyH_take (i := 16) (oi := ⟨some 86, _, _, _, _, _⟩) (v := ?_) rfl (by kernel_rfl) (by kernel_rfl) (by kernel_rfl) (fun _ _ _ h => h) (Or.inl ⟨by rfl, ?_⟩) (by assumption) ?_
      rotate_left 1
      · intro w hSw
        (try dsimp only at hSw)
        go_simp
        try with_reducible rfl
      try simp only [Act.put, List.setIfInBounds_toArray, List.set_cons_zero, List.set_cons_succ]
      refine wpAnyH_take (i := 17) (oi := ⟨some 87, _, _, _, _, _⟩) (v := ?_) rfl (by kernel_rfl) (by kernel_rfl) (by kernel_rfl) (fun _ _ _ h => h) (Or.inl ⟨by rfl, ?_⟩) (by assumption) ?_
      rotate_left 1
      · intro w hSw
        (try dsimp only at hSw)
        go_simp
        try with_reducible rfl
      try simp only [Act.put, List.setIfInBounds_toArray, List.set_cons_zero, List.set_cons_succ]
      refine wpAnyH_take (i := 18) (oi := ⟨some 88, _, _, _, _, _⟩) (v := ?_) rfl (by kernel_rfl) (by kernel_rfl) (by kernel_rfl) (fun _ _ _ h => h) (Or.inl ⟨by rfl, ?_⟩) (by assumption) ?_
      rotate_left 1
      · intro w hSw
        (try dsimp only at hSw)
        go_simp
        try with_reducible rfl
      try simp only [Act.put, List.setIfInBounds_toArray, List.set_cons_zero, List.set_cons_succ]
      refine wpAnyH_take (i := 19) (oi := ⟨some 89, _, _, _, _, _⟩) (v := ?_) rfl (by kernel_rfl) (by kernel_rfl) (by kernel_rfl) (fun _ _ _ h => h) (Or.inl ⟨by rfl, ?_⟩) (by assumption) ?_
      rotate_left 1
      · intro w hSw
        (try dsimp only at hSw)
        go_simp
        try with_reducible rfl
      try simp only [Act.put, List.setIfInBounds_toArray, List.set_cons_zero, List.set_cons_succ]
      refine wpAnyH_take (i := 20) (oi := ⟨some 90, _, _, _, _, _⟩) (v := ?_) rfl (by kernel_rfl) (by kernel_rfl) (by kernel_rfl) (fun _ _ _ h => h) (Or.inl ⟨by rfl, ?_⟩) (by assumption) ?_
      rotate_left 1
      · intro w hSw
        (try dsimp only at hSw)
        go_simp
        try with_reducible rfl
      try simp only [Act.put, List.setIfInBounds_toArray, List.set_cons_zero, List.set_cons_succ]
      refine wpAnyH_take (i := 21) (oi := ⟨some 91, _, _, _, _, _⟩) (v := undef) rfl (by kernel_rfl) (by kernel_rfl) (by kernel_rfl) (fun _ _ _ h => h) (Or.inr ⟨by rfl, rfl⟩) (by assumption) ?_
      try simp only [Act.put, List.setIfInBounds_toArray, List.set_cons_zero, List.set_cons_succ]
      refine wpAnyH_take (i := 22) (oi := ⟨some 92, _, _, _, _, _⟩) (v := undef) rfl (by kernel_rfl) (by kernel_rfl) (by kernel_rfl) (fun _ _ _ h => h) (Or.inr ⟨by rfl, rfl⟩) (by assumption) ?_
      try simp only [Act.put, List.setIfInBounds_toArray, List.set_cons_zero, List.set_cons_succ]
      refine wpAnyH_take (i := 23) (oi := ⟨some 93, _, _, _, _, _⟩) (v := ?_) rfl (by kernel_rfl) (by kernel_rfl) (by kernel_rfl) (fun _ _ _ h => h) (Or.inl ⟨by rfl, ?_⟩) (by assumption) ?_
      rotate_left 1
      · intro w hSw
        (try dsimp only at hSw)
        go_simp
        try with_reducible rfl
      try simp only [Act.put, List.setIfInBounds_toArray, List.set_cons_zero, List.set_cons_succ]
      refine wpAnyH_take (i := 24) (oi := ⟨some 94, _, _, _, _, _⟩) (v := ?_) rfl (by kernel_rfl) (by kernel_rfl) (by kernel_rfl) (fun _ _ _ h => h) (Or.inl ⟨by rfl, ?_⟩) (by assumption) ?_
      rotate_left 1
      · intro w hSw
        (try dsimp only at hSw)
        go_simp
        try with_reducible rfl
      try simp only [Act.put, List.setIfInBounds_toArray, List.set_cons_zero, List.set_cons_succ]
      refine wpAnyH_done (by kernel_rfl) ?_ _
      go_wp2
      go_meet
      exact ⟨rfl, hx⟩
    · have hv : N = 0 := by rw [HNN.out, if_neg h0]
      subst hv
      have t1 : (F == 0) = false := by simpa using h0
      have t2 : (F != 0) = true := by simpa using h0
      have t3 : ((0 : Int) != 0) = false := rfl
      clear h0 HFO HNN
      go_quiet (fail)
      go_wp2
      go_meet
      exact ⟨rfl, by repeat (first | exact HX.out | refine Nx.trans ?_ hn3 | refine Nx.trans ?_ hn2 | refine Nx.trans ?_ hn1 | refine Nx.drew ?_ | refine Nx.drewN ?_ _ | refine Nx.alloc ?_ _ | exact Nx.refl _)⟩
  case rest =>
  obtain ⟨rfl, hx⟩ := hcut
  clear HX
  obtain ⟨wd3, hwd⟩ : ∃ wd3, wd3 = wc := ⟨_, rfl⟩
  rw [← hwd] at hx ⊢
  have HX := hide hx
  clear hwd hx HFO HNN
  obtain ⟨s0, s1, s2, s3, s4, s5, s6, s7, s8, s9, s10, s11, s12, s13, s14, s15⟩ := HGF.out wd3 HX.out
  have htb3 := Nat.lt_of_lt_of_le htb HX.out.sz
  go_upto_region 11 with fail
  go_cut [12, 9, 13, 10] (fun v v2 v3 v4 wx => v = .string K ∧ v2 = .int .i64 N4 ∧ v3 = .bool I ∧ v4 = .int .i64 F4 ∧ Nx wb wx)
  case first =>
    go_wp2_with (go_at_call 16; refine (HCH.out _ HX.out).mono ?_; rintro e w1 ⟨rfl, hn1⟩)
    go_meet
    exact ⟨rfl, rfl, rfl, rfl, HX.out.trans hn1⟩
  case rest =>
  obtain ⟨rfl, rfl, rfl, rfl, hx⟩ := hcut
  clear HX s0 s1 s2 s3 s4 s5 s6 s7 s8 s9 s10 s11 s12 s13 s14 s15 htb3
  obtain ⟨wd4, hwd⟩ : ∃ wd4, wd4 = wc := ⟨_, rfl⟩
  rw [← hwd] at hx ⊢
  have HX := hide hx
  clear hwd hx HCH
  refine ‹∀ (a : Act) (w_1 : World), Code.wp _ _ _ a w_1 → _› _ _ ?_
  refine wp_seq_k ?_
  intro Kt hKt0
  have hKt := hide hKt0
  clear hKt0
  go_upto_region 12 with fail
  go_cut [11] (fun v wx => v = .int .i64 F4 ∧ Nx wb wx)
  case first =>
    go_wp2_with (first
      | (go_at_call 14; refine (HZF.out _ HX.out).mono ?_; rintro e w1 ⟨rfl, hn1⟩)
      | (go_at_call 9; refine (HPF.out _ (HX.out.trans hn1)).mono ?_; rintro e w2 ⟨rfl, hn2⟩)
      | (go_at_call 11; refine (HJO.out _ ((HX.out.trans hn1).trans hn2)).mono ?_; rintro e w3 ⟨rfl, hn3⟩)
      | (go_at_call 13; refine (w_Or3R Z1 P2 J1 _ _ (hnew rfl)).mono ?_; rw [HO2.out]; rintro e w4 ⟨rfl, rfl⟩))
    go_meet
    exact ⟨rfl, (((HX.out.trans hn1).trans hn2).trans hn3).alloc _⟩
  case rest =>
  obtain ⟨rfl, hx⟩ := hcut
  clear HX
  obtain ⟨wd5, hwd⟩ : ∃ wd5, wd5 = wc := ⟨_, rfl⟩
  rw [← hwd] at hx ⊢
  have HX := hide hx
  clear hwd hx HZF HPF HJO HO2
  have tF : (F4 == F4) = true := by simp
  have te : ByteArray.empty.toList.isEmpty = true := by rw [Lib.toList_data]; rfl
  by_cases h4 : F4 = 0
  · by_cases hp : np = 0
    · have hps : ps = [] := List.length_eq_zero_iff.1 (HNP.out.trans hp)
      have hGn : G = none := by rw [HGE.out, hps]; rfl
      have e1 : K = ByteArray.empty := by rw [HKK.out, if_pos h4, hGn]; rfl
      have e2 : N4 = 0 := by rw [HN4.out, if_pos h4, hGn]; rfl
      have e3 : I = false := by rw [HII.out, if_pos h4, hGn]; rfl
      have t1 : (F4 != 0) = false := by rw [h4]; rfl
      have t2 : ((np : Int) == 0) = true := by rw [hp]; rfl
      have t3 : ((0 : Int) == 0) = true := rfl
      clear hGn HKK HN4 HII HGE HF4 HC h4 hps hp HNP
      subst e1 e2 e3
      go_wp2_with (go_at_call 17; refine (w_priced _).mono ?_; rintro e w5 ⟨rfl, hn5⟩)
      go_ret
      exact ⟨rfl, hNX.out.trans (HX.out.trans hn5)⟩
    · obtain ⟨y, l, hps⟩ : ∃ y l, ps = y :: l := by
        cases ps with
        | nil => exact absurd HNP.out.symm (by simpa using hp)
        | cons y l => exact ⟨y, l, rfl⟩
      obtain ⟨q, hq, _⟩ := cheapP_some (fun p => fullI zs p ⟨k1, k2, xa, cp, nds, me, fr, to_⟩) y l
      have hGq : G = some q := by rw [HGE.out, hps]; exact hq
      have e1 : K = q.key := by rw [HKK.out, if_pos h4, hGq]; rfl
      have e2 : N4 = fullI zs q ⟨k1, k2, xa, cp, nds, me, fr, to_⟩ := by rw [HN4.out, if_pos h4, hGq]; rfl
      have e3 : I = true := by rw [HII.out, if_pos h4, hGq]; rfl
      have t1 : (F4 != 0) = false := by rw [h4]; rfl
      have t2 : ((np : Int) == 0) = false := by simpa using hp
      have HCW := hide (HC.out.then HX.out)
      have hgo := HGE.out.symm.trans hGq
      have h40 := HF4.out.symm.trans h4
      have HQ := hide hgo
      have H40 := hide h40
      have H41 := hide h4
      have HE1 := hide e1
      have HE2 := hide e2
      have hnp1 : 1 ≤ np := by omega
      clear hGq HKK HN4 HII HGE HF4 h4 hps hp hq hgo h40 e1 e2
      subst e3
      go_wp2_with fail
      refine hKt.out _ _ ?_
      exact st_RP15 HCW.out HNZ.out HNP.out hnp1 hnj H40.out HQ.out HE1.out HE2.out H41.out
  · have e1 : K = ByteArray.empty := by rw [HKK.out, if_neg h4]
    have e2 : N4 = 0 := by rw [HN4.out, if_neg h4]
    have e3 : I = false := by rw [HII.out, if_neg h4]
    have t1 : (F4 != 0) = true := by simpa using h4
    have t3 : ((0 : Int) == 0) = true := rfl
    clear HKK HN4 HII HGE HF4 HC h4 HNP
    subst e1 e2 e3
    go_wp2_with (go_at_call 17; refine (w_priced _).mono ?_; rintro e w5 ⟨rfl, hn5⟩)
    go_ret
    exact ⟨rfl, hNX.out.trans (HX.out.trans hn5)⟩
end Go.Proofs.YtdnmcpojjndjbaaGreatDoor
