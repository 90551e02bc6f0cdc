/- jitlaw1.PassesCount from its region 15 on. -/
import Derived.Test.YtemaiikgnogfhaaGreatDoorQG23
import Derived.Test.YtemaiikgnogfhaaGreatDoorQPaiO
import Derived.Test.YtemaiikgnogfhaaGreatDoorQG33
import Derived.Test.YtemaiikgnogfhaaGreatDoorQCntQ
import Derived.Deep.DeepCutAuto
namespace Go.Proofs.YtemaiikgnogfhaaGreatDoor
open Go.RowKit

noncomputable def codePC (r : Nat) : Code := fromReg r (Tryz.f3.body.getD .skip)
/-- What stands fast once all is drawn. -/
structure PcB (w wb : World) (D X C : Option Addr) (b5 : Nat) (zs : List Zone) (p : Price) (xs : List Pass) (ts : List Jour) (day : Int) : Prop where
  z : RdZones wb 0 D zs
  zl : zs.length ≤ 100
  x : RdPasses wb 0 X xs
  xl : xs.length ≤ 300
  j : RdJours wb 0 C ts
  jl : ts.length ≤ 8
  pk : p.key.size ≤ 1000000
  pb : wb.heap[b5]? = some (.cells (encP p).toArray 29 (0, 0))
  dy : -1 ≤ day ∧ day ≤ 4001
  nx : Nx w wb
theorem PcB.then {w wb wc : World} {D X C : Option Addr} {b5 : Nat} {zs : List Zone} {p : Price} {xs : List Pass} {ts : List Jour} {day : Int} (h : PcB w wb D X C b5 zs p xs ts day) (hn : Nx wb wc) : PcB w wc D X C b5 zs p xs ts day :=
  ⟨h.z.nx hn, h.zl, h.x.nx hn, h.xl, h.j.nx hn, h.jl, h.pk, (hn.block b5 (Array.getElem?_eq_some_iff.1 h.pb).1).trans h.pb, h.dy, h.nx.trans hn⟩
theorem w_whenC (b : Bool) (z : Int) (w : World) : Calls Tryz.prog 20 #[.bool b, .int .i64 z] w fun e w' => e = .returned (.int .i64 (if b then z else 0)) ∧ w = w' := by
  cases b
  all_goals
    go_enter Tryz.func20, Tryz.ntmps20
    go_wp2
    go_ret
    exact ⟨rfl, rfl⟩
set_option maxRecDepth 100000 in
set_option maxHeartbeats 4000000 in
theorem st_PC15X {D X C : Option Addr} {b5 nz c1 nx cx nt cl : Nat} {zs : List Zone} {p : Price} {xs : List Pass} {ts : List Jour} {day F1 : Int} {w wb : World} (hC : PcB w wb D X C b5 zs p xs ts day) (hnz : zs.length = nz) (hnx : xs.length = nx) (hnt : ts.length = nt) (hF1 : F1 = passF zs xs) (h0 : faultB zs p xs ts ≠ 0) {u0 u1 u2 u3 u10 u11 u12 u13 u14 u15 u16 u17 u18 u19 u20 u21 u22 u23 u24 u25 u26 u27 u28 u29 u30 u31 u32 u33 u34 u35 u36 u37 u38 u39 u40 u41 u42 u43 u44 u45 u46 u47 u48 u49 u50 u51 u52 u53 u54 u55 u56 u57 u58 u59 u60 u61 u62 u63 u64 u65 u66 u67 u68 u69 u70 u71 u72 u73 u74 u75 u76 u77 u78 u79 u80 u81 u82 u83 u84 u85 u86 u87 u88 u89 u90 u91 u92 u93 u94 u95 u96 u97 u98 u99 u100 u101 u102 u103 u104 u105 u106 u107 u108 u109 u110 u111 u112 u113 u114 u115 u116 u117 u118 u119 u120 u121 u122 u123 u124 u125 u126 u127 u128 u129 u130 u131 u132 u133 u134 u135 u136 u137 u138 u139 u140 u141 u142 u143 u144 u145 u146 u147 u148 u149 u150 u151 u152 u153 u154 u155 u156 u157 u158 u159 u160 u161 u162 u163 u164 u165 u166 u167 u168 u169 u170 u171 u172 u173 u174 u175 u176 u177 u178 u179 u180 u181 u182 u183 u184 u185 : Value} :
    Code.wp Tryz.prog (codePC 15) (bodyPost Tryz.prog Tryz.f3 (TrueNx w)) ⟨#[u0, u1, u2, u3, .slice D nz c1, .pointer (some ⟨b5, 0, none⟩), .slice X nx cx, .slice C nt cl, .int .i64 day, .int .i64 F1, u10, u11, u12, u13, u14, u15, u16, u17, u18, u19, u20, u21, u22, u23, u24, u25, u26, u27, u28, u29, u30, u31, u32, u33, u34, u35, u36, u37, u38, u39, u40, u41, u42, u43, u44, u45, u46, u47, u48, u49, u50, u51, u52, u53, u54, u55, u56, u57, u58, u59, u60, u61, u62, u63, u64, u65, u66, u67, u68, u69, u70, u71, u72, u73, u74, u75, u76, u77, u78, u79, u80, u81, u82, u83, u84, u85, u86, u87, u88, u89, u90, u91, u92, u93, u94, u95, u96, u97, u98, u99, u100, u101, u102, u103, u104, u105, u106, u107, u108, u109, u110, u111, u112, u113, u114, u115, u116, u117, u118, u119, u120, u121, u122, u123, u124, u125, u126, u127, u128, u129, u130, u131, u132, u133, u134, u135, u136, u137, u138, u139, u140, u141, u142, u143, u144, u145, u146, u147, u148, u149, u150, u151, u152, u153, u154, u155, u156, u157, u158, u159, u160, u161, u162, u163, u164, u165, u166, u167, u168, u169, u170, u171, u172, u173, u174, u175, u176, u177, u178, u179, u180, u181, u182, u183, u184, u185], []⟩ wb := by
  conv => arg 2; whnf
  dsimp only
  have HNX := hide hC.nx
  obtain ⟨P1, hP1⟩ : ∃ P1, P1 = pricesF [p] := ⟨_, rfl⟩
  obtain ⟨J1, hJ1⟩ : ∃ J1, J1 = joursF ts := ⟨_, rfl⟩
  have hjl := hC.jl
  have hjn : nt ≤ 8 := by omega
  obtain ⟨F, hF⟩ : ∃ F, F = faultB zs p xs ts := ⟨_, rfl⟩
  rw [← hF] at h0
  have HO3 := hide (show orI [F1, P1, J1] = F by rw [hF1, hP1, hJ1, hF]; rfl)
  have HO21 := hide (show orI [F, 1] = F by simp [orI, h0])
  have HO20 := hide (show orI [F, 0] = F by simp [orI, h0])
  have HFA := hide (fun W (hn : Nx wb W) => w_FaresX D X C c1 cx cl zs p xs ts W (hC.z.nx hn) hC.zl hC.pk (hC.x.nx hn) hC.xl (hC.j.nx hn) (by omega) F hF.symm h0)
  have HBI := hide (fun W (hn : Nx wb W) => w_BillsX D X C c1 cx cl zs p xs ts day W (hC.z.nx hn) hC.zl hC.pk (hC.x.nx hn) hC.xl (hC.j.nx hn) (by omega) F hF.symm h0)
  have tEE : (F == F) = true := by simp
  have tFF : (F != F) = false := by simp
  have t1 : (F == 0) = false := by simpa using h0
  have t2 : (F != 0) = true := by simpa using h0
  have HPX : Hid (∀ (g : Nat) (W : World), Rd W 0 (some ⟨g, 0, none⟩) 10 encP [p] → Calls Tryz.prog 19 #[.slice (some ⟨g, 0, none⟩) 1 1] W fun e w' => e = .returned (.int .i64 P1) ∧ Nx W w') := hide (fun g W hr => by
    have h := w_PricesFault 0 (some ⟨g, 0, none⟩) 1 [p] W ⟨hr, fun y hy => by rw [List.mem_singleton.1 hy]; exact hC.pk⟩ (by simp)
    rw [← hP1] at h; exact h)
  have HJF := hide (fun W (hn : Nx wb W) => w_JourneysFault 0 C cl ts W (hC.j.nx hn) (by omega))
  have hpb := hC.pb
  rw [hnz, hnx, hnt] at HFA HBI
  rw [hnt, ← hJ1] at HJF
  have HNT := hide hnt
  have hdy := hC.dy
  clear hF
  clear hC hP1 hJ1 hF1 hnz hnx hnt
  obtain ⟨k0, p1, p2, p3, p4, p5, p6, p7, p8, p9⟩ := p
  dsimp only [aggP] at HFA HBI
  have hb5 := (Array.getElem?_eq_some_iff.1 hpb).1
  have HG : Hid (∀ W, Nx wb W → (fun w' : World => w'.cell? ⟨b5, 0, none⟩ = some (.string k0) ∧ w'.cell? ⟨b5, 1, none⟩ = some (.int .i64 p1) ∧ w'.cell? ⟨b5, 2, none⟩ = some (.int .i64 p2) ∧ w'.cell? ⟨b5, 3, none⟩ = some (.int .i64 p3) ∧ w'.cell? ⟨b5, 4, none⟩ = some (.int .i64 p4) ∧ w'.cell? ⟨b5, 5, none⟩ = some (.int .i64 p5) ∧ w'.cell? ⟨b5, 6, none⟩ = some (.int .i64 p6) ∧ w'.cell? ⟨b5, 7, none⟩ = some (.int .i64 p7) ∧ w'.cell? ⟨b5, 8, none⟩ = some (.int .i64 p8) ∧ w'.cell? ⟨b5, 9, none⟩ = some (.int .i64 p9)) W) := hide (fun W hn => by
    exact ⟨nx_cell hn hb5 (cell_of_row wb b5 0 _ _ _ hpb), nx_cell hn hb5 (cell_of_row wb b5 1 _ _ _ hpb), nx_cell hn hb5 (cell_of_row wb b5 2 _ _ _ hpb), nx_cell hn hb5 (cell_of_row wb b5 3 _ _ _ hpb), nx_cell hn hb5 (cell_of_row wb b5 4 _ _ _ hpb), nx_cell hn hb5 (cell_of_row wb b5 5 _ _ _ hpb), nx_cell hn hb5 (cell_of_row wb b5 6 _ _ _ hpb), nx_cell hn hb5 (cell_of_row wb b5 7 _ _ _ hpb), nx_cell hn hb5 (cell_of_row wb b5 8 _ _ _ hpb), nx_cell hn hb5 (cell_of_row wb b5 9 _ _ _ hpb)⟩)
  clear hpb
  obtain ⟨g0, g1, g2, g3, g4, g5, g6, g7, g8, g9⟩ := HG.out wb (Nx.refl wb)
  go_upto_region 16 with (go_at_call 17; refine (HFA.out _ (Nx.refl _)).mono ?_; rintro e w1 ⟨rfl, hn1⟩)
  clear g0 g1 g2 g3 g4 g5 g6 g7 g8 g9 HFA
  have HN1 := hide hn1
  obtain ⟨g0, g1, g2, g3, g4, g5, g6, g7, g8, g9⟩ := HG.out w1 HN1.out
  clear hn1
  go_upto_region 17 with (go_at_call 18; refine (HBI.out _ HN1.out).mono ?_; rintro e w2 ⟨rfl, hn2⟩)
  clear g0 g1 g2 g3 g4 g5 g6 g7 g8 g9 HBI
  have HN12 := hide hn2
  have HN2 := hide (HN1.out.trans hn2)
  obtain ⟨g0, g1, g2, g3, g4, g5, g6, g7, g8, g9⟩ := HG.out w2 HN2.out
  clear hn2
  go_cut [9] (fun v wx => v = .int .i64 F ∧ Nx w2 wx)
  case first =>
    go_wp2_with (first
      | (go_at_call 19; refine (HPX.out _ _ (Rd.lit (hnew rfl) (Nat.zero_le _) (fun _ => rfl) rfl)).mono ?_; rintro e w3 ⟨rfl, hn3⟩)
      | (go_at_call 15; refine (HJF.out _ (HN2.out.trans (((Nx.refl w2).alloc _).trans hn3))).mono ?_; rintro e w4 ⟨rfl, hn4⟩)
      | (go_at_call 14; refine (w_Or3R F1 P1 J1 _ _ (hnew rfl)).mono ?_; rw [HO3.out]; rintro e w5 ⟨rfl, rfl⟩))
    go_meet
    exact ⟨rfl, ((((Nx.refl w2).alloc _).trans hn3).trans hn4).alloc _⟩
  case rest =>
  obtain ⟨rfl, hx⟩ := hcut
  clear g0 g1 g2 g3 g4 g5 g6 g7 g8 g9 HPX HJF HO3
  obtain ⟨wd, hwd⟩ : ∃ wd, wd = wc := ⟨_, rfl⟩
  rw [← hwd] at hx ⊢
  have HX := hide (HN2.out.trans hx)
  have HX12 := hide (HN12.out.trans hx)
  have HX2 := hide hx
  clear hwd hx
  go_upto_region 18 with fail
  go_cut [17] (fun v wx => v = .int .i64 F ∧ Nx wd wx)
  case first =>
    by_cases hd1 : day < 0
    · have q1 : decide (day < 0) = true := decide_eq_true hd1
      clear hdy
      go_wp2_with (first
        | (go_at_call 20; refine (w_whenC _ _ _).mono ?_; rintro e w3 ⟨rfl, rfl⟩)
        | (go_at_call 14; refine (w_Or2 F 1 _ _ _ (hnew (by simp))).mono ?_; rw [HO21.out]; rintro e w5 ⟨rfl, rfl⟩))
      go_meet
      exact ⟨rfl, (Nx.refl _).alloc _⟩
    · have q1 : decide (day < 0) = false := decide_eq_false hd1
      by_cases hd2 : 4000 < day
      · have q2 : decide (4000 < day) = true := decide_eq_true hd2
        clear hdy
        go_wp2_with (first
          | (go_at_call 20; refine (w_whenC _ _ _).mono ?_; rintro e w3 ⟨rfl, rfl⟩)
          | (go_at_call 14; refine (w_Or2 F 1 _ _ _ (hnew (by simp))).mono ?_; rw [HO21.out]; rintro e w5 ⟨rfl, rfl⟩))
        go_meet
        exact ⟨rfl, (Nx.refl _).alloc _⟩
      · have q2 : decide (4000 < day) = false := decide_eq_false hd2
        clear hdy
        go_wp2_with (first
          | (go_at_call 20; refine (w_whenC _ _ _).mono ?_; rintro e w3 ⟨rfl, rfl⟩)
          | (go_at_call 14; refine (w_Or2 F 0 _ _ _ (hnew (by simp))).mono ?_; rw [HO20.out]; rintro e w5 ⟨rfl, rfl⟩))
        go_meet
        exact ⟨rfl, (Nx.refl _).alloc _⟩
  case rest =>
  obtain ⟨rfl, hx⟩ := hcut
  obtain ⟨we, hwe⟩ : ∃ we, we = wc := ⟨_, rfl⟩
  rw [← hwe] at hx ⊢
  have HXE := hide (HX.out.trans hx)
  have HXE12 := hide (HX12.out.trans hx)
  have HXE2 := hide (HX2.out.trans hx)
  clear hwe hx HX HX12 HX2
  clear hdy h0
  go_wp2_with (go_at_call 23; refine (w_priced _).mono ?_; rintro e w9 ⟨rfl, hn9⟩)
  go_ret
  exact ⟨rfl, HNX.out.trans (HXE.out.trans hn9)⟩

set_option maxRecDepth 100000 in
set_option maxHeartbeats 4000000 in
theorem st_PC15Y {D X C : Option Addr} {b5 nz c1 nx cx nt cl : Nat} {zs : List Zone} {p : Price} {xs : List Pass} {ts : List Jour} {day F1 : Int} {w wb : World} (hC : PcB w wb D X C b5 zs p xs ts day) (hnz : zs.length = nz) (hnx : xs.length = nx) (hnt : ts.length = nt) (hF1 : F1 = passF zs xs) (h0 : faultB zs p xs ts = 0) (hd : outB day 0 4000 = true) {u0 u1 u2 u3 u10 u11 u12 u13 u14 u15 u16 u17 u18 u19 u20 u21 u22 u23 u24 u25 u26 u27 u28 u29 u30 u31 u32 u33 u34 u35 u36 u37 u38 u39 u40 u41 u42 u43 u44 u45 u46 u47 u48 u49 u50 u51 u52 u53 u54 u55 u56 u57 u58 u59 u60 u61 u62 u63 u64 u65 u66 u67 u68 u69 u70 u71 u72 u73 u74 u75 u76 u77 u78 u79 u80 u81 u82 u83 u84 u85 u86 u87 u88 u89 u90 u91 u92 u93 u94 u95 u96 u97 u98 u99 u100 u101 u102 u103 u104 u105 u106 u107 u108 u109 u110 u111 u112 u113 u114 u115 u116 u117 u118 u119 u120 u121 u122 u123 u124 u125 u126 u127 u128 u129 u130 u131 u132 u133 u134 u135 u136 u137 u138 u139 u140 u141 u142 u143 u144 u145 u146 u147 u148 u149 u150 u151 u152 u153 u154 u155 u156 u157 u158 u159 u160 u161 u162 u163 u164 u165 u166 u167 u168 u169 u170 u171 u172 u173 u174 u175 u176 u177 u178 u179 u180 u181 u182 u183 u184 u185 : Value} :
    Code.wp Tryz.prog (codePC 15) (bodyPost Tryz.prog Tryz.f3 (TrueNx w)) ⟨#[u0, u1, u2, u3, .slice D nz c1, .pointer (some ⟨b5, 0, none⟩), .slice X nx cx, .slice C nt cl, .int .i64 day, .int .i64 F1, u10, u11, u12, u13, u14, u15, u16, u17, u18, u19, u20, u21, u22, u23, u24, u25, u26, u27, u28, u29, u30, u31, u32, u33, u34, u35, u36, u37, u38, u39, u40, u41, u42, u43, u44, u45, u46, u47, u48, u49, u50, u51, u52, u53, u54, u55, u56, u57, u58, u59, u60, u61, u62, u63, u64, u65, u66, u67, u68, u69, u70, u71, u72, u73, u74, u75, u76, u77, u78, u79, u80, u81, u82, u83, u84, u85, u86, u87, u88, u89, u90, u91, u92, u93, u94, u95, u96, u97, u98, u99, u100, u101, u102, u103, u104, u105, u106, u107, u108, u109, u110, u111, u112, u113, u114, u115, u116, u117, u118, u119, u120, u121, u122, u123, u124, u125, u126, u127, u128, u129, u130, u131, u132, u133, u134, u135, u136, u137, u138, u139, u140, u141, u142, u143, u144, u145, u146, u147, u148, u149, u150, u151, u152, u153, u154, u155, u156, u157, u158, u159, u160, u161, u162, u163, u164, u165, u166, u167, u168, u169, u170, u171, u172, u173, u174, u175, u176, u177, u178, u179, u180, u181, u182, u183, u184, u185], []⟩ wb := by
  conv => arg 2; whnf
  dsimp only
  have HNX := hide hC.nx
  obtain ⟨P1, hP1⟩ : ∃ P1, P1 = pricesF [p] := ⟨_, rfl⟩
  obtain ⟨J1, hJ1⟩ : ∃ J1, J1 = joursF ts := ⟨_, rfl⟩
  have hjl := hC.jl
  have hjn : nt ≤ 8 := by omega
  have HO3 := hide (show orI [F1, P1, J1] = 0 by rw [hF1, hP1, hJ1]; exact h0)
  have HFA := hide (fun W (hn : Nx wb W) => w_FaresO D X C c1 cx cl zs p xs ts W (hC.z.nx hn) hC.zl hC.pk (hC.x.nx hn) hC.xl (hC.j.nx hn) (by omega) h0)
  have HBI := hide (fun W (hn : Nx wb W) => w_BillsY D X C c1 cx cl zs p xs ts day W (hC.z.nx hn) hC.zl hC.pk (hC.x.nx hn) hC.xl (hC.j.nx hn) (by omega) h0 hd)
  have HFO := hide (fun W (hn : Nx wb W) => w_FaresOf D X C c1 cx cl zs p xs ts W (hC.z.nx hn) hC.zl hC.pk (hC.x.nx hn) hC.xl (hC.j.nx hn) (by omega) h0)
  have HSR := hide (faultB_zero h0).2.2.2.2
  have HPB := hide (fun (O : List Jour) => payAll_bd (zs := zs) (xs := xs) (faultB_zero h0).2.1 (faultB_zero h0).2.2.1 O [] (fun d hd => by cases hd))
  have HPX : Hid (∀ (g : Nat) (W : World), Rd W 0 (some ⟨g, 0, none⟩) 10 encP [p] → Calls Tryz.prog 19 #[.slice (some ⟨g, 0, none⟩) 1 1] W fun e w' => e = .returned (.int .i64 P1) ∧ Nx W w') := hide (fun g W hr => by
    have h := w_PricesFault 0 (some ⟨g, 0, none⟩) 1 [p] W ⟨hr, fun y hy => by rw [List.mem_singleton.1 hy]; exact hC.pk⟩ (by simp)
    rw [← hP1] at h; exact h)
  have HJF := hide (fun W (hn : Nx wb W) => w_JourneysFault 0 C cl ts W (hC.j.nx hn) (by omega))
  have hpb := hC.pb
  rw [hnz, hnx, hnt] at HFA HBI HFO
  rw [hnt, ← hJ1] at HJF
  have HNT := hide hnt
  have hdy := hd
  clear h0 hd
  obtain ⟨PA, hPA⟩ : ∃ PA : List Jour → List Paid, PA = fun O => payAll zs p xs [] O := ⟨_, rfl⟩
  have HPE := hide (fun O => (show payAll zs p xs [] O = PA O by rw [hPA]))
  obtain ⟨FL, hFL⟩ : ∃ FL : List Jour → List Due, FL = fun O => faresL zs p xs O ts := ⟨_, rfl⟩
  have HFLE := hide (fun O => (show faresL zs p xs O ts = FL O by rw [hFL]))
  have HFLL := hide (fun O => (show (FL O).length = nt by rw [hFL]; simpa [faresL] using hnt))
  simp only [HPE.out, HFLE.out] at HFA HFO HPB
  have HBE := hide (fun (O : List Jour) (hO : IsOrd ts O) (ys ys' : List Due) => bills_eq zs p xs hO HSR.out day (by rw [HPE.out]; exact fun d hd => (HPB.out O d hd).1) (ys := ys) (ys' := ys'))
  simp only [HPE.out] at HBE
  clear hPA hFL HPE HFLE
  clear hC hP1 hJ1 hF1 hnz hnx hnt
  obtain ⟨k0, p1, p2, p3, p4, p5, p6, p7, p8, p9⟩ := p
  dsimp only [aggP] at HFA HBI HFO
  have hb5 := (Array.getElem?_eq_some_iff.1 hpb).1
  have HG : Hid (∀ W, Nx wb W → (fun w' : World => w'.cell? ⟨b5, 0, none⟩ = some (.string k0) ∧ w'.cell? ⟨b5, 1, none⟩ = some (.int .i64 p1) ∧ w'.cell? ⟨b5, 2, none⟩ = some (.int .i64 p2) ∧ w'.cell? ⟨b5, 3, none⟩ = some (.int .i64 p3) ∧ w'.cell? ⟨b5, 4, none⟩ = some (.int .i64 p4) ∧ w'.cell? ⟨b5, 5, none⟩ = some (.int .i64 p5) ∧ w'.cell? ⟨b5, 6, none⟩ = some (.int .i64 p6) ∧ w'.cell? ⟨b5, 7, none⟩ = some (.int .i64 p7) ∧ w'.cell? ⟨b5, 8, none⟩ = some (.int .i64 p8) ∧ w'.cell? ⟨b5, 9, none⟩ = some (.int .i64 p9)) W) := hide (fun W hn => by
    exact ⟨nx_cell hn hb5 (cell_of_row wb b5 0 _ _ _ hpb), nx_cell hn hb5 (cell_of_row wb b5 1 _ _ _ hpb), nx_cell hn hb5 (cell_of_row wb b5 2 _ _ _ hpb), nx_cell hn hb5 (cell_of_row wb b5 3 _ _ _ hpb), nx_cell hn hb5 (cell_of_row wb b5 4 _ _ _ hpb), nx_cell hn hb5 (cell_of_row wb b5 5 _ _ _ hpb), nx_cell hn hb5 (cell_of_row wb b5 6 _ _ _ hpb), nx_cell hn hb5 (cell_of_row wb b5 7 _ _ _ hpb), nx_cell hn hb5 (cell_of_row wb b5 8 _ _ _ hpb), nx_cell hn hb5 (cell_of_row wb b5 9 _ _ _ hpb)⟩)
  clear hpb
  obtain ⟨g0, g1, g2, g3, g4, g5, g6, g7, g8, g9⟩ := HG.out wb (Nx.refl wb)
  go_upto_region 16 with (go_at_call 17; refine (HFA.out _ (Nx.refl _)).mono ?_; rintro e w1 ⟨O, R, cR, hO, rfl, hR, hn1⟩)
  clear g0 g1 g2 g3 g4 g5 g6 g7 g8 g9 HFA
  have HN1 := hide hn1
  obtain ⟨g0, g1, g2, g3, g4, g5, g6, g7, g8, g9⟩ := HG.out w1 HN1.out
  clear hn1
  have HO := hide hO
  have HR := hide hR
  clear hO hR
  go_upto_region 17 with (go_at_call 18; refine (HBI.out _ HN1.out).mono ?_; rintro e w2 ⟨rfl, hn2⟩)
  clear g0 g1 g2 g3 g4 g5 g6 g7 g8 g9 HBI
  have HN12 := hide hn2
  have HN2 := hide (HN1.out.trans hn2)
  obtain ⟨g0, g1, g2, g3, g4, g5, g6, g7, g8, g9⟩ := HG.out w2 HN2.out
  clear hn2
  go_cut [9] (fun v wx => v = .int .i64 0 ∧ Nx w2 wx)
  case first =>
    go_wp2_with (first
      | (go_at_call 19; refine (HPX.out _ _ (Rd.lit (hnew rfl) (Nat.zero_le _) (fun _ => rfl) rfl)).mono ?_; rintro e w3 ⟨rfl, hn3⟩)
      | (go_at_call 15; refine (HJF.out _ (HN2.out.trans (((Nx.refl w2).alloc _).trans hn3))).mono ?_; rintro e w4 ⟨rfl, hn4⟩)
      | (go_at_call 14; refine (w_Or3R F1 P1 J1 _ _ (hnew rfl)).mono ?_; rw [HO3.out]; rintro e w5 ⟨rfl, rfl⟩))
    go_meet
    exact ⟨rfl, ((((Nx.refl w2).alloc _).trans hn3).trans hn4).alloc _⟩
  case rest =>
  obtain ⟨rfl, hx⟩ := hcut
  clear g0 g1 g2 g3 g4 g5 g6 g7 g8 g9 HPX HJF HO3
  obtain ⟨wd, hwd⟩ : ∃ wd, wd = wc := ⟨_, rfl⟩
  rw [← hwd] at hx ⊢
  have HX := hide (HN2.out.trans hx)
  have HX12 := hide (HN12.out.trans hx)
  have HX2 := hide hx
  clear hwd hx
  go_upto_region 18 with fail
  go_cut [17] (fun v wx => v = .int .i64 1 ∧ Nx wd wx)
  case first =>
    by_cases hd1 : day < 0
    · have q1 : decide (day < 0) = true := decide_eq_true hd1
      clear hdy
      go_wp2_with (first
        | (go_at_call 20; refine (w_whenC _ _ _).mono ?_; rintro e w3 ⟨rfl, rfl⟩)
        | (go_at_call 14; refine (w_Or2 0 1 _ _ _ (hnew (by simp))).mono ?_; rw [(show orI [0, 1] = 1 from rfl)]; rintro e w5 ⟨rfl, rfl⟩))
      go_meet
      exact ⟨rfl, (Nx.refl _).alloc _⟩
    · have q1 : decide (day < 0) = false := decide_eq_false hd1
      by_cases hd2 : 4000 < day
      · have q2 : decide (4000 < day) = true := decide_eq_true hd2
        clear hdy
        go_wp2_with (first
          | (go_at_call 20; refine (w_whenC _ _ _).mono ?_; rintro e w3 ⟨rfl, rfl⟩)
          | (go_at_call 14; refine (w_Or2 0 1 _ _ _ (hnew (by simp))).mono ?_; rw [(show orI [0, 1] = 1 from rfl)]; rintro e w5 ⟨rfl, rfl⟩))
        go_meet
        exact ⟨rfl, (Nx.refl _).alloc _⟩
      · exact absurd hdy (by unfold outB; simp [hd1, hd2])
  case rest =>
  obtain ⟨rfl, hx⟩ := hcut
  obtain ⟨we, hwe⟩ : ∃ we, we = wc := ⟨_, rfl⟩
  rw [← hwe] at hx ⊢
  have HXE := hide (HX.out.trans hx)
  have HXE12 := hide (HX12.out.trans hx)
  have HXE2 := hide (HX2.out.trans hx)
  clear hwe hx HX HX12 HX2
  clear hdy
  have HEQ := hide (fun (R' : Option Addr) (cR' : Nat) (W : World) (h1 : Rd W 0 R 2 encDue (FL O)) (h2 : Rd W 0 R' 2 encDue (FL O)) => w_EqualD 0 0 R R' cR cR' (FL O) W h1 h2 (by rw [HFLL.out]; omega))
  simp only [HFLL.out] at HEQ
  obtain ⟨g0, g1, g2, g3, g4, g5, g6, g7, g8, g9⟩ := HG.out we HXE.out
  go_upto_region 21 with (first
    | (go_at_call 22; refine (HFO.out _ HXE.out).mono ?_; rintro e w6 ⟨O6, R6, c6, hO6, rfl, hR6, hn6⟩; (obtain rfl : O = O6 := ord_uniq (HO.out.1.trans hO6.1.symm) HO.out.2 hO6.2))
    | (go_at_call 21; refine (HEQ.out _ _ _ ((HR.out.low (Nat.zero_le _)).nx (HXE12.out.trans hn6)) (hR6.low (Nat.zero_le _))).mono ?_; rintro e w7 ⟨rfl, hn7⟩))
  clear g0 g1 g2 g3 g4 g5 g6 g7 g8 g9 HFO HEQ HR
  have HXF := hide (HXE.out.trans (hn6.trans hn7))
  have HXF2 := hide (HXE2.out.trans (hn6.trans hn7))
  clear hn6 hn7 hR6 hO6
  go_wp2_with (go_at_call 23; refine (w_priced _).mono ?_; rintro e w9 ⟨rfl, hn9⟩)
  go_ret
  exact ⟨rfl, HNX.out.trans (HXF.out.trans hn9)⟩

set_option maxRecDepth 100000 in
set_option maxHeartbeats 4000000 in
theorem st_PC15O {D X C : Option Addr} {b5 nz c1 nx cx nt cl : Nat} {zs : List Zone} {p : Price} {xs : List Pass} {ts : List Jour} {day F1 : Int} {w wb : World} (hC : PcB w wb D X C b5 zs p xs ts day) (hnz : zs.length = nz) (hnx : xs.length = nx) (hnt : ts.length = nt) (hF1 : F1 = passF zs xs) (h0 : faultB zs p xs ts = 0) (hd : outB day 0 4000 = false) {u0 u1 u2 u3 u10 u11 u12 u13 u14 u15 u16 u17 u18 u19 u20 u21 u22 u23 u24 u25 u26 u27 u28 u29 u30 u31 u32 u33 u34 u35 u36 u37 u38 u39 u40 u41 u42 u43 u44 u45 u46 u47 u48 u49 u50 u51 u52 u53 u54 u55 u56 u57 u58 u59 u60 u61 u62 u63 u64 u65 u66 u67 u68 u69 u70 u71 u72 u73 u74 u75 u76 u77 u78 u79 u80 u81 u82 u83 u84 u85 u86 u87 u88 u89 u90 u91 u92 u93 u94 u95 u96 u97 u98 u99 u100 u101 u102 u103 u104 u105 u106 u107 u108 u109 u110 u111 u112 u113 u114 u115 u116 u117 u118 u119 u120 u121 u122 u123 u124 u125 u126 u127 u128 u129 u130 u131 u132 u133 u134 u135 u136 u137 u138 u139 u140 u141 u142 u143 u144 u145 u146 u147 u148 u149 u150 u151 u152 u153 u154 u155 u156 u157 u158 u159 u160 u161 u162 u163 u164 u165 u166 u167 u168 u169 u170 u171 u172 u173 u174 u175 u176 u177 u178 u179 u180 u181 u182 u183 u184 u185 : Value} :
    Code.wp Tryz.prog (codePC 15) (bodyPost Tryz.prog Tryz.f3 (TrueNx w)) ⟨#[u0, u1, u2, u3, .slice D nz c1, .pointer (some ⟨b5, 0, none⟩), .slice X nx cx, .slice C nt cl, .int .i64 day, .int .i64 F1, u10, u11, u12, u13, u14, u15, u16, u17, u18, u19, u20, u21, u22, u23, u24, u25, u26, u27, u28, u29, u30, u31, u32, u33, u34, u35, u36, u37, u38, u39, u40, u41, u42, u43, u44, u45, u46, u47, u48, u49, u50, u51, u52, u53, u54, u55, u56, u57, u58, u59, u60, u61, u62, u63, u64, u65, u66, u67, u68, u69, u70, u71, u72, u73, u74, u75, u76, u77, u78, u79, u80, u81, u82, u83, u84, u85, u86, u87, u88, u89, u90, u91, u92, u93, u94, u95, u96, u97, u98, u99, u100, u101, u102, u103, u104, u105, u106, u107, u108, u109, u110, u111, u112, u113, u114, u115, u116, u117, u118, u119, u120, u121, u122, u123, u124, u125, u126, u127, u128, u129, u130, u131, u132, u133, u134, u135, u136, u137, u138, u139, u140, u141, u142, u143, u144, u145, u146, u147, u148, u149, u150, u151, u152, u153, u154, u155, u156, u157, u158, u159, u160, u161, u162, u163, u164, u165, u166, u167, u168, u169, u170, u171, u172, u173, u174, u175, u176, u177, u178, u179, u180, u181, u182, u183, u184, u185], []⟩ wb := by
  conv => arg 2; whnf
  dsimp only
  have HNX := hide hC.nx
  obtain ⟨P1, hP1⟩ : ∃ P1, P1 = pricesF [p] := ⟨_, rfl⟩
  obtain ⟨J1, hJ1⟩ : ∃ J1, J1 = joursF ts := ⟨_, rfl⟩
  have hjl := hC.jl
  have hjn : nt ≤ 8 := by omega
  have HO3 := hide (show orI [F1, P1, J1] = 0 by rw [hF1, hP1, hJ1]; exact h0)
  have HFA := hide (fun W (hn : Nx wb W) => w_FaresO D X C c1 cx cl zs p xs ts W (hC.z.nx hn) hC.zl hC.pk (hC.x.nx hn) hC.xl (hC.j.nx hn) (by omega) h0)
  have HBI := hide (fun W (hn : Nx wb W) => w_BillsO D X C c1 cx cl zs p xs ts day W (hC.z.nx hn) hC.zl hC.pk (hC.x.nx hn) hC.xl (hC.j.nx hn) (by omega) h0 hd)
  have HFO := hide (fun W (hn : Nx wb W) => w_FaresOf D X C c1 cx cl zs p xs ts W (hC.z.nx hn) hC.zl hC.pk (hC.x.nx hn) hC.xl (hC.j.nx hn) (by omega) h0)
  have HSR := hide (faultB_zero h0).2.2.2.2
  have HPB := hide (fun (O : List Jour) => payAll_bd (zs := zs) (xs := xs) (faultB_zero h0).2.1 (faultB_zero h0).2.2.1 O [] (fun d hd => by cases hd))
  have HBO := hide (fun W (hn : Nx wb W) => w_BillsOf D X C c1 cx cl zs p xs ts day W (hC.z.nx hn) hC.zl hC.pk (hC.x.nx hn) hC.xl (hC.j.nx hn) (by omega) h0)
  have HPX : Hid (∀ (g : Nat) (W : World), Rd W 0 (some ⟨g, 0, none⟩) 10 encP [p] → Calls Tryz.prog 19 #[.slice (some ⟨g, 0, none⟩) 1 1] W fun e w' => e = .returned (.int .i64 P1) ∧ Nx W w') := hide (fun g W hr => by
    have h := w_PricesFault 0 (some ⟨g, 0, none⟩) 1 [p] W ⟨hr, fun y hy => by rw [List.mem_singleton.1 hy]; exact hC.pk⟩ (by simp)
    rw [← hP1] at h; exact h)
  have HJF := hide (fun W (hn : Nx wb W) => w_JourneysFault 0 C cl ts W (hC.j.nx hn) (by omega))
  have hpb := hC.pb
  rw [hnz, hnx, hnt] at HFA HBI HFO HBO
  rw [hnt, ← hJ1] at HJF
  have HNT := hide hnt
  have hdy := hd
  clear h0 hd
  obtain ⟨PA, hPA⟩ : ∃ PA : List Jour → List Paid, PA = fun O => payAll zs p xs [] O := ⟨_, rfl⟩
  have HPE := hide (fun O => (show payAll zs p xs [] O = PA O by rw [hPA]))
  obtain ⟨FL, hFL⟩ : ∃ FL : List Jour → List Due, FL = fun O => faresL zs p xs O ts := ⟨_, rfl⟩
  have HFLE := hide (fun O => (show faresL zs p xs O ts = FL O by rw [hFL]))
  have HFLL := hide (fun O => (show (FL O).length = nt by rw [hFL]; simpa [faresL] using hnt))
  simp only [HPE.out, HFLE.out] at HFA HFO HBI HBO HPB
  have HBE := hide (fun (O : List Jour) (hO : IsOrd ts O) (ys ys' : List Due) => bills_eq zs p xs hO HSR.out day (by rw [HPE.out]; exact fun d hd => (HPB.out O d hd).1) (ys := ys) (ys' := ys'))
  simp only [HPE.out] at HBE
  clear hPA hFL HPE HFLE
  clear hC hP1 hJ1 hF1 hnz hnx hnt
  obtain ⟨k0, p1, p2, p3, p4, p5, p6, p7, p8, p9⟩ := p
  dsimp only [aggP] at HFA HBI HFO HBO
  have hb5 := (Array.getElem?_eq_some_iff.1 hpb).1
  have HG : Hid (∀ W, Nx wb W → (fun w' : World => w'.cell? ⟨b5, 0, none⟩ = some (.string k0) ∧ w'.cell? ⟨b5, 1, none⟩ = some (.int .i64 p1) ∧ w'.cell? ⟨b5, 2, none⟩ = some (.int .i64 p2) ∧ w'.cell? ⟨b5, 3, none⟩ = some (.int .i64 p3) ∧ w'.cell? ⟨b5, 4, none⟩ = some (.int .i64 p4) ∧ w'.cell? ⟨b5, 5, none⟩ = some (.int .i64 p5) ∧ w'.cell? ⟨b5, 6, none⟩ = some (.int .i64 p6) ∧ w'.cell? ⟨b5, 7, none⟩ = some (.int .i64 p7) ∧ w'.cell? ⟨b5, 8, none⟩ = some (.int .i64 p8) ∧ w'.cell? ⟨b5, 9, none⟩ = some (.int .i64 p9)) W) := hide (fun W hn => by
    exact ⟨nx_cell hn hb5 (cell_of_row wb b5 0 _ _ _ hpb), nx_cell hn hb5 (cell_of_row wb b5 1 _ _ _ hpb), nx_cell hn hb5 (cell_of_row wb b5 2 _ _ _ hpb), nx_cell hn hb5 (cell_of_row wb b5 3 _ _ _ hpb), nx_cell hn hb5 (cell_of_row wb b5 4 _ _ _ hpb), nx_cell hn hb5 (cell_of_row wb b5 5 _ _ _ hpb), nx_cell hn hb5 (cell_of_row wb b5 6 _ _ _ hpb), nx_cell hn hb5 (cell_of_row wb b5 7 _ _ _ hpb), nx_cell hn hb5 (cell_of_row wb b5 8 _ _ _ hpb), nx_cell hn hb5 (cell_of_row wb b5 9 _ _ _ hpb)⟩)
  clear hpb
  obtain ⟨g0, g1, g2, g3, g4, g5, g6, g7, g8, g9⟩ := HG.out wb (Nx.refl wb)
  go_upto_region 16 with (go_at_call 17; refine (HFA.out _ (Nx.refl _)).mono ?_; rintro e w1 ⟨O, R, cR, hO, rfl, hR, hn1⟩)
  clear g0 g1 g2 g3 g4 g5 g6 g7 g8 g9 HFA
  have HN1 := hide hn1
  obtain ⟨g0, g1, g2, g3, g4, g5, g6, g7, g8, g9⟩ := HG.out w1 HN1.out
  clear hn1
  have HO := hide hO
  have HR := hide hR
  clear hO hR
  go_upto_region 17 with (go_at_call 18; refine (HBI.out _ HN1.out).mono ?_; rintro e w2 ⟨O2, R2, cR2, ys, hO2, rfl, hys, hR2, hyl, hn2⟩)
  clear g0 g1 g2 g3 g4 g5 g6 g7 g8 g9 HBI
  have HN12 := hide hn2
  have HN2 := hide (HN1.out.trans hn2)
  obtain ⟨g0, g1, g2, g3, g4, g5, g6, g7, g8, g9⟩ := HG.out w2 HN2.out
  clear hn2
  have hOO : O = O2 := ord_uniq (HO.out.1.trans hO2.1.symm) HO.out.2 hO2.2
  subst hOO
  have HYS := hide hys
  have HR2 := hide hR2
  have HYL := hide hyl
  clear hO2 hys hR2 hyl
  go_cut [9] (fun v wx => v = .int .i64 0 ∧ Nx w2 wx)
  case first =>
    go_wp2_with (first
      | (go_at_call 19; refine (HPX.out _ _ (Rd.lit (hnew rfl) (Nat.zero_le _) (fun _ => rfl) rfl)).mono ?_; rintro e w3 ⟨rfl, hn3⟩)
      | (go_at_call 15; refine (HJF.out _ (HN2.out.trans (((Nx.refl w2).alloc _).trans hn3))).mono ?_; rintro e w4 ⟨rfl, hn4⟩)
      | (go_at_call 14; refine (w_Or3R F1 P1 J1 _ _ (hnew rfl)).mono ?_; rw [HO3.out]; rintro e w5 ⟨rfl, rfl⟩))
    go_meet
    exact ⟨rfl, ((((Nx.refl w2).alloc _).trans hn3).trans hn4).alloc _⟩
  case rest =>
  obtain ⟨rfl, hx⟩ := hcut
  clear g0 g1 g2 g3 g4 g5 g6 g7 g8 g9 HPX HJF HO3
  obtain ⟨wd, hwd⟩ : ∃ wd, wd = wc := ⟨_, rfl⟩
  rw [← hwd] at hx ⊢
  have HX := hide (HN2.out.trans hx)
  have HX12 := hide (HN12.out.trans hx)
  have HX2 := hide hx
  clear hwd hx
  go_upto_region 18 with fail
  go_cut [17] (fun v wx => v = .int .i64 0 ∧ Nx wd wx)
  case first =>
    have hd12 : ¬ day < 0 ∧ ¬ 4000 < day := by unfold outB at hdy; simp only [Bool.or_eq_false_iff, decide_eq_false_iff_not] at hdy; exact hdy
    obtain ⟨hd1, hd2⟩ := hd12
    have q1 : decide (day < 0) = false := decide_eq_false hd1
    have q2 : decide (4000 < day) = false := decide_eq_false hd2
    clear hdy
    go_wp2_with (first
      | (go_at_call 20; refine (w_whenC _ _ _).mono ?_; rintro e w3 ⟨rfl, rfl⟩)
      | (go_at_call 14; refine (w_Or2 0 0 _ _ _ (hnew (by simp))).mono ?_; rw [(show orI [0, 0] = 0 from rfl)]; rintro e w5 ⟨rfl, rfl⟩))
    go_meet
    exact ⟨rfl, (Nx.refl _).alloc _⟩
  case rest =>
  obtain ⟨rfl, hx⟩ := hcut
  obtain ⟨we, hwe⟩ : ∃ we, we = wc := ⟨_, rfl⟩
  rw [← hwe] at hx ⊢
  have HXE := hide (HX.out.trans hx)
  have HXE12 := hide (HX12.out.trans hx)
  have HXE2 := hide (HX2.out.trans hx)
  clear hwe hx HX HX12 HX2
  clear hdy
  have HEQ := hide (fun (R' : Option Addr) (cR' : Nat) (W : World) (h1 : Rd W 0 R 2 encDue (FL O)) (h2 : Rd W 0 R' 2 encDue (FL O)) => w_EqualD 0 0 R R' cR cR' (FL O) W h1 h2 (by rw [HFLL.out]; omega))
  simp only [HFLL.out] at HEQ
  obtain ⟨g0, g1, g2, g3, g4, g5, g6, g7, g8, g9⟩ := HG.out we HXE.out
  go_upto_region 21 with (first
    | (go_at_call 22; refine (HFO.out _ HXE.out).mono ?_; rintro e w6 ⟨O6, R6, c6, hO6, rfl, hR6, hn6⟩; (obtain rfl : O = O6 := ord_uniq (HO.out.1.trans hO6.1.symm) HO.out.2 hO6.2))
    | (go_at_call 21; refine (HEQ.out _ _ _ ((HR.out.low (Nat.zero_le _)).nx (HXE12.out.trans hn6)) (hR6.low (Nat.zero_le _))).mono ?_; rintro e w7 ⟨rfl, hn7⟩))
  clear g0 g1 g2 g3 g4 g5 g6 g7 g8 g9 HFO HEQ HR
  have HXF := hide (HXE.out.trans (hn6.trans hn7))
  have HXF2 := hide (HXE2.out.trans (hn6.trans hn7))
  clear hn6 hn7 hR6 hO6
  obtain ⟨wf, hwf⟩ : ∃ wf, wf = w7 := ⟨_, rfl⟩
  rw [← hwf] at HXF HXF2 ⊢
  clear hwf
  obtain ⟨g0, g1, g2, g3, g4, g5, g6, g7, g8, g9⟩ := HG.out wf HXF.out
  go_wp2_with (first
    | (go_at_call 24; refine (HBO.out _ HXF.out).mono ?_; rintro e w6 ⟨O6, R6, c6, ys6, hO6, rfl, hys6, hR6, _, hn6⟩; (obtain rfl : O = O6 := ord_uniq (HO.out.1.trans hO6.1.symm) HO.out.2 hO6.2); (obtain rfl : ys = ys6 := HBE.out _ hO6 ys ys6 HYS.out hys6))
    | (go_at_call 21; refine (w_EqualD 0 0 _ _ _ _ ys _ ((HR2.out.low (Nat.zero_le _)).nx (HXF2.out.trans hn6)) (hR6.low (Nat.zero_le _)) HYL.out).mono ?_; rintro e w8 ⟨rfl, hn8⟩)
    | (go_at_call 23; refine (w_priced _).mono ?_; rintro e w9 ⟨rfl, hn9⟩))
  go_ret
  exact ⟨rfl, HNX.out.trans (HXF.out.trans ((hn6.trans hn8).trans hn9))⟩
end Go.Proofs.YtemaiikgnogfhaaGreatDoor
