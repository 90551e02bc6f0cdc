/- jitlaw1.PassesCount from its region 8 on. -/
import Derived.Test.YtemaiikgnogfhaaGreatDoorQLawPCc
import Derived.Deep.DeepCutAuto
import Derived.Deep.RegionHeld
import Derived.Deep.RegionHeld3
import Derived.RegionTactic
namespace Go.Proofs.YtemaiikgnogfhaaGreatDoor
open Go.RowKit

set_option maxRecDepth 100000 in
set_option maxHeartbeats 4000000 in
theorem st_PC8 {D X C : Option Addr} {b5 nz c1 nx cx nt cl : Nat} {zs : List Zone} {p : Price} {xs : List Pass} {ts : List Jour} {day F1 : Int} {w wb : World} (hC : PcB w wb D X C b5 zs p xs ts day) (hnz : zs.length = nz) (hnx : xs.length = nx) (hnt : ts.length = nt) (hF1 : F1 = passF zs xs) (hcx : xs.length ≤ cx) (hcl : ts.length ≤ cl) {u0 u1 u2 u3 u10 u11 u12 u13 u14 u15 u16 u17 u18 u19 u20 u21 u22 u23 u24 u25 u26 u27 u28 u29 u30 u31 u32 u33 u34 u35 u36 u37 u38 u39 u40 u41 u42 u43 u44 u45 u46 u47 u48 u49 u50 u51 u52 u53 u54 u55 u56 u57 u58 u59 u60 u61 u62 u63 u64 u65 u66 u67 u68 u69 u70 u71 u72 u73 u74 u75 u76 u77 u78 u79 u80 u81 u82 u83 u84 u85 u86 u87 u88 u89 u90 u91 u92 u93 u94 u95 u96 u97 u98 u99 u100 u101 u102 u103 u104 u105 u106 u107 u108 u109 u110 u111 u112 u113 u114 u115 u116 u117 u118 u119 u120 u121 u122 u123 u124 u125 u126 u127 u128 u129 u130 u131 u132 u133 u134 u135 u136 u137 u138 u139 u140 u141 u142 u143 u144 u145 u146 u147 u148 u149 u150 u151 u152 u153 u154 u155 u156 u157 u158 u159 u160 u161 u162 u163 u164 u165 u166 u167 u168 u169 u170 u171 u172 u173 u174 u175 u176 u177 u178 u179 u180 u181 u182 u183 u184 u185 : Value} :
    Code.wp Tryz.prog (codePC 8) (bodyPost Tryz.prog Tryz.f3 (TrueNx w)) ⟨#[u0, u1, u2, u3, .slice D nz c1, .pointer (some ⟨b5, 0, none⟩), .slice X nx cx, .slice C nt cl, .int .i64 day, .int .i64 F1, u10, u11, u12, u13, u14, u15, u16, u17, u18, u19, u20, u21, u22, u23, u24, u25, u26, u27, u28, u29, u30, u31, u32, u33, u34, u35, u36, u37, u38, u39, u40, u41, u42, u43, u44, u45, u46, u47, u48, u49, u50, u51, u52, u53, u54, u55, u56, u57, u58, u59, u60, u61, u62, u63, u64, u65, u66, u67, u68, u69, u70, u71, u72, u73, u74, u75, u76, u77, u78, u79, u80, u81, u82, u83, u84, u85, u86, u87, u88, u89, u90, u91, u92, u93, u94, u95, u96, u97, u98, u99, u100, u101, u102, u103, u104, u105, u106, u107, u108, u109, u110, u111, u112, u113, u114, u115, u116, u117, u118, u119, u120, u121, u122, u123, u124, u125, u126, u127, u128, u129, u130, u131, u132, u133, u134, u135, u136, u137, u138, u139, u140, u141, u142, u143, u144, u145, u146, u147, u148, u149, u150, u151, u152, u153, u154, u155, u156, u157, u158, u159, u160, u161, u162, u163, u164, u165, u166, u167, u168, u169, u170, u171, u172, u173, u174, u175, u176, u177, u178, u179, u180, u181, u182, u183, u184, u185], []⟩ wb := by
  conv => arg 2; whnf
  dsimp only
  go_upto_region 8 with fail
  go_cut [53] (fun v wx => ∃ bb : Bool, v = .bool bb ∧ bb = (decide (0 < nx) && decide (0 < nt)) ∧ wb = wx)
  case first =>
    by_cases hx0 : 0 < nx
    · have m1 : (0 : Int) < (nx : Int) := by omega
      have m3 : decide ((0 : Int) < (nx : Int)) = true := decide_eq_true m1
      have e1 : decide (0 < nx) = true := decide_eq_true hx0
      by_cases ht0 : 0 < nt
      · have m2 : (0 : Int) < (nt : Int) := by omega
        have m4 : decide ((0 : Int) < (nt : Int)) = true := decide_eq_true m2
        have e2 : decide (0 < nt) = true := decide_eq_true ht0
        have HE := hide (And.intro e1 e2)
        clear hC hnz hnx hnt hF1 hx0 ht0 hcx hcl e1 e2
        go_wp2_with fail
        go_meet
        exact ⟨_, rfl, by rw [HE.out.1, HE.out.2]; rfl, rfl⟩
      · have m2 : ¬ (0 : Int) < (nt : Int) := by omega
        have m4 : decide ((0 : Int) < (nt : Int)) = false := decide_eq_false m2
        have e2 : decide (0 < nt) = false := decide_eq_false ht0
        have HE := hide (And.intro e1 e2)
        clear hC hnz hnx hnt hF1 hx0 ht0 hcx hcl e1 e2
        go_wp2_with fail
        go_meet
        exact ⟨_, rfl, by rw [HE.out.1, HE.out.2]; rfl, rfl⟩
    · have m1 : ¬ (0 : Int) < (nx : Int) := by omega
      have m3 : decide ((0 : Int) < (nx : Int)) = false := decide_eq_false m1
      have e1 : decide (0 < nx) = false := decide_eq_false hx0
      have HE := hide e1
      clear hC hnz hnx hnt hF1 hx0 hcx hcl e1
      go_wp2_with fail
      go_meet
      exact ⟨_, rfl, by rw [HE.out]; rfl, rfl⟩
  case rest =>
  obtain ⟨bb, rfl, hbb, rfl⟩ := hcut
  have HBB := hide hbb
  clear hbb
  go_upto_if 53 with fail
  go_cut [10] (fun _ wx => Nx wb wx)
  case first =>
    by_cases hx0 : 0 < nx
    · have m1 : (0 : Int) < (nx : Int) := by omega
      have e1 : decide (0 < nx) = true := decide_eq_true hx0
      by_cases ht0 : 0 < nt
      · have m2 : (0 : Int) < (nt : Int) := by omega
        have e2 : decide (0 < nt) = true := decide_eq_true ht0
        have hb : bb = true := by rw [HBB.out, e1, e2]; rfl
        subst hb
        have lx0 : 0 < xs.length := by omega
        have lt0 : 0 < ts.length := by omega
        obtain ⟨bx, ox, rfl, _, hbx, _, hxc⟩ := hC.x.1.open_ (Nx.refl wb) lx0
        obtain ⟨bt, ot, rfl, _, hbt, _, htc⟩ := hC.j.1.open_ (Nx.refl wb) lt0
        have hxx := hC.x.2 xs[0] (List.getElem_mem lx0)
        have htt := hC.j.2 ts[0] (List.getElem_mem lt0)
        have hx1 := hC.x.1.take 1
        have ht1 := hC.j.1.take 1
        have ex : xs.take 1 = [xs[0]] := by
          cases xs with
          | nil => exact absurd lx0 (by simp)
          | cons x l => simp
        have et : ts.take 1 = [ts[0]] := by
          cases ts with
          | nil => exact absurd lt0 (by simp)
          | cons x l => simp
        rw [ex] at hx1
        rw [et] at ht1
        have hxc0 : ∀ j u, (encX xs[0])[j]? = some u → wb.cell? ⟨bx, ox + j, none⟩ = some u := fun j u hu => by have := hxc 0 lx0 j u hu; simpa using this
        have htc0 : ∀ j u, (encJ ts[0])[j]? = some u → wb.cell? ⟨bt, ot + j, none⟩ = some u := fun j u hu => by have := htc 0 lt0 j u hu; simpa using this
        clear ex et hxc htc
        have j1 : 1 ≤ cx := by omega
        have j2 : (1 : Int) ≤ (cx : Int) := by omega
        have j3 : 1 ≤ cl := by omega
        have j4 : (1 : Int) ≤ (cl : Int) := by omega
        have j5 : (1 : Int) ≤ (nx : Int) := by omega
        have j6 : (1 : Int) ≤ (nt : Int) := by omega
        generalize xs[0] = x at *
        generalize ts[0] = t at *
        obtain ⟨Z1, hZ1⟩ : ∃ Z1, Z1 = zonesF zs := ⟨_, rfl⟩
        obtain ⟨K1, hK1⟩ : ∃ K1, K1 = passesF zs [x] := ⟨_, rfl⟩
        obtain ⟨J1, hJ1⟩ : ∃ J1, J1 = joursF [t] := ⟨_, rfl⟩
        obtain ⟨E1, hE1⟩ : ∃ E1, E1 = orI [passF zs [x], joursF [t]] := ⟨_, rfl⟩
        obtain ⟨CV, hCV⟩ : ∃ CV, CV = countsZ x t (crossO zs t.nodes) := ⟨_, rfl⟩
        obtain ⟨V, hV⟩ : ∃ V, V = if E1 = 0 then CV else false := ⟨_, rfl⟩
        have HE0 := hide (show Z1 = 0 → orI [K1, J1] = E1 by intro h; rw [hE1, passF, ← hZ1, if_pos h, ← hK1, ← hJ1])
        have HE1 := hide (show Z1 ≠ 0 → Z1 = E1 by intro h; rw [hE1, passF, ← hZ1, if_neg h]; simp [orI, h])
        have HCT : Hid (∀ W, Nx wb W → Calls Tryz.prog 13 #[.slice D nz c1, aggX x, aggJ t] W fun e w' => e = .returned (.tuple #[.bool V, .int .i64 E1]) ∧ Nx W w') := hide (fun W hn => by
          have h := w_CountsP D c1 zs x t W (hC.z.nx hn) hC.zl (hxx.1.nx hn) hxx.2.1 hxx.2.2.1 hxx.2.2.2.1 hxx.2.2.2.2 (htt.1.nx hn) htt.2.1 htt.2.2.1 htt.2.2.2.1 htt.2.2.2.2
          rw [← hE1, ← hCV, ← hV, hnz] at h; exact h)
        have HCF : Hid (∀ W, Nx wb W → Calls Tryz.prog 16 #[.slice D nz c1, aggX x, aggJ t] W fun e w' => e = .returned (.bool CV) ∧ Nx W w') := hide (fun W hn => by
          have h := w_CountsFor 0 0 0 D c1 zs x t W (hC.z.nx hn) hC.zl (htt.1.nx hn) (by have := htt.2.2.1; omega) (hxx.1.nx hn) (by have := hxx.2.2.1; omega)
          rw [← hCV, hnz] at h; exact h)
        have HZF : Hid (∀ W, Nx wb W → Calls Tryz.prog 10 #[.slice D nz c1] W fun e w' => e = .returned (.int .i64 Z1) ∧ Nx W w') := hide (fun W hn => by
          have h := w_ZonesFault 0 D c1 zs W (hC.z.nx hn) hC.zl
          rw [← hZ1, hnz] at h; exact h)
        have HPF : Hid (∀ W, Nx wb W → Calls Tryz.prog 11 #[.slice D nz c1, .slice (some ⟨bx, ox, none⟩) 1 cx] W fun e w' => e = .returned (.int .i64 K1) ∧ Nx W w') := hide (fun W hn => by
          have h := w_PassesFault 0 0 D (some ⟨bx, ox, none⟩) c1 cx zs [x] W (hC.z.nx hn) hC.zl ⟨hx1.nx hn, fun y hy => by rw [List.mem_singleton.1 hy]; exact ⟨hxx.1.nx hn, hxx.2⟩⟩ (by simp)
          rw [← hK1, hnz] at h; exact h)
        have HJF : Hid (∀ W, Nx wb W → Calls Tryz.prog 15 #[.slice (some ⟨bt, ot, none⟩) 1 cl] W fun e w' => e = .returned (.int .i64 J1) ∧ Nx W w') := hide (fun W hn => by
          have h := w_JourneysFault 0 (some ⟨bt, ot, none⟩) cl [t] W ⟨ht1.nx hn, fun y hy => by rw [List.mem_singleton.1 hy]; exact ⟨htt.1.nx hn, htt.2⟩⟩ (by simp)
          rw [← hJ1] at h; exact h)
        have HGF : Hid (∀ W, Nx wb W → (fun w' : World => w'.cell? ⟨bx, ox, none⟩ = some (.string x.key) ∧ w'.cell? ⟨bx, ox + 1, none⟩ = some (.string x.rider) ∧ w'.cell? ⟨bx, ox + 2, none⟩ = some (.int .i64 x.from_) ∧ w'.cell? ⟨bx, ox + 3, none⟩ = some (.int .i64 x.to_) ∧ w'.cell? ⟨bx, ox + 4, none⟩ = some (.slice x.a x.zones.length x.sc) ∧ w'.cell? ⟨bx, ox + 5, none⟩ = some (.int .i64 x.pay) ∧ w'.cell? ⟨bx, ox + 6, none⟩ = some (.int .i64 x.most) ∧ w'.cell? ⟨bt, ot, none⟩ = some (.string t.ride) ∧ w'.cell? ⟨bt, ot + 1, none⟩ = some (.string t.rider) ∧ w'.cell? ⟨bt, ot + 2, none⟩ = some (.slice t.a t.nodes.length t.cap) ∧ w'.cell? ⟨bt, ot + 3, none⟩ = some (.int .i64 t.metres) ∧ w'.cell? ⟨bt, ot + 4, none⟩ = some (.int .i64 t.from_) ∧ w'.cell? ⟨bt, ot + 5, none⟩ = some (.int .i64 t.to_)) W) := hide (fun W hn => by
          exact ⟨nx_cell hn hbx (hxc0 0 _ rfl), nx_cell hn hbx (hxc0 1 _ rfl), nx_cell hn hbx (hxc0 2 _ rfl), nx_cell hn hbx (hxc0 3 _ rfl), nx_cell hn hbx (hxc0 4 _ rfl), nx_cell hn hbx (hxc0 5 _ rfl), nx_cell hn hbx (hxc0 6 _ rfl), nx_cell hn hbt (htc0 0 _ rfl), nx_cell hn hbt (htc0 1 _ rfl), nx_cell hn hbt (htc0 2 _ rfl), nx_cell hn hbt (htc0 3 _ rfl), nx_cell hn hbt (htc0 4 _ rfl), nx_cell hn hbt (htc0 5 _ rfl)⟩)
        have HV := hide hV
        dsimp only [aggX, aggJ] at HCT HCF
        clear hC hxx htt hx1 ht1 hxc0 htc0 hZ1 hK1 hJ1 hE1 hCV hV hnz hnx hnt hF1 lx0 lt0
        go_upto_region 9 with fail
        go_cut [10, 11] (fun v v2 wx => v = .bool V ∧ v2 = .int .i64 E1 ∧ Nx wb wx)
        case first =>
          have HX := hide (Nx.refl wb)
          go_region_held3 (fun w' : World => w'.cell? ⟨bx, ox, none⟩ = some (.string x.key) ∧ w'.cell? ⟨bx, ox + 1, none⟩ = some (.string x.rider) ∧ w'.cell? ⟨bx, ox + 2, none⟩ = some (.int .i64 x.from_) ∧ w'.cell? ⟨bx, ox + 3, none⟩ = some (.int .i64 x.to_) ∧ w'.cell? ⟨bx, ox + 4, none⟩ = some (.slice x.a x.zones.length x.sc) ∧ w'.cell? ⟨bx, ox + 5, none⟩ = some (.int .i64 x.pay) ∧ w'.cell? ⟨bx, ox + 6, none⟩ = some (.int .i64 x.most) ∧ w'.cell? ⟨bt, ot, none⟩ = some (.string t.ride) ∧ w'.cell? ⟨bt, ot + 1, none⟩ = some (.string t.rider) ∧ w'.cell? ⟨bt, ot + 2, none⟩ = some (.slice t.a t.nodes.length t.cap) ∧ w'.cell? ⟨bt, ot + 3, none⟩ = some (.int .i64 t.metres) ∧ w'.cell? ⟨bt, ot + 4, none⟩ = some (.int .i64 t.from_) ∧ w'.cell? ⟨bt, ot + 5, none⟩ = some (.int .i64 t.to_))
            (first | (refine HGF.out _ ?_; (repeat (first | exact HX.out | refine Nx.trans ?_ hn3 | refine Nx.trans ?_ hn2 | refine Nx.trans ?_ hn1 | refine Nx.drew ?_ | refine Nx.drewN ?_ _ | refine Nx.alloc ?_ _ | exact Nx.refl _)); done))
            (first | (go_at_call 13; refine (HCT.out _ ?_).mono ?_; (· (repeat (first | exact HX.out | refine Nx.trans ?_ hn3 | refine Nx.trans ?_ hn2 | refine Nx.trans ?_ hn1 | refine Nx.drew ?_ | refine Nx.drewN ?_ _ | refine Nx.alloc ?_ _ | exact Nx.refl _))); rintro e w1 ⟨rfl, hn1⟩))
          all_goals
            (go_wp2
             go_meet
             exact ⟨rfl, rfl, by repeat (first | exact HX.out | refine Nx.trans ?_ hn3 | refine Nx.trans ?_ hn2 | refine Nx.trans ?_ hn1 | refine Nx.drew ?_ | refine Nx.drewN ?_ _ | refine Nx.alloc ?_ _ | exact Nx.refl _)⟩)
        case rest =>
        obtain ⟨rfl, rfl, hx⟩ := hcut
        obtain ⟨wd, hwd⟩ : ∃ wd, wd = wc := ⟨_, rfl⟩
        rw [← hwd] at hx ⊢
        have HX := hide hx
        clear hwd hx HCT
        go_upto_region 10 with fail
        go_cut [12] (fun v wx => v = .int .i64 Z1 ∧ Nx wb wx)
        case first =>
          go_wp2_with (go_at_call 10; refine (HZF.out _ HX.out).mono ?_; rintro e w1 ⟨rfl, hn1⟩)
          go_meet
          exact ⟨rfl, HX.out.trans hn1⟩
        case rest =>
        obtain ⟨rfl, hx⟩ := hcut
        clear HX
        obtain ⟨wd2, hwd⟩ : ∃ wd2, wd2 = wc := ⟨_, rfl⟩
        rw [← hwd] at hx ⊢
        have HX := hide hx
        clear hwd hx HZF
        go_upto_if 68 with fail
        go_cut [12] (fun v wx => v = .int .i64 E1 ∧ Nx wb wx)
        case first =>
          by_cases hz : Z1 = 0
          · have t1 : (Z1 == 0) = true := by simpa using hz
            have HOO := hide (HE0.out hz)
            clear hz HE0 HE1
            go_upto_region 12 with fail
            go_region_held3 (fun _ => True)
              (first | trivial)
              (first
                | (go_at_call 11; refine (HPF.out _ ?_).mono ?_; (· (repeat (first | exact HX.out | refine Nx.trans ?_ hn3 | refine Nx.trans ?_ hn2 | refine Nx.trans ?_ hn1 | refine Nx.drew ?_ | refine Nx.drewN ?_ _ | refine Nx.alloc ?_ _ | exact Nx.refl _))); rintro e w1 ⟨rfl, hn1⟩)
                | (go_at_call 15; refine (HJF.out _ ?_).mono ?_; (· (repeat (first | exact HX.out | refine Nx.trans ?_ hn3 | refine Nx.trans ?_ hn2 | refine Nx.trans ?_ hn1 | refine Nx.drew ?_ | refine Nx.drewN ?_ _ | refine Nx.alloc ?_ _ | exact Nx.refl _))); rintro e w2 ⟨rfl, hn2⟩)
                | (go_at_call 14; refine (w_Or2 K1 J1 _ _ _ (hnew rfl)).mono ?_; rw [HOO.out]; rintro e w4 ⟨rfl, rfl⟩))
            all_goals
              (go_wp2
               go_meet
               exact ⟨rfl, by repeat (first | exact HX.out | refine Nx.trans ?_ hn3 | refine Nx.trans ?_ hn2 | refine Nx.trans ?_ hn1 | refine Nx.drew ?_ | refine Nx.drewN ?_ _ | refine Nx.alloc ?_ _ | exact Nx.refl _)⟩)
          · have t1 : (Z1 == 0) = false := by simpa using hz
            have hze := HE1.out hz
            clear hz HE0 HE1
            subst hze
            go_wp2_with fail
            go_meet
            exact ⟨rfl, HX.out⟩
        case rest =>
        obtain ⟨rfl, hx⟩ := hcut
        clear HX
        obtain ⟨wd3, hwd⟩ : ∃ wd3, wd3 = wc := ⟨_, rfl⟩
        rw [← hwd] at hx ⊢
        have HX := hide hx
        clear hwd hx HPF HJF HE0 HE1
        go_upto_region 13 with fail
        go_cut [96] (fun v wx => v = .bool false ∧ Nx wb wx)
        case first =>
          have tF : (E1 != E1) = false := by simp
          by_cases h0 : E1 = 0
          · have hv : V = CV := by rw [HV.out, if_pos h0]
            subst hv
            have t3 : (V != V) = false := by simp
            clear HV tF
            subst h0
            have hx : Nx wb wd3.drew := HX.out.drew
            refine wp_region_held_drew (S := (fun w' : World => w'.cell? ⟨bx, ox, none⟩ = some (.string x.key) ∧ w'.cell? ⟨bx, ox + 1, none⟩ = some (.string x.rider) ∧ w'.cell? ⟨bx, ox + 2, none⟩ = some (.int .i64 x.from_) ∧ w'.cell? ⟨bx, ox + 3, none⟩ = some (.int .i64 x.to_) ∧ w'.cell? ⟨bx, ox + 4, none⟩ = some (.slice x.a x.zones.length x.sc) ∧ w'.cell? ⟨bx, ox + 5, none⟩ = some (.int .i64 x.pay) ∧ w'.cell? ⟨bx, ox + 6, none⟩ = some (.int .i64 x.most) ∧ w'.cell? ⟨bt, ot, none⟩ = some (.string t.ride) ∧ w'.cell? ⟨bt, ot + 1, none⟩ = some (.string t.rider) ∧ w'.cell? ⟨bt, ot + 2, none⟩ = some (.slice t.a t.nodes.length t.cap) ∧ w'.cell? ⟨bt, ot + 3, none⟩ = some (.int .i64 t.metres) ∧ w'.cell? ⟨bt, ot + 4, none⟩ = some (.int .i64 t.from_) ∧ w'.cell? ⟨bt, ot + 5, none⟩ = some (.int .i64 t.to_))) (by kernel_rfl) (HGF.out _ hx) (fun hHeld => ?_)
            generalize wd3.drew = wd at *
            refine wpAnyH_take (i := 0) (oi := ⟨some 78, _, _, _, _, _⟩) (v := ?_) rfl (by kernel_rfl) (by kernel_rfl) (by kernel_rfl) (fun _ _ _ h => h) (Or.inl ⟨by rfl, ?_⟩) (by assumption) ?_
            rotate_left 1
            · intro w hSw
              (try dsimp only at hSw)
              go_simp
              try with_reducible rfl
            try simp only [Act.put, List.setIfInBounds_toArray, List.set_cons_zero, List.set_cons_succ]
            refine wpAnyH_take (i := 1) (oi := ⟨some 79, _, _, _, _, _⟩) (v := ?_) rfl (by kernel_rfl) (by kernel_rfl) (by kernel_rfl) (fun _ _ _ h => h) (Or.inl ⟨by rfl, ?_⟩) (by assumption) ?_
            rotate_left 1
            · intro w hSw
              (try dsimp only at hSw)
              go_simp
              try with_reducible rfl
            try simp only [Act.put, List.setIfInBounds_toArray, List.set_cons_zero, List.set_cons_succ]
            refine wpAnyH_take (i := 2) (oi := ⟨some 80, _, _, _, _, _⟩) (v := ?_) rfl (by kernel_rfl) (by kernel_rfl) (by kernel_rfl) (fun _ _ _ h => h) (Or.inl ⟨by rfl, ?_⟩) (by assumption) ?_
            rotate_left 1
            · intro w hSw
              (try dsimp only at hSw)
              go_simp
              try with_reducible rfl
            try simp only [Act.put, List.setIfInBounds_toArray, List.set_cons_zero, List.set_cons_succ]
            refine wpAnyH_take (i := 3) (oi := ⟨some 81, _, _, _, _, _⟩) (v := ?_) rfl (by kernel_rfl) (by kernel_rfl) (by kernel_rfl) (fun _ _ _ h => h) (Or.inl ⟨by rfl, ?_⟩) (by assumption) ?_
            rotate_left 1
            · intro w hSw
              (try dsimp only at hSw)
              go_simp
              try with_reducible rfl
            try simp only [Act.put, List.setIfInBounds_toArray, List.set_cons_zero, List.set_cons_succ]
            refine wpAnyH_take (i := 4) (oi := ⟨some 82, _, _, _, _, _⟩) (v := ?_) rfl (by kernel_rfl) (by kernel_rfl) (by kernel_rfl) (fun _ _ _ h => h) (Or.inl ⟨by rfl, ?_⟩) (by assumption) ?_
            rotate_left 1
            · intro w hSw
              (try dsimp only at hSw)
              go_simp
              try with_reducible rfl
            try simp only [Act.put, List.setIfInBounds_toArray, List.set_cons_zero, List.set_cons_succ]
            refine wpAnyH_take (i := 5) (oi := ⟨some 83, _, _, _, _, _⟩) (v := ?_) rfl (by kernel_rfl) (by kernel_rfl) (by kernel_rfl) (fun _ _ _ h => h) (Or.inl ⟨by rfl, ?_⟩) (by assumption) ?_
            rotate_left 1
            · intro w hSw
              (try dsimp only at hSw)
              go_simp
              try with_reducible rfl
            try simp only [Act.put, List.setIfInBounds_toArray, List.set_cons_zero, List.set_cons_succ]
            refine wpAnyH_take (i := 6) (oi := ⟨some 84, _, _, _, _, _⟩) (v := ?_) rfl (by kernel_rfl) (by kernel_rfl) (by kernel_rfl) (fun _ _ _ h => h) (Or.inl ⟨by rfl, ?_⟩) (by assumption) ?_
            rotate_left 1
            · intro w hSw
              (try dsimp only at hSw)
              go_simp
              try with_reducible rfl
            try simp only [Act.put, List.setIfInBounds_toArray, List.set_cons_zero, List.set_cons_succ]
            refine wpAnyH_take (i := 7) (oi := ⟨some 85, _, _, _, _, _⟩) (v := ?_) rfl (by kernel_rfl) (by kernel_rfl) (by kernel_rfl) (fun _ _ _ h => h) (Or.inl ⟨by rfl, ?_⟩) (by assumption) ?_
            rotate_left 1
            · intro w hSw
              (try dsimp only at hSw)
              go_simp
              try with_reducible rfl
            try simp only [Act.put, List.setIfInBounds_toArray, List.set_cons_zero, List.set_cons_succ]
            refine wpAnyH_take (i := 8) (oi := ⟨some 86, _, _, _, _, _⟩) (v := ?_) rfl (by kernel_rfl) (by kernel_rfl) (by kernel_rfl) (fun _ _ _ h => h) (Or.inl ⟨by rfl, ?_⟩) (by assumption) ?_
            rotate_left 1
            · intro w hSw
              (try dsimp only at hSw)
              go_simp
              try with_reducible rfl
            try simp only [Act.put, List.setIfInBounds_toArray, List.set_cons_zero, List.set_cons_succ]
            refine wpAnyH_take (i := 9) (oi := ⟨some 87, _, _, _, _, _⟩) (v := ?_) rfl (by kernel_rfl) (by kernel_rfl) (by kernel_rfl) (fun _ _ _ h => h) (Or.inl ⟨by rfl, ?_⟩) (by assumption) ?_
            rotate_left 1
            · intro w hSw
              (try dsimp only at hSw)
              go_simp
              try with_reducible rfl
            try simp only [Act.put, List.setIfInBounds_toArray, List.set_cons_zero, List.set_cons_succ]
            refine wpAnyH_take (i := 10) (oi := ⟨some 88, _, _, _, _, _⟩) (v := ?_) rfl (by kernel_rfl) (by kernel_rfl) (by kernel_rfl) (fun _ _ _ h => h) (Or.inl ⟨by rfl, ?_⟩) (by assumption) ?_
            rotate_left 1
            · intro w hSw
              (try dsimp only at hSw)
              go_simp
              try with_reducible rfl
            try simp only [Act.put, List.setIfInBounds_toArray, List.set_cons_zero, List.set_cons_succ]
            refine wpAnyH_take (i := 11) (oi := ⟨some 89, _, _, _, _, _⟩) (v := ?_) rfl (by kernel_rfl) (by kernel_rfl) (by kernel_rfl) (fun _ _ _ h => h) (Or.inl ⟨by rfl, ?_⟩) (by assumption) ?_
            rotate_left 1
            · intro w hSw
              (try dsimp only at hSw)
              go_simp
              try with_reducible rfl
            try simp only [Act.put, List.setIfInBounds_toArray, List.set_cons_zero, List.set_cons_succ]
            refine wpAnyH_take (i := 12) (oi := ⟨some 90, _, _, _, _, _⟩) (v := ?_) rfl (by kernel_rfl) (by kernel_rfl) (by kernel_rfl) (fun _ _ _ h => h) (Or.inl ⟨by rfl, ?_⟩) (by assumption) ?_
            rotate_left 1
            · intro w hSw
              (try dsimp only at hSw)
              go_simp
              try with_reducible rfl
            try simp only [Act.put, List.setIfInBounds_toArray, List.set_cons_zero, List.set_cons_succ]
            refine wpAnyH_take (i := 13) (oi := ⟨some 91, _, _, _, _, _⟩) (v := ?_) rfl (by kernel_rfl) (by kernel_rfl) (by kernel_rfl) (fun _ _ _ h => h) (Or.inl ⟨by rfl, ?_⟩) (by assumption) ?_
            rotate_left 1
            · intro w hSw
              (try dsimp only at hSw)
              go_simp
              try with_reducible rfl
            try simp only [Act.put, List.setIfInBounds_toArray, List.set_cons_zero, List.set_cons_succ]
            refine wpAnyH_take (i := 14) (oi := ⟨some 92, _, _, _, _, _⟩) (v := ?_) rfl (by kernel_rfl) (by kernel_rfl) (by kernel_rfl) (fun _ _ _ h => h) (Or.inl ⟨by rfl, ?_⟩) (by assumption) ?_
            rotate_left 1
            · intro w hSw
              (try dsimp only at hSw)
              go_simp
              try with_reducible rfl
            try simp only [Act.put, List.setIfInBounds_toArray, List.set_cons_zero, List.set_cons_succ]
            refine wpAnyH_ready (rs := [15]) (by kernel_rfl) (by simp) ?_
            refine AllReadyH.cons rfl (fun K hK => ?_) AllReadyH.nil
            go_simp
            go_at_call 16
            refine (HCF.out _ hx).mono ?_
            rintro e w1 ⟨rfl, hn1⟩
            replace hx := hx.trans hn1
            go_simp
            refine hK.out _ _ (HGF.out _ hx) (fun hHeld => ?_)
            clear hK K
            try simp only [Act.put, List.setIfInBounds_toArray, List.set_cons_zero, List.set_cons_succ]
            refine wpAnyH_take (i := 16) (oi := ⟨some 94, _, _, _, _, _⟩) (v := ?_) rfl (by kernel_rfl) (by kernel_rfl) (by kernel_rfl) (fun _ _ _ h => h) (Or.inl ⟨by rfl, ?_⟩) (by assumption) ?_
            rotate_left 1
            · intro w hSw
              (try dsimp only at hSw)
              go_simp
              try with_reducible rfl
            try simp only [Act.put, List.setIfInBounds_toArray, List.set_cons_zero, List.set_cons_succ]
            refine wpAnyH_take (i := 17) (oi := ⟨some 95, _, _, _, _, _⟩) (v := ?_) rfl (by kernel_rfl) (by kernel_rfl) (by kernel_rfl) (fun _ _ _ h => h) (Or.inl ⟨by rfl, ?_⟩) (by assumption) ?_
            rotate_left 1
            · intro w hSw
              (try dsimp only at hSw)
              go_simp
              try with_reducible rfl
            try simp only [Act.put, List.setIfInBounds_toArray, List.set_cons_zero, List.set_cons_succ]
            refine wpAnyH_take (i := 18) (oi := ⟨some 96, _, _, _, _, _⟩) (v := ?_) rfl (by kernel_rfl) (by kernel_rfl) (by kernel_rfl) (fun _ _ _ h => h) (Or.inl ⟨by rfl, ?_⟩) (by assumption) ?_
            rotate_left 1
            · intro w hSw
              (try dsimp only at hSw)
              go_simp
              try with_reducible rfl
            try simp only [Act.put, List.setIfInBounds_toArray, List.set_cons_zero, List.set_cons_succ]
            refine wpAnyH_done (by kernel_rfl) ?_ _
            go_wp2
            go_meet
            exact ⟨rfl, hx⟩
          · have hv : V = false := by rw [HV.out, if_neg h0]
            subst hv
            have t1 : (E1 == 0) = false := by simpa using h0
            clear h0 HV
            go_quiet (fail)
            go_wp2
            go_meet
            exact ⟨rfl, by repeat (first | exact HX.out | refine Nx.trans ?_ hn3 | refine Nx.trans ?_ hn2 | refine Nx.trans ?_ hn1 | refine Nx.drew ?_ | refine Nx.drewN ?_ _ | refine Nx.alloc ?_ _ | exact Nx.refl _)⟩
        case rest =>
        obtain ⟨rfl, hx⟩ := hcut
        have HX2 := hide hx
        clear HX hx
        go_wp2_with fail
        go_meet
        exact HX2.out
      · have e2 : decide (0 < nt) = false := decide_eq_false ht0
        have hb : bb = false := by rw [HBB.out, e1, e2]; rfl
        subst hb
        clear hC hnz hnx hnt hF1 ht0 e1 e2 HBB
        go_wp2_with fail
        go_meet
        exact Nx.refl _
    · have e1 : decide (0 < nx) = false := decide_eq_false hx0
      have hb : bb = false := by rw [HBB.out, e1]; rfl
      subst hb
      clear hC hnz hnx hnt hF1 hx0 e1 HBB
      go_wp2_with fail
      go_meet
      exact Nx.refl _
  case rest =>
  by_cases h0 : faultB zs p xs ts = 0
  · cases hd : outB day 0 4000
    · skip
      refine ‹∀ (a : Act) (w_1 : World), Code.wp _ _ _ a w_1 → _› _ _ ?_
      exact st_PC15O (hC.then hcut) hnz hnx hnt hF1 h0 hd
    · skip
      refine ‹∀ (a : Act) (w_1 : World), Code.wp _ _ _ a w_1 → _› _ _ ?_
      exact st_PC15Y (hC.then hcut) hnz hnx hnt hF1 h0 hd
  · skip
    refine ‹∀ (a : Act) (w_1 : World), Code.wp _ _ _ a w_1 → _› _ _ ?_
    exact st_PC15X (hC.then hcut) hnz hnx hnt hF1 h0
end Go.Proofs.YtemaiikgnogfhaaGreatDoor
