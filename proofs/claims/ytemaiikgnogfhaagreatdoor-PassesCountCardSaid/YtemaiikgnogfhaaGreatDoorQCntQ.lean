/- The program's Counts. -/
import Derived.Test.YtemaiikgnogfhaaGreatDoorQCntP
import Derived.Deep.DeepCutAuto
import Derived.Deep.RegionHeld
import Derived.RegionTactic
namespace Go.Proofs.YtemaiikgnogfhaaGreatDoor
open Go.RowKit

theorem passF_zero {zs : List Zone} {ps : List Pass} (h : passF zs ps = 0) : zonesF zs = 0 ∧ passesF zs ps = 0 := by
  unfold passF at h
  by_cases hz : zonesF zs = 0
  · rw [if_pos hz] at h; exact ⟨hz, h⟩
  · rw [if_neg hz] at h; exact absurd h hz
theorem orI_zero2 {a b : Int} (h : orI [a, b] = 0) : a = 0 ∧ b = 0 := by
  unfold orI at h
  by_cases ha : a = 0
  · rw [if_pos ha] at h
    unfold orI at h
    by_cases hb : b = 0
    · exact ⟨ha, hb⟩
    · simp [hb] at h
  · simp [ha] at h
set_option maxRecDepth 100000 in
set_option maxHeartbeats 2000000 in
theorem w_CountsP (D : Option Addr) (c : Nat) (zs : List Zone) (x : Pass) (t : Jour) (w : World) (hZ : RdZones w 0 D zs) (hzl : zs.length ≤ 100)
    (hX : Rd w 0 x.a 1 encS x.zones) (hXs : Small x.zones) (hXl : x.zones.length ≤ 2000) (hXk : x.key.size ≤ 1000000) (hXr : x.rider.size ≤ 1000000)
    (hT : Rd w 0 t.a 1 encS t.nodes) (hTs : Small t.nodes) (hTl : t.nodes.length ≤ 2000) (hTk : t.ride.size ≤ 1000000) (hTr : t.rider.size ≤ 1000000) :
    Calls Tryz.prog 13 #[.slice D zs.length c, aggX x, aggJ t] w fun e w' => e = .returned (.tuple #[.bool (if orI [passF zs [x], joursF [t]] = 0 then countsZ x t (crossO zs t.nodes) else false), .int .i64 (orI [passF zs [x], joursF [t]])]) ∧ Nx w w' := by
  obtain ⟨F, hF⟩ : ∃ F, F = orI [passF zs [x], joursF [t]] := ⟨_, rfl⟩
  obtain ⟨V, hV⟩ : ∃ V, V = countsZ x t (crossO zs t.nodes) := ⟨_, rfl⟩
  rw [← hF, ← hV]
  obtain ⟨R, hRe⟩ : ∃ R, R = if F = 0 then V else false := ⟨_, rfl⟩
  rw [← hRe]
  have HRR := hide hRe
  clear hRe
  obtain ⟨F1, hF1⟩ : ∃ F1, F1 = passF zs [x] := ⟨_, rfl⟩
  obtain ⟨F2, hF2⟩ : ∃ F2, F2 = joursF [t] := ⟨_, rfl⟩
  rw [← hF1, ← hF2] at hF
  have HCP : Hid (∀ (g : Nat) (W : World), Nx w W → Rd W 0 (some ⟨g, 0, none⟩) 7 encX [x] → Calls Tryz.prog 12 #[.slice D zs.length c, .slice (some ⟨g, 0, none⟩) 1 1] W fun e w' => e = .returned (.int .i64 F1) ∧ Nx W w') := hide (fun g W hn hr => by
    have h := w_CheckPasses 0 0 D (some ⟨g, 0, none⟩) c 1 zs [x] W (hZ.nx hn) hzl ⟨hr, fun y hy => by rw [List.mem_singleton.1 hy]; exact ⟨hX.nx hn, hXs, hXl, hXk, hXr⟩⟩ (by simp)
    rw [← hF1] at h; exact h)
  have HCJ : Hid (∀ (g : Nat) (W : World), Nx w W → Rd W 0 (some ⟨g, 0, none⟩) 6 encJ [t] → Calls Tryz.prog 42 #[.slice (some ⟨g, 0, none⟩) 1 1] W fun e w' => e = .returned (.int .i64 F2) ∧ Nx W w') := hide (fun g W hn hr => by
    have h := w_CheckTrips 0 (some ⟨g, 0, none⟩) 1 [t] W ⟨hr, fun y hy => by rw [List.mem_singleton.1 hy]; exact ⟨hT.nx hn, hTs, hTl, hTk, hTr⟩⟩ (by simp)
    rw [← hF2] at h; exact h)
  have HCF : Hid (∀ (g : Nat) (W : World), W.heap[g]? = some (.cells #[.int .i64 F1, .int .i64 F2] 37 (0, 0)) → Calls Tryz.prog 41 #[.slice (some ⟨g, 0, none⟩) 2 2] W fun e w' => e = .returned (.int .i64 F) ∧ W = w') := hide (fun g W hg => by
    have h := w_FirstE 0 (some ⟨g, 0, none⟩) 2 [F1, F2] W (Rd.lit hg (Nat.zero_le _) (fun _ => rfl) rfl) (by simp)
    rw [← hF] at h; exact h)
  obtain ⟨cr, hcr⟩ : ∃ cr, cr = crossO zs t.nodes := ⟨_, rfl⟩
  have hcl : cr.length ≤ 65536 := by have := crossO_len zs t.nodes; rw [hcr]; omega
  rw [← hcr] at hV
  have HCR : Hid (F = 0 → ∀ W, Nx w W → Calls Tryz.prog 44 #[.slice D zs.length c, .slice t.a t.nodes.length t.cap] W (StrsR cr W)) := hide (fun h0 W hn => by
    have h1 := orI_zero2 (hF.symm.trans h0)
    have h := w_crossed 0 0 D t.a c t.cap zs t.nodes W (hZ.nx hn) hzl (zonesF_sorted (passF_zero (hF1.symm.trans h1.1)).1) (hT.nx hn) (by omega)
    rw [← hcr] at h; exact h)
  have HCN : Hid (∀ (lo : Nat) (C : Option Addr) (cc : Nat) (W : World), Nx w W → Rd W lo C 1 encS cr → Calls Tryz.prog 43 #[aggX x, aggJ t, .slice C cr.length cc] W fun e w' => e = .returned (.bool V) ∧ Nx W w') := hide (fun lo C cc W hn hr => by
    have h := w_counts lo 0 C cc x t cr W hr hcl (hX.nx hn) (by omega)
    rw [← hV] at h; exact h)
  clear hF hF1 hF2 hcr hcl hV hZ hX hXs hXl hXk hXr hT hTs hTl hTk hTr hzl
  generalize zs.length = nz at *
  obtain ⟨k1, k2, f2, f3, xa, cp, nds, f5, f6⟩ := x
  obtain ⟨j1, j2, ta, tc, tns, me, fr, to_⟩ := t
  dsimp only [aggX, aggJ] at *
  obtain ⟨m, hm⟩ : ∃ m, m = nds.length := ⟨_, rfl⟩
  obtain ⟨tn, htn⟩ : ∃ tn, tn = tns.length := ⟨_, rfl⟩
  rw [← hm, ← htn] at HCN ⊢
  rw [← htn] at HCR
  have HM := hide hm
  have HTN := hide htn
  clear hm htn
  go_enter Tryz.func13, Tryz.ntmps13
  go_upto_region 1 with fail
  obtain ⟨b1, hb1⟩ : ∃ b1, b1 = w.heap.size := ⟨_, rfl⟩
  obtain ⟨wb, hwb⟩ : ∃ wb, wb = (w.alloc (.cells #[.string k1, .string k2, .int .i64 f2, .int .i64 f3, .slice xa m cp, .int .i64 f5, .int .i64 f6] 46 (0, 0))).alloc (.cells #[.string j1, .string j2, .slice ta tn tc, .int .i64 me, .int .i64 fr, .int .i64 to_] 48 (0, 0)) := ⟨_, rfl⟩
  have HX := hide (show Nx w wb from hwb ▸ ((Nx.refl w).alloc _).alloc _)
  have HB1 := hide (show wb.heap[b1]? = some (.cells #[.string k1, .string k2, .int .i64 f2, .int .i64 f3, .slice xa m cp, .int .i64 f5, .int .i64 f6] 46 (0, 0)) by rw [hwb, hb1]; exact (((Nx.refl _).alloc _).block _ (by simp)).trans (heap_alloc_new w _))
  have HB2 := hide (show wb.heap[b1 + 1]? = some (.cells #[.string j1, .string j2, .slice ta tn tc, .int .i64 me, .int .i64 fr, .int .i64 to_] 48 (0, 0)) by rw [hwb, hb1]; exact hnew (by simp))
  have hb1l := (Array.getElem?_eq_some_iff.1 HB1.out).1
  have hb2l := (Array.getElem?_eq_some_iff.1 HB2.out).1
  rw [← hwb, ← hb1]
  clear hwb hb1
  have HGF : Hid (∀ W, Nx wb W → (fun w' : World => w'.cell? ⟨b1, 0, none⟩ = some (.string k1) ∧ w'.cell? ⟨b1, 1, none⟩ = some (.string k2) ∧ w'.cell? ⟨b1, 2, none⟩ = some (.int .i64 f2) ∧ w'.cell? ⟨b1, 3, none⟩ = some (.int .i64 f3) ∧ w'.cell? ⟨b1, 4, none⟩ = some (.slice xa m cp) ∧ w'.cell? ⟨b1, 5, none⟩ = some (.int .i64 f5) ∧ w'.cell? ⟨b1, 6, none⟩ = some (.int .i64 f6) ∧ w'.cell? ⟨b1 + 1, 0, none⟩ = some (.string j1) ∧ w'.cell? ⟨b1 + 1, 1, none⟩ = some (.string j2) ∧ w'.cell? ⟨b1 + 1, 2, none⟩ = some (.slice ta tn tc) ∧ w'.cell? ⟨b1 + 1, 3, none⟩ = some (.int .i64 me) ∧ w'.cell? ⟨b1 + 1, 4, none⟩ = some (.int .i64 fr) ∧ w'.cell? ⟨b1 + 1, 5, none⟩ = some (.int .i64 to_)) W) := hide (fun W hn => by
    exact ⟨nx_cell hn hb1l (cell_of_row wb b1 0 _ _ _ HB1.out), nx_cell hn hb1l (cell_of_row wb b1 1 _ _ _ HB1.out), nx_cell hn hb1l (cell_of_row wb b1 2 _ _ _ HB1.out), nx_cell hn hb1l (cell_of_row wb b1 3 _ _ _ HB1.out), nx_cell hn hb1l (cell_of_row wb b1 4 _ _ _ HB1.out), nx_cell hn hb1l (cell_of_row wb b1 5 _ _ _ HB1.out), nx_cell hn hb1l (cell_of_row wb b1 6 _ _ _ HB1.out), nx_cell hn hb2l (cell_of_row wb (b1 + 1) 0 _ _ _ HB2.out), nx_cell hn hb2l (cell_of_row wb (b1 + 1) 1 _ _ _ HB2.out), nx_cell hn hb2l (cell_of_row wb (b1 + 1) 2 _ _ _ HB2.out), nx_cell hn hb2l (cell_of_row wb (b1 + 1) 3 _ _ _ HB2.out), nx_cell hn hb2l (cell_of_row wb (b1 + 1) 4 _ _ _ HB2.out), nx_cell hn hb2l (cell_of_row wb (b1 + 1) 5 _ _ _ HB2.out)⟩)
  have HWB := HX
  clear HX
  have HX := hide (Nx.refl wb)
  go_cut [8] (fun v wx => v = .int .i64 F ∧ Nx wb wx)
  case first =>
    go_region_held3 (fun w' : World => w'.cell? ⟨b1, 0, none⟩ = some (.string k1) ∧ w'.cell? ⟨b1, 1, none⟩ = some (.string k2) ∧ w'.cell? ⟨b1, 2, none⟩ = some (.int .i64 f2) ∧ w'.cell? ⟨b1, 3, none⟩ = some (.int .i64 f3) ∧ w'.cell? ⟨b1, 4, none⟩ = some (.slice xa m cp) ∧ w'.cell? ⟨b1, 5, none⟩ = some (.int .i64 f5) ∧ w'.cell? ⟨b1, 6, none⟩ = some (.int .i64 f6) ∧ w'.cell? ⟨b1 + 1, 0, none⟩ = some (.string j1) ∧ w'.cell? ⟨b1 + 1, 1, none⟩ = some (.string j2) ∧ w'.cell? ⟨b1 + 1, 2, none⟩ = some (.slice ta tn tc) ∧ w'.cell? ⟨b1 + 1, 3, none⟩ = some (.int .i64 me) ∧ w'.cell? ⟨b1 + 1, 4, none⟩ = some (.int .i64 fr) ∧ w'.cell? ⟨b1 + 1, 5, none⟩ = some (.int .i64 to_))
      (first | (refine HGF.out _ ?_; (repeat (first | exact HX.out | refine Nx.trans ?_ hn3 | refine Nx.trans ?_ hn2 | refine Nx.trans ?_ hn1 | refine Nx.drew ?_ | refine Nx.drewN ?_ _ | refine Nx.alloc ?_ _ | exact Nx.refl _)); done))
      (first
        | (go_at_call 12; refine (HCP.out _ _ ?_ ?_).mono ?_; (· (refine Nx.trans HWB.out ?_; repeat (first | exact HX.out | refine Nx.trans ?_ hn3 | refine Nx.trans ?_ hn2 | refine Nx.trans ?_ hn1 | refine Nx.drew ?_ | refine Nx.drewN ?_ _ | refine Nx.alloc ?_ _ | exact Nx.refl _))); (· (repeat (first | (refine Rd.lit (hnew ?_) (Nat.zero_le _) (fun _ => rfl) ?_ <;> first | rfl | (rw [HM.out]; rfl) | (rw [HTN.out]; rfl) | (simp; done)) | refine Rd.nx ?_ hn2 | refine Rd.nx ?_ hn1 | refine Rd.nx ?_ (Nx.alloc (Nx.refl _) _) | refine Rd.nx ?_ (Nx.drew (Nx.refl _))))); rintro e w1 ⟨rfl, hn1⟩)
        | (go_at_call 42; refine (HCJ.out _ _ ?_ ?_).mono ?_; (· (refine Nx.trans HWB.out ?_; repeat (first | exact HX.out | refine Nx.trans ?_ hn3 | refine Nx.trans ?_ hn2 | refine Nx.trans ?_ hn1 | refine Nx.drew ?_ | refine Nx.drewN ?_ _ | refine Nx.alloc ?_ _ | exact Nx.refl _))); (· (repeat (first | (refine Rd.lit (hnew ?_) (Nat.zero_le _) (fun _ => rfl) ?_ <;> first | rfl | (rw [HM.out]; rfl) | (rw [HTN.out]; rfl) | (simp; done)) | refine Rd.nx ?_ hn2 | refine Rd.nx ?_ hn1 | refine Rd.nx ?_ (Nx.alloc (Nx.refl _) _) | refine Rd.nx ?_ (Nx.drew (Nx.refl _))))); rintro e w2 ⟨rfl, hn2⟩)
        | (go_at_call 41; refine (HCF.out _ _ (hnew rfl)).mono ?_; rintro e w4 ⟨rfl, rfl⟩))
    all_goals
      (go_wp2
       go_meet
       exact ⟨rfl, by repeat (first | exact HX.out | refine Nx.trans ?_ hn3 | refine Nx.trans ?_ hn2 | refine Nx.trans ?_ hn1 | refine Nx.drew ?_ | refine Nx.drewN ?_ _ | refine Nx.alloc ?_ _ | exact Nx.refl _)⟩)
  case rest =>
  obtain ⟨rfl, hx⟩ := hcut
  clear HX
  obtain ⟨wd, hwd⟩ : ∃ wd, wd = wc := ⟨_, rfl⟩
  rw [← hwd] at hx ⊢
  have HX := hide hx
  clear hwd hx HCP HCJ HCF
  by_cases h0 : F = 0
  · have HRV := hide (show R = V by rw [HRR.out, if_pos h0])
    have HC0 := hide (HCR.out h0)
    clear HRR
    subst h0
    go_upto_region 4 with fail
    go_region_held3 (fun w' : World => w'.cell? ⟨b1, 0, none⟩ = some (.string k1) ∧ w'.cell? ⟨b1, 1, none⟩ = some (.string k2) ∧ w'.cell? ⟨b1, 2, none⟩ = some (.int .i64 f2) ∧ w'.cell? ⟨b1, 3, none⟩ = some (.int .i64 f3) ∧ w'.cell? ⟨b1, 4, none⟩ = some (.slice xa m cp) ∧ w'.cell? ⟨b1, 5, none⟩ = some (.int .i64 f5) ∧ w'.cell? ⟨b1, 6, none⟩ = some (.int .i64 f6) ∧ w'.cell? ⟨b1 + 1, 0, none⟩ = some (.string j1) ∧ w'.cell? ⟨b1 + 1, 1, none⟩ = some (.string j2) ∧ w'.cell? ⟨b1 + 1, 2, none⟩ = some (.slice ta tn tc) ∧ w'.cell? ⟨b1 + 1, 3, none⟩ = some (.int .i64 me) ∧ w'.cell? ⟨b1 + 1, 4, none⟩ = some (.int .i64 fr) ∧ w'.cell? ⟨b1 + 1, 5, none⟩ = some (.int .i64 to_))
      (first | (refine HGF.out _ ?_; (repeat (first | exact HX.out | refine Nx.trans ?_ hn3 | refine Nx.trans ?_ hn2 | refine Nx.trans ?_ hn1 | refine Nx.drew ?_ | refine Nx.drewN ?_ _ | refine Nx.alloc ?_ _ | exact Nx.refl _)); done))
      (first
        | (go_at_call 44; refine (HC0.out _ ?_).mono ?_; (· (refine Nx.trans HWB.out ?_; repeat (first | exact HX.out | refine Nx.trans ?_ hn3 | refine Nx.trans ?_ hn2 | refine Nx.trans ?_ hn1 | refine Nx.drew ?_ | refine Nx.drewN ?_ _ | refine Nx.alloc ?_ _ | exact Nx.refl _))); rintro e w1 ⟨C, cc, rfl, hr1, hn1⟩; (have HR1 := hide hr1); clear hr1)
        | (go_at_call 43; refine (HCN.out _ C cc _ ?_ HR1.out).mono ?_; (· (refine Nx.trans HWB.out ?_; repeat (first | exact HX.out | refine Nx.trans ?_ hn3 | refine Nx.trans ?_ hn2 | refine Nx.trans ?_ hn1 | refine Nx.drew ?_ | refine Nx.drewN ?_ _ | refine Nx.alloc ?_ _ | exact Nx.refl _))); rintro e w2 ⟨rfl, hn2⟩))
    all_goals
      (go_wp2_with fail
       go_ret2
       exact ⟨by rw [HRV.out]; first | done | rfl, HWB.out.trans (by repeat (first | exact HX.out | refine Nx.trans ?_ hn3 | refine Nx.trans ?_ hn2 | refine Nx.trans ?_ hn1 | refine Nx.drew ?_ | refine Nx.drewN ?_ _ | refine Nx.alloc ?_ _ | exact Nx.refl _))⟩)
  · have HRV := hide (show R = false by rw [HRR.out, if_neg h0])
    have t1 : (F != 0) = true := by simpa using h0
    clear h0
    go_wp2_with fail
    go_ret2
    exact ⟨by rw [HRV.out]; first | done | rfl, HWB.out.trans HX.out⟩
end Go.Proofs.YtemaiikgnogfhaaGreatDoor
