/- The program's Counts. -/
import Derived.Test.YtncnmadiiaidfaaGreatDoorQCntP
import Derived.Deep.DeepCutAuto
import Derived.Deep.RegionHeld
import Derived.RegionTactic
namespace Go.Proofs.YtncnmadiiaidfaaGreatDoor
open Go.RowKit

theorem passF_zero {zs : List Zone} {ps : List Pass} (h : passF zs ps = 0) : zonesF zs = 0 ∧ passesF zs ps = 0 := by
  unfold passF at h
  by_cases hz : zonesF zs = 0
  · rw [if_pos hz] at h; exact ⟨hz, h⟩
  · rw [if_neg hz] at h; exact absurd h hz
end Go.Proofs.YtncnmadiiaidfaaGreatDoor
/- The program's check of all that a bill wants. -/
namespace Go.Proofs.YtncnmadiiaidfaaGreatDoor
open Go.RowKit

/-- What is wrong with zones, passes, a price and trips. -/
def faultB (zs : List Zone) (p : Price) (xs : List Pass) (l : List Jour) : Int := orI [passF zs xs, pricesF [p], joursF l]
set_option maxRecDepth 100000 in
set_option maxHeartbeats 2000000 in
theorem w_faresFault (D X A : Option Addr) (c cx cl : Nat) (zs : List Zone) (p : Price) (xs : List Pass) (l : List Jour) (w : World) (hZ : RdZones w 0 D zs) (hzl : zs.length ≤ 100) (hk : p.key.size ≤ 1000000)
    (hX : RdPasses w 0 X xs) (hxl : xs.length ≤ 300) (hJ : RdJours w 0 A l) (hll : l.length ≤ 1000) :
    Calls Tryz.prog 38 #[.slice D zs.length c, aggP p, .slice X xs.length cx, .slice A l.length cl] w fun e w' => e = .returned (.int .i64 (faultB zs p xs l)) ∧ Nx w w' := by
  obtain ⟨F, hF⟩ : ∃ F, F = faultB zs p xs l := ⟨_, rfl⟩
  rw [← hF]
  unfold faultB at hF
  obtain ⟨F1, hF1⟩ : ∃ F1, F1 = passF zs xs := ⟨_, rfl⟩
  obtain ⟨F2, hF2⟩ : ∃ F2, F2 = pricesF [p] := ⟨_, rfl⟩
  obtain ⟨F3, hF3⟩ : ∃ F3, F3 = joursF l := ⟨_, rfl⟩
  rw [← hF1, ← hF2, ← hF3] at hF
  have HCX : Hid (∀ (W : World), Nx w W → Calls Tryz.prog 65 #[.slice D zs.length c, .slice X xs.length cx] W fun e w' => e = .returned (.int .i64 F1) ∧ Nx W w') := hide (fun W hn => by
    have h := w_CheckPasses 0 0 D X c cx zs xs W (hZ.nx hn) hzl (hX.nx hn) hxl
    rw [← hF1] at h; exact h)
  have HCP : Hid (∀ (g : Nat) (W : World), Rd W 0 (some ⟨g, 0, none⟩) 10 encP [p] → Calls Tryz.prog 66 #[.slice (some ⟨g, 0, none⟩) 1 1] W fun e w' => e = .returned (.int .i64 F2) ∧ Nx W w') := hide (fun g W hr => by
    have h := w_CheckPrices 0 (some ⟨g, 0, none⟩) 1 [p] W ⟨hr, fun y hy => by rw [List.mem_singleton.1 hy]; exact hk⟩ (by simp)
    rw [← hF2] at h; exact h)
  have HCJ : Hid (∀ (W : World), Nx w W → Calls Tryz.prog 67 #[.slice A l.length cl] W fun e w' => e = .returned (.int .i64 F3) ∧ Nx W w') := hide (fun W hn => by
    have h := w_CheckTrips 0 A cl l W (hJ.nx hn) hll
    rw [← hF3] at h; exact h)
  have HCF : Hid (∀ (g : Nat) (W : World), W.heap[g]? = some (.cells #[.int .i64 F1, .int .i64 F2, .int .i64 F3] 36 (0, 0)) → Calls Tryz.prog 64 #[.slice (some ⟨g, 0, none⟩) 3 3] W fun e w' => e = .returned (.int .i64 F) ∧ W = w') := hide (fun g W hg => by
    have h := w_FirstE 0 (some ⟨g, 0, none⟩) 3 [F1, F2, F3] W (Rd.lit hg (Nat.zero_le _) (fun _ => rfl) rfl) (by simp)
    rw [← hF] at h; exact h)
  clear hF hF1 hF2 hF3 hZ hzl hX hxl hJ hll hk
  generalize zs.length = nz at *
  generalize xs.length = nx at *
  generalize l.length = n at *
  obtain ⟨k0, p1, p2, p3, p4, p5, p6, p7, p8, p9⟩ := p
  dsimp only [aggP] at *
  go_enter Tryz.func38, Tryz.ntmps38
  go_upto_region 1 with fail
  obtain ⟨b1, hb1⟩ : ∃ b1, b1 = w.heap.size := ⟨_, rfl⟩
  obtain ⟨wb, hwb⟩ : ∃ wb, wb = w.alloc (.cells #[.string k0, .int .i64 p1, .int .i64 p2, .int .i64 p3, .int .i64 p4, .int .i64 p5, .int .i64 p6, .int .i64 p7, .int .i64 p8, .int .i64 p9] 29 (0, 0)) := ⟨_, rfl⟩
  have HWB := hide (show Nx w wb from hwb ▸ (Nx.refl w).alloc _)
  have HB1 := hide (show wb.heap[b1]? = some (.cells #[.string k0, .int .i64 p1, .int .i64 p2, .int .i64 p3, .int .i64 p4, .int .i64 p5, .int .i64 p6, .int .i64 p7, .int .i64 p8, .int .i64 p9] 29 (0, 0)) by rw [hwb, hb1]; exact heap_alloc_new w _)
  have hb1l := (Array.getElem?_eq_some_iff.1 HB1.out).1
  rw [← hwb, ← hb1]
  clear hwb hb1
  have HGF : Hid (∀ W, Nx wb W → (fun w' : World => w'.cell? ⟨b1, 0, none⟩ = some (.string k0) ∧ w'.cell? ⟨b1, 1, none⟩ = some (.int .i64 p1) ∧ w'.cell? ⟨b1, 2, none⟩ = some (.int .i64 p2) ∧ w'.cell? ⟨b1, 3, none⟩ = some (.int .i64 p3) ∧ w'.cell? ⟨b1, 4, none⟩ = some (.int .i64 p4) ∧ w'.cell? ⟨b1, 5, none⟩ = some (.int .i64 p5) ∧ w'.cell? ⟨b1, 6, none⟩ = some (.int .i64 p6) ∧ w'.cell? ⟨b1, 7, none⟩ = some (.int .i64 p7) ∧ w'.cell? ⟨b1, 8, none⟩ = some (.int .i64 p8) ∧ w'.cell? ⟨b1, 9, none⟩ = some (.int .i64 p9)) W) := hide (fun W hn => by
    exact ⟨nx_cell hn hb1l (cell_of_row wb b1 0 _ _ _ HB1.out), nx_cell hn hb1l (cell_of_row wb b1 1 _ _ _ HB1.out), nx_cell hn hb1l (cell_of_row wb b1 2 _ _ _ HB1.out), nx_cell hn hb1l (cell_of_row wb b1 3 _ _ _ HB1.out), nx_cell hn hb1l (cell_of_row wb b1 4 _ _ _ HB1.out), nx_cell hn hb1l (cell_of_row wb b1 5 _ _ _ HB1.out), nx_cell hn hb1l (cell_of_row wb b1 6 _ _ _ HB1.out), nx_cell hn hb1l (cell_of_row wb b1 7 _ _ _ HB1.out), nx_cell hn hb1l (cell_of_row wb b1 8 _ _ _ HB1.out), nx_cell hn hb1l (cell_of_row wb b1 9 _ _ _ HB1.out)⟩)
  have HX := hide (Nx.refl wb)
  go_region_held3 (fun w' : World => w'.cell? ⟨b1, 0, none⟩ = some (.string k0) ∧ w'.cell? ⟨b1, 1, none⟩ = some (.int .i64 p1) ∧ w'.cell? ⟨b1, 2, none⟩ = some (.int .i64 p2) ∧ w'.cell? ⟨b1, 3, none⟩ = some (.int .i64 p3) ∧ w'.cell? ⟨b1, 4, none⟩ = some (.int .i64 p4) ∧ w'.cell? ⟨b1, 5, none⟩ = some (.int .i64 p5) ∧ w'.cell? ⟨b1, 6, none⟩ = some (.int .i64 p6) ∧ w'.cell? ⟨b1, 7, none⟩ = some (.int .i64 p7) ∧ w'.cell? ⟨b1, 8, none⟩ = some (.int .i64 p8) ∧ w'.cell? ⟨b1, 9, none⟩ = some (.int .i64 p9))
    (first | (refine HGF.out _ ?_; (repeat (first | exact HX.out | refine Nx.trans ?_ hn3 | refine Nx.trans ?_ hn2 | refine Nx.trans ?_ hn1 | refine Nx.drew ?_ | refine Nx.drewN ?_ _ | refine Nx.alloc ?_ _ | exact Nx.refl _)); done))
    (first
      | (go_at_call 65; refine (HCX.out _ ?_).mono ?_; (· (refine Nx.trans HWB.out ?_; repeat (first | exact HX.out | refine Nx.trans ?_ hn3 | refine Nx.trans ?_ hn2 | refine Nx.trans ?_ hn1 | refine Nx.drew ?_ | refine Nx.drewN ?_ _ | refine Nx.alloc ?_ _ | exact Nx.refl _))); rintro e w1 ⟨rfl, hn1⟩)
      | (go_at_call 66; refine (HCP.out _ _ ?_).mono ?_; (· (repeat (first | (refine Rd.lit (hnew ?_) (Nat.zero_le _) (fun _ => rfl) ?_ <;> first | rfl | (simp; done)) | refine Rd.nx ?_ hn3 | refine Rd.nx ?_ hn1 | refine Rd.nx ?_ (Nx.alloc (Nx.refl _) _) | refine Rd.nx ?_ (Nx.drew (Nx.refl _))))); rintro e w2 ⟨rfl, hn2⟩)
      | (go_at_call 67; refine (HCJ.out _ ?_).mono ?_; (· (refine Nx.trans HWB.out ?_; repeat (first | exact HX.out | refine Nx.trans ?_ hn3 | refine Nx.trans ?_ hn2 | refine Nx.trans ?_ hn1 | refine Nx.drew ?_ | refine Nx.drewN ?_ _ | refine Nx.alloc ?_ _ | exact Nx.refl _))); rintro e w3 ⟨rfl, hn3⟩)
      | (go_at_call 64; refine (HCF.out _ _ (hnew rfl)).mono ?_; rintro e w4 ⟨rfl, rfl⟩))
  all_goals
    (go_wp2
     go_ret
     exact ⟨rfl, HWB.out.trans (by repeat (first | exact HX.out | refine Nx.trans ?_ hn3 | refine Nx.trans ?_ hn2 | refine Nx.trans ?_ hn1 | refine Nx.drew ?_ | refine Nx.drewN ?_ _ | refine Nx.alloc ?_ _ | exact Nx.refl _))⟩)
end Go.Proofs.YtncnmadiiaidfaaGreatDoor
