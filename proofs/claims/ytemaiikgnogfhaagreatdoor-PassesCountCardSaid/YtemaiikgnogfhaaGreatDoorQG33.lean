/- The program's check of all that a bill wants. -/
import Derived.Test.YtemaiikgnogfhaaGreatDoorQCntQ
import Derived.Deep.DeepCutAuto
import Derived.Deep.RegionHeld
import Derived.RegionTactic
import Derived.Test.YtemaiikgnogfhaaGreatDoorQFares
import Derived.Test.YtemaiikgnogfhaaGreatDoorQG11
import Derived.Test.YtemaiikgnogfhaaGreatDoorQG23
import Derived.Test.YtemaiikgnogfhaaGreatDoorQG0
import Derived.Test.YtemaiikgnogfhaaGreatDoorQG1
import Derived.Test.YtemaiikgnogfhaaGreatDoorQG4
import Derived.Shelf.SlSortCmp.NoneTotal
import Derived.Laws.StructEq
import Derived.Test.YtemaiikgnogfhaaGreatDoorQG17
import Derived.Test.YtemaiikgnogfhaaGreatDoorQPasF
namespace Go.Proofs.YtemaiikgnogfhaaGreatDoor
open Go.RowKit

/-- What is wrong with zones, passes, a price and trips. -/
def faultB (zs : List Zone) (p : Price) (xs : List Pass) (l : List Jour) : Int := orI [passF zs xs, pricesF [p], joursF l]
set_option maxRecDepth 100000 in
set_option maxHeartbeats 2000000 in
theorem w_faresFault (D X A : Option Addr) (c cx cl : Nat) (zs : List Zone) (p : Price) (xs : List Pass) (l : List Jour) (w : World) (hZ : RdZones w 0 D zs) (hzl : zs.length ≤ 100) (hk : p.key.size ≤ 1000000)
    (hX : RdPasses w 0 X xs) (hxl : xs.length ≤ 300) (hJ : RdJours w 0 A l) (hll : l.length ≤ 1000) :
    Calls Tryz.prog 50 #[.slice D zs.length c, aggP p, .slice X xs.length cx, .slice A l.length cl] w fun e w' => e = .returned (.int .i64 (faultB zs p xs l)) ∧ Nx w w' := by
  obtain ⟨F, hF⟩ : ∃ F, F = faultB zs p xs l := ⟨_, rfl⟩
  rw [← hF]
  unfold faultB at hF
  obtain ⟨F1, hF1⟩ : ∃ F1, F1 = passF zs xs := ⟨_, rfl⟩
  obtain ⟨F2, hF2⟩ : ∃ F2, F2 = pricesF [p] := ⟨_, rfl⟩
  obtain ⟨F3, hF3⟩ : ∃ F3, F3 = joursF l := ⟨_, rfl⟩
  rw [← hF1, ← hF2, ← hF3] at hF
  have HCX : Hid (∀ (W : World), Nx w W → Calls Tryz.prog 12 #[.slice D zs.length c, .slice X xs.length cx] W fun e w' => e = .returned (.int .i64 F1) ∧ Nx W w') := hide (fun W hn => by
    have h := w_CheckPasses 0 0 D X c cx zs xs W (hZ.nx hn) hzl (hX.nx hn) hxl
    rw [← hF1] at h; exact h)
  have HCP : Hid (∀ (g : Nat) (W : World), Rd W 0 (some ⟨g, 0, none⟩) 10 encP [p] → Calls Tryz.prog 74 #[.slice (some ⟨g, 0, none⟩) 1 1] W fun e w' => e = .returned (.int .i64 F2) ∧ Nx W w') := hide (fun g W hr => by
    have h := w_CheckPrices 0 (some ⟨g, 0, none⟩) 1 [p] W ⟨hr, fun y hy => by rw [List.mem_singleton.1 hy]; exact hk⟩ (by simp)
    rw [← hF2] at h; exact h)
  have HCJ : Hid (∀ (W : World), Nx w W → Calls Tryz.prog 42 #[.slice A l.length cl] W fun e w' => e = .returned (.int .i64 F3) ∧ Nx W w') := hide (fun W hn => by
    have h := w_CheckTrips 0 A cl l W (hJ.nx hn) hll
    rw [← hF3] at h; exact h)
  have HCF : Hid (∀ (g : Nat) (W : World), W.heap[g]? = some (.cells #[.int .i64 F1, .int .i64 F2, .int .i64 F3] 37 (0, 0)) → Calls Tryz.prog 41 #[.slice (some ⟨g, 0, none⟩) 3 3] W fun e w' => e = .returned (.int .i64 F) ∧ W = w') := hide (fun g W hg => by
    have h := w_FirstE 0 (some ⟨g, 0, none⟩) 3 [F1, F2, F3] W (Rd.lit hg (Nat.zero_le _) (fun _ => rfl) rfl) (by simp)
    rw [← hF] at h; exact h)
  clear hF hF1 hF2 hF3 hZ hzl hX hxl hJ hll hk
  generalize zs.length = nz at *
  generalize xs.length = nx at *
  generalize l.length = n at *
  obtain ⟨k0, p1, p2, p3, p4, p5, p6, p7, p8, p9⟩ := p
  dsimp only [aggP] at *
  go_enter Tryz.func50, Tryz.ntmps50
  go_upto_region 1 with fail
  obtain ⟨b1, hb1⟩ : ∃ b1, b1 = w.heap.size := ⟨_, rfl⟩
  obtain ⟨wb, hwb⟩ : ∃ wb, wb = w.alloc (.cells #[.string k0, .int .i64 p1, .int .i64 p2, .int .i64 p3, .int .i64 p4, .int .i64 p5, .int .i64 p6, .int .i64 p7, .int .i64 p8, .int .i64 p9] 29 (0, 0)) := ⟨_, rfl⟩
  have HWB := hide (show Nx w wb from hwb ▸ (Nx.refl w).alloc _)
  have HB1 := hide (show wb.heap[b1]? = some (.cells #[.string k0, .int .i64 p1, .int .i64 p2, .int .i64 p3, .int .i64 p4, .int .i64 p5, .int .i64 p6, .int .i64 p7, .int .i64 p8, .int .i64 p9] 29 (0, 0)) by rw [hwb, hb1]; exact heap_alloc_new w _)
  have hb1l := (Array.getElem?_eq_some_iff.1 HB1.out).1
  rw [← hwb, ← hb1]
  clear hwb hb1
  have HGF : Hid (∀ W, Nx wb W → (fun w' : World => w'.cell? ⟨b1, 0, none⟩ = some (.string k0) ∧ w'.cell? ⟨b1, 1, none⟩ = some (.int .i64 p1) ∧ w'.cell? ⟨b1, 2, none⟩ = some (.int .i64 p2) ∧ w'.cell? ⟨b1, 3, none⟩ = some (.int .i64 p3) ∧ w'.cell? ⟨b1, 4, none⟩ = some (.int .i64 p4) ∧ w'.cell? ⟨b1, 5, none⟩ = some (.int .i64 p5) ∧ w'.cell? ⟨b1, 6, none⟩ = some (.int .i64 p6) ∧ w'.cell? ⟨b1, 7, none⟩ = some (.int .i64 p7) ∧ w'.cell? ⟨b1, 8, none⟩ = some (.int .i64 p8) ∧ w'.cell? ⟨b1, 9, none⟩ = some (.int .i64 p9)) W) := hide (fun W hn => by
    exact ⟨nx_cell hn hb1l (cell_of_row wb b1 0 _ _ _ HB1.out), nx_cell hn hb1l (cell_of_row wb b1 1 _ _ _ HB1.out), nx_cell hn hb1l (cell_of_row wb b1 2 _ _ _ HB1.out), nx_cell hn hb1l (cell_of_row wb b1 3 _ _ _ HB1.out), nx_cell hn hb1l (cell_of_row wb b1 4 _ _ _ HB1.out), nx_cell hn hb1l (cell_of_row wb b1 5 _ _ _ HB1.out), nx_cell hn hb1l (cell_of_row wb b1 6 _ _ _ HB1.out), nx_cell hn hb1l (cell_of_row wb b1 7 _ _ _ HB1.out), nx_cell hn hb1l (cell_of_row wb b1 8 _ _ _ HB1.out), nx_cell hn hb1l (cell_of_row wb b1 9 _ _ _ HB1.out)⟩)
  have HX := hide (Nx.refl wb)
  go_region_held3 (fun w' : World => w'.cell? ⟨b1, 0, none⟩ = some (.string k0) ∧ w'.cell? ⟨b1, 1, none⟩ = some (.int .i64 p1) ∧ w'.cell? ⟨b1, 2, none⟩ = some (.int .i64 p2) ∧ w'.cell? ⟨b1, 3, none⟩ = some (.int .i64 p3) ∧ w'.cell? ⟨b1, 4, none⟩ = some (.int .i64 p4) ∧ w'.cell? ⟨b1, 5, none⟩ = some (.int .i64 p5) ∧ w'.cell? ⟨b1, 6, none⟩ = some (.int .i64 p6) ∧ w'.cell? ⟨b1, 7, none⟩ = some (.int .i64 p7) ∧ w'.cell? ⟨b1, 8, none⟩ = some (.int .i64 p8) ∧ w'.cell? ⟨b1, 9, none⟩ = some (.int .i64 p9))
    (first | (refine HGF.out _ ?_; (repeat (first | exact HX.out | refine Nx.trans ?_ hn3 | refine Nx.trans ?_ hn2 | refine Nx.trans ?_ hn1 | refine Nx.drew ?_ | refine Nx.drewN ?_ _ | refine Nx.alloc ?_ _ | exact Nx.refl _)); done))
    (first
      | (go_at_call 12; refine (HCX.out _ ?_).mono ?_; (· (refine Nx.trans HWB.out ?_; repeat (first | exact HX.out | refine Nx.trans ?_ hn3 | refine Nx.trans ?_ hn2 | refine Nx.trans ?_ hn1 | refine Nx.drew ?_ | refine Nx.drewN ?_ _ | refine Nx.alloc ?_ _ | exact Nx.refl _))); rintro e w1 ⟨rfl, hn1⟩)
      | (go_at_call 74; refine (HCP.out _ _ ?_).mono ?_; (· (repeat (first | (refine Rd.lit (hnew ?_) (Nat.zero_le _) (fun _ => rfl) ?_ <;> first | rfl | (simp; done)) | refine Rd.nx ?_ hn3 | refine Rd.nx ?_ hn1 | refine Rd.nx ?_ (Nx.alloc (Nx.refl _) _) | refine Rd.nx ?_ (Nx.drew (Nx.refl _))))); rintro e w2 ⟨rfl, hn2⟩)
      | (go_at_call 42; refine (HCJ.out _ ?_).mono ?_; (· (refine Nx.trans HWB.out ?_; repeat (first | exact HX.out | refine Nx.trans ?_ hn3 | refine Nx.trans ?_ hn2 | refine Nx.trans ?_ hn1 | refine Nx.drew ?_ | refine Nx.drewN ?_ _ | refine Nx.alloc ?_ _ | exact Nx.refl _))); rintro e w3 ⟨rfl, hn3⟩)
      | (go_at_call 41; refine (HCF.out _ _ (hnew rfl)).mono ?_; rintro e w4 ⟨rfl, rfl⟩))
  all_goals
    (go_wp2
     go_ret
     exact ⟨rfl, HWB.out.trans (by repeat (first | exact HX.out | refine Nx.trans ?_ hn3 | refine Nx.trans ?_ hn2 | refine Nx.trans ?_ hn1 | refine Nx.drew ?_ | refine Nx.drewN ?_ _ | refine Nx.alloc ?_ _ | exact Nx.refl _))⟩)
end Go.Proofs.YtemaiikgnogfhaaGreatDoor
/- What each trip costs: the program's Fares. -/
namespace Go.Proofs.YtemaiikgnogfhaaGreatDoor
open Go.RowKit

def faresL (zs : List Zone) (p : Price) (xs : List Pass) (O l : List Jour) : List Due := l.map (fun t => ⟨t.ride, costOf (payAll zs p xs [] O) t.ride⟩)
/-- What right arguments are. -/
theorem faultB_zero {zs : List Zone} {p : Price} {xs : List Pass} {l : List Jour} (h : faultB zs p xs l = 0) : (∀ z ∈ zs, z.nodes.Pairwise ltS) ∧ PriceOk p ∧ (∀ x ∈ xs, PassOk x) ∧ (∀ t ∈ l, JourOk t) ∧ SortR l := by
  obtain ⟨h1, h2, h3⟩ := orI_zero3 h
  exact ⟨zonesF_sorted (passF_zero h1).1, pricesF_ok h2 p (by simp), passesF_ok (passF_zero h1).2, joursF_ok h3, joursF_sorted h3⟩
set_option maxRecDepth 100000 in
set_option maxHeartbeats 2000000 in
theorem w_FaresX (D X A : Option Addr) (c cx cl : Nat) (zs : List Zone) (p : Price) (xs : List Pass) (l : List Jour) (w : World) (hZ : RdZones w 0 D zs) (hzl : zs.length ≤ 100) (hk : p.key.size ≤ 1000000)
    (hX : RdPasses w 0 X xs) (hxl : xs.length ≤ 300) (hJ : RdJours w 0 A l) (hll : l.length ≤ 1000) (F : Int) (hF : faultB zs p xs l = F) (h0 : F ≠ 0) :
    Calls Tryz.prog 17 #[.slice D zs.length c, aggP p, .slice X xs.length cx, .slice A l.length cl] w fun e w' => e = .returned (.tuple #[.slice none 0 0, .int .i64 F]) ∧ Nx w w' := by
  have HFF := hide (fun W (hn : Nx w W) => w_faresFault D X A c cx cl zs p xs l W (hZ.nx hn) hzl hk (hX.nx hn) hxl (hJ.nx hn) hll)
  rw [hF] at HFF
  have t1 : (F != 0) = true := by simpa using h0
  clear hF h0 hZ hzl hk hX hxl hJ hll
  generalize zs.length = nz at *
  generalize xs.length = nx at *
  generalize l.length = n at *
  obtain ⟨k0, p1, p2, p3, p4, p5, p6, p7, p8, p9⟩ := p
  dsimp only [aggP] at *
  go_enter Tryz.func17, Tryz.ntmps17
  go_wp2_with (go_at_call 50; refine (HFF.out _ ((Nx.refl w).alloc _)).mono ?_; rintro e w1 ⟨rfl, hn1⟩)
  go_ret2
  exact ⟨rfl, ((Nx.refl w).alloc _).trans hn1⟩

set_option maxRecDepth 100000 in
set_option maxHeartbeats 2000000 in
theorem w_FaresO (D X A : Option Addr) (c cx cl : Nat) (zs : List Zone) (p : Price) (xs : List Pass) (l : List Jour) (w : World) (hZ : RdZones w 0 D zs) (hzl : zs.length ≤ 100) (hk : p.key.size ≤ 1000000)
    (hX : RdPasses w 0 X xs) (hxl : xs.length ≤ 300) (hJ : RdJours w 0 A l) (hll : l.length ≤ 1000) (hF : faultB zs p xs l = 0) :
    Calls Tryz.prog 17 #[.slice D zs.length c, aggP p, .slice X xs.length cx, .slice A l.length cl] w fun e w' => ∃ (O : List Jour) (R : Option Addr) (cR : Nat), IsOrd l O ∧ e = .returned (.tuple #[.slice R l.length cR, .int .i64 0]) ∧ Rd w' w.heap.size R 2 encDue (faresL zs p xs O l) ∧ Nx w w' := by
  have HFF := hide (fun W (hn : Nx w W) => w_faresFault D X A c cx cl zs p xs l W (hZ.nx hn) hzl hk (hX.nx hn) hxl (hJ.nx hn) hll)
  rw [hF] at HFF
  have HFS := hide (fun W (hn : Nx w W) => w_fares D X A c cx cl zs p xs l W (hZ.nx hn) hzl (faultB_zero hF).1 (faultB_zero hF).2.1 (hX.nx hn) hxl (faultB_zero hF).2.2.1 (hJ.nx hn) hll (faultB_zero hF).2.2.2.1 (faultB_zero hF).2.2.2.2)
  have HJR := hide hJ.1
  obtain ⟨n, hn⟩ : ∃ n, n = l.length := ⟨_, rfl⟩
  rw [← hn] at HFF HFS hll ⊢
  have HN := hide hn
  clear hF hZ hzl hk hX hxl hJ hn
  obtain ⟨CL, hCL⟩ : ∃ CL : List Jour → List Int, CL = fun O => costL zs p xs O l := ⟨_, rfl⟩
  have HCL := hide (fun O => (show (CL O).length = n by rw [hCL, HN.out]; simp [costL]))
  have HFL := hide (fun (O : List Jour) (k : Nat) (hk : k < n) => (show ∃ (t : Jour) (v : Int), l[k]? = some t ∧ (CL O)[k]? = some v ∧ (faresL zs p xs O l).take (k + 1) = (faresL zs p xs O l).take k ++ [(⟨t.ride, v⟩ : Due)] from by
    have hk' : k < l.length := by rw [← HN.out]; exact hk
    refine ⟨l[k], _, List.getElem?_eq_getElem hk', by rw [hCL]; simp [costL, hk']; rfl, ?_⟩
    rw [List.take_succ_eq_append_getElem (by simpa [faresL] using hk')]
    simp [faresL]))
  have HFN := hide (fun O => (show (faresL zs p xs O l).take n = faresL zs p xs O l by rw [HN.out]; exact List.take_of_length_le (by simp [faresL])))
  have HFK := hide (fun O (k : Nat) (hk : k ≤ n) => (show ((faresL zs p xs O l).take k).length = k by rw [List.length_take]; simp [faresL, ← HN.out]; omega))
  have HFS2 : Hid (∀ W, Nx w W → Calls Tryz.prog 51 #[.slice D zs.length c, aggP p, .slice X xs.length cx, .slice A n cl] W fun e w' => ∃ (O : List Jour) (R : Option Addr) (cR : Nat), IsOrd l O ∧ e = .returned (.slice R n cR) ∧ Rd w' W.heap.size R 1 encI (CL O) ∧ Nx W w') := hide (by rw [hCL]; exact HFS.out)
  clear HFS hCL
  obtain ⟨FL, hFLe⟩ : ∃ FL : List Jour → List Due, FL = fun O => faresL zs p xs O l := ⟨_, rfl⟩
  have e1 : ∀ O, faresL zs p xs O l = FL O := fun O => by rw [hFLe]
  simp only [e1] at HFL HFN HFK ⊢
  clear e1 hFLe
  generalize zs.length = nz at *
  generalize xs.length = nx at *
  obtain ⟨k0, p1, p2, p3, p4, p5, p6, p7, p8, p9⟩ := p
  dsimp only [aggP] at *
  go_enter Tryz.func17, Tryz.ntmps17
  go_upto_region 5 with (go_at_call 50; refine (HFF.out _ ((Nx.refl w).alloc _)).mono ?_; rintro e w1 ⟨rfl, hn1⟩)
  have hw1 : Nx w w1 := ((Nx.refl w).alloc _).trans hn1
  have q0 : w1.cell? ⟨w.heap.size, 0, none⟩ = some (.string k0) := nx_cell hn1 (by simp) (by go_simp)
  have q1 : w1.cell? ⟨w.heap.size, 1, none⟩ = some (.int .i64 p1) := nx_cell hn1 (by simp) (by go_simp)
  have q2 : w1.cell? ⟨w.heap.size, 2, none⟩ = some (.int .i64 p2) := nx_cell hn1 (by simp) (by go_simp)
  have q3 : w1.cell? ⟨w.heap.size, 3, none⟩ = some (.int .i64 p3) := nx_cell hn1 (by simp) (by go_simp)
  have q4 : w1.cell? ⟨w.heap.size, 4, none⟩ = some (.int .i64 p4) := nx_cell hn1 (by simp) (by go_simp)
  have q5 : w1.cell? ⟨w.heap.size, 5, none⟩ = some (.int .i64 p5) := nx_cell hn1 (by simp) (by go_simp)
  have q6 : w1.cell? ⟨w.heap.size, 6, none⟩ = some (.int .i64 p6) := nx_cell hn1 (by simp) (by go_simp)
  have q7 : w1.cell? ⟨w.heap.size, 7, none⟩ = some (.int .i64 p7) := nx_cell hn1 (by simp) (by go_simp)
  have q8 : w1.cell? ⟨w.heap.size, 8, none⟩ = some (.int .i64 p8) := nx_cell hn1 (by simp) (by go_simp)
  have q9 : w1.cell? ⟨w.heap.size, 9, none⟩ = some (.int .i64 p9) := nx_cell hn1 (by simp) (by go_simp)
  clear hn1
  have HF1 := hide (HFS2.out w1 hw1)
  have HW1 := hide hw1
  clear HFF HFS2 hw1
  go_upto_region 6 with (go_at_call 51; refine HF1.out.mono ?_; rintro e w2 ⟨O, R, cR, hO, rfl, hR, hn2⟩)
  have HO := hide hO
  have HR := hide hR
  have hw2 := HW1.out.trans hn2
  have HW2 := hide hw2
  obtain ⟨L, hL⟩ : ∃ L, L = CL O := ⟨_, rfl⟩
  have hLl : L.length = n := by rw [hL]; exact HCL.out O
  have HLL := hide hLl
  have HL := hide hL
  clear hO hR hn2 hL hLl hw2 q0 q1 q2 q3 q4 q5 q6 q7 q8 q9 HF1
  go_loopw [11, 12, 13, 28] (fun v _ _ i wr => ∃ k : Nat, k ≤ n ∧ i = .int .i64 k ∧ wr.ownsRow w2.heap.size 61 2 v ((FL O).take k).length (((FL O).take k).flatMap encDue) ∧ Nx w2 wr) (fun _ _ _ i _ => n - (intOf i).toNat)
  case atStart => exact ⟨0, Nat.zero_le _, rfl, World.ownsRow_nil _ _ _ _, Nx.refl _⟩
  case round =>
    obtain ⟨k, hk, rfl, hown, hn3⟩ := hrel
    by_cases hlt : k < n
    · obtain ⟨t, v, hlk, hvk, htk⟩ := HFL.out O k hlt
      rw [← HL.out] at hvk
      obtain ⟨hkl, hlke⟩ := List.getElem?_eq_some_iff.1 hlk
      obtain ⟨hkv, hvke⟩ := List.getElem?_eq_some_iff.1 hvk
      have hR := HR.out
      rw [← HL.out] at hR
      obtain ⟨br, off, rfl, _, hb, hbr, hc⟩ := hR.open_ hn3 (by omega)
      have c0 : wr.cell? ⟨br, off + k, none⟩ = some (.int .i64 v) := by have h := hc k hkv 0 _ rfl; rw [hvke] at h; simpa using h
      obtain ⟨bt, offt, rfl, _, hbt, hbtr, hct⟩ := HJR.out.open_ (HW2.out.trans hn3) (by omega)
      have c1 : wr.cell? ⟨bt, offt + k * 6, none⟩ = some (.string t.ride) := hlke ▸ hct k hkl 0 _ rfl
      have i1 : (0 : Int) ≤ (k : Int) := by omega
      have i2 : (k : Int) < (n : Int) := by omega
      obtain ⟨G, hG⟩ : ∃ G, G = (FL O).take k := ⟨_, rfl⟩
      have hGl : G.length = k := by rw [hG]; exact HFK.out O k hk
      rw [← hG] at htk hown
      obtain ⟨A1, c1', ev, _, _⟩ := Rd.of_own encDue_len rfl hown
      obtain rfl := ev
      have HTK := hide htk
      have HOW := hide hown
      have HN3 := hide hn3
      have hwz := hn3.sz
      clear htk hown hn3 hc hct hlk hvk hlke hvke hR hG
      go_wp2_with (at_builtin; refine wpApp rfl _ _ _ rfl el_Due encDue encDue_len encDue_one (by omega) (by omega) w2.heap.size _ G rfl (HOW.out.alloc _) _ ⟨t.ride, v⟩ _ rfl (hnew rfl) rfl (by omega) (by simp; omega) ?_; intro v2 w3 hown2 hg2)
      have hnx2 := (HN3.out.alloc (.cells #[.string t.ride, .int .i64 v] 61)).grown hg2 (fun j hj => by exact own_blk_lt HOW.out j hj)
      go_roundw
      case rel => exact ⟨k + 1, by omega, by go_num, by rw [HTK.out]; exact hown2, hnx2⟩
      case measure => simp [intOf]; omega
    · have ek : k = n := by omega
      subst ek
      rw [HFN.out] at hown
      obtain ⟨A1, c1, ev, hRL, _⟩ := Rd.of_own encDue_len rfl hown
      obtain rfl := ev
      have hlen : (FL O).length = k := by have h := HFK.out O k (Nat.le_refl _); rw [HFN.out] at h; exact h
      have HRL := hide hRL
      have HN3 := hide (HW2.out.trans hn3)
      have HLE := hide hlen
      clear hown hn3 hRL hlen
      go_wp2_with fail
      go_ret2
      exact ⟨O, A1, c1, HO.out, by rw [HLE.out]; first | done | rfl, HRL.out.low HW2.out.sz, HN3.out⟩
end Go.Proofs.YtemaiikgnogfhaaGreatDoor
/- Plain: bills, sums by rider of what a day's trips cost. -/
namespace Go.Proofs.YtemaiikgnogfhaaGreatDoor
open Go.Sort Go.Proofs Go.Shelf

/-- The sums by key of a list of keys and numbers, one after the other. -/
def billK (q : List (ByteArray × Int)) : ByteArray → Option Int := q.foldl (fun f p => addK f p.1 p.2) (fun _ => none)
def sumK (q : List (ByteArray × Int)) (k : ByteArray) : Int := ((q.filter (fun p => decide (p.1 = k))).map Prod.snd).sum
theorem billK_snoc (q : List (ByteArray × Int)) (p : ByteArray × Int) : billK (q ++ [p]) = addK (billK q) p.1 p.2 := by simp [billK, List.foldl_append]
theorem billK_fold (q : List (ByteArray × Int)) : ∀ (f : ByteArray → Option Int) (k : ByteArray), (q.foldl (fun f p => addK f p.1 p.2) f) k = if q.any (fun p => decide (p.1 = k)) then some ((f k).getD 0 + sumK q k) else f k := by
  induction q with
  | nil => intro f k; simp
  | cons p q ih =>
    intro f k
    rw [List.foldl_cons, ih]
    by_cases hp : p.1 = k
    · subst hp
      rw [addK_at]
      by_cases hq : q.any (fun p' => decide (p'.1 = p.1)) = true
      · rw [if_pos hq, if_pos (by simp)]
        simp [sumK]; omega
      · have hq' : q.filter (fun p' => decide (p'.1 = p.1)) = [] := by
          rw [List.filter_eq_nil_iff]
          intro x hx hc
          exact hq (List.any_eq_true.2 ⟨x, hx, hc⟩)
        rw [if_neg hq, if_pos (by simp)]
        simp [sumK, hq']
    · have ha : addK f p.1 p.2 k = f k := by unfold addK; rw [if_neg (fun h => hp h.symm)]
      rw [ha]
      have h1 : (p :: q).any (fun p => decide (p.1 = k)) = q.any (fun p => decide (p.1 = k)) := by simp [hp]
      have h2 : sumK (p :: q) k = sumK q k := by simp [sumK, hp]
      rw [h1, h2]
theorem billK_at (q : List (ByteArray × Int)) (k : ByteArray) : billK q k = if q.any (fun p => decide (p.1 = k)) then some (sumK q k) else none := by
  rw [billK, billK_fold]; simp
theorem perm_sum {a b : List Int} (h : a.Perm b) : a.sum = b.sum := by
  induction h with
  | nil => rfl
  | cons x _ ih => simp [ih]
  | swap x y l => simp; omega
  | trans _ _ h1 h2 => rw [h1, h2]
theorem sumK_perm {q q' : List (ByteArray × Int)} (h : q.Perm q') (k : ByteArray) : sumK q k = sumK q' k := perm_sum ((h.filter _).map Prod.snd)
theorem any_perm {q q' : List (ByteArray × Int)} (h : q.Perm q') (k : ByteArray) : q.any (fun p => decide (p.1 = k)) = q'.any (fun p => decide (p.1 = k)) := by
  rw [Bool.eq_iff_iff, List.any_eq_true, List.any_eq_true]
  constructor
  · rintro ⟨x, hx, hc⟩; exact ⟨x, h.mem_iff.1 hx, hc⟩
  · rintro ⟨x, hx, hc⟩; exact ⟨x, h.mem_iff.2 hx, hc⟩
/-- Without the numbers that are 0 the sums stay. -/
theorem sumK_pos (q : List (ByteArray × Int)) (h : ∀ p ∈ q, 0 ≤ p.2) (k : ByteArray) : sumK (q.filter (fun p => decide (0 < p.2))) k = sumK q k ∧ 0 ≤ sumK q k ∧ ((q.filter (fun p => decide (0 < p.2))).any (fun p => decide (p.1 = k)) = decide (sumK q k ≠ 0)) := by
  induction q with
  | nil => simp [sumK]
  | cons p q ih =>
    obtain ⟨i1, i2, i3⟩ := ih (fun x hx => h x (List.mem_cons_of_mem _ hx))
    have hp := h p (List.mem_cons_self ..)
    by_cases hk : p.1 = k
    · have e1 : sumK (p :: q) k = p.2 + sumK q k := by simp [sumK, hk]
      by_cases h0 : 0 < p.2
      · have e2 : (p :: q).filter (fun p => decide (0 < p.2)) = p :: q.filter (fun p => decide (0 < p.2)) := by simp [h0]
        have e3 : sumK (p :: q.filter (fun p => decide (0 < p.2))) k = p.2 + sumK (q.filter (fun p => decide (0 < p.2))) k := by simp [sumK, hk]
        rw [e2, e3, e1, i1]
        refine ⟨rfl, by omega, ?_⟩
        rw [decide_eq_true (show p.2 + sumK q k ≠ 0 by omega)]
        simp [hk]
      · have e2 : (p :: q).filter (fun p => decide (0 < p.2)) = q.filter (fun p => decide (0 < p.2)) := by simp [h0]
        rw [e2, e1, show p.2 + sumK q k = sumK q k by omega]
        exact ⟨i1, i2, i3⟩
    · have e1 : sumK (p :: q) k = sumK q k := by simp [sumK, hk]
      by_cases h0 : 0 < p.2
      · have e2 : (p :: q).filter (fun p => decide (0 < p.2)) = p :: q.filter (fun p => decide (0 < p.2)) := by simp [h0]
        have e3 : sumK (p :: q.filter (fun p => decide (0 < p.2))) k = sumK (q.filter (fun p => decide (0 < p.2))) k := by simp [sumK, hk]
        rw [e2, e3, e1]
        refine ⟨i1, i2, ?_⟩
        rw [← i3]; simp [hk]
      · have e2 : (p :: q).filter (fun p => decide (0 < p.2)) = q.filter (fun p => decide (0 < p.2)) := by simp [h0]
        rw [e2, e1]
        exact ⟨i1, i2, i3⟩
/-- The program's list of what is paid: its trips in their order, those of the day that cost something. -/
def billP (P : List Paid) (day : Int) (l : List Jour) : List (ByteArray × Int) := (l.filter (fun t => decide (dayJ t = day) && decide (0 < costOf P t.ride))).map (fun t => (t.rider, costOf P t.ride))
/-- The reference's: as they were paid, those of the day. -/
def billR (P : List Paid) (day : Int) : List (ByteArray × Int) := (P.filter (fun d => decide (dayJ d.t = day))).map (fun d => (d.t.rider, d.cents))
theorem billP_snoc (P : List Paid) (day : Int) (l : List Jour) (t : Jour) : billP P day (l ++ [t]) = billP P day l ++ (if decide (dayJ t = day) && decide (0 < costOf P t.ride) then [(t.rider, costOf P t.ride)] else []) := by
  unfold billP
  rw [List.filter_append, List.map_append]
  by_cases h : (decide (dayJ t = day) && decide (0 < costOf P t.ride)) = true
  · rw [if_pos h]; simp only [List.filter_cons, h, if_true, List.filter_nil, List.map_cons, List.map_nil]
  · rw [if_neg h]; simp only [List.filter_cons, h, List.filter_nil]; simp
theorem billR_snoc (P : List Paid) (day : Int) (d : Paid) : billR (P ++ [d]) day = billR P day ++ (if dayJ d.t = day then [(d.t.rider, d.cents)] else []) := by
  unfold billR
  rw [List.filter_append, List.map_append]
  by_cases h : dayJ d.t = day
  · simp [h]
  · simp [h]
/-- The program's list is the reference's without what costs nothing, in another order. -/
theorem bill_perm (zs : List Zone) (p : Price) (xs : List Pass) {l O : List Jour} (hO : IsOrd l O) (hs : SortR l) (day : Int) :
    (billP (payAll zs p xs [] O) day l).Perm ((billR (payAll zs p xs [] O) day).filter (fun q => decide (0 < q.2))) := by
  obtain ⟨P, hP⟩ : ∃ P, P = payAll zs p xs [] O := ⟨_, rfl⟩
  have h2 : P.map Paid.t = O := by rw [hP, payAll_t]; rfl
  have h3 : (P.map Paid.t).Pairwise (fun a b => a.ride ≠ b.ride) := by rw [h2]; exact ord_ne hO hs
  rw [← hP]
  have h4 : (billP P day l).Perm (billP P day O) := (hO.1.symm.filter _).map _
  refine h4.trans ?_
  have h5 : billP P day O = (billR P day).filter (fun q => decide (0 < q.2)) := by
    unfold billP billR
    rw [List.filter_map, ← h2, List.filter_map, List.map_map, List.filter_filter]
    have e : ∀ d ∈ P, costOf P d.t.ride = d.cents := fun d hd => costOf_at h3 hd
    rw [List.filter_congr (q := fun d => decide (0 < d.cents) && decide (dayJ d.t = day)) (by
      intro d hd
      simp only [Function.comp]
      rw [e d hd, Bool.and_comm])]
    apply List.map_congr_left
    intro d hd
    simp only [Function.comp]
    rw [e d ((List.mem_filter.1 hd).1)]
  rw [h5]
/-- The two bills are one. -/
theorem bills_eq (zs : List Zone) (p : Price) (xs : List Pass) {l O : List Jour} (hO : IsOrd l O) (hs : SortR l) (day : Int) (h0 : ∀ d ∈ payAll zs p xs [] O, 0 ≤ d.cents) {ys ys' : List Due}
    (h : DuesOf (billK (billP (payAll zs p xs [] O) day l)) true ys) (h' : DuesOf (billK (billR (payAll zs p xs [] O) day)) false ys') : ys = ys' := by
  have hp := bill_perm zs p xs hO hs day
  generalize payAll zs p xs [] O = P at *
  refine sorted_eq h.1 h'.1 (fun d => ?_)
  rw [h.2 d, h'.2 d, billK_at, billK_at, sumK_perm hp, any_perm hp]
  have hq : ∀ x ∈ billR P day, 0 ≤ x.2 := by
    intro x hx
    obtain ⟨d, hd, rfl⟩ := List.mem_map.1 hx
    exact h0 d ((List.mem_filter.1 hd).1)
  obtain ⟨i1, i2, i3⟩ := sumK_pos (billR P day) hq d.key
  rw [i1, i3]
  by_cases hz : sumK (billR P day) d.key = 0
  · rw [if_neg (by simp [hz])]
    constructor
    · rintro ⟨hc, _⟩; cases hc
    · rintro ⟨hc, h1⟩
      exfalso
      split at hc
      · injection hc with hc
        rcases h1 with h1 | h1
        · exact h1 (by rw [← hc, hz])
        · cases h1
      · cases hc
  · rw [if_pos (by simp [hz])]
    have ha : (billR P day).any (fun p => decide (p.1 = d.key)) = true := by
      rw [← Bool.not_eq_false]
      intro hc
      apply hz
      have : (billR P day).filter (fun p => decide (p.1 = d.key)) = [] := by
        rw [List.filter_eq_nil_iff]
        intro x hx hx2
        have := List.any_eq_false.1 hc x hx
        exact this hx2
      simp [sumK, this]
    rw [if_pos ha]
    constructor
    · rintro ⟨hc, _⟩
      refine ⟨hc, .inl ?_⟩
      injection hc with hc
      rw [← hc]; exact hz
    · rintro ⟨hc, _⟩
      exact ⟨hc, .inr rfl⟩
end Go.Proofs.YtemaiikgnogfhaaGreatDoor
/- Sums by key in a map; their list in new memory. -/
namespace Go.Proofs.YtemaiikgnogfhaaGreatDoor
open Go.RowKit Go.Sort Go.Shelf Go.Maps Go.Proofs

theorem law_str : Keyed Tryz.prog 9 := string_keyed Tryz.underlying9
abbrev MpK (w : World) (b n : Nat) (f : ByteArray → Option Int) : Prop := MoI Tryz.prog 9 3 Value.string domS w b n f
theorem zeroIntK (w : World) : (zeroValue 3).run Tryz.prog w = .ok (.int .i64 0) w := by kernel_rfl

/-- A slice of dues in new memory. -/
def DuesR (f : ByteArray → Option Int) (zero : Bool) (w : World) (e : Ending) (w' : World) : Prop :=
  ∃ (A : Option Addr) (c : Nat) (ys : List Due), e = .returned (.slice A ys.length c) ∧ DuesOf f zero ys ∧ Rd w' w.heap.size A 2 encDue ys ∧ ys.length ≤ 65536 ∧ Nx w w'
theorem coll_startD {D : DataW Unit} {f : ByteArray → Option Int} {zero : Bool} (hM : MoD Tryz.prog 9 Value.string domS D f) : CollK f zero (has D) [] :=
  collK_start fun k hk => by rw [hM.has_ (hM.dm k hk) (keyS_mk Tryz.underlying9 (hM.dm k hk))]; exact hk
end Go.Proofs.YtemaiikgnogfhaaGreatDoor
/- slices.SortFunc over a row of the call's own, elements of K cells: what the row holds behind it. Of no program. -/
namespace Go.Proofs.YtemaiikgnogfhaaGreatDoor
open Go.RowKit Go.Sort Go.Proofs Go.Shelf

/-- slices.SortFunc, a comparison that parts whatever two that are not one: the sorted list. -/
theorem sortFunc {α : Type} [Inhabited α] {P : Program} {ρ : Ren} (L : SlLaysF0.n6 P ρ) (K : Nat) (hK : 0 < K) (aE : ∀ w, (isAgg (ρ.t 24)).run P w = .ok true w) (zE : ∀ w, (Go.sizeOf (ρ.t 24)).run P w = .ok K w) (enc : α → List Value) (hk : ∀ x, (enc x).length = K) (h1 : ∀ x, ∀ v ∈ enc x, v.oneCell' = true)
    (cf : α → α → Int) (hO : SWO (ltOf cf)) (g : Nat) (eg : ∀ args w, (callFunc g args).run P w = .ok (.enter g args) w)
    (hcmp : ∀ x y W, Calls P g #[.agg (enc x).toArray, .agg (enc y).toArray] W fun e w' => e = .returned (.int .i64 (cf x y)) ∧ Lays W w')
    {w : World} {base b cap n : Nat} {e : TypeId} {xs : List α} (hn : xs.length = n) (hsz : n < 4611686018427387904) (h : w.ownsRow base e K (.slice (some ⟨b, 0, none⟩) n cap) n (xs.flatMap enc)) :
    Calls P (ρ.f 6) #[.slice (some ⟨b, 0, none⟩) n cap, .func (.func g) #[] #[]] w fun en w' => en = .returned (.tuple #[]) ∧
      ∃ ys : List α, ys.Perm xs ∧ (∀ i j (hi : i < j) (hj : j < ys.length), ltOf cf ys[j] (ys[i]'(by omega)) = false) ∧ w'.ownsRow base e K (.slice (some ⟨b, 0, none⟩) n cap) n (ys.flatMap enc) ∧ Gr b w w' := by
  have hlt := (h.lt b rfl)
  have hH := holds_of_own hk hK hn h
  have hc : CmpLays P g #[] enc K cf b 0 xs.toArray.size w := fun m os dk _ x y => by
    rw [Array.append_empty]
    exact hcmp x y _
  have hs := AnyQ.slices_SortFunc L K aE zE enc hk h1 cf hO g #[] b 0 cap xs.toArray w eg hc hH hlt.2 (by simpa [hn] using hsz)
  have e1 : xs.toArray.size = n := by simpa using hn
  rw [e1] at hs
  refine hs.mono fun en w' ⟨he, d', m, os, hp, hso, hw⟩ => ⟨he, d'.toList, ?_, ?_, ?_⟩
  · have h3 := hp.2.2
    have h4 := hp.1
    rw [e1] at h4
    have e2 : d'.extract 0 n = d' := by rw [← h4]; simp
    have e3 : xs.toArray.extract 0 n = xs.toArray := by rw [← e1]; simp
    rw [e2, e3] at h3
    simpa using h3
  · intro i j hi hj
    have hj' : j < d'.size := by simpa using hj
    have h4 := hp.1
    rw [e1] at h4
    have := hso i j (Nat.zero_le _) hi (by omega)
    rw [getElem!_pos d' j hj', getElem!_pos d' i (by omega)] at this
    simpa using this
  · have h4 := hp.1
    rw [e1] at h4
    have := own_of_sorted hk hK h d'.toList (by simpa using h4) m os
    rw [hw]
    simpa using this
end Go.Proofs.YtemaiikgnogfhaaGreatDoor
/- Equal strings, equal dues. -/
namespace Go.Proofs.YtemaiikgnogfhaaGreatDoor
open Go.RowKit Go.Sort Go.Proofs Go.Shelf

theorem gd_Due : Tryz.prog.eqGuardType Tryz.prog.depth 61 = false := by kernel_rfl
theorem sin_Due (d : Nat) (x a : ByteArray) (y b : Int) (w : World) : (Op.equalIn (d + 2) 61 (.agg #[.string x, .int .i64 y]) (.agg #[.string a, .int .i64 b])).run Tryz.prog w = .ok (x.toList == a.toList && y == b) w := by
  have u3 := Tryz.underlying3
  have a3 := Tryz.isAgg3
  have z3 := Tryz.sizeOf3
  have u9 := Tryz.underlying9
  have a9 := Tryz.isAgg9
  have z9 := Tryz.sizeOf9
  have hS : Tryz.prog.underlying 61 = some (.struct (Tryz.prog.fieldsOf 61)) := by kernel_rfl
  have hp : Tryz.prog.stoodInHeld 61 = false := by kernel_rfl
  rw [run_equalIn_agg w (d + 1) 61 _ _ hS hp]
  simp only [Program.fieldsOf, Tryz.underlying61]
  go_simp
  by_cases h1 : x.toList = a.toList <;> by_cases h2 : y = b <;> simp [h1, h2]
theorem neq_Due (x a : ByteArray) (y b : Int) (w : World) : (binOp .neq 61 (.agg #[.string x, .int .i64 y]) (.agg #[.string a, .int .i64 b])).run Tryz.prog w = .ok (.bool (!(x.toList == a.toList && y == b))) w := by
  rw [run_neq_struct, show (10000 : Nat) = 9998 + 2 from rfl, sin_Due]; rfl
attribute [local go_sem ↓] neq_Due
attribute [local go_sem] gd_Due

set_option maxRecDepth 100000 in
set_option maxHeartbeats 1000000 in
theorem w_EqualD (lo lo' : Nat) (A B : Option Addr) (c d : Nat) (l : List Due) (w : World) (hA : Rd w lo A 2 encDue l) (hB : Rd w lo' B 2 encDue l) (hl : l.length ≤ 65536) :
    Calls Tryz.prog 21 #[.slice A l.length c, .slice B l.length d] w fun e w' => e = .returned (.bool true) ∧ Nx w w' := by
  generalize hn : l.length = n at *
  have HA := hide hA
  have HB := hide hB
  have HN := hide hn
  clear hA hB hn
  go_enter Tryz.func21, Tryz.ntmps21
  go_wp2
  go_loopw [5, 13] (fun _ i wr => ∃ k : Nat, k ≤ n ∧ i = .int .i64 k ∧ Nx w wr) (fun _ i _ => n - (intOf i).toNat)
  case atStart => exact ⟨0, Nat.zero_le _, rfl, Nx.refl _⟩
  case round =>
    obtain ⟨k, hk, rfl, hbw⟩ := hrel
    by_cases hlt : k < n
    · have hlt' : k < l.length := by have := HN.out; omega
      obtain ⟨b, off, rfl, _, hb, hbr, hc⟩ := HA.out.open_ hbw (by omega)
      obtain ⟨b', off', rfl, _, hb', hbr', hc'⟩ := HB.out.open_ hbw (by omega)
      have c0 : wr.cell? ⟨b, off + k * 2, none⟩ = some (.string l[k].key) := hc k hlt' 0 _ rfl
      have c1 : wr.cell? ⟨b, off + k * 2 + 1, none⟩ = some (.int .i64 l[k].cents) := hc k hlt' 1 _ rfl
      have d0 : wr.cell? ⟨b', off' + k * 2, none⟩ = some (.string l[k].key) := hc' k hlt' 0 _ rfl
      have d1 : wr.cell? ⟨b', off' + k * 2 + 1, none⟩ = some (.int .i64 l[k].cents) := hc' k hlt' 1 _ rfl
      clear hc hc'
      generalize l[k].key = x at *
      generalize l[k].cents = y at *
      have q1 : (0 : Int) ≤ (k : Int) := by omega
      have q2 : (k : Int) < (n : Int) := by omega
      go_wp2_with fail
      go_quiet (fail)
      go_wp2
      go_roundw
      case rel => exact ⟨k + 1, by omega, by go_num, hbw.drewN _⟩
      case measure => simp [intOf]; omega
    · go_wp2
      go_ret
      exact ⟨rfl, hbw⟩
end Go.Proofs.YtemaiikgnogfhaaGreatDoor
/- A drawn statement over a stream and a pass's cells; passes in the making. -/
namespace Go.Proofs.YtemaiikgnogfhaaGreatDoor
open Go.RowKit Go.Sort Go.Proofs Go.Shelf

/-- A pass with no giants. -/
structure okX (x : Pass) : Prop where
  key : x.key.size ≤ 1000
  rider : x.rider.size ≤ 1000
/-- A literal of n small strings in a block of its own, made since. -/
def ShLN (lo s b n : Nat) (v : Value) (w : World) : Prop :=
  ∃ (g : Nat) (zs : List ByteArray), v = .slice (some ⟨g, 0, none⟩) n n ∧ zs.length = n ∧ (∀ z ∈ zs, z.size ≤ 1000) ∧ g ≠ s ∧ g ≠ b ∧ w.heap[g]? = some (.cells (zs.map Value.string).toArray 9 (0, 0)) ∧ lo ≤ g
theorem ShLN.keep {lo s b n : Nat} {v : Value} {w w' : World} (h : ShLN lo s b n v w) (k : Two s b w w') : ShLN lo s b n v w' := by
  obtain ⟨g, zs, h1, h2, h3, h4, h5, h6, h7⟩ := h
  exact ⟨g, zs, h1, h2, h3, h4, h5, (k.2.2.2.2 g (Array.getElem?_eq_some_iff.1 h6).1 h4 h5).trans h6, h7⟩
theorem ShLN.lt {lo s b n : Nat} {v : Value} {w : World} (h : ShLN lo s b n v w) : ShLT s b n v w := by
  obtain ⟨g, zs, h1, h2, h3, h4, h5, h6, _⟩ := h
  exact ⟨g, zs, h1, h2, h3, h4, h5, h6⟩
theorem el_PassS : ElemOf Tryz.prog 31 46 7 88 := ElemOf.mk' (z := .agg #[.string ByteArray.empty, .string ByteArray.empty, .int .i64 0, .int .i64 0, .slice none 0 0, .int .i64 0, .int .i64 0]) Tryz.underlying31 (by kernel_rfl) rfl
theorem encX_len (x : Pass) : (encX x).length = 7 := rfl
theorem encX_one (x : Pass) : ∀ v ∈ encX x, v.oneCell' = true := by
  intro v hv; simp [encX] at hv; rcases hv with rfl | rfl | rfl | rfl | rfl | rfl | rfl <;> rfl
/-- A pass that stands fast: its zones a row of the call's own. -/
structure XRow (w : World) (base : Nat) (x : Pass) : Prop where
  row : w.ownsRow base 9 1 (.slice x.a x.zones.length x.sc) x.zones.length (x.zones.flatMap encS)
  small : Small x.zones
  few : x.zones.length ≤ 4
  ok : okX x
def OwnPas (w : World) (base : Nat) (v : Value) (ps : List Pass) : Prop :=
  w.ownsRow base 46 7 v ps.length (ps.flatMap encX) ∧ ∀ x ∈ ps, XRow w base x
theorem XRow.gr {w w' : World} {s base : Nat} {x : Pass} (h : XRow w base x) (hn : Gr s w w') (hs : s < base) : XRow w' base x := ⟨own_gr h.row hn hs, h.small, h.few, h.ok⟩
theorem OwnPas.gr {w w' : World} {s base : Nat} {v : Value} {ps : List Pass} (h : OwnPas w base v ps) (hn : Gr s w w') (hs : s < base) : OwnPas w' base v ps :=
  ⟨own_gr h.1 hn hs, fun x hx => (h.2 x hx).gr hn hs⟩
theorem OwnPas.nx {w w' : World} {base : Nat} {v : Value} {ps : List Pass} (h : OwnPas w base v ps) (hn : Nx w w') : OwnPas w' base v ps :=
  ⟨own_nx h.1 hn, fun x hx => ⟨own_nx (h.2 x hx).row hn, (h.2 x hx).small, (h.2 x hx).few, (h.2 x hx).ok⟩⟩
theorem OwnPas.rd {w : World} {base : Nat} {A : Option Addr} {cap : Nat} {ps : List Pass} (h : OwnPas w base (.slice A ps.length cap) ps) : RdPasses w base A ps :=
  ⟨rd_ownv encX_len rfl h.1, fun x hx => by
    have hx' := h.2 x hx
    exact ⟨rd_ownv encS_len rfl hx'.row, hx'.small, by have := hx'.few; omega, by have := hx'.ok.key; omega, by have := hx'.ok.rider; omega⟩⟩
/-- Some passes. -/
def StrPasses (s k : Nat) (w : World) (e : Ending) (w' : World) : Prop :=
  ∃ (A : Option Addr) (c : Nat) (ps : List Pass), e = .returned (.slice A ps.length c) ∧ ps.length ≤ 3 ∧ ps.length ≤ c ∧ RdPasses w' w.heap.size A ps ∧ Gr s w w' ∧ Str w' s k
/-- The passes' row. -/
structure BoxX (g m c base : Nat) (w : World) (us : List Pass) : Prop where
  len : us.length = m
  row : w.ownsRow base 46 7 (.slice (some ⟨g, 0, none⟩) m c) m (us.flatMap encX)
  each : ∀ x ∈ us, XRow w base x
theorem BoxX.put {g m c base q j : Nat} {w : World} {us : List Pass} (h : BoxX g m c base w us) (hq : q < us.length) (u : Value) (y : Pass) (hj : j < 7) (he : encX y = (encX us[q]).set j u) (hy : XRow w base y) : BoxX g m c base (w.setCell ⟨g, q * 7 + j, none⟩ u) (us.set q y) := by
  have ho := own_set encX_len h.len h.row q hq j hj u y he _ rfl
  have keep : ∀ x, XRow w base x → XRow (w.setCell ⟨g, q * 7 + j, none⟩ u) base x := fun x hx =>
    ⟨hx.row.kept ((Gr.refl g w).setS (p := ⟨g, q * 7 + j, none⟩) (.inl rfl) u) (own_apart hx.row h.row (by decide)), hx.small, hx.few, hx.ok⟩
  exact ⟨by rw [List.length_set]; exact h.len, ho, fun x hx => by
    rcases List.mem_or_eq_of_mem_set hx with hx | rfl
    · exact keep x (h.each x hx)
    · exact keep x hy⟩
theorem BoxX.gr {g m c base s : Nat} {w w' : World} {us : List Pass} (h : BoxX g m c base w us) (hn : Gr s w w') (hs : s < base) : BoxX g m c base w' us :=
  ⟨h.len, own_gr h.row hn hs, fun x hx => (h.each x hx).gr hn hs⟩
end Go.Proofs.YtemaiikgnogfhaaGreatDoor
