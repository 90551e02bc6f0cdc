/- jitlaw1.PassesCount returns true. -/
import Derived.Test.YtemaiikgnogfhaaGreatDoorQLawPCb
import Derived.Test.YtemaiikgnogfhaaGreatDoorQStNO
import Derived.Deep.DeepCutAuto
namespace Go.Proofs.YtemaiikgnogfhaaGreatDoor
open Go.RowKit

/-- What is drawn ahead of the first test. -/
structure PcA (s : Nat) (w0 wx : World) (D X C : Option Addr) (b5 : Nat) (zs : List Zone) (p : Price) (xs : List Pass) (ts : List Jour) (cx cl : Nat) (day : Int) : Prop where
  zl : zs.length = 3
  xl : xs.length ≤ 3 ∧ xs.length ≤ cx
  jl : ts.length ≤ 8 ∧ ts.length ≤ cl
  z : RdZones wx (s + 1) D zs
  x : RdPasses wx (s + 1) X xs
  j : RdJours wx (s + 1) C ts
  pk : p.key.size ≤ 1000
  pb : wx.heap[b5]? = some (.cells (encP p).toArray 29 (0, 0))
  dy : -1 ≤ day ∧ day ≤ 4001
  gr : Gr s w0 wx
set_option maxRecDepth 100000 in
set_option maxHeartbeats 4000000 in
theorem w_lawPC (A : Option Addr) (n c : Nat) (w : World) (hn : n ≤ 9223372036854775807)
    (hL : 0 < n → ∃ b off, A = some ⟨b, off, none⟩ ∧ b < w.heap.size ∧ ∀ j, j < n → ∃ z : Int, w.cell? ⟨b, off + j, none⟩ = some (.int .i64 z) ∧ -9223372036854775808 ≤ z ∧ z ≤ 9223372036854775807) (hT : PowTab w) :
    Calls Tryz.prog 3 #[.slice A n c] w (TrueNx w) := by
  have hS0 : Str (w.alloc (.cells #[.slice A n c, .int .i64 0] 25)) w.heap.size 0 := str_new A n c w hn hL
  clear hL
  obtain ⟨s, hs⟩ : ∃ s, s = w.heap.size := ⟨_, rfl⟩
  obtain ⟨w0, hw0⟩ : ∃ w0, w0 = w.alloc (.cells #[.slice A n c, .int .i64 0] 25) := ⟨_, rfl⟩
  have HW0 := hide (show Nx w w0 from hw0 ▸ (Nx.refl w).alloc _)
  have HSS := hide (show w.heap.size ≤ s by omega)
  have HTG := hide (show ∀ w', Gr s w0 w' → PowTab w' from fun w' hg => tab_nx hT (Nx.of_gr ((Gr.of_nx HW0.out).trans hg) HSS.out))
  rw [← hw0, ← hs] at hS0
  have HS0 := hide hS0
  have hs0 := hS0.lt
  have hsz0 : w0.heap.size = s + 1 := by rw [hw0, hs]; simp
  have HZ0 := hide hsz0
  clear hS0 hT hsz0
  go_enter Tryz.func3, Tryz.ntmps3
  go_upto_region 2 with fail
  rw [← hw0, ← hs]
  clear hw0 hs
  go_cut [4, 5, 6, 7, 8] (fun v4 v5 v6 v7 v8 wx => ∃ (D X C : Option Addr) (b5 c1 cx cl : Nat) (zs : List Zone) (p : Price) (xs : List Pass) (ts : List Jour) (day : Int), v4 = .slice D zs.length c1 ∧ v5 = .pointer (some ⟨b5, 0, none⟩) ∧ v6 = .slice X xs.length cx ∧ v7 = .slice C ts.length cl ∧ v8 = .int .i64 day ∧ PcA s w0 wx D X C b5 zs p xs ts cx cl day)
  case first =>
    have hz0 := HZ0.out
    go_wp2_with (first
      | (go_at_call 4; refine (w_Zones s 0 _ HS0.out (by omega)).mono ?_; rintro e w1 ⟨D, c1, zs, rfl, hzl, hRz, hg1, hS1⟩; (have HZ1 := hide (show RdZones w1 (s + 1) D zs from hRz.low (by omega))); (have HG1 := hide hg1); (have HS1 := hide hS1); (have HZL := hide hzl); (have hz1 := hg1.sz); clear hRz hg1 hS1 hzl)
      | (go_at_call 5; refine (w_PriceOf ⟨#[112, 97]⟩ s _ _ HS1.out (by omega) (by decide)).mono ?_; rintro e w2 ⟨p, rfl, hok, hg2, hS2⟩; dsimp only [aggP]; (have HG2 := hide (HG1.out.trans hg2)); (have HG12 := hide hg2); (have HS2 := hide hS2); (have HPK := hide hok.1); (have hz2 := hg2.sz); clear hok hg2 hS2)
      | (go_at_call 6; refine (w_Passes s _ _ HS2.out (by omega) (fun w' hg => HTG.out _ (HG2.out.trans hg))).mono ?_; rintro e w3 ⟨X, cx, xs, rfl, hxl, hxc, hRx, hg3, hS3⟩; (have HX3 := hide (show RdPasses w3 (s + 1) X xs from hRx.low (by omega))); (have HG3 := hide (HG2.out.trans hg3)); (have HG23 := hide hg3); (have HS3 := hide hS3); (have HXL := hide (And.intro hxl hxc)); (have hz3 := hg3.sz); clear hRx hg3 hS3 hxl hxc)
      | (go_at_call 8; refine (w_Range 0 8 s _ _ HS3.out (by omega) (by omega) (by omega)).mono ?_; rintro e w4 ⟨m, hm1, hm2, rfl, hg4, hS4⟩; (obtain ⟨m, rfl⟩ := Int.eq_ofNat_of_zero_le hm1); (have HG4 := hide (HG3.out.trans hg4)); (have HG34 := hide hg4); (have HS4 := hide hS4); (have hm3 : m ≤ 8 := by omega); (have hz4 := hg4.sz); clear hg4 hS4 hm1 hm2)
      | (go_at_call 7; refine (w_Journeys m s _ _ HS4.out (by omega) hm3 (fun w' hg => HTG.out _ (HG4.out.trans hg))).mono ?_; rintro e w5 ⟨C, cl, ts, rfl, hjl, hjc, hRj, hg5, hS5⟩; (have HJ5 := hide (show RdJours w5 (s + 1) C ts from hRj.low (by omega))); (have HG5 := hide (HG4.out.trans hg5)); (have HG45 := hide hg5); (have HS5 := hide hS5); (have HJL := hide (show ts.length ≤ 8 ∧ ts.length ≤ cl from ⟨by omega, hjc⟩)); (have hz5 := hg5.sz); clear hRj hg5 hS5 hjl hjc)
      | (go_at_call 9; refine (w_PickI _ [0, 0, 1, 2, -1, 4001] _ _ _ _ (HS5.out.nx ((Nx.refl _).alloc _)) (by omega) (hnew rfl) (by omega) rfl (by simp) (by simp)).mono ?_; rintro e w6 ⟨day, hday, rfl, hg6, hS6⟩; (have HD6 := hide hday); (have HG56 := hide ((Gr.of_nx ((Nx.refl w5).alloc _)).trans hg6)); (have HG6 := hide (HG5.out.trans ((Gr.of_nx ((Nx.refl w5).alloc _)).trans hg6))); (have hz6 := hg6.sz); clear hday hg6 hS6))
    go_meet
    refine ⟨D, X, C, _, c1, cx, cl, zs, p, xs, ts, day, rfl, rfl, rfl, rfl, rfl, ?_⟩
    have hda : Gr s w6 (w6.alloc (.cells (encP p).toArray 29)) := Gr.of_nx ((Nx.refl w6).alloc _)
    refine ⟨HZL.out, HXL.out, HJL.out, (HZ1.out.gr ((((HG12.out.trans HG23.out).trans HG34.out).trans HG45.out).trans HG56.out) (by omega)).gr hda (by omega), (HX3.out.gr ((HG34.out.trans HG45.out).trans HG56.out) (by omega)).gr hda (by omega), (HJ5.out.gr HG56.out (by omega)).gr hda (by omega), HPK.out, hnew rfl, ?_, HG6.out.trans hda⟩
    have h := HD6.out
    simp only [List.mem_cons, List.not_mem_nil, or_false] at h
    omega
  case rest =>
  obtain ⟨D, X, C, b5, c1, cx, cl, zs, p, xs, ts, day, rfl, rfl, rfl, rfl, rfl, hA⟩ := hcut
  obtain ⟨wa, hwa⟩ : ∃ wa, wa = wc := ⟨_, rfl⟩
  rw [← hwa] at hA ⊢
  have hB : PcB w wa D X C b5 zs p xs ts day :=
    ⟨hA.z.low (Nat.zero_le _), by have := hA.zl; omega, hA.x.low (Nat.zero_le _), by have := hA.xl; omega, hA.j.low (Nat.zero_le _), hA.jl.1, by have := hA.pk; omega, hA.pb, hA.dy, Nx.of_gr ((Gr.of_nx HW0.out).trans hA.gr) HSS.out⟩
  have HB := hide hB
  have HXC := hide hA.xl.2
  have HJC := hide hA.jl.2
  clear hwa hA hB HTG HS0 HZ0 HW0 HSS
  obtain ⟨Z1, hZ1⟩ : ∃ Z1, Z1 = zonesF zs := ⟨_, rfl⟩
  obtain ⟨K1, hK1⟩ : ∃ K1, K1 = passesF zs xs := ⟨_, rfl⟩
  obtain ⟨F1, hF1⟩ : ∃ F1, F1 = passF zs xs := ⟨_, rfl⟩
  have HE0 := hide (show Z1 = 0 → K1 = F1 by intro h; rw [hF1, passF, ← hZ1, if_pos h, ← hK1])
  have HE1 := hide (show Z1 ≠ 0 → Z1 = F1 by intro h; rw [hF1, passF, ← hZ1, if_neg h])
  have HZF := hide (fun W (hn : Nx wa W) => w_ZonesFault 0 D c1 zs W (HB.out.z.nx hn) HB.out.zl)
  have HPF := hide (fun W (hn : Nx wa W) => w_PassesFault 0 0 D X c1 cx zs xs W (HB.out.z.nx hn) HB.out.zl (HB.out.x.nx hn) HB.out.xl)
  have HCP := hide (fun W (hn : Nx wa W) => w_CheckPasses 0 0 D X c1 cx zs xs W (HB.out.z.nx hn) HB.out.zl (HB.out.x.nx hn) HB.out.xl)
  rw [← hZ1] at HZF
  rw [← hK1] at HPF
  rw [← hF1] at HCP
  obtain ⟨nz, hnz⟩ : ∃ nz, nz = zs.length := ⟨_, rfl⟩
  obtain ⟨nx, hnx⟩ : ∃ nx, nx = xs.length := ⟨_, rfl⟩
  obtain ⟨nt, hnt⟩ : ∃ nt, nt = ts.length := ⟨_, rfl⟩
  rw [← hnz] at HZF
  rw [← hnz, ← hnx] at HPF HCP
  rw [← hnz, ← hnx, ← hnt]
  have HNZ := hide hnz.symm
  have HNX := hide hnx.symm
  have HNT := hide hnt.symm
  have HF1 := hide hF1
  clear hZ1 hK1 hF1 hnz hnx hnt
  go_upto_region 3 with fail
  go_cut [9] (fun v wx => v = .int .i64 Z1 ∧ Nx wa wx)
  case first =>
    go_wp2_with (go_at_call 10; refine (HZF.out _ (Nx.refl _)).mono ?_; rintro e w1 ⟨rfl, hn1⟩)
    go_meet
    exact ⟨rfl, hn1⟩
  case rest =>
  obtain ⟨rfl, hx⟩ := hcut
  obtain ⟨wd, hwd⟩ : ∃ wd, wd = wc := ⟨_, rfl⟩
  rw [← hwd] at hx ⊢
  have HX := hide hx
  clear hwd hx HZF
  go_upto_if 37 with fail
  go_cut [9] (fun v wx => v = .int .i64 F1 ∧ Nx wa wx)
  case first =>
    by_cases hz : Z1 = 0
    · have t1 : (Z1 == 0) = true := by simpa using hz
      have hk := HE0.out hz
      clear hz HE0 HE1
      subst hk
      go_wp2_with (go_at_call 11; refine (HPF.out _ HX.out).mono ?_; rintro e w1 ⟨rfl, hn1⟩)
      go_meet
      exact ⟨rfl, HX.out.trans hn1⟩
    · have t1 : (Z1 == 0) = false := by simpa using hz
      have hze := HE1.out hz
      clear hz HE0 HE1
      subst hze
      go_wp2_with fail
      go_meet
      exact ⟨rfl, HX.out⟩
  case rest =>
  obtain ⟨rfl, hx⟩ := hcut
  clear HX
  obtain ⟨wd2, hwd⟩ : ∃ wd2, wd2 = wc := ⟨_, rfl⟩
  rw [← hwd] at hx ⊢
  have HX := hide hx
  clear hwd hx HE0 HE1 HPF
  have tF : (F1 != F1) = false := by simp
  go_upto_if 45 with (go_at_call 12; refine (HCP.out _ HX.out).mono ?_; rintro e w1 ⟨rfl, hn1⟩)
  have hBC := HB.out.then (HX.out.trans hn1)
  have HBC := hide hBC
  clear hBC hn1
  go_cut [2] (fun _ wx => Nx w1 wx)
  case first =>
    go_wp2_with fail
    go_meet
    exact Nx.refl _
  case rest =>
  refine ‹∀ (a : Act) (w_1 : World), Code.wp _ _ _ a w_1 → _› _ _ ?_
  exact st_PC8 (HBC.out.then hcut) HNZ.out HNX.out HNT.out HF1.out HXC.out HJC.out
end Go.Proofs.YtemaiikgnogfhaaGreatDoor
