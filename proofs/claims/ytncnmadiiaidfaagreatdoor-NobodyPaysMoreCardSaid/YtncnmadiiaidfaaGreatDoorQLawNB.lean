/- jitkeep1.NobodyPaysMore returns true. -/
import Derived.Test.YtncnmadiiaidfaaGreatDoorQLawNBb
import Derived.Test.YtncnmadiiaidfaaGreatDoorQPasR
import Derived.Test.YtncnmadiiaidfaaGreatDoorQStNO
import Derived.Deep.DeepCutAuto
namespace Go.Proofs.YtncnmadiiaidfaaGreatDoor
open Go.RowKit

set_option maxRecDepth 100000 in
set_option maxHeartbeats 4000000 in
theorem w_lawNB (A : Option Addr) (n c : Nat) (w : World) (hn : n ≤ 9223372036854775807)
    (hL : 0 < n → ∃ b off, A = some ⟨b, off, none⟩ ∧ b < w.heap.size ∧ ∀ j, j < n → ∃ z : Int, w.cell? ⟨b, off + j, none⟩ = some (.int .i64 z) ∧ -9223372036854775808 ≤ z ∧ z ≤ 9223372036854775807) (hT : PowTab w) :
    Calls Tryz.prog 3 #[.slice A n c] w (TrueNx w) := by
  have hS0 : Str (w.alloc (.cells #[.slice A n c, .int .i64 0] 25)) w.heap.size 0 := str_new A n c w hn hL
  clear hL
  obtain ⟨s, hs⟩ : ∃ s, s = w.heap.size := ⟨_, rfl⟩
  obtain ⟨w0, hw0⟩ : ∃ w0, w0 = w.alloc (.cells #[.slice A n c, .int .i64 0] 25) := ⟨_, rfl⟩
  have HW0 := hide (show Nx w w0 from hw0 ▸ (Nx.refl w).alloc _)
  have HSS := hide (show w.heap.size ≤ s by omega)
  have HTG := hide (show ∀ w', Gr s w0 w' → PowTab w' from fun w' hg => tab_nx hT (Nx.of_gr ((Gr.of_nx HW0.out).trans hg) HSS.out))
  rw [← hw0, ← hs] at hS0
  have HS0 := hide hS0
  have hs0 := hS0.lt
  have hsz0 : w0.heap.size = s + 1 := by rw [hw0, hs]; simp
  have HZ0 := hide hsz0
  clear hS0 hT hsz0
  go_enter Tryz.func3, Tryz.ntmps3
  go_upto_region 2 with fail
  rw [← hw0, ← hs]
  clear hw0 hs
  go_cut [4, 5, 6, 7] (fun v4 v5 v6 v7 wx => ∃ (D X C : Option Addr) (b5 c1 cx cl : Nat) (zs : List Zone) (p : Price) (xs : List Pass) (ts : List Jour), v4 = .slice D zs.length c1 ∧ v5 = .pointer (some ⟨b5, 0, none⟩) ∧ v6 = .slice X xs.length cx ∧ v7 = .slice C ts.length cl ∧ NbB w wx s D X C b5 zs p xs ts)
  case first =>
    have hz0 := HZ0.out
    go_wp2_with (first
      | (go_at_call 4; refine (w_Zones s 0 _ HS0.out (by omega)).mono ?_; rintro e w1 ⟨D, c1, zs, rfl, hzl, hRz, hg1, hS1⟩; (have HZ1 := hide (show RdZones w1 (s + 1) D zs from hRz.low (by omega))); (have HG1 := hide hg1); (have HS1 := hide hS1); (have HZL := hide hzl); (have hz1 := hg1.sz); clear hRz hg1 hS1 hzl)
      | (go_at_call 5; refine (w_PriceOf ⟨#[112, 97]⟩ s _ _ HS1.out (by omega) (by decide)).mono ?_; rintro e w2 ⟨p, rfl, hok, hg2, hS2⟩; dsimp only [aggP]; (have HG2 := hide (HG1.out.trans hg2)); (have HG12 := hide hg2); (have HS2 := hide hS2); (have HPK := hide hok.1); (have hz2 := hg2.sz); clear hok hg2 hS2)
      | (go_at_call 6; refine (w_Passes s _ _ HS2.out (by omega) (fun w' hg => HTG.out _ (HG2.out.trans hg))).mono ?_; rintro e w3 ⟨X, cx, xs, rfl, hxl, hxc, hRx, hg3, hS3⟩; (have HX3 := hide (show RdPasses w3 (s + 1) X xs from hRx.low (by omega))); (have HG3 := hide (HG2.out.trans hg3)); (have HG23 := hide hg3); (have HS3 := hide hS3); (have HXL := hide (And.intro hxl hxc)); (have hz3 := hg3.sz); clear hRx hg3 hS3 hxl hxc)
      | (go_at_call 8; refine (w_Range 0 8 s _ _ HS3.out (by omega) (by omega) (by omega)).mono ?_; rintro e w4 ⟨m, hm1, hm2, rfl, hg4, hS4⟩; (obtain ⟨m, rfl⟩ := Int.eq_ofNat_of_zero_le hm1); (have HG4 := hide (HG3.out.trans hg4)); (have HG34 := hide hg4); (have HS4 := hide hS4); (have hm3 : m ≤ 8 := by omega); (have hz4 := hg4.sz); clear hg4 hS4 hm1 hm2)
      | (go_at_call 7; refine (w_Journeys m s _ _ HS4.out (by omega) hm3 (fun w' hg => HTG.out _ (HG4.out.trans hg))).mono ?_; rintro e w5 ⟨C, cl, ts, rfl, hjl, hjc, hRj, hg5, hS5⟩; (have HJ5 := hide (show RdJours w5 (s + 1) C ts from hRj.low (by omega))); (have HG5 := hide (HG4.out.trans hg5)); (have HG45 := hide hg5); (have HS5 := hide hS5); (have HJL := hide (show ts.length ≤ 8 by omega)); (have hz5 := hg5.sz); clear hRj hg5 hS5 hjl hjc))
    go_meet
    have hda : Nx w5 (w5.alloc (.cells (encP p).toArray 29)) := (Nx.refl w5).alloc _
    refine ⟨D, X, C, _, c1, cx, cl, zs, p, xs, ts, rfl, rfl, rfl, rfl, ?_⟩
    refine ⟨(HZ1.out.gr (((HG12.out.trans HG23.out).trans HG34.out).trans HG45.out) (by omega)).nx hda, by have := HZL.out; omega, (HX3.out.gr (HG34.out.trans HG45.out) (by omega)).nx hda, by have := HXL.out.1; omega, HJ5.out.nx hda, HJL.out, by have := HPK.out; omega, hnew rfl, by omega, ⟨_, by omega, HS5.out.nx hda⟩, HSS.out, ((Gr.of_nx HW0.out).trans HG5.out).trans (Gr.of_nx hda)⟩
  case rest =>
  obtain ⟨D, X, C, b5, c1, cx, cl, zs, p, xs, ts, rfl, rfl, rfl, rfl, hB⟩ := hcut
  obtain ⟨wa, hwa⟩ : ∃ wa, wa = wc := ⟨_, rfl⟩
  rw [← hwa] at hB ⊢
  have HB := hide hB
  have hjl := hB.jl
  clear hwa hB HTG HS0 HZ0 HW0 HSS
  obtain ⟨Z1, hZ1⟩ : ∃ Z1, Z1 = zonesF zs := ⟨_, rfl⟩
  obtain ⟨P1, hP1⟩ : ∃ P1, P1 = pricesF [p] := ⟨_, rfl⟩
  obtain ⟨K1, hK1⟩ : ∃ K1, K1 = passesF zs xs := ⟨_, rfl⟩
  obtain ⟨J1, hJ1⟩ : ∃ J1, J1 = joursF ts := ⟨_, rfl⟩
  have HFZ := hide (show Z1 = 0 → P1 = 0 → K1 = 0 → J1 = 0 → faultB zs p xs ts = 0 by
    intro h1 h2 h3 h4
    have e : passF zs xs = 0 := by unfold passF; rw [← hZ1, if_pos h1, ← hK1, h3]
    unfold faultB
    rw [e, ← hP1, ← hJ1, h2, h4]; rfl)
  have HZF := hide (fun W (hn : Nx wa W) => w_ZonesFault 0 D c1 zs W ((HB.out.z.low (Nat.zero_le _)).nx hn) HB.out.zl)
  have HPX : Hid (∀ (g : Nat) (W : World), Rd W 0 (some ⟨g, 0, none⟩) 10 encP [p] → Calls Tryz.prog 10 #[.slice (some ⟨g, 0, none⟩) 1 1] W fun e w' => e = .returned (.int .i64 P1) ∧ Nx W w') := hide (fun g W hr => by
    have h := w_PricesFault 0 (some ⟨g, 0, none⟩) 1 [p] W ⟨hr, fun y hy => by rw [List.mem_singleton.1 hy]; exact HB.out.pk⟩ (by simp)
    rw [← hP1] at h; exact h)
  have HPF := hide (fun W (hn : Nx wa W) => w_PassesFault 0 0 D X c1 cx zs xs W ((HB.out.z.low (Nat.zero_le _)).nx hn) HB.out.zl ((HB.out.x.low (Nat.zero_le _)).nx hn) HB.out.xl)
  have HJF := hide (fun W (hn : Nx wa W) => w_JourneysFault 0 C cl ts W ((HB.out.j.low (Nat.zero_le _)).nx hn) (by omega))
  rw [← hZ1] at HZF
  rw [← hK1] at HPF
  rw [← hJ1] at HJF
  obtain ⟨nz, hnz⟩ : ∃ nz, nz = zs.length := ⟨_, rfl⟩
  obtain ⟨nx, hnx⟩ : ∃ nx, nx = xs.length := ⟨_, rfl⟩
  obtain ⟨nt, hnt⟩ : ∃ nt, nt = ts.length := ⟨_, rfl⟩
  rw [← hnz] at HZF
  rw [← hnz, ← hnx] at HPF
  rw [← hnt] at HJF
  rw [← hnz, ← hnx, ← hnt]
  have HNZ := hide hnz.symm
  have HNX := hide hnx.symm
  have HNT := hide hnt.symm
  have HPP := hide (fun W (hn : Nx wa W) => (show ∀ i v, (encP p)[i]? = some v → W.cell? ⟨b5, i, none⟩ = some v from fun i v hv => by
    have hpb := HB.out.pb
    have h := cell_of_row wa b5 i _ _ _ hpb
    have hv' : (encP p).toArray[i]? = some v := by simpa using hv
    rw [hv'] at h
    exact nx_cell hn (Array.getElem?_eq_some_iff.1 hpb).1 h))
  clear hZ1 hK1 hP1 hJ1 hnz hnx hnt hjl
  go_upto_region 3 with fail
  go_cut [49] (fun v wx => ∃ bb : Bool, v = .bool bb ∧ (bb = false → faultB zs p xs ts = 0) ∧ Nx wa wx)
  case first =>
    obtain ⟨k0, p1, p2, p3, p4, p5, p6, p7, p8, p9⟩ := p
    by_cases hz : Z1 = 0
    · have t1 : (Z1 != 0) = false := by simpa using hz
      by_cases hp : P1 = 0
      · have t2 : (P1 != 0) = false := by simpa using hp
        by_cases hk : K1 = 0
        · have t3 : (K1 != 0) = false := by simpa using hk
          by_cases hj : J1 = 0
          · have t4 : (J1 != 0) = false := by simpa using hj
            have HF := hide (HFZ.out hz hp hk hj)
            clear hz hp hk hj HFZ
            go_wp2_with (first
              | (go_at_call 9; refine (HZF.out _ (Nx.refl _)).mono ?_; rintro e w1 ⟨rfl, hn1⟩; (have g0 := HPP.out w1 hn1 0 _ rfl); (have g1 := HPP.out w1 hn1 1 _ rfl); (have g2 := HPP.out w1 hn1 2 _ rfl); (have g3 := HPP.out w1 hn1 3 _ rfl); (have g4 := HPP.out w1 hn1 4 _ rfl); (have g5 := HPP.out w1 hn1 5 _ rfl); (have g6 := HPP.out w1 hn1 6 _ rfl); (have g7 := HPP.out w1 hn1 7 _ rfl); (have g8 := HPP.out w1 hn1 8 _ rfl); (have g9 := HPP.out w1 hn1 9 _ rfl))
              | (go_at_call 10; refine (HPX.out _ _ (Rd.lit (hnew rfl) (Nat.zero_le _) (fun _ => rfl) rfl)).mono ?_; rintro e w2 ⟨rfl, hn2⟩)
              | (go_at_call 11; refine (HPF.out _ (hn1.trans (((Nx.refl w1).alloc _).trans hn2))).mono ?_; rintro e w3 ⟨rfl, hn3⟩)
              | (go_at_call 12; refine (HJF.out _ ((hn1.trans (((Nx.refl w1).alloc _).trans hn2)).trans hn3)).mono ?_; rintro e w4 ⟨rfl, hn4⟩))
            go_meet
            exact ⟨false, rfl, fun _ => HF.out, ((hn1.trans (((Nx.refl w1).alloc _).trans hn2)).trans hn3).trans hn4⟩
          · have t4 : (J1 != 0) = true := by simpa using hj
            clear hz hp hk hj HFZ
            go_wp2_with (first
              | (go_at_call 9; refine (HZF.out _ (Nx.refl _)).mono ?_; rintro e w1 ⟨rfl, hn1⟩; (have g0 := HPP.out w1 hn1 0 _ rfl); (have g1 := HPP.out w1 hn1 1 _ rfl); (have g2 := HPP.out w1 hn1 2 _ rfl); (have g3 := HPP.out w1 hn1 3 _ rfl); (have g4 := HPP.out w1 hn1 4 _ rfl); (have g5 := HPP.out w1 hn1 5 _ rfl); (have g6 := HPP.out w1 hn1 6 _ rfl); (have g7 := HPP.out w1 hn1 7 _ rfl); (have g8 := HPP.out w1 hn1 8 _ rfl); (have g9 := HPP.out w1 hn1 9 _ rfl))
              | (go_at_call 10; refine (HPX.out _ _ (Rd.lit (hnew rfl) (Nat.zero_le _) (fun _ => rfl) rfl)).mono ?_; rintro e w2 ⟨rfl, hn2⟩)
              | (go_at_call 11; refine (HPF.out _ (hn1.trans (((Nx.refl w1).alloc _).trans hn2))).mono ?_; rintro e w3 ⟨rfl, hn3⟩)
              | (go_at_call 12; refine (HJF.out _ ((hn1.trans (((Nx.refl w1).alloc _).trans hn2)).trans hn3)).mono ?_; rintro e w4 ⟨rfl, hn4⟩))
            go_meet
            exact ⟨true, rfl, (fun h => by cases h), ((hn1.trans (((Nx.refl w1).alloc _).trans hn2)).trans hn3).trans hn4⟩
        · have t3 : (K1 != 0) = true := by simpa using hk
          clear hz hp hk HFZ
          go_wp2_with (first
            | (go_at_call 9; refine (HZF.out _ (Nx.refl _)).mono ?_; rintro e w1 ⟨rfl, hn1⟩; (have g0 := HPP.out w1 hn1 0 _ rfl); (have g1 := HPP.out w1 hn1 1 _ rfl); (have g2 := HPP.out w1 hn1 2 _ rfl); (have g3 := HPP.out w1 hn1 3 _ rfl); (have g4 := HPP.out w1 hn1 4 _ rfl); (have g5 := HPP.out w1 hn1 5 _ rfl); (have g6 := HPP.out w1 hn1 6 _ rfl); (have g7 := HPP.out w1 hn1 7 _ rfl); (have g8 := HPP.out w1 hn1 8 _ rfl); (have g9 := HPP.out w1 hn1 9 _ rfl))
            | (go_at_call 10; refine (HPX.out _ _ (Rd.lit (hnew rfl) (Nat.zero_le _) (fun _ => rfl) rfl)).mono ?_; rintro e w2 ⟨rfl, hn2⟩)
            | (go_at_call 11; refine (HPF.out _ (hn1.trans (((Nx.refl w1).alloc _).trans hn2))).mono ?_; rintro e w3 ⟨rfl, hn3⟩))
          go_meet
          exact ⟨true, rfl, (fun h => by cases h), (hn1.trans (((Nx.refl w1).alloc _).trans hn2)).trans hn3⟩
      · have t2 : (P1 != 0) = true := by simpa using hp
        clear hz hp HFZ
        go_wp2_with (first
          | (go_at_call 9; refine (HZF.out _ (Nx.refl _)).mono ?_; rintro e w1 ⟨rfl, hn1⟩; (have g0 := HPP.out w1 hn1 0 _ rfl); (have g1 := HPP.out w1 hn1 1 _ rfl); (have g2 := HPP.out w1 hn1 2 _ rfl); (have g3 := HPP.out w1 hn1 3 _ rfl); (have g4 := HPP.out w1 hn1 4 _ rfl); (have g5 := HPP.out w1 hn1 5 _ rfl); (have g6 := HPP.out w1 hn1 6 _ rfl); (have g7 := HPP.out w1 hn1 7 _ rfl); (have g8 := HPP.out w1 hn1 8 _ rfl); (have g9 := HPP.out w1 hn1 9 _ rfl))
          | (go_at_call 10; refine (HPX.out _ _ (Rd.lit (hnew rfl) (Nat.zero_le _) (fun _ => rfl) rfl)).mono ?_; rintro e w2 ⟨rfl, hn2⟩))
        go_meet
        exact ⟨true, rfl, (fun h => by cases h), hn1.trans (((Nx.refl w1).alloc _).trans hn2)⟩
    · have t1 : (Z1 != 0) = true := by simpa using hz
      clear hz HFZ
      go_wp2_with (first
        | (go_at_call 9; refine (HZF.out _ (Nx.refl _)).mono ?_; rintro e w1 ⟨rfl, hn1⟩; (have g0 := HPP.out w1 hn1 0 _ rfl); (have g1 := HPP.out w1 hn1 1 _ rfl); (have g2 := HPP.out w1 hn1 2 _ rfl); (have g3 := HPP.out w1 hn1 3 _ rfl); (have g4 := HPP.out w1 hn1 4 _ rfl); (have g5 := HPP.out w1 hn1 5 _ rfl); (have g6 := HPP.out w1 hn1 6 _ rfl); (have g7 := HPP.out w1 hn1 7 _ rfl); (have g8 := HPP.out w1 hn1 8 _ rfl); (have g9 := HPP.out w1 hn1 9 _ rfl)))
      go_meet
      exact ⟨true, rfl, (fun h => by cases h), hn1⟩
  case rest =>
  obtain ⟨bb, rfl, hbf, hx⟩ := hcut
  obtain ⟨wd, hwd⟩ : ∃ wd, wd = wc := ⟨_, rfl⟩
  rw [← hwd] at hx ⊢
  have HX := hide hx
  have HBF := hide hbf
  clear hwd hx HZF HPX HPF HJF HFZ HPP hbf
  go_upto_if 49 with fail
  go_cut [2] (fun _ wx => bb = false ∧ wd = wx)
  case first =>
    cases bb
    · go_wp2_with fail
      go_meet
      exact ⟨trivial, rfl⟩
    · go_wp2_with (go_at_call 13; refine (w_ready _).mono ?_; rintro e w9 ⟨rfl, hn9⟩)
      go_ret
      exact ⟨rfl, Nx.of_gr (HB.out.gr.trans (Gr.of_nx (HX.out.trans hn9))) HB.out.sw⟩
  case rest =>
  obtain ⟨hb, rfl⟩ := hcut
  refine ‹∀ (a : Act) (w_1 : World), Code.wp _ _ _ a w_1 → _› _ _ ?_
  exact st_NB5 (HB.out.nx HX.out) HNZ.out HNX.out HNT.out (HBF.out hb)
end Go.Proofs.YtncnmadiiaidfaaGreatDoor
