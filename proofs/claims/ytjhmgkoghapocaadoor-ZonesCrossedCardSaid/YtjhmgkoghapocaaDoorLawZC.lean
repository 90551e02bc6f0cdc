/- jitlaw1.ZonesCrossed returns true. -/
import Derived.Test.YtjhmgkoghapocaaDoorLawB
import Derived.Test.YtjhmgkoghapocaaDoorZoneC
import Derived.Test.YtjhmgkoghapocaaDoorZonesS
import Derived.Test.YtjhmgkoghapocaaDoorPriced
import Derived.Test.YtjhmgkoghapocaaDoorEqF
import Derived.Test.YtjhmgkoghapocaaDoorStrS
import Derived.Deep.DeepCutAuto
namespace Go.Proofs.YtjhmgkoghapocaaDoor
open Go.RowKit Go.Sort Go.Shelf

def nS : List ByteArray := [⟨#[110, 97]⟩, ⟨#[110, 98]⟩, ⟨#[110, 99]⟩, ⟨#[110, 100]⟩, ⟨#[110, 101]⟩, ⟨#[110, 122]⟩]
theorem nS_small {x : ByteArray} (h : x ∈ nS) : x.size ≤ 1000000 := by
  simp [nS] at h
  rcases h with rfl | rfl | rfl | rfl | rfl | rfl <;> decide

theorem crossO_len (zs : List Zone) (l : List ByteArray) : (crossO zs l).length ≤ l.length := by
  have h1 := Lib.compact_length_le (filtO zs l)
  have h2 : (filtO zs l).length ≤ l.length := by
    unfold filtO
    have := List.length_filter_le (fun z => !decide (z = ByteArray.empty)) (l.map (zoneO zs))
    rw [List.length_map] at this; exact this
  unfold crossO; omega

set_option maxRecDepth 100000 in
set_option maxHeartbeats 8000000 in
theorem w_lawZC (A : Option Addr) (n c : Nat) (w : World) (hn : n ≤ 9223372036854775807)
    (hL : 0 < n → ∃ b off, A = some ⟨b, off, none⟩ ∧ b < w.heap.size ∧ ∀ j, j < n → ∃ z : Int, w.cell? ⟨b, off + j, none⟩ = some (.int .i64 z) ∧ -9223372036854775808 ≤ z ∧ z ≤ 9223372036854775807) :
    Calls Tryd.prog 4 #[.slice A n c] w (TrueNx w) := by
  have hS0 : Str (w.alloc (.cells #[.slice A n c, .int .i64 0] 25)) w.heap.size 0 := str_new A n c w hn hL
  clear hL
  go_enter Tryd.func4, Tryd.ntmps4
  go_wp2_with fail
  refine (w_Zones _ _ _ hS0 (by omega)).mono ?_
  rintro e w1 ⟨D, c1, zs, rfl, hzl, hRZ, hg1, hS1⟩
  have hg01 : Gr w.heap.size w w1 := (Gr.of_nx ((Nx.refl w).alloc _)).trans hg1
  have hs1 := hS1.lt
  have HZ1 := hide hRZ
  clear hS0 hRZ hg1
  go_wp2_with fail
  refine (w_Some _ [⟨#[110, 97]⟩, ⟨#[110, 98]⟩, ⟨#[110, 122]⟩, ⟨#[65]⟩] _ _ _ _ (hS1.nx ((Nx.refl _).alloc _)) (by omega) (hnew rfl) (by omega) rfl (by simp) (by simp)).mono ?_
  rintro e w2 ⟨nd, hnd, rfl, hg2, hS2⟩
  have hgr2 : Gr w.heap.size w w2 := (hg01.alloc _).trans hg2
  have hsz2 := hgr2.sz
  have HZ2 := hide (show RdZones w2 (w.heap.size + 1) D zs from by
    have h := HZ1.out.nx ((Nx.refl _).alloc (.cells #[.string ⟨#[110, 97]⟩, .string ⟨#[110, 98]⟩, .string ⟨#[110, 122]⟩, .string ⟨#[65]⟩] 9))
    have hs : (w.alloc (.cells #[.slice A n c, .int .i64 0] 25)).heap.size = w.heap.size + 1 := by simp
    rw [hs] at h
    exact ⟨h.1.gr hg2 (by omega), fun x hx => ⟨(h.2 x hx).1.gr hg2 (by omega), (h.2 x hx).2⟩⟩)
  have hnd1 : nd.size ≤ 1000000 := by
    simp at hnd
    rcases hnd with rfl | rfl | rfl | rfl <;> decide
  clear hg01 hg2 hS1 HZ1 hnd
  go_wp2_with fail
  refine (w_Range 0 6 _ _ _ hS2 (by omega) (by omega) (by omega)).mono ?_
  rintro e w3 ⟨r, hr1, hr2, rfl, hg3, hS3⟩
  obtain ⟨m, rfl⟩ := Int.eq_ofNat_of_zero_le hr1
  have hm6 : m ≤ 6 := by omega
  have HZ3 := hide (show RdZones w3 (w.heap.size + 1) D zs from ⟨HZ2.out.1.gr hg3 (by omega), fun x hx => ⟨(HZ2.out.2 x hx).1.gr hg3 (by omega), (HZ2.out.2 x hx).2⟩⟩)
  have hs3 := hS3.lt
  have hgr3 := hgr2.trans hg3
  have hown0 : w3.ownsRow w3.heap.size 9 1 (.slice none 0 0) ([] : List ByteArray).length (([] : List ByteArray).flatMap encS) := ⟨rfl, .inl ⟨rfl, rfl⟩⟩
  have HST := hide (And.intro hown0 hS3)
  obtain ⟨wk, hwk⟩ : ∃ wk, wk = w3 := ⟨_, rfl⟩
  subst hwk
  clear HZ2 hg3 hgr2 hown0 hS2 hS3
  go_wp2_with fail
  go_loopw [6, 24] (fun v i wr => ∃ (j : Nat) (L : List ByteArray), j ≤ m ∧ i = .int .i64 j ∧ L.length ≤ j ∧ Small L ∧ wr.ownsRow wk.heap.size 9 1 v L.length (L.flatMap encS) ∧ Gr w.heap.size wk wr ∧ Str wr w.heap.size (30 + j)) (fun _ i _ => m - (intOf i).toNat)
  case atStart => exact ⟨0, [], by omega, rfl, by simp, fun x hx => (by cases hx), HST.out.1, Gr.refl _ _, HST.out.2.more (by omega)⟩
  case round =>
    clear HST
    obtain ⟨j, L, hj, rfl, hLl, hSL, hown, hgr, hSr⟩ := hrel
    have hszr := hgr.sz
    have HSL := hide hSL
    clear hSL
    by_cases hjm : j < m
    · go_wp2_with fail
      refine (w_Some _ nS _ _ _ _ (hSr.nx ((Nx.refl _).alloc _)) (by omega) (hnew rfl) (by omega) rfl (by simp [nS]) (by simp [nS])).mono ?_
      rintro e w4 ⟨ky, hky, rfl, hg4, hS4⟩
      have hks := nS_small hky
      have hown4 := own_gr (hown.alloc (.cells (nS.map Value.string).toArray 9)) hg4 (by omega)
      have hgr4 := (hgr.alloc (.cells (nS.map Value.string).toArray 9)).trans hg4
      have hsz4 := hgr4.sz
      clear hown hgr hSr hg4 hky
      go_wp2_with (at_builtin; refine wpApp rfl _ _ _ rfl el_S encS encS_len encS_one (by omega) (by omega) wk.heap.size _ L rfl (hown4.alloc _) _ ky _ rfl (hnew rfl) rfl (by omega) (by simp; omega) ?_; intro v5 w5 hown5 hg5)
      have hgr5 := (hgr4.alloc (.cells #[.string ky] 9)).grown hg5 (fun i hi => .inr (own_blk_lt hown4 i hi))
      have hS5 := (hS4.nx ((Nx.refl _).alloc (.cells #[.string ky] 9))).row hg5 (fun i hi => by have := own_blk_lt hown4 i hi; omega)
      go_roundw
      case rel => exact ⟨j + 1, L ++ [ky], by omega, by go_num, by rw [List.length_append]; simp; omega, fun x hx => (by
        rcases List.mem_append.1 hx with hx | hx
        · exact HSL.out x hx
        · simp at hx; subst hx; exact hks), hown5, hgr5, hS5.more (by omega)⟩
      case measure => simp [intOf]; omega
    · have ej : j = m := by omega
      subst ej
      clear hjm hj
      go_wp2_with fail
      refine (w_Flip _ _ _ _ hSr (by omega) (by omega)).mono ?_
      rintro e w4 ⟨fl, rfl, hg4, hS4⟩
      have hown4 := own_gr hown hg4 (by omega)
      have hgr4 := hgr.trans hg4
      have hsz4 := hgr4.sz
      clear hown hgr hSr hg4 hS4
      have HZ4 := hide (show RdZones w4 (w.heap.size + 1) D zs from ⟨HZ3.out.1.gr hgr4 (by omega), fun x hx => ⟨(HZ3.out.2 x hx).1.gr hgr4 (by omega), (HZ3.out.2 x hx).2⟩⟩)
      go_upto_if 34 with fail
      go_cut [6] (fun v wx => ∃ L' : List ByteArray, L'.length ≤ 7 ∧ Small L' ∧ wx.ownsRow wk.heap.size 9 1 v L'.length (L'.flatMap encS) ∧ Gr w.heap.size wk wx ∧ RdZones wx (w.heap.size + 1) D zs)
      case first =>
        cases fl
        · go_wp2_with fail
          go_meet
          exact ⟨L, by omega, HSL.out, hown4, hgr4, HZ4.out⟩
        · go_wp2_with (at_builtin; refine wpApp rfl _ _ _ rfl el_S encS encS_len encS_one (by omega) (by omega) wk.heap.size _ L rfl (hown4.alloc _) _ ByteArray.empty _ rfl (hnew rfl) rfl (by omega) (by simp; omega) ?_; intro v5 w5 hown5 hg5)
          go_meet
          have hgr5 := (hgr4.alloc (.cells #[.string ByteArray.empty] 9)).grown hg5 (fun i hi => .inr (own_blk_lt hown4 i hi))
          exact ⟨L ++ [ByteArray.empty], by rw [List.length_append]; simp; omega, fun x hx => (by
            rcases List.mem_append.1 hx with hx | hx
            · exact HSL.out x hx
            · simp at hx; subst hx; decide), hown5, hgr5, ⟨HZ3.out.1.gr hgr5 (by omega), fun x hx => ⟨(HZ3.out.2 x hx).1.gr hgr5 (by omega), (HZ3.out.2 x hx).2⟩⟩⟩
      case rest =>
        obtain ⟨L, hL7, hSL, hownL, hgrc, hRZc⟩ := hcut
        have hNW : Nx w wc := Nx.of_gr (hgr3.trans hgrc) (Nat.le_refl _)
        obtain ⟨A6, c6, ev, hRL, _⟩ := Rd.of_own encS_len rfl hownL
        obtain rfl := ev
        have HNW := hide hNW
        have HZW := hide hRZc
        have HLW := hide hRL
        have HSL := hide hSL
        have HLL := hide (show L.length ≤ 65536 by omega)
        have HZL := hide (show zs.length ≤ 100 by omega)
        have HCK := hide (fun (w' : World) (hn : Nx wc w') => (show Calls Tryd.prog 27 #[.slice D 3 c1] w' _ from by have h := w_CheckZones (w.heap.size + 1) D c1 zs w' (HZW.out.nx hn) HZL.out; rw [hzl] at h; exact h))
        have HZF := hide (fun (w' : World) (hn : Nx wc w') => (show Calls Tryd.prog 26 #[.slice D 3 c1] w' _ from by have h := w_ZonesFault (w.heap.size + 1) D c1 zs w' (HZW.out.nx hn) HZL.out; rw [hzl] at h; exact h))
        have HZO := hide (fun (w' : World) (hn : Nx wc w') => (show Calls Tryd.prog 28 #[.slice D 3 c1, .string nd] w' _ from by have h := w_ZoneOf (w.heap.size + 1) D c1 zs nd w' (HZW.out.nx hn) HZL.out hnd1; rw [hzl] at h; exact h))
        have HZR := hide (fun (w' : World) (hn : Nx wc w') => (show Calls Tryd.prog 30 #[.slice D 3 c1, .string nd] w' _ from by have h := w_ZoneFor (w.heap.size + 1) D c1 zs nd w' (HZW.out.nx hn) HZL.out; rw [hzl] at h; exact h))
        have HCR := hide (fun (w' : World) (hn : Nx wc w') => (show Calls Tryd.prog 31 #[.slice D 3 c1, .slice A6 L.length c6] w' _ from by have h := w_Crossed (w.heap.size + 1) wk.heap.size D A6 c1 c6 zs L w' (HZW.out.nx hn) HZL.out (HLW.out.nx hn) HSL.out HLL.out; rw [hzl] at h; exact h))
        have HCO := hide (fun (w' : World) (hn : Nx wc w') => (show Calls Tryd.prog 33 #[.slice D 3 c1, .slice A6 L.length c6] w' _ from by have h := w_CrossedOf (w.heap.size + 1) wk.heap.size D A6 c1 c6 zs L w' (HZW.out.nx hn) HZL.out (HLW.out.nx hn) HLL.out; rw [hzl] at h; exact h))
        clear hNW hRZc hRL hSL hownL hgrc hgr3 hgr4 hown4 HZ4 HZ3 hs3 hsz4 hL7 hLl hszr hm6 hzl
        have t1 : (zonesF zs != zonesF zs) = false := by simp
        go_upto_region 16 with (first
          | (go_at_call 26; refine (HZF.out _ (Nx.refl _)).mono ?_; rintro e w5 ⟨rfl, hn5⟩)
          | (go_at_call 27; refine (HCK.out _ hn5).mono ?_; rintro e w6 ⟨rfl, hn6⟩)
          | (go_at_call 28; refine (HZO.out _ (hn5.trans hn6)).mono ?_; rintro e w7 ⟨rfl, hn7⟩)
          | (go_at_call 29; refine (w_KeyFault nd _ hnd1).mono ?_; rintro e w8 ⟨rfl, hn8⟩)
          | (go_at_call 15; refine (w_Or2 (zonesF zs) (namF nd) _ _ _ (hnew rfl)).mono ?_; rintro e w9 ⟨rfl, rfl⟩))
        have HN8 := hide ((((hn5.trans hn6).trans hn7).trans hn8).alloc (.cells #[.int .i64 (zonesF zs), .int .i64 (namF nd)] 30))
        clear hn5 hn6 hn7 hn8 HCK HZF HZO
        have t2 : (orI [zonesF zs, namF nd] != orI [zonesF zs, namF nd]) = false := by simp
        generalize w8.alloc (.cells #[.int .i64 (zonesF zs), .int .i64 (namF nd)] 30) = w9 at *
        by_cases h1 : orI [zonesF zs, namF nd] = 0
        · have t3 : (orI [zonesF zs, namF nd] == 0) = true := by rw [h1]; rfl
          have HZV := hide (show zoneV (orI [zonesF zs, namF nd]) zs nd = zoneO zs nd from by unfold zoneV; rw [if_pos h1])
          rw [HZV.out]
          generalize orI [zonesF zs, namF nd] = G at *
          clear h1 HZV
          by_cases hz : zoneO zs nd = ByteArray.empty
          · rw [hz] at HZR ⊢
            rw [show notE ByteArray.empty = false from rfl]
            clear hz
            go_upto_region 20 with (first
              | (go_at_call 30; refine (HZR.out _ HN8.out).mono ?_; rintro e w10 ⟨rfl, hn10⟩))
            have HN5 := hide (HN8.out.trans hn10)
            clear HN8 hn10
            go_upto_region 22 with (first
              | (go_at_call 31; refine (HCR.out _ HN5.out).mono ?_; rintro e w8 ⟨A8, c8, l8, rfl, hy, hny, hR8, hn8⟩; (have HY := hide hy); (have HNY := hide hny); (have HR8 := hide hR8); clear hy hny hR8)
              | (go_at_call 32; refine (w_NamesFault _ _ _ 2000 L _ (HLW.out.nx (HN5.out.trans hn8)) HSL.out HLL.out).mono ?_; rintro e w9 ⟨rfl, hn9⟩)
              | (go_at_call 15; refine (w_Or2 (zonesF zs) (namesF L 2000) _ _ _ (hnew rfl)).mono ?_; rintro e w10 ⟨rfl, rfl⟩))
            have HN9 := hide (((HN5.out.trans hn8).trans hn9).alloc (.cells #[.int .i64 (zonesF zs), .int .i64 (namesF L 2000)] 30))
            have HR9 := hide ((HR8.out.nx hn9).nx ((Nx.refl _).alloc (.cells #[.int .i64 (zonesF zs), .int .i64 (namesF L 2000)] 30)))
            clear hn8 hn9 HR8 HN5
            by_cases h2 : orI [zonesF zs, namesF L 2000] = 0
            · have hl8 := HY.out h2
              subst hl8
              have t6 : (orI [zonesF zs, namesF L 2000] == 0) = true := by rw [h2]; rfl
              have t7 : (orI [zonesF zs, namesF L 2000] != 0) = false := by rw [h2]; rfl
              have HCL := hide (show (crossO zs L).length ≤ 65536 from by
                have h5 := crossO_len zs L
                have := HLL.out; omega)
              generalize orI [zonesF zs, namesF L 2000] = H at *
              clear HY HNY h2
              go_wp2_with (first
                | (go_at_call 33; refine (HCO.out _ HN9.out).mono ?_; rintro e w11 ⟨A11, c11, rfl, hR11, hn11⟩)
                | (go_at_call 17; refine (w_EqualS _ _ _ _ _ _ (crossO zs L) _ (HR9.out.nx hn11) hR11 HCL.out).mono ?_; rintro e w12 ⟨rfl, hn12⟩)
                | (go_at_call 22; refine (w_priced _).mono ?_; rintro e w13 ⟨rfl, hn13⟩))
              go_ret
              exact ⟨rfl, HNW.out.trans (((HN9.out.trans hn11).trans hn12).trans hn13)⟩
            · have hl8 := HNY.out h2
              subst hl8
              have t6 : (orI [zonesF zs, namesF L 2000] != 0) = true := by simpa using h2
              have t7 : (orI [zonesF zs, namesF L 2000] == orI [zonesF zs, namesF L 2000]) = true := by simp
              generalize orI [zonesF zs, namesF L 2000] = H at *
              clear HY HNY h2
              go_wp2_with (first
                | (go_at_call 22; refine (w_priced _).mono ?_; rintro e w13 ⟨rfl, hn13⟩))
              go_ret
              exact ⟨rfl, HNW.out.trans (HN9.out.trans hn13)⟩
          · have he := ne_empty hz
            have hee : ((zoneO zs nd).toList != (zoneO zs nd).toList) = false := by simp
            rw [show notE (zoneO zs nd) = true from by unfold notE; simp [hz]]
            generalize zoneO zs nd = z at *
            clear hz
            go_upto_region 20 with (first
              | (go_at_call 30; refine (HZR.out _ HN8.out).mono ?_; rintro e w10 ⟨rfl, hn10⟩))
            have HN5 := hide (HN8.out.trans hn10)
            clear HN8 hn10
            go_upto_region 22 with (first
              | (go_at_call 31; refine (HCR.out _ HN5.out).mono ?_; rintro e w8 ⟨A8, c8, l8, rfl, hy, hny, hR8, hn8⟩; (have HY := hide hy); (have HNY := hide hny); (have HR8 := hide hR8); clear hy hny hR8)
              | (go_at_call 32; refine (w_NamesFault _ _ _ 2000 L _ (HLW.out.nx (HN5.out.trans hn8)) HSL.out HLL.out).mono ?_; rintro e w9 ⟨rfl, hn9⟩)
              | (go_at_call 15; refine (w_Or2 (zonesF zs) (namesF L 2000) _ _ _ (hnew rfl)).mono ?_; rintro e w10 ⟨rfl, rfl⟩))
            have HN9 := hide (((HN5.out.trans hn8).trans hn9).alloc (.cells #[.int .i64 (zonesF zs), .int .i64 (namesF L 2000)] 30))
            have HR9 := hide ((HR8.out.nx hn9).nx ((Nx.refl _).alloc (.cells #[.int .i64 (zonesF zs), .int .i64 (namesF L 2000)] 30)))
            clear hn8 hn9 HR8 HN5
            by_cases h2 : orI [zonesF zs, namesF L 2000] = 0
            · have hl8 := HY.out h2
              subst hl8
              have t6 : (orI [zonesF zs, namesF L 2000] == 0) = true := by rw [h2]; rfl
              have t7 : (orI [zonesF zs, namesF L 2000] != 0) = false := by rw [h2]; rfl
              have HCL := hide (show (crossO zs L).length ≤ 65536 from by
                have h5 := crossO_len zs L
                have := HLL.out; omega)
              generalize orI [zonesF zs, namesF L 2000] = H at *
              clear HY HNY h2
              go_wp2_with (first
                | (go_at_call 33; refine (HCO.out _ HN9.out).mono ?_; rintro e w11 ⟨A11, c11, rfl, hR11, hn11⟩)
                | (go_at_call 17; refine (w_EqualS _ _ _ _ _ _ (crossO zs L) _ (HR9.out.nx hn11) hR11 HCL.out).mono ?_; rintro e w12 ⟨rfl, hn12⟩)
                | (go_at_call 22; refine (w_priced _).mono ?_; rintro e w13 ⟨rfl, hn13⟩))
              go_ret
              exact ⟨rfl, HNW.out.trans (((HN9.out.trans hn11).trans hn12).trans hn13)⟩
            · have hl8 := HNY.out h2
              subst hl8
              have t6 : (orI [zonesF zs, namesF L 2000] != 0) = true := by simpa using h2
              have t7 : (orI [zonesF zs, namesF L 2000] == orI [zonesF zs, namesF L 2000]) = true := by simp
              generalize orI [zonesF zs, namesF L 2000] = H at *
              clear HY HNY h2
              go_wp2_with (first
                | (go_at_call 22; refine (w_priced _).mono ?_; rintro e w13 ⟨rfl, hn13⟩))
              go_ret
              exact ⟨rfl, HNW.out.trans (HN9.out.trans hn13)⟩
        · have t3 : (orI [zonesF zs, namF nd] == 0) = false := by simpa using h1
          rw [show zoneV (orI [zonesF zs, namF nd]) zs nd = ByteArray.empty from by unfold zoneV; rw [if_neg h1], show notE ByteArray.empty = false from rfl]
          generalize orI [zonesF zs, namF nd] = G at *
          clear h1
          go_upto_region 20 with fail
          have HN5 := hide HN8.out
          clear HN8
          go_upto_region 22 with (first
            | (go_at_call 31; refine (HCR.out _ HN5.out).mono ?_; rintro e w8 ⟨A8, c8, l8, rfl, hy, hny, hR8, hn8⟩; (have HY := hide hy); (have HNY := hide hny); (have HR8 := hide hR8); clear hy hny hR8)
            | (go_at_call 32; refine (w_NamesFault _ _ _ 2000 L _ (HLW.out.nx (HN5.out.trans hn8)) HSL.out HLL.out).mono ?_; rintro e w9 ⟨rfl, hn9⟩)
            | (go_at_call 15; refine (w_Or2 (zonesF zs) (namesF L 2000) _ _ _ (hnew rfl)).mono ?_; rintro e w10 ⟨rfl, rfl⟩))
          have HN9 := hide (((HN5.out.trans hn8).trans hn9).alloc (.cells #[.int .i64 (zonesF zs), .int .i64 (namesF L 2000)] 30))
          have HR9 := hide ((HR8.out.nx hn9).nx ((Nx.refl _).alloc (.cells #[.int .i64 (zonesF zs), .int .i64 (namesF L 2000)] 30)))
          clear hn8 hn9 HR8 HN5
          by_cases h2 : orI [zonesF zs, namesF L 2000] = 0
          · have hl8 := HY.out h2
            subst hl8
            have t6 : (orI [zonesF zs, namesF L 2000] == 0) = true := by rw [h2]; rfl
            have t7 : (orI [zonesF zs, namesF L 2000] != 0) = false := by rw [h2]; rfl
            have HCL := hide (show (crossO zs L).length ≤ 65536 from by
              have h5 := crossO_len zs L
              have := HLL.out; omega)
            generalize orI [zonesF zs, namesF L 2000] = H at *
            clear HY HNY h2
            go_wp2_with (first
              | (go_at_call 33; refine (HCO.out _ HN9.out).mono ?_; rintro e w11 ⟨A11, c11, rfl, hR11, hn11⟩)
              | (go_at_call 17; refine (w_EqualS _ _ _ _ _ _ (crossO zs L) _ (HR9.out.nx hn11) hR11 HCL.out).mono ?_; rintro e w12 ⟨rfl, hn12⟩)
              | (go_at_call 22; refine (w_priced _).mono ?_; rintro e w13 ⟨rfl, hn13⟩))
            go_ret
            exact ⟨rfl, HNW.out.trans (((HN9.out.trans hn11).trans hn12).trans hn13)⟩
          · have hl8 := HNY.out h2
            subst hl8
            have t6 : (orI [zonesF zs, namesF L 2000] != 0) = true := by simpa using h2
            have t7 : (orI [zonesF zs, namesF L 2000] == orI [zonesF zs, namesF L 2000]) = true := by simp
            generalize orI [zonesF zs, namesF L 2000] = H at *
            clear HY HNY h2
            go_wp2_with (first
              | (go_at_call 22; refine (w_priced _).mono ?_; rintro e w13 ⟨rfl, hn13⟩))
            go_ret
            exact ⟨rfl, HNW.out.trans (HN9.out.trans hn13)⟩
end Go.Proofs.YtjhmgkoghapocaaDoor
