/- The zone of a node; the zones to which nodes come: the program's and the reference's. -/
import Derived.Test.YtjhmgkoghapocaaDoorZoneB
import Derived.Test.YtjhmgkoghapocaaDoorZoneF
import Derived.Test.YtjhmgkoghapocaaDoorAppL
import Derived.Test.YtjhmgkoghapocaaDoorFairR
import Derived.Shelf.Slices.CompactS
import Derived.Deep.DeepCutAuto
namespace Go.Proofs.YtjhmgkoghapocaaDoor
open Go.RowKit Go.Proofs Go.Shelf

set_option maxRecDepth 100000 in
set_option maxHeartbeats 2000000 in
theorem w_zoneOf (lo : Nat) (A : Option Addr) (c : Nat) (zs : List Zone) (s : ByteArray) (w : World) (hR : RdZones w lo A zs) (hl : zs.length ≤ 100) (hs : ∀ z ∈ zs, z.nodes.Pairwise ltS) :
    Calls Tryd.prog 66 #[.slice A zs.length c, .string s] w fun e w' => e = .returned (.string (zoneO zs s)) ∧ Nx w w' := by
  have HX := hide hR.2
  have HR := hide hR.1
  have HS := hide hs
  generalize hn : zs.length = n at *
  have HN := hide hn
  clear hR hn hs
  go_enter Tryd.func66, Tryd.ntmps66
  go_wp2_with fail
  go_loopw [11] (fun i wr => ∃ k : Nat, k ≤ n ∧ i = .int .i64 k ∧ Nx w wr ∧ zoneO zs s = zoneO (zs.drop k) s) (fun i _ => n - (intOf i).toNat)
  case atStart => exact ⟨0, Nat.zero_le _, rfl, Nx.refl _, rfl⟩
  case round =>
    obtain ⟨k, hk, rfl, hbw, hq⟩ := hrel
    have HQ := hide hq
    clear hq
    by_cases hlt : k < n
    · have hlt' : k < zs.length := by have := HN.out; omega
      have HD := hide (zoneO_drop zs s k hlt')
      obtain ⟨hRx, hSx, hLx, hKx⟩ := HX.out zs[k] (List.getElem_mem hlt')
      have HPS := hide (HS.out zs[k] (List.getElem_mem hlt'))
      obtain ⟨b, off, rfl, _, hb, hbr, hc⟩ := HR.out.open_ hbw (by omega)
      have c0 : wr.cell? ⟨b, off + k * 2, none⟩ = some (.string zs[k].key) := hc k hlt' 0 _ rfl
      have c1 : wr.cell? ⟨b, off + k * 2 + 1, none⟩ = some (.slice zs[k].a zs[k].nodes.length zs[k].cap) := hc k hlt' 1 _ rfl
      clear hc
      generalize zs[k] = x at *
      have HC := hide (w_BinS _ _ x.cap _ s (wr.alloc (.cells #[.string x.key, .slice x.a x.nodes.length x.cap] 93)) (hRx.nx (hbw.alloc _)) (by omega) HPS.out)
      have g0 : (wr.alloc (.cells #[.string x.key, .slice x.a x.nodes.length x.cap] 93)).cell? ⟨wr.heap.size, 0, none⟩ = some (.string x.key) := by go_simp
      have HG := hide g0
      clear hRx hSx g0
      cases hm : memB x.nodes s
      · have HM := hide hm
        rw [hm] at HC
        clear hm
        go_wp2_with (go_at_call 88; refine HC.out.mono ?_; rintro e w1 ⟨q, rfl, hn1⟩)
        go_roundw
        case rel => exact ⟨k + 1, by omega, by go_num, (hbw.alloc _).trans hn1, by rw [HQ.out, HD.out, HM.out]; rfl⟩
        case measure => simp [intOf]; omega
      · have HM := hide hm
        rw [hm] at HC
        clear hm
        go_wp2_with (go_at_call 88; refine HC.out.mono ?_; rintro e w1 ⟨q, rfl, hn1⟩; (have g1 : w1.cell? ⟨wr.heap.size, 0, none⟩ = some (.string x.key) := World.grownBy.cell (hn1.gr none) HG.out (by simp)))
        go_ret
        exact ⟨congrArg Ending.returned (congrArg Value.string (by rw [HQ.out, HD.out, HM.out]; rfl)), (hbw.alloc _).trans hn1⟩
    · have ek : k = n := by omega
      subst ek
      have HE := hide (show zoneO (zs.drop k) s = ByteArray.empty by rw [List.drop_eq_nil_iff.2 (by have := HN.out; omega)]; rfl)
      go_wp2_with fail
      go_ret
      exact ⟨congrArg Ending.returned (congrArg Value.string (by rw [HQ.out, HE.out]; rfl)), hbw⟩

set_option maxRecDepth 100000 in
set_option maxHeartbeats 2000000 in
theorem w_ZoneFor (lo : Nat) (A : Option Addr) (c : Nat) (zs : List Zone) (s : ByteArray) (w : World) (hR : RdZones w lo A zs) (hl : zs.length ≤ 100) :
    Calls Tryd.prog 30 #[.slice A zs.length c, .string s] w fun e w' => e = .returned (.string (zoneO zs s)) ∧ Nx w w' := by
  have HX := hide hR.2
  have HR := hide hR.1
  generalize hn : zs.length = n at *
  have HN := hide hn
  clear hR hn
  go_enter Tryd.func30, Tryd.ntmps30
  go_wp2_with fail
  go_loopw [9] (fun i wr => ∃ k : Nat, k ≤ n ∧ i = .int .i64 k ∧ Nx w wr ∧ zoneO zs s = zoneO (zs.drop k) s) (fun i _ => n - (intOf i).toNat)
  case atStart => exact ⟨0, Nat.zero_le _, rfl, Nx.refl _, rfl⟩
  case round =>
    obtain ⟨k, hk, rfl, hbw, hq⟩ := hrel
    have HQ := hide hq
    clear hq
    by_cases hlt : k < n
    · have hlt' : k < zs.length := by have := HN.out; omega
      have HD := hide (zoneO_drop zs s k hlt')
      obtain ⟨hRx, hSx, hLx, hKx⟩ := HX.out zs[k] (List.getElem_mem hlt')
      obtain ⟨b, off, rfl, _, hb, hbr, hc⟩ := HR.out.open_ hbw (by omega)
      have c0 : wr.cell? ⟨b, off + k * 2, none⟩ = some (.string zs[k].key) := hc k hlt' 0 _ rfl
      have c1 : wr.cell? ⟨b, off + k * 2 + 1, none⟩ = some (.slice zs[k].a zs[k].nodes.length zs[k].cap) := hc k hlt' 1 _ rfl
      clear hc
      generalize zs[k] = x at *
      have HC := hide (w_ContS _ _ x.cap _ s (wr.alloc (.cells #[.string x.key, .slice x.a x.nodes.length x.cap] 93)) (hRx.nx (hbw.alloc _)) (by omega))
      have g0 : (wr.alloc (.cells #[.string x.key, .slice x.a x.nodes.length x.cap] 93)).cell? ⟨wr.heap.size, 0, none⟩ = some (.string x.key) := by go_simp
      have HG := hide g0
      clear hRx hSx g0
      cases hm : memB x.nodes s
      · have HM := hide hm
        rw [hm] at HC
        clear hm
        go_wp2_with (go_at_call 67; refine HC.out.mono ?_; rintro e w1 ⟨rfl, hn1⟩)
        go_roundw
        case rel => exact ⟨k + 1, by omega, by go_num, (hbw.alloc _).trans hn1, by rw [HQ.out, HD.out, HM.out]; rfl⟩
        case measure => simp [intOf]; omega
      · have HM := hide hm
        rw [hm] at HC
        clear hm
        go_wp2_with (go_at_call 67; refine HC.out.mono ?_; rintro e w1 ⟨rfl, hn1⟩; (have g1 : w1.cell? ⟨wr.heap.size, 0, none⟩ = some (.string x.key) := World.grownBy.cell (hn1.gr none) HG.out (by simp)))
        go_ret
        exact ⟨congrArg Ending.returned (congrArg Value.string (by rw [HQ.out, HD.out, HM.out]; rfl)), (hbw.alloc _).trans hn1⟩
    · have ek : k = n := by omega
      subst ek
      have HE := hide (show zoneO (zs.drop k) s = ByteArray.empty by rw [List.drop_eq_nil_iff.2 (by have := HN.out; omega)]; rfl)
      go_wp2_with fail
      go_ret
      exact ⟨congrArg Ending.returned (congrArg Value.string (by rw [HQ.out, HE.out]; rfl)), hbw⟩
end Go.Proofs.YtjhmgkoghapocaaDoor
