/- fare.ZoneOf and fare.Crossed. -/
import Derived.Test.YtjhmgkoghapocaaDoorCross
import Derived.Test.YtjhmgkoghapocaaDoorNames
import Derived.Test.YtjhmgkoghapocaaDoorFirst
import Derived.Deep.RegionHeld3
namespace Go.Proofs.YtjhmgkoghapocaaDoor
open Go.RowKit Go.Proofs Go.Shelf

/-- The zone of a node, or a fault. -/
def zoneV (F : Int) (zs : List Zone) (s : ByteArray) : ByteArray := if F = 0 then zoneO zs s else ByteArray.empty
def notE (z : ByteArray) : Bool := !decide (z = ByteArray.empty)
set_option maxRecDepth 100000 in
set_option maxHeartbeats 2000000 in
theorem w_ZoneOf (lo : Nat) (A : Option Addr) (c : Nat) (zs : List Zone) (s : ByteArray) (w : World) (hR : RdZones w lo A zs) (hl : zs.length ≤ 100) (hs : s.size ≤ 1000000) :
    Calls Tryd.prog 28 #[.slice A zs.length c, .string s] w fun e w' => e = .returned (.tuple #[.string (zoneV (orI [zonesF zs, namF s]) zs s), .bool (notE (zoneV (orI [zonesF zs, namF s]) zs s)), .int .i64 (orI [zonesF zs, namF s])]) ∧ Nx w w' := by
  have HC := hide (w_CheckZones lo A c zs w hR hl)
  by_cases h0 : zonesF zs = 0
  · have HZ := hide (fun w' hn => w_zoneOf lo A c zs s w' (hR.nx hn) hl (zonesF_sorted h0))
    rw [h0] at HC ⊢
    cases hk : keyB s
    · have e : orI [0, namF s] = 5 := by unfold namF; rw [hk]; rfl
      rw [e, show zoneV 5 zs s = ByteArray.empty from rfl, show notE ByteArray.empty = false from rfl]
      generalize zs.length = zl at *
      clear hR h0 e
      go_enter Tryd.func28, Tryd.ntmps28
      go_wp2_with (first
        | (go_at_call 27; refine HC.out.mono ?_; rintro e w1 ⟨rfl, hn1⟩)
        | (go_at_call 65; refine (w_KeyN _ _ hs).mono ?_; rintro e w2 ⟨rfl, hn2⟩))
      go_ret3
      exact ⟨rfl, hn1.trans hn2⟩
    · have e : orI [0, namF s] = 0 := by unfold namF; rw [hk]; rfl
      rw [e, show zoneV 0 zs s = zoneO zs s from rfl]
      generalize zs.length = zl at *
      by_cases hz : zoneO zs s = ByteArray.empty
      · rw [hz] at HZ ⊢
        rw [show notE ByteArray.empty = false from rfl]
        clear hR h0 e hz
        go_enter Tryd.func28, Tryd.ntmps28
        go_wp2_with (first
          | (go_at_call 27; refine HC.out.mono ?_; rintro e w1 ⟨rfl, hn1⟩)
          | (go_at_call 65; refine (w_KeyN _ _ hs).mono ?_; rintro e w2 ⟨rfl, hn2⟩)
          | (go_at_call 66; refine (HZ.out _ (hn1.trans hn2)).mono ?_; rintro e w3 ⟨rfl, hn3⟩))
        go_ret3
        exact ⟨rfl, (hn1.trans hn2).trans hn3⟩
      · have he := ne_empty hz
        have HNE := hide (show notE (zoneO zs s) = true from by unfold notE; simp [hz])
        rw [HNE.out]
        generalize zoneO zs s = z at *
        clear hR h0 e hz
        go_enter Tryd.func28, Tryd.ntmps28
        go_wp2_with (first
          | (go_at_call 27; refine HC.out.mono ?_; rintro e w1 ⟨rfl, hn1⟩)
          | (go_at_call 65; refine (w_KeyN _ _ hs).mono ?_; rintro e w2 ⟨rfl, hn2⟩)
          | (go_at_call 66; refine (HZ.out _ (hn1.trans hn2)).mono ?_; rintro e w3 ⟨rfl, hn3⟩))
        go_ret3
        exact ⟨rfl, (hn1.trans hn2).trans hn3⟩
  · have e : orI [zonesF zs, namF s] = zonesF zs := by rw [orI_two, if_neg h0]
    rw [e, show zoneV (zonesF zs) zs s = ByteArray.empty from by unfold zoneV; rw [if_neg h0], show notE ByteArray.empty = false from rfl]
    have t1 : (zonesF zs != 0) = true := by simpa using h0
    generalize zonesF zs = F at *
    generalize zs.length = zl at *
    clear hR h0 e
    go_enter Tryd.func28, Tryd.ntmps28
    go_wp2_with (first
      | (go_at_call 27; refine HC.out.mono ?_; rintro e w1 ⟨rfl, hn1⟩))
    go_ret3
    exact ⟨rfl, hn1⟩

/-- Strings and an error. -/
def StrsE (F : Int) (L : List ByteArray) (w : World) (e : Ending) (w' : World) : Prop :=
  ∃ (A : Option Addr) (c : Nat) (l : List ByteArray), e = .returned (.tuple #[.slice A l.length c, .int .i64 F]) ∧ (F = 0 → l = L) ∧ (F ≠ 0 → l = []) ∧ Rd w' w.heap.size A 1 encS l ∧ Nx w w'
set_option maxRecDepth 100000 in
set_option maxHeartbeats 2000000 in
theorem w_Crossed (lo lo' : Nat) (A B : Option Addr) (c c' : Nat) (zs : List Zone) (l : List ByteArray) (w : World) (hR : RdZones w lo A zs) (hl : zs.length ≤ 100) (hB : Rd w lo' B 1 encS l) (hS : Small l) (hl' : l.length ≤ 65536) :
    Calls Tryd.prog 31 #[.slice A zs.length c, .slice B l.length c'] w (StrsE (orI [zonesF zs, namesF l 2000]) (crossO zs l) w) := by
  have HC := hide (w_CheckZones lo A c zs w hR hl)
  have HN := hide (fun w' (hn : Nx w w') => w_nodesFault lo' B c' l w' (hB.nx hn) hS hl')
  by_cases h0 : orI [zonesF zs, namesF l 2000] = 0
  · have hz0 : zonesF zs = 0 := by
      rw [orI_two] at h0
      by_cases h : zonesF zs = 0
      · exact h
      · rw [if_neg h] at h0; exact h0
    have hn0 : namesF l 2000 = 0 := by rw [orI_two, if_pos hz0] at h0; exact h0
    have HX := hide (fun w' (hn : Nx w w') => w_crossed lo lo' A B c c' zs l w' (hR.nx hn) hl (zonesF_sorted hz0) (hB.nx hn) hl')
    rw [hz0] at HC
    rw [hn0] at HN
    rw [h0]
    generalize zs.length = zl at *
    generalize l.length = n at *
    clear hR hB hS h0 hz0 hn0
    go_enter Tryd.func31, Tryd.ntmps31
    go_wp2_with (first
      | (go_at_call 27; refine HC.out.mono ?_; rintro e w1 ⟨rfl, hn1⟩)
      | (go_at_call 69; refine (HN.out _ hn1).mono ?_; rintro e w2 ⟨rfl, hn2⟩)
      | (go_at_call 68; refine (w_First2 0 0 _ _ _ (hnew rfl)).mono ?_; rintro e w3 ⟨rfl, rfl⟩)
      | (go_at_call 70; refine (HX.out _ ((hn1.trans hn2).alloc _)).mono ?_; rintro e w4 ⟨A4, c4, rfl, hR4, hn4⟩))
    go_ret2
    exact ⟨A4, c4, crossO zs l, rfl, fun _ => rfl, fun h => absurd rfl h, hR4.low (by have := hn1.sz; have := hn2.sz; simp; omega), ((hn1.trans hn2).alloc _).trans hn4⟩
  · have t1 : (orI [zonesF zs, namesF l 2000] != 0) = true := by simpa using h0
    have H0 := hide h0
    generalize zonesF zs = F at *
    generalize namesF l 2000 = G at *
    generalize zs.length = zl at *
    generalize l.length = n at *
    clear hR hB hS h0
    go_enter Tryd.func31, Tryd.ntmps31
    go_wp2_with (first
      | (go_at_call 27; refine HC.out.mono ?_; rintro e w1 ⟨rfl, hn1⟩)
      | (go_at_call 69; refine (HN.out _ hn1).mono ?_; rintro e w2 ⟨rfl, hn2⟩)
      | (go_at_call 68; refine (w_First2 F G _ _ _ (hnew rfl)).mono ?_; rintro e w3 ⟨rfl, rfl⟩))
    go_ret2
    exact ⟨none, 0, [], rfl, fun h => absurd h H0.out, fun _ => rfl, Rd.nil, (hn1.trans hn2).alloc _⟩
end Go.Proofs.YtjhmgkoghapocaaDoor
