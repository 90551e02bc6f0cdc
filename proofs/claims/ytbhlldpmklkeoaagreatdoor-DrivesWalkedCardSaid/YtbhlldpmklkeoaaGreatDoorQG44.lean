/- jitlaw1.driven answers true. -/
import Derived.Test.YtbhlldpmklkeoaaGreatDoorQTimeOn
import Derived.Test.YtbhlldpmklkeoaaGreatDoorQStrS
import Derived.Test.YtbhlldpmklkeoaaGreatDoorQG37
import Derived.Test.YtbhlldpmklkeoaaGreatDoorQG17
import Derived.Test.YtbhlldpmklkeoaaGreatDoorQG4
import Derived.Test.YtbhlldpmklkeoaaGreatDoorQG15
import Derived.Below
namespace Go.Proofs.YtbhlldpmklkeoaaGreatDoor
open Go.RowKit

def sAd : ByteArray := ⟨#[97]⟩
def drKnots : List Knot := [⟨0, 100⟩, ⟨1000, 600⟩]
def drArc (A : Option Addr) (c : Nat) : Arc := ⟨sAd, sX, sY, 5, A, c, drKnots⟩
def drNodes : List Node := [⟨sX, 0, 0⟩, ⟨sY, 0, 0⟩]
theorem dr_le : strLe sY sX = false := by unfold strLe; rw [Lib.toList_data, Lib.toList_data]; decide
theorem dr_key : keyB sAd = true ∧ keyB sX = true ∧ keyB sY = true := by decide
theorem dr_nodes : nodesF drNodes = 0 := by
  unfold nodesF drNodes
  rw [if_neg (by decide)]
  have h1 : nodeF none ⟨sX, 0, 0⟩ = 0 := by unfold nodeF; rw [dr_key.2.1]; decide
  have h2 : nodeF (some ⟨sX, 0, 0⟩) ⟨sY, 0, 0⟩ = 0 := by unfold nodeF; rw [dr_key.2.2]; simp only [dr_le]; decide
  simp only [chk, h1, h2, if_pos]
theorem dr_pair : pairN sX sY = drNodes := by
  have h : Op.bytesLess sY.toList sX.toList = false := by rw [Lib.toList_data, Lib.toList_data]; decide
  unfold pairN lo2 hi2
  rw [if_neg (by decide), h]
  rfl
theorem dr_roads (A : Option Addr) (c : Nat) : roadsF (pairN sX sY) [drArc A c] [] = 0 := by
  unfold roadsF
  rw [dr_pair, if_pos dr_nodes]
  have hg : arcG drNodes (drArc A c) = 0 := by
    unfold arcG
    show (if nodeI drNodes sX < 0 ∨ nodeI drNodes sY < 0 then (8 : Int) else if sX = sY then 6 else if outB 5 1 1000000 = true then 1 else knotsF drKnots) = 0
    rw [if_neg (show ¬ (nodeI drNodes sX < 0 ∨ nodeI drNodes sY < 0) by decide), if_neg (show ¬ sX = sY by decide), if_neg (show ¬ outB 5 1 1000000 = true by decide)]
    exact (show knotsF drKnots = 0 by decide)
  have h1 : arcF drNodes none (drArc A c) = 0 := by
    unfold arcF
    rw [show keyB (drArc A c).key = true from dr_key.1, if_pos rfl]
    exact hg
  have h2 : chk (arcF drNodes) none [drArc A c] = 0 := by simp only [chk, h1, if_pos]
  rw [if_pos h2]
  rfl
theorem dr_F (A : Option Addr) (c : Nat) : timeOnF (drArc A c) 500 = 0 := by
  unfold timeOnF
  rw [show (drArc A c).from_ = sX from rfl, show (drArc A c).to_ = sY from rfl, if_pos (dr_roads A c)]
  decide
theorem dr_I (A : Option Addr) (c : Nat) : timeOnI (drArc A c) 500 = 350 := by
  unfold timeOnI
  rw [if_pos (dr_F A c)]
  exact (show timeI drKnots 500 = 350 by decide)

set_option maxRecDepth 100000 in
set_option maxHeartbeats 1000000 in
theorem w_driven (w : World) : Calls Tryz.prog 9 #[] w fun e w' => e = .returned (.bool true) ∧ Nx w w' := by
  have hK : Rd (w.alloc (.cells #[.int .i64 0, .int .i64 100, .int .i64 1000, .int .i64 600] 68)) 0 (some ⟨w.heap.size, 0, none⟩) 2 encKnot drKnots := Rd.lit (hnew rfl) (Nat.zero_le _) encKnot_len rfl
  have hT := w_TimeOn 0 (drArc (some ⟨w.heap.size, 0, none⟩) 2) 500 _ hK (show drKnots.length ≤ 400 by decide) (show sAd.size ≤ 1000000 by decide) (show sX.size ≤ 1000000 by decide) (show sY.size ≤ 1000000 by decide)
  rw [dr_I, dr_F] at hT
  have HT := hide hT
  clear hT hK
  go_enter Tryz.func9, Tryz.ntmps9
  go_wp2_with (go_at_call 11; refine HT.out.mono ?_; rintro e w2 ⟨rfl, hn2⟩)
  go_ret
  exact ⟨rfl, ((Nx.refl w).alloc _).trans hn2⟩
end Go.Proofs.YtbhlldpmklkeoaaGreatDoor
/- When somebody leaves: the stream's moments. -/
namespace Go.Proofs.YtbhlldpmklkeoaaGreatDoor
open Go.RowKit

set_option maxRecDepth 100000 in
set_option maxHeartbeats 2000000 in
theorem w_Departure (s k : Nat) (w : World) (hS : Str w s k) (hk : k < 900000) :
    Calls Tryz.prog 6 #[.pointer (some ⟨s, 0, none⟩)] w (StrInt (-1) 345686400000 s (k + 4) w) := by
  have hsl := hS.lt
  go_enter Tryz.func6, Tryz.ntmps6
  go_wp2_with fail
  refine (w_Next 20000 _ _ _ hS (by omega) (by omega)).mono ?_
  rintro e w1 ⟨r1, h11, h12, rfl, hg1, hS1⟩
  go_wp2_with fail
  refine (w_Next 20000 _ _ _ hS1 (by omega) (by omega)).mono ?_
  rintro e w2 ⟨r2, h21, h22, rfl, hg2, hS2⟩
  have hs2 := hS2.lt
  go_wp2_with fail
  refine (w_PickI w2.heap.size [345686399999, 345686399950, -1, 345686400000] _ _ _ _ (hS2.nx ((Nx.refl _).alloc _)) (by omega) (hnew rfl) (by omega) rfl (by simp) (by simp)).mono ?_
  rintro e w3 ⟨r3, h3, rfl, hg3, hS3⟩
  have hs3 := hS3.lt
  have h3' : -1 ≤ r3 ∧ r3 ≤ 345686400000 := by simp at h3; omega
  go_wp2_with fail
  refine (w_PickI w3.heap.size [0, 30, 55, 100, 500, 1000, 5000, 3600000, 86399980, r1, r2, r3] _ _ _ _ (hS3.nx ((Nx.refl _).alloc _)) (by omega) (hnew rfl) (by omega) rfl (by simp) (by simp)).mono ?_
  rintro e w4 ⟨r4, h4, rfl, hg4, hS4⟩
  have h4' : -1 ≤ r4 ∧ r4 ≤ 345686400000 := by simp at h4; omega
  go_wp2_with fail
  go_ret
  exact ⟨r4, h4'.1, h4'.2, rfl, hg1.trans (hg2.trans (((Gr.refl s w2).alloc _).trans (hg3.trans (((Gr.refl s w3).alloc _).trans hg4)))), hS4⟩
end Go.Proofs.YtbhlldpmklkeoaaGreatDoor
/- slices.Equal of two rows of numbers that are the same. -/
namespace Go.Proofs.YtbhlldpmklkeoaaGreatDoor
open Go.RowKit

set_option maxRecDepth 100000 in
set_option maxHeartbeats 1000000 in
theorem w_EqualIJ (lo lo' : Nat) (A B : Option Addr) (c d : Nat) (l : List Int) (w : World) (hA : Rd w lo A 1 encI l) (hB : Rd w lo' B 1 encI l) (hl : l.length ≤ 65536) :
    Calls Tryz.prog 24 #[.slice A l.length c, .slice B l.length d] w fun e w' => e = .returned (.bool true) ∧ Nx w w' := by
  generalize hn : l.length = n at *
  have HA := hide hA
  have HB := hide hB
  have HN := hide hn
  clear hA hB hn
  go_enter Tryz.func24, Tryz.ntmps24
  go_wp2
  go_loopw [5, 13] (fun _ i wr => ∃ k : Nat, k ≤ n ∧ i = .int .i64 k ∧ Nx w wr) (fun _ i _ => n - (intOf i).toNat)
  case atStart => exact ⟨0, Nat.zero_le _, rfl, Nx.refl _⟩
  case round =>
    obtain ⟨k, hk, rfl, hbw⟩ := hrel
    by_cases hlt : k < n
    · have hlt' : k < l.length := by have := HN.out; omega
      obtain ⟨b, off, rfl, _, hb, hbr, hc⟩ := HA.out.open_ hbw (by omega)
      obtain ⟨b', off', rfl, _, hb', hbr', hc'⟩ := HB.out.open_ hbw (by omega)
      have c0 : wr.cell? ⟨b, off + k, none⟩ = some (.int .i64 l[k]) := by have := hc k hlt' 0 _ rfl; simpa using this
      have d0 : wr.cell? ⟨b', off' + k, none⟩ = some (.int .i64 l[k]) := by have := hc' k hlt' 0 _ rfl; simpa using this
      clear hc hc'
      have q1 : (0 : Int) ≤ (k : Int) := by omega
      have q2 : (k : Int) < (n : Int) := by omega
      go_wp2_with fail
      go_quiet (fail)
      go_wp2
      go_roundw
      case rel => exact ⟨k + 1, by omega, by go_num, hbw.drewN _⟩
      case measure => simp [intOf]; omega
    · go_wp2
      go_ret
      exact ⟨rfl, hbw⟩
end Go.Proofs.YtbhlldpmklkeoaaGreatDoor
/- What the laws share: the end, the stream, cmp.Or of two or three. -/
namespace Go.Proofs.YtbhlldpmklkeoaaGreatDoor
open Go.RowKit

/-- The law's world: what was there stays. -/
def TrueNx (w : World) (e : Ending) (w' : World) : Prop := e = .returned (.bool true) ∧ Nx w w'

theorem w_Or2 (a b : Int) (g c : Nat) (w : World) (hg : w.heap[g]? = some (.cells #[.int .i64 a, .int .i64 b] 33 (0, 0))) :
    Calls Tryz.prog 12 #[.slice (some ⟨g, 0, none⟩) 2 c] w fun e w' => e = .returned (.int .i64 (orI [a, b])) ∧ w = w' := by
  have hR : Rd w 0 (some ⟨g, 0, none⟩) 1 encI [a, b] := Rd.lit hg (Nat.zero_le _) (fun _ => rfl) rfl
  exact w_OrE 0 _ c [a, b] w hR (by simp)

theorem str_new (A : Option Addr) (n c : Nat) (w : World) (hn : n ≤ 9223372036854775807)
    (hL : 0 < n → ∃ b off, A = some ⟨b, off, none⟩ ∧ b < w.heap.size ∧ ∀ j, j < n → ∃ z : Int, w.cell? ⟨b, off + j, none⟩ = some (.int .i64 z) ∧ -9223372036854775808 ≤ z ∧ z ≤ 9223372036854775807) :
    Str (w.alloc (.cells #[.slice A n c, .int .i64 0] 25)) w.heap.size 0 := by
  refine ⟨A, n, c, 0, Nat.le_refl _, hn, hnew rfl, fun hp => ?_⟩
  obtain ⟨b, off, e, hb, hz⟩ := hL hp
  refine ⟨b, off, e, hb, fun j hj => ?_⟩
  obtain ⟨z, h1, h2⟩ := hz j hj
  exact ⟨z, (Below.cell ((Nx.refl w).alloc _) (p := ⟨b, _, none⟩) hb).trans h1, h2⟩
end Go.Proofs.YtbhlldpmklkeoaaGreatDoor
