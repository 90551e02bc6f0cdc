/- The stream's strings; clones. -/
import Derived.Test.YtbhlldpmklkeoaaGreatDoorQG15
import Derived.Test.YtbhlldpmklkeoaaGreatDoorQG17
import Derived.Lib.SliceRun
namespace Go.Proofs.YtbhlldpmklkeoaaGreatDoor
open Go.RowKit Go.Sort Go.Proofs Go.Shelf

/-- A string of some list. -/
def StrSome (zs : List ByteArray) (s k : Nat) (w : World) (e : Ending) (w' : World) : Prop := ∃ r ∈ zs, e = .returned (.string r) ∧ Gr s w w' ∧ Str w' s k
set_option maxRecDepth 100000 in
set_option maxHeartbeats 400000 in
/-- 's.Some(..)' of strings that lie in a block of their own. -/
theorem w_Some (g : Nat) (zs : List ByteArray) (cs : Array Value) (s k : Nat) (w : World) (hS : Str w s k) (hk : k < 1000000) (hg : w.heap[g]? = some (.cells cs 9 (0, 0))) (hne : g ≠ s) (hcs : cs.toList = zs.map Value.string) (h0 : zs ≠ []) (h1 : zs.length < 1000) :
    Calls Tryz.prog 27 #[.pointer (some ⟨s, 0, none⟩), .slice (some ⟨g, 0, none⟩) zs.length zs.length] w (StrSome zs s (k + 1) w) := by
  have hl : cs.size = zs.length := by rw [← Array.length_toList, hcs, List.length_map]
  have hp := List.length_pos_iff.2 h0
  generalize hm : zs.length = m at *
  have HM := hide hm
  clear hm h0
  go_enter Tryz.func27, Tryz.ntmps27
  go_wp2_with (go_at_call 10; refine (w_Next _ _ _ _ hS hk (by omega)).mono ?_; rintro e w' ⟨r, hr1, hr2, rfl, hgr, hS'⟩; (obtain ⟨q, rfl⟩ := Int.eq_ofNat_of_zero_le hr1); (have hq : q < zs.length := by have := HM.out; omega); (have hcell : w'.cell? ⟨g, q, none⟩ = some (.string zs[q]) := World.grownBy.cell hgr ((cell_of_row w g q _ _ _ hg).trans (by rw [← Array.getElem?_toList, hcs, List.getElem?_map, List.getElem?_eq_getElem hq]; rfl)) (by simp; omega)))
  go_ret
  exact ⟨_, List.getElem_mem hq, rfl, hgr, hS'⟩

/-- Rides, and what their groups cost. -/
def StrCosts (s k : Nat) (w : World) (e : Ending) (w' : World) : Prop :=
  ∃ (A : Option Addr) (c : Nat) (l : List ByteArray) (B : Option Addr) (c' : Nat) (cs : List Int), e = .returned (.tuple #[.slice A l.length c, .slice B cs.length c']) ∧ l.length ≤ 6 ∧ Small l ∧ cs.length ≤ 40 ∧
    Rd w' w.heap.size A 1 encS l ∧ Rd w' w.heap.size B 1 encI cs ∧ Gr s w w' ∧ Str w' s k
def jaB : ByteArray := ⟨#[106, 97]⟩
def jL : List ByteArray := [⟨#[106, 97]⟩, ⟨#[106, 98]⟩, ⟨#[106, 99]⟩, ⟨#[106, 100]⟩, ⟨#[106, 101]⟩]
theorem jL_small (n : Nat) : Small (jL.take n) := by
  intro x hx
  have h := List.mem_of_mem_take hx
  simp [jL] at h
  rcases h with rfl | rfl | rfl | rfl | rfl <;> decide

theorem encFrac_len (x : Frac) : (encFrac x).length = 2 := rfl
theorem encFrac_one (x : Frac) : ∀ v ∈ encFrac x, v.oneCell' = true := by
  intro v hv; simp [encFrac] at hv; rcases hv with rfl | rfl <;> rfl
/-- Some steps. -/
def StrTiers (s k : Nat) (w : World) (e : Ending) (w' : World) : Prop :=
  ∃ (A : Option Addr) (c : Nat) (l : List Frac), e = .returned (.slice A l.length c) ∧ l.length ≤ 4 ∧ Rd w' w.heap.size A 2 encFrac l ∧ Gr s w w' ∧ Str w' s k
end Go.Proofs.YtbhlldpmklkeoaaGreatDoor
