/- Plain: the point between two nodes that is nearest to a point; the nearest of all arcs. -/
import Derived.Test.YtepbamacebjopaaGreatDoorQG0
import Derived.Test.YtepbamacebjopaaGreatDoorRows
import Derived.Deep.QuietTactic
import Derived.BigQuiet
import Derived.Outline
import Derived.Deep.RegionWith
import Derived.Sort.WalkA
import Derived.BigRegion
import Derived.Below
import Derived.Test.YtepbamacebjopaaGreatDoorQShelfK
namespace Go.Proofs.YtepbamacebjopaaGreatDoor
open Go.RowKit

structure SpotV where
  key : ByteArray
  pn : Nat
  pd : Nat
  fn : Nat
  fd : Nat
instance : Inhabited SpotV := ⟨⟨ByteArray.empty, 0, 0, 0, 0⟩⟩
def spotV (k : ByteArray) (dx dy ex ey fx fy : Int) : SpotV :=
  if dx * ex + dy * ey ≤ 0 then ⟨k, 0, 1, (ex * ex + ey * ey).toNat, 1⟩
  else if dx * dx + dy * dy ≤ dx * ex + dy * ey then ⟨k, 1, 1, (fx * fx + fy * fy).toNat, 1⟩
  else ⟨k, (dx * ex + dy * ey).toNat / Nat.gcd (dx * ex + dy * ey).toNat (dx * dx + dy * dy).toNat, (dx * dx + dy * dy).toNat / Nat.gcd (dx * ex + dy * ey).toNat (dx * dx + dy * dy).toNat,
        ((dx * ey - dy * ex) * (dx * ey - dy * ex)).toNat / Nat.gcd ((dx * ey - dy * ex) * (dx * ey - dy * ex)).toNat (dx * dx + dy * dy).toNat, (dx * dx + dy * dy).toNat / Nat.gcd ((dx * ey - dy * ex) * (dx * ey - dy * ex)).toNat (dx * dx + dy * dy).toNat⟩
/-- The point of an arc. -/
def spotA (ns : List Node) (a : Arc) (x y : Int) : SpotV :=
  let p := ns.getD (nodeI ns a.from_).toNat default
  let q := ns.getD (nodeI ns a.to_).toNat default
  spotV a.key (q.x - p.x) (q.y - p.y) (x - p.x) (y - p.y) (x - q.x) (y - q.y)
def nearerB (s b : SpotV) : Bool := decide (s.fn * b.fd < b.fn * s.fd)
def bestS (f : Arc → SpotV) : List Arc → Nat → SpotV → SpotV
  | [], _, b => b
  | a :: l, i, b => bestS f l (i + 1) (if i = 0 then f a else if nearerB (f a) b then f a else b)
theorem bestS_drop (f : Arc → SpotV) (rs : List Arc) (k : Nat) (hk : k < rs.length) (i : Nat) (b : SpotV) : bestS f (rs.drop k) i b = bestS f (rs.drop (k + 1)) (i + 1) (if i = 0 then f rs[k] else if nearerB (f rs[k]) b then f rs[k] else b) := by
  rw [List.drop_eq_getElem_cons hk, bestS]
def BdS (s : SpotV) : Prop := s.pn ≤ 1000000000000000000 ∧ s.pd ≤ 1000000000000000000 ∧ s.fn ≤ 1000000000000000000 ∧ s.fd ≤ 1000000000000000000
theorem mul_bd {a b : Int} (ha : -20000 ≤ a ∧ a ≤ 20000) (hb : -20000 ≤ b ∧ b ≤ 20000) : -400000000 ≤ a * b ∧ a * b ≤ 400000000 := by
  have h1 : (a.natAbs * b.natAbs) ≤ 20000 * 20000 := Nat.mul_le_mul (by omega) (by omega)
  have h2 : (a * b).natAbs = a.natAbs * b.natAbs := Int.natAbs_mul a b
  omega
theorem sq_bd {a : Int} (ha : -20000 ≤ a ∧ a ≤ 20000) : 0 ≤ a * a ∧ a * a ≤ 400000000 := by
  have h1 : 0 ≤ a * a := by
    rcases Int.le_total 0 a with h | h
    · exact Int.mul_nonneg h h
    · exact Int.mul_nonneg_of_nonpos_of_nonpos h h
  exact ⟨h1, (mul_bd ha ha).2⟩
theorem sq_bd2 {a : Int} (ha : -800000000 ≤ a ∧ a ≤ 800000000) : 0 ≤ a * a ∧ a * a ≤ 640000000000000000 := by
  have h1 : 0 ≤ a * a := by
    rcases Int.le_total 0 a with h | h
    · exact Int.mul_nonneg h h
    · exact Int.mul_nonneg_of_nonpos_of_nonpos h h
  have h2 : (a.natAbs * a.natAbs) ≤ 800000000 * 800000000 := Nat.mul_le_mul (by omega) (by omega)
  have h3 : (a * a).natAbs = a.natAbs * a.natAbs := Int.natAbs_mul a a
  exact ⟨h1, by omega⟩
/-- All that a walk needs of the numbers. -/
structure SpotBd (dx dy ex ey fx fy : Int) : Prop where
  a1 : 0 ≤ dx * dx ∧ dx * dx ≤ 400000000
  a2 : 0 ≤ dy * dy ∧ dy * dy ≤ 400000000
  a3 : -400000000 ≤ dx * ex ∧ dx * ex ≤ 400000000
  a4 : -400000000 ≤ dy * ey ∧ dy * ey ≤ 400000000
  a5 : 0 ≤ ex * ex ∧ ex * ex ≤ 400000000
  a6 : 0 ≤ ey * ey ∧ ey * ey ≤ 400000000
  a7 : 0 ≤ fx * fx ∧ fx * fx ≤ 400000000
  a8 : 0 ≤ fy * fy ∧ fy * fy ≤ 400000000
  a9 : -400000000 ≤ dx * ey ∧ dx * ey ≤ 400000000
  a10 : -400000000 ≤ dy * ex ∧ dy * ex ≤ 400000000
  a11 : 0 ≤ (dx * ey - dy * ex) * (dx * ey - dy * ex) ∧ (dx * ey - dy * ex) * (dx * ey - dy * ex) ≤ 640000000000000000
theorem spotBd {dx dy ex ey fx fy : Int} (h1 : -20000 ≤ dx ∧ dx ≤ 20000) (h2 : -20000 ≤ dy ∧ dy ≤ 20000) (h3 : -20000 ≤ ex ∧ ex ≤ 20000) (h4 : -20000 ≤ ey ∧ ey ≤ 20000) (h5 : -20000 ≤ fx ∧ fx ≤ 20000) (h6 : -20000 ≤ fy ∧ fy ≤ 20000) : SpotBd dx dy ex ey fx fy := by
  have p1 := mul_bd h1 h4
  have p2 := mul_bd h2 h3
  exact ⟨sq_bd h1, sq_bd h2, mul_bd h1 h3, mul_bd h2 h4, sq_bd h3, sq_bd h4, sq_bd h5, sq_bd h6, p1, p2, sq_bd2 ⟨by omega, by omega⟩⟩
theorem spotV_bd {k : ByteArray} {dx dy ex ey fx fy : Int} (h : SpotBd dx dy ex ey fx fy) : BdS (spotV k dx dy ex ey fx fy) := by
  obtain ⟨a1, a2, a3, a4, a5, a6, a7, a8, a9, a10, a11⟩ := h
  unfold spotV BdS
  split
  · refine ⟨?_, ?_, ?_, ?_⟩ <;> dsimp only <;> omega
  · split
    · refine ⟨?_, ?_, ?_, ?_⟩ <;> dsimp only <;> omega
    · refine ⟨Nat.le_trans (Nat.div_le_self _ _) ?_, Nat.le_trans (Nat.div_le_self _ _) ?_, Nat.le_trans (Nat.div_le_self _ _) ?_, Nat.le_trans (Nat.div_le_self _ _) ?_⟩ <;> omega
end Go.Proofs.YtepbamacebjopaaGreatDoor
/- The stream's object and its smallest methods. -/
namespace Go.Proofs.YtepbamacebjopaaGreatDoor
open Go.RowKit

/-- Block s is a stream whose counter is at most k; its numbers lie below s. -/
def Str (w : World) (s k : Nat) : Prop :=
  ∃ (A : Option Addr) (n c i : Nat), i ≤ k ∧ n ≤ 9223372036854775807 ∧ w.heap[s]? = some (.cells #[.slice A n c, .int .i64 (i : Int)] 25 (0, 0)) ∧
    (0 < n → ∃ b off, A = some ⟨b, off, none⟩ ∧ b < s ∧ ∀ j, j < n → ∃ z : Int, w.cell? ⟨b, off + j, none⟩ = some (.int .i64 z) ∧ -9223372036854775808 ≤ z ∧ z ≤ 9223372036854775807)

theorem Str.lt {w : World} {s k : Nat} (h : Str w s k) : s < w.heap.size := by
  obtain ⟨A, n, c, i, _, _, hh, _⟩ := h
  rcases Nat.lt_or_ge s w.heap.size with hlt | hge
  · exact hlt
  · rw [Array.getElem?_eq_none hge] at hh; cases hh
theorem Str.more {w : World} {s k k' : Nat} (h : Str w s k) (hk : k ≤ k') : Str w s k' := by
  obtain ⟨A, n, c, i, hi, r⟩ := h
  exact ⟨A, n, c, i, Nat.le_trans hi hk, r⟩
theorem Str.nx {w w' : World} {s k : Nat} (h : Str w s k) (hn : Nx w w') : Str w' s k := by
  have hlt := h.lt
  obtain ⟨A, n, c, i, hi, hn2, hh, hc⟩ := h
  refine ⟨A, n, c, i, hi, hn2, (hn.block s hlt).trans hh, fun hp => ?_⟩
  obtain ⟨b, off, e, hb, hz⟩ := hc hp
  refine ⟨b, off, e, hb, fun j hj => ?_⟩
  obtain ⟨z, hz1, hz2⟩ := hz j hj
  exact ⟨z, (Below.cell hn (p := ⟨b, _, none⟩) (by show b < _; omega)).trans hz1, hz2⟩

theorem Str.step {w : World} {s k' m c i : Nat} {A : Option Addr} (hh : w.heap[s]? = some (.cells #[.slice A m c, .int .i64 (i : Int)] 25 (0, 0))) (hi : i < k') (hm : m ≤ 9223372036854775807)
    (hc : 0 < m → ∃ b off, A = some ⟨b, off, none⟩ ∧ b < s ∧ ∀ j, j < m → ∃ z : Int, w.cell? ⟨b, off + j, none⟩ = some (.int .i64 z) ∧ -9223372036854775808 ≤ z ∧ z ≤ 9223372036854775807) :
    Str (w.setCell ⟨s, 1, none⟩ (.int .i64 ((i : Int) + 1))) s k' := by
  refine ⟨A, m, c, i + 1, by omega, hm, heap_set hh, fun hp => ?_⟩
  obtain ⟨b, off, e, hb, hz⟩ := hc hp
  refine ⟨b, off, e, hb, fun j hj => ?_⟩
  obtain ⟨z, h1, h2⟩ := hz j hj
  exact ⟨z, by rw [cell_set (by omega)]; exact h1, h2⟩
theorem Str.drewN {w : World} {s k : Nat} (h : Str w s k) (n : Nat) : Str (w.drewN n) s k := h.nx ((Nx.refl w).drewN n)

/-- A row above the stream has been written. -/
theorem Str.row {w w' : World} {s k : Nat} {row : Option Nat} (h : Str w s k) (hg : w.grownBy w' row) (hr : ∀ j, row = some j → s < j) : Str w' s k := by
  have hlt := h.lt
  obtain ⟨A, n, c, i, hi, hn2, hh, hc⟩ := h
  refine ⟨A, n, c, i, hi, hn2, (hg.block s hlt (fun e => by have := hr s e.symm; omega)).trans hh, fun hp => ?_⟩
  obtain ⟨b, off, e, hb, hz⟩ := hc hp
  refine ⟨b, off, e, hb, fun j hj => ?_⟩
  obtain ⟨z, hz1, hz2⟩ := hz j hj
  exact ⟨z, hg.cell hz1 (fun e => by have := hr b e.symm; omega), hz2⟩

/-- A number from 0 to n - 1 (0 where n is less than 1). -/
def Lt0 (n : Int) (w : World) (e : Ending) (w' : World) : Prop := ∃ r : Int, 0 ≤ r ∧ (r < n ∨ r = 0) ∧ e = .returned (.int .i64 r) ∧ w = w'

set_option maxHeartbeats 400000 in
theorem w_Below (x n : Int) (w : World) (hn : n ≤ 4294967296) :
    Calls Tryz.prog 69 #[.int .i64 x, .int .i64 n] w (Lt0 n w) := by
  by_cases h1 : n < 1
  · go_enter Tryz.func69, Tryz.ntmps69
    go_wp2
    go_ret
    exact ⟨0, by omega, .inr rfl, rfl, rfl⟩
  · have b1 : x.tmod n < n := Int.tmod_lt_of_pos x (by omega)
    have b2 : -n < x.tmod n := by have := Int.lt_tmod_of_pos x (b := n) (by omega); omega
    by_cases h2 : x.tmod n < 0
    · go_enter Tryz.func69, Tryz.ntmps69
      go_wp2
      go_ret
      exact ⟨_, by omega, .inl (by omega), rfl, rfl⟩
    · go_enter Tryz.func69, Tryz.ntmps69
      go_wp2
      go_ret
      exact ⟨_, by omega, .inl (by omega), rfl, rfl⟩

/-- The stream's methods: a number from low to high; the stream goes on by m. -/
def StrInt (low high : Int) (s k : Nat) (w : World) (e : Ending) (w' : World) : Prop :=
  ∃ r : Int, low ≤ r ∧ r ≤ high ∧ e = .returned (.int .i64 r) ∧ Gr s w w' ∧ Str w' s k

set_option maxHeartbeats 1000000 in
theorem w_Next (n : Int) (s k : Nat) (w : World) (hS : Str w s k) (hk : k < 1000000) (hn : 1 ≤ n ∧ n ≤ 4294967296) :
    Calls Tryz.prog 28 #[.pointer (some ⟨s, 0, none⟩), .int .i64 n] w (StrInt 0 (n - 1) s (k + 1) w) := by
  obtain ⟨A, m, c, i, hi, hm, hh, hc⟩ := hS
  have c0 : w.cell? ⟨s, 0, none⟩ = some (.slice A m c) := cell_of_row w s 0 _ _ _ hh
  have c1 : w.cell? ⟨s, 1, none⟩ = some (.int .i64 (i : Int)) := cell_of_row w s 1 _ _ _ hh
  have f1 : w.frozen? ⟨s, 1, none⟩ = false := by simp [World.frozen?, hh]
  have HH := hide hh
  have HC := hide hc
  clear hc hh
  by_cases hm0 : m = 0
  · subst hm0
    go_enter Tryz.func28, Tryz.ntmps28
    go_wp2_with (go_at_call 69; refine (w_Below _ _ _ (by omega)).mono ?_; rintro e w' ⟨r, hr1, hr2, rfl, rfl⟩)
    go_ret
    exact ⟨r, hr1, by omega, rfl, (Gr.refl _ _).setS (.inl rfl) _, Str.step HH.out (by omega) (by omega) HC.out⟩
  · have hmp : 0 < m := by omega
    obtain ⟨b, off, rfl, hb, hz⟩ := HC.out hmp
    obtain ⟨z, hz1, hz2, hz3⟩ := hz (i % m) (Nat.mod_lt _ hmp)
    clear hz
    go_enter Tryz.func28, Tryz.ntmps28
    have hst : (w.setCell ⟨s, 1, none⟩ (.int .i64 ((i : Int) + 1))).cell? ⟨b, off + i % m, none⟩ = some (.int .i64 z) := by
      rw [World.cell?_setCell_other _ _ _ _ (by intro h; injection h with h1 h2; omega)]; exact hz1
    have t1 : ((i : Int)).tmod (m : Int) = (i : Int) % (m : Int) := Int.tmod_eq_emod_of_nonneg (by omega)
    have t2 : ((i : Int)).tdiv (m : Int) = (i : Int) / (m : Int) := Int.tdiv_eq_ediv_of_nonneg (by omega)
    have t3 : IntKind.i64.wrap ((i : Int)) = (i : Int) := IntWalk.i64_in _ (by omega)
    have t4 : i % m < m := Nat.mod_lt _ hmp
    go_wp2_with fail
    go_quiet (fail)
    go_wp2_with fail
    go_quiet (fail)
    go_wp2_with fail
    refine (w_Below _ _ _ (by omega)).mono ?_
    rintro e w' ⟨r, hr1, hr2, rfl, rfl⟩
    go_wp2_with fail
    refine (w_Below _ _ _ (by omega)).mono ?_
    rintro e w' ⟨r', hr1', hr2', rfl, rfl⟩
    go_wp2_with fail
    go_ret
    exact ⟨r', hr1', by omega, rfl, ((Gr.refl _ _).setS (.inl rfl) _).drewN _, (Str.step HH.out (by omega) (by omega) HC.out).drewN _⟩

set_option maxHeartbeats 400000 in
theorem w_Range (l h : Int) (s k : Nat) (w : World) (hS : Str w s k) (hk : k < 1000000) (hl : -4294967296 ≤ l ∧ l ≤ h ∧ h < 4294967296) (hn : h - l < 4294967296) :
    Calls Tryz.prog 67 #[.pointer (some ⟨s, 0, none⟩), .int .i64 l, .int .i64 h] w (StrInt l h s (k + 1) w) := by
  go_enter Tryz.func67, Tryz.ntmps67
  go_wp2_with (go_at_call 28; refine (w_Next _ _ _ _ hS hk (by omega)).mono ?_; rintro e w' ⟨r, hr1, hr2, rfl, hg, hS'⟩)
  go_ret
  exact ⟨_, by omega, by omega, rfl, hg, hS'⟩

/-- A stream's method that answers a bool. -/
def StrBool (s k : Nat) (w : World) (e : Ending) (w' : World) : Prop :=
  ∃ r : Bool, e = .returned (.bool r) ∧ Gr s w w' ∧ Str w' s k

set_option maxHeartbeats 400000 in
theorem w_Flip (n : Int) (s k : Nat) (w : World) (hS : Str w s k) (hk : k < 1000000) (hn : 1 ≤ n ∧ n ≤ 4294967296) :
    Calls Tryz.prog 7 #[.pointer (some ⟨s, 0, none⟩), .int .i64 n] w (StrBool s (k + 1) w) := by
  go_enter Tryz.func7, Tryz.ntmps7
  go_wp2_with (go_at_call 28; refine (w_Next _ _ _ _ hS hk hn).mono ?_; rintro e w' ⟨r, hr1, hr2, rfl, hg, hS'⟩)
  go_ret
  exact ⟨_, rfl, hg, hS'⟩

/-- A stream's method that answers one of some values. -/
def StrOf (cs : List Value) (s k : Nat) (w : World) (e : Ending) (w' : World) : Prop :=
  ∃ v, v ∈ cs ∧ e = .returned v ∧ Gr s w w' ∧ Str w' s k

set_option maxHeartbeats 400000 in
theorem w_Pick (g m : Nat) (cs : Array Value) (s k : Nat) (w : World) (hS : Str w s k) (hk : k < 1000000) (hg : w.heap[g]? = some (.cells cs 3 (0, 0))) (hne : g ≠ s) (hm : cs.size = m) (h0 : 0 < m) (h1 : m < 1000) :
    Calls Tryz.prog 5 #[.pointer (some ⟨s, 0, none⟩), .slice (some ⟨g, 0, none⟩) m m] w (StrOf cs.toList s (k + 1) w) := by
  go_enter Tryz.func5, Tryz.ntmps5
  go_wp2_with (go_at_call 28; refine (w_Next _ _ _ _ hS hk (by omega)).mono ?_; rintro e w' ⟨r, hr1, hr2, rfl, hgr, hS'⟩; (obtain ⟨q, rfl⟩ := Int.eq_ofNat_of_zero_le hr1); (have hcell : w'.cell? ⟨g, q, none⟩ = some (cs[q]'(by omega)) := World.grownBy.cell hgr ((cell_of_row w g q _ _ _ hg).trans (Array.getElem?_eq_getElem (by omega))) (by simp; omega)))
  go_ret
  exact ⟨_, Array.getElem_mem_toList _, rfl, hgr, hS'⟩
end Go.Proofs.YtepbamacebjopaaGreatDoor
/- The stream's methods that pick a number. -/
namespace Go.Proofs.YtepbamacebjopaaGreatDoor
open Go.RowKit

/-- A number of some list. -/
def StrIn (zs : List Int) (s k : Nat) (w : World) (e : Ending) (w' : World) : Prop := ∃ r ∈ zs, e = .returned (.int .i64 r) ∧ Gr s w w' ∧ Str w' s k
/-- 's.Pick(..)' of numbers that lie in a block of their own. -/
theorem w_PickI (g : Nat) (zs : List Int) (cs : Array Value) (s k : Nat) (w : World) (hS : Str w s k) (hk : k < 1000000) (hg : w.heap[g]? = some (.cells cs 3 (0, 0))) (hne : g ≠ s) (hcs : cs.toList = zs.map (Value.int .i64)) (h0 : zs ≠ []) (h1 : zs.length < 1000) :
    Calls Tryz.prog 5 #[.pointer (some ⟨s, 0, none⟩), .slice (some ⟨g, 0, none⟩) zs.length zs.length] w (StrIn zs s (k + 1) w) := by
  refine (w_Pick g zs.length cs s k w hS hk hg hne (by rw [← Array.length_toList, hcs, List.length_map]) (List.length_pos_iff.2 h0) h1).mono ?_
  rintro e w' ⟨v, hv, rfl, hg, hs⟩
  rw [hcs] at hv
  obtain ⟨z, hz, rfl⟩ := List.mem_map.1 hv
  exact ⟨z, hz, rfl, hg, hs⟩

set_option maxHeartbeats 1000000 in
theorem w_Odd (l h : Int) (s k : Nat) (w : World) (hS : Str w s k) (hk : k < 900000) (hl : -4294967296 ≤ l ∧ l ≤ h ∧ h < 4294967296) (hn : h - l < 4294967296) :
    Calls Tryz.prog 29 #[.pointer (some ⟨s, 0, none⟩), .int .i64 l, .int .i64 h] w (StrInt (-1099511627776) 1099511627776 s (k + 2) w) := by
  go_enter Tryz.func29, Tryz.ntmps29
  go_wp2_with (first
    | (go_at_call 7; refine (w_Flip _ _ _ _ hS (by omega) (by omega)).mono ?_; rintro e w1 ⟨b, rfl, hg1, hS1⟩)
    | (go_at_call 67; refine (w_Range _ _ _ _ _ hS1 (by omega) hl hn).mono ?_; rintro e w2 ⟨r, hr1, hr2, rfl, hg2, hS2⟩)
    | (go_at_call 5; refine (w_PickI _ [l - 1, h + 1, l, h, -1099511627776, 1099511627776] _ _ _ _ (hS1.nx ((Nx.refl _).alloc _)) (by omega) (hnew rfl) (by have := hS1.lt; omega) rfl (by simp) (by simp)).mono ?_; rintro e w2 ⟨r, hr, rfl, hg2, hS2⟩))
  · go_ret
    have hr' : r = l - 1 ∨ r = h + 1 ∨ r = l ∨ r = h ∨ r = -1099511627776 ∨ r = 1099511627776 := by simpa using hr
    exact ⟨r, by omega, by omega, rfl, (hg1.alloc _).trans hg2, hS2⟩
  · go_ret
    exact ⟨r, by omega, by omega, rfl, hg1.trans hg2, hS2⟩

end Go.Proofs.YtepbamacebjopaaGreatDoor
/- Fractions in lowest terms, both ways. -/
namespace Go.Proofs.YtepbamacebjopaaGreatDoor
open Go.RowKit Go.Sort

set_option maxRecDepth 100000 in
theorem w_Gcd (a b : Nat) (w : World) (ha : a ≤ 4611686018427387904) (hb : b ≤ 4611686018427387904) :
    Calls Tryz.prog 110 #[.int .i64 (a : Int), .int .i64 (b : Int)] w fun e w' => e = .returned (.int .i64 (Nat.gcd a b : Nat)) ∧ Nx w w' := by
  generalize hG : Nat.gcd a b = G
  have HG := hide hG
  clear hG
  go_enter Tryz.func110, Tryz.ntmps110
  go_wp2_with fail
  go_loopw [0, 1] (fun x y wr => ∃ p q : Nat, p ≤ 4611686018427387904 ∧ q ≤ 4611686018427387904 ∧ x = .int .i64 (p : Int) ∧ y = .int .i64 (q : Int) ∧ Nat.gcd p q = G ∧ Nx w wr) (fun _ y _ => (intOf y).toNat)
  case atStart => exact ⟨a, b, ha, hb, rfl, rfl, HG.out, Nx.refl _⟩
  case round =>
    obtain ⟨p, q, hp, hq, rfl, rfl, hg, hnx⟩ := hrel
    have HP := hide hg
    clear hg
    by_cases h0 : q = 0
    · subst h0
      go_wp2
      go_ret
      exact ⟨ret_int (by rw [← HP.out, Nat.gcd_zero_right]), hnx⟩
    · have hq1 : 1 ≤ (q : Int) := by omega
      have hne : ((q : Int) != 0) = true := by simpa using h0
      have hlt : p % q < q := Nat.mod_lt _ (by omega)
      have E1 : (p : Int).tmod (q : Int) = ((p % q : Nat) : Int) := by rw [Int.ofNat_tmod]
      go_wp2
      try go_quiet (fail)
      try go_wp2
      go_roundw
      case rel => exact ⟨q, p % q, hq, by omega, rfl, rfl, by rw [Nat.gcd_comm, ← Nat.gcd_rec, Nat.gcd_comm]; exact HP.out, hnx.drewN _⟩
      case measure => simp only [intOf]; omega

set_option maxRecDepth 100000 in
theorem w_divisor (a b : Nat) (w : World) (ha : a ≤ 4611686018427387904) (hb : b ≤ 4611686018427387904) :
    Calls Tryz.prog 135 #[.int .i64 (a : Int), .int .i64 (b : Int)] w fun e w' => e = .returned (.int .i64 (Nat.gcd a b : Nat)) ∧ Nx w w' := by
  generalize hG : Nat.gcd a b = G
  have HG := hide hG
  clear hG
  go_enter Tryz.func135, Tryz.ntmps135
  go_wp2_with fail
  go_loopw [0, 1] (fun x y wr => ∃ p q : Nat, p ≤ 4611686018427387904 ∧ q ≤ 4611686018427387904 ∧ x = .int .i64 (p : Int) ∧ y = .int .i64 (q : Int) ∧ Nat.gcd p q = G ∧ Nx w wr) (fun _ y _ => (intOf y).toNat)
  case atStart => exact ⟨a, b, ha, hb, rfl, rfl, HG.out, Nx.refl _⟩
  case round =>
    obtain ⟨p, q, hp, hq, rfl, rfl, hg, hnx⟩ := hrel
    have HP := hide hg
    clear hg
    by_cases h0 : q = 0
    · subst h0
      go_wp2
      go_ret
      exact ⟨ret_int (by rw [← HP.out, Nat.gcd_zero_right]), hnx⟩
    · have hq1 : 1 ≤ (q : Int) := by omega
      have hne : ((q : Int) != 0) = true := by simpa using h0
      have hlt : p % q < q := Nat.mod_lt _ (by omega)
      have E1 : (p : Int).tmod (q : Int) = ((p % q : Nat) : Int) := by rw [Int.ofNat_tmod]
      go_wp2
      try go_quiet (fail)
      try go_wp2
      go_roundw
      case rel => exact ⟨q, p % q, hq, by omega, rfl, rfl, by rw [Nat.gcd_comm, ← Nat.gcd_rec, Nat.gcd_comm]; exact HP.out, hnx.drewN _⟩
      case measure => simp only [intOf]; omega

set_option maxRecDepth 100000 in
theorem w_Fraction (a b : Nat) (w : World) (ha : a ≤ 4611686018427387904) (hb : 1 ≤ b ∧ b ≤ 4611686018427387904) :
    Calls Tryz.prog 78 #[.int .i64 (a : Int), .int .i64 (b : Int)] w fun e w' => e = .returned (.agg #[.int .i64 (a / Nat.gcd a b : Nat), .int .i64 (b / Nat.gcd a b : Nat)]) ∧ Nx w w' := by
  have HC := hide (fun w => w_Gcd a b w ha hb.2)
  have hd : 1 ≤ Nat.gcd a b := Nat.gcd_pos_of_pos_right _ hb.1
  have hd2 : Nat.gcd a b ≤ b := Nat.gcd_le_right _ hb.1
  have q1 := Nat.div_le_self a (Nat.gcd a b)
  have q2 := Nat.div_le_self b (Nat.gcd a b)
  generalize Nat.gcd a b = d at *
  have hm : max (a : Int) (-(a : Int)) = a := by omega
  have D1 : (a : Int).tdiv (d : Int) = ((a / d : Nat) : Int) := by rw [Int.ofNat_tdiv]
  have D2 : (b : Int).tdiv (d : Int) = ((b / d : Nat) : Int) := by rw [Int.ofNat_tdiv]
  have hd1 : 1 ≤ (d : Int) := by omega
  have hdn : ¬ d = 0 := by omega
  have hdz : (d : Int) ≠ 0 := by omega
  have hdb : ((d : Int) == 0) = false := by simpa using hdz
  generalize a / d = qa at *
  generalize b / d = qb at *
  have W1 := IntWalk.i64_in (qa : Int) (by omega)
  have W2 := IntWalk.i64_in (qb : Int) (by omega)
  go_enter Tryz.func78, Tryz.ntmps78
  go_wp2_with (first | (go_at_call 110; refine (HC.out _).mono ?_; rintro e w1 ⟨rfl, hn1⟩))
  have k0 : w1.drew.cell? ⟨w.heap.size, 0, none⟩ = some (.int .i64 0) := World.grownBy.cell (hn1.gr none) (show (w.alloc (.cells #[.int .i64 0, .int .i64 0] 41)).cell? ⟨w.heap.size, 0, none⟩ = some (.int .i64 0) by go_simp) (by simp)
  have k1 : w1.drew.cell? ⟨w.heap.size, 1, none⟩ = some (.int .i64 0) := World.grownBy.cell (hn1.gr none) (show (w.alloc (.cells #[.int .i64 0, .int .i64 0] 41)).cell? ⟨w.heap.size, 1, none⟩ = some (.int .i64 0) by go_simp) (by simp)
  have hbk : w1.drew.heap[w.heap.size]? = some (.cells #[.int .i64 0, .int .i64 0] 41 (0, 0)) := (hn1.block _ (by simp)).trans (hnew rfl)
  have z0 : w1.drew.frozen? ⟨w.heap.size, 0, none⟩ = false := by simp [World.frozen?, hbk]
  have z1 : w1.drew.frozen? ⟨w.heap.size, 1, none⟩ = false := by simp [World.frozen?, hbk]
  have k0' : w1.cell? ⟨w.heap.size, 0, none⟩ = some (.int .i64 0) := k0
  have k1' : w1.cell? ⟨w.heap.size, 1, none⟩ = some (.int .i64 0) := k1
  have z0' : w1.frozen? ⟨w.heap.size, 0, none⟩ = false := z0
  have z1' : w1.frozen? ⟨w.heap.size, 1, none⟩ = false := z1
  have s0 : (w1.setCell ⟨w.heap.size, 0, none⟩ (.int .i64 (qa : Int))).cell? ⟨w.heap.size, 0, none⟩ = some (.int .i64 (qa : Int)) := World.cell?_setCell_same _ _ _ k0'
  have s1 : (w1.setCell ⟨w.heap.size, 0, none⟩ (.int .i64 (qa : Int))).cell? ⟨w.heap.size, 1, none⟩ = some (.int .i64 0) := (World.cell?_setCell_other _ _ _ _ (by simp)).trans k1'
  have s2 : ((w1.setCell ⟨w.heap.size, 0, none⟩ (.int .i64 (qa : Int))).setCell ⟨w.heap.size, 1, none⟩ (.int .i64 (qb : Int))).cell? ⟨w.heap.size, 1, none⟩ = some (.int .i64 (qb : Int)) := World.cell?_setCell_same _ _ _ s1
  clear hbk
  have hnx : Nx w w1.drew := (((Nx.refl _).alloc _).trans hn1).drew
  go_region_with (fail)
  all_goals go_wp2
  all_goals exact bodyPost_ret (v := .agg #[.int .i64 (qa : Int), .int .i64 (qb : Int)]) (by simp [s0, s2, results, Tryz.results78, go_sem]) rfl ⟨rfl, (((((Nx.refl _).alloc _).trans hn1).setCell (Nat.le_refl _) _).setCell (Nat.le_refl _) _).drew⟩

set_option maxRecDepth 100000 in
theorem w_Lowest (a b : Nat) (w : World) (ha : a ≤ 4611686018427387904) (hb : 1 ≤ b ∧ b ≤ 4611686018427387904) :
    Calls Tryz.prog 100 #[.int .i64 (a : Int), .int .i64 (b : Int)] w fun e w' => e = .returned (.agg #[.int .i64 (a / Nat.gcd a b : Nat), .int .i64 (b / Nat.gcd a b : Nat)]) ∧ Nx w w' := by
  have HC := hide (fun w => w_divisor a b w ha hb.2)
  have hd : 1 ≤ Nat.gcd a b := Nat.gcd_pos_of_pos_right _ hb.1
  have hd2 : Nat.gcd a b ≤ b := Nat.gcd_le_right _ hb.1
  have q1 := Nat.div_le_self a (Nat.gcd a b)
  have q2 := Nat.div_le_self b (Nat.gcd a b)
  generalize Nat.gcd a b = d at *
  have hm : max (a : Int) (-(a : Int)) = a := by omega
  have D1 : (a : Int).tdiv (d : Int) = ((a / d : Nat) : Int) := by rw [Int.ofNat_tdiv]
  have D2 : (b : Int).tdiv (d : Int) = ((b / d : Nat) : Int) := by rw [Int.ofNat_tdiv]
  have hd1 : 1 ≤ (d : Int) := by omega
  have hdn : ¬ d = 0 := by omega
  have hdz : (d : Int) ≠ 0 := by omega
  have hdb : ((d : Int) == 0) = false := by simpa using hdz
  generalize a / d = qa at *
  generalize b / d = qb at *
  have W1 := IntWalk.i64_in (qa : Int) (by omega)
  have W2 := IntWalk.i64_in (qb : Int) (by omega)
  go_enter Tryz.func100, Tryz.ntmps100
  go_wp2_with (first | (go_at_call 135; refine (HC.out _).mono ?_; rintro e w1 ⟨rfl, hn1⟩))
  have k0 : w1.drew.cell? ⟨w.heap.size, 0, none⟩ = some (.int .i64 0) := World.grownBy.cell (hn1.gr none) (show (w.alloc (.cells #[.int .i64 0, .int .i64 0] 41)).cell? ⟨w.heap.size, 0, none⟩ = some (.int .i64 0) by go_simp) (by simp)
  have k1 : w1.drew.cell? ⟨w.heap.size, 1, none⟩ = some (.int .i64 0) := World.grownBy.cell (hn1.gr none) (show (w.alloc (.cells #[.int .i64 0, .int .i64 0] 41)).cell? ⟨w.heap.size, 1, none⟩ = some (.int .i64 0) by go_simp) (by simp)
  have hbk : w1.drew.heap[w.heap.size]? = some (.cells #[.int .i64 0, .int .i64 0] 41 (0, 0)) := (hn1.block _ (by simp)).trans (hnew rfl)
  have z0 : w1.drew.frozen? ⟨w.heap.size, 0, none⟩ = false := by simp [World.frozen?, hbk]
  have z1 : w1.drew.frozen? ⟨w.heap.size, 1, none⟩ = false := by simp [World.frozen?, hbk]
  have k0' : w1.cell? ⟨w.heap.size, 0, none⟩ = some (.int .i64 0) := k0
  have k1' : w1.cell? ⟨w.heap.size, 1, none⟩ = some (.int .i64 0) := k1
  have z0' : w1.frozen? ⟨w.heap.size, 0, none⟩ = false := z0
  have z1' : w1.frozen? ⟨w.heap.size, 1, none⟩ = false := z1
  have s0 : (w1.setCell ⟨w.heap.size, 0, none⟩ (.int .i64 (qa : Int))).cell? ⟨w.heap.size, 0, none⟩ = some (.int .i64 (qa : Int)) := World.cell?_setCell_same _ _ _ k0'
  have s1 : (w1.setCell ⟨w.heap.size, 0, none⟩ (.int .i64 (qa : Int))).cell? ⟨w.heap.size, 1, none⟩ = some (.int .i64 0) := (World.cell?_setCell_other _ _ _ _ (by simp)).trans k1'
  have s2 : ((w1.setCell ⟨w.heap.size, 0, none⟩ (.int .i64 (qa : Int))).setCell ⟨w.heap.size, 1, none⟩ (.int .i64 (qb : Int))).cell? ⟨w.heap.size, 1, none⟩ = some (.int .i64 (qb : Int)) := World.cell?_setCell_same _ _ _ s1
  clear hbk
  have hnx : Nx w w1.drew := (((Nx.refl _).alloc _).trans hn1).drew
  go_region_with (fail)
  all_goals go_wp2
  all_goals exact bodyPost_ret (v := .agg #[.int .i64 (qa : Int), .int .i64 (qb : Int)]) (by simp [s0, s2, results, Tryz.results100, go_sem]) rfl ⟨rfl, (((((Nx.refl _).alloc _).trans hn1).setCell (Nat.le_refl _) _).setCell (Nat.le_refl _) _).drew⟩
end Go.Proofs.YtepbamacebjopaaGreatDoor
/- cmp.Or of errors. -/
namespace Go.Proofs.YtepbamacebjopaaGreatDoor
open Go.RowKit

def encI (n : Int) : List Value := [.int .i64 n]
theorem orI_drop (zs : List Int) (k : Nat) (hk : k < zs.length) : orI (zs.drop k) = if zs[k] = 0 then orI (zs.drop (k + 1)) else zs[k] := by
  rw [List.drop_eq_getElem_cons hk]; rfl
set_option maxHeartbeats 400000 in
theorem w_OrE (lo : Nat) (A : Option Addr) (c : Nat) (zs : List Int) (w : World) (hR : Rd w lo A 1 encI zs) (hl : zs.length ≤ 65536) :
    Calls Tryz.prog 21 #[.slice A zs.length c] w fun e w' => e = .returned (.int .i64 (orI zs)) ∧ w = w' := by
  generalize hn : zs.length = n at *
  have HR := hide hR
  have HN := hide hn
  clear hR hn
  go_enter Tryz.func21, Tryz.ntmps21
  go_wp2
  go_loop [2, 5, 8] (fun _ _ i => ∃ k : Nat, k ≤ n ∧ i = .int .i64 k ∧ orI zs = orI (zs.drop k)) (fun _ _ i => n - (intOf i).toNat)
  case atStart => exact ⟨0, Nat.zero_le _, rfl, rfl⟩
  case round =>
    obtain ⟨k, hk, rfl, hq⟩ := hrel
    have HQ := hide hq
    clear hq
    by_cases hlt : k < n
    · have hlt' : k < zs.length := by have := HN.out; omega
      obtain ⟨b, off, rfl, _, hb, _, hc⟩ := HR.out.open_ (Nx.refl w) (by omega)
      have c0 : w.cell? ⟨b, off + k, none⟩ = some (.int .i64 zs[k]) := by have := hc k hlt' 0 _ rfl; simpa using this
      clear hc
      have HD := hide (orI_drop zs k hlt')
      by_cases hz : zs[k] = 0
      · have hz' : (zs[k] != 0) = false := by simpa using hz
        generalize zs[k] = z at *
        go_wp2
        go_round
        case rel => exact ⟨k + 1, by omega, by go_num, by rw [HQ.out, HD.out, if_pos hz]⟩
        case measure => simp [intOf]; omega
      · have hz' : (zs[k] != 0) = true := by simpa using hz
        generalize zs[k] = z at *
        go_wp2
        go_ret
        exact ⟨ret_int (by rw [HQ.out, HD.out, if_neg hz]), rfl⟩
    · go_wp2
      go_ret
      exact ⟨ret_int (by rw [HQ.out, List.drop_of_length_le (by have := HN.out; omega)]; rfl), rfl⟩

end Go.Proofs.YtepbamacebjopaaGreatDoor
/- What the laws share: the end, the stream, cmp.Or of two or three. -/
namespace Go.Proofs.YtepbamacebjopaaGreatDoor
open Go.RowKit

/-- The law's world: what was there stays. -/
def TrueNx (w : World) (e : Ending) (w' : World) : Prop := e = .returned (.bool true) ∧ Nx w w'

theorem w_Or2 (a b : Int) (g c : Nat) (w : World) (hg : w.heap[g]? = some (.cells #[.int .i64 a, .int .i64 b] 44 (0, 0))) :
    Calls Tryz.prog 21 #[.slice (some ⟨g, 0, none⟩) 2 c] w fun e w' => e = .returned (.int .i64 (orI [a, b])) ∧ w = w' := by
  have hR : Rd w 0 (some ⟨g, 0, none⟩) 1 encI [a, b] := Rd.lit hg (Nat.zero_le _) (fun _ => rfl) rfl
  exact w_OrE 0 _ c [a, b] w hR (by simp)

theorem str_new (A : Option Addr) (n c : Nat) (w : World) (hn : n ≤ 9223372036854775807)
    (hL : 0 < n → ∃ b off, A = some ⟨b, off, none⟩ ∧ b < w.heap.size ∧ ∀ j, j < n → ∃ z : Int, w.cell? ⟨b, off + j, none⟩ = some (.int .i64 z) ∧ -9223372036854775808 ≤ z ∧ z ≤ 9223372036854775807) :
    Str (w.alloc (.cells #[.slice A n c, .int .i64 0] 25)) w.heap.size 0 := by
  refine ⟨A, n, c, 0, Nat.le_refl _, hn, hnew rfl, fun hp => ?_⟩
  obtain ⟨b, off, e, hb, hz⟩ := hL hp
  refine ⟨b, off, e, hb, fun j hj => ?_⟩
  obtain ⟨z, h1, h2⟩ := hz j hj
  exact ⟨z, (Below.cell ((Nx.refl w).alloc _) (p := ⟨b, _, none⟩) hb).trans h1, h2⟩
end Go.Proofs.YtepbamacebjopaaGreatDoor
/- The point between two nodes that is nearest to a point: the program. -/
namespace Go.Proofs.YtepbamacebjopaaGreatDoor
open Go.RowKit

theorem wrapTo {a z : Int} (h : z = a) (hb : -9223372036854775808 ≤ z ∧ z ≤ 9223372036854775807) : IntKind.i64.wrap a = z := by rw [h] at hb ⊢; exact IntWalk.i64_in _ (by omega)
/-- Five cells of a block are written. -/
theorem cells5 {w : World} {b : Nat} {a0 a1 a2 a3 a4 v0 v1 v2 v3 v4 : Value} (k0 : w.cell? ⟨b, 0, none⟩ = some a0) (k1 : w.cell? ⟨b, 1, none⟩ = some a1) (k2 : w.cell? ⟨b, 2, none⟩ = some a2) (k3 : w.cell? ⟨b, 3, none⟩ = some a3) (k4 : w.cell? ⟨b, 4, none⟩ = some a4) :
    (((((w.setCell ⟨b, 0, none⟩ v0).setCell ⟨b, 1, none⟩ v1).setCell ⟨b, 2, none⟩ v2).setCell ⟨b, 3, none⟩ v3).setCell ⟨b, 4, none⟩ v4).cell? ⟨b, 0, none⟩ = some v0 ∧
    (((((w.setCell ⟨b, 0, none⟩ v0).setCell ⟨b, 1, none⟩ v1).setCell ⟨b, 2, none⟩ v2).setCell ⟨b, 3, none⟩ v3).setCell ⟨b, 4, none⟩ v4).cell? ⟨b, 1, none⟩ = some v1 ∧
    (((((w.setCell ⟨b, 0, none⟩ v0).setCell ⟨b, 1, none⟩ v1).setCell ⟨b, 2, none⟩ v2).setCell ⟨b, 3, none⟩ v3).setCell ⟨b, 4, none⟩ v4).cell? ⟨b, 2, none⟩ = some v2 ∧
    (((((w.setCell ⟨b, 0, none⟩ v0).setCell ⟨b, 1, none⟩ v1).setCell ⟨b, 2, none⟩ v2).setCell ⟨b, 3, none⟩ v3).setCell ⟨b, 4, none⟩ v4).cell? ⟨b, 3, none⟩ = some v3 ∧
    (((((w.setCell ⟨b, 0, none⟩ v0).setCell ⟨b, 1, none⟩ v1).setCell ⟨b, 2, none⟩ v2).setCell ⟨b, 3, none⟩ v3).setCell ⟨b, 4, none⟩ v4).cell? ⟨b, 4, none⟩ = some v4 := by
  have o : ∀ (W : World) (x y : Nat) (v u : Value), x ≠ y → W.cell? ⟨b, x, none⟩ = some u → (W.setCell ⟨b, y, none⟩ v).cell? ⟨b, x, none⟩ = some u := fun W x y v u h hu => (World.cell?_setCell_other _ _ _ _ (fun e => h (by cases e; rfl))).trans hu
  have s : ∀ (W : World) (x : Nat) (v u : Value), W.cell? ⟨b, x, none⟩ = some u → (W.setCell ⟨b, x, none⟩ v).cell? ⟨b, x, none⟩ = some v := fun W x v u hu => World.cell?_setCell_same _ _ _ hu
  refine ⟨?_, ?_, ?_, ?_, ?_⟩
  · exact o _ _ _ _ _ (by decide) (o _ _ _ _ _ (by decide) (o _ _ _ _ _ (by decide) (o _ _ _ _ _ (by decide) (s _ _ _ _ k0))))
  · exact o _ _ _ _ _ (by decide) (o _ _ _ _ _ (by decide) (o _ _ _ _ _ (by decide) (s _ _ _ _ (o _ _ _ _ _ (by decide) k1))))
  · exact o _ _ _ _ _ (by decide) (o _ _ _ _ _ (by decide) (s _ _ _ _ (o _ _ _ _ _ (by decide) (o _ _ _ _ _ (by decide) k2))))
  · exact o _ _ _ _ _ (by decide) (s _ _ _ _ (o _ _ _ _ _ (by decide) (o _ _ _ _ _ (by decide) (o _ _ _ _ _ (by decide) k3))))
  · exact s _ _ _ _ (o _ _ _ _ _ (by decide) (o _ _ _ _ _ (by decide) (o _ _ _ _ _ (by decide) (o _ _ _ _ _ (by decide) k4))))
def spotAgg (s : SpotV) : Value := .agg #[.string s.key, .int .i64 (s.pn : Int), .int .i64 (s.pd : Int), .int .i64 (s.fn : Int), .int .i64 (s.fd : Int)]
def OnMap (x y : Int) : Prop := -10000 ≤ x ∧ x ≤ 10000 ∧ -10000 ≤ y ∧ y ≤ 10000
set_option maxRecDepth 100000 in
set_option maxHeartbeats 4000000 in
theorem w_spotOn (kp kq : ByteArray) (px py qx qy x y : Int) (w : World) (hp : OnMap px py) (hq : OnMap qx qy) (hxy : OnMap x y) :
    Calls Tryz.prog 35 #[.agg #[.string kp, .int .i64 px, .int .i64 py], .agg #[.string kq, .int .i64 qx, .int .i64 qy], .int .i64 x, .int .i64 y] w fun e w' => e = .returned (spotAgg (spotV ByteArray.empty (qx - px) (qy - py) (x - px) (y - py) (x - qx) (y - qy))) ∧ Nx w w' := by
  obtain ⟨p1, p2, p3, p4⟩ := hp
  obtain ⟨q1, q2, q3, q4⟩ := hq
  obtain ⟨x1, x2, x3, x4⟩ := hxy
  obtain ⟨dx, hdx⟩ : ∃ z, z = qx - px := ⟨_, rfl⟩
  obtain ⟨dy, hdy⟩ : ∃ z, z = qy - py := ⟨_, rfl⟩
  obtain ⟨ex, hex⟩ : ∃ z, z = x - px := ⟨_, rfl⟩
  obtain ⟨ey, hey⟩ : ∃ z, z = y - py := ⟨_, rfl⟩
  obtain ⟨fx, hfx⟩ : ∃ z, z = x - qx := ⟨_, rfl⟩
  obtain ⟨fy, hfy⟩ : ∃ z, z = y - qy := ⟨_, rfl⟩
  have W1 : IntKind.i64.wrap (qx - px) = dx := wrapTo hdx (by omega)
  have W2 : IntKind.i64.wrap (qy - py) = dy := wrapTo hdy (by omega)
  have W3 : IntKind.i64.wrap (x - px) = ex := wrapTo hex (by omega)
  have W4 : IntKind.i64.wrap (y - py) = ey := wrapTo hey (by omega)
  have W5 : IntKind.i64.wrap (x - qx) = fx := wrapTo hfx (by omega)
  have W6 : IntKind.i64.wrap (y - qy) = fy := wrapTo hfy (by omega)
  have hb : SpotBd dx dy ex ey fx fy := spotBd (by omega) (by omega) (by omega) (by omega) (by omega) (by omega)
  rw [← hdx, ← hdy, ← hex, ← hey, ← hfx, ← hfy]
  clear p1 p2 p3 p4 q1 q2 q3 q4 x1 x2 x3 x4 hdx hdy hex hey hfx hfy
  obtain ⟨R, hR⟩ : ∃ R, R = spotV ByteArray.empty dx dy ex ey fx fy := ⟨_, rfl⟩
  rw [← hR]
  obtain ⟨a1, a2, a3, a4, a5, a6, a7, a8, a9, a10, a11⟩ := hb
  unfold spotV at hR
  obtain ⟨s1, h1⟩ : ∃ z, z = dx * dx := ⟨_, rfl⟩
  obtain ⟨s2, h2⟩ : ∃ z, z = dy * dy := ⟨_, rfl⟩
  obtain ⟨s3, h3⟩ : ∃ z, z = dx * ex := ⟨_, rfl⟩
  obtain ⟨s4, h4⟩ : ∃ z, z = dy * ey := ⟨_, rfl⟩
  obtain ⟨s5, h5⟩ : ∃ z, z = ex * ex := ⟨_, rfl⟩
  obtain ⟨s6, h6⟩ : ∃ z, z = ey * ey := ⟨_, rfl⟩
  obtain ⟨s7, h7⟩ : ∃ z, z = fx * fx := ⟨_, rfl⟩
  obtain ⟨s8, h8⟩ : ∃ z, z = fy * fy := ⟨_, rfl⟩
  obtain ⟨g1, h9⟩ : ∃ z, z = dx * ey := ⟨_, rfl⟩
  obtain ⟨g2, h10⟩ : ∃ z, z = dy * ex := ⟨_, rfl⟩
  rw [← h1] at a1; rw [← h2] at a2; rw [← h3] at a3; rw [← h4] at a4; rw [← h5] at a5; rw [← h6] at a6; rw [← h7] at a7; rw [← h8] at a8
  rw [← h9, ← h10] at a11; rw [← h9] at a9; rw [← h10] at a10
  have W7 : IntKind.i64.wrap (dx * dx) = s1 := wrapTo h1 (by omega)
  have W8 : IntKind.i64.wrap (dy * dy) = s2 := wrapTo h2 (by omega)
  have W10 : IntKind.i64.wrap (dx * ex) = s3 := wrapTo h3 (by omega)
  have W11 : IntKind.i64.wrap (dy * ey) = s4 := wrapTo h4 (by omega)
  have W13 : IntKind.i64.wrap (ex * ex) = s5 := wrapTo h5 (by omega)
  have W14 : IntKind.i64.wrap (ey * ey) = s6 := wrapTo h6 (by omega)
  have W16 : IntKind.i64.wrap (fx * fx) = s7 := wrapTo h7 (by omega)
  have W17 : IntKind.i64.wrap (fy * fy) = s8 := wrapTo h8 (by omega)
  have W19 : IntKind.i64.wrap (dx * ey) = g1 := wrapTo h9 (by omega)
  have W20 : IntKind.i64.wrap (dy * ex) = g2 := wrapTo h10 (by omega)
  simp only [← h1, ← h2, ← h3, ← h4, ← h5, ← h6, ← h7, ← h8, ← h9, ← h10] at hR
  clear h1 h2 h3 h4 h5 h6 h7 h8 h9 h10
  obtain ⟨long, h1⟩ : ∃ z, z = s1 + s2 := ⟨_, rfl⟩
  obtain ⟨dot, h2⟩ : ∃ z, z = s3 + s4 := ⟨_, rfl⟩
  obtain ⟨ee, h3⟩ : ∃ z, z = s5 + s6 := ⟨_, rfl⟩
  obtain ⟨ff, h4⟩ : ∃ z, z = s7 + s8 := ⟨_, rfl⟩
  obtain ⟨cr, h5⟩ : ∃ z, z = g1 - g2 := ⟨_, rfl⟩
  rw [← h5] at a11
  obtain ⟨nn, h6⟩ : ∃ z, z = cr * cr := ⟨_, rfl⟩
  rw [← h6] at a11
  have W9 : IntKind.i64.wrap (s1 + s2) = long := wrapTo h1 (by omega)
  have W12 : IntKind.i64.wrap (s3 + s4) = dot := wrapTo h2 (by omega)
  have W15 : IntKind.i64.wrap (s5 + s6) = ee := wrapTo h3 (by omega)
  have W18 : IntKind.i64.wrap (s7 + s8) = ff := wrapTo h4 (by omega)
  have W21 : IntKind.i64.wrap (g1 - g2) = cr := wrapTo h5 (by omega)
  have W22 : IntKind.i64.wrap (cr * cr) = nn := wrapTo h6 (by omega)
  simp only [← h1, ← h2, ← h3, ← h4, ← h5] at hR
  rw [← h6] at hR
  have HV := hide hR
  have HE0 := hide (show 0 ≤ ee by omega)
  have HF0 := hide (show 0 ≤ ff by omega)
  have HL0 := hide (show 0 ≤ long ∧ long ≤ 800000000 by omega)
  have HD0 := hide (show dot ≤ 800000000 by omega)
  have HN0 := hide a11
  clear a1 a2 a3 a4 a5 a6 a7 a8 a9 a10 a11 h1 h2 h3 h4 h5 h6 hR
  by_cases h1 : dot ≤ 0
  · have t1 : decide (dot ≤ 0) = true := decide_eq_true h1
    have HR := hide (HV.out.trans (if_pos h1))
    clear h1 HV
    go_enter Tryz.func35, Tryz.ntmps35
    go_wp2_with fail
    go_quiet (fail)
    go_wp2_with fail
    refine bodyPost_ret (v := .agg #[.string ⟨#[]⟩, .int .i64 0, .int .i64 1, .int .i64 ee, .int .i64 1]) ?_ rfl ⟨?_, ?_⟩
    · simp [results, Tryz.results35, go_sem]
    · rw [HR.out]
      unfold spotAgg
      simp only [Int.toNat_of_nonneg HE0.out]
      rfl
    · exact ((((((((((Nx.refl w).alloc _).alloc _).alloc _).drewN _).setCell (by simp; omega) _).setCell (by simp; omega) _).setCell (by simp; omega) _).setCell (by simp; omega) _).setCell (by simp; omega) _)
  · have t1 : decide (dot ≤ 0) = false := decide_eq_false h1
    have HV1 := hide (HV.out.trans (if_neg h1))
    by_cases h2 : long ≤ dot
    · have t2 : decide (dot ≥ long) = true := decide_eq_true h2
      have HR := hide (HV1.out.trans (if_pos h2))
      clear h1 h2 HV HV1
      go_enter Tryz.func35, Tryz.ntmps35
      go_wp2_with fail
      go_quiet (fail)
      go_wp2_with fail
      go_quiet (fail)
      go_wp2_with fail
      refine bodyPost_ret (v := .agg #[.string ⟨#[]⟩, .int .i64 1, .int .i64 1, .int .i64 ff, .int .i64 1]) ?_ rfl ⟨?_, ?_⟩
      · simp [results, Tryz.results35, go_sem]
      · rw [HR.out]
        unfold spotAgg
        simp only [Int.toNat_of_nonneg HF0.out]
        rfl
      · exact ((((((((((Nx.refl w).alloc _).alloc _).alloc _).drewN _).setCell (by simp; omega) _).setCell (by simp; omega) _).setCell (by simp; omega) _).setCell (by simp; omega) _).setCell (by simp; omega) _)
    · have t2 : decide (dot ≥ long) = false := decide_eq_false h2
      have HR := hide (HV1.out.trans (if_neg h2))
      have HF1 := hide (fun W => (show Calls Tryz.prog 78 #[.int .i64 dot, .int .i64 long] W _ by
        have := w_Fraction dot.toNat long.toNat W (by have := HD0.out; omega) ⟨by omega, by have := HL0.out; omega⟩
        rw [Int.toNat_of_nonneg (by omega), Int.toNat_of_nonneg HL0.out.1] at this
        exact this))
      have HF2 := hide (fun W => (show Calls Tryz.prog 78 #[.int .i64 nn, .int .i64 long] W _ by
        have := w_Fraction nn.toNat long.toNat W (by have := HN0.out; omega) ⟨by omega, by have := HL0.out; omega⟩
        rw [Int.toNat_of_nonneg HN0.out.1, Int.toNat_of_nonneg HL0.out.1] at this
        exact this))
      clear h1 h2 HV HV1 HD0 HL0 HN0 HE0 HF0
      generalize dot.toNat / dot.toNat.gcd long.toNat = u1 at *
      generalize long.toNat / dot.toNat.gcd long.toNat = u2 at *
      generalize nn.toNat / nn.toNat.gcd long.toNat = u3 at *
      generalize long.toNat / nn.toNat.gcd long.toNat = u4 at *
      go_enter Tryz.func35, Tryz.ntmps35
      go_wp2_with fail
      go_quiet (fail)
      go_wp2_with fail
      refine (HF1.out _).mono ?_
      rintro e w1 ⟨rfl, hn1⟩
      go_wp2_with fail
      refine (HF2.out _).mono ?_
      rintro e w2 ⟨rfl, hn2⟩
      have hb2 : w2.heap[w.heap.size + 1 + 1]? = some (.cells #[.string ⟨#[]⟩, .int .i64 0, .int .i64 0, .int .i64 0, .int .i64 0] 43 (0, 0)) := by
        rw [(hn1.trans hn2).block _ (by simp)]
        exact hnew (by simp)
      have k0 : w2.cell? ⟨w.heap.size + 1 + 1, 0, none⟩ = some (.string ⟨#[]⟩) := by rw [World.cell?, hb2]; rfl
      have k1 : w2.cell? ⟨w.heap.size + 1 + 1, 1, none⟩ = some (.int .i64 0) := by rw [World.cell?, hb2]; rfl
      have k2 : w2.cell? ⟨w.heap.size + 1 + 1, 2, none⟩ = some (.int .i64 0) := by rw [World.cell?, hb2]; rfl
      have k3 : w2.cell? ⟨w.heap.size + 1 + 1, 3, none⟩ = some (.int .i64 0) := by rw [World.cell?, hb2]; rfl
      have k4 : w2.cell? ⟨w.heap.size + 1 + 1, 4, none⟩ = some (.int .i64 0) := by rw [World.cell?, hb2]; rfl
      have z0 : w2.frozen? ⟨w.heap.size + 1 + 1, 0, none⟩ = false := by simp [World.frozen?, hb2]
      have z1 : w2.frozen? ⟨w.heap.size + 1 + 1, 1, none⟩ = false := by simp [World.frozen?, hb2]
      have z2 : w2.frozen? ⟨w.heap.size + 1 + 1, 2, none⟩ = false := by simp [World.frozen?, hb2]
      have z3 : w2.frozen? ⟨w.heap.size + 1 + 1, 3, none⟩ = false := by simp [World.frozen?, hb2]
      have z4 : w2.frozen? ⟨w.heap.size + 1 + 1, 4, none⟩ = false := by simp [World.frozen?, hb2]
      obtain ⟨r0, r1, r2, r3, r4⟩ := cells5 (v0 := .string ⟨#[]⟩) (v1 := .int .i64 (u1 : Int)) (v2 := .int .i64 (u2 : Int)) (v3 := .int .i64 (u3 : Int)) (v4 := .int .i64 (u4 : Int)) k0 k1 k2 k3 k4
      have hnx : Nx w w2 := ((((((Nx.refl w).alloc _).alloc _).alloc _).drewN _).trans hn1).trans hn2
      clear hb2 hn1 hn2
      go_wp2_with fail
      refine bodyPost_ret (v := .agg #[.string ⟨#[]⟩, .int .i64 (u1 : Int), .int .i64 (u2 : Int), .int .i64 (u3 : Int), .int .i64 (u4 : Int)]) ?_ rfl ⟨?_, ?_⟩
      · simp [results, Tryz.results35, go_sem, r0, r1, r2, r3, r4]
      · rw [HR.out]
        rfl
      · exact (((((hnx.setCell (by simp; omega) _).setCell (by simp; omega) _).setCell (by simp; omega) _).setCell (by simp; omega) _).setCell (by simp; omega) _)
end Go.Proofs.YtepbamacebjopaaGreatDoor
/- Keys: the program's and the reference's. -/
namespace Go.Proofs.YtepbamacebjopaaGreatDoor
open Go.RowKit

theorem lowC_int (c : UInt8) : lowC c = true ↔ 97 ≤ (c.toNat : Int) ∧ (c.toNat : Int) ≤ 122 := by
  unfold lowC; simp; omega
theorem keyC_int (c : UInt8) : keyC c = true ↔ (97 ≤ (c.toNat : Int) ∧ (c.toNat : Int) ≤ 122) ∨ (48 ≤ (c.toNat : Int) ∧ (c.toNat : Int) ≤ 57) ∨ (c.toNat : Int) = 45 ∨ (c.toNat : Int) = 95 := by
  unfold keyC lowC digC
  have e1 : (c == 45) = true ↔ (c.toNat : Int) = 45 := by
    rw [beq_iff_eq, ← UInt8.toNat_inj]; show c.toNat = 45 ↔ _; omega
  have e2 : (c == 95) = true ↔ (c.toNat : Int) = 95 := by
    rw [beq_iff_eq, ← UInt8.toNat_inj]; show c.toNat = 95 ↔ _; omega
  simp only [Bool.or_eq_true, Bool.and_eq_true, decide_eq_true_eq, e1, e2]
  omega
theorem keyL_snoc {l : List UInt8} {p : UInt8 → Bool} {k : Nat} (hk : k < l.length) : (l.take (k + 1)).all p = ((l.take k).all p && p l[k]) := by
  rw [List.take_succ_eq_append_getElem hk, List.all_append]; simp
theorem data_len (s : ByteArray) : s.data.toList.length = s.size := by simp
theorem keyB_eq (s : ByteArray) (h0 : 0 < s.size) : keyB s = (decide (s.size ≤ 40) && lowC (s[0]'h0) && s.data.toList.all keyC) := by
  unfold keyB
  have e := data_len s
  cases hl : s.data.toList with
  | nil => rw [hl] at e; simp at e; omega
  | cons c l =>
    have e0 : s[0]'h0 = c := by
      have : s.data.toList[0]'(by rw [e]; exact h0) = c := by simp [hl]
      exact this
    unfold keyL
    rw [e0, ← e, hl]
theorem all_take_false {l : List UInt8} {p : UInt8 → Bool} {k : Nat} (hk : k < l.length) (h : p l[k] = false) : l.all p = false := by
  rw [List.all_eq_false]
  exact ⟨_, List.getElem_mem hk, by simp [h]⟩

set_option maxHeartbeats 1000000 in
theorem w_Key (s : ByteArray) (w : World) (hs : s.size ≤ 1000000) :
    Calls Tryz.prog 71 #[.string s] w fun e w' => e = .returned (.bool (keyB s)) ∧ w = w' := by
  by_cases h0 : s.size = 0
  · have he : s.toList = [] := by
      rw [Lib.toList_data]
      exact List.eq_nil_of_length_eq_zero (by rw [data_len]; exact h0)
    have hk : keyB s = false := by
      unfold keyB
      rw [← Lib.toList_data, he]; rfl
    have HK := hide hk
    clear hk
    go_enter Tryz.func71, Tryz.ntmps71
    go_wp2
    go_ret
    exact ⟨ret_bool (by rw [HK.out]), rfl⟩
  · have h1 : 0 < s.size := by omega
    have HK := hide (keyB_eq s h1)
    have he : s.toList.isEmpty = false := by
      rw [Lib.toList_data]
      cases h : s.data.toList with
      | nil => have := data_len s; rw [h] at this; simp at this; omega
      | cons _ _ => rfl
    have L0 := hide (lowC_int (s[0]'h1))
    by_cases h40 : 40 < s.size
    · go_enter Tryz.func71, Tryz.ntmps71
      go_wp2
      go_ret
      exact ⟨ret_bool (by rw [HK.out, decide_eq_false (by omega)]; rfl), rfl⟩
    · by_cases hlow : lowC (s[0]'h1) = true
      · have hlo := L0.out.1 hlow
        have HLW := hide hlow
        obtain ⟨hl1, hl2⟩ := hlo
        clear hlow
        go_enter Tryz.func71, Tryz.ntmps71
        go_wp2
        go_loop [3, 4, 24] (fun _ _ i => ∃ k : Nat, k ≤ s.size ∧ i = .int .i64 k ∧ (s.data.toList.take k).all keyC = true) (fun _ _ i => s.size - (intOf i).toNat)
        case atStart => exact ⟨0, Nat.zero_le _, rfl, by simp⟩
        case round =>
          obtain ⟨k, hk, rfl, hq⟩ := hrel
          have HQ := hide hq
          clear hq
          by_cases hlt : k < s.size
          · have KC := hide (keyC_int s[k])
            have KS := hide (keyL_snoc (p := keyC) (l := s.data.toList) (k := k) (by simpa using hlt))
            have KA := hide (fun h => all_take_false (p := keyC) (l := s.data.toList) (k := k) (by simpa using hlt) h)
            have KE := hide (show s.data.toList[k]'(by simpa using hlt) = s[k] from rfl)
            by_cases hc : keyC s[k] = true
            · have hc' := KC.out.1 hc
              have HC := hide hc
              clear hc
              go_wp2
              all_goals first
                | (go_round
                   case rel => exact ⟨k + 1, by omega, by go_num, by rw [KS.out, HQ.out, KE.out, HC.out]; rfl⟩
                   case measure => simp [intOf]; omega)
                | (exfalso; simp at *; omega)
            · have hc' : ¬ ((97 ≤ (s[k].toNat : Int) ∧ (s[k].toNat : Int) ≤ 122) ∨ (48 ≤ (s[k].toNat : Int) ∧ (s[k].toNat : Int) ≤ 57) ∨ (s[k].toNat : Int) = 45 ∨ (s[k].toNat : Int) = 95) := fun h => hc (KC.out.2 h)
              have HC := hide hc
              clear hc
              go_wp2
              all_goals first
                | (go_ret
                   exact ⟨ret_bool (by rw [HK.out, KA.out (by rw [KE.out]; simpa using HC.out)]; simp), rfl⟩)
                | (exfalso; simp at *; omega)
          · go_wp2
            go_ret
            have e : k = s.size := by omega
            exact ⟨ret_bool (by
              have h := HQ.out
              rw [e, List.take_of_length_le (by rw [data_len]; exact Nat.le_refl _)] at h
              rw [HK.out, decide_eq_true (by omega), HLW.out, h]; rfl), rfl⟩
      · have hlo : ¬ (97 ≤ ((s[0]'h1).toNat : Int) ∧ ((s[0]'h1).toNat : Int) ≤ 122) := fun h => hlow (L0.out.2 h)
        have HLW := hide hlow
        clear hlow
        by_cases hl1 : ((s[0]'h1).toNat : Int) < 97
        · clear hlo
          go_enter Tryz.func71, Tryz.ntmps71
          go_wp2
          go_ret
          exact ⟨ret_bool (by rw [HK.out, show lowC (s[0]'h1) = false by simpa using HLW.out]; simp), rfl⟩
        · have hl2 : 122 < ((s[0]'h1).toNat : Int) := by omega
          clear hlo
          go_enter Tryz.func71, Tryz.ntmps71
          go_wp2
          go_ret
          exact ⟨ret_bool (by rw [HK.out, show lowC (s[0]'h1) = false by simpa using HLW.out]; simp), rfl⟩

def csB : ByteArray := ⟨#[97, 98, 99, 100, 101, 102, 103, 104, 105, 106, 107, 108, 109, 110, 111, 112, 113, 114, 115, 116, 117, 118, 119, 120, 121, 122, 48, 49, 50, 51, 52, 53, 54, 55, 56, 57, 45, 95]⟩
def smB : ByteArray := ⟨#[97, 98, 99, 100, 101, 102, 103, 104, 105, 106, 107, 108, 109, 110, 111, 112, 113, 114, 115, 116, 117, 118, 119, 120, 121, 122]⟩
/-- The reference's trim, of keys' signs. -/
theorem w_TrimKey (s : ByteArray) (w : World) (hs : s.size ≤ 1000000) :
    Calls Tryz.prog 92 #[.string s, .string csB] w fun e w' => ∃ r : ByteArray, e = .returned (.string r) ∧ r.toList.isEmpty = s.data.toList.all keyC ∧ Nx w w' := by
  have hcon := Any.strings_Trim_laid Tryz.trimStr (by kernel_rfl) s csB w (by omega) (by decide) (ascii_of_all (by decide))
  change Calls Tryz.prog 92 _ _ _ at hcon
  refine hcon.mono ?_
  rintro e w' ⟨rfl, hb⟩
  refine ⟨_, rfl, ?_, hb⟩
  rw [Lib.toList_data]
  exact trim_key s.data.toList
theorem w_IndexSmall (c : UInt8) (w : World) :
    Calls Tryz.prog 93 #[.string smB, .int .u8 (c.toNat : Int)] w fun e w' => ∃ z : Int, e = .returned (.int .i64 z) ∧ decide (0 ≤ z) = lowC c ∧ w = w' := by
  have hcon := Any.strings_IndexByte Tryz.indexByteStr smB (c.toNat : Int) w
  change Calls Tryz.prog 93 _ _ _ at hcon
  refine hcon.mono ?_
  rintro e w' ⟨rfl, rfl⟩
  refine ⟨_, rfl, ?_, rfl⟩
  have e : smB.data.toList = smallL := rfl
  have e2 : ((c.toNat : Int)).toNat.toUInt8 = c := by simp
  rw [e, e2]
  exact small_low c

set_option maxHeartbeats 1000000 in
theorem w_KeyR (s : ByteArray) (w : World) (hs : s.size ≤ 1000000) :
    Calls Tryz.prog 47 #[.string s] w fun e w' => e = .returned (.bool (keyB s)) ∧ Nx w w' := by
  have e1 := inB_out (s.size : Int) 1 40
  by_cases h0 : s.size = 0
  · have he : s.toList = [] := by
      rw [Lib.toList_data]
      exact List.eq_nil_of_length_eq_zero (by rw [data_len]; exact h0)
    have hk : keyB s = false := by
      unfold keyB
      rw [← Lib.toList_data, he]; rfl
    have ho : outB (s.size : Int) 1 40 = true := outB_true.2 (by omega)
    rw [ho] at e1
    have HK := hide hk
    clear hk ho h0
    go_enter Tryz.func47, Tryz.ntmps47
    go_wp2_with (go_at_call 48; refine (w_in _ _ _ _).mono ?_; rintro e w' ⟨rfl, rfl⟩)
    go_ret
    exact ⟨ret_bool (by rw [HK.out]), Nx.refl _⟩
  · have h1 : 0 < s.size := by omega
    have HK := hide (keyB_eq s h1)
    have hT := fun w => w_TrimKey s w hs
    by_cases h40 : 40 < s.size
    · have ho : outB (s.size : Int) 1 40 = true := outB_true.2 (by omega)
      rw [ho] at e1
      clear ho
      go_enter Tryz.func47, Tryz.ntmps47
      go_wp2_with (go_at_call 48; refine (w_in _ _ _ _).mono ?_; rintro e w' ⟨rfl, rfl⟩)
      go_ret
      exact ⟨ret_bool (by rw [HK.out, decide_eq_false (by omega)]; rfl), Nx.refl _⟩
    · have ho : outB (s.size : Int) 1 40 = false := outB_false.2 (by omega)
      rw [ho] at e1
      clear ho
      generalize s.data.toList.all keyC = B at HK hT
      go_enter Tryz.func47, Tryz.ntmps47
      go_wp2_with (first
        | (go_at_call 48; refine (w_in _ _ _ _).mono ?_; rintro e w' ⟨rfl, rfl⟩)
        | (go_at_call 92; refine (hT _).mono ?_; rintro e w1 ⟨r, rfl, hr, hn1⟩)
        | (go_at_call 93; refine (w_IndexSmall _ _).mono ?_; rintro e w2 ⟨z, rfl, hz, rfl⟩))
      · go_ret
        exact ⟨ret_bool (by rw [HK.out, decide_eq_true (by omega), show B = true from ‹B = true›]; simp), hn1⟩
      · go_ret
        have hB : B = false := by simpa using ‹¬B = true›
        exact ⟨ret_bool (by rw [HK.out, hB]; simp), hn1⟩
end Go.Proofs.YtepbamacebjopaaGreatDoor
/- Sorted keys: the program's check and the reference's. -/
namespace Go.Proofs.YtepbamacebjopaaGreatDoor
open Go.RowKit

def Small (l : List ByteArray) : Prop := ∀ s ∈ l, s.size ≤ 1000000
theorem Small.at {l : List ByteArray} (h : Small l) (k : Nat) (hk : k < l.length) : l[k].size ≤ 1000000 := h _ (List.getElem_mem hk)

end Go.Proofs.YtepbamacebjopaaGreatDoor
/- Nodes: the program's check. -/
namespace Go.Proofs.YtepbamacebjopaaGreatDoor
open Go.RowKit

theorem w_isPointR (x y : Int) (w : World) : Calls Tryz.prog 33 #[.int .i64 x, .int .i64 y] w fun e w' => e = .returned (.bool (isPtB x y)) ∧ w = w' := by
  cases h : outB x (-10000) 10000
  · cases h2 : outB y (-10000) 10000
    all_goals
      go_enter Tryz.func33, Tryz.ntmps33
      go_wp2_with (go_at_call 72; refine (w_Out _ _ _ _).mono ?_; rintro e w' ⟨rfl, rfl⟩)
      go_ret
      exact ⟨ret_bool (by unfold isPtB; rw [h, h2]; rfl), rfl⟩
  · go_enter Tryz.func33, Tryz.ntmps33
    go_wp2_with (go_at_call 72; refine (w_Out _ _ _ _).mono ?_; rintro e w' ⟨rfl, rfl⟩)
    go_ret
    exact ⟨ret_bool (by unfold isPtB; rw [h]; rfl), rfl⟩

def SmallN (l : List Node) : Prop := ∀ s ∈ l, s.key.size ≤ 1000000
set_option maxRecDepth 100000 in
set_option maxHeartbeats 2000000 in
theorem w_nodesFaultR (lo : Nat) (A : Option Addr) (c : Nat) (l : List Node) (w : World) (hR : Rd w lo A 3 encNode l) (hS : SmallN l) (hl : l.length ≤ 65536) :
    Calls Tryz.prog 70 #[.slice A l.length c] w fun e w' => e = .returned (.int .i64 (nodesF l)) ∧ Nx w w' := by
  generalize hn : l.length = n at *
  have HR := hide hR
  have HN := hide hn
  have HS := hide hS
  clear hR hn hS
  by_cases hbig : 500 < n
  · go_enter Tryz.func70, Tryz.ntmps70
    go_wp2
    go_ret
    exact ⟨ret_int (by unfold nodesF; rw [if_pos (by rw [HN.out]; exact hbig)]), Nx.refl _⟩
  · have HF := hide (show nodesF l = chk nodeF none l by unfold nodesF; rw [if_neg (by rw [HN.out]; exact hbig)])
    go_enter Tryz.func70, Tryz.ntmps70
    go_wp2
    go_loopw [2, 3, 4, 10] (fun _ _ _ i wr => ∃ k : Nat, k ≤ n ∧ i = .int .i64 k ∧ Nx w wr ∧ chk nodeF none l = chk nodeF (prevOf l k) (l.drop k)) (fun _ _ _ i _ => n - (intOf i).toNat)
    case atStart => exact ⟨0, Nat.zero_le _, rfl, Nx.refl _, rfl⟩
    case round =>
      obtain ⟨k, hk, rfl, hbw, hq⟩ := hrel
      have HQ := hide hq
      clear hq
      by_cases hlt : k < n
      · have hlt' : k < l.length := by have := HN.out; omega
        obtain ⟨b, off, rfl, _, hb, hbr, hc⟩ := HR.out.open_ hbw (by omega)
        have c0 : wr.cell? ⟨b, off + k * 3, none⟩ = some (.string l[k].key) := hc k hlt' 0 _ rfl
        have c1 : wr.cell? ⟨b, off + k * 3 + 1, none⟩ = some (.int .i64 l[k].x) := hc k hlt' 1 _ rfl
        have c2 : wr.cell? ⟨b, off + k * 3 + 2, none⟩ = some (.int .i64 l[k].y) := hc k hlt' 2 _ rfl
        have hsz := HS.out _ (List.getElem_mem hlt')
        have HC := hide hc
        clear hc
        have HD := hide (chk_drop nodeF l k hlt')
        cases hkb : keyB l[k].key
        · have HV := hide (show nodeF (prevOf l k) l[k] = 5 by unfold nodeF; rw [hkb]; rfl)
          go_wp2_with (go_at_call 71; refine (w_Key _ _ hsz).mono ?_; rintro e w' ⟨rfl, rfl⟩)
          go_ret
          exact ⟨ret_int (by rw [HF.out, HQ.out, HD.out, HV.out]; rfl), hbw.alloc _⟩
        · by_cases hk0 : 0 < k
          · have c4 : wr.cell? ⟨b, off + (k - 1) * 3, none⟩ = some (.string (l[k - 1]'(by omega)).key) := HC.out (k - 1) (by omega) 0 _ rfl
            have HV := hide (show nodeF (prevOf l k) l[k] = if strLe l[k].key (l[k - 1]'(by omega)).key then 7 else ptF l[k].x l[k].y by rw [prevOf_pos l k hk0 (by omega)]; unfold nodeF; rw [hkb]; rfl)
            generalize (l[k - 1]'(by omega)).key = p0 at *
            have q0 : decide ((0 : Int) < (k : Int)) = true := by simpa using hk0
            have q1 : IntKind.i64.wrap ((k : Int) - 1) = (k : Int) - 1 := IntWalk.i64_in _ (by omega)
            have q2 : (1 : Int) ≤ (k : Int) := by omega
            have q3 : ((k : Int) - 1).toNat = k - 1 := by omega
            have q4 : (k : Int) - 1 < (n : Int) := by omega
            cases ho : strLe l[k].key p0
            · have t1 : (Op.bytesLess l[k].key.toList p0.toList || l[k].key.toList == p0.toList) = false := ho
              have HO := hide ho
              cases hp : isPtB l[k].x l[k].y
              all_goals
                have HP := hide hp
                clear ho
                go_wp2_with (first
                  | (go_at_call 71; refine (w_Key _ _ hsz).mono ?_; rintro e w' ⟨rfl, rfl⟩))
                go_quiet (fail)
                go_wp2_with (first
                  | (go_at_call 33; refine (w_isPointR _ _ _).mono ?_; rintro e w' ⟨rfl, rfl⟩))
              · go_ret
                exact ⟨ret_int (by rw [HF.out, HQ.out, HD.out, HV.out, HO.out]; unfold ptF argF; rw [HP.out]; rfl), (hbw.alloc _).drewN _⟩
              · go_roundw
                case rel => exact ⟨k + 1, by omega, by go_num, (hbw.alloc _).drewN _, by rw [HQ.out, HD.out, HV.out, HO.out]; unfold ptF argF; rw [HP.out]; rfl⟩
                case measure => simp [intOf]; omega
            · have t1 : (Op.bytesLess l[k].key.toList p0.toList || l[k].key.toList == p0.toList) = true := ho
              have HO := hide ho
              clear ho
              go_wp2_with (first
                | (go_at_call 71; refine (w_Key _ _ hsz).mono ?_; rintro e w' ⟨rfl, rfl⟩))
              go_quiet (fail)
              go_wp2
              go_ret
              exact ⟨ret_int (by rw [HF.out, HQ.out, HD.out, HV.out, HO.out]; rfl), (hbw.alloc _).drewN _⟩
          · have HV := hide (show nodeF (prevOf l k) l[k] = ptF l[k].x l[k].y by have e : k = 0 := (by omega); subst e; rw [prevOf_zero]; unfold nodeF; rw [hkb]; rfl)
            have q0 : decide ((0 : Int) < (k : Int)) = false := by simpa using hk0
            cases hp : isPtB l[k].x l[k].y
            all_goals
              have HP := hide hp
              go_wp2_with (first
                | (go_at_call 71; refine (w_Key _ _ hsz).mono ?_; rintro e w' ⟨rfl, rfl⟩))
              go_quiet (fail)
              go_wp2_with (first
                | (go_at_call 33; refine (w_isPointR _ _ _).mono ?_; rintro e w' ⟨rfl, rfl⟩))
            · go_ret
              exact ⟨ret_int (by rw [HF.out, HQ.out, HD.out, HV.out]; unfold ptF argF; rw [HP.out]; rfl), (hbw.alloc _).drewN _⟩
            · go_roundw
              case rel => exact ⟨k + 1, by omega, by go_num, (hbw.alloc _).drewN _, by rw [HQ.out, HD.out, HV.out]; unfold ptF argF; rw [HP.out]; rfl⟩
              case measure => simp [intOf]; omega
      · go_wp2
        go_ret
        exact ⟨ret_int (by rw [HF.out, HQ.out, List.drop_of_length_le (by have := HN.out; omega)]; rfl), hbw⟩
end Go.Proofs.YtepbamacebjopaaGreatDoor
