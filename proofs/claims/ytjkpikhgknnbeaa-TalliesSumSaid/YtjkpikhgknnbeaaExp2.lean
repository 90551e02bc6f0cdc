/- What is to be expected, where a week is there. -/
import Derived.Test.YtjkpikhgknnbeaaExp
namespace Go.Proofs.Ytjkpikhgknnbeaa
open Go.RowKit Go.Sort Go.Shelf Go.Maps

def lowV (n d : Int) : Value := .agg #[.int .i64 ((n.toNat / Nat.gcd n.toNat d.toNat : Nat) : Int), .int .i64 ((d.toNat / Nat.gcd n.toNat d.toNat : Nat) : Int)]
def ExpYes (V : Value) (w : World) (e : Ending) (w' : World) : Prop := e = .returned (.tuple #[V, .bool true, .int .i64 0]) ∧ Nx w w'
theorem w_Fraction2 (m q : Nat) (hm : m ≤ 4611686018427387904) (hq : 1 ≤ q ∧ q ≤ 4611686018427387904) : ∃ u v : Int, lowV m q = .agg #[.int .i64 u, .int .i64 v] ∧ ∀ w, Calls Try.prog 83 #[.int .i64 (m : Int), .int .i64 (q : Int)] w fun e w' => e = .returned (.agg #[.int .i64 u, .int .i64 v]) ∧ Nx w w' :=
  ⟨_, _, rfl, fun w => by simp only [Int.toNat_natCast]; exact w_Fraction m q w hm hq⟩
theorem weeksI_bd {f t : Int} (z h : Int) (hw : windowB f t = true) : 0 ≤ weeksI f t z h ∧ weeksI f t z h ≤ 345686400000 := by
  have g := windowB_true.1 hw
  have q := firstI_bd f (h * 3600000 - z * 60000)
  unfold weeksI
  generalize firstI f (h * 3600000 - z * 60000) = u at *
  split <;> omega
set_option maxRecDepth 100000 in
set_option maxHeartbeats 2000000 in
theorem w_Expected (lo : Nat) (A : Option Addr) (c : Nat) (a : List Tally) (f t z x y h : Int) (w : World) (hA : Rd w lo A 4 encTally a) (hl : a.length ≤ 100) (ha : talliesF a = 0) (hw : windowB f t = true) (hz : outB z (-1440) 1440 = false) (hf : isPtB x y = true) (hh : outB h 0 167 = false) (hn : weeksI f t z h ≠ 0) :
    Calls Try.prog 46 #[.slice A a.length c, .agg #[.int .i64 f, .int .i64 t], .int .i64 z, .agg #[.int .i64 x, .int .i64 y], .int .i64 h] w (ExpYes (lowV (manyI a ⟨x, y, h⟩) (weeksI f t z h)) w) := by
  have hc3 : ∀ w1, Calls Try.prog 81 #[.agg #[.int .i64 f, .int .i64 t], .int .i64 z, .int .i64 h] w1 fun e w' => e = .returned (.int .i64 (weeksI f t z h)) ∧ Nx w1 w' := fun w1 => w_weeks f t z h w1 hw hz hh
  have hnb : (weeksI f t z h == 0) = false := by simpa using hn
  have HP := hide (talliesF_ok ha)
  have hq0 := weeksI_bd z h hw
  generalize weeksI f t z h = q at *
  obtain ⟨qn, rfl⟩ : ∃ qn : Nat, q = qn := ⟨q.toNat, by omega⟩
  have hqn : 1 ≤ qn ∧ qn ≤ 4611686018427387904 := by omega
  clear hq0 hn
  have HC3 := hide hc3
  clear hc3
  have hc1 : ∀ w1, Nx w w1 → Calls Try.prog 37 #[.slice A a.length c] w1 fun e w' => e = .returned (.int .i64 0) ∧ Nx w1 w' := fun w1 hn1 => by
    have h1 := w_CheckTallies _ A c a w1 (hA.nx hn1) (by omega)
    rw [ha] at h1
    exact h1
  have hc2 : ∀ w1, Calls Try.prog 80 #[.agg #[.int .i64 f, .int .i64 t], .int .i64 z] w1 fun e w' => e = .returned (.int .i64 0) ∧ Nx w1 w' := fun w1 => by
    have h1 := w_weeksFault f t z w1
    rw [hw, hz] at h1
    exact h1
  have HC1 := hide hc1
  have HC2 := hide hc2
  have HA := hide hA
  clear hc1 hc2
  have E00 := hide (show orI [0, 0] = 0 from rfl)
  have e00 : (orI [0, 0] != 0) = false := by rw [E00.out]; rfl
  go_enter Try.func46, Try.ntmps46
  go_wp2_with fail
  go_region_held3 (fun w' => w'.cell? ⟨w.heap.size, 0, none⟩ = some (.int .i64 f) ∧ w'.cell? ⟨w.heap.size, 1, none⟩ = some (.int .i64 t))
    (first | go_keep | (go_split_ands; exact ⟨World.grownBy.cell (hn2.gr none) ‹_› (by simp), World.grownBy.cell (hn2.gr none) ‹_› (by simp)⟩) | (go_split_ands; exact ⟨World.grownBy.cell (hn1.gr none) ‹_› (by simp), World.grownBy.cell (hn1.gr none) ‹_› (by simp)⟩))
    (first
      | (go_at_call 37; refine (HC1.out _ ((((Nx.refl w).alloc _).alloc _).alloc _).drew).mono ?_; rintro e w1 ⟨rfl, hn1⟩)
      | (go_at_call 80; refine (HC2.out _).mono ?_; rintro e w2 ⟨rfl, hn2⟩)
      | (go_at_call 66; refine (w_First2 0 0 _ _ _ (hnew rfl)).mono ?_; rintro e w3 ⟨rfl, rfl⟩))
  obtain ⟨W, hW⟩ : ∃ W, W = w2.alloc (.cells #[.int .i64 0, .int .i64 0] 32) := ⟨_, rfl⟩
  obtain ⟨V, hV⟩ : ∃ V, V = (((w.alloc (.cells #[.int .i64 f, .int .i64 t] 69)).alloc (.cells #[.int .i64 x, .int .i64 y] 31)).alloc (.cells #[.int .i64 0, .int .i64 0] 77)).drew := ⟨_, rfl⟩
  have hNV : Nx w V := by rw [hV]; exact (((Nx.refl w).alloc _).alloc _).alloc _ |>.drew
  have hNW : Nx V W := by rw [hW, hV]; exact (hn1.trans hn2).alloc _
  have v0 : V.cell? ⟨w.heap.size, 0, none⟩ = some (.int .i64 f) := by rw [hV]; go_simp
  have v1 : V.cell? ⟨w.heap.size, 1, none⟩ = some (.int .i64 t) := by rw [hV]; go_simp
  have v2 : V.cell? ⟨w.heap.size + 1, 0, none⟩ = some (.int .i64 x) := by rw [hV]; go_simp
  have v3 : V.cell? ⟨w.heap.size + 1, 1, none⟩ = some (.int .i64 y) := by rw [hV]; go_simp
  have hbv : V.heap[w.heap.size + 1 + 1]? = some (.cells #[.int .i64 0, .int .i64 0] 77 (0, 0)) := by rw [hV]; exact hnew_drew (by simp)
  have hsv : V.heap.size = w.heap.size + 1 + 1 + 1 := by rw [hV]; simp
  rw [← hW]
  clear hW hV hn1 hn2
  have k0 := World.grownBy.cell (hNW.gr none) v0 (by simp)
  have k1 := World.grownBy.cell (hNW.gr none) v1 (by simp)
  have k2 := World.grownBy.cell (hNW.gr none) v2 (by simp)
  have k3 := World.grownBy.cell (hNW.gr none) v3 (by simp)
  go_wp2_with (first | (go_at_call 51; refine (w_isPoint _ _ _).mono ?_; rintro e w' ⟨rfl, rfl⟩) | (go_at_call 52; refine (w_Out _ _ _ _).mono ?_; rintro e w' ⟨rfl, rfl⟩) | (go_at_call 81; refine (HC3.out _).mono ?_; rintro e X ⟨rfl, hnx⟩; have x2 := World.grownBy.cell (hnx.gr none) k2 (by simp); have x3 := World.grownBy.cell (hnx.gr none) k3 (by simp)))
  refine (w_Binary _ _ _ a ⟨x, y, h, 0⟩ X (HA.out.nx ((hNV.trans hNW).trans hnx)) (by omega) HP.out.2).mono ?_
  rintro e Y ⟨i, fnd, rfl, hny, hft, hff⟩
  have HY := hide ((hny.block _ (by have := hNW.sz; have := hnx.sz; omega)).trans ((hnx.block _ (by have := hNW.sz; omega)).trans ((hNW.block _ (by omega)).trans hbv)))
  cases fnd
  · have HM := hide (manyI_none (s := ⟨x, y, h⟩) (hff rfl))
    clear hft hff
    obtain ⟨u, v, hlow, HF⟩ := w_Fraction2 0 qn (by omega) hqn
    have HLOW := hide hlow
    have HFR := hide HF
    clear hlow HF
    go_wp2_with (first | (go_at_call 83; refine (HFR.out _).mono ?_; rintro e Z ⟨rfl, hnz⟩; obtain ⟨r1, r2, r3, r4, r5, r6, r7, r8⟩ := res2 ((hnz.block _ (by have := hNW.sz; have := hnx.sz; have := hny.sz; omega)).trans HY.out) (.int .i64 u) (.int .i64 v)))
    rw [HM.out]
    refine bodyPost_ret (v := .tuple #[.agg #[.int .i64 u, .int .i64 v], .bool true, .int .i64 0]) (by simp [r7, r8, results, Try.results46, go_sem]) rfl ⟨by have e := HLOW.out; (try simp only [Int.natCast_zero] at e); rw [e], ((((((hNV.trans hNW).trans hnx).trans hny).trans hnz).setCell (by simp; omega) _).setCell (by simp; omega) _)⟩
  · obtain ⟨hi, hkey⟩ := hft rfl
    have HM := hide (manyI_at (s := ⟨x, y, h⟩) HP.out.2 i hi hkey)
    have hmb := (HP.out.1 a[i] (List.getElem_mem hi)).2.2
    clear hff hkey
    obtain ⟨b, off, rfl, _, hb, hbr, hc⟩ := HA.out.open_ (((hNV.trans hNW).trans hnx).trans hny) (by omega)
    have c3 : Y.cell? ⟨b, off + i * 4 + 2 + 1, none⟩ = some (.int .i64 a[i].many) := hc i hi 3 _ rfl
    have c4 : Y.cell? ⟨b, off + i * 4 + 3, none⟩ = some (.int .i64 a[i].many) := hc i hi 3 _ rfl
    clear hc
    generalize a[i].many = mi at *
    obtain ⟨mn, rfl⟩ : ∃ mn : Nat, mi = mn := ⟨mi.toNat, by omega⟩
    have hi1 : (0 : Int) ≤ (i : Int) := by omega
    have hi2 : (i : Int) < (a.length : Int) := by omega
    obtain ⟨u, v, hlow, HF⟩ := w_Fraction2 mn qn (by omega) hqn
    have HLOW := hide hlow
    have HFR := hide HF
    clear hlow HF
    go_wp2_with (first | (go_at_call 83; refine (HFR.out _).mono ?_; rintro e Z ⟨rfl, hnz⟩; obtain ⟨r1, r2, r3, r4, r5, r6, r7, r8⟩ := res2 ((hnz.block _ (by have := hNW.sz; have := hnx.sz; have := hny.sz; omega)).trans HY.out) (.int .i64 u) (.int .i64 v)))
    rw [HM.out]
    refine bodyPost_ret (v := .tuple #[.agg #[.int .i64 u, .int .i64 v], .bool true, .int .i64 0]) (by simp [r7, r8, results, Try.results46, go_sem]) rfl ⟨by have e := HLOW.out; (try simp only [Int.natCast_zero] at e); rw [e], ((((((hNV.trans hNW).trans hnx).trans hny).trans hnz).setCell (by simp; omega) _).setCell (by simp; omega) _)⟩
end Go.Proofs.Ytjkpikhgknnbeaa
