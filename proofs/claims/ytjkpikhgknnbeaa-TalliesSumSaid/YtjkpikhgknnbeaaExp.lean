/- What is to be expected. -/
import Derived.Test.YtjkpikhgknnbeaaBin
namespace Go.Proofs.Ytjkpikhgknnbeaa
open Go.RowKit Go.Sort Go.Shelf Go.Maps

/-- A result of two cells in memory: what is read there once both are written. -/
theorem res2 {W : World} {R : Nat} {a0 b0 : Value} {T : TypeId} (hb : W.heap[R]? = some (.cells #[a0, b0] T (0, 0))) (v0 v1 : Value) :
    W.cell? ⟨R, 0, none⟩ = some a0 ∧ W.cell? ⟨R, 1, none⟩ = some b0 ∧ W.frozen? ⟨R, 0, none⟩ = false ∧ W.frozen? ⟨R, 1, none⟩ = false ∧
    (W.setCell ⟨R, 0, none⟩ v0).cell? ⟨R, 0, none⟩ = some v0 ∧ (W.setCell ⟨R, 0, none⟩ v0).cell? ⟨R, 1, none⟩ = some b0 ∧
    ((W.setCell ⟨R, 0, none⟩ v0).setCell ⟨R, 1, none⟩ v1).cell? ⟨R, 0, none⟩ = some v0 ∧ ((W.setCell ⟨R, 0, none⟩ v0).setCell ⟨R, 1, none⟩ v1).cell? ⟨R, 1, none⟩ = some v1 := by
  have k0 : W.cell? ⟨R, 0, none⟩ = some a0 := cell_of_row W R 0 _ _ _ hb
  have k1 : W.cell? ⟨R, 1, none⟩ = some b0 := cell_of_row W R 1 _ _ _ hb
  have s0 : (W.setCell ⟨R, 0, none⟩ v0).cell? ⟨R, 0, none⟩ = some v0 := World.cell?_setCell_same _ _ _ k0
  have s1 : (W.setCell ⟨R, 0, none⟩ v0).cell? ⟨R, 1, none⟩ = some b0 := (World.cell?_setCell_other _ _ _ _ (by simp)).trans k1
  exact ⟨k0, k1, by simp [World.frozen?, hb], by simp [World.frozen?, hb], s0, s1, (World.cell?_setCell_other _ _ _ _ (by simp)).trans s0, World.cell?_setCell_same _ _ _ s1⟩

def ExpNo (E : Int) (w : World) (e : Ending) (w' : World) : Prop := e = .returned (.tuple #[.agg #[.int .i64 0, .int .i64 0], .bool false, .int .i64 E]) ∧ Nx w w'
/-- The first fault of Expected. -/
def expF (a : List Tally) (f t z x y h : Int) : Int := orI [talliesF a, argF (windowB f t && !outB z (-1440) 1440), argF (isPtB x y && !outB h 0 167)]

set_option maxRecDepth 100000 in
set_option maxHeartbeats 2000000 in
theorem w_Expected_no (lo : Nat) (A : Option Addr) (c : Nat) (a : List Tally) (f t z x y h : Int) (w : World) (hA : Rd w lo A 4 encTally a) (hl : a.length ≤ 100) (hf : orI [talliesF a, argF (windowB f t && !outB z (-1440) 1440)] ≠ 0) :
    Calls Try.prog 46 #[.slice A a.length c, .agg #[.int .i64 f, .int .i64 t], .int .i64 z, .agg #[.int .i64 x, .int .i64 y], .int .i64 h] w (ExpNo (orI [talliesF a, argF (windowB f t && !outB z (-1440) 1440)]) w) := by
  have hf' : (orI [talliesF a, argF (windowB f t && !outB z (-1440) 1440)] != 0) = true := by simpa using hf
  clear hf
  go_enter Try.func46, Try.ntmps46
  go_wp2_with fail
  go_region_held3 (fun w' => w'.cell? ⟨w.heap.size, 0, none⟩ = some (.int .i64 f) ∧ w'.cell? ⟨w.heap.size, 1, none⟩ = some (.int .i64 t))
    (first | go_keep | (go_split_ands; exact ⟨World.grownBy.cell (hn2.gr none) ‹_› (by simp), World.grownBy.cell (hn2.gr none) ‹_› (by simp)⟩) | (go_split_ands; exact ⟨World.grownBy.cell (hn1.gr none) ‹_› (by simp), World.grownBy.cell (hn1.gr none) ‹_› (by simp)⟩))
    (first
      | (go_at_call 37; refine (w_CheckTallies _ _ _ _ _ (hA.nx ((((Nx.refl w).alloc _).alloc _).alloc _).drew) (by omega)).mono ?_; rintro e w1 ⟨rfl, hn1⟩)
      | (go_at_call 80; refine (w_weeksFault _ _ _ _).mono ?_; rintro e w2 ⟨rfl, hn2⟩)
      | (go_at_call 66; refine (w_First2 (talliesF a) (argF (windowB f t && !outB z (-1440) 1440)) _ _ _ (hnew rfl)).mono ?_; rintro e w3 ⟨rfl, rfl⟩))
  obtain ⟨W, hW⟩ : ∃ W, W = w2.alloc (.cells #[.int .i64 (talliesF a), .int .i64 (argF (windowB f t && !outB z (-1440) 1440))] 32) := ⟨_, rfl⟩
  have hNW : Nx (((w.alloc (.cells #[.int .i64 f, .int .i64 t] 69)).alloc (.cells #[.int .i64 x, .int .i64 y] 31)).alloc (.cells #[.int .i64 0, .int .i64 0] 77)).drew W := by rw [hW]; exact (hn1.trans hn2).alloc _
  have hbk : W.heap[w.heap.size + 1 + 1]? = some (.cells #[.int .i64 0, .int .i64 0] 77 (0, 0)) := (hNW.block _ (by simp)).trans (hnew_drew (by simp))
  obtain ⟨r1, r2, r3, r4, r5, r6, r7, r8⟩ := res2 hbk (.int .i64 0) (.int .i64 0)
  rw [← hW]
  clear hW hbk
  go_wp2
  exact bodyPost_ret (v := .tuple #[.agg #[.int .i64 0, .int .i64 0], .bool false, .int .i64 (orI [talliesF a, argF (windowB f t && !outB z (-1440) 1440)])]) (by simp [r7, r8, results, Try.results46, go_sem]) rfl ⟨rfl, ((((((Nx.refl w).alloc _).alloc _).alloc _).drew.trans hNW).setCell (by simp; omega) _).setCell (by simp; omega) _⟩

set_option maxRecDepth 100000 in
set_option maxHeartbeats 2000000 in
theorem w_Expected_pt (lo : Nat) (A : Option Addr) (c : Nat) (a : List Tally) (f t z x y h : Int) (w : World) (hA : Rd w lo A 4 encTally a) (hl : a.length ≤ 100) (ha : talliesF a = 0) (hw : windowB f t = true) (hz : outB z (-1440) 1440 = false) (hf : isPtB x y = false) :
    Calls Try.prog 46 #[.slice A a.length c, .agg #[.int .i64 f, .int .i64 t], .int .i64 z, .agg #[.int .i64 x, .int .i64 y], .int .i64 h] w (ExpNo 1 w) := by
  have hc1 : ∀ w1, Nx w w1 → Calls Try.prog 37 #[.slice A a.length c] w1 fun e w' => e = .returned (.int .i64 0) ∧ Nx w1 w' := fun w1 hn1 => by
    have h1 := w_CheckTallies _ A c a w1 (hA.nx hn1) (by omega)
    rw [ha] at h1
    exact h1
  have hc2 : ∀ w1, Calls Try.prog 80 #[.agg #[.int .i64 f, .int .i64 t], .int .i64 z] w1 fun e w' => e = .returned (.int .i64 0) ∧ Nx w1 w' := fun w1 => by
    have h1 := w_weeksFault f t z w1
    rw [hw, hz] at h1
    exact h1
  have HC1 := hide hc1
  have HC2 := hide hc2
  have HA := hide hA
  clear hc1 hc2
  have E00 := hide (show orI [0, 0] = 0 from rfl)
  have e00 : (orI [0, 0] != 0) = false := by rw [E00.out]; rfl
  go_enter Try.func46, Try.ntmps46
  go_wp2_with fail
  go_region_held3 (fun w' => w'.cell? ⟨w.heap.size, 0, none⟩ = some (.int .i64 f) ∧ w'.cell? ⟨w.heap.size, 1, none⟩ = some (.int .i64 t))
    (first | go_keep | (go_split_ands; exact ⟨World.grownBy.cell (hn2.gr none) ‹_› (by simp), World.grownBy.cell (hn2.gr none) ‹_› (by simp)⟩) | (go_split_ands; exact ⟨World.grownBy.cell (hn1.gr none) ‹_› (by simp), World.grownBy.cell (hn1.gr none) ‹_› (by simp)⟩))
    (first
      | (go_at_call 37; refine (HC1.out _ ((((Nx.refl w).alloc _).alloc _).alloc _).drew).mono ?_; rintro e w1 ⟨rfl, hn1⟩)
      | (go_at_call 80; refine (HC2.out _).mono ?_; rintro e w2 ⟨rfl, hn2⟩)
      | (go_at_call 66; refine (w_First2 0 0 _ _ _ (hnew rfl)).mono ?_; rintro e w3 ⟨rfl, rfl⟩))
  obtain ⟨W, hW⟩ : ∃ W, W = w2.alloc (.cells #[.int .i64 0, .int .i64 0] 32) := ⟨_, rfl⟩
  obtain ⟨V, hV⟩ : ∃ V, V = (((w.alloc (.cells #[.int .i64 f, .int .i64 t] 69)).alloc (.cells #[.int .i64 x, .int .i64 y] 31)).alloc (.cells #[.int .i64 0, .int .i64 0] 77)).drew := ⟨_, rfl⟩
  have hNV : Nx w V := by rw [hV]; exact (((Nx.refl w).alloc _).alloc _).alloc _ |>.drew
  have hNW : Nx V W := by rw [hW, hV]; exact (hn1.trans hn2).alloc _
  have v0 : V.cell? ⟨w.heap.size, 0, none⟩ = some (.int .i64 f) := by rw [hV]; go_simp
  have v1 : V.cell? ⟨w.heap.size, 1, none⟩ = some (.int .i64 t) := by rw [hV]; go_simp
  have v2 : V.cell? ⟨w.heap.size + 1, 0, none⟩ = some (.int .i64 x) := by rw [hV]; go_simp
  have v3 : V.cell? ⟨w.heap.size + 1, 1, none⟩ = some (.int .i64 y) := by rw [hV]; go_simp
  have hbv : V.heap[w.heap.size + 1 + 1]? = some (.cells #[.int .i64 0, .int .i64 0] 77 (0, 0)) := by rw [hV]; exact hnew_drew (by simp)
  have hsv : V.heap.size = w.heap.size + 1 + 1 + 1 := by rw [hV]; simp
  rw [← hW]
  clear hW hV hn1 hn2
  have k0 := World.grownBy.cell (hNW.gr none) v0 (by simp)
  have k1 := World.grownBy.cell (hNW.gr none) v1 (by simp)
  have k2 := World.grownBy.cell (hNW.gr none) v2 (by simp)
  have k3 := World.grownBy.cell (hNW.gr none) v3 (by simp)
  have hbk : W.heap[w.heap.size + 1 + 1]? = some (.cells #[.int .i64 0, .int .i64 0] 77 (0, 0)) := (hNW.block _ (by omega)).trans hbv
  obtain ⟨r1, r2, r3, r4, r5, r6, r7, r8⟩ := res2 hbk (.int .i64 0) (.int .i64 0)
  clear hbk
  go_wp2_with (first | (go_at_call 51; refine (w_isPoint _ _ _).mono ?_; rintro e w' ⟨rfl, rfl⟩) | (go_at_call 52; refine (w_Out _ _ _ _).mono ?_; rintro e w' ⟨rfl, rfl⟩))
  exact bodyPost_ret (v := .tuple #[.agg #[.int .i64 0, .int .i64 0], .bool false, .int .i64 1]) (by simp [r7, r8, results, Try.results46, go_sem]) rfl ⟨rfl, ((hNV.trans hNW).setCell (by simp; omega) _).setCell (by simp; omega) _⟩

set_option maxRecDepth 100000 in
set_option maxHeartbeats 2000000 in
theorem w_Expected_hour (lo : Nat) (A : Option Addr) (c : Nat) (a : List Tally) (f t z x y h : Int) (w : World) (hA : Rd w lo A 4 encTally a) (hl : a.length ≤ 100) (ha : talliesF a = 0) (hw : windowB f t = true) (hz : outB z (-1440) 1440 = false) (hf : isPtB x y = true) (hh : outB h 0 167 = true) :
    Calls Try.prog 46 #[.slice A a.length c, .agg #[.int .i64 f, .int .i64 t], .int .i64 z, .agg #[.int .i64 x, .int .i64 y], .int .i64 h] w (ExpNo 1 w) := by
  have hc1 : ∀ w1, Nx w w1 → Calls Try.prog 37 #[.slice A a.length c] w1 fun e w' => e = .returned (.int .i64 0) ∧ Nx w1 w' := fun w1 hn1 => by
    have h1 := w_CheckTallies _ A c a w1 (hA.nx hn1) (by omega)
    rw [ha] at h1
    exact h1
  have hc2 : ∀ w1, Calls Try.prog 80 #[.agg #[.int .i64 f, .int .i64 t], .int .i64 z] w1 fun e w' => e = .returned (.int .i64 0) ∧ Nx w1 w' := fun w1 => by
    have h1 := w_weeksFault f t z w1
    rw [hw, hz] at h1
    exact h1
  have HC1 := hide hc1
  have HC2 := hide hc2
  have HA := hide hA
  clear hc1 hc2
  have E00 := hide (show orI [0, 0] = 0 from rfl)
  have e00 : (orI [0, 0] != 0) = false := by rw [E00.out]; rfl
  go_enter Try.func46, Try.ntmps46
  go_wp2_with fail
  go_region_held3 (fun w' => w'.cell? ⟨w.heap.size, 0, none⟩ = some (.int .i64 f) ∧ w'.cell? ⟨w.heap.size, 1, none⟩ = some (.int .i64 t))
    (first | go_keep | (go_split_ands; exact ⟨World.grownBy.cell (hn2.gr none) ‹_› (by simp), World.grownBy.cell (hn2.gr none) ‹_› (by simp)⟩) | (go_split_ands; exact ⟨World.grownBy.cell (hn1.gr none) ‹_› (by simp), World.grownBy.cell (hn1.gr none) ‹_› (by simp)⟩))
    (first
      | (go_at_call 37; refine (HC1.out _ ((((Nx.refl w).alloc _).alloc _).alloc _).drew).mono ?_; rintro e w1 ⟨rfl, hn1⟩)
      | (go_at_call 80; refine (HC2.out _).mono ?_; rintro e w2 ⟨rfl, hn2⟩)
      | (go_at_call 66; refine (w_First2 0 0 _ _ _ (hnew rfl)).mono ?_; rintro e w3 ⟨rfl, rfl⟩))
  obtain ⟨W, hW⟩ : ∃ W, W = w2.alloc (.cells #[.int .i64 0, .int .i64 0] 32) := ⟨_, rfl⟩
  obtain ⟨V, hV⟩ : ∃ V, V = (((w.alloc (.cells #[.int .i64 f, .int .i64 t] 69)).alloc (.cells #[.int .i64 x, .int .i64 y] 31)).alloc (.cells #[.int .i64 0, .int .i64 0] 77)).drew := ⟨_, rfl⟩
  have hNV : Nx w V := by rw [hV]; exact (((Nx.refl w).alloc _).alloc _).alloc _ |>.drew
  have hNW : Nx V W := by rw [hW, hV]; exact (hn1.trans hn2).alloc _
  have v0 : V.cell? ⟨w.heap.size, 0, none⟩ = some (.int .i64 f) := by rw [hV]; go_simp
  have v1 : V.cell? ⟨w.heap.size, 1, none⟩ = some (.int .i64 t) := by rw [hV]; go_simp
  have v2 : V.cell? ⟨w.heap.size + 1, 0, none⟩ = some (.int .i64 x) := by rw [hV]; go_simp
  have v3 : V.cell? ⟨w.heap.size + 1, 1, none⟩ = some (.int .i64 y) := by rw [hV]; go_simp
  have hbv : V.heap[w.heap.size + 1 + 1]? = some (.cells #[.int .i64 0, .int .i64 0] 77 (0, 0)) := by rw [hV]; exact hnew_drew (by simp)
  have hsv : V.heap.size = w.heap.size + 1 + 1 + 1 := by rw [hV]; simp
  rw [← hW]
  clear hW hV hn1 hn2
  have k0 := World.grownBy.cell (hNW.gr none) v0 (by simp)
  have k1 := World.grownBy.cell (hNW.gr none) v1 (by simp)
  have k2 := World.grownBy.cell (hNW.gr none) v2 (by simp)
  have k3 := World.grownBy.cell (hNW.gr none) v3 (by simp)
  have hbk : W.heap[w.heap.size + 1 + 1]? = some (.cells #[.int .i64 0, .int .i64 0] 77 (0, 0)) := (hNW.block _ (by omega)).trans hbv
  obtain ⟨r1, r2, r3, r4, r5, r6, r7, r8⟩ := res2 hbk (.int .i64 0) (.int .i64 0)
  clear hbk
  go_wp2_with (first | (go_at_call 51; refine (w_isPoint _ _ _).mono ?_; rintro e w' ⟨rfl, rfl⟩) | (go_at_call 52; refine (w_Out _ _ _ _).mono ?_; rintro e w' ⟨rfl, rfl⟩))
  exact bodyPost_ret (v := .tuple #[.agg #[.int .i64 0, .int .i64 0], .bool false, .int .i64 1]) (by simp [r7, r8, results, Try.results46, go_sem]) rfl ⟨rfl, ((hNV.trans hNW).setCell (by simp; omega) _).setCell (by simp; omega) _⟩

set_option maxRecDepth 100000 in
set_option maxHeartbeats 2000000 in
theorem w_Expected_none (lo : Nat) (A : Option Addr) (c : Nat) (a : List Tally) (f t z x y h : Int) (w : World) (hA : Rd w lo A 4 encTally a) (hl : a.length ≤ 100) (ha : talliesF a = 0) (hw : windowB f t = true) (hz : outB z (-1440) 1440 = false) (hf : isPtB x y = true) (hh : outB h 0 167 = false) (hn : weeksI f t z h = 0) :
    Calls Try.prog 46 #[.slice A a.length c, .agg #[.int .i64 f, .int .i64 t], .int .i64 z, .agg #[.int .i64 x, .int .i64 y], .int .i64 h] w (ExpNo 0 w) := by
  have hc3 : ∀ w1, Calls Try.prog 81 #[.agg #[.int .i64 f, .int .i64 t], .int .i64 z, .int .i64 h] w1 fun e w' => e = .returned (.int .i64 0) ∧ Nx w1 w' := fun w1 => by
    have h1 := w_weeks f t z h w1 hw hz hh
    rw [hn] at h1
    exact h1
  have HC3 := hide hc3
  clear hc3
  have hc1 : ∀ w1, Nx w w1 → Calls Try.prog 37 #[.slice A a.length c] w1 fun e w' => e = .returned (.int .i64 0) ∧ Nx w1 w' := fun w1 hn1 => by
    have h1 := w_CheckTallies _ A c a w1 (hA.nx hn1) (by omega)
    rw [ha] at h1
    exact h1
  have hc2 : ∀ w1, Calls Try.prog 80 #[.agg #[.int .i64 f, .int .i64 t], .int .i64 z] w1 fun e w' => e = .returned (.int .i64 0) ∧ Nx w1 w' := fun w1 => by
    have h1 := w_weeksFault f t z w1
    rw [hw, hz] at h1
    exact h1
  have HC1 := hide hc1
  have HC2 := hide hc2
  have HA := hide hA
  clear hc1 hc2
  have E00 := hide (show orI [0, 0] = 0 from rfl)
  have e00 : (orI [0, 0] != 0) = false := by rw [E00.out]; rfl
  go_enter Try.func46, Try.ntmps46
  go_wp2_with fail
  go_region_held3 (fun w' => w'.cell? ⟨w.heap.size, 0, none⟩ = some (.int .i64 f) ∧ w'.cell? ⟨w.heap.size, 1, none⟩ = some (.int .i64 t))
    (first | go_keep | (go_split_ands; exact ⟨World.grownBy.cell (hn2.gr none) ‹_› (by simp), World.grownBy.cell (hn2.gr none) ‹_› (by simp)⟩) | (go_split_ands; exact ⟨World.grownBy.cell (hn1.gr none) ‹_› (by simp), World.grownBy.cell (hn1.gr none) ‹_› (by simp)⟩))
    (first
      | (go_at_call 37; refine (HC1.out _ ((((Nx.refl w).alloc _).alloc _).alloc _).drew).mono ?_; rintro e w1 ⟨rfl, hn1⟩)
      | (go_at_call 80; refine (HC2.out _).mono ?_; rintro e w2 ⟨rfl, hn2⟩)
      | (go_at_call 66; refine (w_First2 0 0 _ _ _ (hnew rfl)).mono ?_; rintro e w3 ⟨rfl, rfl⟩))
  obtain ⟨W, hW⟩ : ∃ W, W = w2.alloc (.cells #[.int .i64 0, .int .i64 0] 32) := ⟨_, rfl⟩
  obtain ⟨V, hV⟩ : ∃ V, V = (((w.alloc (.cells #[.int .i64 f, .int .i64 t] 69)).alloc (.cells #[.int .i64 x, .int .i64 y] 31)).alloc (.cells #[.int .i64 0, .int .i64 0] 77)).drew := ⟨_, rfl⟩
  have hNV : Nx w V := by rw [hV]; exact (((Nx.refl w).alloc _).alloc _).alloc _ |>.drew
  have hNW : Nx V W := by rw [hW, hV]; exact (hn1.trans hn2).alloc _
  have v0 : V.cell? ⟨w.heap.size, 0, none⟩ = some (.int .i64 f) := by rw [hV]; go_simp
  have v1 : V.cell? ⟨w.heap.size, 1, none⟩ = some (.int .i64 t) := by rw [hV]; go_simp
  have v2 : V.cell? ⟨w.heap.size + 1, 0, none⟩ = some (.int .i64 x) := by rw [hV]; go_simp
  have v3 : V.cell? ⟨w.heap.size + 1, 1, none⟩ = some (.int .i64 y) := by rw [hV]; go_simp
  have hbv : V.heap[w.heap.size + 1 + 1]? = some (.cells #[.int .i64 0, .int .i64 0] 77 (0, 0)) := by rw [hV]; exact hnew_drew (by simp)
  have hsv : V.heap.size = w.heap.size + 1 + 1 + 1 := by rw [hV]; simp
  rw [← hW]
  clear hW hV hn1 hn2
  have k0 := World.grownBy.cell (hNW.gr none) v0 (by simp)
  have k1 := World.grownBy.cell (hNW.gr none) v1 (by simp)
  have k2 := World.grownBy.cell (hNW.gr none) v2 (by simp)
  have k3 := World.grownBy.cell (hNW.gr none) v3 (by simp)
  go_wp2_with (first | (go_at_call 51; refine (w_isPoint _ _ _).mono ?_; rintro e w' ⟨rfl, rfl⟩) | (go_at_call 52; refine (w_Out _ _ _ _).mono ?_; rintro e w' ⟨rfl, rfl⟩) | (go_at_call 81; refine (HC3.out _).mono ?_; rintro e X ⟨rfl, hnx⟩; obtain ⟨r1, r2, r3, r4, r5, r6, r7, r8⟩ := res2 ((hnx.block _ (by have := hNW.sz; omega)).trans ((hNW.block _ (by omega)).trans hbv)) (.int .i64 0) (.int .i64 0)))
  exact bodyPost_ret (v := .tuple #[.agg #[.int .i64 0, .int .i64 0], .bool false, .int .i64 0]) (by simp [r7, r8, results, Try.results46, go_sem]) rfl ⟨rfl, (((hNV.trans hNW).trans hnx).setCell (by simp; omega) _).setCell (by simp; omega) _⟩
end Go.Proofs.Ytjkpikhgknnbeaa
