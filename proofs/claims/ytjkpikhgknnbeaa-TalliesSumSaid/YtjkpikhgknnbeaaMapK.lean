/- Maps: the keys. -/
import Derived.Test.YtjkpikhgknnbeaaNum
import Derived.Maps.Keyed
import Derived.DeepKeys4
import Derived.KernelRfl
namespace Go.Proofs.Ytjkpikhgknnbeaa
open Go.RowKit Go.Maps

theorem tySize : Try.prog.types.size = 198 := by kernel_rfl
theorem laidOut : laidOutB Try.prog = true := by kernel_rfl
theorem law_place : Keyed Try.prog 92 := Keyed.of_law (deep_law_laid laidOut (m := 5) (by omega) (k := 92) (by rw [tySize]; decide) (by kernel_rfl) (by kernel_rfl))
theorem law_spot : Keyed Try.prog 97 := Keyed.of_law (deep_law_laid laidOut (m := 5) (by omega) (k := 97) (by rw [tySize]; decide) (by kernel_rfl) (by kernel_rfl))
theorem law_cell : Keyed Try.prog 31 := Keyed.of_law (deep_law_laid laidOut (m := 5) (by omega) (k := 31) (by rw [tySize]; decide) (by kernel_rfl) (by kernel_rfl))
theorem kt_place : Try.prog.keyType 92 = true := by kernel_rfl
theorem kt_spot : Try.prog.keyType 97 = true := by kernel_rfl
theorem kt_cell : Try.prog.keyType 31 = true := by kernel_rfl
theorem cells_place : Try.prog.cellsOf 92 = 3 := by kernel_rfl
theorem cells_spot : Try.prog.cellsOf 97 = 3 := by kernel_rfl
theorem cells_cell : Try.prog.cellsOf 31 = 2 := by kernel_rfl
theorem cells_int : Try.prog.cellsOf 3 = 1 := by kernel_rfl

theorem lits_int (d : Nat) (x : Int) (hx : (Lit.int .i64 x).wf = true) : Try.prog.keyLits (d + 1) 3 [.int .i64 x] = some [.int .i64 x] := by
  unfold Program.keyLits; rw [Try.underlying3]; simp [hx]
theorem lits_cell (d : Nat) (x y : Int) (hx : (Lit.int .i64 x).wf = true) (hy : (Lit.int .i64 y).wf = true) : Try.prog.keyLits (d + 2) 31 [.int .i64 x, .int .i64 y] = some [.int .i64 x, .int .i64 y] := by
  unfold Program.keyLits; rw [Try.underlying31]; simp [cells_cell, cells_int, lits_int _ _ hx, lits_int _ _ hy]
theorem lits_place (d : Nat) (x y h : Int) (hx : (Lit.int .i64 x).wf = true) (hy : (Lit.int .i64 y).wf = true) (hh : (Lit.int .i64 h).wf = true) : Try.prog.keyLits (d + 3) 92 [.int .i64 x, .int .i64 y, .int .i64 h] = some [.int .i64 x, .int .i64 y, .int .i64 h] := by
  unfold Program.keyLits; rw [Try.underlying92]; simp [cells_place, cells_cell, cells_int, lits_cell _ _ _ hx hy, lits_int _ _ hh]
theorem lits_spot (d : Nat) (x y h : Int) (hx : (Lit.int .i64 x).wf = true) (hy : (Lit.int .i64 y).wf = true) (hh : (Lit.int .i64 h).wf = true) : Try.prog.keyLits (d + 3) 97 [.int .i64 x, .int .i64 y, .int .i64 h] = some [.int .i64 x, .int .i64 y, .int .i64 h] := by
  unfold Program.keyLits; rw [Try.underlying97]; simp [cells_spot, cells_cell, cells_int, lits_cell _ _ _ hx hy, lits_int _ _ hh]
theorem key_place (x y h : Int) (hx : (Lit.int .i64 x).wf = true) (hy : (Lit.int .i64 y).wf = true) (hh : (Lit.int .i64 h).wf = true) : ∃ l, keyOf Try.prog 92 (.agg #[.int .i64 x, .int .i64 y, .int .i64 h]) = some l := by
  refine ⟨.string (keyBytes [.int .i64 x, .int .i64 y, .int .i64 h]), ?_⟩
  unfold keyOf
  rw [Try.underlying92, kt_place, tySize]
  have e := lits_place 196 x y h hx hy hh
  simp [Value.formed, Try.underlying92, cells_place, Value.cells, e]

theorem key_spot (x y h : Int) (hx : (Lit.int .i64 x).wf = true) (hy : (Lit.int .i64 y).wf = true) (hh : (Lit.int .i64 h).wf = true) : ∃ l, keyOf Try.prog 97 (.agg #[.int .i64 x, .int .i64 y, .int .i64 h]) = some l := by
  refine ⟨.string (keyBytes [.int .i64 x, .int .i64 y, .int .i64 h]), ?_⟩
  unfold keyOf
  rw [Try.underlying97, kt_spot, tySize]
  have e := lits_spot 196 x y h hx hy hh
  simp [Value.formed, Try.underlying97, cells_spot, Value.cells, e]

set_option maxRecDepth 10000 in
theorem lits_int_inv {d : Nat} {c : Value} {ls : List Lit} (h : Try.prog.keyLits (d + 1) 3 [c] = some ls) : ∃ x, c = .int .i64 x ∧ (Lit.int .i64 x).wf = true := by
  unfold Program.keyLits at h
  rw [Try.underlying3] at h
  cases c <;> simp at h
  obtain ⟨⟨rfl, hw⟩, _⟩ := h
  exact ⟨_, rfl, hw⟩
set_option maxRecDepth 10000 in
theorem lits_cell_inv {d : Nat} {a b : Value} {ls : List Lit} (h : Try.prog.keyLits (d + 2) 31 [a, b] = some ls) : ∃ x y, a = .int .i64 x ∧ b = .int .i64 y ∧ (Lit.int .i64 x).wf = true ∧ (Lit.int .i64 y).wf = true := by
  unfold Program.keyLits at h
  rw [Try.underlying31] at h
  simp [cells_cell, cells_int] at h
  cases h1 : Try.prog.keyLits (d + 1) 3 [a] with
  | none => simp [h1] at h
  | some l1 =>
    cases h2 : Try.prog.keyLits (d + 1) 3 [b] with
    | none => simp [h1, h2] at h
    | some l2 =>
      obtain ⟨x, rfl, hx⟩ := lits_int_inv h1
      obtain ⟨y, rfl, hy⟩ := lits_int_inv h2
      exact ⟨x, y, rfl, rfl, hx, hy⟩
set_option maxRecDepth 10000 in
theorem key_place_inv {key : Value} {l : Lit} (h : keyOf Try.prog 92 key = some l) : ∃ x y z : Int, key = .agg #[.int .i64 x, .int .i64 y, .int .i64 z] ∧ (Lit.int .i64 x).wf = true ∧ (Lit.int .i64 y).wf = true ∧ (Lit.int .i64 z).wf = true := by
  unfold keyOf at h
  rw [Try.underlying92, kt_place, tySize] at h
  cases key <;> simp [Value.formed, Try.underlying92, cells_place] at h
  rename_i cs
  obtain ⟨hs, ls, h, _⟩ := h
  obtain ⟨cs⟩ := cs
  match cs, hs with
  | [a, b, c], _ =>
    have e : Try.prog.keyLits (196 + 3) 92 [a, b, c] = some ls := h
    unfold Program.keyLits at e
    rw [Try.underlying92] at e
    simp [cells_place, cells_cell, cells_int] at e
    cases h1 : Try.prog.keyLits (196 + 2) 31 [a, b] with
    | none => simp [h1] at e
    | some l1 =>
      cases h2 : Try.prog.keyLits (197 + 1) 3 [c] with
      | none => simp [h1, h2] at e
      | some l2 =>
        obtain ⟨x, y, rfl, rfl, hx, hy⟩ := lits_cell_inv h1
        obtain ⟨z, rfl, hz⟩ := lits_int_inv h2
        exact ⟨x, y, z, rfl, hx, hy, hz⟩
set_option maxRecDepth 10000 in
theorem key_spot_inv {key : Value} {l : Lit} (h : keyOf Try.prog 97 key = some l) : ∃ x y z : Int, key = .agg #[.int .i64 x, .int .i64 y, .int .i64 z] ∧ (Lit.int .i64 x).wf = true ∧ (Lit.int .i64 y).wf = true ∧ (Lit.int .i64 z).wf = true := by
  unfold keyOf at h
  rw [Try.underlying97, kt_spot, tySize] at h
  cases key <;> simp [Value.formed, Try.underlying97, cells_spot] at h
  rename_i cs
  obtain ⟨hs, ls, h, _⟩ := h
  obtain ⟨cs⟩ := cs
  match cs, hs with
  | [a, b, c], _ =>
    have e : Try.prog.keyLits (196 + 3) 97 [a, b, c] = some ls := h
    unfold Program.keyLits at e
    rw [Try.underlying97] at e
    simp [cells_spot, cells_cell, cells_int] at e
    cases h1 : Try.prog.keyLits (196 + 2) 31 [a, b] with
    | none => simp [h1] at e
    | some l1 =>
      cases h2 : Try.prog.keyLits (197 + 1) 3 [c] with
      | none => simp [h1, h2] at e
      | some l2 =>
        obtain ⟨x, y, rfl, rfl, hx, hy⟩ := lits_cell_inv h1
        obtain ⟨z, rfl, hz⟩ := lits_int_inv h2
        exact ⟨x, y, z, rfl, hx, hy, hz⟩
end Go.Proofs.Ytjkpikhgknnbeaa
