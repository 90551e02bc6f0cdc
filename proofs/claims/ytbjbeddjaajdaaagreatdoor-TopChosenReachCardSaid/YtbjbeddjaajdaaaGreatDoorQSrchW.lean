/- Ways are searched: the beginning. -/
import Derived.Test.YtbjbeddjaajdaaaGreatDoorQG21
import Derived.Deep.RegionHeld3
namespace Go.Proofs.YtbjbeddjaajdaaaGreatDoor
open Go.RowKit Go.Maps

/-- The tree's block, while its rows are made. -/
def TreeIs (T bm fr : Nat) (ad : Int) (w : World) (c3 c4 c5 : Value) : Prop := w.heap[T]? = some (.cells #[.pointer (some ⟨bm, 0, none⟩), .int .i64 (fr : Int), .int .i64 ad, c3, c4, c5] 161 (0, 0))
section
variable {T bm fr : Nat} {ad : Int} {w w' : World} {c3 c4 c5 x : Value}
theorem TreeIs.lt (h : TreeIs T bm fr ad w c3 c4 c5) : T < w.heap.size := lt_of_heap h
theorem TreeIs.nx (h : TreeIs T bm fr ad w c3 c4 c5) (hn : Nx w w') : TreeIs T bm fr ad w' c3 c4 c5 := (hn.block T h.lt).trans h
theorem TreeIs.drew (h : TreeIs T bm fr ad w c3 c4 c5) : TreeIs T bm fr ad w.drew c3 c4 c5 := h
theorem TreeIs.alloc (h : TreeIs T bm fr ad w c3 c4 c5) (o : Obj) : TreeIs T bm fr ad (w.alloc o) c3 c4 c5 := h.nx ((Nx.refl w).alloc o)
theorem TreeIs.set3 (h : TreeIs T bm fr ad w c3 c4 c5) : TreeIs T bm fr ad (w.setCell ⟨T, 3, none⟩ x) x c4 c5 := heap_set h
theorem TreeIs.set4 (h : TreeIs T bm fr ad w c3 c4 c5) : TreeIs T bm fr ad (w.setCell ⟨T, 4, none⟩ x) c3 x c5 := heap_set h
theorem TreeIs.set5 (h : TreeIs T bm fr ad w c3 c4 c5) : TreeIs T bm fr ad (w.setCell ⟨T, 5, none⟩ x) c3 c4 x := heap_set h
end
/-- .. whatever its first two rows are. -/
def TreeE (T bm fr : Nat) (ad : Int) (w : World) : Prop := ∃ c3 c4, TreeIs T bm fr ad w c3 c4 (.slice none 0 0)
section
variable {T bm fr : Nat} {ad : Int} {w w' : World} {x : Value}
theorem TreeE.nx (h : TreeE T bm fr ad w) (hn : Nx w w') : TreeE T bm fr ad w' := by obtain ⟨a, b, h⟩ := h; exact ⟨a, b, h.nx hn⟩
theorem TreeE.drew (h : TreeE T bm fr ad w) : TreeE T bm fr ad w.drew := h
theorem TreeE.alloc (h : TreeE T bm fr ad w) (o : Obj) : TreeE T bm fr ad (w.alloc o) := h.nx ((Nx.refl w).alloc o)
theorem TreeE.set3 (h : TreeE T bm fr ad w) : TreeE T bm fr ad (w.setCell ⟨T, 3, none⟩ x) := by obtain ⟨a, b, h⟩ := h; exact ⟨_, b, h.set3⟩
theorem TreeE.set4 (h : TreeE T bm fr ad w) : TreeE T bm fr ad (w.setCell ⟨T, 4, none⟩ x) := by obtain ⟨a, b, h⟩ := h; exact ⟨a, _, h.set4⟩
end
theorem TreeIs.fro {T bm fr : Nat} {ad : Int} {w : World} {c3 c4 c5 : Value} (h : TreeIs T bm fr ad w c3 c4 c5) (j : Nat) : w.frozen? ⟨T, j, none⟩ = false := frozen_blkQ h
theorem TreeIs.cell3 {T bm fr : Nat} {ad : Int} {w : World} {c3 c4 c5 : Value} (h : TreeIs T bm fr ad w c3 c4 c5) : w.cell? ⟨T, 3, none⟩ = some c3 := (cell_of_row w _ 3 _ _ _ h).trans rfl
theorem TreeIs.cell4 {T bm fr : Nat} {ad : Int} {w : World} {c3 c4 c5 : Value} (h : TreeIs T bm fr ad w c3 c4 c5) : w.cell? ⟨T, 4, none⟩ = some c4 := (cell_of_row w _ 4 _ _ _ h).trans rfl
theorem TreeIs.cell5 {T bm fr : Nat} {ad : Int} {w : World} {c3 c4 c5 : Value} (h : TreeIs T bm fr ad w c3 c4 c5) : w.cell? ⟨T, 5, none⟩ = some c5 := (cell_of_row w _ 5 _ _ _ h).trans rfl
/-- A block, behind what is done to others. -/
def RowAt (w : World) (g : Nat) (o : Obj) : Prop := w.heap[g]? = some o
section
variable {w w' : World} {g : Nat} {o : Obj}
theorem RowAt.nx (h : RowAt w g o) (hn : Nx w w') : RowAt w' g o := (hn.block g (lt_of_heap h)).trans h
theorem RowAt.drew (h : RowAt w g o) : RowAt w.drew g o := h
theorem RowAt.alloc (h : RowAt w g o) (x : Obj) : RowAt (w.alloc x) g o := h.nx ((Nx.refl w).alloc x)
theorem RowAt.set {p : Addr} (h : RowAt w g o) (u : Value) (hne : g ≠ p.block) : RowAt (w.setCell p u) g o := (Below.heap_setCell w p u g hne).trans h
theorem RowAt.new' {w : World} {g : Nat} {x : Obj} (h : g = w.heap.size) : RowAt (w.alloc x) g x := hnew h
theorem RowAt.new (w : World) (x : Obj) : RowAt (w.alloc x) w.heap.size x := hnew rfl
end
theorem Gr.chain {s i : Nat} {a w : World} (h : Gr s a w) (u : Value) : Gr s a (w.setCell ⟨s, i, none⟩ u) := h.setS (.inl rfl) u
theorem run_make_boolsR (n : Nat) (hn : n ≤ 100000) (w : World) : (Instr.makeSlice 154 (.int .i64 (n : Int)) (.int .i64 (n : Int))).run Tryz.prog w = .ok (.slice (some ⟨w.heap.size, 0, none⟩) n n) (w.alloc (boolRow (List.replicate n false))) := by
  obtain ⟨i, h1, h2, h3, h4⟩ := info_parts (show (Tryz.prog.info? 4).map (fun i => (i.zero, i.size, i.bytes)) = some (some (.bool false), 1, 1) by kernel_rfl)
  have h := run_make (P := Tryz.prog) w 154 4 i (.bool false) Tryz.underlying154 h1 h2 .i64 .i64 (n : Int) (n : Int) (by omega) (by omega) (by rw [h4]; omega) (by omega)
  rw [h]
  have e : madeCells #[.bool false] n = ((List.replicate n false).map Value.bool).toArray := by
    apply Array.ext'
    rw [toList_madeCells_one]
    simp
  simp [h3, Value.cells, e, boolRow]
/-- What slices.Repeat gives of [-1]. -/
def RepOk (n : Nat) (R : Obj) : Prop := ∀ (gl : Nat) (W : World), RowAt W gl (.cells #[.int .i64 (-1)] 3 (0, 0)) → Calls Tryz.prog 140 #[.slice (some ⟨gl, 0, none⟩) 1 1, .int .i64 (n : Int)] W fun e w' => ∃ g, e = .returned (.slice (some ⟨g, 0, none⟩) n n) ∧ W.heap.size ≤ g ∧ g < w'.heap.size ∧ RowAt w' g R ∧ Nx W w'
theorem repOk (n : Nat) (hn : n ≤ 1000) : RepOk n (intRow (List.replicate n (-1))) := fun gl W h => (w_RepeatC (-1) n gl W hn h).mono (by
  rintro e w' ⟨g, rfl, rfl, h1, h2⟩
  exact ⟨_, rfl, Nat.le_refl _, lt_of_heap h1, h1, h2⟩)
end Go.Proofs.YtbjbeddjaajdaaaGreatDoor
