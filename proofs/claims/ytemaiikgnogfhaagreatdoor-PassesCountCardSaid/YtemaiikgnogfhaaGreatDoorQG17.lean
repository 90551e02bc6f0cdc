/- A drawn statement over a stream and a price's cells: what the world holds, and each operation's step. -/
import Derived.Test.YtemaiikgnogfhaaGreatDoorQG11
import Derived.Test.YtemaiikgnogfhaaGreatDoorQG0
import Derived.Test.YtemaiikgnogfhaaGreatDoorQFullA
import Derived.RegionTactic
import Derived.Test.YtemaiikgnogfhaaGreatDoorQG4
import Derived.Test.YtemaiikgnogfhaaGreatDoorQShelfT
import Derived.Test.YtemaiikgnogfhaaGreatDoorQG1
import Derived.Deep.DeepCutAuto
import Derived.Deep.Onto
import Derived.Deep.AppendLies
import Derived.Test.YtemaiikgnogfhaaGreatDoorQJouF
import Derived.Test.YtemaiikgnogfhaaGreatDoorQZoneF
import Derived.Below
import Derived.WalkKit
namespace Go.Proofs.YtemaiikgnogfhaaGreatDoor
open Go.RowKit

section
variable {P : Program} {ops : Array Oper} {Q : Exit → Act → World → Prop}
/-- The frame behind a drawn statement: the old one, with what was written. -/
theorem known_frame {W : Nat → World → Prop} {Sh : Nat → Value → World → Prop} {a0 a : Act} {listed : Array Bool} {w : World} (h : Known ops W Sh a0 listed a w) (_ : dstsB ops a0.tmps.size = true) :
    ∃ f : Tmp → Value, a = ⟨(dstsOf ops).foldl (fun t d => t.setIfInBounds d (f d)) a0.tmps, a0.defers⟩ := by
  refine ⟨fun d => a.tmps.getD d undef, ?_⟩
  obtain ⟨ts, df⟩ := a
  have hs := h.frame.1
  have hd := h.frame.2
  simp only at hs hd
  subst hd
  congr 1
  have gen : ∀ (l : List Tmp) (t0 : Array Value), t0.size = ts.size → (∀ t, t ∉ l → ts.getD t undef = t0.getD t undef) → ts = l.foldl (fun t d => t.setIfInBounds d (ts.getD d undef)) t0 := by
    intro l
    induction l with
    | nil =>
      intro t0 h1 h2
      apply Array.ext
      · exact h1.symm
      · intro i hi hj
        have := h2 i (by simp)
        have hj' : i < t0.size := by simpa using hj
        simp [Array.getD, hi, hj'] at this
        exact this
    | cons d l ih =>
      intro t0 h1 h2
      refine ih _ (by simpa using h1) (fun t ht => ?_)
      by_cases e : t = d
      · subst e
        by_cases hb : t < t0.size
        · simp [Array.getD, hb]
        · have hb2 : ¬ t < ts.size := by rw [← h1]; exact hb
          simp [Array.getD, hb, hb2]
      · rw [h2 t (by simp [e, ht])]
        simp [Array.getElem?_setIfInBounds_ne (fun e2 : d = t => e e2.symm)]
  exact gen _ _ hs.symm (fun t ht => h.old t ht)
end

/-- A price with no giants. -/
def okP (x : Price) : Prop := x.key.size ≤ 1000 ∧ ∀ z ∈ [x.base, x.metre, x.minute, x.cross, x.from_, x.to_, x.peak, x.least, x.most], -1000000000000000 ≤ z ∧ z ≤ 1000000000000000
/-- What is known of a price's cells from off on in block b. -/
structure PrBox (b off : Nat) (B : World → Prop) : Prop where
  get : ∀ w, B w → ∃ x : Price, okP x ∧ ∀ j u, (encP x)[j]? = some u → w.cell? ⟨b, off + j, none⟩ = some u
  frz : ∀ w j, B w → w.frozen? ⟨b, j, none⟩ = false
  lt : ∀ w, B w → b < w.heap.size
  setS : ∀ w j (t : ByteArray), B w → (j = 0) → t.size ≤ 1000 → B (w.setCell ⟨b, off + j, none⟩ (.string t))
  setI : ∀ w j (z : Int), B w → (1 ≤ j ∧ j ≤ 9) → -1000000000000000 ≤ z ∧ z ≤ 1000000000000000 → B (w.setCell ⟨b, off + j, none⟩ (.int .i64 z))
  same : ∀ w w', B w → w'.heap[b]? = w.heap[b]? → w.heap.size ≤ w'.heap.size → B w'
def ShT (v : Value) (_w : World) : Prop := ∃ t : ByteArray, v = .string t ∧ t.size ≤ 1000
def ShZ (v : Value) (_w : World) : Prop := ∃ z : Int, v = .int .i64 z ∧ -1000000000000000 ≤ z ∧ z ≤ 1000000000000000
/-- A literal of n small strings in a block of its own. -/
def ShLT (s b n : Nat) (v : Value) (w : World) : Prop :=
  ∃ (g : Nat) (zs : List ByteArray), v = .slice (some ⟨g, 0, none⟩) n n ∧ zs.length = n ∧ (∀ z ∈ zs, z.size ≤ 1000) ∧ g ≠ s ∧ g ≠ b ∧ w.heap[g]? = some (.cells (zs.map Value.string).toArray 9 (0, 0))
def ShLZ (s b n : Nat) (v : Value) (w : World) : Prop :=
  ∃ (g : Nat) (zs : List Int), v = .slice (some ⟨g, 0, none⟩) n n ∧ zs.length = n ∧ (∀ z ∈ zs, -1000000000000000 ≤ z ∧ z ≤ 1000000000000000) ∧ g ≠ s ∧ g ≠ b ∧ w.heap[g]? = some (.cells (zs.map (Value.int .i64)).toArray 3 (0, 0))
theorem ShLT.keep {s b n : Nat} {v : Value} {w w' : World} (h : ShLT s b n v w) (k : Two s b w w') : ShLT s b n v w' := by
  obtain ⟨g, zs, h1, h2, h3, h4, h5, h6⟩ := h
  exact ⟨g, zs, h1, h2, h3, h4, h5, (k.2.2.2.2 g (Array.getElem?_eq_some_iff.1 h6).1 h4 h5).trans h6⟩
theorem ShLZ.keep {s b n : Nat} {v : Value} {w w' : World} (h : ShLZ s b n v w) (k : Two s b w w') : ShLZ s b n v w' := by
  obtain ⟨g, zs, h1, h2, h3, h4, h5, h6⟩ := h
  exact ⟨g, zs, h1, h2, h3, h4, h5, (k.2.2.2.2 g (Array.getElem?_eq_some_iff.1 h6).1 h4 h5).trans h6⟩
/-- What the world holds when m operations have come up. -/
structure TyW (s b k : Nat) (B : World → Prop) (w0 : World) (m : Nat) (w : World) : Prop where
  two : Two s b w0 w
  str : Str w s (k + 2 * m)
  box : B w
theorem Two.alloc {s b : Nat} (w : World) (o : Obj) : Two s b w (w.alloc o) := Two.of_gr ((Gr.refl s w).alloc o)
theorem Two.set {s b j : Nat} {w : World} (u : Value) : Two s b w (w.setCell ⟨b, j, none⟩ u) := by
  have h := (Gr.refl b w).setS (p := ⟨b, j, none⟩) (.inl rfl) u
  exact ⟨h.os, h.tape, h.output, h.sz, fun i hi _ hb => h.block i hi (by intro e; injection e with e; exact hb e)⟩
section
variable {s b off k m : Nat} {B : World → Prop} {w0 w : World}
theorem TyW.pass (h : TyW s b k B w0 m w) : TyW s b k B w0 (m + 1) w := ⟨h.two, h.str.more (by omega), h.box⟩
theorem TyW.alloc (h : TyW s b k B w0 m w) (E : PrBox b off B) (o : Obj) : TyW s b k B w0 (m + 1) (w.alloc o) :=
  ⟨h.two.trans (Two.alloc w o), (h.str.nx ((Nx.refl w).alloc o)).more (by omega), E.same _ _ h.box (((Nx.refl w).alloc o).block b (E.lt _ h.box)) ((Nx.refl w).alloc o).sz⟩
theorem TyW.gr (h : TyW s b k B w0 m w) (E : PrBox b off B) (hb : b ≠ s) {w' : World} (hg : Gr s w w') (hS : Str w' s (k + 2 * (m + 1))) : TyW s b k B w0 (m + 1) w' :=
  ⟨h.two.trans (Two.of_gr hg), hS, E.same _ _ h.box (hg.block b (E.lt _ h.box) (by intro e; injection e with e; exact hb e)) hg.sz⟩
theorem TyW.setS (h : TyW s b k B w0 m w) (E : PrBox b off B) (hb : s < b) {j : Nat} {t : ByteArray} (hj : j = 0) (ht : t.size ≤ 1000) : TyW s b k B w0 (m + 1) (w.setCell ⟨b, off + j, none⟩ (.string t)) :=
  ⟨h.two.trans (Two.set _), (h.str.row (row := some b) ((Gr.refl b w).setS (p := ⟨b, off + j, none⟩) (.inl rfl) _) (fun j h => by injection h with h; omega)).more (by omega), E.setS _ _ _ h.box hj ht⟩
theorem TyW.setI (h : TyW s b k B w0 m w) (E : PrBox b off B) (hb : s < b) {j : Nat} {z : Int} (hj : 1 ≤ j ∧ j ≤ 9) (hz : -1000000000000000 ≤ z ∧ z ≤ 1000000000000000) : TyW s b k B w0 (m + 1) (w.setCell ⟨b, off + j, none⟩ (.int .i64 z)) :=
  ⟨h.two.trans (Two.set _), (h.str.row (row := some b) ((Gr.refl b w).setS (p := ⟨b, off + j, none⟩) (.inl rfl) _) (fun j h => by injection h with h; omega)).more (by omega), E.setI _ _ _ h.box hj hz⟩
end
section
variable {ops : Array Oper} {Q : Exit → Act → World → Prop} {i : Nat} {o : Oper} {a : Act} {w : World} {K : Act → World → Prop}
theorem ty_some (hi : ops[i]? = some o) (hg : o.guard = none) {x y : Operand} {ts : Array TypeId} {s b n k : Nat} (hop : o.op = .call { callee := .value (.func 27), args := #[x, y], argTypes := ts })
    (hx : ShPtr s 0 (a.eval x) w) (hy : ShLT s b n (a.eval y) w) (hn : 0 < n ∧ n < 1000) (hS : Str w s k) (hk : k < 1000000)
    (hK : ∀ (t : ByteArray) (w' : World), t.size ≤ 1000 → Gr s w w' → Str w' s (k + 1) → K (a.put o.dst (.string t)) w') : wpOp Tryz.prog ops Q i K a w := by
  obtain ⟨g, zs, h1, h2, h3, h4, h5, h6⟩ := hy
  have hc := w_Some g zs _ s k w hS hk h6 h4 (by simp) (by intro e; rw [e] at h2; simp at h2; omega) (by omega)
  rw [h2] at hc
  have hr := run_call (a := a) (w := w) hop (enters_of Tryz.func27 (by kernel_rfl) rfl)
  unfold ShPtr at hx
  have e : (#[x, y] : Array Operand).map a.eval = #[.pointer (some ⟨s, 0, none⟩), .slice (some ⟨g, 0, none⟩) n n] := by simp [hx, h1]
  rw [e] at hr
  refine wpOp_call hi hg hr hc ?_
  rintro e w' ⟨t, ht, rfl, hgr, hS'⟩
  exact ⟨_, rfl, hK t w' (h3 t ht) hgr hS'⟩
theorem ty_pick (hi : ops[i]? = some o) (hg : o.guard = none) {x y : Operand} {ts : Array TypeId} {s b n k : Nat} (hop : o.op = .call { callee := .value (.func 9), args := #[x, y], argTypes := ts })
    (hx : ShPtr s 0 (a.eval x) w) (hy : ShLZ s b n (a.eval y) w) (hn : 0 < n ∧ n < 1000) (hS : Str w s k) (hk : k < 1000000)
    (hK : ∀ (z : Int) (w' : World), (-1000000000000000 ≤ z ∧ z ≤ 1000000000000000) → Gr s w w' → Str w' s (k + 1) → K (a.put o.dst (.int .i64 z)) w') : wpOp Tryz.prog ops Q i K a w := by
  obtain ⟨g, zs, h1, h2, h3, h4, h5, h6⟩ := hy
  have hc := w_PickI g zs _ s k w hS hk h6 h4 (by simp) (by intro e; rw [e] at h2; simp at h2; omega) (by omega)
  rw [h2] at hc
  have hr := run_call (a := a) (w := w) hop (enters_of Tryz.func9 (by kernel_rfl) rfl)
  unfold ShPtr at hx
  have e : (#[x, y] : Array Operand).map a.eval = #[.pointer (some ⟨s, 0, none⟩), .slice (some ⟨g, 0, none⟩) n n] := by simp [hx, h1]
  rw [e] at hr
  refine wpOp_call hi hg hr hc ?_
  rintro e w' ⟨t, ht, rfl, hgr, hS'⟩
  exact ⟨_, rfl, hK t w' (h3 t ht) hgr hS'⟩
theorem ty_odd (hi : ops[i]? = some o) (hg : o.guard = none) {x : Operand} {l h : Int} {ts : Array TypeId} {s k : Nat} (hop : o.op = .call { callee := .value (.func 29), args := #[x, .const (.int .i64 l), .const (.int .i64 h)], argTypes := ts })
    (hx : ShPtr s 0 (a.eval x) w) (hl : -4294967296 ≤ l ∧ l ≤ h ∧ h < 4294967296) (hn : h - l < 4294967296) (hS : Str w s k) (hk : k < 900000)
    (hK : ∀ (z : Int) (w' : World), (-1000000000000000 ≤ z ∧ z ≤ 1000000000000000) → Gr s w w' → Str w' s (k + 2) → K (a.put o.dst (.int .i64 z)) w') : wpOp Tryz.prog ops Q i K a w := by
  have hc := w_Odd l h s k w hS hk hl hn
  have hr := run_call (a := a) (w := w) hop (enters_of Tryz.func29 (by kernel_rfl) rfl)
  unfold ShPtr at hx
  have e : (#[x, .const (.int .i64 l), .const (.int .i64 h)] : Array Operand).map a.eval = #[.pointer (some ⟨s, 0, none⟩), .int .i64 l, .int .i64 h] := by simp only [List.map_toArray, List.map_cons, List.map_nil, hx]; rfl
  rw [e] at hr
  refine wpOp_call hi hg hr hc ?_
  rintro e w' ⟨z, hz1, hz2, rfl, hgr, hS'⟩
  exact ⟨_, rfl, hK z w' ⟨by omega, by omega⟩ hgr hS'⟩
end
end Go.Proofs.YtemaiikgnogfhaaGreatDoor
/- A drawn statement over a stream and a trip's cells. -/
namespace Go.Proofs.YtemaiikgnogfhaaGreatDoor
open Go.RowKit

/-- A trip with no giants. -/
structure okJ (x : Jour) : Prop where
  ride : x.ride.size ≤ 1000
  rider : x.rider.size ≤ 1000
  metres : -1000000000000000 ≤ x.metres ∧ x.metres ≤ 1000000000000000
  from_ : -100000000000000 ≤ x.from_ ∧ x.from_ ≤ 100000000000000
  to_ : -1000000000000000 ≤ x.to_ ∧ x.to_ ≤ 1000000000000000
/-- What is known of a trip's cells from off on in block b. -/
structure JoBox (b off : Nat) (B : World → Prop) : Prop where
  get : ∀ w, B w → ∃ x : Jour, okJ x ∧ ∀ j u, (encJ x)[j]? = some u → w.cell? ⟨b, off + j, none⟩ = some u
  frz : ∀ w j, B w → w.frozen? ⟨b, j, none⟩ = false
  lt : ∀ w, B w → b < w.heap.size
  setS : ∀ w j (t : ByteArray), B w → (j = 0 ∨ j = 1) → t.size ≤ 1000 → B (w.setCell ⟨b, off + j, none⟩ (.string t))
  setI : ∀ w j (z : Int), B w → (j = 3 ∨ j = 5) → -1000000000000000 ≤ z ∧ z ≤ 1000000000000000 → B (w.setCell ⟨b, off + j, none⟩ (.int .i64 z))
  same : ∀ w w', B w → w'.heap[b]? = w.heap[b]? → w.heap.size ≤ w'.heap.size → B w'
def ShY (v : Value) (_w : World) : Prop := ∃ z : Int, v = .int .i64 z ∧ -100000000000000 ≤ z ∧ z ≤ 100000000000000
section
variable {s b off k m : Nat} {B : World → Prop} {w0 w : World}
theorem TyW.allocJ (h : TyW s b k B w0 m w) (E : JoBox b off B) (o : Obj) : TyW s b k B w0 (m + 1) (w.alloc o) :=
  ⟨h.two.trans (Two.alloc w o), (h.str.nx ((Nx.refl w).alloc o)).more (by omega), E.same _ _ h.box (((Nx.refl w).alloc o).block b (E.lt _ h.box)) ((Nx.refl w).alloc o).sz⟩
theorem TyW.grJ (h : TyW s b k B w0 m w) (E : JoBox b off B) (hb : b ≠ s) {w' : World} (hg : Gr s w w') (hS : Str w' s (k + 2 * (m + 1))) : TyW s b k B w0 (m + 1) w' :=
  ⟨h.two.trans (Two.of_gr hg), hS, E.same _ _ h.box (hg.block b (E.lt _ h.box) (by intro e; injection e with e; exact hb e)) hg.sz⟩
theorem TyW.setSJ (h : TyW s b k B w0 m w) (E : JoBox b off B) (hb : s < b) {j : Nat} {t : ByteArray} (hj : j = 0 ∨ j = 1) (ht : t.size ≤ 1000) : TyW s b k B w0 (m + 1) (w.setCell ⟨b, off + j, none⟩ (.string t)) :=
  ⟨h.two.trans (Two.set _), (h.str.row (row := some b) ((Gr.refl b w).setS (p := ⟨b, off + j, none⟩) (.inl rfl) _) (fun j h => by injection h with h; omega)).more (by omega), E.setS _ _ _ h.box hj ht⟩
theorem TyW.setIJ (h : TyW s b k B w0 m w) (E : JoBox b off B) (hb : s < b) {j : Nat} {z : Int} (hj : j = 3 ∨ j = 5) (hz : -1000000000000000 ≤ z ∧ z ≤ 1000000000000000) : TyW s b k B w0 (m + 1) (w.setCell ⟨b, off + j, none⟩ (.int .i64 z)) :=
  ⟨h.two.trans (Two.set _), (h.str.row (row := some b) ((Gr.refl b w).setS (p := ⟨b, off + j, none⟩) (.inl rfl) _) (fun j h => by injection h with h; omega)).more (by omega), E.setI _ _ _ h.box hj hz⟩
end
end Go.Proofs.YtemaiikgnogfhaaGreatDoor
/- The drawn statements of the stream's price. -/
namespace Go.Proofs.YtemaiikgnogfhaaGreatDoor
open Go.RowKit

/-- Region r, wherever it stands. -/
def findReg (r : Nat) : Code → Option Code
  | .region n o b => bif Nat.beq n r then some (.region n o b) else none
  | .seq a b => match findReg r a with | some c => some c | none => findReg r b
  | .cond _ a b => match findReg r a with | some c => some c | none => findReg r b
  | .scope c => findReg r c
  | .block _ c => findReg r c
  | .loop c => findReg r c
  | _ => none
noncomputable def ty_p3C : Code := (findReg 3 (Tryz.f5.body.getD .skip)).getD .skip
def ty_p3Sh (s b off : Nat) : Nat → Value → World → Prop
  | 0, v, w => ShPtr s 0 v w
  | 1, v, w => ShT v w
  | 2, v, w => ShLT s b 2 v w
  | 3, v, w => ShT v w
  | 4, v, w => ShPtr s 0 v w
  | 5, v, w => ShZ v w
  | 6, v, w => ShPtr s 0 v w
  | 7, v, w => ShLZ s b 3 v w
  | 8, v, w => ShZ v w
  | 9, v, w => ShPtr s 0 v w
  | 10, v, w => ShZ v w
  | 11, v, w => ShPtr s 0 v w
  | 12, v, w => ShPtr b (off + 9) v w
  | 13, v, w => ShZ v w
  | 14, v, w => ShLZ s b 2 v w
  | 15, v, w => ShZ v w
  | 16, v, w => ShPtr b off v w
  | 17, _, _ => True
  | 18, v, w => ShPtr b (off + 1) v w
  | 19, _, _ => True
  | 20, v, w => ShPtr b (off + 6) v w
  | 21, _, _ => True
  | 22, v, w => ShPtr b (off + 7) v w
  | 23, _, _ => True
  | 24, v, w => ShPtr b (off + 9) v w
  | 25, _, _ => True
  | _, _, _ => True
def ty_p3D : List Tmp := [37, 38, 39, 40, 41, 42, 43, 44, 45, 46, 47, 48, 49, 50, 51, 52, 53, 54, 55, 56, 57]
set_option maxRecDepth 100000 in
set_option maxHeartbeats 2000000 in
theorem ty_p3 {Q : Exit → Act → World → Prop} {a0 : Act} {w0 w : World} {s b off k : Nat} {B : World → Prop} (E : PrBox b off B) (hsb : s < b) (hk : k < 800000) (hsz : a0.tmps.size = 59) (g0 : a0.tmps.getD 0 undef = .pointer (some ⟨s, 0, none⟩)) (g5 : a0.tmps.getD 5 undef = .pointer (some ⟨b, off, none⟩)) (g1 : ∀ w, ShT (a0.tmps.getD 1 undef) w) (hW : TyW s b k B w0 0 w)
    (hend : ∀ (f : Tmp → Value) (w' : World), TyW s b k B w0 26 w' → Q .normal ⟨ty_p3D.foldl (fun t d => t.setIfInBounds d (f d)) a0.tmps, a0.defers⟩ w') : Code.wp Tryz.prog ty_p3C Q a0 w := by
  conv => arg 2; whnf
  refine wp_region_known (by kernel_rfl) (TyW s b k B w0) (ty_p3Sh s b off) (Two s b) a0 (by rw [hsz]; kernel_rfl) (by kernel_rfl) ?_ ?_ ?_ ⟨hW.two.trans (Two.of_gr ((Gr.refl s w).drew)), hW.str.nx (Nx.refl w).drew, E.same _ _ hW.box rfl (Nat.le_refl _)⟩
  · intro i v w w' h hkp
    match i, h with
    | 0, h => exact h
    | 1, h => exact h
    | 2, h => exact ShLT.keep h hkp
    | 3, h => exact h
    | 4, h => exact h
    | 5, h => exact h
    | 6, h => exact h
    | 7, h => exact ShLZ.keep h hkp
    | 8, h => exact h
    | 9, h => exact h
    | 10, h => exact h
    | 11, h => exact h
    | 12, h => exact h
    | 13, h => exact h
    | 14, h => exact ShLZ.keep h hkp
    | 15, h => exact h
    | 16, h => exact h
    | 17, h => exact h
    | 18, h => exact h
    | 19, h => exact h
    | 20, h => exact h
    | 21, h => exact h
    | 22, h => exact h
    | 23, h => exact h
    | 24, h => exact h
    | 25, h => exact h
    | _ + 26, _ => trivial
  · intro i o ho m a w hm hM hold hdep
    have hm : m < 26 := hm
    match i, ho with
    | 0, ho =>
      obtain rfl := Option.some.inj ho
      have e1 := (hold 0 (by decide)).trans g0
      exact wpOp_val (v := a.tmps.getD 0 undef) rfl rfl (by unfold execOp; go_simp) ⟨_, rfl, hM.pass, Two.refl _ _ _, fun _ _ => e1⟩
    | 1, ho =>
      obtain rfl := Option.some.inj ho
      have e1 : ShT (a.tmps.getD 1 undef) w := by rw [hold 1 (by decide)]; exact g1 w
      exact wpOp_val (v := a.tmps.getD 1 undef) rfl rfl (by unfold execOp; go_simp) ⟨_, rfl, hM.pass, Two.refl _ _ _, fun _ _ => e1⟩
    | 2, ho =>
      obtain rfl := Option.some.inj ho
      have e1 := hdep 1 _ 38 rfl ⟨_, Array.mem_of_getElem? (i := 0) rfl, rfl, rfl⟩ rfl
      obtain ⟨z1, f1, hz1⟩ := e1
      have f1 : a.eval (.tmp 38) = .string z1 := f1
      have f1b : a.tmps[38]?.getD undef = .string z1 := by rw [← Array.getD_eq_getD_getElem?]; exact f1
      have hb := E.lt w hM.box
      have hs := hM.str.lt
      refine wpOp_val (w' := w.alloc (.cells #[.string z1, .string ⟨#[]⟩] 9 (0, 0))) (v := .slice (some ⟨w.heap.size, 0, none⟩) 2 2) rfl rfl (by unfold execOp; simp only; go_simp) ⟨_, rfl, hM.alloc E _, Two.alloc _ _, fun _ _ => ⟨w.heap.size, [z1, ⟨#[]⟩], rfl, rfl, ?_, by omega, by omega, heap_alloc_new w _⟩⟩
      intro z hz
      simp only [List.mem_cons, List.not_mem_nil, or_false] at hz
      rcases hz with rfl | rfl
      all_goals first | assumption | decide
    | 3, ho =>
      obtain rfl := Option.some.inj ho
      have e1 := hdep 0 _ 37 rfl ⟨_, Array.mem_of_getElem? (i := 0) rfl, rfl, rfl⟩ rfl
      have e2 := hdep 2 _ 39 rfl ⟨_, Array.mem_of_getElem? (i := 1) rfl, rfl, rfl⟩ rfl
      refine ty_some rfl rfl rfl e1 e2 (by decide) hM.str (by omega) ?_
      intro t w' ht hg hS
      exact ⟨_, rfl, hM.gr E (by omega) hg (hS.more (by omega)), Two.of_gr hg, fun _ _ => ⟨_, rfl, ht⟩⟩
    | 4, ho =>
      obtain rfl := Option.some.inj ho
      have e1 := (hold 0 (by decide)).trans g0
      exact wpOp_val (v := a.tmps.getD 0 undef) rfl rfl (by unfold execOp; go_simp) ⟨_, rfl, hM.pass, Two.refl _ _ _, fun _ _ => e1⟩
    | 5, ho =>
      obtain rfl := Option.some.inj ho
      have e1 := hdep 4 _ 41 rfl ⟨_, Array.mem_of_getElem? (i := 0) rfl, rfl, rfl⟩ rfl
      refine ty_odd rfl rfl rfl e1 (by decide) (by decide) hM.str (by omega) ?_
      intro t w' ht hg hS
      exact ⟨_, rfl, hM.gr E (by omega) hg (hS.more (by omega)), Two.of_gr hg, fun _ _ => ⟨_, rfl, ht⟩⟩
    | 6, ho =>
      obtain rfl := Option.some.inj ho
      have e1 := (hold 0 (by decide)).trans g0
      exact wpOp_val (v := a.tmps.getD 0 undef) rfl rfl (by unfold execOp; go_simp) ⟨_, rfl, hM.pass, Two.refl _ _ _, fun _ _ => e1⟩
    | 7, ho =>
      obtain rfl := Option.some.inj ho
      have hb := E.lt w hM.box
      have hs := hM.str.lt
      refine wpOp_val (w' := w.alloc (.cells #[.int .i64 (24), .int .i64 (25), .int .i64 (3)] 3 (0, 0))) (v := .slice (some ⟨w.heap.size, 0, none⟩) 3 3) rfl rfl (by unfold execOp; go_simp) ⟨_, rfl, hM.alloc E _, Two.alloc _ _, fun _ _ => ⟨w.heap.size, [(24), (25), (3)], rfl, rfl, ?_, by omega, by omega, heap_alloc_new w _⟩⟩
      intro z hz
      simp only [List.mem_cons, List.not_mem_nil, or_false] at hz
      rcases hz with rfl | rfl | rfl
      all_goals first | assumption | decide
    | 8, ho =>
      obtain rfl := Option.some.inj ho
      have e1 := hdep 6 _ 43 rfl ⟨_, Array.mem_of_getElem? (i := 0) rfl, rfl, rfl⟩ rfl
      have e2 := hdep 7 _ 44 rfl ⟨_, Array.mem_of_getElem? (i := 1) rfl, rfl, rfl⟩ rfl
      refine ty_pick rfl rfl rfl e1 e2 (by decide) hM.str (by omega) ?_
      intro t w' ht hg hS
      exact ⟨_, rfl, hM.gr E (by omega) hg (hS.more (by omega)), Two.of_gr hg, fun _ _ => ⟨_, rfl, ht⟩⟩
    | 9, ho =>
      obtain rfl := Option.some.inj ho
      have e1 := (hold 0 (by decide)).trans g0
      exact wpOp_val (v := a.tmps.getD 0 undef) rfl rfl (by unfold execOp; go_simp) ⟨_, rfl, hM.pass, Two.refl _ _ _, fun _ _ => e1⟩
    | 10, ho =>
      obtain rfl := Option.some.inj ho
      have e1 := hdep 9 _ 46 rfl ⟨_, Array.mem_of_getElem? (i := 0) rfl, rfl, rfl⟩ rfl
      refine ty_odd rfl rfl rfl e1 (by decide) (by decide) hM.str (by omega) ?_
      intro t w' ht hg hS
      exact ⟨_, rfl, hM.gr E (by omega) hg (hS.more (by omega)), Two.of_gr hg, fun _ _ => ⟨_, rfl, ht⟩⟩
    | 11, ho =>
      obtain rfl := Option.some.inj ho
      have e1 := (hold 0 (by decide)).trans g0
      exact wpOp_val (v := a.tmps.getD 0 undef) rfl rfl (by unfold execOp; go_simp) ⟨_, rfl, hM.pass, Two.refl _ _ _, fun _ _ => e1⟩
    | 12, ho =>
      obtain rfl := Option.some.inj ho
      have e1 := (hold 5 (by decide)).trans g5
      have e2 : a.eval (.tmp 5) = .pointer (some ⟨b, off, none⟩) := e1
      have e2b : a.tmps[5]?.getD undef = .pointer (some ⟨b, off, none⟩) := by rw [← Array.getD_eq_getD_getElem?]; exact e2
      exact wpOp_val (v := .pointer (some ⟨b, off + 9, none⟩)) rfl rfl (by unfold execOp; simp only; go_simp) ⟨_, rfl, hM.pass, Two.refl _ _ _, fun _ _ => rfl⟩
    | 13, ho =>
      obtain rfl := Option.some.inj ho
      have e1 := hdep 12 _ 49 rfl ⟨_, Array.mem_of_getElem? (i := 0) rfl, rfl, rfl⟩ rfl
      have e2 : a.eval (.tmp 49) = .pointer (some ⟨b, off + 9, none⟩) := e1
      have e2b : a.tmps[49]?.getD undef = .pointer (some ⟨b, off + 9, none⟩) := by rw [← Array.getD_eq_getD_getElem?]; exact e2
      obtain ⟨x, hok, hc⟩ := E.get w hM.box
      have c0 : w.cell? ⟨b, off + 9, none⟩ = some _ := hc 9 _ rfl
      exact wpOp_val (v := .int .i64 x.most) rfl rfl (by unfold execOp; simp only; go_simp) ⟨_, rfl, hM.pass, Two.refl _ _ _, fun _ _ => ⟨_, rfl, hok.2 _ (by simp)⟩⟩
    | 14, ho =>
      obtain rfl := Option.some.inj ho
      have e1 := hdep 13 _ 50 rfl ⟨_, Array.mem_of_getElem? (i := 0) rfl, rfl, rfl⟩ rfl
      obtain ⟨z1, f1, hz1⟩ := e1
      have f1 : a.eval (.tmp 50) = .int .i64 z1 := f1
      have f1b : a.tmps[50]?.getD undef = .int .i64 z1 := by rw [← Array.getD_eq_getD_getElem?]; exact f1
      have hb := E.lt w hM.box
      have hs := hM.str.lt
      refine wpOp_val (w' := w.alloc (.cells #[.int .i64 z1, .int .i64 (100)] 3 (0, 0))) (v := .slice (some ⟨w.heap.size, 0, none⟩) 2 2) rfl rfl (by unfold execOp; simp only; go_simp) ⟨_, rfl, hM.alloc E _, Two.alloc _ _, fun _ _ => ⟨w.heap.size, [z1, (100)], rfl, rfl, ?_, by omega, by omega, heap_alloc_new w _⟩⟩
      intro z hz
      simp only [List.mem_cons, List.not_mem_nil, or_false] at hz
      rcases hz with rfl | rfl
      all_goals first | assumption | decide
    | 15, ho =>
      obtain rfl := Option.some.inj ho
      have e1 := hdep 11 _ 48 rfl ⟨_, Array.mem_of_getElem? (i := 0) rfl, rfl, rfl⟩ rfl
      have e2 := hdep 14 _ 51 rfl ⟨_, Array.mem_of_getElem? (i := 1) rfl, rfl, rfl⟩ rfl
      refine ty_pick rfl rfl rfl e1 e2 (by decide) hM.str (by omega) ?_
      intro t w' ht hg hS
      exact ⟨_, rfl, hM.gr E (by omega) hg (hS.more (by omega)), Two.of_gr hg, fun _ _ => ⟨_, rfl, ht⟩⟩
    | 16, ho =>
      obtain rfl := Option.some.inj ho
      have e1 := (hold 5 (by decide)).trans g5
      have e2 : a.eval (.tmp 5) = .pointer (some ⟨b, off, none⟩) := e1
      have e2b : a.tmps[5]?.getD undef = .pointer (some ⟨b, off, none⟩) := by rw [← Array.getD_eq_getD_getElem?]; exact e2
      exact wpOp_val (v := .pointer (some ⟨b, off, none⟩)) rfl rfl (by unfold execOp; simp only; go_simp) ⟨_, rfl, hM.pass, Two.refl _ _ _, fun _ _ => rfl⟩
    | 17, ho =>
      obtain rfl := Option.some.inj ho
      have e1 := hdep 16 _ 53 rfl ⟨_, Array.mem_of_getElem? (i := 0) rfl, rfl, rfl⟩ rfl
      have e2 := hdep 3 _ 40 rfl ⟨_, Array.mem_of_getElem? (i := 1) rfl, rfl, rfl⟩ rfl
      have e3 : a.eval (.tmp 53) = .pointer (some ⟨b, off, none⟩) := e1
      have e3b : a.tmps[53]?.getD undef = .pointer (some ⟨b, off, none⟩) := by rw [← Array.getD_eq_getD_getElem?]; exact e3
      obtain ⟨z, e4, hz⟩ := e2
      have e4 : a.eval (.tmp 40) = .string z := e4
      have e4b : a.tmps[40]?.getD undef = .string z := by rw [← Array.getD_eq_getD_getElem?]; exact e4
      obtain ⟨x, hok, hc⟩ := E.get w hM.box
      have c0 : w.cell? ⟨b, off, none⟩ = some _ := hc 0 _ rfl
      have hfz := E.frz w (off) hM.box
      exact wpOp_skip (w' := w.setCell ⟨b, off, none⟩ (.string z)) rfl rfl (by unfold execOp; simp only; go_simp) ⟨_, rfl, hM.setS E hsb (j := 0) (by decide) hz, Two.set _, fun _ _ => trivial⟩
    | 18, ho =>
      obtain rfl := Option.some.inj ho
      have e1 := (hold 5 (by decide)).trans g5
      have e2 : a.eval (.tmp 5) = .pointer (some ⟨b, off, none⟩) := e1
      have e2b : a.tmps[5]?.getD undef = .pointer (some ⟨b, off, none⟩) := by rw [← Array.getD_eq_getD_getElem?]; exact e2
      exact wpOp_val (v := .pointer (some ⟨b, off + 1, none⟩)) rfl rfl (by unfold execOp; simp only; go_simp) ⟨_, rfl, hM.pass, Two.refl _ _ _, fun _ _ => rfl⟩
    | 19, ho =>
      obtain rfl := Option.some.inj ho
      have e1 := hdep 18 _ 54 rfl ⟨_, Array.mem_of_getElem? (i := 0) rfl, rfl, rfl⟩ rfl
      have e2 := hdep 5 _ 42 rfl ⟨_, Array.mem_of_getElem? (i := 1) rfl, rfl, rfl⟩ rfl
      have e3 : a.eval (.tmp 54) = .pointer (some ⟨b, off + 1, none⟩) := e1
      have e3b : a.tmps[54]?.getD undef = .pointer (some ⟨b, off + 1, none⟩) := by rw [← Array.getD_eq_getD_getElem?]; exact e3
      obtain ⟨z, e4, hz⟩ := e2
      have e4 : a.eval (.tmp 42) = .int .i64 z := e4
      have e4b : a.tmps[42]?.getD undef = .int .i64 z := by rw [← Array.getD_eq_getD_getElem?]; exact e4
      obtain ⟨x, hok, hc⟩ := E.get w hM.box
      have c0 : w.cell? ⟨b, off + 1, none⟩ = some _ := hc 1 _ rfl
      have hfz := E.frz w (off + 1) hM.box
      exact wpOp_skip (w' := w.setCell ⟨b, off + 1, none⟩ (.int .i64 z)) rfl rfl (by unfold execOp; simp only; go_simp) ⟨_, rfl, hM.setI E hsb (j := 1) (by decide) hz, Two.set _, fun _ _ => trivial⟩
    | 20, ho =>
      obtain rfl := Option.some.inj ho
      have e1 := (hold 5 (by decide)).trans g5
      have e2 : a.eval (.tmp 5) = .pointer (some ⟨b, off, none⟩) := e1
      have e2b : a.tmps[5]?.getD undef = .pointer (some ⟨b, off, none⟩) := by rw [← Array.getD_eq_getD_getElem?]; exact e2
      exact wpOp_val (v := .pointer (some ⟨b, off + 6, none⟩)) rfl rfl (by unfold execOp; simp only; go_simp) ⟨_, rfl, hM.pass, Two.refl _ _ _, fun _ _ => rfl⟩
    | 21, ho =>
      obtain rfl := Option.some.inj ho
      have e1 := hdep 20 _ 55 rfl ⟨_, Array.mem_of_getElem? (i := 0) rfl, rfl, rfl⟩ rfl
      have e2 := hdep 8 _ 45 rfl ⟨_, Array.mem_of_getElem? (i := 1) rfl, rfl, rfl⟩ rfl
      have e3 : a.eval (.tmp 55) = .pointer (some ⟨b, off + 6, none⟩) := e1
      have e3b : a.tmps[55]?.getD undef = .pointer (some ⟨b, off + 6, none⟩) := by rw [← Array.getD_eq_getD_getElem?]; exact e3
      obtain ⟨z, e4, hz⟩ := e2
      have e4 : a.eval (.tmp 45) = .int .i64 z := e4
      have e4b : a.tmps[45]?.getD undef = .int .i64 z := by rw [← Array.getD_eq_getD_getElem?]; exact e4
      obtain ⟨x, hok, hc⟩ := E.get w hM.box
      have c0 : w.cell? ⟨b, off + 6, none⟩ = some _ := hc 6 _ rfl
      have hfz := E.frz w (off + 6) hM.box
      exact wpOp_skip (w' := w.setCell ⟨b, off + 6, none⟩ (.int .i64 z)) rfl rfl (by unfold execOp; simp only; go_simp) ⟨_, rfl, hM.setI E hsb (j := 6) (by decide) hz, Two.set _, fun _ _ => trivial⟩
    | 22, ho =>
      obtain rfl := Option.some.inj ho
      have e1 := (hold 5 (by decide)).trans g5
      have e2 : a.eval (.tmp 5) = .pointer (some ⟨b, off, none⟩) := e1
      have e2b : a.tmps[5]?.getD undef = .pointer (some ⟨b, off, none⟩) := by rw [← Array.getD_eq_getD_getElem?]; exact e2
      exact wpOp_val (v := .pointer (some ⟨b, off + 7, none⟩)) rfl rfl (by unfold execOp; simp only; go_simp) ⟨_, rfl, hM.pass, Two.refl _ _ _, fun _ _ => rfl⟩
    | 23, ho =>
      obtain rfl := Option.some.inj ho
      have e1 := hdep 22 _ 56 rfl ⟨_, Array.mem_of_getElem? (i := 0) rfl, rfl, rfl⟩ rfl
      have e2 := hdep 10 _ 47 rfl ⟨_, Array.mem_of_getElem? (i := 1) rfl, rfl, rfl⟩ rfl
      have e3 : a.eval (.tmp 56) = .pointer (some ⟨b, off + 7, none⟩) := e1
      have e3b : a.tmps[56]?.getD undef = .pointer (some ⟨b, off + 7, none⟩) := by rw [← Array.getD_eq_getD_getElem?]; exact e3
      obtain ⟨z, e4, hz⟩ := e2
      have e4 : a.eval (.tmp 47) = .int .i64 z := e4
      have e4b : a.tmps[47]?.getD undef = .int .i64 z := by rw [← Array.getD_eq_getD_getElem?]; exact e4
      obtain ⟨x, hok, hc⟩ := E.get w hM.box
      have c0 : w.cell? ⟨b, off + 7, none⟩ = some _ := hc 7 _ rfl
      have hfz := E.frz w (off + 7) hM.box
      exact wpOp_skip (w' := w.setCell ⟨b, off + 7, none⟩ (.int .i64 z)) rfl rfl (by unfold execOp; simp only; go_simp) ⟨_, rfl, hM.setI E hsb (j := 7) (by decide) hz, Two.set _, fun _ _ => trivial⟩
    | 24, ho =>
      obtain rfl := Option.some.inj ho
      have e1 := (hold 5 (by decide)).trans g5
      have e2 : a.eval (.tmp 5) = .pointer (some ⟨b, off, none⟩) := e1
      have e2b : a.tmps[5]?.getD undef = .pointer (some ⟨b, off, none⟩) := by rw [← Array.getD_eq_getD_getElem?]; exact e2
      exact wpOp_val (v := .pointer (some ⟨b, off + 9, none⟩)) rfl rfl (by unfold execOp; simp only; go_simp) ⟨_, rfl, hM.pass, Two.refl _ _ _, fun _ _ => rfl⟩
    | 25, ho =>
      obtain rfl := Option.some.inj ho
      have e1 := hdep 24 _ 57 rfl ⟨_, Array.mem_of_getElem? (i := 0) rfl, rfl, rfl⟩ rfl
      have e2 := hdep 15 _ 52 rfl ⟨_, Array.mem_of_getElem? (i := 1) rfl, rfl, rfl⟩ rfl
      have e3 : a.eval (.tmp 57) = .pointer (some ⟨b, off + 9, none⟩) := e1
      have e3b : a.tmps[57]?.getD undef = .pointer (some ⟨b, off + 9, none⟩) := by rw [← Array.getD_eq_getD_getElem?]; exact e3
      obtain ⟨z, e4, hz⟩ := e2
      have e4 : a.eval (.tmp 52) = .int .i64 z := e4
      have e4b : a.tmps[52]?.getD undef = .int .i64 z := by rw [← Array.getD_eq_getD_getElem?]; exact e4
      obtain ⟨x, hok, hc⟩ := E.get w hM.box
      have c0 : w.cell? ⟨b, off + 9, none⟩ = some _ := hc 9 _ rfl
      have hfz := E.frz w (off + 9) hM.box
      exact wpOp_skip (w' := w.setCell ⟨b, off + 9, none⟩ (.int .i64 z)) rfl rfl (by unfold execOp; simp only; go_simp) ⟨_, rfl, hM.setI E hsb (j := 9) (by decide) hz, Two.set _, fun _ _ => trivial⟩
    | j + 26, ho => simp at ho
  · intro listed a w hK hW2 _
    obtain ⟨f, rfl⟩ := known_frame hK (by rw [hsz]; kernel_rfl)
    exact hend f w hW2
end Go.Proofs.YtemaiikgnogfhaaGreatDoor
/- strconv.Itoa for every number; the library's table stays. -/
namespace Go.Proofs.YtemaiikgnogfhaaGreatDoor
open Go.RowKit

abbrev PowTab (w : World) : Prop := Lib.TabIs Tryz.prog w "internal/strconv.uint64pow10" .u64 Lib.pow10Tab
theorem tab_nx {P : Program} {w w' : World} {name : String} {k : IntKind} {zs : List Int} (h : Lib.TabIs P w name k zs) (hn : Nx w w') : Lib.TabIs P w' name k zs := by
  unfold Lib.TabIs World.var? at h ⊢
  cases hg : P.globalNamed name with
  | none => rw [hg] at h; simp at h
  | some g =>
    rw [hg] at h
    simp only [Option.bind_some] at h ⊢
    cases hb : w.heap[g]? with
    | none => rw [hb] at h; simp at h
    | some o =>
      rw [hn.block g (Array.getElem?_eq_some_iff.1 hb).1]
      exact h
def itoaS (n : Int) : ByteArray := ⟨(Lib.itoa n).toArray⟩
theorem w_ItoaN (n : Int) (h0 : -9223372036854775808 ≤ n) (h1 : n ≤ 9223372036854775807) (w : World) (ht : PowTab w) : Calls Tryz.prog 30 #[.int .i64 n] w fun e w' => e = .returned (.string (itoaS n)) ∧ Nx w w' := by
  refine (Any.strconv_Itoa Tryz.itoaM n h0 h1 w ht).mono ?_
  rintro e w' ⟨rfl, k, os, rfl⟩
  exact ⟨rfl, Lays.nx ⟨k, os, rfl⟩⟩
end Go.Proofs.YtemaiikgnogfhaaGreatDoor
/- Legs: what is wrong with them. -/
namespace Go.Proofs.YtemaiikgnogfhaaGreatDoor
open Go.RowKit

structure Leg where
  a : Option Addr
  cap : Nat
  rides : List ByteArray
  cents : Int
instance : Inhabited Leg := ⟨⟨none, 0, [], 0⟩⟩
def encLeg (x : Leg) : List Value := [.slice x.a x.rides.length x.cap, .int .i64 x.cents]
/-- Legs, their rides each in a row of its own. -/
def RdLegs (w : World) (lo : Nat) (A : Option Addr) (ls : List Leg) : Prop :=
  Rd w lo A 2 encLeg ls ∧ ∀ x ∈ ls, Rd w lo x.a 1 encS x.rides ∧ Small x.rides ∧ x.rides.length ≤ 100
theorem RdLegs.nx {w w' : World} {lo : Nat} {A : Option Addr} {ls : List Leg} (h : RdLegs w lo A ls) (hn : Nx w w') : RdLegs w' lo A ls :=
  ⟨h.1.nx hn, fun x hx => ⟨(h.2 x hx).1.nx hn, (h.2 x hx).2⟩⟩
end Go.Proofs.YtemaiikgnogfhaaGreatDoor
/- The stream's legs. -/
namespace Go.Proofs.YtemaiikgnogfhaaGreatDoor
open Go.RowKit Go.Sort Go.Proofs Go.Shelf

theorem own_form {w : World} {base n m K : Nat} {e : TypeId} {v : Value} {xs : List Value} (hn : n = m) (h : w.ownsRow base e K v m xs) : ∃ A c, v = .slice A n c := by
  subst hn
  rcases h.2 with ⟨rfl, rfl⟩ | ⟨g, cap, cur, rfl, _⟩
  · exact ⟨none, 0, rfl⟩
  · exact ⟨_, _, rfl⟩
theorem rd_ownv {w : World} {base n K cap : Nat} {e : TypeId} {A : Option Addr} {α : Type} {enc : α → List Value} {xs : List α} (hk : ∀ x, (enc x).length = K) (hn : n = xs.length) (h : w.ownsRow base e K (.slice A n cap) n (xs.flatMap enc)) : Rd w base A K enc xs := by
  obtain ⟨A', c', ev, hR, _⟩ := Rd.of_own hk hn h
  cases ev
  exact hR
end Go.Proofs.YtemaiikgnogfhaaGreatDoor
/- Trips in the making: each one's nodes a row of the call's own. -/
namespace Go.Proofs.YtemaiikgnogfhaaGreatDoor
open Go.RowKit Go.Sort Go.Proofs Go.Shelf

theorem el_JourS : ElemOf Tryz.prog 33 48 6 80 := ElemOf.mk' (z := .agg #[.string ByteArray.empty, .string ByteArray.empty, .slice none 0 0, .int .i64 0, .int .i64 0, .int .i64 0]) Tryz.underlying33 (by kernel_rfl) rfl
theorem encJ_len (x : Jour) : (encJ x).length = 6 := rfl
theorem encJ_one (x : Jour) : ∀ v ∈ encJ x, v.oneCell' = true := by
  intro v hv; simp [encJ] at hv; rcases hv with rfl | rfl | rfl | rfl | rfl | rfl <;> rfl
/-- A trip that stands fast: its nodes a row of the call's own. -/
structure JRow (w : World) (base : Nat) (x : Jour) : Prop where
  row : w.ownsRow base 9 1 (.slice x.a x.nodes.length x.cap) x.nodes.length (x.nodes.flatMap encS)
  small : Small x.nodes
  few : x.nodes.length ≤ 4
  ok : okJ x
def OwnJours (w : World) (base : Nat) (v : Value) (ts : List Jour) : Prop :=
  w.ownsRow base 48 6 v ts.length (ts.flatMap encJ) ∧ ∀ x ∈ ts, JRow w base x
theorem JRow.gr {w w' : World} {s base : Nat} {x : Jour} (h : JRow w base x) (hn : Gr s w w') (hs : s < base) : JRow w' base x := ⟨own_gr h.row hn hs, h.small, h.few, h.ok⟩
theorem OwnJours.gr {w w' : World} {s base : Nat} {v : Value} {ts : List Jour} (h : OwnJours w base v ts) (hn : Gr s w w') (hs : s < base) : OwnJours w' base v ts :=
  ⟨own_gr h.1 hn hs, fun x hx => (h.2 x hx).gr hn hs⟩
theorem OwnJours.nx {w w' : World} {base : Nat} {v : Value} {ts : List Jour} (h : OwnJours w base v ts) (hn : Nx w w') : OwnJours w' base v ts :=
  ⟨own_nx h.1 hn, fun x hx => ⟨own_nx (h.2 x hx).row hn, (h.2 x hx).small, (h.2 x hx).few, (h.2 x hx).ok⟩⟩
theorem OwnJours.rd {w : World} {base : Nat} {A : Option Addr} {cap : Nat} {ts : List Jour} (h : OwnJours w base (.slice A ts.length cap) ts) : RdJours w base A ts :=
  ⟨rd_ownv encJ_len rfl h.1, fun x hx => by
    have hx' := h.2 x hx
    exact ⟨rd_ownv encS_len rfl hx'.row, hx'.small, by have := hx'.few; omega, by have := hx'.ok.ride; omega, by have := hx'.ok.rider; omega⟩⟩
/-- Some trips. -/
def StrJours (many s k : Nat) (w : World) (e : Ending) (w' : World) : Prop :=
  ∃ (A : Option Addr) (c : Nat) (ts : List Jour), e = .returned (.slice A ts.length c) ∧ ts.length = many ∧ ts.length ≤ c ∧ RdJours w' w.heap.size A ts ∧ Gr s w w' ∧ Str w' s k
theorem itoa_small (n : Nat) (h : n ≤ 8) : (itoaS n).size ≤ 1 := by
  have e : Lib.itoa (n : Int) = [UInt8.ofNat (48 + n)] := by
    unfold Lib.itoa
    rw [if_neg (by omega), Lib.decDigits, dif_pos (by simp; omega)]
    simp
  unfold itoaS
  rw [e]
  exact Nat.le_refl 1
theorem own_cap {w : World} {base c K n : Nat} {A : Option Addr} {e : TypeId} {xs : List Value} (h : w.ownsRow base e K (.slice A n c) n xs) : n ≤ c := by
  rcases h.2 with ⟨h1, h2⟩ | ⟨g, cap, cur, h1, _, _, h3, _⟩
  · omega
  · cases h1; exact h3
theorem own_two {w w' : World} {base s b K n : Nat} {e : TypeId} {v : Value} {xs : List Value} (h : w.ownsRow base e K v n xs) (t : Two s b w w') (hs : s < base) (hb : v.ownBlock = none ∨ v.ownBlock ≠ some b) : w'.ownsRow base e K v n xs := by
  refine ⟨h.1, ?_⟩
  rcases h.2 with hn | ⟨g, cap, cur, rfl, hbg, hgg, rest⟩
  · exact .inl hn
  · refine .inr ⟨g, cap, cur, rfl, hbg, ?_, rest⟩
    rw [t.2.2.2.2 g (Array.getElem?_eq_some_iff.1 hgg).1 (by omega) (fun e => by rcases hb with hb | hb <;> simp [Value.ownBlock] at hb; exact hb e)]
    exact hgg
theorem own_here {w w' : World} {base g c K n : Nat} {e : TypeId} {xs : List Value} (h : w.ownsRow base e K (.slice (some ⟨g, 0, none⟩) n c) n xs) (he : w'.heap[g]? = w.heap[g]?) : w'.ownsRow base e K (.slice (some ⟨g, 0, none⟩) n c) n xs := by
  refine ⟨h.1, ?_⟩
  rcases h.2 with ⟨h1, _⟩ | ⟨g', cap, cur, h1, hbg, hgg, rest⟩
  · cases h1
  · cases h1
    exact .inr ⟨g, c, cur, rfl, hbg, he.trans hgg, rest⟩
def skel (x : Jour) : Option Addr × Nat × List ByteArray := (x.a, x.cap, x.nodes)
/-- The trips' row, its nodes as they were. -/
structure BoxJ (g m c base : Nat) (ts : List Jour) (w : World) (us : List Jour) : Prop where
  len : us.length = m
  sk : ∀ x ∈ us, skel x ∈ ts.map skel ∨ x.nodes = []
  ok : ∀ x ∈ us, okJ x
  row : w.ownsRow base 48 6 (.slice (some ⟨g, 0, none⟩) m c) m (us.flatMap encJ)
theorem skel_set {ts us : List Jour} {q : Nat} (h : ∀ x ∈ us, skel x ∈ ts.map skel ∨ x.nodes = []) (hq : q < us.length) {y : Jour} (hy : skel y = skel us[q]) : ∀ x ∈ us.set q y, skel x ∈ ts.map skel ∨ x.nodes = [] := fun x hx => by
  rcases List.mem_or_eq_of_mem_set hx with hx | rfl
  · exact h x hx
  · rw [hy, show x.nodes = us[q].nodes from (Prod.mk.inj (Prod.mk.inj hy).2).2]
    exact h _ (List.getElem_mem hq)
theorem all_set {us : List Jour} {q : Nat} {y : Jour} (h : ∀ x ∈ us, okJ x) (hy : okJ y) : ∀ x ∈ us.set q y, okJ x := fun x hx => by
  rcases List.mem_or_eq_of_mem_set hx with hx | rfl
  · exact h x hx
  · exact hy
theorem boxJ_jo (g m c base q : Nat) (ts : List Jour) (hq : q < m) : JoBox g (q * 6) (fun w => ∃ us, BoxJ g m c base ts w us) where
  get w h := by
    obtain ⟨us, h⟩ := h
    have hq' : q < us.length := by rw [h.len]; exact hq
    exact ⟨us[q], h.ok _ (List.getElem_mem hq'), fun j u hu => own_cell encJ_len h.len h.row q hq' j u hu⟩
  frz w j h := by obtain ⟨us, h⟩ := h; exact h.row.frozenAt j
  lt w h := by obtain ⟨us, h⟩ := h; exact (h.row.lt g rfl).2
  setS w j t h hj ht := by
    obtain ⟨us, h⟩ := h
    have hq' : q < us.length := by rw [h.len]; exact hq
    have hx := h.ok _ (List.getElem_mem hq')
    rcases hj with rfl | rfl
    · exact ⟨us.set q { us[q] with ride := t }, by rw [List.length_set]; exact h.len, skel_set h.sk hq' rfl, all_set h.ok ⟨ht, hx.rider, hx.metres, hx.from_, hx.to_⟩, own_set encJ_len h.len h.row q hq' 0 (by omega) (.string t) _ rfl _ rfl⟩
    · exact ⟨us.set q { us[q] with rider := t }, by rw [List.length_set]; exact h.len, skel_set h.sk hq' rfl, all_set h.ok ⟨hx.ride, ht, hx.metres, hx.from_, hx.to_⟩, own_set encJ_len h.len h.row q hq' 1 (by omega) (.string t) _ rfl _ rfl⟩
  setI w j z h hj hz := by
    obtain ⟨us, h⟩ := h
    have hq' : q < us.length := by rw [h.len]; exact hq
    have hx := h.ok _ (List.getElem_mem hq')
    rcases hj with rfl | rfl
    · exact ⟨us.set q { us[q] with metres := z }, by rw [List.length_set]; exact h.len, skel_set h.sk hq' rfl, all_set h.ok ⟨hx.ride, hx.rider, hz, hx.from_, hx.to_⟩, own_set encJ_len h.len h.row q hq' 3 (by omega) (.int .i64 z) _ rfl _ rfl⟩
    · exact ⟨us.set q { us[q] with to_ := z }, by rw [List.length_set]; exact h.len, skel_set h.sk hq' rfl, all_set h.ok ⟨hx.ride, hx.rider, hx.metres, hx.from_, hz⟩, own_set encJ_len h.len h.row q hq' 5 (by omega) (.int .i64 z) _ rfl _ rfl⟩
  same w w' h e _ := by obtain ⟨us, h⟩ := h; exact ⟨us, h.len, h.sk, h.ok, own_here h.row e⟩
/-- What is read of the trips at the end. -/
theorem BoxJ.rd {g m c base s : Nat} {ts us : List Jour} {w w' : World} (h : BoxJ g m c base ts w' us) (hr : ∀ x ∈ ts, JRow w base x) (ho : w.ownsRow base 48 6 (.slice (some ⟨g, 0, none⟩) m c) m (ts.flatMap encJ)) (t : Two s g w w') (hs : s < base) : RdJours w' base (some ⟨g, 0, none⟩) us :=
  ⟨rd_ownv encJ_len h.len.symm h.row, fun x hx => by
    have hx' := h.ok x hx
    rcases h.sk x hx with h1 | h1
    · obtain ⟨y, hy, e⟩ := List.mem_map.1 h1
      have hy' := hr y hy
      obtain ⟨e1, e2⟩ := Prod.mk.inj e
      obtain ⟨e2, e3⟩ := Prod.mk.inj e2
      have r := own_two hy'.row t hs (own_apart hy'.row ho (by decide))
      rw [e1, e2, e3] at r
      exact ⟨rd_ownv encS_len rfl r, e3 ▸ hy'.small, by have := hy'.few; rw [← e3]; omega, by have := hx'.ride; omega, by have := hx'.rider; omega⟩
    · rw [h1]
      exact ⟨Rd.nil, (fun x hx => by cases hx), by simp, by have := hx'.ride; omega, by have := hx'.rider; omega⟩⟩
/-- One trip loses its nodes. -/
theorem BoxJ.bare {g m c base q : Nat} {ts us : List Jour} {w : World} (h : BoxJ g m c base ts w us) (hq : q < us.length) : BoxJ g m c base ts (w.setCell ⟨g, q * 6 + 2, none⟩ (.slice none 0 0)) (us.set q { us[q] with a := none, cap := 0, nodes := [] }) := by
  have hx := h.ok _ (List.getElem_mem hq)
  exact ⟨by rw [List.length_set]; exact h.len, fun x hx => by
    rcases List.mem_or_eq_of_mem_set hx with hx | rfl
    · exact h.sk x hx
    · exact .inr rfl, all_set h.ok ⟨hx.ride, hx.rider, hx.metres, hx.from_, hx.to_⟩, own_set encJ_len h.len h.row q hq 2 (by omega) (.slice none 0 0) _ rfl _ rfl⟩

end Go.Proofs.YtemaiikgnogfhaaGreatDoor
/- Zones in the making. -/
namespace Go.Proofs.YtemaiikgnogfhaaGreatDoor
open Go.RowKit Go.Sort Go.Proofs Go.Shelf

theorem encZone_len (x : Zone) : (encZone x).length = 2 := rfl
def rowZ (x : Zone) : Value := .slice x.a x.nodes.length x.cap
/-- Zones in the making: each one's nodes a row of the call's own, all of them apart. -/
structure OwnZones (w : World) (base nb g : Nat) (zs : List Zone) : Prop where
  row : w.ownsRow base 67 2 (.slice (some ⟨g, 0, none⟩) zs.length zs.length) zs.length (zs.flatMap encZone)
  each : ∀ i (h : i < zs.length), w.ownsRow nb 9 1 (rowZ zs[i]) zs[i].nodes.length (zs[i].nodes.flatMap encS) ∧ Small zs[i].nodes ∧ zs[i].key.size ≤ 1000000
  apart : ∀ i j (h : i < zs.length) (h' : j < zs.length), i ≠ j → ∀ b, (rowZ zs[i]).ownBlock = some b → (rowZ zs[j]).ownBlock ≠ some b
theorem OwnZones.gr {w w' : World} {s base nb g : Nat} {zs : List Zone} (h : OwnZones w base nb g zs) (hn : Gr s w w') (hs : s < base) (hb : base ≤ nb) : OwnZones w' base nb g zs :=
  ⟨own_gr h.row hn hs, fun i hi => ⟨own_gr (h.each i hi).1 hn (by omega), (h.each i hi).2⟩, h.apart⟩
theorem OwnZones.nx {w w' : World} {base nb g : Nat} {zs : List Zone} (h : OwnZones w base nb g zs) (hn : Nx w w') : OwnZones w' base nb g zs :=
  ⟨own_nx h.row hn, fun i hi => ⟨own_nx (h.each i hi).1 hn, (h.each i hi).2⟩, h.apart⟩
theorem OwnZones.rd {w : World} {base nb g : Nat} {zs : List Zone} (h : OwnZones w base nb g zs) (hb : base ≤ nb) (h4 : ∀ x ∈ zs, x.nodes.length ≤ 400) : RdZones w base (some ⟨g, 0, none⟩) zs :=
  ⟨rd_ownv encZone_len rfl h.row, fun x hx => by
    obtain ⟨i, hi, e⟩ := List.mem_iff_getElem.1 hx
    obtain ⟨r1, r2, r3⟩ := h.each i hi
    rw [e] at r1 r2 r3
    exact ⟨(rd_ownv encS_len rfl r1).low hb, r2, h4 x hx, r3⟩⟩
/-- One zone gets one node more. -/
theorem OwnZones.app {w w' : World} {base nb g g5 c5 q : Nat} {zs : List Zone} {nd : ByteArray} (h : OwnZones w base nb g zs) (hq : q < zs.length) (hg : w.grownBy w' (rowZ zs[q]).ownBlock)
    (hn : w'.ownsRow nb 9 1 (.slice (some ⟨g5, 0, none⟩) (zs[q].nodes.length + 1) c5) (zs[q].nodes.length + 1) (zs[q].nodes.flatMap encS ++ [.string nd]))
    (hat : (rowZ zs[q]).ownBlock = some g5 ∨ g5 = w.heap.size) (hs : nd.size ≤ 1000000) :
    OwnZones (w'.setCell ⟨g, q * 2 + 1, none⟩ (.slice (some ⟨g5, 0, none⟩) (zs[q].nodes.length + 1) c5)) base nb g (zs.set q ⟨zs[q].key, some ⟨g5, 0, none⟩, c5, zs[q].nodes ++ [nd]⟩) := by
  have hr := h.row.kept hg (own_apart h.row (h.each q hq).1 (by decide))
  have hset := own_set encZone_len rfl hr q hq 1 (by omega) (.slice (some ⟨g5, 0, none⟩) (zs[q].nodes.length + 1) c5) ⟨zs[q].key, some ⟨g5, 0, none⟩, c5, zs[q].nodes ++ [nd]⟩ (by simp [encZone]) (q * 2 + 1) rfl
  have hl : (zs.set q ⟨zs[q].key, some ⟨g5, 0, none⟩, c5, zs[q].nodes ++ [nd]⟩).length = zs.length := List.length_set ..
  have keep : ∀ {v : Value} {m : Nat} {xs : List Value}, w'.ownsRow nb 9 1 v m xs → (w'.setCell ⟨g, q * 2 + 1, none⟩ (.slice (some ⟨g5, 0, none⟩) (zs[q].nodes.length + 1) c5)).ownsRow nb 9 1 v m xs := fun hv =>
    hv.kept ((Gr.refl g _).setS (p := ⟨g, q * 2 + 1, none⟩) (.inl rfl) (.slice (some ⟨g5, 0, none⟩) (zs[q].nodes.length + 1) c5)) (own_apart hv hr (by decide))
  refine ⟨by rw [hl]; exact hset, fun i hi => ?_, fun i j hi hj hij b hb => ?_⟩
  · have hi' : i < zs.length := by rw [hl] at hi; exact hi
    rw [List.getElem_set]
    by_cases e : q = i
    · subst e
      rw [if_pos rfl]
      refine ⟨?_, ?_, (h.each q hq).2.2⟩
      · show (w'.setCell _ _).ownsRow nb 9 1 (.slice (some ⟨g5, 0, none⟩) (zs[q].nodes ++ [nd]).length c5) (zs[q].nodes ++ [nd]).length ((zs[q].nodes ++ [nd]).flatMap encS)
        rw [List.length_append, List.flatMap_append]
        exact keep hn
      · intro t ht
        rcases List.mem_append.1 ht with ht | ht
        · exact (h.each q hq).2.1 t ht
        · simp at ht; subst ht; exact hs
    · rw [if_neg e]
      obtain ⟨r1, r2⟩ := h.each i hi'
      refine ⟨keep (r1.kept hg ?_), r2⟩
      cases ho : (rowZ zs[i]).ownBlock with
      | none => exact .inl rfl
      | some b => exact .inr (fun hc => h.apart i q hi' hq (fun e2 => e e2.symm) b ho hc.symm)
  · have hi' : i < zs.length := by rw [hl] at hi; exact hi
    have hj' : j < zs.length := by rw [hl] at hj; exact hj
    rw [List.getElem_set] at hb ⊢
    have key : ∀ t (ht : t < zs.length), t ≠ q → (rowZ zs[t]).ownBlock ≠ some g5 := fun t ht hne hc => by
      rcases hat with hat | hat
      · exact h.apart t q ht hq hne g5 hc hat
      · have := ((h.each t ht).1.lt g5 hc).2
        omega
    by_cases e1 : q = i
    · rw [if_pos e1] at hb
      rw [if_neg (fun e2 => hij (e1.symm.trans e2))]
      have eb : b = g5 := by
        have : (rowZ ⟨zs[q].key, some ⟨g5, 0, none⟩, c5, zs[q].nodes ++ [nd]⟩).ownBlock = some g5 := rfl
        rw [this] at hb; injection hb with hb; exact hb.symm
      subst eb
      exact key j hj' (fun e2 => hij (e1.symm.trans e2.symm))
    · rw [if_neg e1] at hb
      by_cases e2 : q = j
      · rw [if_pos e2]
        intro hc
        have eb : b = g5 := by
          have : (rowZ ⟨zs[q].key, some ⟨g5, 0, none⟩, c5, zs[q].nodes ++ [nd]⟩).ownBlock = some g5 := rfl
          rw [this] at hc; injection hc with hc; exact hc.symm
        subst eb
        exact key i hi' (fun e3 => e1 e3.symm) hb
      · rw [if_neg e2]
        exact h.apart i j hi' hj' hij b hb
/-- One zone gets another key and other nodes. -/
theorem OwnZones.twist {w : World} {base nb b2 g q n c : Nat} {a : Option Addr} {zs : List Zone} {nodes : List ByteArray} {ky : ByteArray} (h : OwnZones w base nb g zs) (hq : q < zs.length) (hbn : base ≤ nb) (hb : base ≤ b2) (hr : w.ownsRow b2 9 1 (.slice a n c) n (nodes.flatMap encS)) (hn : n = nodes.length) (hs : Small nodes) (hk : ky.size ≤ 1000000) (h4 : nodes.length ≤ 400) (h5 : ∀ x ∈ zs, x.nodes.length ≤ 400) :
    RdZones ((w.setCell ⟨g, q * 2, none⟩ (.string ky)).setCell ⟨g, q * 2 + 1, none⟩ (.slice a n c)) base (some ⟨g, 0, none⟩) (zs.set q ⟨ky, a, c, nodes⟩) := by
  subst hn
  have o1 := own_set encZone_len rfl h.row q hq 0 (by omega) (.string ky) ⟨ky, zs[q].a, zs[q].cap, zs[q].nodes⟩ (by simp [encZone]) (q * 2) rfl
  have o2 := own_set encZone_len (by rw [List.length_set]) o1 q (by rw [List.length_set]; exact hq) 1 (by omega) (.slice a nodes.length c) ⟨ky, a, c, nodes⟩ (by simp [encZone]) (q * 2 + 1) (by omega)
  rw [List.set_set] at o2
  have keep : ∀ {v : Value} {m b : Nat} {xs : List Value}, w.ownsRow b 9 1 v m xs → ((w.setCell ⟨g, q * 2, none⟩ (.string ky)).setCell ⟨g, q * 2 + 1, none⟩ (.slice a nodes.length c)).ownsRow b 9 1 v m xs := fun hv => by
    have k1 := hv.kept ((Gr.refl g _).setS (p := ⟨g, q * 2, none⟩) (.inl rfl) (.string ky)) (own_apart hv h.row (by decide))
    exact k1.kept ((Gr.refl g _).setS (p := ⟨g, q * 2 + 1, none⟩) (.inl rfl) (.slice a nodes.length c)) (own_apart k1 o1 (by decide))
  have hR : Rd ((w.setCell ⟨g, q * 2, none⟩ (.string ky)).setCell ⟨g, q * 2 + 1, none⟩ (.slice a nodes.length c)) base (some ⟨g, 0, none⟩) 2 encZone (zs.set q ⟨ky, a, c, nodes⟩) := rd_ownv encZone_len (by rw [List.length_set]) o2
  refine ⟨hR, fun x hx => ?_⟩
  rcases List.mem_or_eq_of_mem_set hx with hx | rfl
  · obtain ⟨i, hi, e⟩ := List.mem_iff_getElem.1 hx
    obtain ⟨r1, r2, r3⟩ := h.each i hi
    rw [e] at r1 r2 r3
    exact ⟨(rd_ownv encS_len rfl (keep r1)).low hbn, r2, h5 x hx, r3⟩
  · exact ⟨(rd_ownv encS_len rfl (keep hr)).low hb, hs, h4, hk⟩
end Go.Proofs.YtemaiikgnogfhaaGreatDoor
/- What the laws share: the end, the stream, cmp.Or of two or three. -/
namespace Go.Proofs.YtemaiikgnogfhaaGreatDoor
open Go.RowKit

/-- The law's world: what was there stays. -/
def TrueNx (w : World) (e : Ending) (w' : World) : Prop := e = .returned (.bool true) ∧ Nx w w'

theorem w_Or2 (a b : Int) (g c : Nat) (w : World) (hg : w.heap[g]? = some (.cells #[.int .i64 a, .int .i64 b] 37 (0, 0))) :
    Calls Tryz.prog 14 #[.slice (some ⟨g, 0, none⟩) 2 c] w fun e w' => e = .returned (.int .i64 (orI [a, b])) ∧ w = w' := by
  have hR : Rd w 0 (some ⟨g, 0, none⟩) 1 encI [a, b] := Rd.lit hg (Nat.zero_le _) (fun _ => rfl) rfl
  exact w_OrE 0 _ c [a, b] w hR (by simp)

theorem str_new (A : Option Addr) (n c : Nat) (w : World) (hn : n ≤ 9223372036854775807)
    (hL : 0 < n → ∃ b off, A = some ⟨b, off, none⟩ ∧ b < w.heap.size ∧ ∀ j, j < n → ∃ z : Int, w.cell? ⟨b, off + j, none⟩ = some (.int .i64 z) ∧ -9223372036854775808 ≤ z ∧ z ≤ 9223372036854775807) :
    Str (w.alloc (.cells #[.slice A n c, .int .i64 0] 25)) w.heap.size 0 := by
  refine ⟨A, n, c, 0, Nat.le_refl _, hn, hnew rfl, fun hp => ?_⟩
  obtain ⟨b, off, e, hb, hz⟩ := hL hp
  refine ⟨b, off, e, hb, fun j hj => ?_⟩
  obtain ⟨z, h1, h2⟩ := hz j hj
  exact ⟨z, (Below.cell ((Nx.refl w).alloc _) (p := ⟨b, _, none⟩) hb).trans h1, h2⟩
end Go.Proofs.YtemaiikgnogfhaaGreatDoor
/- The rest of a function's code from a region on. Of no program. -/
namespace Go.Proofs.YtemaiikgnogfhaaGreatDoor
open Go

/-- The first region's number. -/
def firstReg : Code → Option Nat
  | .region n _ _ => some n
  | .seq a _ => firstReg a
  | .scope c => firstReg c
  | .block _ c => firstReg c
  | .loop c => firstReg c
  | _ => none
def isReg (r : Nat) (c : Code) : Bool := match firstReg c with | some n => Nat.beq n r | none => false
/-- What follows from the statement on that begins with region r. -/
def fromReg (r : Nat) : Code → Code
  | .seq a b => bif isReg r a then .seq a b else fromReg r b
  | .scope c => fromReg r c
  | .block _ c => fromReg r c
  | c => c
end Go.Proofs.YtemaiikgnogfhaaGreatDoor
/- A block of eight cells, written anew. -/
namespace Go.Proofs.YtemaiikgnogfhaaGreatDoor
open Go.RowKit

theorem put8 {w : World} {g : Nat} {T : TypeId} {a0 a1 a2 a3 a4 a5 a6 a7 : Value} (u0 u1 u2 u3 u4 u5 u6 u7 : Value) (h : w.heap[g]? = some (.cells #[a0, a1, a2, a3, a4, a5, a6, a7] T (0, 0))) :
    ((((((((w.setCell ⟨g, 0, none⟩ u0).setCell ⟨g, 1, none⟩ u1).setCell ⟨g, 2, none⟩ u2).setCell ⟨g, 3, none⟩ u3).setCell ⟨g, 4, none⟩ u4).setCell ⟨g, 5, none⟩ u5).setCell ⟨g, 6, none⟩ u6).setCell ⟨g, 7, none⟩ u7).heap[g]? = some (.cells #[u0, u1, u2, u3, u4, u5, u6, u7] T (0, 0)) := by
  have h0 : (w.setCell ⟨g, 0, none⟩ u0).heap[g]? = some (.cells #[u0, a1, a2, a3, a4, a5, a6, a7] T (0, 0)) := heap_set (i := 0) h
  have h1 : ((w.setCell ⟨g, 0, none⟩ u0).setCell ⟨g, 1, none⟩ u1).heap[g]? = some (.cells #[u0, u1, a2, a3, a4, a5, a6, a7] T (0, 0)) := heap_set (i := 1) h0
  have h2 : (((w.setCell ⟨g, 0, none⟩ u0).setCell ⟨g, 1, none⟩ u1).setCell ⟨g, 2, none⟩ u2).heap[g]? = some (.cells #[u0, u1, u2, a3, a4, a5, a6, a7] T (0, 0)) := heap_set (i := 2) h1
  have h3 : ((((w.setCell ⟨g, 0, none⟩ u0).setCell ⟨g, 1, none⟩ u1).setCell ⟨g, 2, none⟩ u2).setCell ⟨g, 3, none⟩ u3).heap[g]? = some (.cells #[u0, u1, u2, u3, a4, a5, a6, a7] T (0, 0)) := heap_set (i := 3) h2
  have h4 : (((((w.setCell ⟨g, 0, none⟩ u0).setCell ⟨g, 1, none⟩ u1).setCell ⟨g, 2, none⟩ u2).setCell ⟨g, 3, none⟩ u3).setCell ⟨g, 4, none⟩ u4).heap[g]? = some (.cells #[u0, u1, u2, u3, u4, a5, a6, a7] T (0, 0)) := heap_set (i := 4) h3
  have h5 : ((((((w.setCell ⟨g, 0, none⟩ u0).setCell ⟨g, 1, none⟩ u1).setCell ⟨g, 2, none⟩ u2).setCell ⟨g, 3, none⟩ u3).setCell ⟨g, 4, none⟩ u4).setCell ⟨g, 5, none⟩ u5).heap[g]? = some (.cells #[u0, u1, u2, u3, u4, u5, a6, a7] T (0, 0)) := heap_set (i := 5) h4
  have h6 : (((((((w.setCell ⟨g, 0, none⟩ u0).setCell ⟨g, 1, none⟩ u1).setCell ⟨g, 2, none⟩ u2).setCell ⟨g, 3, none⟩ u3).setCell ⟨g, 4, none⟩ u4).setCell ⟨g, 5, none⟩ u5).setCell ⟨g, 6, none⟩ u6).heap[g]? = some (.cells #[u0, u1, u2, u3, u4, u5, u6, a7] T (0, 0)) := heap_set (i := 6) h5
  have h7 : ((((((((w.setCell ⟨g, 0, none⟩ u0).setCell ⟨g, 1, none⟩ u1).setCell ⟨g, 2, none⟩ u2).setCell ⟨g, 3, none⟩ u3).setCell ⟨g, 4, none⟩ u4).setCell ⟨g, 5, none⟩ u5).setCell ⟨g, 6, none⟩ u6).setCell ⟨g, 7, none⟩ u7).heap[g]? = some (.cells #[u0, u1, u2, u3, u4, u5, u6, u7] T (0, 0)) := heap_set (i := 7) h6
  exact h7
theorem gr8 {w : World} {g : Nat} (u0 u1 u2 u3 u4 u5 u6 u7 : Value) : Gr g w ((((((((w.setCell ⟨g, 0, none⟩ u0).setCell ⟨g, 1, none⟩ u1).setCell ⟨g, 2, none⟩ u2).setCell ⟨g, 3, none⟩ u3).setCell ⟨g, 4, none⟩ u4).setCell ⟨g, 5, none⟩ u5).setCell ⟨g, 6, none⟩ u6).setCell ⟨g, 7, none⟩ u7) :=
  (((((((((Gr.refl g w).setS (p := ⟨g, 0, none⟩) (.inl rfl) u0).setS (p := ⟨g, 1, none⟩) (.inl rfl) u1).setS (p := ⟨g, 2, none⟩) (.inl rfl) u2).setS (p := ⟨g, 3, none⟩) (.inl rfl) u3).setS (p := ⟨g, 4, none⟩) (.inl rfl) u4).setS (p := ⟨g, 5, none⟩) (.inl rfl) u5).setS (p := ⟨g, 6, none⟩) (.inl rfl) u6).setS (p := ⟨g, 7, none⟩) (.inl rfl) u7)
end Go.Proofs.YtemaiikgnogfhaaGreatDoor
