/- What the slots of a stream's statement hold, said by shape alone. -/
import Derived.Test.YthlhomcgjgfdhaaGreatDoorQG8
import Derived.Test.YthlhomcgjgfdhaaGreatDoorQStrS
import Derived.Deep.DeepCutAuto
import Derived.Test.YthlhomcgjgfdhaaGreatDoorQJouF
import Derived.Test.YthlhomcgjgfdhaaGreatDoorQG0
import Derived.Laws.AppendOwn
import Derived.Test.YthlhomcgjgfdhaaGreatDoorQG14
import Derived.StillTailTactics
import Derived.Shelf.Slices.CompactS
import Derived.Test.YthlhomcgjgfdhaaGreatDoorQShelfZ
import Derived.Shelf.Slices.Cells
import Derived.Lib.LazyBuf
import Derived.Test.YthlhomcgjgfdhaaGreatDoorQG3
import Derived.Deep.RegionHeld3
import Derived.Test.YthlhomcgjgfdhaaGreatDoorQShelfT
import Derived.Deep.Onto
import Derived.Deep.AppendLies
import Derived.Test.YthlhomcgjgfdhaaGreatDoorQLinE
import Derived.RegionTactic
namespace Go.Proofs.YthlhomcgjgfdhaaGreatDoor
open Go.RowKit

/-- A step of a stream's statement: block s (the stream) may turn, block b (what is made) may turn, all else stays. -/
def Two (s b : Nat) (w w' : World) : Prop :=
  w'.os = w.os ∧ w'.tape = w.tape ∧ w'.output = w.output ∧ w.heap.size ≤ w'.heap.size ∧ ∀ i, i < w.heap.size → i ≠ s → i ≠ b → w'.heap[i]? = w.heap[i]?
theorem Two.refl (s b : Nat) (w : World) : Two s b w w := ⟨rfl, rfl, rfl, Nat.le_refl _, fun _ _ _ _ => rfl⟩
theorem Two.of_gr {s b : Nat} {w w' : World} (h : Gr s w w') : Two s b w w' :=
  ⟨h.os, h.tape, h.output, h.sz, fun i hi hs _ => h.block i hi (by intro e; injection e with e; exact hs e)⟩
theorem Two.trans {s b : Nat} {w w' w'' : World} (h : Two s b w w') (k : Two s b w' w'') : Two s b w w'' :=
  ⟨k.1.trans h.1, k.2.1.trans h.2.1, k.2.2.1.trans h.2.2.1, Nat.le_trans h.2.2.2.1 k.2.2.2.1, fun i hi hs hb => (k.2.2.2.2 i (Nat.lt_of_lt_of_le hi h.2.2.2.1) hs hb).trans (h.2.2.2.2 i hi hs hb)⟩

def ShPtr (b o : Nat) (v : Value) (_w : World) : Prop := v = .pointer (some ⟨b, o, none⟩)
/-- A literal of n small strings in a block of its own. -/
def ShLitS (s b n : Nat) (v : Value) (w : World) : Prop :=
  ∃ (g : Nat) (zs : List ByteArray), v = .slice (some ⟨g, 0, none⟩) n n ∧ zs.length = n ∧ (∀ z ∈ zs, z.size ≤ 1000000) ∧ g ≠ s ∧ g ≠ b ∧ w.heap[g]? = some (.cells (zs.map Value.string).toArray 9 (0, 0))
/-- A literal of n numbers in a block of its own. -/
def ShLitI (s b n : Nat) (v : Value) (w : World) : Prop :=
  ∃ (g : Nat) (zs : List Int), v = .slice (some ⟨g, 0, none⟩) n n ∧ zs.length = n ∧ g ≠ s ∧ g ≠ b ∧ w.heap[g]? = some (.cells (zs.map (Value.int .i64)).toArray 3 (0, 0))
theorem ShLitS.keep {s b n : Nat} {v : Value} {w w' : World} (h : ShLitS s b n v w) (k : Two s b w w') : ShLitS s b n v w' := by
  obtain ⟨g, zs, h1, h2, h3, h4, h5, h6⟩ := h
  exact ⟨g, zs, h1, h2, h3, h4, h5, (k.2.2.2.2 g (Array.getElem?_eq_some_iff.1 h6).1 h4 h5).trans h6⟩
theorem ShLitI.keep {s b n : Nat} {v : Value} {w w' : World} (h : ShLitI s b n v w) (k : Two s b w w') : ShLitI s b n v w' := by
  obtain ⟨g, zs, h1, h2, h3, h4, h5⟩ := h
  exact ⟨g, zs, h1, h2, h3, h4, (k.2.2.2.2 g (Array.getElem?_eq_some_iff.1 h5).1 h3 h4).trans h5⟩

section
variable {ops : Array Oper} {Q : Exit → Act → World → Prop} {i : Nat} {o : Oper} {a : Act} {w : World} {K : Act → World → Prop}
theorem run_call {f : FuncId} {xs : Array Operand} {ts : Array TypeId} (hop : o.op = .call { callee := .value (.func f), args := xs, argTypes := ts }) (he : ∀ args w, (callFunc f args).run Tryz.prog w = .ok (.enter f args) w) : (execOp a.eval o).run Tryz.prog w = .ok (.enter f (xs.map a.eval)) w := by
  unfold execOp
  rw [hop]
  have e : a.eval (.func f) = .func (.func f) #[] #[] := rfl
  simp [resolve, e, Deferred.ofValue, invoke, he]
end
end Go.Proofs.YthlhomcgjgfdhaaGreatDoor
/- A drawn statement over a stream and a price's cells: what the world holds, and each operation's step. -/
namespace Go.Proofs.YthlhomcgjgfdhaaGreatDoor
open Go.RowKit

section
variable {P : Program} {ops : Array Oper} {Q : Exit → Act → World → Prop}
/-- The frame behind a drawn statement: the old one, with what was written. -/
theorem known_frame {W : Nat → World → Prop} {Sh : Nat → Value → World → Prop} {a0 a : Act} {listed : Array Bool} {w : World} (h : Known ops W Sh a0 listed a w) (_ : dstsB ops a0.tmps.size = true) :
    ∃ f : Tmp → Value, a = ⟨(dstsOf ops).foldl (fun t d => t.setIfInBounds d (f d)) a0.tmps, a0.defers⟩ := by
  refine ⟨fun d => a.tmps.getD d undef, ?_⟩
  obtain ⟨ts, df⟩ := a
  have hs := h.frame.1
  have hd := h.frame.2
  simp only at hs hd
  subst hd
  congr 1
  have gen : ∀ (l : List Tmp) (t0 : Array Value), t0.size = ts.size → (∀ t, t ∉ l → ts.getD t undef = t0.getD t undef) → ts = l.foldl (fun t d => t.setIfInBounds d (ts.getD d undef)) t0 := by
    intro l
    induction l with
    | nil =>
      intro t0 h1 h2
      apply Array.ext
      · exact h1.symm
      · intro i hi hj
        have := h2 i (by simp)
        have hj' : i < t0.size := by simpa using hj
        simp [Array.getD, hi, hj'] at this
        exact this
    | cons d l ih =>
      intro t0 h1 h2
      refine ih _ (by simpa using h1) (fun t ht => ?_)
      by_cases e : t = d
      · subst e
        by_cases hb : t < t0.size
        · simp [Array.getD, hb]
        · have hb2 : ¬ t < ts.size := by rw [← h1]; exact hb
          simp [Array.getD, hb, hb2]
      · rw [h2 t (by simp [e, ht])]
        simp [Array.getElem?_setIfInBounds_ne (fun e2 : d = t => e e2.symm)]
  exact gen _ _ hs.symm (fun t ht => h.old t ht)
end

/-- A price with no giants. -/
def okP (x : Price) : Prop := x.key.size ≤ 1000 ∧ ∀ z ∈ [x.base, x.metre, x.minute, x.cross, x.from_, x.to_, x.peak, x.least, x.most], -1000000000000000 ≤ z ∧ z ≤ 1000000000000000
/-- What is known of a price's cells from off on in block b. -/
structure PrBox (b off : Nat) (B : World → Prop) : Prop where
  get : ∀ w, B w → ∃ x : Price, okP x ∧ ∀ j u, (encP x)[j]? = some u → w.cell? ⟨b, off + j, none⟩ = some u
  frz : ∀ w j, B w → w.frozen? ⟨b, j, none⟩ = false
  lt : ∀ w, B w → b < w.heap.size
  setS : ∀ w j (t : ByteArray), B w → (j = 0) → t.size ≤ 1000 → B (w.setCell ⟨b, off + j, none⟩ (.string t))
  setI : ∀ w j (z : Int), B w → (1 ≤ j ∧ j ≤ 9) → -1000000000000000 ≤ z ∧ z ≤ 1000000000000000 → B (w.setCell ⟨b, off + j, none⟩ (.int .i64 z))
  same : ∀ w w', B w → w'.heap[b]? = w.heap[b]? → w.heap.size ≤ w'.heap.size → B w'
def ShT (v : Value) (_w : World) : Prop := ∃ t : ByteArray, v = .string t ∧ t.size ≤ 1000
def ShZ (v : Value) (_w : World) : Prop := ∃ z : Int, v = .int .i64 z ∧ -1000000000000000 ≤ z ∧ z ≤ 1000000000000000
/-- A literal of n small strings in a block of its own. -/
def ShLT (s b n : Nat) (v : Value) (w : World) : Prop :=
  ∃ (g : Nat) (zs : List ByteArray), v = .slice (some ⟨g, 0, none⟩) n n ∧ zs.length = n ∧ (∀ z ∈ zs, z.size ≤ 1000) ∧ g ≠ s ∧ g ≠ b ∧ w.heap[g]? = some (.cells (zs.map Value.string).toArray 9 (0, 0))
def ShLZ (s b n : Nat) (v : Value) (w : World) : Prop :=
  ∃ (g : Nat) (zs : List Int), v = .slice (some ⟨g, 0, none⟩) n n ∧ zs.length = n ∧ (∀ z ∈ zs, -1000000000000000 ≤ z ∧ z ≤ 1000000000000000) ∧ g ≠ s ∧ g ≠ b ∧ w.heap[g]? = some (.cells (zs.map (Value.int .i64)).toArray 3 (0, 0))
theorem ShLT.keep {s b n : Nat} {v : Value} {w w' : World} (h : ShLT s b n v w) (k : Two s b w w') : ShLT s b n v w' := by
  obtain ⟨g, zs, h1, h2, h3, h4, h5, h6⟩ := h
  exact ⟨g, zs, h1, h2, h3, h4, h5, (k.2.2.2.2 g (Array.getElem?_eq_some_iff.1 h6).1 h4 h5).trans h6⟩
theorem ShLZ.keep {s b n : Nat} {v : Value} {w w' : World} (h : ShLZ s b n v w) (k : Two s b w w') : ShLZ s b n v w' := by
  obtain ⟨g, zs, h1, h2, h3, h4, h5, h6⟩ := h
  exact ⟨g, zs, h1, h2, h3, h4, h5, (k.2.2.2.2 g (Array.getElem?_eq_some_iff.1 h6).1 h4 h5).trans h6⟩
/-- What the world holds when m operations have come up. -/
structure TyW (s b k : Nat) (B : World → Prop) (w0 : World) (m : Nat) (w : World) : Prop where
  two : Two s b w0 w
  str : Str w s (k + 2 * m)
  box : B w
theorem Two.alloc {s b : Nat} (w : World) (o : Obj) : Two s b w (w.alloc o) := Two.of_gr ((Gr.refl s w).alloc o)
theorem Two.set {s b j : Nat} {w : World} (u : Value) : Two s b w (w.setCell ⟨b, j, none⟩ u) := by
  have h := (Gr.refl b w).setS (p := ⟨b, j, none⟩) (.inl rfl) u
  exact ⟨h.os, h.tape, h.output, h.sz, fun i hi _ hb => h.block i hi (by intro e; injection e with e; exact hb e)⟩
section
variable {s b off k m : Nat} {B : World → Prop} {w0 w : World}
theorem TyW.pass (h : TyW s b k B w0 m w) : TyW s b k B w0 (m + 1) w := ⟨h.two, h.str.more (by omega), h.box⟩
theorem TyW.alloc (h : TyW s b k B w0 m w) (E : PrBox b off B) (o : Obj) : TyW s b k B w0 (m + 1) (w.alloc o) :=
  ⟨h.two.trans (Two.alloc w o), (h.str.nx ((Nx.refl w).alloc o)).more (by omega), E.same _ _ h.box (((Nx.refl w).alloc o).block b (E.lt _ h.box)) ((Nx.refl w).alloc o).sz⟩
theorem TyW.gr (h : TyW s b k B w0 m w) (E : PrBox b off B) (hb : b ≠ s) {w' : World} (hg : Gr s w w') (hS : Str w' s (k + 2 * (m + 1))) : TyW s b k B w0 (m + 1) w' :=
  ⟨h.two.trans (Two.of_gr hg), hS, E.same _ _ h.box (hg.block b (E.lt _ h.box) (by intro e; injection e with e; exact hb e)) hg.sz⟩
theorem TyW.setS (h : TyW s b k B w0 m w) (E : PrBox b off B) (hb : s < b) {j : Nat} {t : ByteArray} (hj : j = 0) (ht : t.size ≤ 1000) : TyW s b k B w0 (m + 1) (w.setCell ⟨b, off + j, none⟩ (.string t)) :=
  ⟨h.two.trans (Two.set _), (h.str.row (row := some b) ((Gr.refl b w).setS (p := ⟨b, off + j, none⟩) (.inl rfl) _) (fun j h => by injection h with h; omega)).more (by omega), E.setS _ _ _ h.box hj ht⟩
theorem TyW.setI (h : TyW s b k B w0 m w) (E : PrBox b off B) (hb : s < b) {j : Nat} {z : Int} (hj : 1 ≤ j ∧ j ≤ 9) (hz : -1000000000000000 ≤ z ∧ z ≤ 1000000000000000) : TyW s b k B w0 (m + 1) (w.setCell ⟨b, off + j, none⟩ (.int .i64 z)) :=
  ⟨h.two.trans (Two.set _), (h.str.row (row := some b) ((Gr.refl b w).setS (p := ⟨b, off + j, none⟩) (.inl rfl) _) (fun j h => by injection h with h; omega)).more (by omega), E.setI _ _ _ h.box hj hz⟩
end
section
variable {ops : Array Oper} {Q : Exit → Act → World → Prop} {i : Nat} {o : Oper} {a : Act} {w : World} {K : Act → World → Prop}
theorem ty_some (hi : ops[i]? = some o) (hg : o.guard = none) {x y : Operand} {ts : Array TypeId} {s b n k : Nat} (hop : o.op = .call { callee := .value (.func 72), args := #[x, y], argTypes := ts })
    (hx : ShPtr s 0 (a.eval x) w) (hy : ShLT s b n (a.eval y) w) (hn : 0 < n ∧ n < 1000) (hS : Str w s k) (hk : k < 1000000)
    (hK : ∀ (t : ByteArray) (w' : World), t.size ≤ 1000 → Gr s w w' → Str w' s (k + 1) → K (a.put o.dst (.string t)) w') : wpOp Tryz.prog ops Q i K a w := by
  obtain ⟨g, zs, h1, h2, h3, h4, h5, h6⟩ := hy
  have hc := w_Some g zs _ s k w hS hk h6 h4 (by simp) (by intro e; rw [e] at h2; simp at h2; omega) (by omega)
  rw [h2] at hc
  have hr := run_call (a := a) (w := w) hop (enters_of Tryz.func72 (by kernel_rfl) rfl)
  unfold ShPtr at hx
  have e : (#[x, y] : Array Operand).map a.eval = #[.pointer (some ⟨s, 0, none⟩), .slice (some ⟨g, 0, none⟩) n n] := by simp [hx, h1]
  rw [e] at hr
  refine wpOp_call hi hg hr hc ?_
  rintro e w' ⟨t, ht, rfl, hgr, hS'⟩
  exact ⟨_, rfl, hK t w' (h3 t ht) hgr hS'⟩
theorem ty_pick (hi : ops[i]? = some o) (hg : o.guard = none) {x y : Operand} {ts : Array TypeId} {s b n k : Nat} (hop : o.op = .call { callee := .value (.func 7), args := #[x, y], argTypes := ts })
    (hx : ShPtr s 0 (a.eval x) w) (hy : ShLZ s b n (a.eval y) w) (hn : 0 < n ∧ n < 1000) (hS : Str w s k) (hk : k < 1000000)
    (hK : ∀ (z : Int) (w' : World), (-1000000000000000 ≤ z ∧ z ≤ 1000000000000000) → Gr s w w' → Str w' s (k + 1) → K (a.put o.dst (.int .i64 z)) w') : wpOp Tryz.prog ops Q i K a w := by
  obtain ⟨g, zs, h1, h2, h3, h4, h5, h6⟩ := hy
  have hc := w_PickI g zs _ s k w hS hk h6 h4 (by simp) (by intro e; rw [e] at h2; simp at h2; omega) (by omega)
  rw [h2] at hc
  have hr := run_call (a := a) (w := w) hop (enters_of Tryz.func7 (by kernel_rfl) rfl)
  unfold ShPtr at hx
  have e : (#[x, y] : Array Operand).map a.eval = #[.pointer (some ⟨s, 0, none⟩), .slice (some ⟨g, 0, none⟩) n n] := by simp [hx, h1]
  rw [e] at hr
  refine wpOp_call hi hg hr hc ?_
  rintro e w' ⟨t, ht, rfl, hgr, hS'⟩
  exact ⟨_, rfl, hK t w' (h3 t ht) hgr hS'⟩
theorem ty_odd (hi : ops[i]? = some o) (hg : o.guard = none) {x : Operand} {l h : Int} {ts : Array TypeId} {s k : Nat} (hop : o.op = .call { callee := .value (.func 41), args := #[x, .const (.int .i64 l), .const (.int .i64 h)], argTypes := ts })
    (hx : ShPtr s 0 (a.eval x) w) (hl : -4294967296 ≤ l ∧ l ≤ h ∧ h < 4294967296) (hn : h - l < 4294967296) (hS : Str w s k) (hk : k < 900000)
    (hK : ∀ (z : Int) (w' : World), (-1000000000000000 ≤ z ∧ z ≤ 1000000000000000) → Gr s w w' → Str w' s (k + 2) → K (a.put o.dst (.int .i64 z)) w') : wpOp Tryz.prog ops Q i K a w := by
  have hc := w_Odd l h s k w hS hk hl hn
  have hr := run_call (a := a) (w := w) hop (enters_of Tryz.func41 (by kernel_rfl) rfl)
  unfold ShPtr at hx
  have e : (#[x, .const (.int .i64 l), .const (.int .i64 h)] : Array Operand).map a.eval = #[.pointer (some ⟨s, 0, none⟩), .int .i64 l, .int .i64 h] := by simp only [List.map_toArray, List.map_cons, List.map_nil, hx]; rfl
  rw [e] at hr
  refine wpOp_call hi hg hr hc ?_
  rintro e w' ⟨z, hz1, hz2, rfl, hgr, hS'⟩
  exact ⟨_, rfl, hK z w' ⟨by omega, by omega⟩ hgr hS'⟩
end
end Go.Proofs.YthlhomcgjgfdhaaGreatDoor
/- Prices: the program's check. -/
namespace Go.Proofs.YthlhomcgjgfdhaaGreatDoor
open Go.RowKit

/-- Prices in a row. -/
def RdPrices (w : World) (lo : Nat) (A : Option Addr) (ps : List Price) : Prop := Rd w lo A 10 encP ps ∧ ∀ p ∈ ps, p.key.size ≤ 1000000
theorem RdPrices.nx {w w' : World} {lo : Nat} {A : Option Addr} {ps : List Price} (h : RdPrices w lo A ps) (hn : Nx w w') : RdPrices w' lo A ps := ⟨h.1.nx hn, h.2⟩
end Go.Proofs.YthlhomcgjgfdhaaGreatDoor
/- What a trip costs by a price: the program's full. -/
namespace Go.Proofs.YthlhomcgjgfdhaaGreatDoor
open Go.RowKit

abbrev aggJ (t : Jour) : Value := .agg #[.string t.ride, .string t.rider, .slice t.a t.nodes.length t.cap, .int .i64 t.metres, .int .i64 t.from_, .int .i64 t.to_]
end Go.Proofs.YthlhomcgjgfdhaaGreatDoor
/- A drawn statement over a stream and a trip's cells. -/
namespace Go.Proofs.YthlhomcgjgfdhaaGreatDoor
open Go.RowKit

/-- A trip with no giants. -/
structure okJ (x : Jour) : Prop where
  ride : x.ride.size ≤ 1000
  rider : x.rider.size ≤ 1000
  metres : -1000000000000000 ≤ x.metres ∧ x.metres ≤ 1000000000000000
  from_ : -100000000000000 ≤ x.from_ ∧ x.from_ ≤ 100000000000000
  to_ : -1000000000000000 ≤ x.to_ ∧ x.to_ ≤ 1000000000000000
/-- What is known of a trip's cells from off on in block b. -/
structure JoBox (b off : Nat) (B : World → Prop) : Prop where
  get : ∀ w, B w → ∃ x : Jour, okJ x ∧ ∀ j u, (encJ x)[j]? = some u → w.cell? ⟨b, off + j, none⟩ = some u
  frz : ∀ w j, B w → w.frozen? ⟨b, j, none⟩ = false
  lt : ∀ w, B w → b < w.heap.size
  setS : ∀ w j (t : ByteArray), B w → (j = 0 ∨ j = 1) → t.size ≤ 1000 → B (w.setCell ⟨b, off + j, none⟩ (.string t))
  setI : ∀ w j (z : Int), B w → (j = 3 ∨ j = 5) → -1000000000000000 ≤ z ∧ z ≤ 1000000000000000 → B (w.setCell ⟨b, off + j, none⟩ (.int .i64 z))
  same : ∀ w w', B w → w'.heap[b]? = w.heap[b]? → w.heap.size ≤ w'.heap.size → B w'
def ShY (v : Value) (_w : World) : Prop := ∃ z : Int, v = .int .i64 z ∧ -100000000000000 ≤ z ∧ z ≤ 100000000000000
section
variable {s b off k m : Nat} {B : World → Prop} {w0 w : World}
theorem TyW.allocJ (h : TyW s b k B w0 m w) (E : JoBox b off B) (o : Obj) : TyW s b k B w0 (m + 1) (w.alloc o) :=
  ⟨h.two.trans (Two.alloc w o), (h.str.nx ((Nx.refl w).alloc o)).more (by omega), E.same _ _ h.box (((Nx.refl w).alloc o).block b (E.lt _ h.box)) ((Nx.refl w).alloc o).sz⟩
theorem TyW.grJ (h : TyW s b k B w0 m w) (E : JoBox b off B) (hb : b ≠ s) {w' : World} (hg : Gr s w w') (hS : Str w' s (k + 2 * (m + 1))) : TyW s b k B w0 (m + 1) w' :=
  ⟨h.two.trans (Two.of_gr hg), hS, E.same _ _ h.box (hg.block b (E.lt _ h.box) (by intro e; injection e with e; exact hb e)) hg.sz⟩
theorem TyW.setSJ (h : TyW s b k B w0 m w) (E : JoBox b off B) (hb : s < b) {j : Nat} {t : ByteArray} (hj : j = 0 ∨ j = 1) (ht : t.size ≤ 1000) : TyW s b k B w0 (m + 1) (w.setCell ⟨b, off + j, none⟩ (.string t)) :=
  ⟨h.two.trans (Two.set _), (h.str.row (row := some b) ((Gr.refl b w).setS (p := ⟨b, off + j, none⟩) (.inl rfl) _) (fun j h => by injection h with h; omega)).more (by omega), E.setS _ _ _ h.box hj ht⟩
theorem TyW.setIJ (h : TyW s b k B w0 m w) (E : JoBox b off B) (hb : s < b) {j : Nat} {z : Int} (hj : j = 3 ∨ j = 5) (hz : -1000000000000000 ≤ z ∧ z ≤ 1000000000000000) : TyW s b k B w0 (m + 1) (w.setCell ⟨b, off + j, none⟩ (.int .i64 z)) :=
  ⟨h.two.trans (Two.set _), (h.str.row (row := some b) ((Gr.refl b w).setS (p := ⟨b, off + j, none⟩) (.inl rfl) _) (fun j h => by injection h with h; omega)).more (by omega), E.setI _ _ _ h.box hj hz⟩
end
end Go.Proofs.YthlhomcgjgfdhaaGreatDoor
/- strconv.Itoa for every number; the library's table stays. -/
namespace Go.Proofs.YthlhomcgjgfdhaaGreatDoor
open Go.RowKit

abbrev PowTab (w : World) : Prop := Lib.TabIs Tryz.prog w "internal/strconv.uint64pow10" .u64 Lib.pow10Tab
theorem tab_nx {P : Program} {w w' : World} {name : String} {k : IntKind} {zs : List Int} (h : Lib.TabIs P w name k zs) (hn : Nx w w') : Lib.TabIs P w' name k zs := by
  unfold Lib.TabIs World.var? at h ⊢
  cases hg : P.globalNamed name with
  | none => rw [hg] at h; simp at h
  | some g =>
    rw [hg] at h
    simp only [Option.bind_some] at h ⊢
    cases hb : w.heap[g]? with
    | none => rw [hb] at h; simp at h
    | some o =>
      rw [hn.block g (Array.getElem?_eq_some_iff.1 hb).1]
      exact h
def itoaS (n : Int) : ByteArray := ⟨(Lib.itoa n).toArray⟩
theorem w_ItoaN (n : Int) (h0 : -9223372036854775808 ≤ n) (h1 : n ≤ 9223372036854775807) (w : World) (ht : PowTab w) : Calls Tryz.prog 58 #[.int .i64 n] w fun e w' => e = .returned (.string (itoaS n)) ∧ Nx w w' := by
  refine (Any.strconv_Itoa Tryz.itoaM n h0 h1 w ht).mono ?_
  rintro e w' ⟨rfl, k, os, rfl⟩
  exact ⟨rfl, Lays.nx ⟨k, os, rfl⟩⟩
end Go.Proofs.YthlhomcgjgfdhaaGreatDoor
/- Legs: what is wrong with them. -/
namespace Go.Proofs.YthlhomcgjgfdhaaGreatDoor
open Go.RowKit

structure Leg where
  a : Option Addr
  cap : Nat
  rides : List ByteArray
  cents : Int
instance : Inhabited Leg := ⟨⟨none, 0, [], 0⟩⟩
def encLeg (x : Leg) : List Value := [.slice x.a x.rides.length x.cap, .int .i64 x.cents]
/-- Legs, their rides each in a row of its own. -/
def RdLegs (w : World) (lo : Nat) (A : Option Addr) (ls : List Leg) : Prop :=
  Rd w lo A 2 encLeg ls ∧ ∀ x ∈ ls, Rd w lo x.a 1 encS x.rides ∧ Small x.rides ∧ x.rides.length ≤ 100
theorem RdLegs.nx {w w' : World} {lo : Nat} {A : Option Addr} {ls : List Leg} (h : RdLegs w lo A ls) (hn : Nx w w') : RdLegs w' lo A ls :=
  ⟨h.1.nx hn, fun x hx => ⟨(h.2 x hx).1.nx hn, (h.2 x hx).2⟩⟩
end Go.Proofs.YthlhomcgjgfdhaaGreatDoor
/- The stream's legs. -/
namespace Go.Proofs.YthlhomcgjgfdhaaGreatDoor
open Go.RowKit Go.Sort Go.Proofs Go.Shelf

theorem own_form {w : World} {base n m K : Nat} {e : TypeId} {v : Value} {xs : List Value} (hn : n = m) (h : w.ownsRow base e K v m xs) : ∃ A c, v = .slice A n c := by
  subst hn
  rcases h.2 with ⟨rfl, rfl⟩ | ⟨g, cap, cur, rfl, _⟩
  · exact ⟨none, 0, rfl⟩
  · exact ⟨_, _, rfl⟩
theorem rd_ownv {w : World} {base n K cap : Nat} {e : TypeId} {A : Option Addr} {α : Type} {enc : α → List Value} {xs : List α} (hk : ∀ x, (enc x).length = K) (hn : n = xs.length) (h : w.ownsRow base e K (.slice A n cap) n (xs.flatMap enc)) : Rd w base A K enc xs := by
  obtain ⟨A', c', ev, hR, _⟩ := Rd.of_own hk hn h
  cases ev
  exact hR
end Go.Proofs.YthlhomcgjgfdhaaGreatDoor
/- Trips in the making: each one's nodes a row of the call's own. -/
namespace Go.Proofs.YthlhomcgjgfdhaaGreatDoor
open Go.RowKit Go.Sort Go.Proofs Go.Shelf

theorem el_JourS : ElemOf Tryz.prog 58 71 6 80 := ElemOf.mk' (z := .agg #[.string ByteArray.empty, .string ByteArray.empty, .slice none 0 0, .int .i64 0, .int .i64 0, .int .i64 0]) Tryz.underlying58 (by kernel_rfl) rfl
theorem encJ_len (x : Jour) : (encJ x).length = 6 := rfl
theorem encJ_one (x : Jour) : ∀ v ∈ encJ x, v.oneCell' = true := by
  intro v hv; simp [encJ] at hv; rcases hv with rfl | rfl | rfl | rfl | rfl | rfl <;> rfl
/-- A trip that stands fast: its nodes a row of the call's own. -/
structure JRow (w : World) (base : Nat) (x : Jour) : Prop where
  row : w.ownsRow base 9 1 (.slice x.a x.nodes.length x.cap) x.nodes.length (x.nodes.flatMap encS)
  small : Small x.nodes
  few : x.nodes.length ≤ 4
  ok : okJ x
def OwnJours (w : World) (base : Nat) (v : Value) (ts : List Jour) : Prop :=
  w.ownsRow base 71 6 v ts.length (ts.flatMap encJ) ∧ ∀ x ∈ ts, JRow w base x
theorem JRow.gr {w w' : World} {s base : Nat} {x : Jour} (h : JRow w base x) (hn : Gr s w w') (hs : s < base) : JRow w' base x := ⟨own_gr h.row hn hs, h.small, h.few, h.ok⟩
theorem OwnJours.gr {w w' : World} {s base : Nat} {v : Value} {ts : List Jour} (h : OwnJours w base v ts) (hn : Gr s w w') (hs : s < base) : OwnJours w' base v ts :=
  ⟨own_gr h.1 hn hs, fun x hx => (h.2 x hx).gr hn hs⟩
theorem OwnJours.nx {w w' : World} {base : Nat} {v : Value} {ts : List Jour} (h : OwnJours w base v ts) (hn : Nx w w') : OwnJours w' base v ts :=
  ⟨own_nx h.1 hn, fun x hx => ⟨own_nx (h.2 x hx).row hn, (h.2 x hx).small, (h.2 x hx).few, (h.2 x hx).ok⟩⟩
theorem OwnJours.rd {w : World} {base : Nat} {A : Option Addr} {cap : Nat} {ts : List Jour} (h : OwnJours w base (.slice A ts.length cap) ts) : RdJours w base A ts :=
  ⟨rd_ownv encJ_len rfl h.1, fun x hx => by
    have hx' := h.2 x hx
    exact ⟨rd_ownv encS_len rfl hx'.row, hx'.small, by have := hx'.few; omega, by have := hx'.ok.ride; omega, by have := hx'.ok.rider; omega⟩⟩
theorem itoa_small (n : Nat) (h : n ≤ 8) : (itoaS n).size ≤ 1 := by
  have e : Lib.itoa (n : Int) = [UInt8.ofNat (48 + n)] := by
    unfold Lib.itoa
    rw [if_neg (by omega), Lib.decDigits, dif_pos (by simp; omega)]
    simp
  unfold itoaS
  rw [e]
  exact Nat.le_refl 1
theorem own_cap {w : World} {base c K n : Nat} {A : Option Addr} {e : TypeId} {xs : List Value} (h : w.ownsRow base e K (.slice A n c) n xs) : n ≤ c := by
  rcases h.2 with ⟨h1, h2⟩ | ⟨g, cap, cur, h1, _, _, h3, _⟩
  · omega
  · cases h1; exact h3
theorem own_two {w w' : World} {base s b K n : Nat} {e : TypeId} {v : Value} {xs : List Value} (h : w.ownsRow base e K v n xs) (t : Two s b w w') (hs : s < base) (hb : v.ownBlock = none ∨ v.ownBlock ≠ some b) : w'.ownsRow base e K v n xs := by
  refine ⟨h.1, ?_⟩
  rcases h.2 with hn | ⟨g, cap, cur, rfl, hbg, hgg, rest⟩
  · exact .inl hn
  · refine .inr ⟨g, cap, cur, rfl, hbg, ?_, rest⟩
    rw [t.2.2.2.2 g (Array.getElem?_eq_some_iff.1 hgg).1 (by omega) (fun e => by rcases hb with hb | hb <;> simp [Value.ownBlock] at hb; exact hb e)]
    exact hgg
theorem own_here {w w' : World} {base g c K n : Nat} {e : TypeId} {xs : List Value} (h : w.ownsRow base e K (.slice (some ⟨g, 0, none⟩) n c) n xs) (he : w'.heap[g]? = w.heap[g]?) : w'.ownsRow base e K (.slice (some ⟨g, 0, none⟩) n c) n xs := by
  refine ⟨h.1, ?_⟩
  rcases h.2 with ⟨h1, _⟩ | ⟨g', cap, cur, h1, hbg, hgg, rest⟩
  · cases h1
  · cases h1
    exact .inr ⟨g, c, cur, rfl, hbg, he.trans hgg, rest⟩
def skel (x : Jour) : Option Addr × Nat × List ByteArray := (x.a, x.cap, x.nodes)
/-- The trips' row, its nodes as they were. -/
structure BoxJ (g m c base : Nat) (ts : List Jour) (w : World) (us : List Jour) : Prop where
  len : us.length = m
  sk : ∀ x ∈ us, skel x ∈ ts.map skel ∨ x.nodes = []
  ok : ∀ x ∈ us, okJ x
  row : w.ownsRow base 71 6 (.slice (some ⟨g, 0, none⟩) m c) m (us.flatMap encJ)
theorem skel_set {ts us : List Jour} {q : Nat} (h : ∀ x ∈ us, skel x ∈ ts.map skel ∨ x.nodes = []) (hq : q < us.length) {y : Jour} (hy : skel y = skel us[q]) : ∀ x ∈ us.set q y, skel x ∈ ts.map skel ∨ x.nodes = [] := fun x hx => by
  rcases List.mem_or_eq_of_mem_set hx with hx | rfl
  · exact h x hx
  · rw [hy, show x.nodes = us[q].nodes from (Prod.mk.inj (Prod.mk.inj hy).2).2]
    exact h _ (List.getElem_mem hq)
theorem all_set {us : List Jour} {q : Nat} {y : Jour} (h : ∀ x ∈ us, okJ x) (hy : okJ y) : ∀ x ∈ us.set q y, okJ x := fun x hx => by
  rcases List.mem_or_eq_of_mem_set hx with hx | rfl
  · exact h x hx
  · exact hy
theorem boxJ_jo (g m c base q : Nat) (ts : List Jour) (hq : q < m) : JoBox g (q * 6) (fun w => ∃ us, BoxJ g m c base ts w us) where
  get w h := by
    obtain ⟨us, h⟩ := h
    have hq' : q < us.length := by rw [h.len]; exact hq
    exact ⟨us[q], h.ok _ (List.getElem_mem hq'), fun j u hu => own_cell encJ_len h.len h.row q hq' j u hu⟩
  frz w j h := by obtain ⟨us, h⟩ := h; exact h.row.frozenAt j
  lt w h := by obtain ⟨us, h⟩ := h; exact (h.row.lt g rfl).2
  setS w j t h hj ht := by
    obtain ⟨us, h⟩ := h
    have hq' : q < us.length := by rw [h.len]; exact hq
    have hx := h.ok _ (List.getElem_mem hq')
    rcases hj with rfl | rfl
    · exact ⟨us.set q { us[q] with ride := t }, by rw [List.length_set]; exact h.len, skel_set h.sk hq' rfl, all_set h.ok ⟨ht, hx.rider, hx.metres, hx.from_, hx.to_⟩, own_set encJ_len h.len h.row q hq' 0 (by omega) (.string t) _ rfl _ rfl⟩
    · exact ⟨us.set q { us[q] with rider := t }, by rw [List.length_set]; exact h.len, skel_set h.sk hq' rfl, all_set h.ok ⟨hx.ride, ht, hx.metres, hx.from_, hx.to_⟩, own_set encJ_len h.len h.row q hq' 1 (by omega) (.string t) _ rfl _ rfl⟩
  setI w j z h hj hz := by
    obtain ⟨us, h⟩ := h
    have hq' : q < us.length := by rw [h.len]; exact hq
    have hx := h.ok _ (List.getElem_mem hq')
    rcases hj with rfl | rfl
    · exact ⟨us.set q { us[q] with metres := z }, by rw [List.length_set]; exact h.len, skel_set h.sk hq' rfl, all_set h.ok ⟨hx.ride, hx.rider, hz, hx.from_, hx.to_⟩, own_set encJ_len h.len h.row q hq' 3 (by omega) (.int .i64 z) _ rfl _ rfl⟩
    · exact ⟨us.set q { us[q] with to_ := z }, by rw [List.length_set]; exact h.len, skel_set h.sk hq' rfl, all_set h.ok ⟨hx.ride, hx.rider, hx.metres, hx.from_, hz⟩, own_set encJ_len h.len h.row q hq' 5 (by omega) (.int .i64 z) _ rfl _ rfl⟩
  same w w' h e _ := by obtain ⟨us, h⟩ := h; exact ⟨us, h.len, h.sk, h.ok, own_here h.row e⟩
/-- What is read of the trips at the end. -/
theorem BoxJ.rd {g m c base s : Nat} {ts us : List Jour} {w w' : World} (h : BoxJ g m c base ts w' us) (hr : ∀ x ∈ ts, JRow w base x) (ho : w.ownsRow base 71 6 (.slice (some ⟨g, 0, none⟩) m c) m (ts.flatMap encJ)) (t : Two s g w w') (hs : s < base) : RdJours w' base (some ⟨g, 0, none⟩) us :=
  ⟨rd_ownv encJ_len h.len.symm h.row, fun x hx => by
    have hx' := h.ok x hx
    rcases h.sk x hx with h1 | h1
    · obtain ⟨y, hy, e⟩ := List.mem_map.1 h1
      have hy' := hr y hy
      obtain ⟨e1, e2⟩ := Prod.mk.inj e
      obtain ⟨e2, e3⟩ := Prod.mk.inj e2
      have r := own_two hy'.row t hs (own_apart hy'.row ho (by decide))
      rw [e1, e2, e3] at r
      exact ⟨rd_ownv encS_len rfl r, e3 ▸ hy'.small, by have := hy'.few; rw [← e3]; omega, by have := hx'.ride; omega, by have := hx'.rider; omega⟩
    · rw [h1]
      exact ⟨Rd.nil, (fun x hx => by cases hx), by simp, by have := hx'.ride; omega, by have := hx'.rider; omega⟩⟩
/-- One trip loses its nodes. -/
theorem BoxJ.bare {g m c base q : Nat} {ts us : List Jour} {w : World} (h : BoxJ g m c base ts w us) (hq : q < us.length) : BoxJ g m c base ts (w.setCell ⟨g, q * 6 + 2, none⟩ (.slice none 0 0)) (us.set q { us[q] with a := none, cap := 0, nodes := [] }) := by
  have hx := h.ok _ (List.getElem_mem hq)
  exact ⟨by rw [List.length_set]; exact h.len, fun x hx => by
    rcases List.mem_or_eq_of_mem_set hx with hx | rfl
    · exact h.sk x hx
    · exact .inr rfl, all_set h.ok ⟨hx.ride, hx.rider, hx.metres, hx.from_, hx.to_⟩, own_set encJ_len h.len h.row q hq 2 (by omega) (.slice none 0 0) _ rfl _ rfl⟩

end Go.Proofs.YthlhomcgjgfdhaaGreatDoor
/- Trips read: what the closures keep; strings.Split with a row of its own. -/
namespace Go.Proofs.YthlhomcgjgfdhaaGreatDoor
open Go.RowKit

theorem Rd.sub {α : Type} {w : World} {lo K b off : Nat} {enc : α → List Value} {xs : List α} (h : Rd w lo (some ⟨b, off, none⟩) K enc xs) (q n : Nat) : Rd w lo (some ⟨b, off + q * K, none⟩) K enc ((xs.drop q).take n) := fun hp => by
  have hp' : 0 < xs.length := by rw [List.length_take, List.length_drop] at hp; omega
  obtain ⟨b', off', e, h1, hb, hc⟩ := h hp'
  injection e with e; injection e with e1 e2
  subst e1; subst e2
  refine ⟨b, _, rfl, h1, hb, fun i x hx j u hu => ?_⟩
  have hi : i < ((xs.drop q).take n).length := (List.getElem?_eq_some_iff.1 hx).1
  rw [List.length_take] at hi
  rw [List.getElem?_take_of_lt (by omega), List.getElem?_drop] at hx
  have h2 := hc (q + i) x hx j u hu
  rw [show off + q * K + i * K + j = off + (q + i) * K + j by rw [Nat.add_mul]; omega]
  exact h2
theorem w_SplitO (s : ByteArray) (c : UInt8) (hs : s.size ≤ 1000000) (w : World) (hM : MaxI w) :
    Calls Tryz.prog 70 #[.string s, .string ⟨#[c]⟩] w fun e w' => ∃ (ws : List ByteArray) (B : Option Addr), dataL ws = Lib.split s.data.toList [c] ∧ e = .returned (.slice B ws.length ws.length) ∧ w'.ownsRow w.heap.size 9 1 (.slice B ws.length ws.length) ws.length (ws.flatMap encS) ∧ ws.length ≤ s.size + 1 ∧ (∀ x ∈ ws, x.size ≤ s.size) ∧ Nx w w' := by
  obtain ⟨m, hm⟩ := hM
  have hcon := Any.strings_Split Tryz.splitStr (by kernel_rfl) s ⟨#[c]⟩ m w (by omega) hm (Nat.le_refl 1)
  change Calls Tryz.prog 70 _ _ _ at hcon
  refine hcon.mono ?_
  rintro e w' ⟨rfl, rfl⟩
  obtain ⟨ws, hws⟩ : ∃ ws, ws = Lib.splitB ⟨#[c]⟩ 0 (Lib.countB s ⟨#[c]⟩) s := ⟨_, rfl⟩
  have hd : dataL ws = Lib.split s.data.toList [c] := by
    rw [hws]
    unfold dataL
    rw [Lib.splitB_data]
    rfl
  have hl : ws.length = Lib.countB s ⟨#[c]⟩ + 1 := by rw [hws]; exact Lib.splitB_all ⟨#[c]⟩ (Nat.le_refl 1) 0 _ s rfl
  have hle : ws.length ≤ s.size + 1 := by
    rw [← dataL_len, hd, ← len_data s]; exact split_count c _ _ (Nat.le_refl _)
  rw [← hws, ← hl]
  refine ⟨ws, _, hd, rfl, ?_, hle, fun x hx => ?_, (Nx.refl w).alloc _⟩
  · have e : ∀ l : List ByteArray, l.map Value.string = l.flatMap encS := fun l => by
      induction l with
      | nil => rfl
      | cons x l ih => rw [List.map_cons, List.flatMap_cons, ih]; rfl
    have h := own_lit (e := 9) (K := 1) (enc := encS) (xs := ws) (n := ws.length) (m := ws.length) (base := w.heap.size) encS_len (hnew (w := w) (o := .cells (ws.map Value.string).toArray 9 (0, 0)) rfl) (Nat.le_refl _) (by simpa using e ws) rfl (Nat.le_refl _) (by unfold maxLen; omega)
    rw [List.take_length] at h
    exact h
  · have h1 := (join_split c _ s.data.toList (Nat.le_refl _)).1
    have h2 := piece_le c (Lib.split s.data.toList [c]) x.data.toList (by rw [← hd]; exact List.mem_map.2 ⟨x, hx, rfl⟩)
    rw [h1, len_data, len_data] at h2
    exact h2
theorem MaxI.grb {w w1 W : World} {b : Nat} (h : MaxI w) (hb : w.heap.size ≤ b) (hn : Nx w w1) (hg : Gr b w1 W) : MaxI W := h.gr ((Gr.of_nx hn).trans hg) hb
theorem mem_nil {ws : List ByteArray} : memB ws ⟨#[]⟩ = true ↔ [] ∈ dataL ws := by
  rw [memB_iff]
  unfold dataL
  rw [List.mem_map]
  constructor
  · intro h; exact ⟨_, h, rfl⟩
  · rintro ⟨s, hs, e⟩
    have : s = ⟨#[]⟩ := ba_eq e
    rw [← this]; exact hs
def okLJ (s : ByteArray) : Bool := (readJ s.data.toList).isSome
/-- A trip that is read: its nodes a row of the call's own. -/
structure JRd (W : World) (base : Nat) (x : Jour) : Prop where
  row : W.ownsRow base 9 1 (.slice x.a x.nodes.length x.cap) x.nodes.length (x.nodes.flatMap encS)
  small : Small x.nodes
  few : x.nodes.length ≤ 2000
  ride : x.ride.size ≤ 1000000
  rider : x.rider.size ≤ 1000000
/-- The closure's box: what is read so far. -/
def IJ (b : Nat) (w1 : World) (d : List ByteArray) (W : World) : Prop :=
  ∃ (L : List Jour) (v : Value), d.map (fun s => readJ s.data.toList) = L.map (fun x => some (coreJ x)) ∧ W.heap[b]? = some (.cells #[v] 58 (0, 0)) ∧ W.ownsRow w1.heap.size 71 6 v L.length (L.flatMap encJ) ∧ (∀ x ∈ L, JRd W w1.heap.size x) ∧ b < w1.heap.size
theorem JRd.nx {W W' : World} {base : Nat} {x : Jour} (h : JRd W base x) (hn : Nx W W') : JRd W' base x := ⟨own_nx h.row hn, h.small, h.few, h.ride, h.rider⟩
/-- A line that is read, by its words. -/
theorem readJ_words {line : ByteArray} {s0 s1 s2 s3 s4 s5 : ByteArray} (h : wordsL 6 line.data.toList = some (dataL [s0, s1, s2, s3, s4, s5])) :
    (numsS 12 [s2, s3, s4] = none → okLJ line = false) ∧ (∀ m x y (ws : List ByteArray), numsS 12 [s2, s3, s4] = some [m, x, y] → dataL ws = Lib.split s5.data.toList [44] → (memB ws ⟨#[]⟩ = true → okLJ line = false) ∧ (memB ws ⟨#[]⟩ = false → ∀ a c, readJ line.data.toList = some (coreJ ⟨s0, s1, a, c, ws, m, x, y⟩))) := by
  have e : dataL [s0, s1, s2, s3, s4, s5] = [s0.data.toList, s1.data.toList, s2.data.toList, s3.data.toList, s4.data.toList, s5.data.toList] := rfl
  rw [e] at h
  refine ⟨fun hn => ?_, fun m x y ws hn hd => ⟨fun hm => ?_, fun hm a c => ?_⟩⟩
  · unfold okLJ readJ
    rw [h]
    simp only
    rw [show numsL 12 [s2.data.toList, s3.data.toList, s4.data.toList] = none from hn]
    rfl
  · unfold okLJ readJ
    rw [h]
    simp only
    rw [show numsL 12 [s2.data.toList, s3.data.toList, s4.data.toList] = some [m, x, y] from hn]
    simp only
    rw [← hd, if_pos (mem_nil.1 hm)]; rfl
  · unfold readJ
    rw [h]
    simp only
    rw [show numsL 12 [s2.data.toList, s3.data.toList, s4.data.toList] = some [m, x, y] from hn]
    simp only
    rw [← hd, if_neg (fun hc => by rw [mem_nil.2 hc] at hm; cases hm)]
    rfl
theorem okLJ_no {line : ByteArray} (h : wordsL 6 line.data.toList = none) : okLJ line = false := by unfold okLJ readJ; rw [h]; rfl
theorem okLJ_yes {line : ByteArray} {t : TripC} (h : readJ line.data.toList = some t) : okLJ line = true := by unfold okLJ; rw [h]; rfl
end Go.Proofs.YthlhomcgjgfdhaaGreatDoor
/- The drawn statements of the stream's price. -/
namespace Go.Proofs.YthlhomcgjgfdhaaGreatDoor
open Go.RowKit

/-- Region r, wherever it stands. -/
def findReg (r : Nat) : Code → Option Code
  | .region n o b => bif Nat.beq n r then some (.region n o b) else none
  | .seq a b => match findReg r a with | some c => some c | none => findReg r b
  | .cond _ a b => match findReg r a with | some c => some c | none => findReg r b
  | .scope c => findReg r c
  | .block _ c => findReg r c
  | .loop c => findReg r c
  | _ => none
end Go.Proofs.YthlhomcgjgfdhaaGreatDoor
