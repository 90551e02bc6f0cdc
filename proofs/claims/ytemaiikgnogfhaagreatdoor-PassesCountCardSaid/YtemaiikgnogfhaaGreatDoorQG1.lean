/- Words for memory, of no program: a slice that reads as a list of elements of K cells, the stream's object, worlds that only grow. -/
import Derived.WalkKit
import Derived.WalkSpells
import Derived.WalkLawsBesides
import Derived.IntWalk
import Derived.Maps.Own
import Derived.Maps.OwnOps
import Derived.Maps.Views
import Derived.Maps.RangeWalk
import Derived.Test.YtemaiikgnogfhaaGreatDoorQG0
import Derived.Test.YtemaiikgnogfhaaGreatDoorRows
import Derived.Deep.QuietTactic
import Derived.BigQuiet
import Derived.Outline
import Derived.WideKeyEntry
namespace Go.Proofs.YtemaiikgnogfhaaGreatDoor
open Go.RowKit

theorem hide {p : Prop} (h : p) : Hid p := h

/-- Nothing that was there has turned. -/
def Nx (w w' : World) : Prop := Below w.heap.size w w'
theorem Nx.refl (w : World) : Nx w w := Below.refl _ _
theorem Nx.trans {a b c : World} (h : Nx a b) (k : Nx b c) : Nx a c := Below.trans h (Below.mono k h.size)
theorem Nx.drew {a w : World} (h : Nx a w) : Nx a w.drew := Below.drew h
theorem Nx.drewN {a w : World} (h : Nx a w) (n : Nat) : Nx a (w.drewN n) := below_drewN h n
theorem Nx.alloc {a w : World} (h : Nx a w) (o : Obj) : Nx a (w.alloc o) := Below.alloc h h.size o
theorem Nx.setCell {a w : World} (h : Nx a w) {p : Addr} (hp : a.heap.size ≤ p.block) (u : Value) : Nx a (w.setCell p u) := Below.setCell h hp u
theorem Nx.sz {a w : World} (h : Nx a w) : a.heap.size ≤ w.heap.size := h.size
theorem Nx.grown {a w w' : World} {row : Option Nat} (h : Nx a w) (hg : w.grownBy w' row) (hr : ∀ k, row = some k → a.heap.size ≤ k) : Nx a w' := Below.grown h hg h.size hr
theorem Nx.gr {a w : World} (h : Nx a w) (row : Option Nat) : a.grownBy w row := ⟨h.os, h.tape, h.output, h.size, fun i hi _ => h.block i hi⟩

/-- Only block s, and what is new, has turned. -/
def Gr (s : Nat) (a w : World) : Prop := a.grownBy w (some s)
theorem Gr.refl (s : Nat) (w : World) : Gr s w w := World.grownBy.refl w _
theorem Gr.of_nx {s : Nat} {a w : World} (h : Nx a w) : Gr s a w := h.gr _
theorem Gr.sz {s : Nat} {a w : World} (h : Gr s a w) : a.heap.size ≤ w.heap.size := World.grownBy.size h
theorem Gr.trans {s : Nat} {a b c : World} (h : Gr s a b) (k : Gr s b c) : Gr s a c :=
  ⟨k.os.trans h.os, k.tape.trans h.tape, k.output.trans h.output, Nat.le_trans h.size k.size, fun i hi hn => (k.block i (Nat.lt_of_lt_of_le hi h.size) hn).trans (h.block i hi hn)⟩
theorem Gr.then_nx {s : Nat} {a b c : World} (h : Gr s a b) (k : Nx b c) : Gr s a c := h.trans (Gr.of_nx k)
theorem Gr.drew {s : Nat} {a w : World} (h : Gr s a w) : Gr s a w.drew := h.then_nx (Nx.refl _).drew
theorem Gr.drewN {s : Nat} {a w : World} (h : Gr s a w) (n : Nat) : Gr s a (w.drewN n) := h.then_nx ((Nx.refl _).drewN n)
theorem Gr.alloc {s : Nat} {a w : World} (h : Gr s a w) (o : Obj) : Gr s a (w.alloc o) := h.then_nx ((Nx.refl _).alloc o)
theorem Gr.setS {s : Nat} {a w : World} (h : Gr s a w) {p : Addr} (hp : p.block = s ∨ a.heap.size ≤ p.block) (u : Value) : Gr s a (w.setCell p u) :=
  ⟨h.os, h.tape, h.output, by have := h.sz; simpa [World.setCell] using this, fun i hi hne => (Below.heap_setCell w p u i (by
    rintro rfl
    rcases hp with hp | hp
    · exact hne (by rw [hp])
    · omega)).trans (h.block i hi hne)⟩
theorem Gr.grown {s : Nat} {a w w' : World} {row : Option Nat} (h : Gr s a w) (hg : w.grownBy w' row) (hr : ∀ k, row = some k → k = s ∨ a.heap.size ≤ k) : Gr s a w' :=
  ⟨hg.os.trans h.os, hg.tape.trans h.tape, hg.output.trans h.output, Nat.le_trans h.size hg.size, fun i hi hne => (hg.block i (Nat.lt_of_lt_of_le hi h.size) (fun e => by
    rcases hr i e.symm with h1 | h1
    · exact hne (by rw [h1])
    · omega)).trans (h.block i hi hne)⟩
theorem Nx.of_gr {s : Nat} {a w : World} (h : Gr s a w) (hs : a.heap.size ≤ s) : Nx a w :=
  ⟨h.os, h.tape, h.output, h.size, fun i hi => h.block i hi (by intro e; injection e with e; omega)⟩

/-- A slice's value with address A reads as xs, each element K cells; its block lies from lo on. -/
def Rd {α : Type} (w : World) (lo : Nat) (A : Option Addr) (K : Nat) (enc : α → List Value) (xs : List α) : Prop :=
  0 < xs.length → ∃ b off, A = some ⟨b, off, none⟩ ∧ lo ≤ b ∧ b < w.heap.size ∧ ∀ i x, xs[i]? = some x → ∀ j u, (enc x)[j]? = some u → w.cell? ⟨b, off + i * K + j, none⟩ = some u
section
variable {α : Type} {w w' : World} {lo lo' K : Nat} {A : Option Addr} {enc : α → List Value} {xs : List α}
theorem Rd.nil : Rd w lo A K enc ([] : List α) := fun h => absurd h (by simp)
theorem Rd.nx (h : Rd w lo A K enc xs) (hn : Nx w w') : Rd w' lo A K enc xs := fun hp => by
  obtain ⟨b, off, e, hl, hb, hc⟩ := h hp
  exact ⟨b, off, e, hl, Nat.lt_of_lt_of_le hb hn.sz, fun i x hx j u hu => (Below.cell hn (p := ⟨b, _, none⟩) hb).trans (hc i x hx j u hu)⟩
theorem Rd.gr {s : Nat} (h : Rd w lo A K enc xs) (hn : Gr s w w') (hs : s < lo) : Rd w' lo A K enc xs := fun hp => by
  obtain ⟨b, off, e, hl, hb, hc⟩ := h hp
  exact ⟨b, off, e, hl, Nat.lt_of_lt_of_le hb hn.sz, fun i x hx j u hu => World.grownBy.cell (row := some s) hn (hc i x hx j u hu) (by simp; omega)⟩
theorem Rd.low (h : Rd w lo A K enc xs) (hl : lo' ≤ lo) : Rd w lo' A K enc xs := fun hp => by
  obtain ⟨b, off, e, h1, hb, hc⟩ := h hp
  exact ⟨b, off, e, Nat.le_trans hl h1, hb, hc⟩
/-- For a loop: the block and all the cells, in the round's world. -/
theorem Rd.open_ (h : Rd w lo A K enc xs) (hn : Nx w w') (hp : 0 < xs.length) : ∃ b off, A = some ⟨b, off, none⟩ ∧ lo ≤ b ∧ b < w.heap.size ∧ b < w'.heap.size ∧ ∀ i (hi : i < xs.length) j u, (enc xs[i])[j]? = some u → w'.cell? ⟨b, off + i * K + j, none⟩ = some u := by
  obtain ⟨b, off, e, hl, hb, hc⟩ := h hp
  exact ⟨b, off, e, hl, hb, Nat.lt_of_lt_of_le hb hn.sz, fun i hi j u hu => (Below.cell hn (p := ⟨b, _, none⟩) hb).trans (hc i _ (List.getElem?_eq_getElem hi) j u hu)⟩
theorem flat_get (hk : ∀ x, (enc x).length = K) (i : Nat) (x : α) (hx : xs[i]? = some x) (j : Nat) (u : Value) (hu : (enc x)[j]? = some u) : (xs.flatMap enc)[i * K + j]? = some u := by
  induction xs generalizing i with
  | nil => simp at hx
  | cons y ys ih =>
    rw [List.flatMap_cons]
    rcases i with _ | i
    · simp at hx; subst hx
      rw [List.getElem?_append_left (by have := (List.getElem?_eq_some_iff.1 hu).1; omega)]
      simpa using hu
    · have hx' : ys[i]? = some x := by simpa using hx
      rw [List.getElem?_append_right (by rw [hk, Nat.add_mul]; omega), hk]
      have e : (i + 1) * K + j - K = i * K + j := by rw [Nat.add_mul]; omega
      rw [e]
      exact ih i hx'
theorem flat_len (hk : ∀ x, (enc x).length = K) : (xs.flatMap enc).length = xs.length * K := by
  induction xs with
  | nil => simp
  | cons y ys ih => rw [List.flatMap_cons, List.length_append, ih, hk, List.length_cons, Nat.add_mul]; omega
/-- A row of the call's own, read. -/
theorem Rd.of_own {base : Nat} {e : TypeId} {v : Value} {n : Nat} (hk : ∀ x, (enc x).length = K) (hn : n = xs.length) (h : w.ownsRow base e K v n (xs.flatMap enc)) :
    ∃ A c, v = .slice A xs.length c ∧ Rd w base A K enc xs ∧ (∀ a, A = some a → ∃ g, a = ⟨g, 0, none⟩ ∧ base ≤ g ∧ g < w.heap.size) := by
  subst hn
  rcases h.2 with ⟨rfl, h0⟩ | ⟨g, cap, cur, rfl, hg, hh, hr⟩
  · have hx : xs = [] := List.eq_nil_of_length_eq_zero h0
    subst hx
    exact ⟨none, 0, rfl, Rd.nil, by simp⟩
  · have hlt := (h.lt g rfl)
    refine ⟨some ⟨g, 0, none⟩, cap, rfl, fun _ => ⟨g, 0, rfl, hlt.1, hlt.2, fun i x hx j u hu => ?_⟩, fun a ha => ⟨g, by injection ha with ha; exact ha.symm, hlt.1, hlt.2⟩⟩
    have hil : i < xs.length := (List.getElem?_eq_some_iff.1 hx).1
    have hjl : j < K := by have := (List.getElem?_eq_some_iff.1 hu).1; rw [hk] at this; exact this
    have h2 := h.cellAt (i * K + j) (by
      have : (i + 1) * K ≤ xs.length * K := Nat.mul_le_mul_right K hil
      rw [Nat.add_mul] at this; omega)
    rw [Nat.zero_add, h2]
    exact flat_get hk i x hx j u hu
end

theorem heap_set {w : World} {s i : Nat} {cs : Array Value} {t : TypeId} {u : Value} (h : w.heap[s]? = some (.cells cs t (0, 0))) : (w.setCell ⟨s, i, none⟩ u).heap[s]? = some (.cells (cs.setIfInBounds i u) t (0, 0)) := by
  simp [World.setCell, Array.getElem?_modify, h]
theorem cell_set {w : World} {s i b o : Nat} {u : Value} (h : b ≠ s) : (w.setCell ⟨s, i, none⟩ u).cell? ⟨b, o, none⟩ = w.cell? ⟨b, o, none⟩ :=
  World.cell?_setCell_other _ _ _ _ (by intro e; injection e with e1 e2; omega)

theorem flipc {P : Program} {f : FuncId} {args : Array Value} {w : World} {v : Value} (h : Calls P f args w (fun e w' => e = .returned v ∧ w = w')) : Calls P f args w (fun e w'' => e = .returned v ∧ w'' = w) :=
  h.mono fun _ _ ⟨a, b⟩ => ⟨a, b.symm⟩
/-- A literal row. -/
theorem Rd.lit {α : Type} {w : World} {lo g K : Nat} {enc : α → List Value} {xs : List α} {cs : Array Value} {t : TypeId} (hg : w.heap[g]? = some (.cells cs t (0, 0))) (hlo : lo ≤ g) (hk : ∀ x, (enc x).length = K) (hcs : cs.toList = xs.flatMap enc) :
    Rd w lo (some ⟨g, 0, none⟩) K enc xs := fun _ => by
  have hlt : g < w.heap.size := by
    rcases Nat.lt_or_ge g w.heap.size with hlt | hge
    · exact hlt
    · rw [Array.getElem?_eq_none hge] at hg; cases hg
  refine ⟨g, 0, rfl, hlo, hlt, fun i x hx j u hu => ?_⟩
  rw [Nat.zero_add, cell_of_row w g _ cs t _ hg, ← Array.getElem?_toList, hcs]
  exact flat_get hk i x hx j u hu

theorem hnew {w : World} {o : Obj} {g : Nat} (hg : g = w.heap.size) : (w.alloc o).heap[g]? = some o := by subst hg; exact heap_alloc_new w o
theorem hnew_drew {w : World} {o : Obj} {g : Nat} (hg : g = w.heap.size) : (w.alloc o).drew.heap[g]? = some o := hnew hg
/-- t is a slice type over e, whose values take K cells and so many bytes. -/
structure ElemOf (P : Program) (t e : TypeId) (K bytes : Nat) : Prop where
  ht : P.underlying t = some (.slice e)
  hi : ∃ i z, P.info? e = some i ∧ i.zero = some z ∧ i.size = K ∧ i.bytes = bytes ∧ z.cells.size = K
theorem ElemOf.mk' {P : Program} {t e : TypeId} {K bytes : Nat} {z : Value} (ht : P.underlying t = some (.slice e)) (h : (P.info? e).map (fun i => (i.zero, i.size, i.bytes)) = some (some z, K, bytes)) (hz : z.cells.size = K) : ElemOf P t e K bytes := by
  obtain ⟨i, h1, h2, h3, h4⟩ := info_parts h
  exact ⟨ht, i, z, h1, h2, h3, h4, hz⟩
theorem news_of {w : World} {g : Nat} {cs : Array Value} {e : TypeId} (h : w.heap[g]? = some (.cells cs e (0, 0))) {l : List Value} (hl : cs.toList = l) : ∀ j u, l[j]? = some u → w.cell? ((⟨g, 0, none⟩ : Addr).add j) = some u := by
  intro j u hu
  have e1 : (⟨g, 0, none⟩ : Addr).add j = ⟨g, j, none⟩ := by unfold Addr.add; split <;> simp_all
  rw [e1, cell_of_row w g j cs e _ h, ← Array.getElem?_toList, hl]
  exact hu
/-- 'out = append(out, y)' on a row of the call's own. -/
theorem wpApp {α : Type} {P : Program} {w : World} {ops : Array Oper} {rest : List Oper} {o : Oper} {a : Act} {Q : Exit → Act → World → Prop} (hgd : o.guard = none) (s x : Operand) (t : TypeId)
    (ho : o.op = .call { callee := .builtin .append, args := #[s, x], argTypes := #[t, t] })
    {e : TypeId} {K bytes : Nat} (E : ElemOf P t e K bytes) (enc : α → List Value) (hk : ∀ x, (enc x).length = K) (h1c : ∀ x, ∀ v ∈ enc x, v.oneCell' = true) (hK : 0 < K) (hB : bytes ≤ 1000)
    (base : Nat) (v : Value) (L : List α) (hs : a.eval s = v) (hown : w.ownsRow base e K v L.length (L.flatMap enc)) (g : Nat) (y : α) (cs : Array Value) (hx : a.eval x = .slice (some ⟨g, 0, none⟩) 1 1)
    (hblk : w.heap[g]? = some (.cells cs e (0, 0))) (hcs : cs.toList = enc y) (hlen : L.length ≤ 10000000) (hbase : base ≤ w.heap.size)
    (h : ∀ v' w', w'.ownsRow base e K v' (L ++ [y]).length ((L ++ [y]).flatMap enc) → w.grownBy w' v.ownBlock → wpList P ops Q rest (a.put o.dst v') w') : wpList P ops Q (o :: rest) a w := by
  obtain ⟨i, z, h1, h2, h3, h4, h5⟩ := E.hi
  refine wpList_append_own w hgd s x t ho base e i z K bytes E.ht h1 h2 h3 h4 h5 hK v L.length _ hs hown ⟨g, 0, none⟩ 1 1 (enc y) hx (by rw [hk]; omega) (news_of hblk hcs) (h1c y) (by unfold maxLen; omega) ?_ hbase ?_
  · have : (L.length + 1) * bytes ≤ 10000001 * 1000 := Nat.mul_le_mul (by omega) hB
    omega
  · intro v' w' ho' hg' _
    exact h v' w' (by simpa using ho') hg'
theorem own_blk_lt {w : World} {base : Nat} {e : TypeId} {size : Nat} {v : Value} {n : Nat} {xs : List Value} (h : w.ownsRow base e size v n xs) : ∀ k, v.ownBlock = some k → base ≤ k := fun k hk => (h.lt k hk).1
theorem own_nx {w w' : World} {base : Nat} {e : TypeId} {size : Nat} {v : Value} {n : Nat} {xs : List Value} (h : w.ownsRow base e size v n xs) (hn : Nx w w') : w'.ownsRow base e size v n xs :=
  h.kept (hn.gr none) (by cases hv : v.ownBlock <;> simp)
theorem own_gr {w w' : World} {s base : Nat} {e : TypeId} {size : Nat} {v : Value} {n : Nat} {xs : List Value} (h : w.ownsRow base e size v n xs) (hn : w.grownBy w' (some s)) (hs : s < base) : w'.ownsRow base e size v n xs :=
  h.kept hn (.inr fun e => by have := own_blk_lt h s e; omega)

theorem flat_set {α : Type} {enc : α → List Value} {K : Nat} (hk : ∀ x, (enc x).length = K) : ∀ (xs : List α) (i : Nat) (hi : i < xs.length) (x' : α) (j : Nat) (_ : j < K) (u : Value), enc x' = (enc xs[i]).set j u → (xs.flatMap enc).set (i * K + j) u = (xs.set i x').flatMap enc
  | y :: ys, 0, hi, x', j, hj, u, h => by
    rw [List.set_cons_zero, List.flatMap_cons, List.flatMap_cons, Nat.zero_mul, Nat.zero_add, List.set_append_left _ _ (by rw [hk]; exact hj), h]; rfl
  | y :: ys, i + 1, hi, x', j, hj, u, h => by
    rw [List.set_cons_succ, List.flatMap_cons, List.flatMap_cons, List.set_append_right _ _ (by rw [hk, Nat.add_mul]; omega), hk, show (i + 1) * K + j - K = i * K + j by rw [Nat.add_mul]; omega]
    rw [flat_set hk ys i (by simpa using hi) x' j hj u (by simpa using h)]
/-- A field of a row's element is stored. -/
theorem own_set {α : Type} {enc : α → List Value} {K : Nat} (hk : ∀ x, (enc x).length = K) {w : World} {base g cap n : Nat} {e : TypeId} {xs : List α} (hn : xs.length = n) (h : w.ownsRow base e K (.slice (some ⟨g, 0, none⟩) n cap) n (xs.flatMap enc))
    (i : Nat) (hi : i < xs.length) (j : Nat) (hj : j < K) (u : Value) (x' : α) (hx : enc x' = (enc xs[i]).set j u) (off : Nat) (ho : off = i * K + j) :
    (w.setCell ⟨g, off, none⟩ u).ownsRow base e K (.slice (some ⟨g, 0, none⟩) n cap) n ((xs.set i x').flatMap enc) := by
  subst ho hn
  rw [← flat_set hk xs i hi x' j hj u hx]
  exact (h.stored (i * K + j) u).1
/-- A field of a row's element, read. -/
theorem own_cell {α : Type} {enc : α → List Value} {K : Nat} (hk : ∀ x, (enc x).length = K) {w : World} {base g cap n : Nat} {e : TypeId} {xs : List α} (hn : xs.length = n) (h : w.ownsRow base e K (.slice (some ⟨g, 0, none⟩) n cap) n (xs.flatMap enc))
    (i : Nat) (hi : i < xs.length) (j : Nat) (u : Value) (hu : (enc xs[i])[j]? = some u) : w.cell? ⟨g, i * K + j, none⟩ = some u := by
  subst hn
  have hj : j < K := by have := (List.getElem?_eq_some_iff.1 hu).1; rw [hk] at this; exact this
  rw [h.cellAt (i * K + j) (by
      have : (i + 1) * K ≤ xs.length * K := Nat.mul_le_mul_right K hi
      rw [Nat.add_mul] at this; omega)]
  exact flat_get hk i _ (List.getElem?_eq_getElem hi) j u hu
end Go.Proofs.YtemaiikgnogfhaaGreatDoor
/- A map of integers in which it counts whether a key is there, said of a plain function. Of no program. -/
namespace Go.Proofs.YtemaiikgnogfhaaGreatDoor
open Go.RowKit Go.Maps

section
variable {κ : Type} {P : Program} {K E : TypeId} {ek : κ → Value} {dom : κ → Prop}

/-- The map's datum D holds f k at key k, if it has the key at all; its keys lie in dom. -/
structure MoD (P : Program) (K : TypeId) (ek : κ → Value) (dom : κ → Prop) (D : DataW Unit) (f : κ → Option Int) : Prop where
  isMap : IsMap D
  at_ : ∀ k l, dom k → keyOf P K (ek k) = some l → ∀ z, D.atKey l z = (match f k with | some v => .lit (.int .i64 v) | none => z)
  keys : ∀ l, has D l = true → ∃ k, dom k ∧ keyOf P K (ek k) = some l
  dm : ∀ k, (f k).isSome = true → dom k

/-- Block b is such a map. -/
def MoI (P : Program) (K E : TypeId) (ek : κ → Value) (dom : κ → Prop) (w : World) (b n : Nat) (f : κ → Option Int) : Prop :=
  ∃ D : DataW Unit, w.ownsMap P K (plainElem P E) b n D ∧ MoD P K ek dom D f

theorem MoI.lt {w : World} {b n : Nat} {f : κ → Option Int} (h : MoI P K E ek dom w b n f) : b < w.heap.size := by
  obtain ⟨D, h1, _⟩ := h; exact h1.lt
theorem MoI.nx {w w' : World} {b n : Nat} {f : κ → Option Int} (h : MoI P K E ek dom w b n f) (hn : Nx w w') : MoI P K E ek dom w' b n f := by
  obtain ⟨D, h1, h2⟩ := h
  exact ⟨D, h1.kept (hn.gr none) (by simp), h2⟩
theorem MoI.gr {w w' : World} {b n s : Nat} {f : κ → Option Int} (h : MoI P K E ek dom w b n f) (hn : Gr s w w') (hs : b ≠ s) : MoI P K E ek dom w' b n f := by
  obtain ⟨D, h1, h2⟩ := h
  exact ⟨D, h1.kept (row := some s) hn (by simpa using hs), h2⟩
theorem MoI.mono {w : World} {b n n' : Nat} {f : κ → Option Int} (h : MoI P K E ek dom w b n f) (hn : n ≤ n') : MoI P K E ek dom w b n' f := by
  obtain ⟨D, h1, h2⟩ := h; exact ⟨D, h1.mono hn, h2⟩
theorem MoI.made (w : World) : MoI P K E ek dom (w.alloc (.map #[] 0)) w.heap.size 0 (fun _ => none) :=
  ⟨.map [], World.ownsMap_made w P K _, isMap_empty, fun _ _ _ _ _ => rfl, fun l h => (by simp [has_eq] at h), fun k h => by cases h⟩
theorem wf_i64o {n : Int} : (Lit.int .i64 n).wf = true ↔ -9223372036854775808 ≤ n ∧ n ≤ 9223372036854775807 := by
  simp [Lit.wf, IntKind.min, IntKind.max, IntKind.signed, IntKind.bits]
theorem MoD.has_ {D : DataW Unit} {f : κ → Option Int} (h : MoD P K ek dom D f) {k : κ} (hd : dom k) {l : Lit} (hkey : keyOf P K (ek k) = some l) : has D l = (f k).isSome := by
  have e := h.at_ k l hd hkey
  cases hf : f k with
  | none => rw [hf] at e; exact has_false_of_atKey e
  | some v => rw [hf] at e; exact has_true_of_atKey e

theorem MoI.look {w : World} {b n : Nat} {f : κ → Option Int} {t : TypeId} (h : MoI P K E ek dom w b n f) (KL : Keyed P K) (ht : P.underlying t = some (.map K E)) (he : P.underlying E = some (.int .i64)) (hz : (zeroValue E).run P w = .ok (.int .i64 0) w)
    {k : κ} (hd : dom k) {l : Lit} (hkey : keyOf P K (ek k) = some l) : (Instr.lookup t (.map (some b)) (ek k) false).run P w = .ok (.int .i64 ((f k).getD 0)) w ∧ (Lit.int .i64 ((f k).getD 0)).wf = true := by
  obtain ⟨D, h1, h2⟩ := h
  obtain ⟨c, hrun, hat, hwf⟩ := h1.lookup_int KL ht he hz hkey
  have e := h2.at_ k l hd hkey (.lit (.int .i64 0))
  rw [hat] at e
  have e' : c = (f k).getD 0 := by
    cases hf : f k with
    | none => rw [hf] at e; injection e with e; injection e
    | some v => rw [hf] at e; injection e with e; injection e
  subst e'
  exact ⟨hrun, hwf⟩

theorem MoD.put {D : DataW Unit} {f : κ → Option Int} [DecidableEq κ] (h : MoD P K ek dom D f) (KL : Keyed P K) (hinj : ∀ a b : κ, ek a = ek b → a = b) {k : κ} (hd : dom k) {l : Lit} (hkey : keyOf P K (ek k) = some l) (v : Int) :
    MoD P K ek dom (D.put l (.lit (.int .i64 v))) (fun k' => if k' = k then some v else f k') where
  isMap := h.isMap.put _ _
  at_ k' l' hd' hk' z := by
    by_cases e : k' = k
    · subst e
      rw [hkey] at hk'; injection hk' with hk'; subst hk'
      rw [if_pos rfl]
      exact atKey_put_same h.isMap (KL.key hkey) _ _
    · rw [if_neg e]
      have hne : l' ≠ l := fun e1 => by subst e1; exact e (hinj _ _ (KL.inj hk' hkey))
      rw [atKey_put_other hne]
      exact h.at_ k' l' hd' hk' z
  keys l' hl' := by
    by_cases e : l' = l
    · subst e; exact ⟨k, hd, hkey⟩
    · rw [has_put_other e] at hl'; exact h.keys l' hl'
  dm k' hk' := by
    by_cases e : k' = k
    · subst e; exact hd
    · rw [if_neg e] at hk'; exact h.dm k' hk'

/-- 'm[k] = v'. -/
theorem MoI.upd {w : World} {b n : Nat} {f : κ → Option Int} [DecidableEq κ] {t : TypeId} (h : MoI P K E ek dom w b n f) (KL : Keyed P K) (hinj : ∀ a b : κ, ek a = ek b → a = b) (ht : P.underlying t = some (.map K E)) (he : P.underlying E = some (.int .i64)) (hn : n < maxLen)
    {k : κ} (hd : dom k) {l : Lit} (hkey : keyOf P K (ek k) = some l) (v : Int) (hv : (Lit.int .i64 v).wf = true) :
    ∃ w', (Instr.mapUpdate t (.map (some b)) (ek k) (.int .i64 v)).run P w = .ok () w' ∧ MoI P K E ek dom w' b (n + 1) (fun k' => if k' = k then some v else f k') ∧ Gr b w w' := by
  obtain ⟨D, h1, h2⟩ := h
  obtain ⟨w', hr, ho, hg⟩ := h1.update KL ht hn hkey (plainElem_int (H := Unit) he hv)
  exact ⟨w', hr, ⟨_, ho, h2.put KL hinj hd hkey v⟩, hg⟩

/-- 'm[k] = v' at the operation. -/
theorem wpMoPut [DecidableEq κ] (w : World) {ops : Array Oper} {rest : List Oper} {o : Oper} {a : Act} {Q : Exit → Act → World → Prop}
    (hg : o.guard = none) (m x v : Operand) (t : TypeId) (hop : o.op = Op.mapUpdate t m x v)
    (KL : Keyed P K) (hinj : ∀ a b : κ, ek a = ek b → a = b) (ht : P.underlying t = some (.map K E)) (he : P.underlying E = some (.int .i64)) (b n : Nat) (f : κ → Option Int)
    (hm : a.eval m = .map (some b)) (hown : MoI P K E ek dom w b n f) (hn : n < maxLen) (k : κ) (hx : a.eval x = ek k) (hd : dom k) (l : Lit) (hkey : keyOf P K (ek k) = some l)
    (z : Int) (hz : a.eval v = .int .i64 z) (hwf : (Lit.int .i64 z).wf = true)
    (hK : ∀ w', MoI P K E ek dom w' b (n + 1) (fun k' => if k' = k then some z else f k') → Gr b w w' → wpList P ops Q rest (a.put o.dst undef) w') :
    wpList P ops Q (o :: rest) a w := by
  refine wpList_plain hg fun K' hK' => ?_
  obtain ⟨w', hrun, r1, r2⟩ := hown.upd KL hinj ht he hn hd hkey z hwf
  unfold Oper.wp
  simp [execOp, hop, hm, hx, hz, hrun, Result.andThen]
  exact hK' _ _ (hK w' r1 r2)
end
end Go.Proofs.YtemaiikgnogfhaaGreatDoor
/- Sums by key that a loop over a map collects. Of no program. -/
namespace Go.Proofs.YtemaiikgnogfhaaGreatDoor
open Go.RowKit Go.Sort Go.Maps Go.Proofs Go.Shelf

def domS (k : ByteArray) : Prop := k.size ≤ maxLen
def litS (k : ByteArray) : Lit := .string k.data.toList
theorem litS_inj {a b : ByteArray} (h : litS a = litS b) : a = b := data_inj (by unfold litS at h; injection h)
theorem keyS_mk {P : Program} {k : TypeId} (hk : P.underlying k = some .string) {s : ByteArray} (hs : domS s) : keyOf P k (.string s) = some (litS s) := by
  unfold domS at hs
  simp [keyOf, hk, mapKey, hs, litS]
theorem keyS_inv {P : Program} {k : TypeId} (hk : P.underlying k = some .string) {key : Value} {kl : Lit} (h : keyOf P k key = some kl) : ∃ s, key = .string s ∧ domS s ∧ kl = litS s := by
  cases key <;> simp [keyOf, hk, mapKey] at h
  obtain ⟨h1, rfl⟩ := h
  exact ⟨_, rfl, h1, rfl⟩
theorem strV_inj (a b : ByteArray) (h : Value.string a = Value.string b) : a = b := by injection h
theorem sameS_self (s : ByteArray) : (litS s).sameKey (litS s) = true := by simp [litS, Lit.sameKey]

/-- What has been collected while some entries are still to come. -/
structure CollK (f : ByteArray → Option Int) (zero : Bool) (left : Lit → Bool) (L : List Due) : Prop where
  val : ∀ d ∈ L, f d.key = some d.cents ∧ (d.cents ≠ 0 ∨ zero = true)
  gone : ∀ d ∈ L, left (litS d.key) = false
  all_ : ∀ k v, f k = some v → (v ≠ 0 ∨ zero = true) → left (litS k) = false → (⟨k, v⟩ : Due) ∈ L
  nodup : (L.map Due.key).Nodup

theorem collK_start {f : ByteArray → Option Int} {zero : Bool} {left : Lit → Bool} (h : ∀ k, (f k).isSome = true → left (litS k) = true) : CollK f zero left [] :=
  ⟨by simp, by simp, fun k v h1 _ h2 => (by rw [h k (by rw [h1]; rfl)] at h2; cases h2), by simp⟩
theorem collK_step {f : ByteArray → Option Int} {zero : Bool} {left : Lit → Bool} {L : List Due} (h : CollK f zero left L) {k : ByteArray} {v : Int} (hv : f k = some v) (hl : left (litS k) = true)
    (L' : List Due) (hL : L' = if v ≠ 0 ∨ zero = true then L ++ [⟨k, v⟩] else L) : CollK f zero (fun z => left z && !z.sameKey (litS k)) L' := by
  have hself := sameS_self k
  refine ⟨?_, ?_, ?_, ?_⟩
  · intro t ht
    rw [hL] at ht
    split at ht
    · rcases List.mem_append.1 ht with ht | ht
      · exact h.val t ht
      · simp at ht; subst ht; exact ⟨hv, by assumption⟩
    · exact h.val t ht
  · intro t ht
    rw [hL] at ht
    have old : t ∈ L → (left (litS t.key) && !(litS t.key).sameKey (litS k)) = false := fun ht => by rw [h.gone t ht]; rfl
    split at ht
    · rcases List.mem_append.1 ht with ht | ht
      · exact old ht
      · simp at ht; subst ht
        show (left (litS k) && !(litS k).sameKey (litS k)) = false
        rw [hself]; simp
    · exact old ht
  · intro k' v' hv' hz hlf
    by_cases e : k' = k
    · subst e
      rw [hv] at hv'; injection hv' with hv'; subst hv'
      rw [hL, if_pos hz]; simp
    · have hs : (litS k').sameKey (litS k) = false := sameKey_ne (fun e1 => e (litS_inj e1))
      rw [hs] at hlf
      have := h.all_ k' v' hv' hz (by simpa using hlf)
      rw [hL]; split
      · exact List.mem_append_left _ this
      · exact this
  · rw [hL]; split
    · rw [List.map_append, List.nodup_append]
      refine ⟨h.nodup, by simp, fun a ha b hb e => ?_⟩
      simp at hb; subst hb; subst e
      obtain ⟨t, ht, e2⟩ := List.mem_map.1 ha
      have := h.gone t ht
      rw [show t.key = a from e2, hl] at this; cases this
    · exact h.nodup
theorem collK_end {f : ByteArray → Option Int} {zero : Bool} {left : Lit → Bool} {L : List Due} (h : CollK f zero left L) (hl : ∀ kl, left kl = false) {ys : List Due} (hp : ys.Perm L)
    (hs : ∀ i j (hi : i < j) (hj : j < ys.length), ltOf dueC ys[j] (ys[i]'(by omega)) = false) : DuesOf f zero ys := by
  refine ⟨?_, fun d => ?_⟩
  · have hnd : (ys.map Due.key).Nodup := (hp.map Due.key).nodup_iff.2 h.nodup
    rw [List.pairwise_iff_getElem]
    intro i j hi hj hij
    have h1 := hs i j hij hj
    have h2 : ys[i].key ≠ ys[j].key := fun e => by
      have := (List.nodup_iff_pairwise_ne.1 hnd)
      rw [List.pairwise_iff_getElem] at this
      exact this i j (by simpa using hi) (by simpa using hj) hij (by simpa using e)
    rw [due_nlt] at h1
    refine Classical.byContradiction fun hn => h2 (ltS_tri _ _ hn h1)
  · rw [hp.mem_iff]
    constructor
    · intro hd; exact h.val d hd
    · rintro ⟨h1, h2⟩
      exact h.all_ d.key d.cents h1 h2 (hl _)
end Go.Proofs.YtemaiikgnogfhaaGreatDoor
/- A map to bools that is a set. Of no program. -/
namespace Go.Proofs.YtemaiikgnogfhaaGreatDoor
open Go.RowKit Go.Maps

section
variable {κ : Type} {P : Program} {K E : TypeId} {ek : κ → Value} {dom : κ → Prop}
/-- The map's datum D says of each key whether it is in the set. -/
structure MbD (P : Program) (K : TypeId) (ek : κ → Value) (dom : κ → Prop) (D : DataW Unit) (f : κ → Bool) : Prop where
  isMap : IsMap D
  at_ : ∀ k l, dom k → keyOf P K (ek k) = some l → D.atKey l (.lit (.bool false)) = .lit (.bool (f k))
def MbI (P : Program) (K E : TypeId) (ek : κ → Value) (dom : κ → Prop) (w : World) (b n : Nat) (f : κ → Bool) : Prop :=
  ∃ D : DataW Unit, w.ownsMap P K (plainElem P E) b n D ∧ MbD P K ek dom D f
theorem MbI.lt {w : World} {b n : Nat} {f : κ → Bool} (h : MbI P K E ek dom w b n f) : b < w.heap.size := by
  obtain ⟨D, h1, _⟩ := h; exact h1.lt
theorem MbI.nx {w w' : World} {b n : Nat} {f : κ → Bool} (h : MbI P K E ek dom w b n f) (hn : Nx w w') : MbI P K E ek dom w' b n f := by
  obtain ⟨D, h1, h2⟩ := h
  exact ⟨D, h1.kept (hn.gr none) (by simp), h2⟩
theorem MbI.gr {w w' : World} {b n s : Nat} {f : κ → Bool} (h : MbI P K E ek dom w b n f) (hn : Gr s w w') (hs : b ≠ s) : MbI P K E ek dom w' b n f := by
  obtain ⟨D, h1, h2⟩ := h
  exact ⟨D, h1.kept (row := some s) hn (by simpa using hs), h2⟩
theorem MbI.mono {w : World} {b n n' : Nat} {f : κ → Bool} (h : MbI P K E ek dom w b n f) (hn : n ≤ n') : MbI P K E ek dom w b n' f := by
  obtain ⟨D, h1, h2⟩ := h; exact ⟨D, h1.mono hn, h2⟩
theorem MbI.made (w : World) : MbI P K E ek dom (w.alloc (.map #[] 0)) w.heap.size 0 (fun _ => false) :=
  ⟨.map [], World.ownsMap_made w P K _, isMap_empty, fun _ _ _ _ => rfl⟩
theorem MbI.look {w : World} {b n : Nat} {f : κ → Bool} {t : TypeId} (h : MbI P K E ek dom w b n f) (KL : Keyed P K) (ht : P.underlying t = some (.map K E)) (he : P.underlying E = some .bool) (hz : (zeroValue E).run P w = .ok (.bool false) w)
    {k : κ} (hd : dom k) {l : Lit} (hkey : keyOf P K (ek k) = some l) : (Instr.lookup t (.map (some b)) (ek k) false).run P w = .ok (.bool (f k)) w := by
  obtain ⟨D, h1, h2⟩ := h
  obtain ⟨v, ps, hrun, hv⟩ := h1.lookup KL ht hz (plainElem_bool (H := Unit) he false) hkey
  rw [h2.at_ k l hd hkey] at hv
  rw [hrun]
  unfold plainElem at hv
  rw [he] at hv
  cases v <;> simp at hv
  rw [hv.1]
theorem MbI.upd {w : World} {b n : Nat} {f : κ → Bool} [DecidableEq κ] {t : TypeId} (h : MbI P K E ek dom w b n f) (KL : Keyed P K) (hinj : ∀ a b : κ, ek a = ek b → a = b) (ht : P.underlying t = some (.map K E)) (he : P.underlying E = some .bool) (hn : n < maxLen)
    {k : κ} {l : Lit} (hkey : keyOf P K (ek k) = some l) (v : Bool) :
    ∃ w', (Instr.mapUpdate t (.map (some b)) (ek k) (.bool v)).run P w = .ok () w' ∧ MbI P K E ek dom w' b (n + 1) (fun k' => if k' = k then v else f k') ∧ Gr b w w' := by
  obtain ⟨D, h1, h2⟩ := h
  obtain ⟨w', hr, ho, hg⟩ := h1.update KL ht hn hkey (plainElem_bool (H := Unit) he v)
  refine ⟨w', hr, ⟨_, ho, h2.isMap.put _ _, fun k' l' hd' hk' => ?_⟩, hg⟩
  by_cases e : k' = k
  · subst e
    rw [hkey] at hk'; injection hk' with hk'; subst hk'
    rw [if_pos rfl]
    exact atKey_put_same h2.isMap (KL.key hkey) _ _
  · rw [if_neg e]
    have hne : l' ≠ l := fun e1 => by subst e1; exact e (hinj _ _ (KL.inj hk' hkey))
    rw [atKey_put_other hne]
    exact h2.at_ k' l' hd' hk'
/-- 'm[k] = v' at the operation. -/
theorem wpMbPut [DecidableEq κ] (w : World) {ops : Array Oper} {rest : List Oper} {o : Oper} {a : Act} {Q : Exit → Act → World → Prop}
    (hg : o.guard = none) (m x v : Operand) (t : TypeId) (hop : o.op = Op.mapUpdate t m x v)
    (KL : Keyed P K) (hinj : ∀ a b : κ, ek a = ek b → a = b) (ht : P.underlying t = some (.map K E)) (he : P.underlying E = some .bool) (b n : Nat) (f : κ → Bool)
    (hm : a.eval m = .map (some b)) (hown : MbI P K E ek dom w b n f) (hn : n < maxLen) (k : κ) (hx : a.eval x = ek k) (l : Lit) (hkey : keyOf P K (ek k) = some l)
    (z : Bool) (hz : a.eval v = .bool z)
    (hK : ∀ w', MbI P K E ek dom w' b (n + 1) (fun k' => if k' = k then z else f k') → Gr b w w' → wpList P ops Q rest (a.put o.dst undef) w') :
    wpList P ops Q (o :: rest) a w := by
  refine wpList_plain hg fun K' hK' => ?_
  obtain ⟨w', hrun, r1, r2⟩ := hown.upd KL hinj ht he hn hkey z
  unfold Oper.wp
  simp [execOp, hop, hm, hx, hz, hrun, Result.andThen]
  exact hK' _ _ (hK w' r1 r2)
end
end Go.Proofs.YtemaiikgnogfhaaGreatDoor
/- The walks of the smallest functions of numbers: those that all packages use. -/
namespace Go.Proofs.YtemaiikgnogfhaaGreatDoor
open Go.RowKit

theorem ret_bool {a b : Bool} (h : a = b) : Ending.returned (.bool a) = .returned (.bool b) := by rw [h]
theorem ret_int {k : IntKind} {a b : Int} (h : a = b) : Ending.returned (.int k a) = .returned (.int k b) := by rw [h]

theorem w_Out (n l h : Int) (w : World) : Calls Tryz.prog 40 #[.int .i64 n, .int .i64 l, .int .i64 h] w fun e w' => e = .returned (.bool (outB n l h)) ∧ w = w' := by
  by_cases h1 : n < l <;> by_cases h2 : h < n
  all_goals
    go_enter Tryz.func40, Tryz.ntmps40
    go_wp2
    go_ret
    exact ⟨ret_bool (by unfold outB; simp; omega), rfl⟩

theorem w_in (n l h : Int) (w : World) : Calls Tryz.prog 35 #[.int .i64 n, .int .i64 l, .int .i64 h] w fun e w' => e = .returned (.bool (inB n l h)) ∧ w = w' := by
  by_cases h1 : l ≤ n <;> by_cases h2 : n ≤ h
  all_goals
    go_enter Tryz.func35, Tryz.ntmps35
    go_wp2
    go_ret
    exact ⟨ret_bool (by unfold inB; simp; omega), rfl⟩

end Go.Proofs.YtemaiikgnogfhaaGreatDoor
/- cmp.Or of errors. -/
namespace Go.Proofs.YtemaiikgnogfhaaGreatDoor
open Go.RowKit

def encI (n : Int) : List Value := [.int .i64 n]
theorem orI_drop (zs : List Int) (k : Nat) (hk : k < zs.length) : orI (zs.drop k) = if zs[k] = 0 then orI (zs.drop (k + 1)) else zs[k] := by
  rw [List.drop_eq_getElem_cons hk]; rfl
set_option maxHeartbeats 400000 in
theorem w_OrE (lo : Nat) (A : Option Addr) (c : Nat) (zs : List Int) (w : World) (hR : Rd w lo A 1 encI zs) (hl : zs.length ≤ 65536) :
    Calls Tryz.prog 14 #[.slice A zs.length c] w fun e w' => e = .returned (.int .i64 (orI zs)) ∧ w = w' := by
  generalize hn : zs.length = n at *
  have HR := hide hR
  have HN := hide hn
  clear hR hn
  go_enter Tryz.func14, Tryz.ntmps14
  go_wp2
  go_loop [2, 5, 8] (fun _ _ i => ∃ k : Nat, k ≤ n ∧ i = .int .i64 k ∧ orI zs = orI (zs.drop k)) (fun _ _ i => n - (intOf i).toNat)
  case atStart => exact ⟨0, Nat.zero_le _, rfl, rfl⟩
  case round =>
    obtain ⟨k, hk, rfl, hq⟩ := hrel
    have HQ := hide hq
    clear hq
    by_cases hlt : k < n
    · have hlt' : k < zs.length := by have := HN.out; omega
      obtain ⟨b, off, rfl, _, hb, _, hc⟩ := HR.out.open_ (Nx.refl w) (by omega)
      have c0 : w.cell? ⟨b, off + k, none⟩ = some (.int .i64 zs[k]) := by have := hc k hlt' 0 _ rfl; simpa using this
      clear hc
      have HD := hide (orI_drop zs k hlt')
      by_cases hz : zs[k] = 0
      · have hz' : (zs[k] != 0) = false := by simpa using hz
        generalize zs[k] = z at *
        go_wp2
        go_round
        case rel => exact ⟨k + 1, by omega, by go_num, by rw [HQ.out, HD.out, if_pos hz]⟩
        case measure => simp [intOf]; omega
      · have hz' : (zs[k] != 0) = true := by simpa using hz
        generalize zs[k] = z at *
        go_wp2
        go_ret
        exact ⟨ret_int (by rw [HQ.out, HD.out, if_neg hz]), rfl⟩
    · go_wp2
      go_ret
      exact ⟨ret_int (by rw [HQ.out, List.drop_of_length_le (by have := HN.out; omega)]; rfl), rfl⟩

end Go.Proofs.YtemaiikgnogfhaaGreatDoor
/- A map of integers, said of a plain function: what it holds at each key. Of no program. -/
namespace Go.Proofs.YtemaiikgnogfhaaGreatDoor
open Go.RowKit Go.Maps

section
variable {κ : Type} {P : Program} {K E : TypeId} {ek : κ → Value} {dom : κ → Prop}

/-- The map's datum D holds f k at key k (0 where it has none); its keys lie in dom. -/
structure MpD (P : Program) (K : TypeId) (ek : κ → Value) (dom : κ → Prop) (D : DataW Unit) (f : κ → Int) : Prop where
  isMap : IsMap D
  at_ : ∀ k l, dom k → keyOf P K (ek k) = some l → D.atKey l (.lit (.int .i64 0)) = .lit (.int .i64 (f k))
  keys : ∀ l, has D l = true → ∃ k, dom k ∧ keyOf P K (ek k) = some l

/-- Block b is such a map. -/
def MpI (P : Program) (K E : TypeId) (ek : κ → Value) (dom : κ → Prop) (w : World) (b n : Nat) (f : κ → Int) : Prop :=
  ∃ D : DataW Unit, w.ownsMap P K (plainElem P E) b n D ∧ MpD P K ek dom D f

theorem MpI.lt {w : World} {b n : Nat} {f : κ → Int} (h : MpI P K E ek dom w b n f) : b < w.heap.size := by
  obtain ⟨D, h1, _⟩ := h; exact h1.lt
theorem MpI.nx {w w' : World} {b n : Nat} {f : κ → Int} (h : MpI P K E ek dom w b n f) (hn : Nx w w') : MpI P K E ek dom w' b n f := by
  obtain ⟨D, h1, h2⟩ := h
  exact ⟨D, h1.kept (hn.gr none) (by simp), h2⟩
theorem MpI.mono {w : World} {b n n' : Nat} {f : κ → Int} (h : MpI P K E ek dom w b n f) (hn : n ≤ n') : MpI P K E ek dom w b n' f := by
  obtain ⟨D, h1, h2⟩ := h; exact ⟨D, h1.mono hn, h2⟩
theorem MpI.made (w : World) : MpI P K E ek dom (w.alloc (.map #[] 0)) w.heap.size 0 (fun _ => 0) :=
  ⟨.map [], World.ownsMap_made w P K _, isMap_empty, fun _ _ _ _ => rfl, fun l h => by simp [has_eq] at h⟩
theorem wf_i64 {n : Int} : (Lit.int .i64 n).wf = true ↔ -9223372036854775808 ≤ n ∧ n ≤ 9223372036854775807 := by
  simp [Lit.wf, IntKind.min, IntKind.max, IntKind.signed, IntKind.bits]

theorem MpI.look {w : World} {b n : Nat} {f : κ → Int} {t : TypeId} (h : MpI P K E ek dom w b n f) (KL : Keyed P K) (ht : P.underlying t = some (.map K E)) (he : P.underlying E = some (.int .i64)) (hz : (zeroValue E).run P w = .ok (.int .i64 0) w)
    {k : κ} (hd : dom k) {l : Lit} (hkey : keyOf P K (ek k) = some l) : (Instr.lookup t (.map (some b)) (ek k) false).run P w = .ok (.int .i64 (f k)) w ∧ (Lit.int .i64 (f k)).wf = true := by
  obtain ⟨D, h1, h2⟩ := h
  obtain ⟨c, hrun, hat, hwf⟩ := h1.lookup_int KL ht he hz hkey
  have e := h2.at_ k l hd hkey
  rw [hat] at e
  have e' : c = f k := by injection e with e; injection e
  subst e'
  exact ⟨hrun, hwf⟩

theorem MpD.put {D : DataW Unit} {f : κ → Int} [DecidableEq κ] (h : MpD P K ek dom D f) (KL : Keyed P K) (hinj : ∀ a b : κ, ek a = ek b → a = b) {k : κ} (hd : dom k) {l : Lit} (hkey : keyOf P K (ek k) = some l) (v : Int) :
    MpD P K ek dom (D.put l (.lit (.int .i64 v))) (fun k' => if k' = k then v else f k') where
  isMap := h.isMap.put _ _
  at_ k' l' hd' hk' := by
    by_cases e : k' = k
    · subst e
      rw [hkey] at hk'; injection hk' with hk'; subst hk'
      rw [if_pos rfl]
      exact atKey_put_same h.isMap (KL.key hkey) _ _
    · rw [if_neg e]
      have hne : l' ≠ l := fun e1 => by subst e1; exact e (hinj _ _ (KL.inj hk' hkey))
      rw [atKey_put_other hne]
      exact h.at_ k' l' hd' hk'
  keys l' hl' := by
    by_cases e : l' = l
    · subst e; exact ⟨k, hd, hkey⟩
    · rw [has_put_other e] at hl'; exact h.keys l' hl'

set_option maxRecDepth 100000 in
/-- 'm[k] op= v', as the model runs it: first the entry, then the store. -/
theorem MpI.entry {w : World} {b n : Nat} {f : κ → Int} [DecidableEq κ] {t : TypeId} (h : MpI P K E ek dom w b n f) (KL : WideMaps.KeyLaw P K) (hinj : ∀ a b : κ, ek a = ek b → a = b) (ht : P.underlying t = some (.map K E)) (he : P.underlying E = some (.int .i64))
    (hz : ∀ u, (zeroValue E).run P u = .ok (.int .i64 0) u) (hn : n < maxLen) {k : κ} (hd : dom k) {l : Lit} (hkey : keyOf P K (ek k) = some l) :
    ∃ (v0 : Value) (st : Int) (w1 : World), (Instr.mapEntry t (.map (some b)) (ek k)).run P w = .ok (.tuple #[v0, .int .i64 st]) w1 ∧ w.grownBy w1 (some b) ∧ (Instr.lookup t (.map (some b)) (ek k) false).run P w1 = .ok (.int .i64 (f k)) w1 ∧
      ∀ v : Int, (Lit.int .i64 v).wf = true → ∃ w2, (Instr.entryStore t (.map (some b)) (.int .i64 st) (.int .i64 v)).run P w1 = .ok () w2 ∧ MpI P K E ek dom w2 b (n + 1) (fun k' => if k' = k then v else f k') ∧ w.grownBy w2 (some b) := by
  obtain ⟨D, h1, h2⟩ := h
  have h1' := h1
  obtain ⟨es, clock, hb, F, _, _⟩ := h1
  obtain ⟨v0, st, es1, clock1, hr1, _, hr2⟩ := WideElems.entry_then_store KL ht hz hb F hkey
  refine ⟨v0, st, _, hr1, ⟨rfl, rfl, rfl, by simp [ChangeMaps.setBlock], fun k hk hne => by
    have : b ≠ k := fun e => hne (by rw [e])
    simp [ChangeMaps.setBlock, this]⟩, ?_, fun v hv => ?_⟩
  · have hlt : b < w.heap.size := h1'.lt
    rcases KL.find w hkey es.toList F.keys with ⟨e1, e2⟩ | ⟨j, e0, e1, e2, e3⟩
    · have hrun : (Instr.mapEntry t (.map (some b)) (ek k)).run P w = .ok (.tuple #[.int .i64 0, goInt clock]) (ChangeMaps.setBlock w b (.map (es.push ⟨ek k, .int .i64 0, clock⟩) (clock + 1))) := by
        simp [Instr.mapEntry, run_underlying ht, MapKept.run_getObj_map hb, KL.check w false hkey, e1, hz, MapKept.run_setObj_map _ hb, Result.andThen, ChangeMaps.setBlock]
      have hup : (Instr.mapUpdate t (.map (some b)) (ek k) (.int .i64 0)).run P w = .ok () (ChangeMaps.setBlock w b (.map (es.push ⟨ek k, .int .i64 0, clock⟩) (clock + 1))) := by
        simp [Instr.mapUpdate, run_underlying ht, MapKept.run_getObj_map hb, KL.check w false hkey, e1, MapKept.run_setObj_map _ hb, Result.andThen, ChangeMaps.setBlock]
      rw [hr1] at hrun
      rw [Result.ok.injEq] at hrun
      have ew := hrun.2
      clear hrun
      rw [ew]
      obtain ⟨w2, hu2, ho2, _⟩ := h1'.update (Keyed.of_law KL) ht hn hkey (plainElem_int (H := Unit) he (wf_i64.2 (by omega) : (Lit.int .i64 0).wf = true))
      rw [hup] at hu2
      rw [Result.ok.injEq] at hu2
      have eu := hu2.2
      clear hu2
      have hM : MpI P K E ek dom w2 b (n + 1) (fun k' => if k' = k then 0 else f k') := ⟨_, ho2, h2.put (Keyed.of_law KL) hinj hd hkey 0⟩
      have hl := (hM.look (Keyed.of_law KL) ht he (hz _) hd hkey).1
      rw [if_pos rfl] at hl
      have hf : f k = 0 := by
        have e4 := (MpI.look ⟨D, h1', h2⟩ (Keyed.of_law KL) ht he (hz _) hd hkey).1
        have e5 : (Instr.lookup t (.map (some b)) (ek k) false).run P w = .ok (.int .i64 0) w := by
          simp [Instr.lookup, run_underlying ht, MapKept.run_getObj_map hb, KL.check w _ hkey, e1, hz, Result.andThen]
        rw [e5] at e4
        injection e4 with e4 _; injection e4 with _ e4; exact e4.symm
      rw [eu, hf]
      exact hl
    · have hj : es[j]? = some e0 := by simpa using e2
      have hrun : (Instr.mapEntry t (.map (some b)) (ek k)).run P w = .ok (.tuple #[e0.val, goInt e0.born]) w := by
        have hsame : es.modify j (fun e => { e with key := ek k }) = es := by
          apply Array.ext'
          rw [Array.toList_modify]
          have h6 : ({ e0 with key := ek k } : MapEntry) = e0 := by rw [← e3]
          apply List.ext_getElem?
          intro i
          rw [List.getElem?_modify]
          by_cases hi : j = i
          · subst hi; rw [e2]; simp [h6]
          · simp [hi]
        simp [Instr.mapEntry, run_underlying ht, MapKept.run_getObj_map hb, KL.check w false hkey, e1, hj, e3, KL.stays w hkey, hsame, MapKept.run_setObj_map _ hb, Result.andThen]
        have hs : w.heap.setIfInBounds b (.map es clock) = w.heap := by
          apply Array.ext'
          rw [Array.toList_setIfInBounds]
          apply List.ext_getElem?
          intro i
          rw [List.getElem?_set]
          by_cases hi : b = i
          · subst hi; rw [if_pos rfl, if_pos (by simpa using hlt), Array.getElem?_toList, hb]
          · rw [if_neg hi]
        rw [hs]
      rw [hr1] at hrun
      rw [Result.ok.injEq] at hrun
      have ew := hrun.2
      clear hrun
      rw [ew]
      exact (MpI.look ⟨D, h1', h2⟩ (Keyed.of_law KL) ht he (hz _) hd hkey).1
  obtain ⟨es', clock', hs, hu⟩ := hr2 (ChangeMaps.setBlock w b (.map es1 clock1)) (.int .i64 v) (by
    have hlt : b < w.heap.size := h1'.lt
    simp [ChangeMaps.setBlock, hlt])
  obtain ⟨w2, hu2, ho2, hg2⟩ := h1'.update (Keyed.of_law KL) ht hn hkey (plainElem_int (H := Unit) he hv)
  rw [hu] at hu2
  injection hu2 with _ e2
  have e3 : ChangeMaps.setBlock (ChangeMaps.setBlock w b (.map es1 clock1)) b (.map es' clock') = ChangeMaps.setBlock w b (.map es' clock') := by
    simp [ChangeMaps.setBlock]
  rw [e3, e2] at hs
  exact ⟨w2, hs, ⟨_, ho2, h2.put (Keyed.of_law KL) hinj hd hkey v⟩, hg2⟩
end
end Go.Proofs.YtemaiikgnogfhaaGreatDoor
