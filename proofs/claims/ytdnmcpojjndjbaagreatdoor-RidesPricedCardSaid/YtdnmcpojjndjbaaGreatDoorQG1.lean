/- Words for memory, of no program: a slice that reads as a list of elements of K cells, the stream's object, worlds that only grow. -/
import Derived.WalkKit
import Derived.WalkSpells
import Derived.WalkLawsBesides
import Derived.IntWalk
import Derived.Maps.Own
import Derived.Maps.OwnOps
import Derived.Maps.Views
import Derived.Maps.RangeWalk
import Derived.Test.YtdnmcpojjndjbaaGreatDoorQG0
import Derived.Test.YtdnmcpojjndjbaaGreatDoorRows
import Derived.Deep.QuietTactic
import Derived.BigQuiet
import Derived.Outline
import Derived.Test.YtdnmcpojjndjbaaGreatDoorQShelfK
import Derived.Test.YtdnmcpojjndjbaaGreatDoorQShelfZ
import Derived.Shelf.Spec.SearchS
import Derived.Shelf.Slices.Turned
import Derived.Laws.AppendOwn
namespace Go.Proofs.YtdnmcpojjndjbaaGreatDoor
open Go.RowKit

theorem hide {p : Prop} (h : p) : Hid p := h

/-- Nothing that was there has turned. -/
def Nx (w w' : World) : Prop := Below w.heap.size w w'
theorem Nx.refl (w : World) : Nx w w := Below.refl _ _
theorem Nx.trans {a b c : World} (h : Nx a b) (k : Nx b c) : Nx a c := Below.trans h (Below.mono k h.size)
theorem Nx.drew {a w : World} (h : Nx a w) : Nx a w.drew := Below.drew h
theorem Nx.drewN {a w : World} (h : Nx a w) (n : Nat) : Nx a (w.drewN n) := below_drewN h n
theorem Nx.alloc {a w : World} (h : Nx a w) (o : Obj) : Nx a (w.alloc o) := Below.alloc h h.size o
theorem Nx.setCell {a w : World} (h : Nx a w) {p : Addr} (hp : a.heap.size ≤ p.block) (u : Value) : Nx a (w.setCell p u) := Below.setCell h hp u
theorem Nx.sz {a w : World} (h : Nx a w) : a.heap.size ≤ w.heap.size := h.size
theorem Nx.grown {a w w' : World} {row : Option Nat} (h : Nx a w) (hg : w.grownBy w' row) (hr : ∀ k, row = some k → a.heap.size ≤ k) : Nx a w' := Below.grown h hg h.size hr
theorem Nx.gr {a w : World} (h : Nx a w) (row : Option Nat) : a.grownBy w row := ⟨h.os, h.tape, h.output, h.size, fun i hi _ => h.block i hi⟩

/-- Only block s, and what is new, has turned. -/
def Gr (s : Nat) (a w : World) : Prop := a.grownBy w (some s)
theorem Gr.refl (s : Nat) (w : World) : Gr s w w := World.grownBy.refl w _
theorem Gr.of_nx {s : Nat} {a w : World} (h : Nx a w) : Gr s a w := h.gr _
theorem Gr.sz {s : Nat} {a w : World} (h : Gr s a w) : a.heap.size ≤ w.heap.size := World.grownBy.size h
theorem Gr.trans {s : Nat} {a b c : World} (h : Gr s a b) (k : Gr s b c) : Gr s a c :=
  ⟨k.os.trans h.os, k.tape.trans h.tape, k.output.trans h.output, Nat.le_trans h.size k.size, fun i hi hn => (k.block i (Nat.lt_of_lt_of_le hi h.size) hn).trans (h.block i hi hn)⟩
theorem Gr.then_nx {s : Nat} {a b c : World} (h : Gr s a b) (k : Nx b c) : Gr s a c := h.trans (Gr.of_nx k)
theorem Gr.drew {s : Nat} {a w : World} (h : Gr s a w) : Gr s a w.drew := h.then_nx (Nx.refl _).drew
theorem Gr.drewN {s : Nat} {a w : World} (h : Gr s a w) (n : Nat) : Gr s a (w.drewN n) := h.then_nx ((Nx.refl _).drewN n)
theorem Gr.alloc {s : Nat} {a w : World} (h : Gr s a w) (o : Obj) : Gr s a (w.alloc o) := h.then_nx ((Nx.refl _).alloc o)
theorem Gr.setS {s : Nat} {a w : World} (h : Gr s a w) {p : Addr} (hp : p.block = s ∨ a.heap.size ≤ p.block) (u : Value) : Gr s a (w.setCell p u) :=
  ⟨h.os, h.tape, h.output, by have := h.sz; simpa [World.setCell] using this, fun i hi hne => (Below.heap_setCell w p u i (by
    rintro rfl
    rcases hp with hp | hp
    · exact hne (by rw [hp])
    · omega)).trans (h.block i hi hne)⟩
theorem Gr.grown {s : Nat} {a w w' : World} {row : Option Nat} (h : Gr s a w) (hg : w.grownBy w' row) (hr : ∀ k, row = some k → k = s ∨ a.heap.size ≤ k) : Gr s a w' :=
  ⟨hg.os.trans h.os, hg.tape.trans h.tape, hg.output.trans h.output, Nat.le_trans h.size hg.size, fun i hi hne => (hg.block i (Nat.lt_of_lt_of_le hi h.size) (fun e => by
    rcases hr i e.symm with h1 | h1
    · exact hne (by rw [h1])
    · omega)).trans (h.block i hi hne)⟩
theorem Nx.of_gr {s : Nat} {a w : World} (h : Gr s a w) (hs : a.heap.size ≤ s) : Nx a w :=
  ⟨h.os, h.tape, h.output, h.size, fun i hi => h.block i hi (by intro e; injection e with e; omega)⟩

/-- A slice's value with address A reads as xs, each element K cells; its block lies from lo on. -/
def Rd {α : Type} (w : World) (lo : Nat) (A : Option Addr) (K : Nat) (enc : α → List Value) (xs : List α) : Prop :=
  0 < xs.length → ∃ b off, A = some ⟨b, off, none⟩ ∧ lo ≤ b ∧ b < w.heap.size ∧ ∀ i x, xs[i]? = some x → ∀ j u, (enc x)[j]? = some u → w.cell? ⟨b, off + i * K + j, none⟩ = some u
section
variable {α : Type} {w w' : World} {lo lo' K : Nat} {A : Option Addr} {enc : α → List Value} {xs : List α}
theorem Rd.nil : Rd w lo A K enc ([] : List α) := fun h => absurd h (by simp)
theorem Rd.nx (h : Rd w lo A K enc xs) (hn : Nx w w') : Rd w' lo A K enc xs := fun hp => by
  obtain ⟨b, off, e, hl, hb, hc⟩ := h hp
  exact ⟨b, off, e, hl, Nat.lt_of_lt_of_le hb hn.sz, fun i x hx j u hu => (Below.cell hn (p := ⟨b, _, none⟩) hb).trans (hc i x hx j u hu)⟩
theorem Rd.gr {s : Nat} (h : Rd w lo A K enc xs) (hn : Gr s w w') (hs : s < lo) : Rd w' lo A K enc xs := fun hp => by
  obtain ⟨b, off, e, hl, hb, hc⟩ := h hp
  exact ⟨b, off, e, hl, Nat.lt_of_lt_of_le hb hn.sz, fun i x hx j u hu => World.grownBy.cell (row := some s) hn (hc i x hx j u hu) (by simp; omega)⟩
theorem Rd.low (h : Rd w lo A K enc xs) (hl : lo' ≤ lo) : Rd w lo' A K enc xs := fun hp => by
  obtain ⟨b, off, e, h1, hb, hc⟩ := h hp
  exact ⟨b, off, e, Nat.le_trans hl h1, hb, hc⟩
/-- For a loop: the block and all the cells, in the round's world. -/
theorem Rd.open_ (h : Rd w lo A K enc xs) (hn : Nx w w') (hp : 0 < xs.length) : ∃ b off, A = some ⟨b, off, none⟩ ∧ lo ≤ b ∧ b < w.heap.size ∧ b < w'.heap.size ∧ ∀ i (hi : i < xs.length) j u, (enc xs[i])[j]? = some u → w'.cell? ⟨b, off + i * K + j, none⟩ = some u := by
  obtain ⟨b, off, e, hl, hb, hc⟩ := h hp
  exact ⟨b, off, e, hl, hb, Nat.lt_of_lt_of_le hb hn.sz, fun i hi j u hu => (Below.cell hn (p := ⟨b, _, none⟩) hb).trans (hc i _ (List.getElem?_eq_getElem hi) j u hu)⟩
theorem flat_get (hk : ∀ x, (enc x).length = K) (i : Nat) (x : α) (hx : xs[i]? = some x) (j : Nat) (u : Value) (hu : (enc x)[j]? = some u) : (xs.flatMap enc)[i * K + j]? = some u := by
  induction xs generalizing i with
  | nil => simp at hx
  | cons y ys ih =>
    rw [List.flatMap_cons]
    rcases i with _ | i
    · simp at hx; subst hx
      rw [List.getElem?_append_left (by have := (List.getElem?_eq_some_iff.1 hu).1; omega)]
      simpa using hu
    · have hx' : ys[i]? = some x := by simpa using hx
      rw [List.getElem?_append_right (by rw [hk, Nat.add_mul]; omega), hk]
      have e : (i + 1) * K + j - K = i * K + j := by rw [Nat.add_mul]; omega
      rw [e]
      exact ih i hx'
theorem flat_len (hk : ∀ x, (enc x).length = K) : (xs.flatMap enc).length = xs.length * K := by
  induction xs with
  | nil => simp
  | cons y ys ih => rw [List.flatMap_cons, List.length_append, ih, hk, List.length_cons, Nat.add_mul]; omega
/-- A row of the call's own, read. -/
theorem Rd.of_own {base : Nat} {e : TypeId} {v : Value} {n : Nat} (hk : ∀ x, (enc x).length = K) (hn : n = xs.length) (h : w.ownsRow base e K v n (xs.flatMap enc)) :
    ∃ A c, v = .slice A xs.length c ∧ Rd w base A K enc xs ∧ (∀ a, A = some a → ∃ g, a = ⟨g, 0, none⟩ ∧ base ≤ g ∧ g < w.heap.size) := by
  subst hn
  rcases h.2 with ⟨rfl, h0⟩ | ⟨g, cap, cur, rfl, hg, hh, hr⟩
  · have hx : xs = [] := List.eq_nil_of_length_eq_zero h0
    subst hx
    exact ⟨none, 0, rfl, Rd.nil, by simp⟩
  · have hlt := (h.lt g rfl)
    refine ⟨some ⟨g, 0, none⟩, cap, rfl, fun _ => ⟨g, 0, rfl, hlt.1, hlt.2, fun i x hx j u hu => ?_⟩, fun a ha => ⟨g, by injection ha with ha; exact ha.symm, hlt.1, hlt.2⟩⟩
    have hil : i < xs.length := (List.getElem?_eq_some_iff.1 hx).1
    have hjl : j < K := by have := (List.getElem?_eq_some_iff.1 hu).1; rw [hk] at this; exact this
    have h2 := h.cellAt (i * K + j) (by
      have : (i + 1) * K ≤ xs.length * K := Nat.mul_le_mul_right K hil
      rw [Nat.add_mul] at this; omega)
    rw [Nat.zero_add, h2]
    exact flat_get hk i x hx j u hu
end

theorem heap_set {w : World} {s i : Nat} {cs : Array Value} {t : TypeId} {u : Value} (h : w.heap[s]? = some (.cells cs t (0, 0))) : (w.setCell ⟨s, i, none⟩ u).heap[s]? = some (.cells (cs.setIfInBounds i u) t (0, 0)) := by
  simp [World.setCell, Array.getElem?_modify, h]
theorem cell_set {w : World} {s i b o : Nat} {u : Value} (h : b ≠ s) : (w.setCell ⟨s, i, none⟩ u).cell? ⟨b, o, none⟩ = w.cell? ⟨b, o, none⟩ :=
  World.cell?_setCell_other _ _ _ _ (by intro e; injection e with e1 e2; omega)

/-- A literal row. -/
theorem Rd.lit {α : Type} {w : World} {lo g K : Nat} {enc : α → List Value} {xs : List α} {cs : Array Value} {t : TypeId} (hg : w.heap[g]? = some (.cells cs t (0, 0))) (hlo : lo ≤ g) (hk : ∀ x, (enc x).length = K) (hcs : cs.toList = xs.flatMap enc) :
    Rd w lo (some ⟨g, 0, none⟩) K enc xs := fun _ => by
  have hlt : g < w.heap.size := by
    rcases Nat.lt_or_ge g w.heap.size with hlt | hge
    · exact hlt
    · rw [Array.getElem?_eq_none hge] at hg; cases hg
  refine ⟨g, 0, rfl, hlo, hlt, fun i x hx j u hu => ?_⟩
  rw [Nat.zero_add, cell_of_row w g _ cs t _ hg, ← Array.getElem?_toList, hcs]
  exact flat_get hk i x hx j u hu

theorem hnew {w : World} {o : Obj} {g : Nat} (hg : g = w.heap.size) : (w.alloc o).heap[g]? = some o := by subst hg; exact heap_alloc_new w o
theorem hnew_drew {w : World} {o : Obj} {g : Nat} (hg : g = w.heap.size) : (w.alloc o).drew.heap[g]? = some o := hnew hg
/-- t is a slice type over e, whose values take K cells and so many bytes. -/
structure ElemOf (P : Program) (t e : TypeId) (K bytes : Nat) : Prop where
  ht : P.underlying t = some (.slice e)
  hi : ∃ i z, P.info? e = some i ∧ i.zero = some z ∧ i.size = K ∧ i.bytes = bytes ∧ z.cells.size = K
theorem ElemOf.mk' {P : Program} {t e : TypeId} {K bytes : Nat} {z : Value} (ht : P.underlying t = some (.slice e)) (h : (P.info? e).map (fun i => (i.zero, i.size, i.bytes)) = some (some z, K, bytes)) (hz : z.cells.size = K) : ElemOf P t e K bytes := by
  obtain ⟨i, h1, h2, h3, h4⟩ := info_parts h
  exact ⟨ht, i, z, h1, h2, h3, h4, hz⟩
theorem news_of {w : World} {g : Nat} {cs : Array Value} {e : TypeId} (h : w.heap[g]? = some (.cells cs e (0, 0))) {l : List Value} (hl : cs.toList = l) : ∀ j u, l[j]? = some u → w.cell? ((⟨g, 0, none⟩ : Addr).add j) = some u := by
  intro j u hu
  have e1 : (⟨g, 0, none⟩ : Addr).add j = ⟨g, j, none⟩ := by unfold Addr.add; split <;> simp_all
  rw [e1, cell_of_row w g j cs e _ h, ← Array.getElem?_toList, hl]
  exact hu
/-- 'out = append(out, y)' on a row of the call's own. -/
theorem wpApp {α : Type} {P : Program} {w : World} {ops : Array Oper} {rest : List Oper} {o : Oper} {a : Act} {Q : Exit → Act → World → Prop} (hgd : o.guard = none) (s x : Operand) (t : TypeId)
    (ho : o.op = .call { callee := .builtin .append, args := #[s, x], argTypes := #[t, t] })
    {e : TypeId} {K bytes : Nat} (E : ElemOf P t e K bytes) (enc : α → List Value) (hk : ∀ x, (enc x).length = K) (h1c : ∀ x, ∀ v ∈ enc x, v.oneCell' = true) (hK : 0 < K) (hB : bytes ≤ 1000)
    (base : Nat) (v : Value) (L : List α) (hs : a.eval s = v) (hown : w.ownsRow base e K v L.length (L.flatMap enc)) (g : Nat) (y : α) (cs : Array Value) (hx : a.eval x = .slice (some ⟨g, 0, none⟩) 1 1)
    (hblk : w.heap[g]? = some (.cells cs e (0, 0))) (hcs : cs.toList = enc y) (hlen : L.length ≤ 10000000) (hbase : base ≤ w.heap.size)
    (h : ∀ v' w', w'.ownsRow base e K v' (L ++ [y]).length ((L ++ [y]).flatMap enc) → w.grownBy w' v.ownBlock → wpList P ops Q rest (a.put o.dst v') w') : wpList P ops Q (o :: rest) a w := by
  obtain ⟨i, z, h1, h2, h3, h4, h5⟩ := E.hi
  refine wpList_append_own w hgd s x t ho base e i z K bytes E.ht h1 h2 h3 h4 h5 hK v L.length _ hs hown ⟨g, 0, none⟩ 1 1 (enc y) hx (by rw [hk]; omega) (news_of hblk hcs) (h1c y) (by unfold maxLen; omega) ?_ hbase ?_
  · have : (L.length + 1) * bytes ≤ 10000001 * 1000 := Nat.mul_le_mul (by omega) hB
    omega
  · intro v' w' ho' hg' _
    exact h v' w' (by simpa using ho') hg'
theorem own_blk_lt {w : World} {base : Nat} {e : TypeId} {size : Nat} {v : Value} {n : Nat} {xs : List Value} (h : w.ownsRow base e size v n xs) : ∀ k, v.ownBlock = some k → base ≤ k := fun k hk => (h.lt k hk).1
theorem own_nx {w w' : World} {base : Nat} {e : TypeId} {size : Nat} {v : Value} {n : Nat} {xs : List Value} (h : w.ownsRow base e size v n xs) (hn : Nx w w') : w'.ownsRow base e size v n xs :=
  h.kept (hn.gr none) (by cases hv : v.ownBlock <;> simp)
theorem own_gr {w w' : World} {s base : Nat} {e : TypeId} {size : Nat} {v : Value} {n : Nat} {xs : List Value} (h : w.ownsRow base e size v n xs) (hn : w.grownBy w' (some s)) (hs : s < base) : w'.ownsRow base e size v n xs :=
  h.kept hn (.inr fun e => by have := own_blk_lt h s e; omega)

theorem flat_set {α : Type} {enc : α → List Value} {K : Nat} (hk : ∀ x, (enc x).length = K) : ∀ (xs : List α) (i : Nat) (hi : i < xs.length) (x' : α) (j : Nat) (_ : j < K) (u : Value), enc x' = (enc xs[i]).set j u → (xs.flatMap enc).set (i * K + j) u = (xs.set i x').flatMap enc
  | y :: ys, 0, hi, x', j, hj, u, h => by
    rw [List.set_cons_zero, List.flatMap_cons, List.flatMap_cons, Nat.zero_mul, Nat.zero_add, List.set_append_left _ _ (by rw [hk]; exact hj), h]; rfl
  | y :: ys, i + 1, hi, x', j, hj, u, h => by
    rw [List.set_cons_succ, List.flatMap_cons, List.flatMap_cons, List.set_append_right _ _ (by rw [hk, Nat.add_mul]; omega), hk, show (i + 1) * K + j - K = i * K + j by rw [Nat.add_mul]; omega]
    rw [flat_set hk ys i (by simpa using hi) x' j hj u (by simpa using h)]
/-- A field of a row's element is stored. -/
theorem own_set {α : Type} {enc : α → List Value} {K : Nat} (hk : ∀ x, (enc x).length = K) {w : World} {base g cap n : Nat} {e : TypeId} {xs : List α} (hn : xs.length = n) (h : w.ownsRow base e K (.slice (some ⟨g, 0, none⟩) n cap) n (xs.flatMap enc))
    (i : Nat) (hi : i < xs.length) (j : Nat) (hj : j < K) (u : Value) (x' : α) (hx : enc x' = (enc xs[i]).set j u) (off : Nat) (ho : off = i * K + j) :
    (w.setCell ⟨g, off, none⟩ u).ownsRow base e K (.slice (some ⟨g, 0, none⟩) n cap) n ((xs.set i x').flatMap enc) := by
  subst ho hn
  rw [← flat_set hk xs i hi x' j hj u hx]
  exact (h.stored (i * K + j) u).1
/-- A field of a row's element, read. -/
theorem own_cell {α : Type} {enc : α → List Value} {K : Nat} (hk : ∀ x, (enc x).length = K) {w : World} {base g cap n : Nat} {e : TypeId} {xs : List α} (hn : xs.length = n) (h : w.ownsRow base e K (.slice (some ⟨g, 0, none⟩) n cap) n (xs.flatMap enc))
    (i : Nat) (hi : i < xs.length) (j : Nat) (u : Value) (hu : (enc xs[i])[j]? = some u) : w.cell? ⟨g, i * K + j, none⟩ = some u := by
  subst hn
  have hj : j < K := by have := (List.getElem?_eq_some_iff.1 hu).1; rw [hk] at this; exact this
  rw [h.cellAt (i * K + j) (by
      have : (i + 1) * K ≤ xs.length * K := Nat.mul_le_mul_right K hi
      rw [Nat.add_mul] at this; omega)]
  exact flat_get hk i _ (List.getElem?_eq_getElem hi) j u hu
end Go.Proofs.YtdnmcpojjndjbaaGreatDoor
/- A map of integers in which it counts whether a key is there, said of a plain function. Of no program. -/
namespace Go.Proofs.YtdnmcpojjndjbaaGreatDoor
open Go.RowKit Go.Maps

section
variable {κ : Type} {P : Program} {K E : TypeId} {ek : κ → Value} {dom : κ → Prop}

/-- The map's datum D holds f k at key k, if it has the key at all; its keys lie in dom. -/
structure MoD (P : Program) (K : TypeId) (ek : κ → Value) (dom : κ → Prop) (D : DataW Unit) (f : κ → Option Int) : Prop where
  isMap : IsMap D
  at_ : ∀ k l, dom k → keyOf P K (ek k) = some l → ∀ z, D.atKey l z = (match f k with | some v => .lit (.int .i64 v) | none => z)
  keys : ∀ l, has D l = true → ∃ k, dom k ∧ keyOf P K (ek k) = some l
  dm : ∀ k, (f k).isSome = true → dom k

/-- Block b is such a map. -/
def MoI (P : Program) (K E : TypeId) (ek : κ → Value) (dom : κ → Prop) (w : World) (b n : Nat) (f : κ → Option Int) : Prop :=
  ∃ D : DataW Unit, w.ownsMap P K (plainElem P E) b n D ∧ MoD P K ek dom D f

theorem MoI.lt {w : World} {b n : Nat} {f : κ → Option Int} (h : MoI P K E ek dom w b n f) : b < w.heap.size := by
  obtain ⟨D, h1, _⟩ := h; exact h1.lt
theorem MoI.nx {w w' : World} {b n : Nat} {f : κ → Option Int} (h : MoI P K E ek dom w b n f) (hn : Nx w w') : MoI P K E ek dom w' b n f := by
  obtain ⟨D, h1, h2⟩ := h
  exact ⟨D, h1.kept (hn.gr none) (by simp), h2⟩
theorem MoI.gr {w w' : World} {b n s : Nat} {f : κ → Option Int} (h : MoI P K E ek dom w b n f) (hn : Gr s w w') (hs : b ≠ s) : MoI P K E ek dom w' b n f := by
  obtain ⟨D, h1, h2⟩ := h
  exact ⟨D, h1.kept (row := some s) hn (by simpa using hs), h2⟩
theorem MoI.mono {w : World} {b n n' : Nat} {f : κ → Option Int} (h : MoI P K E ek dom w b n f) (hn : n ≤ n') : MoI P K E ek dom w b n' f := by
  obtain ⟨D, h1, h2⟩ := h; exact ⟨D, h1.mono hn, h2⟩
theorem MoI.made (w : World) : MoI P K E ek dom (w.alloc (.map #[] 0)) w.heap.size 0 (fun _ => none) :=
  ⟨.map [], World.ownsMap_made w P K _, isMap_empty, fun _ _ _ _ _ => rfl, fun l h => (by simp [has_eq] at h), fun k h => by cases h⟩
theorem MoI.look {w : World} {b n : Nat} {f : κ → Option Int} {t : TypeId} (h : MoI P K E ek dom w b n f) (KL : Keyed P K) (ht : P.underlying t = some (.map K E)) (he : P.underlying E = some (.int .i64)) (hz : (zeroValue E).run P w = .ok (.int .i64 0) w)
    {k : κ} (hd : dom k) {l : Lit} (hkey : keyOf P K (ek k) = some l) : (Instr.lookup t (.map (some b)) (ek k) false).run P w = .ok (.int .i64 ((f k).getD 0)) w ∧ (Lit.int .i64 ((f k).getD 0)).wf = true := by
  obtain ⟨D, h1, h2⟩ := h
  obtain ⟨c, hrun, hat, hwf⟩ := h1.lookup_int KL ht he hz hkey
  have e := h2.at_ k l hd hkey (.lit (.int .i64 0))
  rw [hat] at e
  have e' : c = (f k).getD 0 := by
    cases hf : f k with
    | none => rw [hf] at e; injection e with e; injection e
    | some v => rw [hf] at e; injection e with e; injection e
  subst e'
  exact ⟨hrun, hwf⟩

theorem MoD.put {D : DataW Unit} {f : κ → Option Int} [DecidableEq κ] (h : MoD P K ek dom D f) (KL : Keyed P K) (hinj : ∀ a b : κ, ek a = ek b → a = b) {k : κ} (hd : dom k) {l : Lit} (hkey : keyOf P K (ek k) = some l) (v : Int) :
    MoD P K ek dom (D.put l (.lit (.int .i64 v))) (fun k' => if k' = k then some v else f k') where
  isMap := h.isMap.put _ _
  at_ k' l' hd' hk' z := by
    by_cases e : k' = k
    · subst e
      rw [hkey] at hk'; injection hk' with hk'; subst hk'
      rw [if_pos rfl]
      exact atKey_put_same h.isMap (KL.key hkey) _ _
    · rw [if_neg e]
      have hne : l' ≠ l := fun e1 => by subst e1; exact e (hinj _ _ (KL.inj hk' hkey))
      rw [atKey_put_other hne]
      exact h.at_ k' l' hd' hk' z
  keys l' hl' := by
    by_cases e : l' = l
    · subst e; exact ⟨k, hd, hkey⟩
    · rw [has_put_other e] at hl'; exact h.keys l' hl'
  dm k' hk' := by
    by_cases e : k' = k
    · subst e; exact hd
    · rw [if_neg e] at hk'; exact h.dm k' hk'

/-- 'm[k] = v'. -/
theorem MoI.upd {w : World} {b n : Nat} {f : κ → Option Int} [DecidableEq κ] {t : TypeId} (h : MoI P K E ek dom w b n f) (KL : Keyed P K) (hinj : ∀ a b : κ, ek a = ek b → a = b) (ht : P.underlying t = some (.map K E)) (he : P.underlying E = some (.int .i64)) (hn : n < maxLen)
    {k : κ} (hd : dom k) {l : Lit} (hkey : keyOf P K (ek k) = some l) (v : Int) (hv : (Lit.int .i64 v).wf = true) :
    ∃ w', (Instr.mapUpdate t (.map (some b)) (ek k) (.int .i64 v)).run P w = .ok () w' ∧ MoI P K E ek dom w' b (n + 1) (fun k' => if k' = k then some v else f k') ∧ Gr b w w' := by
  obtain ⟨D, h1, h2⟩ := h
  obtain ⟨w', hr, ho, hg⟩ := h1.update KL ht hn hkey (plainElem_int (H := Unit) he hv)
  exact ⟨w', hr, ⟨_, ho, h2.put KL hinj hd hkey v⟩, hg⟩

end
end Go.Proofs.YtdnmcpojjndjbaaGreatDoor
/- Sums by key that a loop over a map collects. Of no program. -/
namespace Go.Proofs.YtdnmcpojjndjbaaGreatDoor
open Go.RowKit Go.Sort Go.Maps Go.Proofs Go.Shelf

def domS (k : ByteArray) : Prop := k.size ≤ maxLen
def litS (k : ByteArray) : Lit := .string k.data.toList
theorem keyS_mk {P : Program} {k : TypeId} (hk : P.underlying k = some .string) {s : ByteArray} (hs : domS s) : keyOf P k (.string s) = some (litS s) := by
  unfold domS at hs
  simp [keyOf, hk, mapKey, hs, litS]
theorem strV_inj (a b : ByteArray) (h : Value.string a = Value.string b) : a = b := by injection h
end Go.Proofs.YtdnmcpojjndjbaaGreatDoor
/- A map to bools that is a set. Of no program. -/
namespace Go.Proofs.YtdnmcpojjndjbaaGreatDoor
open Go.RowKit Go.Maps

section
variable {κ : Type} {P : Program} {K E : TypeId} {ek : κ → Value} {dom : κ → Prop}
/-- The map's datum D says of each key whether it is in the set. -/
structure MbD (P : Program) (K : TypeId) (ek : κ → Value) (dom : κ → Prop) (D : DataW Unit) (f : κ → Bool) : Prop where
  isMap : IsMap D
  at_ : ∀ k l, dom k → keyOf P K (ek k) = some l → D.atKey l (.lit (.bool false)) = .lit (.bool (f k))
def MbI (P : Program) (K E : TypeId) (ek : κ → Value) (dom : κ → Prop) (w : World) (b n : Nat) (f : κ → Bool) : Prop :=
  ∃ D : DataW Unit, w.ownsMap P K (plainElem P E) b n D ∧ MbD P K ek dom D f
theorem MbI.lt {w : World} {b n : Nat} {f : κ → Bool} (h : MbI P K E ek dom w b n f) : b < w.heap.size := by
  obtain ⟨D, h1, _⟩ := h; exact h1.lt
theorem MbI.nx {w w' : World} {b n : Nat} {f : κ → Bool} (h : MbI P K E ek dom w b n f) (hn : Nx w w') : MbI P K E ek dom w' b n f := by
  obtain ⟨D, h1, h2⟩ := h
  exact ⟨D, h1.kept (hn.gr none) (by simp), h2⟩
theorem MbI.gr {w w' : World} {b n s : Nat} {f : κ → Bool} (h : MbI P K E ek dom w b n f) (hn : Gr s w w') (hs : b ≠ s) : MbI P K E ek dom w' b n f := by
  obtain ⟨D, h1, h2⟩ := h
  exact ⟨D, h1.kept (row := some s) hn (by simpa using hs), h2⟩
theorem MbI.mono {w : World} {b n n' : Nat} {f : κ → Bool} (h : MbI P K E ek dom w b n f) (hn : n ≤ n') : MbI P K E ek dom w b n' f := by
  obtain ⟨D, h1, h2⟩ := h; exact ⟨D, h1.mono hn, h2⟩
theorem MbI.made (w : World) : MbI P K E ek dom (w.alloc (.map #[] 0)) w.heap.size 0 (fun _ => false) :=
  ⟨.map [], World.ownsMap_made w P K _, isMap_empty, fun _ _ _ _ => rfl⟩
theorem MbI.look {w : World} {b n : Nat} {f : κ → Bool} {t : TypeId} (h : MbI P K E ek dom w b n f) (KL : Keyed P K) (ht : P.underlying t = some (.map K E)) (he : P.underlying E = some .bool) (hz : (zeroValue E).run P w = .ok (.bool false) w)
    {k : κ} (hd : dom k) {l : Lit} (hkey : keyOf P K (ek k) = some l) : (Instr.lookup t (.map (some b)) (ek k) false).run P w = .ok (.bool (f k)) w := by
  obtain ⟨D, h1, h2⟩ := h
  obtain ⟨v, ps, hrun, hv⟩ := h1.lookup KL ht hz (plainElem_bool (H := Unit) he false) hkey
  rw [h2.at_ k l hd hkey] at hv
  rw [hrun]
  unfold plainElem at hv
  rw [he] at hv
  cases v <;> simp at hv
  rw [hv.1]
theorem MbI.upd {w : World} {b n : Nat} {f : κ → Bool} [DecidableEq κ] {t : TypeId} (h : MbI P K E ek dom w b n f) (KL : Keyed P K) (hinj : ∀ a b : κ, ek a = ek b → a = b) (ht : P.underlying t = some (.map K E)) (he : P.underlying E = some .bool) (hn : n < maxLen)
    {k : κ} {l : Lit} (hkey : keyOf P K (ek k) = some l) (v : Bool) :
    ∃ w', (Instr.mapUpdate t (.map (some b)) (ek k) (.bool v)).run P w = .ok () w' ∧ MbI P K E ek dom w' b (n + 1) (fun k' => if k' = k then v else f k') ∧ Gr b w w' := by
  obtain ⟨D, h1, h2⟩ := h
  obtain ⟨w', hr, ho, hg⟩ := h1.update KL ht hn hkey (plainElem_bool (H := Unit) he v)
  refine ⟨w', hr, ⟨_, ho, h2.isMap.put _ _, fun k' l' hd' hk' => ?_⟩, hg⟩
  by_cases e : k' = k
  · subst e
    rw [hkey] at hk'; injection hk' with hk'; subst hk'
    rw [if_pos rfl]
    exact atKey_put_same h2.isMap (KL.key hkey) _ _
  · rw [if_neg e]
    have hne : l' ≠ l := fun e1 => by subst e1; exact e (hinj _ _ (KL.inj hk' hkey))
    rw [atKey_put_other hne]
    exact h2.at_ k' l' hd' hk'
/-- 'm[k] = v' at the operation. -/
theorem wpMbPut [DecidableEq κ] (w : World) {ops : Array Oper} {rest : List Oper} {o : Oper} {a : Act} {Q : Exit → Act → World → Prop}
    (hg : o.guard = none) (m x v : Operand) (t : TypeId) (hop : o.op = Op.mapUpdate t m x v)
    (KL : Keyed P K) (hinj : ∀ a b : κ, ek a = ek b → a = b) (ht : P.underlying t = some (.map K E)) (he : P.underlying E = some .bool) (b n : Nat) (f : κ → Bool)
    (hm : a.eval m = .map (some b)) (hown : MbI P K E ek dom w b n f) (hn : n < maxLen) (k : κ) (hx : a.eval x = ek k) (l : Lit) (hkey : keyOf P K (ek k) = some l)
    (z : Bool) (hz : a.eval v = .bool z)
    (hK : ∀ w', MbI P K E ek dom w' b (n + 1) (fun k' => if k' = k then z else f k') → Gr b w w' → wpList P ops Q rest (a.put o.dst undef) w') :
    wpList P ops Q (o :: rest) a w := by
  refine wpList_plain hg fun K' hK' => ?_
  obtain ⟨w', hrun, r1, r2⟩ := hown.upd KL hinj ht he hn hkey z
  unfold Oper.wp
  simp [execOp, hop, hm, hx, hz, hrun, Result.andThen]
  exact hK' _ _ (hK w' r1 r2)
end
end Go.Proofs.YtdnmcpojjndjbaaGreatDoor
/- The walks of the smallest functions of numbers: those that all packages use. -/
namespace Go.Proofs.YtdnmcpojjndjbaaGreatDoor
open Go.RowKit

theorem ret_bool {a b : Bool} (h : a = b) : Ending.returned (.bool a) = .returned (.bool b) := by rw [h]
theorem ret_int {k : IntKind} {a b : Int} (h : a = b) : Ending.returned (.int k a) = .returned (.int k b) := by rw [h]

theorem w_Out (n l h : Int) (w : World) : Calls Tryz.prog 28 #[.int .i64 n, .int .i64 l, .int .i64 h] w fun e w' => e = .returned (.bool (outB n l h)) ∧ w = w' := by
  by_cases h1 : n < l <;> by_cases h2 : h < n
  all_goals
    go_enter Tryz.func28, Tryz.ntmps28
    go_wp2
    go_ret
    exact ⟨ret_bool (by unfold outB; simp; omega), rfl⟩

theorem w_in (n l h : Int) (w : World) : Calls Tryz.prog 31 #[.int .i64 n, .int .i64 l, .int .i64 h] w fun e w' => e = .returned (.bool (inB n l h)) ∧ w = w' := by
  by_cases h1 : l ≤ n <;> by_cases h2 : n ≤ h
  all_goals
    go_enter Tryz.func31, Tryz.ntmps31
    go_wp2
    go_ret
    exact ⟨ret_bool (by unfold inB; simp; omega), rfl⟩

end Go.Proofs.YtdnmcpojjndjbaaGreatDoor
/- Keys: the program's and the reference's. -/
namespace Go.Proofs.YtdnmcpojjndjbaaGreatDoor
open Go.RowKit

theorem lowC_int (c : UInt8) : lowC c = true ↔ 97 ≤ (c.toNat : Int) ∧ (c.toNat : Int) ≤ 122 := by
  unfold lowC; simp; omega
theorem keyC_int (c : UInt8) : keyC c = true ↔ (97 ≤ (c.toNat : Int) ∧ (c.toNat : Int) ≤ 122) ∨ (48 ≤ (c.toNat : Int) ∧ (c.toNat : Int) ≤ 57) ∨ (c.toNat : Int) = 45 ∨ (c.toNat : Int) = 95 := by
  unfold keyC lowC digC
  have e1 : (c == 45) = true ↔ (c.toNat : Int) = 45 := by
    rw [beq_iff_eq, ← UInt8.toNat_inj]; show c.toNat = 45 ↔ _; omega
  have e2 : (c == 95) = true ↔ (c.toNat : Int) = 95 := by
    rw [beq_iff_eq, ← UInt8.toNat_inj]; show c.toNat = 95 ↔ _; omega
  simp only [Bool.or_eq_true, Bool.and_eq_true, decide_eq_true_eq, e1, e2]
  omega
theorem keyL_snoc {l : List UInt8} {p : UInt8 → Bool} {k : Nat} (hk : k < l.length) : (l.take (k + 1)).all p = ((l.take k).all p && p l[k]) := by
  rw [List.take_succ_eq_append_getElem hk, List.all_append]; simp
theorem data_len (s : ByteArray) : s.data.toList.length = s.size := by simp
theorem keyB_eq (s : ByteArray) (h0 : 0 < s.size) : keyB s = (decide (s.size ≤ 40) && lowC (s[0]'h0) && s.data.toList.all keyC) := by
  unfold keyB
  have e := data_len s
  cases hl : s.data.toList with
  | nil => rw [hl] at e; simp at e; omega
  | cons c l =>
    have e0 : s[0]'h0 = c := by
      have : s.data.toList[0]'(by rw [e]; exact h0) = c := by simp [hl]
      exact this
    unfold keyL
    rw [e0, ← e, hl]
theorem all_take_false {l : List UInt8} {p : UInt8 → Bool} {k : Nat} (hk : k < l.length) (h : p l[k] = false) : l.all p = false := by
  rw [List.all_eq_false]
  exact ⟨_, List.getElem_mem hk, by simp [h]⟩

set_option maxHeartbeats 1000000 in
theorem w_Key (s : ByteArray) (w : World) (hs : s.size ≤ 1000000) :
    Calls Tryz.prog 25 #[.string s] w fun e w' => e = .returned (.bool (keyB s)) ∧ w = w' := by
  by_cases h0 : s.size = 0
  · have he : s.toList = [] := by
      rw [Lib.toList_data]
      exact List.eq_nil_of_length_eq_zero (by rw [data_len]; exact h0)
    have hk : keyB s = false := by
      unfold keyB
      rw [← Lib.toList_data, he]; rfl
    have HK := hide hk
    clear hk
    go_enter Tryz.func25, Tryz.ntmps25
    go_wp2
    go_ret
    exact ⟨ret_bool (by rw [HK.out]), rfl⟩
  · have h1 : 0 < s.size := by omega
    have HK := hide (keyB_eq s h1)
    have he : s.toList.isEmpty = false := by
      rw [Lib.toList_data]
      cases h : s.data.toList with
      | nil => have := data_len s; rw [h] at this; simp at this; omega
      | cons _ _ => rfl
    have L0 := hide (lowC_int (s[0]'h1))
    by_cases h40 : 40 < s.size
    · go_enter Tryz.func25, Tryz.ntmps25
      go_wp2
      go_ret
      exact ⟨ret_bool (by rw [HK.out, decide_eq_false (by omega)]; rfl), rfl⟩
    · by_cases hlow : lowC (s[0]'h1) = true
      · have hlo := L0.out.1 hlow
        have HLW := hide hlow
        obtain ⟨hl1, hl2⟩ := hlo
        clear hlow
        go_enter Tryz.func25, Tryz.ntmps25
        go_wp2
        go_loop [3, 4, 24] (fun _ _ i => ∃ k : Nat, k ≤ s.size ∧ i = .int .i64 k ∧ (s.data.toList.take k).all keyC = true) (fun _ _ i => s.size - (intOf i).toNat)
        case atStart => exact ⟨0, Nat.zero_le _, rfl, by simp⟩
        case round =>
          obtain ⟨k, hk, rfl, hq⟩ := hrel
          have HQ := hide hq
          clear hq
          by_cases hlt : k < s.size
          · have KC := hide (keyC_int s[k])
            have KS := hide (keyL_snoc (p := keyC) (l := s.data.toList) (k := k) (by simpa using hlt))
            have KA := hide (fun h => all_take_false (p := keyC) (l := s.data.toList) (k := k) (by simpa using hlt) h)
            have KE := hide (show s.data.toList[k]'(by simpa using hlt) = s[k] from rfl)
            by_cases hc : keyC s[k] = true
            · have hc' := KC.out.1 hc
              have HC := hide hc
              clear hc
              go_wp2
              all_goals first
                | (go_round
                   case rel => exact ⟨k + 1, by omega, by go_num, by rw [KS.out, HQ.out, KE.out, HC.out]; rfl⟩
                   case measure => simp [intOf]; omega)
                | (exfalso; simp at *; omega)
            · have hc' : ¬ ((97 ≤ (s[k].toNat : Int) ∧ (s[k].toNat : Int) ≤ 122) ∨ (48 ≤ (s[k].toNat : Int) ∧ (s[k].toNat : Int) ≤ 57) ∨ (s[k].toNat : Int) = 45 ∨ (s[k].toNat : Int) = 95) := fun h => hc (KC.out.2 h)
              have HC := hide hc
              clear hc
              go_wp2
              all_goals first
                | (go_ret
                   exact ⟨ret_bool (by rw [HK.out, KA.out (by rw [KE.out]; simpa using HC.out)]; simp), rfl⟩)
                | (exfalso; simp at *; omega)
          · go_wp2
            go_ret
            have e : k = s.size := by omega
            exact ⟨ret_bool (by
              have h := HQ.out
              rw [e, List.take_of_length_le (by rw [data_len]; exact Nat.le_refl _)] at h
              rw [HK.out, decide_eq_true (by omega), HLW.out, h]; rfl), rfl⟩
      · have hlo : ¬ (97 ≤ ((s[0]'h1).toNat : Int) ∧ ((s[0]'h1).toNat : Int) ≤ 122) := fun h => hlow (L0.out.2 h)
        have HLW := hide hlow
        clear hlow
        by_cases hl1 : ((s[0]'h1).toNat : Int) < 97
        · clear hlo
          go_enter Tryz.func25, Tryz.ntmps25
          go_wp2
          go_ret
          exact ⟨ret_bool (by rw [HK.out, show lowC (s[0]'h1) = false by simpa using HLW.out]; simp), rfl⟩
        · have hl2 : 122 < ((s[0]'h1).toNat : Int) := by omega
          clear hlo
          go_enter Tryz.func25, Tryz.ntmps25
          go_wp2
          go_ret
          exact ⟨ret_bool (by rw [HK.out, show lowC (s[0]'h1) = false by simpa using HLW.out]; simp), rfl⟩

def csB : ByteArray := ⟨#[97, 98, 99, 100, 101, 102, 103, 104, 105, 106, 107, 108, 109, 110, 111, 112, 113, 114, 115, 116, 117, 118, 119, 120, 121, 122, 48, 49, 50, 51, 52, 53, 54, 55, 56, 57, 45, 95]⟩
def smB : ByteArray := ⟨#[97, 98, 99, 100, 101, 102, 103, 104, 105, 106, 107, 108, 109, 110, 111, 112, 113, 114, 115, 116, 117, 118, 119, 120, 121, 122]⟩
/-- The reference's trim, of keys' signs. -/
theorem w_TrimKey (s : ByteArray) (w : World) (hs : s.size ≤ 1000000) :
    Calls Tryz.prog 44 #[.string s, .string csB] w fun e w' => ∃ r : ByteArray, e = .returned (.string r) ∧ r.toList.isEmpty = s.data.toList.all keyC ∧ Nx w w' := by
  have hcon := Any.strings_Trim_laid Tryz.trimStr (by kernel_rfl) s csB w (by omega) (by decide) (ascii_of_all (by decide))
  change Calls Tryz.prog 44 _ _ _ at hcon
  refine hcon.mono ?_
  rintro e w' ⟨rfl, hb⟩
  refine ⟨_, rfl, ?_, hb⟩
  rw [Lib.toList_data]
  exact trim_key s.data.toList
theorem w_IndexSmall (c : UInt8) (w : World) :
    Calls Tryz.prog 45 #[.string smB, .int .u8 (c.toNat : Int)] w fun e w' => ∃ z : Int, e = .returned (.int .i64 z) ∧ decide (0 ≤ z) = lowC c ∧ w = w' := by
  have hcon := Any.strings_IndexByte Tryz.indexByteStr smB (c.toNat : Int) w
  change Calls Tryz.prog 45 _ _ _ at hcon
  refine hcon.mono ?_
  rintro e w' ⟨rfl, rfl⟩
  refine ⟨_, rfl, ?_, rfl⟩
  have e : smB.data.toList = smallL := rfl
  have e2 : ((c.toNat : Int)).toNat.toUInt8 = c := by simp
  rw [e, e2]
  exact small_low c

set_option maxHeartbeats 1000000 in
theorem w_KeyR (s : ByteArray) (w : World) (hs : s.size ≤ 1000000) :
    Calls Tryz.prog 29 #[.string s] w fun e w' => e = .returned (.bool (keyB s)) ∧ Nx w w' := by
  have e1 := inB_out (s.size : Int) 1 40
  by_cases h0 : s.size = 0
  · have he : s.toList = [] := by
      rw [Lib.toList_data]
      exact List.eq_nil_of_length_eq_zero (by rw [data_len]; exact h0)
    have hk : keyB s = false := by
      unfold keyB
      rw [← Lib.toList_data, he]; rfl
    have ho : outB (s.size : Int) 1 40 = true := outB_true.2 (by omega)
    rw [ho] at e1
    have HK := hide hk
    clear hk ho h0
    go_enter Tryz.func29, Tryz.ntmps29
    go_wp2_with (go_at_call 31; refine (w_in _ _ _ _).mono ?_; rintro e w' ⟨rfl, rfl⟩)
    go_ret
    exact ⟨ret_bool (by rw [HK.out]), Nx.refl _⟩
  · have h1 : 0 < s.size := by omega
    have HK := hide (keyB_eq s h1)
    have hT := fun w => w_TrimKey s w hs
    by_cases h40 : 40 < s.size
    · have ho : outB (s.size : Int) 1 40 = true := outB_true.2 (by omega)
      rw [ho] at e1
      clear ho
      go_enter Tryz.func29, Tryz.ntmps29
      go_wp2_with (go_at_call 31; refine (w_in _ _ _ _).mono ?_; rintro e w' ⟨rfl, rfl⟩)
      go_ret
      exact ⟨ret_bool (by rw [HK.out, decide_eq_false (by omega)]; rfl), Nx.refl _⟩
    · have ho : outB (s.size : Int) 1 40 = false := outB_false.2 (by omega)
      rw [ho] at e1
      clear ho
      generalize s.data.toList.all keyC = B at HK hT
      go_enter Tryz.func29, Tryz.ntmps29
      go_wp2_with (first
        | (go_at_call 31; refine (w_in _ _ _ _).mono ?_; rintro e w' ⟨rfl, rfl⟩)
        | (go_at_call 44; refine (hT _).mono ?_; rintro e w1 ⟨r, rfl, hr, hn1⟩)
        | (go_at_call 45; refine (w_IndexSmall _ _).mono ?_; rintro e w2 ⟨z, rfl, hz, rfl⟩))
      · go_ret
        exact ⟨ret_bool (by rw [HK.out, decide_eq_true (by omega), show B = true from ‹B = true›]; simp), hn1⟩
      · go_ret
        have hB : B = false := by simpa using ‹¬B = true›
        exact ⟨ret_bool (by rw [HK.out, hB]; simp), hn1⟩
end Go.Proofs.YtdnmcpojjndjbaaGreatDoor
/- cmp.Or of errors. -/
namespace Go.Proofs.YtdnmcpojjndjbaaGreatDoor
open Go.RowKit

def encI (n : Int) : List Value := [.int .i64 n]
theorem orI_drop (zs : List Int) (k : Nat) (hk : k < zs.length) : orI (zs.drop k) = if zs[k] = 0 then orI (zs.drop (k + 1)) else zs[k] := by
  rw [List.drop_eq_getElem_cons hk]; rfl
set_option maxHeartbeats 400000 in
theorem w_OrE (lo : Nat) (A : Option Addr) (c : Nat) (zs : List Int) (w : World) (hR : Rd w lo A 1 encI zs) (hl : zs.length ≤ 65536) :
    Calls Tryz.prog 13 #[.slice A zs.length c] w fun e w' => e = .returned (.int .i64 (orI zs)) ∧ w = w' := by
  generalize hn : zs.length = n at *
  have HR := hide hR
  have HN := hide hn
  clear hR hn
  go_enter Tryz.func13, Tryz.ntmps13
  go_wp2
  go_loop [2, 5, 8] (fun _ _ i => ∃ k : Nat, k ≤ n ∧ i = .int .i64 k ∧ orI zs = orI (zs.drop k)) (fun _ _ i => n - (intOf i).toNat)
  case atStart => exact ⟨0, Nat.zero_le _, rfl, rfl⟩
  case round =>
    obtain ⟨k, hk, rfl, hq⟩ := hrel
    have HQ := hide hq
    clear hq
    by_cases hlt : k < n
    · have hlt' : k < zs.length := by have := HN.out; omega
      obtain ⟨b, off, rfl, _, hb, _, hc⟩ := HR.out.open_ (Nx.refl w) (by omega)
      have c0 : w.cell? ⟨b, off + k, none⟩ = some (.int .i64 zs[k]) := by have := hc k hlt' 0 _ rfl; simpa using this
      clear hc
      have HD := hide (orI_drop zs k hlt')
      by_cases hz : zs[k] = 0
      · have hz' : (zs[k] != 0) = false := by simpa using hz
        generalize zs[k] = z at *
        go_wp2
        go_round
        case rel => exact ⟨k + 1, by omega, by go_num, by rw [HQ.out, HD.out, if_pos hz]⟩
        case measure => simp [intOf]; omega
      · have hz' : (zs[k] != 0) = true := by simpa using hz
        generalize zs[k] = z at *
        go_wp2
        go_ret
        exact ⟨ret_int (by rw [HQ.out, HD.out, if_neg hz]), rfl⟩
    · go_wp2
      go_ret
      exact ⟨ret_int (by rw [HQ.out, List.drop_of_length_le (by have := HN.out; omega)]; rfl), rfl⟩

end Go.Proofs.YtdnmcpojjndjbaaGreatDoor
/- Sorted keys: the program's check and the reference's. -/
namespace Go.Proofs.YtdnmcpojjndjbaaGreatDoor
open Go.RowKit

def Small (l : List ByteArray) : Prop := ∀ s ∈ l, s.size ≤ 1000000
theorem Small.at {l : List ByteArray} (h : Small l) (k : Nat) (hk : k < l.length) : l[k].size ≤ 1000000 := h _ (List.getElem_mem hk)

end Go.Proofs.YtdnmcpojjndjbaaGreatDoor
/- slices.ContainsFunc over numbers and dues, slices.EqualFunc of keys and dues: each for every function value that answers plainly. -/
namespace Go.Proofs.YtdnmcpojjndjbaaGreatDoor
open Go.RowKit

def Enters (g : Nat) : Prop := ∀ args w, (callFunc g args).run Tryz.prog w = .ok (.enter g args) w

set_option maxHeartbeats 1000000 in
theorem w_IndexFI (g : Nat) (p : Int → Bool) (eg : Enters g) (hcl : ∀ x W, Calls Tryz.prog g #[.int .i64 x] W fun e w' => e = .returned (.bool (p x)) ∧ W = w')
    (lo : Nat) (A : Option Addr) (c : Nat) (l : List Int) (w : World) (hR : Rd w lo A 1 encI l) (hl : l.length ≤ 65536) :
    Calls Tryz.prog 43 #[.slice A l.length c, .func (.func g) #[] #[]] w fun e w' => ∃ r : Int, e = .returned (.int .i64 r) ∧ decide (0 ≤ r) = l.any p ∧ w = w' := by
  generalize hn : l.length = n at *
  have HR := hide hR
  have HN := hide hn
  have HC0 := hide hcl
  clear hR hn hcl
  unfold Enters at eg
  go_enter Tryz.func43, Tryz.ntmps43
  go_wp2
  go_loop [5, 8] (fun _ i => ∃ k : Nat, k ≤ n ∧ i = .int .i64 k ∧ (l.take k).any p = false) (fun _ i => n - (intOf i).toNat)
  case atStart => exact ⟨0, Nat.zero_le _, rfl, rfl⟩
  case round =>
    obtain ⟨k, hk, rfl, hq⟩ := hrel
    have HQ := hide hq
    clear hq
    by_cases hlt : k < n
    · have hlt' : k < l.length := by have := HN.out; omega
      obtain ⟨b, off, rfl, _, hb, _, hc⟩ := HR.out.open_ (Nx.refl w) (by omega)
      have c0 : w.cell? ⟨b, off + k, none⟩ = some (.int .i64 l[k]) := by have := hc k hlt' 0 _ rfl; simpa using this
      clear hc
      cases hbig : p l[k]
      · have HB := hide hbig
        have hcl := HC0.out l[k]
        rw [hbig] at hcl
        have HCL := hide hcl
        clear hbig hcl
        go_wp2_with (go_at_fn g; refine (HCL.out _).mono ?_; rintro e w2 ⟨rfl, rfl⟩)
        go_round
        case rel => exact ⟨k + 1, by omega, by go_num, by rw [List.take_succ_eq_append_getElem hlt', List.any_append, HQ.out]; simp [HB.out]⟩
        case measure => simp [intOf]; omega
      · have HB := hide hbig
        have hcl := HC0.out l[k]
        rw [hbig] at hcl
        have HCL := hide hcl
        clear hbig hcl
        go_wp2_with (go_at_fn g; refine (HCL.out _).mono ?_; rintro e w2 ⟨rfl, rfl⟩)
        go_ret
        refine ⟨_, rfl, ?_, rfl⟩
        rw [show l.any p = true from List.any_eq_true.2 ⟨l[k], List.getElem_mem hlt', HB.out⟩]
        simp
    · go_wp2
      go_ret
      refine ⟨_, rfl, ?_, rfl⟩
      have := HQ.out
      rw [List.take_of_length_le (by have := HN.out; omega)] at this
      rw [this]; rfl
theorem w_ContFI (g : Nat) (p : Int → Bool) (eg : Enters g) (hcl : ∀ x W, Calls Tryz.prog g #[.int .i64 x] W fun e w' => e = .returned (.bool (p x)) ∧ W = w')
    (lo : Nat) (A : Option Addr) (c : Nat) (l : List Int) (w : World) (hR : Rd w lo A 1 encI l) (hl : l.length ≤ 65536) :
    Calls Tryz.prog 26 #[.slice A l.length c, .func (.func g) #[] #[]] w fun e w' => e = .returned (.bool (l.any p)) ∧ w = w' := by
  have hcon := fun W => w_IndexFI g p eg hcl lo A c l W
  clear hcl eg
  go_enter Tryz.func26, Tryz.ntmps26
  go_wp2_with (go_at_call 43; refine (hcon _ hR hl).mono ?_; rintro e w2 ⟨r, rfl, hr, rfl⟩)
  go_ret
  exact ⟨rfl, rfl⟩

theorem eqS_iff (s t : ByteArray) : (s.toList == t.toList) = decide (s = t) := by
  rw [Bool.eq_iff_iff, beq_iff_eq, decide_eq_true_eq, Lib.toList_data, Lib.toList_data]
  constructor
  · intro h
    rcases s with ⟨⟨s⟩⟩
    rcases t with ⟨⟨t⟩⟩
    simp at h
    rw [h]
  · rintro rfl; rfl

end Go.Proofs.YtdnmcpojjndjbaaGreatDoor
/- Lists of names: the program's check and the reference's. -/
namespace Go.Proofs.YtdnmcpojjndjbaaGreatDoor
open Go.RowKit

set_option maxHeartbeats 1000000 in
theorem w_IndexFS (g : Nat) (p : ByteArray → Bool) (eg : Enters g) (hcl : ∀ (s : ByteArray) W, s.size ≤ 1000000 → Calls Tryz.prog g #[.string s] W fun e w' => e = .returned (.bool (p s)) ∧ Nx W w')
    (lo : Nat) (A : Option Addr) (c : Nat) (l : List ByteArray) (w : World) (hR : Rd w lo A 1 encS l) (hS : Small l) (hl : l.length ≤ 65536) :
    Calls Tryz.prog 62 #[.slice A l.length c, .func (.func g) #[] #[]] w fun e w' => ∃ r : Int, e = .returned (.int .i64 r) ∧ decide (0 ≤ r) = l.any p ∧ Nx w w' := by
  generalize hn : l.length = n at *
  have HR := hide hR
  have HN := hide hn
  have HC0 := hide hcl
  have HS := hide hS
  clear hR hn hcl hS
  unfold Enters at eg
  go_enter Tryz.func62, Tryz.ntmps62
  go_wp2
  go_loopw [5, 8] (fun _ i wr => ∃ k : Nat, k ≤ n ∧ i = .int .i64 k ∧ Nx w wr ∧ (l.take k).any p = false) (fun _ i _ => n - (intOf i).toNat)
  case atStart => exact ⟨0, Nat.zero_le _, rfl, Nx.refl _, rfl⟩
  case round =>
    obtain ⟨k, hk, rfl, hbw, hq⟩ := hrel
    have HQ := hide hq
    clear hq
    by_cases hlt : k < n
    · have hlt' : k < l.length := by have := HN.out; omega
      obtain ⟨b, off, rfl, _, hb, hbr, hc⟩ := HR.out.open_ hbw (by omega)
      have c0 : wr.cell? ⟨b, off + k, none⟩ = some (.string l[k]) := by have := hc k hlt' 0 _ rfl; simpa using this
      have hsz := HS.out.at k hlt'
      clear hc
      cases hbig : p l[k]
      · have HB := hide hbig
        have hcl := fun W => HC0.out l[k] W hsz
        rw [hbig] at hcl
        have HCL := hide hcl
        clear hbig hcl
        go_wp2_with (go_at_fn g; refine (HCL.out _).mono ?_; rintro e w2 ⟨rfl, hn2⟩)
        go_roundw
        case rel => exact ⟨k + 1, by omega, by go_num, hbw.trans hn2, by rw [List.take_succ_eq_append_getElem hlt', List.any_append, HQ.out]; simp [HB.out]⟩
        case measure => simp [intOf]; omega
      · have HB := hide hbig
        have hcl := fun W => HC0.out l[k] W hsz
        rw [hbig] at hcl
        have HCL := hide hcl
        clear hbig hcl
        go_wp2_with (go_at_fn g; refine (HCL.out _).mono ?_; rintro e w2 ⟨rfl, hn2⟩)
        go_ret
        refine ⟨_, rfl, ?_, hbw.trans hn2⟩
        rw [show l.any p = true from List.any_eq_true.2 ⟨l[k], List.getElem_mem hlt', HB.out⟩]
        simp
    · go_wp2
      go_ret
      refine ⟨_, rfl, ?_, hbw⟩
      have := HQ.out
      rw [List.take_of_length_le (by have := HN.out; omega)] at this
      rw [this]; rfl
theorem w_ContFS (g : Nat) (p : ByteArray → Bool) (eg : Enters g) (hcl : ∀ (s : ByteArray) W, s.size ≤ 1000000 → Calls Tryz.prog g #[.string s] W fun e w' => e = .returned (.bool (p s)) ∧ Nx W w')
    (lo : Nat) (A : Option Addr) (c : Nat) (l : List ByteArray) (w : World) (hR : Rd w lo A 1 encS l) (hS : Small l) (hl : l.length ≤ 65536) :
    Calls Tryz.prog 46 #[.slice A l.length c, .func (.func g) #[] #[]] w fun e w' => e = .returned (.bool (l.any p)) ∧ Nx w w' := by
  have hcon := fun W => w_IndexFS g p eg hcl lo A c l W
  clear hcl eg
  go_enter Tryz.func46, Tryz.ntmps46
  go_wp2_with (go_at_call 62; refine (hcon _ hR hS hl).mono ?_; rintro e w2 ⟨r, rfl, hr, hn2⟩)
  go_ret
  exact ⟨rfl, hn2⟩
def notKey (s : ByteArray) : Bool := !keyB s
theorem w_nodesF1 (s : ByteArray) (w : World) (hs : s.size ≤ 1000000) : Calls Tryz.prog 47 #[.string s] w fun e w' => e = .returned (.bool (notKey s)) ∧ Nx w w' := by
  unfold notKey
  go_enter Tryz.func47, Tryz.ntmps47
  go_wp2_with (go_at_call 25; refine (w_Key _ _ hs).mono ?_; rintro e w' ⟨rfl, rfl⟩)
  go_ret
  exact ⟨rfl, Nx.refl _⟩
theorem w_NamesF1 (s : ByteArray) (w : World) (hs : s.size ≤ 1000000) : Calls Tryz.prog 48 #[.string s] w fun e w' => e = .returned (.bool (notKey s)) ∧ Nx w w' := by
  unfold notKey
  go_enter Tryz.func48, Tryz.ntmps48
  go_wp2_with (go_at_call 29; refine (w_KeyR _ _ hs).mono ?_; rintro e w1 ⟨rfl, hn1⟩)
  go_ret
  exact ⟨rfl, hn1⟩
theorem any_notKey (l : List ByteArray) : l.any notKey = !l.all keyB := by
  induction l with
  | nil => rfl
  | cons x l ih => rw [List.any_cons, List.all_cons, ih]; unfold notKey; cases keyB x <;> simp
theorem w_nodesFault (lo : Nat) (A : Option Addr) (c : Nat) (l : List ByteArray) (w : World) (hR : Rd w lo A 1 encS l) (hS : Small l) (hl : l.length ≤ 65536) :
    Calls Tryz.prog 32 #[.slice A l.length c] w fun e w' => e = .returned (.int .i64 (namesF l 2000)) ∧ Nx w w' := by
  have hcon := w_ContFS 47 notKey (enters_of Tryz.func47 (by kernel_rfl) rfl) (fun s W hs => w_nodesF1 s W hs) lo A c l w hR hS hl
  rw [any_notKey] at hcon
  unfold namesF
  by_cases hb : 2000 < l.length
  · rw [if_pos hb]
    clear hcon
    go_enter Tryz.func32, Tryz.ntmps32
    go_wp2
    go_ret
    exact ⟨rfl, Nx.refl _⟩
  · rw [if_neg hb]
    cases hk : l.all keyB
    all_goals
      rw [hk] at hcon
      go_enter Tryz.func32, Tryz.ntmps32
      go_wp2_with (go_at_call 46; refine hcon.mono ?_; rintro e w2 ⟨rfl, hn2⟩)
      go_ret
      exact ⟨rfl, hn2⟩
theorem w_NamesFault (lo : Nat) (A : Option Addr) (c most : Nat) (l : List ByteArray) (w : World) (hR : Rd w lo A 1 encS l) (hS : Small l) (hl : l.length ≤ 65536) :
    Calls Tryz.prog 33 #[.slice A l.length c, .int .i64 (most : Int)] w fun e w' => e = .returned (.int .i64 (namesF l most)) ∧ Nx w w' := by
  have hcon := w_ContFS 48 notKey (enters_of Tryz.func48 (by kernel_rfl) rfl) (fun s W hs => w_NamesF1 s W hs) lo A c l w hR hS hl
  rw [any_notKey] at hcon
  unfold namesF
  by_cases hb : most < l.length
  · rw [if_pos hb]
    have t1 : decide ((l.length : Int) > (most : Int)) = true := decide_eq_true (by omega)
    clear hcon
    go_enter Tryz.func33, Tryz.ntmps33
    go_wp2
    go_ret
    exact ⟨rfl, Nx.refl _⟩
  · rw [if_neg hb]
    have t1 : decide ((l.length : Int) > (most : Int)) = false := decide_eq_false (by omega)
    cases hk : l.all keyB
    all_goals
      rw [hk] at hcon
      go_enter Tryz.func33, Tryz.ntmps33
      go_wp2_with (go_at_call 46; refine hcon.mono ?_; rintro e w2 ⟨rfl, hn2⟩)
      go_ret
      exact ⟨rfl, hn2⟩
end Go.Proofs.YtdnmcpojjndjbaaGreatDoor
/- Strings in a list: by halving a sorted one, by looking at all. -/
namespace Go.Proofs.YtdnmcpojjndjbaaGreatDoor
open Go.RowKit Go.Proofs Go.Shelf

theorem less_iff (a b : ByteArray) : Op.bytesLess a.toList b.toList = true ↔ ltS a b := by
  rw [bytesLess_eq, Lib.toList_data, Lib.toList_data, decide_eq_true_eq]; rfl
/-- Where x would stand in a sorted list. -/
theorem place (x : ByteArray) : ∀ l : List ByteArray, l.Pairwise ltS → ∃ k, k ≤ l.length ∧ (∀ t (h : t < l.length), t < k → ltS l[t] x) ∧ (∀ t (h : t < l.length), k ≤ t → ¬ ltS l[t] x)
  | [], _ => ⟨0, by simp, fun t h => absurd h (by simp), fun t h => absurd h (by simp)⟩
  | a :: l, hs => by
    rw [List.pairwise_cons] at hs
    obtain ⟨k, h1, h2, h3⟩ := place x l hs.2
    by_cases ha : ltS a x
    · refine ⟨k + 1, by simp; omega, fun t h ht => ?_, fun t h ht => ?_⟩
      · rcases t with _ | t
        · exact ha
        · exact h2 t (by simpa using h) (by omega)
      · rcases t with _ | t
        · omega
        · exact h3 t (by simpa using h) (by omega)
    · refine ⟨0, by simp, fun t h ht => by omega, fun t h ht hl => ?_⟩
      rcases t with _ | t
      · exact ha hl
      · have hm : l[t]'(by simpa using h) ∈ l := List.getElem_mem _
        exact ha (ltS_trans (hs.1 _ hm) hl)
theorem pair_lt {l : List ByteArray} (hs : l.Pairwise ltS) (i j : Nat) (hij : i < j) (hj : j < l.length) : ltS (l[i]'(by omega)) l[j] := by
  rw [List.pairwise_iff_getElem] at hs
  exact hs i j (by omega) hj hij

theorem w_BinS (lo : Nat) (A : Option Addr) (c : Nat) (l : List ByteArray) (x : ByteArray) (w : World) (hR : Rd w lo A 1 encS l) (hl : l.length ≤ 65536) (hs : l.Pairwise ltS) :
    Calls Tryz.prog 79 #[.slice A l.length c, .string x] w fun e w' => ∃ r : Int, e = .returned (.tuple #[.int .i64 r, .bool (memB l x)]) ∧ Nx w w' := by
  by_cases h0 : l.length = 0
  · have e : l = [] := List.eq_nil_of_length_eq_zero h0
    subst e
    have hcon := Any2.slices_BinarySearch_string_empty Tryz.binStr A c x w
    change Calls Tryz.prog 79 _ _ _ at hcon
    exact hcon.mono fun _ _ ⟨h1, h2⟩ => ⟨0, h1, h2 ▸ Nx.refl _⟩
  · obtain ⟨b, off, rfl, _, hb, _, hc⟩ := hR.open_ (Nx.refl w) (by omega)
    have hcell : ∀ j, j < l.length → w.cell? ⟨b, off + j, none⟩ = some (.string (l.getD j x)) := fun j hj => by
      have := hc j hj 0 _ rfl
      rw [List.getD_eq_getElem?_getD, List.getElem?_eq_getElem hj]
      simpa using this
    have hcon := Any2.slices_BinarySearch_string Tryz.binStr b off l.length c (fun t => l.getD t x) x w (by omega) hcell
    change Calls Tryz.prog 79 _ _ _ at hcon
    obtain ⟨k, h1, h2, h3⟩ := place x l hs
    have hg : ∀ t (h : t < l.length), l.getD t x = l[t] := fun t h => by rw [List.getD_eq_getElem?_getD, List.getElem?_eq_getElem h]; rfl
    have hbs : Lib.bsGo (fun t => Op.bytesLess (l.getD t x).toList x.toList) l.length 0 l.length = k := by
      refine Lib.bsGo_spec _ k (fun t ht => ?_) (fun t ht => ?_) _ _ _ (by omega) (by omega) h1
      · show Op.bytesLess (l.getD t x).toList x.toList = true
        rw [less_iff, hg t (by omega)]
        exact h2 t (by omega) ht
      · show Op.bytesLess (l.getD t x).toList x.toList = false
        rw [← Bool.not_eq_true, less_iff]
        by_cases hlt : t < l.length
        · rw [hg t hlt]; exact h3 t hlt ht
        · rw [List.getD_eq_getElem?_getD, List.getElem?_eq_none (by omega)]
          exact ltS_irrefl _
    rw [hbs] at hcon
    refine hcon.mono ?_
    rintro e w' ⟨he, q, rfl⟩
    refine ⟨k, ?_, (Nx.refl _).drewN q⟩
    suffices hbm : decide (k < l.length ∧ l.getD k x = x) = memB l x by rw [he, hbm]
    rw [Bool.eq_iff_iff, decide_eq_true_eq, memB_iff]
    constructor
    · rintro ⟨hk, e⟩
      have e2 : l[k] = x := by rw [← hg k hk]; exact e
      rw [← e2]; exact List.getElem_mem hk
    · intro hm
      obtain ⟨i, hi, e⟩ := List.mem_iff_getElem.1 hm
      have hik : k ≤ i := by
        refine Classical.byContradiction fun hc => ?_
        have := h2 i hi (by omega)
        rw [e] at this; exact ltS_irrefl _ this
      have ek : i = k := by
        refine Classical.byContradiction fun hc => ?_
        have := pair_lt hs k i (by omega) hi
        rw [e] at this
        exact h3 k (by omega) (Nat.le_refl _) this
      subst ek
      exact ⟨hi, by rw [hg i hi, e]⟩
theorem w_ContS (lo : Nat) (A : Option Addr) (c : Nat) (l : List ByteArray) (x : ByteArray) (w : World) (hR : Rd w lo A 1 encS l) (hl : l.length ≤ 65536) :
    Calls Tryz.prog 64 #[.slice A l.length c, .string x] w fun e w' => e = .returned (.bool (memB l x)) ∧ Nx w w' := by
  by_cases h0 : l.length = 0
  · have e : l = [] := List.eq_nil_of_length_eq_zero h0
    subst e
    have hcon := Any.slices_Contains_string_empty Tryz.containsStr A c x w
    change Calls Tryz.prog 64 _ _ _ at hcon
    exact hcon.mono fun _ _ ⟨h1, h2⟩ => ⟨h1, h2 ▸ Nx.refl _⟩
  · obtain ⟨b, off, rfl, _, hb, _, hc⟩ := hR.open_ (Nx.refl w) (by omega)
    have hcell : ∀ j, j < l.length → w.cell? ⟨b, off + j, none⟩ = some (.string (l.getD j ByteArray.empty)) := fun j hj => by
      have := hc j hj 0 _ rfl
      rw [List.getD_eq_getElem?_getD, List.getElem?_eq_getElem hj]
      simpa using this
    have hcon := Any.slices_Contains_string Tryz.containsStr b off l.length c l x w (Nat.le_refl _) (by omega) hcell
    change Calls Tryz.prog 64 _ _ _ at hcon
    have e : Lib.containsS (l.take l.length) x = memB l x := by
      rw [List.take_length, Bool.eq_iff_iff, Lib.containsS_iff, memB_iff]
    rw [e] at hcon
    exact hcon.mono fun _ _ ⟨h1, h2⟩ => ⟨h1, h2 ▸ Nx.refl _⟩
end Go.Proofs.YtdnmcpojjndjbaaGreatDoor
/- 'out = append(out, ys...)' on a row of the call's own. Of no program. -/
namespace Go.Proofs.YtdnmcpojjndjbaaGreatDoor
open Go.RowKit

theorem run_append_nilsrc {P : Program} (w : World) (base : Nat) (t ty e : TypeId) (i : TypeInfo) (size : Nat) (ht : P.underlying t = some (.slice e)) (hi : P.info? e = some i)
    (v : Value) (n : Nat) (xs : List Value) (hown : w.ownsRow base e size v n xs) (c : Nat) : (Builtin.append_ #[t, t] ty #[v, .slice none 0 c]).run P w = .ok v w := by
  rcases hown.2 with ⟨rfl, rfl⟩ | ⟨g, cap, cur, rfl, _, _, hnc, _⟩
  · simp [Builtin.append_, run_underlying ht, sizeOf, typeInfo, hi, Builtin.lenOf, Builtin.firstCells]
  · simp [Builtin.append_, run_underlying ht, sizeOf, typeInfo, hi, Builtin.lenOf, Builtin.firstCells, hnc, storeCells]
/-- 'out = append(out, ys...)'. -/
theorem wpAppL {α : Type} {P : Program} {w : World} {ops : Array Oper} {rest : List Oper} {o : Oper} {a : Act} {Q : Exit → Act → World → Prop} (hgd : o.guard = none) (s x : Operand) (t : TypeId)
    (ho : o.op = .call { callee := .builtin .append, args := #[s, x], argTypes := #[t, t] })
    {e : TypeId} {K bytes : Nat} (E : ElemOf P t e K bytes) (enc : α → List Value) (hk : ∀ x, (enc x).length = K) (h1c : ∀ x, ∀ v ∈ enc x, v.oneCell' = true) (hK : 0 < K) (hB : bytes ≤ 1000)
    (base : Nat) (v : Value) (L : List α) (hs : a.eval s = v) (hown : w.ownsRow base e K v L.length (L.flatMap enc)) (A : Option Addr) (c : Nat) (ys : List α) (hx : a.eval x = .slice A ys.length c)
    {lo : Nat} (hR : Rd w lo A K enc ys) (hlen : L.length + ys.length ≤ 10000000) (hbase : base ≤ w.heap.size)
    (h : ∀ v' w', w'.ownsRow base e K v' (L ++ ys).length ((L ++ ys).flatMap enc) → w.grownBy w' v.ownBlock → wpList P ops Q rest (a.put o.dst v') w') : wpList P ops Q (o :: rest) a w := by
  obtain ⟨i, z, h1, h2, h3, h4, h5⟩ := E.hi
  cases A with
  | none =>
    have hy : ys = [] := by
      rcases ys with _ | ⟨y, ys⟩
      · rfl
      · obtain ⟨b, off, e, _⟩ := hR (by simp); cases e
    subst hy
    refine wpList_plain hgd fun K' hK' => ?_
    have hrun := run_append_nilsrc (P := P) w base t o.type e i K E.ht h1 v L.length _ hown c
    unfold Oper.wp execOp
    simp only [ho, resolve, invoke, builtin, Sem.run_bind, Sem.run_pure, Result.andThen_ok, List.map_toArray, List.map_cons, List.map_nil, hs, hx, List.length_nil, hrun]
    exact hK' _ _ (h v w (by simpa using hown) (World.grownBy.refl _ _))
  | some ad =>
    refine wpList_append_own w hgd s x t ho base e i z K bytes E.ht h1 h2 h3 h4 h5 hK v L.length _ hs hown ad ys.length c (ys.flatMap enc) hx (flat_len hk) ?_ ?_ (by unfold maxLen; omega) ?_ hbase ?_
    · intro j u hu
      have hj : j < ys.length * K := by have := (List.getElem?_eq_some_iff.1 hu).1; rw [flat_len hk] at this; exact this
      have hyl : 0 < ys.length := by
        rcases Nat.eq_zero_or_pos ys.length with h0 | h0
        · rw [h0] at hj; omega
        · exact h0
      obtain ⟨b, off, e, _, _, hc⟩ := hR hyl
      injection e with e; subst e
      have hq : j / K < ys.length := (Nat.div_lt_iff_lt_mul hK).2 hj
      have hr : j % K < K := Nat.mod_lt _ hK
      have e1 : j / K * K + j % K = j := by rw [Nat.mul_comm]; exact Nat.div_add_mod j K
      have hu2 : (enc ys[j / K])[j % K]? = some u := by
        have h6 : (enc ys[j / K])[j % K]? = some ((enc ys[j / K])[j % K]'(by rw [hk]; exact hr)) := List.getElem?_eq_getElem _
        have h7 := flat_get (xs := ys) hk (j / K) _ (List.getElem?_eq_getElem hq) (j % K) _ h6
        rw [e1, hu] at h7
        rw [h6, ← h7]
      have := hc (j / K) _ (List.getElem?_eq_getElem hq) (j % K) u hu2
      have e2 : (⟨b, off, none⟩ : Addr).add j = ⟨b, off + j, none⟩ := by unfold Addr.add; split <;> simp_all
      rw [e2, ← e1, ← Nat.add_assoc]
      exact this
    · intro u hu
      obtain ⟨y, _, hy⟩ := List.mem_flatMap.1 hu
      exact h1c y u hy
    · have : (L.length + ys.length) * bytes ≤ 10000000 * 1000 := Nat.mul_le_mul hlen hB
      omega
    · intro v' w' ho' hg' _
      exact h v' w' (by simpa using ho') hg'

end Go.Proofs.YtdnmcpojjndjbaaGreatDoor
