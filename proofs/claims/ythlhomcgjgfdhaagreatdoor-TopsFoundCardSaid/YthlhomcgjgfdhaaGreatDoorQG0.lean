/- Words for memory, of no program: a slice that reads as a list of elements of K cells, the stream's object, worlds that only grow. -/
import Derived.WalkKit
import Derived.WalkSpells
import Derived.WalkLawsBesides
import Derived.IntWalk
import Derived.Test.YthlhomcgjgfdhaaGreatDoorRows
import Derived.Deep.QuietTactic
import Derived.BigQuiet
import Derived.Outline
import Derived.Lib.AtoiTie
import Derived.Lib.ItoaNum
import Derived.Lib.SplitLaws
import Derived.Lib.IndexLaws
import Derived.Lib.Strings
import Derived.Sort.Grow
import Derived.Deep.RegionHeld3
import Derived.StillTailTactics
import Derived.Shelf.SlSortCmp.InsertionK
import Derived.Sort.WalkA
namespace Go.Proofs.YthlhomcgjgfdhaaGreatDoor
open Go.RowKit

theorem hide {p : Prop} (h : p) : Hid p := h

/-- Nothing that was there has turned. -/
def Nx (w w' : World) : Prop := Below w.heap.size w w'
theorem Nx.refl (w : World) : Nx w w := Below.refl _ _
theorem Nx.trans {a b c : World} (h : Nx a b) (k : Nx b c) : Nx a c := Below.trans h (Below.mono k h.size)
theorem Nx.drew {a w : World} (h : Nx a w) : Nx a w.drew := Below.drew h
theorem Nx.drewN {a w : World} (h : Nx a w) (n : Nat) : Nx a (w.drewN n) := below_drewN h n
theorem Nx.alloc {a w : World} (h : Nx a w) (o : Obj) : Nx a (w.alloc o) := Below.alloc h h.size o
theorem Nx.setCell {a w : World} (h : Nx a w) {p : Addr} (hp : a.heap.size ≤ p.block) (u : Value) : Nx a (w.setCell p u) := Below.setCell h hp u
theorem Nx.sz {a w : World} (h : Nx a w) : a.heap.size ≤ w.heap.size := h.size
theorem Nx.grown {a w w' : World} {row : Option Nat} (h : Nx a w) (hg : w.grownBy w' row) (hr : ∀ k, row = some k → a.heap.size ≤ k) : Nx a w' := Below.grown h hg h.size hr
theorem Nx.gr {a w : World} (h : Nx a w) (row : Option Nat) : a.grownBy w row := ⟨h.os, h.tape, h.output, h.size, fun i hi _ => h.block i hi⟩

/-- Only block s, and what is new, has turned. -/
def Gr (s : Nat) (a w : World) : Prop := a.grownBy w (some s)
theorem Gr.refl (s : Nat) (w : World) : Gr s w w := World.grownBy.refl w _
theorem Gr.of_nx {s : Nat} {a w : World} (h : Nx a w) : Gr s a w := h.gr _
theorem Gr.sz {s : Nat} {a w : World} (h : Gr s a w) : a.heap.size ≤ w.heap.size := World.grownBy.size h
theorem Gr.trans {s : Nat} {a b c : World} (h : Gr s a b) (k : Gr s b c) : Gr s a c :=
  ⟨k.os.trans h.os, k.tape.trans h.tape, k.output.trans h.output, Nat.le_trans h.size k.size, fun i hi hn => (k.block i (Nat.lt_of_lt_of_le hi h.size) hn).trans (h.block i hi hn)⟩
theorem Gr.then_nx {s : Nat} {a b c : World} (h : Gr s a b) (k : Nx b c) : Gr s a c := h.trans (Gr.of_nx k)
theorem Gr.drew {s : Nat} {a w : World} (h : Gr s a w) : Gr s a w.drew := h.then_nx (Nx.refl _).drew
theorem Gr.drewN {s : Nat} {a w : World} (h : Gr s a w) (n : Nat) : Gr s a (w.drewN n) := h.then_nx ((Nx.refl _).drewN n)
theorem Gr.alloc {s : Nat} {a w : World} (h : Gr s a w) (o : Obj) : Gr s a (w.alloc o) := h.then_nx ((Nx.refl _).alloc o)
theorem Gr.setS {s : Nat} {a w : World} (h : Gr s a w) {p : Addr} (hp : p.block = s ∨ a.heap.size ≤ p.block) (u : Value) : Gr s a (w.setCell p u) :=
  ⟨h.os, h.tape, h.output, by have := h.sz; simpa [World.setCell] using this, fun i hi hne => (Below.heap_setCell w p u i (by
    rintro rfl
    rcases hp with hp | hp
    · exact hne (by rw [hp])
    · omega)).trans (h.block i hi hne)⟩
theorem Gr.grown {s : Nat} {a w w' : World} {row : Option Nat} (h : Gr s a w) (hg : w.grownBy w' row) (hr : ∀ k, row = some k → k = s ∨ a.heap.size ≤ k) : Gr s a w' :=
  ⟨hg.os.trans h.os, hg.tape.trans h.tape, hg.output.trans h.output, Nat.le_trans h.size hg.size, fun i hi hne => (hg.block i (Nat.lt_of_lt_of_le hi h.size) (fun e => by
    rcases hr i e.symm with h1 | h1
    · exact hne (by rw [h1])
    · omega)).trans (h.block i hi hne)⟩
theorem Nx.of_gr {s : Nat} {a w : World} (h : Gr s a w) (hs : a.heap.size ≤ s) : Nx a w :=
  ⟨h.os, h.tape, h.output, h.size, fun i hi => h.block i hi (by intro e; injection e with e; omega)⟩

/-- A slice's value with address A reads as xs, each element K cells; its block lies from lo on. -/
def Rd {α : Type} (w : World) (lo : Nat) (A : Option Addr) (K : Nat) (enc : α → List Value) (xs : List α) : Prop :=
  0 < xs.length → ∃ b off, A = some ⟨b, off, none⟩ ∧ lo ≤ b ∧ b < w.heap.size ∧ ∀ i x, xs[i]? = some x → ∀ j u, (enc x)[j]? = some u → w.cell? ⟨b, off + i * K + j, none⟩ = some u
section
variable {α : Type} {w w' : World} {lo lo' K : Nat} {A : Option Addr} {enc : α → List Value} {xs : List α}
theorem Rd.nil : Rd w lo A K enc ([] : List α) := fun h => absurd h (by simp)
theorem Rd.nx (h : Rd w lo A K enc xs) (hn : Nx w w') : Rd w' lo A K enc xs := fun hp => by
  obtain ⟨b, off, e, hl, hb, hc⟩ := h hp
  exact ⟨b, off, e, hl, Nat.lt_of_lt_of_le hb hn.sz, fun i x hx j u hu => (Below.cell hn (p := ⟨b, _, none⟩) hb).trans (hc i x hx j u hu)⟩
theorem Rd.gr {s : Nat} (h : Rd w lo A K enc xs) (hn : Gr s w w') (hs : s < lo) : Rd w' lo A K enc xs := fun hp => by
  obtain ⟨b, off, e, hl, hb, hc⟩ := h hp
  exact ⟨b, off, e, hl, Nat.lt_of_lt_of_le hb hn.sz, fun i x hx j u hu => World.grownBy.cell (row := some s) hn (hc i x hx j u hu) (by simp; omega)⟩
theorem Rd.low (h : Rd w lo A K enc xs) (hl : lo' ≤ lo) : Rd w lo' A K enc xs := fun hp => by
  obtain ⟨b, off, e, h1, hb, hc⟩ := h hp
  exact ⟨b, off, e, Nat.le_trans hl h1, hb, hc⟩
/-- For a loop: the block and all the cells, in the round's world. -/
theorem Rd.open_ (h : Rd w lo A K enc xs) (hn : Nx w w') (hp : 0 < xs.length) : ∃ b off, A = some ⟨b, off, none⟩ ∧ lo ≤ b ∧ b < w.heap.size ∧ b < w'.heap.size ∧ ∀ i (hi : i < xs.length) j u, (enc xs[i])[j]? = some u → w'.cell? ⟨b, off + i * K + j, none⟩ = some u := by
  obtain ⟨b, off, e, hl, hb, hc⟩ := h hp
  exact ⟨b, off, e, hl, hb, Nat.lt_of_lt_of_le hb hn.sz, fun i hi j u hu => (Below.cell hn (p := ⟨b, _, none⟩) hb).trans (hc i _ (List.getElem?_eq_getElem hi) j u hu)⟩
theorem flat_get (hk : ∀ x, (enc x).length = K) (i : Nat) (x : α) (hx : xs[i]? = some x) (j : Nat) (u : Value) (hu : (enc x)[j]? = some u) : (xs.flatMap enc)[i * K + j]? = some u := by
  induction xs generalizing i with
  | nil => simp at hx
  | cons y ys ih =>
    rw [List.flatMap_cons]
    rcases i with _ | i
    · simp at hx; subst hx
      rw [List.getElem?_append_left (by have := (List.getElem?_eq_some_iff.1 hu).1; omega)]
      simpa using hu
    · have hx' : ys[i]? = some x := by simpa using hx
      rw [List.getElem?_append_right (by rw [hk, Nat.add_mul]; omega), hk]
      have e : (i + 1) * K + j - K = i * K + j := by rw [Nat.add_mul]; omega
      rw [e]
      exact ih i hx'
theorem flat_len (hk : ∀ x, (enc x).length = K) : (xs.flatMap enc).length = xs.length * K := by
  induction xs with
  | nil => simp
  | cons y ys ih => rw [List.flatMap_cons, List.length_append, ih, hk, List.length_cons, Nat.add_mul]; omega
/-- A row of the call's own, read. -/
theorem Rd.of_own {base : Nat} {e : TypeId} {v : Value} {n : Nat} (hk : ∀ x, (enc x).length = K) (hn : n = xs.length) (h : w.ownsRow base e K v n (xs.flatMap enc)) :
    ∃ A c, v = .slice A xs.length c ∧ Rd w base A K enc xs ∧ (∀ a, A = some a → ∃ g, a = ⟨g, 0, none⟩ ∧ base ≤ g ∧ g < w.heap.size) := by
  subst hn
  rcases h.2 with ⟨rfl, h0⟩ | ⟨g, cap, cur, rfl, hg, hh, hr⟩
  · have hx : xs = [] := List.eq_nil_of_length_eq_zero h0
    subst hx
    exact ⟨none, 0, rfl, Rd.nil, by simp⟩
  · have hlt := (h.lt g rfl)
    refine ⟨some ⟨g, 0, none⟩, cap, rfl, fun _ => ⟨g, 0, rfl, hlt.1, hlt.2, fun i x hx j u hu => ?_⟩, fun a ha => ⟨g, by injection ha with ha; exact ha.symm, hlt.1, hlt.2⟩⟩
    have hil : i < xs.length := (List.getElem?_eq_some_iff.1 hx).1
    have hjl : j < K := by have := (List.getElem?_eq_some_iff.1 hu).1; rw [hk] at this; exact this
    have h2 := h.cellAt (i * K + j) (by
      have : (i + 1) * K ≤ xs.length * K := Nat.mul_le_mul_right K hil
      rw [Nat.add_mul] at this; omega)
    rw [Nat.zero_add, h2]
    exact flat_get hk i x hx j u hu
end

theorem heap_set {w : World} {s i : Nat} {cs : Array Value} {t : TypeId} {u : Value} (h : w.heap[s]? = some (.cells cs t (0, 0))) : (w.setCell ⟨s, i, none⟩ u).heap[s]? = some (.cells (cs.setIfInBounds i u) t (0, 0)) := by
  simp [World.setCell, Array.getElem?_modify, h]
theorem cell_set {w : World} {s i b o : Nat} {u : Value} (h : b ≠ s) : (w.setCell ⟨s, i, none⟩ u).cell? ⟨b, o, none⟩ = w.cell? ⟨b, o, none⟩ :=
  World.cell?_setCell_other _ _ _ _ (by intro e; injection e with e1 e2; omega)

theorem flipc {P : Program} {f : FuncId} {args : Array Value} {w : World} {v : Value} (h : Calls P f args w (fun e w' => e = .returned v ∧ w = w')) : Calls P f args w (fun e w'' => e = .returned v ∧ w'' = w) :=
  h.mono fun _ _ ⟨a, b⟩ => ⟨a, b.symm⟩
/-- A literal row. -/
theorem Rd.lit {α : Type} {w : World} {lo g K : Nat} {enc : α → List Value} {xs : List α} {cs : Array Value} {t : TypeId} (hg : w.heap[g]? = some (.cells cs t (0, 0))) (hlo : lo ≤ g) (hk : ∀ x, (enc x).length = K) (hcs : cs.toList = xs.flatMap enc) :
    Rd w lo (some ⟨g, 0, none⟩) K enc xs := fun _ => by
  have hlt : g < w.heap.size := by
    rcases Nat.lt_or_ge g w.heap.size with hlt | hge
    · exact hlt
    · rw [Array.getElem?_eq_none hge] at hg; cases hg
  refine ⟨g, 0, rfl, hlo, hlt, fun i x hx j u hu => ?_⟩
  rw [Nat.zero_add, cell_of_row w g _ cs t _ hg, ← Array.getElem?_toList, hcs]
  exact flat_get hk i x hx j u hu

theorem hnew {w : World} {o : Obj} {g : Nat} (hg : g = w.heap.size) : (w.alloc o).heap[g]? = some o := by subst hg; exact heap_alloc_new w o
theorem hnew_drew {w : World} {o : Obj} {g : Nat} (hg : g = w.heap.size) : (w.alloc o).drew.heap[g]? = some o := hnew hg
/-- t is a slice type over e, whose values take K cells and so many bytes. -/
structure ElemOf (P : Program) (t e : TypeId) (K bytes : Nat) : Prop where
  ht : P.underlying t = some (.slice e)
  hi : ∃ i z, P.info? e = some i ∧ i.zero = some z ∧ i.size = K ∧ i.bytes = bytes ∧ z.cells.size = K
theorem ElemOf.mk' {P : Program} {t e : TypeId} {K bytes : Nat} {z : Value} (ht : P.underlying t = some (.slice e)) (h : (P.info? e).map (fun i => (i.zero, i.size, i.bytes)) = some (some z, K, bytes)) (hz : z.cells.size = K) : ElemOf P t e K bytes := by
  obtain ⟨i, h1, h2, h3, h4⟩ := info_parts h
  exact ⟨ht, i, z, h1, h2, h3, h4, hz⟩
theorem news_of {w : World} {g : Nat} {cs : Array Value} {e : TypeId} (h : w.heap[g]? = some (.cells cs e (0, 0))) {l : List Value} (hl : cs.toList = l) : ∀ j u, l[j]? = some u → w.cell? ((⟨g, 0, none⟩ : Addr).add j) = some u := by
  intro j u hu
  have e1 : (⟨g, 0, none⟩ : Addr).add j = ⟨g, j, none⟩ := by unfold Addr.add; split <;> simp_all
  rw [e1, cell_of_row w g j cs e _ h, ← Array.getElem?_toList, hl]
  exact hu
/-- 'out = append(out, y)' on a row of the call's own. -/
theorem wpApp {α : Type} {P : Program} {w : World} {ops : Array Oper} {rest : List Oper} {o : Oper} {a : Act} {Q : Exit → Act → World → Prop} (hgd : o.guard = none) (s x : Operand) (t : TypeId)
    (ho : o.op = .call { callee := .builtin .append, args := #[s, x], argTypes := #[t, t] })
    {e : TypeId} {K bytes : Nat} (E : ElemOf P t e K bytes) (enc : α → List Value) (hk : ∀ x, (enc x).length = K) (h1c : ∀ x, ∀ v ∈ enc x, v.oneCell' = true) (hK : 0 < K) (hB : bytes ≤ 1000)
    (base : Nat) (v : Value) (L : List α) (hs : a.eval s = v) (hown : w.ownsRow base e K v L.length (L.flatMap enc)) (g : Nat) (y : α) (cs : Array Value) (hx : a.eval x = .slice (some ⟨g, 0, none⟩) 1 1)
    (hblk : w.heap[g]? = some (.cells cs e (0, 0))) (hcs : cs.toList = enc y) (hlen : L.length ≤ 10000000) (hbase : base ≤ w.heap.size)
    (h : ∀ v' w', w'.ownsRow base e K v' (L ++ [y]).length ((L ++ [y]).flatMap enc) → w.grownBy w' v.ownBlock → wpList P ops Q rest (a.put o.dst v') w') : wpList P ops Q (o :: rest) a w := by
  obtain ⟨i, z, h1, h2, h3, h4, h5⟩ := E.hi
  refine wpList_append_own w hgd s x t ho base e i z K bytes E.ht h1 h2 h3 h4 h5 hK v L.length _ hs hown ⟨g, 0, none⟩ 1 1 (enc y) hx (by rw [hk]; omega) (news_of hblk hcs) (h1c y) (by unfold maxLen; omega) ?_ hbase ?_
  · have : (L.length + 1) * bytes ≤ 10000001 * 1000 := Nat.mul_le_mul (by omega) hB
    omega
  · intro v' w' ho' hg' _
    exact h v' w' (by simpa using ho') hg'
theorem own_blk_lt {w : World} {base : Nat} {e : TypeId} {size : Nat} {v : Value} {n : Nat} {xs : List Value} (h : w.ownsRow base e size v n xs) : ∀ k, v.ownBlock = some k → base ≤ k := fun k hk => (h.lt k hk).1
theorem own_nx {w w' : World} {base : Nat} {e : TypeId} {size : Nat} {v : Value} {n : Nat} {xs : List Value} (h : w.ownsRow base e size v n xs) (hn : Nx w w') : w'.ownsRow base e size v n xs :=
  h.kept (hn.gr none) (by cases hv : v.ownBlock <;> simp)
theorem own_gr {w w' : World} {s base : Nat} {e : TypeId} {size : Nat} {v : Value} {n : Nat} {xs : List Value} (h : w.ownsRow base e size v n xs) (hn : w.grownBy w' (some s)) (hs : s < base) : w'.ownsRow base e size v n xs :=
  h.kept hn (.inr fun e => by have := own_blk_lt h s e; omega)

theorem flat_set {α : Type} {enc : α → List Value} {K : Nat} (hk : ∀ x, (enc x).length = K) : ∀ (xs : List α) (i : Nat) (hi : i < xs.length) (x' : α) (j : Nat) (_ : j < K) (u : Value), enc x' = (enc xs[i]).set j u → (xs.flatMap enc).set (i * K + j) u = (xs.set i x').flatMap enc
  | y :: ys, 0, hi, x', j, hj, u, h => by
    rw [List.set_cons_zero, List.flatMap_cons, List.flatMap_cons, Nat.zero_mul, Nat.zero_add, List.set_append_left _ _ (by rw [hk]; exact hj), h]; rfl
  | y :: ys, i + 1, hi, x', j, hj, u, h => by
    rw [List.set_cons_succ, List.flatMap_cons, List.flatMap_cons, List.set_append_right _ _ (by rw [hk, Nat.add_mul]; omega), hk, show (i + 1) * K + j - K = i * K + j by rw [Nat.add_mul]; omega]
    rw [flat_set hk ys i (by simpa using hi) x' j hj u (by simpa using h)]
/-- A field of a row's element is stored. -/
theorem own_set {α : Type} {enc : α → List Value} {K : Nat} (hk : ∀ x, (enc x).length = K) {w : World} {base g cap n : Nat} {e : TypeId} {xs : List α} (hn : xs.length = n) (h : w.ownsRow base e K (.slice (some ⟨g, 0, none⟩) n cap) n (xs.flatMap enc))
    (i : Nat) (hi : i < xs.length) (j : Nat) (hj : j < K) (u : Value) (x' : α) (hx : enc x' = (enc xs[i]).set j u) (off : Nat) (ho : off = i * K + j) :
    (w.setCell ⟨g, off, none⟩ u).ownsRow base e K (.slice (some ⟨g, 0, none⟩) n cap) n ((xs.set i x').flatMap enc) := by
  subst ho hn
  rw [← flat_set hk xs i hi x' j hj u hx]
  exact (h.stored (i * K + j) u).1
/-- A field of a row's element, read. -/
theorem own_cell {α : Type} {enc : α → List Value} {K : Nat} (hk : ∀ x, (enc x).length = K) {w : World} {base g cap n : Nat} {e : TypeId} {xs : List α} (hn : xs.length = n) (h : w.ownsRow base e K (.slice (some ⟨g, 0, none⟩) n cap) n (xs.flatMap enc))
    (i : Nat) (hi : i < xs.length) (j : Nat) (u : Value) (hu : (enc xs[i])[j]? = some u) : w.cell? ⟨g, i * K + j, none⟩ = some u := by
  subst hn
  have hj : j < K := by have := (List.getElem?_eq_some_iff.1 hu).1; rw [hk] at this; exact this
  rw [h.cellAt (i * K + j) (by
      have : (i + 1) * K ≤ xs.length * K := Nat.mul_le_mul_right K hi
      rw [Nat.add_mul] at this; omega)]
  exact flat_get hk i _ (List.getElem?_eq_getElem hi) j u hu
end Go.Proofs.YthlhomcgjgfdhaaGreatDoor
/- Plain functions: what the smallest functions of numbers compute. -/
namespace Go.Proofs.YthlhomcgjgfdhaaGreatDoor

def outB (n l h : Int) : Bool := decide (n < l) || decide (h < n)
def inB (n l h : Int) : Bool := decide (l ≤ n) && decide (n ≤ h)
theorem inB_out (n l h : Int) : inB n l h = !outB n l h := by
  unfold inB outB
  by_cases h1 : n < l <;> by_cases h2 : h < n <;> simp [h1, h2] <;> (try omega)
theorem outB_false {n l h : Int} : outB n l h = false ↔ l ≤ n ∧ n ≤ h := by unfold outB; simp
def isPtB (x y : Int) : Bool := !outB x (-10000) 10000 && !outB y (-10000) 10000
theorem isPtB_true {x y : Int} : isPtB x y = true ↔ (-10000 ≤ x ∧ x ≤ 10000) ∧ (-10000 ≤ y ∧ y ≤ 10000) := by unfold isPtB; simp [outB_false]
def argF (b : Bool) : Int := if b then 0 else 1
def ptF (x y : Int) : Int := argF (isPtB x y)
def hourF (n : Int) : Int := argF (!outB n 0 167)
/-- The first that is not 0. -/
def orI : List Int → Int
  | [] => 0
  | z :: zs => if z = 0 then orI zs else z

/-- cmp.Compare. -/
def cmpI (a b : Int) : Int := if a < b then -1 else if b < a then 1 else 0

theorem tdiv_bd (a b : Int) (hb : 1 ≤ b) : -(if a < 0 then -a else a) ≤ a.tdiv b ∧ a.tdiv b ≤ (if a < 0 then -a else a) := by
  rcases Int.le_total 0 a with h | h
  · rw [Int.tdiv_eq_ediv_of_nonneg h]
    have h1 := Int.ediv_nonneg h (show 0 ≤ b by omega)
    have h2 := Int.ediv_le_self b h
    split <;> omega
  · have e : a.tdiv b = -((-a) / b) := by
      rw [← Int.tdiv_eq_ediv_of_nonneg (by omega), Int.neg_tdiv]; omega
    have h1 := Int.ediv_nonneg (a := -a) (by omega) (show 0 ≤ b by omega)
    have h2 := Int.ediv_le_self b (show 0 ≤ -a by omega)
    rw [e]
    split <;> omega
theorem floor_pos (a b : Int) (hb : 1 ≤ b) (h : ¬ a.tmod b < 0) : a.tdiv b = a / b := by
  have h1 := Int.mul_tdiv_add_tmod a b
  have h2 := Int.tmod_lt_of_pos a (show 0 < b by omega)
  exact ((Int.ediv_emod_unique (a := a) (b := b) (r := a.tmod b) (q := a.tdiv b) (by omega)).2 ⟨by omega, by omega, h2⟩).1.symm
theorem floor_neg (a b : Int) (hb : 1 ≤ b) (h : a.tmod b < 0) : a.tdiv b - 1 = a / b := by
  have h1 := Int.mul_tdiv_add_tmod a b
  have h2 := Int.lt_tmod_of_pos a (b := b) (by omega)
  exact ((Int.ediv_emod_unique (a := a) (b := b) (r := a.tmod b + b) (q := a.tdiv b - 1) (by omega)).2 ⟨by rw [Int.mul_sub]; omega, by omega, by omega⟩).1.symm

/-- What stands ahead of place k. -/
def prevOf {α : Type} (l : List α) (k : Nat) : Option α := if k = 0 then none else l[k - 1]?
/-- A check over a list: the first fault; each element is held against the one ahead of it. -/
def chk {α : Type} (f : Option α → α → Int) : Option α → List α → Int
  | _, [] => 0
  | p, c :: cs => if f p c = 0 then chk f (some c) cs else f p c
theorem chk_drop {α : Type} (f : Option α → α → Int) (l : List α) (k : Nat) (hk : k < l.length) :
    chk f (prevOf l k) (l.drop k) = if f (prevOf l k) l[k] = 0 then chk f (prevOf l (k + 1)) (l.drop (k + 1)) else f (prevOf l k) l[k] := by
  rw [List.drop_eq_getElem_cons hk, chk]
  have e : prevOf l (k + 1) = some l[k] := by unfold prevOf; simp [List.getElem?_eq_getElem hk]
  rw [e]
theorem prevOf_zero {α : Type} (l : List α) : prevOf l 0 = none := rfl
theorem prevOf_pos {α : Type} (l : List α) (k : Nat) (h : 0 < k) (hk : k ≤ l.length) : prevOf l k = some (l[k - 1]'(by omega)) := by
  unfold prevOf; rw [if_neg (by omega), List.getElem?_eq_getElem]

structure Cell where
  x : Int
  y : Int
deriving DecidableEq, Inhabited
structure Tally where
  x : Int
  y : Int
  hour : Int
  many : Int
deriving DecidableEq, Inhabited

/-- The order of cells; of tallies. -/
def cellC (a b : Cell) : Int := orI [cmpI a.x b.x, cmpI a.y b.y]
def tallyC (a b : Tally) : Int := orI [cellC ⟨a.x, a.y⟩ ⟨b.x, b.y⟩, cmpI a.hour b.hour]

/-- A cell in an hour. -/
structure Spot where
  x : Int
  y : Int
  h : Int
deriving DecidableEq, Inhabited
def keyT (t : Tally) : Spot := ⟨t.x, t.y, t.hour⟩
theorem orI_two (a b : Int) : orI [a, b] = if a = 0 then b else a := by
  unfold orI orI orI
  by_cases h1 : a = 0 <;> by_cases h2 : b = 0 <;> simp [h1, h2]
theorem cmpI_neg {a b : Int} : cmpI a b < 0 ↔ a < b := by unfold cmpI; split <;> (try split) <;> omega
theorem cmpI_zero {a b : Int} : cmpI a b = 0 ↔ a = b := by unfold cmpI; split <;> (try split) <;> omega
theorem cellC_neg {a b : Cell} : cellC a b < 0 ↔ a.x < b.x ∨ (a.x = b.x ∧ a.y < b.y) := by
  unfold cellC; rw [orI_two]
  have h1 := @cmpI_zero a.x b.x
  have h2 := @cmpI_neg a.x b.x
  have h3 := @cmpI_neg a.y b.y
  split <;> omega
theorem cellC_zero {a b : Cell} : cellC a b = 0 ↔ a.x = b.x ∧ a.y = b.y := by
  unfold cellC; rw [orI_two]
  have h1 := @cmpI_zero a.x b.x
  have h3 := @cmpI_zero a.y b.y
  split <;> omega
theorem tallyC_neg {a b : Tally} : tallyC a b < 0 ↔ a.x < b.x ∨ (a.x = b.x ∧ (a.y < b.y ∨ (a.y = b.y ∧ a.hour < b.hour))) := by
  unfold tallyC; rw [orI_two]
  have h1 := @cellC_zero ⟨a.x, a.y⟩ ⟨b.x, b.y⟩
  have h2 := @cellC_neg ⟨a.x, a.y⟩ ⟨b.x, b.y⟩
  have h3 := @cmpI_neg a.hour b.hour
  simp only at h1 h2
  split <;> omega
theorem tallyC_zero {a b : Tally} : tallyC a b = 0 ↔ keyT a = keyT b := by
  unfold tallyC keyT; rw [orI_two]
  have h1 := @cellC_zero ⟨a.x, a.y⟩ ⟨b.x, b.y⟩
  have h3 := @cmpI_zero a.hour b.hour
  simp only at h1
  simp only [Spot.mk.injEq]
  split <;> omega
end Go.Proofs.YthlhomcgjgfdhaaGreatDoor
/- The walks of the smallest functions of numbers: those that all packages use. -/
namespace Go.Proofs.YthlhomcgjgfdhaaGreatDoor
open Go.RowKit

theorem ret_bool {a b : Bool} (h : a = b) : Ending.returned (.bool a) = .returned (.bool b) := by rw [h]
theorem ret_int {k : IntKind} {a b : Int} (h : a = b) : Ending.returned (.int k a) = .returned (.int k b) := by rw [h]

theorem w_Out (n l h : Int) (w : World) : Calls Tryz.prog 49 #[.int .i64 n, .int .i64 l, .int .i64 h] w fun e w' => e = .returned (.bool (outB n l h)) ∧ w = w' := by
  by_cases h1 : n < l <;> by_cases h2 : h < n
  all_goals
    go_enter Tryz.func49, Tryz.ntmps49
    go_wp2
    go_ret
    exact ⟨ret_bool (by unfold outB; simp; omega), rfl⟩

theorem w_in (n l h : Int) (w : World) : Calls Tryz.prog 43 #[.int .i64 n, .int .i64 l, .int .i64 h] w fun e w' => e = .returned (.bool (inB n l h)) ∧ w = w' := by
  by_cases h1 : l ≤ n <;> by_cases h2 : n ≤ h
  all_goals
    go_enter Tryz.func43, Tryz.ntmps43
    go_wp2
    go_ret
    exact ⟨ret_bool (by unfold inB; simp; omega), rfl⟩

end Go.Proofs.YthlhomcgjgfdhaaGreatDoor
/- Plain: numerals, words, lines: what is written is read; what is read was written so. -/
namespace Go.Proofs.YthlhomcgjgfdhaaGreatDoor
open Go.Lib

theorem digit_ofNat {d : Nat} (h : d < 10) : digitVal (UInt8.ofNat (48 + d)) = some d := by
  have e : (UInt8.ofNat (48 + d)).toNat = 48 + d := by rw [UInt8.toNat_ofNat']; omega
  unfold digitVal
  rw [e, if_pos (by omega)]
  congr 1; omega
theorem ofNat_digit {b : UInt8} {d : Nat} (h : digitVal b = some d) : b = UInt8.ofNat (48 + d) ∧ d < 10 := by
  obtain ⟨h1, h2, h3⟩ := digitVal_eq h
  refine ⟨?_, by omega⟩
  rw [show 48 + d = b.toNat by omega, UInt8.ofNat_toNat]
theorem decFrom_snoc (b : UInt8) : ∀ (l : List UInt8) (acc : Nat), decFrom acc (l ++ [b]) = (decFrom acc l).bind (fun n => (digitVal b).map (fun d => n * 10 + d))
  | [], acc => by
    simp only [List.nil_append, decFrom, Option.bind_some]
    cases digitVal b <;> rfl
  | a :: l, acc => by
    simp only [List.cons_append, decFrom]
    cases digitVal a with
    | none => rfl
    | some d => exact decFrom_snoc b l _
theorem dec_digits (u : Nat) : decFrom 0 (decDigits u) = some u := by
  induction u using Nat.strongRecOn with
  | _ u ih =>
    by_cases h : u < 10
    · rw [decDigits, dif_pos h]
      simp only [decFrom, digit_ofNat h]
      simp
    · rw [decDigits, dif_neg h, decFrom_snoc, ih (u / 10) (by omega), Option.bind_some, digit_ofNat (by omega)]
      simp only [Option.map_some, Option.some.injEq]; omega
theorem decDigits_ne (u : Nat) : decDigits u ≠ [] := by
  intro h
  have := decDigits_length u
  rw [h] at this
  have := nDigits_pos u
  simp at *; omega
theorem decDigits_snoc {m d : Nat} (hm : 0 < m) (hd : d < 10) : decDigits (m * 10 + d) = decDigits m ++ [UInt8.ofNat (48 + d)] := by
  rw [decDigits, dif_neg (by omega), show (m * 10 + d) / 10 = m by omega, show (m * 10 + d) % 10 = d by omega]
theorem decDigits_head (u : Nat) : u = 0 ∨ (decDigits u).head? ≠ some 48 := by
  induction u using Nat.strongRecOn with
  | _ u ih =>
    by_cases h : u < 10
    · rcases Nat.eq_zero_or_pos u with h0 | h0
      · exact .inl h0
      · right
        rw [decDigits, dif_pos h]
        intro hc
        simp only [List.head?_cons, Option.some.injEq] at hc
        have := congrArg UInt8.toNat hc
        rw [UInt8.toNat_ofNat'] at this
        simp at this; omega
    · right
      rw [decDigits, dif_neg h]
      rcases ih (u / 10) (by omega) with h1 | h1
      · omega
      · have := decDigits_ne (u / 10)
        cases hd : decDigits (u / 10) with
        | nil => exact absurd hd this
        | cons a l => rw [hd] at h1; simpa using h1
/-- The digits of a number are its numeral, if no 0 stands ahead. -/
theorem digits_dec : ∀ (n : Nat) (l : List UInt8), l.length = n → ∀ m, decFrom 0 l = some m → l ≠ [] → (l.length = 1 ∨ l.head? ≠ some 48) → decDigits m = l := by
  intro n
  induction n with
  | zero => intro l hl m _ h0 _; exact absurd (List.eq_nil_of_length_eq_zero hl) h0
  | succ n ih =>
    intro l hl m hm h0 h1
    obtain ⟨l', b, rfl⟩ : ∃ l' b, l = l' ++ [b] := ⟨l.dropLast, l.getLast h0, (List.dropLast_concat_getLast h0).symm⟩
    rw [decFrom_snoc] at hm
    cases hd : decFrom 0 l' with
    | none => rw [hd] at hm; cases hm
    | some m' =>
      rw [hd, Option.bind_some] at hm
      cases hb : digitVal b with
      | none => rw [hb] at hm; cases hm
      | some d =>
        rw [hb] at hm
        simp only [Option.map_some, Option.some.injEq] at hm
        obtain ⟨e, hd10⟩ := ofNat_digit hb
        cases l' with
        | nil =>
          simp only [decFrom, Option.some.injEq] at hd
          subst hd
          rw [decDigits, dif_pos (by omega)]
          simp only [List.nil_append]
          rw [e]
          congr 2; omega
        | cons a r =>
          have h1' : (a :: r).head? ≠ some 48 := by
            rcases h1 with h1 | h1
            · simp at h1
            · simpa using h1
          have h2 := ih (a :: r) (by simpa using hl) m' hd (by simp) (.inr h1')
          have hp : 0 < m' := by
            rcases Nat.eq_zero_or_pos m' with h3 | h3
            · exfalso
              rw [h3, decDigits, dif_pos (by omega)] at h2
              rw [← h2] at h1'
              exact h1' rfl
            · exact h3
          rw [← hm, decDigits_snoc hp hd10, h2, e]

/-- A number of at most k digits, perhaps below 0: as base.Number reads it. -/
def numL (k : Nat) (s : List UInt8) : Option Int :=
  let d := trimPrefix s [45]
  if d = [] ∨ k < d.length ∨ (d.head? = some 48 ∧ (1 < d.length ∨ d.length < s.length)) then none
  else (decFrom 0 d).map (fun (m : Nat) => if d.length < s.length then -(m : Int) else (m : Int))
theorem trim_neg (r : List UInt8) : trimPrefix (45 :: r) [45] = r := by simp [trimPrefix, hasPrefix]
theorem trim_pos {s : List UInt8} (h : s.head? ≠ some 45) : trimPrefix s [45] = s := by
  unfold trimPrefix hasPrefix
  cases s with
  | nil => rfl
  | cons a r =>
    have : ¬ (45 : UInt8) = a := fun e => h (by rw [e]; rfl)
    simp [this]
theorem digits_pos (u : Nat) : (decDigits u).head? ≠ some 45 := by
  intro hc
  cases hd : decDigits u with
  | nil => rw [hd] at hc; cases hc
  | cons a r =>
    rw [hd] at hc
    simp only [List.head?_cons, Option.some.injEq] at hc
    have h := dec_digits u
    rw [hd, hc] at h
    simp only [decFrom] at h
    rw [show digitVal 45 = none by decide] at h
    cases h
theorem numL_itoa {k : Nat} {n : Int} (h : nDigits n.natAbs ≤ k) : numL k (itoa n) = some n := by
  unfold itoa
  by_cases hn : n < 0
  · rw [if_pos hn]
    unfold numL
    simp only [trim_neg, List.length_cons]
    have h0 := decDigits_ne n.natAbs
    have h1 := decDigits_length n.natAbs
    have h2 := decDigits_head n.natAbs
    rw [if_neg, dec_digits]
    · simp; omega
    · rintro (h3 | h3 | ⟨h3, _⟩)
      · exact h0 h3
      · omega
      · rcases h2 with h2 | h2
        · omega
        · exact h2 h3
  · rw [if_neg hn]
    have e : n.toNat = n.natAbs := by omega
    rw [e]
    unfold numL
    simp only [trim_pos (digits_pos _)]
    have h0 := decDigits_ne n.natAbs
    have h1 := decDigits_length n.natAbs
    have h2 := decDigits_head n.natAbs
    rw [if_neg, dec_digits]
    · simp; omega
    · rintro (h3 | h3 | ⟨h3, h4⟩)
      · exact h0 h3
      · omega
      · rcases h2 with h2 | h2
        · have := nDigits_small (u := n.natAbs) (by omega)
          omega
        · exact h2 h3
theorem numL_inv {k : Nat} {s : List UInt8} {n : Int} (h : numL k s = some n) : itoa n = s ∧ nDigits n.natAbs ≤ k ∧ s.length ≤ k + 1 := by
  unfold numL at h
  simp only at h
  split at h
  · cases h
  · rename_i hc
    cases hs : s with
    | nil =>
      subst hs
      exact absurd (.inl (by rfl)) hc
    | cons a r =>
      subst hs
      by_cases ha : a = 45
      · subst ha
        rw [trim_neg] at h hc
        cases hd : decFrom 0 r with
        | none => rw [hd] at h; cases h
        | some m =>
          rw [hd] at h
          simp only [Option.map_some, List.length_cons, Nat.lt_succ_self, if_true, Option.some.injEq] at h
          have h0 : r ≠ [] := fun e => hc (.inl e)
          have h1 : r.head? ≠ some 48 := fun e => hc (.inr (.inr ⟨e, .inr (by simp)⟩))
          have h2 := digits_dec r.length r rfl m hd h0 (.inr h1)
          have h3 : r.length ≤ k := by
            rcases Nat.lt_or_ge k r.length with h4 | h4
            · exact absurd (.inr (.inl h4)) hc
            · exact h4
          have hm : 0 < m := by
            rcases Nat.eq_zero_or_pos m with h4 | h4
            · exfalso
              rw [h4, decDigits, dif_pos (by omega)] at h2
              rw [← h2] at h1
              exact h1 rfl
            · exact h4
          subst h
          refine ⟨?_, ?_, by simp; omega⟩
          · unfold itoa
            rw [if_pos (by omega)]
            congr 1
            rw [show (-(m : Int)).natAbs = m by omega]; exact h2
          · rw [show (-(m : Int)).natAbs = m by omega, ← decDigits_length, h2]; exact h3
      · rw [trim_pos (by simpa using ha)] at h hc
        cases hd : decFrom 0 (a :: r) with
        | none => rw [hd] at h; cases h
        | some m =>
          rw [hd] at h
          simp only [Option.map_some, Nat.lt_irrefl, if_false, Option.some.injEq] at h
          have h3 : (a :: r).length ≤ k := by
            rcases Nat.lt_or_ge k (a :: r).length with h4 | h4
            · exact absurd (.inr (.inl h4)) hc
            · exact h4
          have h1 : (a :: r).length = 1 ∨ (a :: r).head? ≠ some 48 := by
            rcases Nat.lt_or_ge 1 (a :: r).length with h4 | h4
            · exact .inr (fun e => hc (.inr (.inr ⟨e, .inl h4⟩)))
            · left; simp at h4 ⊢; exact h4
          have h2 := digits_dec _ (a :: r) rfl m hd (by simp) h1
          subst h
          refine ⟨?_, ?_, by omega⟩
          · unfold itoa
            rw [if_neg (by omega), show ((m : Int)).toNat = m by omega]; exact h2
          · rw [show ((m : Int)).natAbs = m by omega, ← decDigits_length, h2]; exact h3
/-- Such a number is what strconv.Atoi reads. -/
theorem numL_atoi {k : Nat} {s : List UInt8} {n : Int} (h : numL k s = some n) : atoi s = some n := by
  unfold numL at h
  simp only at h
  split at h
  · cases h
  · rename_i hc
    cases hs : s with
    | nil =>
      subst hs
      exact absurd (.inl (by rfl)) hc
    | cons a r =>
      subst hs
      by_cases ha : a = 45
      · subst ha
        rw [trim_neg] at h hc
        have h0 : r ≠ [] := fun e => hc (.inl e)
        have h1 : decNat r = decFrom 0 r := by
          unfold decNat
          cases r with
          | nil => exact absurd rfl h0
          | cons _ _ => rfl
        simp only [atoi, beq_self_eq_true, if_true, h1]
        cases hd : decFrom 0 r with
        | none => rw [hd] at h; cases h
        | some m => rw [hd] at h; simpa using h
      · rw [trim_pos (by simpa using ha)] at h hc
        cases hd : decFrom 0 (a :: r) with
        | none => rw [hd] at h; cases h
        | some m =>
          have hp : ¬ a = 43 := by
            intro e
            subst e
            rw [decFrom, show digitVal 43 = none by decide] at hd
            cases hd
          rw [hd] at h
          have h1 : decNat (a :: r) = some m := hd
          simp only [atoi, beq_iff_eq, ha, hp, if_false, h1]
          simpa using h

/-! Pieces between bytes. -/
theorem occ_one (s : List UInt8) (c : UInt8) (i : Nat) : occAt s [c] i = decide (s[i]? = some c) := by
  unfold occAt
  by_cases h : i < s.length
  · rw [List.drop_eq_getElem_cons h, List.getElem?_eq_getElem h]
    generalize s.drop (i + 1) = t
    generalize s[i] = x
    by_cases e : c = x
    · subst e; simp [List.isPrefixOf]
    · have e' : ¬ x = c := fun h => e h.symm
      simp [List.isPrefixOf, e, e']
  · rw [List.drop_eq_nil_of_le (by omega), List.getElem?_eq_none (by omega)]; rfl
theorem index_no {s : List UInt8} {c : UInt8} (h : c ∉ s) : index s [c] = -1 := by
  refine index_past (i := s.length) (by simp) (fun j hj => ?_) (by simp)
  rw [occ_one]
  refine decide_eq_false fun e => ?_
  exact h (List.mem_of_getElem? e)
theorem index_at {a r : List UInt8} {c : UInt8} (h : c ∉ a) : index (a ++ c :: r) [c] = a.length := by
  refine index_first (by simp) ?_ (fun j hj => ?_)
  · rw [occ_one]; simp
  · rw [occ_one, List.getElem?_append_left hj]
    refine decide_eq_false fun e => ?_
    exact h (List.mem_of_getElem? e)
theorem split_no {s : List UInt8} {c : UInt8} (h : c ∉ s) : split s [c] = [s] := by
  unfold split
  rw [count_miss (index_no h)]
  rfl
theorem split_at {a r : List UInt8} {c : UInt8} (h : c ∉ a) : split (a ++ c :: r) [c] = a :: split r [c] := by
  unfold split
  have hi := index_at (r := r) h
  rw [count_hit (by simp) hi, Nat.add_comm 1]
  have e1 : (a ++ c :: r).drop (a.length + [c].length) = r := by simp
  rw [e1]
  show (if index (a ++ c :: r) [c] == -1 then _ else _) = _
  rw [hi, if_neg (by simp <;> omega)]
  congr 1
  · simp
  · simp only [Int.toNat_natCast]; rw [e1]
/-- The pieces, a byte between. -/
def joinC (c : UInt8) : List (List UInt8) → List UInt8
  | [] => []
  | [w] => w
  | w :: v :: ws => w ++ c :: joinC c (v :: ws)
theorem split_ne (c : UInt8) : ∀ (n : Nat) (s : List UInt8), s.length ≤ n → split s [c] ≠ [] := by
  intro n s _
  by_cases h : c ∈ s
  · obtain ⟨a, r, rfl, ha⟩ := List.eq_append_cons_of_mem h
    rw [split_at ha]; simp
  · rw [split_no h]; simp
theorem join_split (c : UInt8) : ∀ (n : Nat) (s : List UInt8), s.length ≤ n → joinC c (split s [c]) = s ∧ ∀ w ∈ split s [c], c ∉ w := by
  intro n
  induction n with
  | zero =>
    intro s hs
    have : s = [] := List.eq_nil_of_length_eq_zero (by omega)
    subst this
    rw [split_no (by simp)]
    exact ⟨rfl, fun w hw => by rw [List.mem_singleton.1 hw]; simp⟩
  | succ n ih =>
    intro s hs
    by_cases h : c ∈ s
    · obtain ⟨a, r, rfl, ha⟩ := List.eq_append_cons_of_mem h
      have hr : r.length ≤ n := by simp at hs; omega
      obtain ⟨i1, i2⟩ := ih r hr
      rw [split_at ha]
      constructor
      · cases hp : split r [c] with
        | nil => exact absurd hp (split_ne c n r hr)
        | cons v ws =>
          show a ++ c :: joinC c (v :: ws) = _
          rw [← hp, i1]
      · intro w hw
        rcases List.mem_cons.1 hw with rfl | hw
        · exact ha
        · exact i2 w hw
    · rw [split_no h]
      exact ⟨rfl, fun w hw => by rw [List.mem_singleton.1 hw]; exact h⟩
theorem split_join (c : UInt8) : ∀ (ws : List (List UInt8)), ws ≠ [] → (∀ w ∈ ws, c ∉ w) → split (joinC c ws) [c] = ws
  | [], h, _ => absurd rfl h
  | [w], _, h => split_no (h w (by simp))
  | w :: v :: ws, _, h => by
    show split (w ++ c :: joinC c (v :: ws)) [c] = _
    rw [split_at (h w (by simp)), split_join c (v :: ws) (by simp) (fun x hx => h x (List.mem_cons_of_mem _ hx))]
/-- base.Words: pieces between blanks, none of them empty, as many as there must be. -/
def wordsL (many : Nat) (s : List UInt8) : Option (List (List UInt8)) :=
  let w := split s [32]
  if w.length = many ∧ [] ∉ w then some w else none
theorem wordsL_join {ws : List (List UInt8)} (h0 : ws ≠ []) (h : ∀ w ∈ ws, 32 ∉ w ∧ w ≠ []) : wordsL ws.length (joinC 32 ws) = some ws := by
  unfold wordsL
  show (if (split (joinC 32 ws) [32]).length = ws.length ∧ [] ∉ split (joinC 32 ws) [32] then some (split (joinC 32 ws) [32]) else none) = _
  rw [split_join 32 ws h0 (fun w hw => (h w hw).1)]
  exact if_pos ⟨rfl, fun hc => (h [] hc).2 rfl⟩
theorem wordsL_inv {many : Nat} {s : List UInt8} {ws : List (List UInt8)} (h : wordsL many s = some ws) : joinC 32 ws = s ∧ ws.length = many := by
  unfold wordsL at h
  simp only at h
  split at h
  · rename_i hc
    injection h with h
    subst h
    exact ⟨(join_split 32 s.length s (Nat.le_refl _)).1, hc.1⟩
  · cases h
/-- base.Numbers. -/
def numsL (k : Nat) : List (List UInt8) → Option (List Int)
  | [] => some []
  | w :: ws => match numL k w, numsL k ws with
    | some n, some ns => some (n :: ns)
    | _, _ => none
theorem numsL_itoa {k : Nat} : ∀ (ns : List Int), (∀ n ∈ ns, nDigits n.natAbs ≤ k) → numsL k (ns.map itoa) = some ns
  | [], _ => rfl
  | n :: ns, h => by
    show (match numL k (itoa n), numsL k (ns.map itoa) with | some n, some ns => some (n :: ns) | _, _ => none) = _
    rw [numL_itoa (h n (by simp)), numsL_itoa ns (fun m hm => h m (List.mem_cons_of_mem _ hm))]
theorem numsL_inv {k : Nat} : ∀ {ws : List (List UInt8)} {ns : List Int}, numsL k ws = some ns → ns.map itoa = ws ∧ ∀ n ∈ ns, nDigits n.natAbs ≤ k
  | [], ns, h => by injection h with h; subst h; exact ⟨rfl, fun n hn => by cases hn⟩
  | w :: ws, ns, h => by
    have h' : (match numL k w, numsL k ws with | some n, some ns => some (n :: ns) | _, _ => none) = some ns := h
    cases h1 : numL k w with
    | none => rw [h1] at h'; cases h'
    | some n =>
      cases h2 : numsL k ws with
      | none => rw [h1, h2] at h'; cases h'
      | some ms =>
        rw [h1, h2] at h'
        injection h' with h'
        subst h'
        obtain ⟨i1, i2, _⟩ := numL_inv h1
        obtain ⟨j1, j2⟩ := numsL_inv h2
        refine ⟨by rw [List.map_cons, i1, j1], fun m hm => ?_⟩
        rcases List.mem_cons.1 hm with rfl | hm
        · exact i2
        · exact j2 m hm
/-- base.Lines: the lines and whether the last one is ended. -/
def linesL (s : List UInt8) : List (List UInt8) × Bool :=
  if s = [] then ([], true) else (split (trimSuffix s [10]) [10], hasSuffix s [10])
/-- The text of lines, each ended. -/
def textL (ls : List (List UInt8)) : List UInt8 := ls.flatMap (fun l => l ++ [10])
theorem textL_join : ∀ (ls : List (List UInt8)), ls ≠ [] → textL ls = joinC 10 ls ++ [10]
  | [], h => absurd rfl h
  | [l], _ => by simp [textL, joinC]
  | l :: m :: ls, _ => by
    have h := textL_join (m :: ls) (by simp)
    show (l ++ [10]) ++ textL (m :: ls) = (l ++ 10 :: joinC 10 (m :: ls)) ++ [10]
    rw [h]; simp
theorem suffix_snoc (a : List UInt8) : hasSuffix (a ++ [10]) [10] = true ∧ trimSuffix (a ++ [10]) [10] = a := by
  have h : hasSuffix (a ++ [10]) [10] = true := by unfold hasSuffix; simp
  refine ⟨h, ?_⟩
  unfold trimSuffix
  rw [if_pos h]; simp
theorem linesL_text {ls : List (List UInt8)} (h : ∀ l ∈ ls, 10 ∉ l) : linesL (textL ls) = (ls, true) := by
  by_cases h0 : ls = []
  · subst h0; rfl
  · unfold linesL
    rw [textL_join ls h0, if_neg (by simp), (suffix_snoc _).1, (suffix_snoc _).2, split_join 10 ls h0 h]
theorem linesL_inv {s : List UInt8} {ls : List (List UInt8)} (h : linesL s = (ls, true)) : textL ls = s := by
  unfold linesL at h
  split at h
  · rename_i hs
    injection h with h1 h2
    subst h1; rw [hs]; rfl
  · rename_i hs
    injection h with h1 h2
    have hsuf : [10] <:+ s := by unfold hasSuffix at h2; simpa using h2
    obtain ⟨a, rfl⟩ := hsuf
    rw [(suffix_snoc a).2] at h1
    have hj := (join_split 10 a.length a (Nat.le_refl _)).1
    have hn := split_ne 10 a.length a (Nat.le_refl _)
    rw [h1] at hj hn
    rw [textL_join ls hn, hj]
end Go.Proofs.YthlhomcgjgfdhaaGreatDoor
/- Worlds that only draw and lay blocks. Of no program. -/
namespace Go.Proofs.YthlhomcgjgfdhaaGreatDoor
open Go.RowKit Go.Sort

/-- Draws, and new blocks that stay as they were laid. -/
def Lays (w w' : World) : Prop := ∃ q os, w' = grow (w.drewN q) os
theorem Lays.refl (w : World) : Lays w w := ⟨0, #[], by simp [grow]; rfl⟩
theorem Lays.trans {a b c : World} (h : Lays a b) (k : Lays b c) : Lays a c := by
  obtain ⟨q, os, rfl⟩ := h
  obtain ⟨q', os', rfl⟩ := k
  refine ⟨q + q', os ++ os', ?_⟩
  have e : (grow (a.drewN q) os).drewN q' = grow ((a.drewN q).drewN q') os := rfl
  rw [e, grow_grow, World.drewN_drewN]
theorem Lays.drew {a w : World} (h : Lays a w) : Lays a w.drew := h.trans ⟨1, #[], by simp [grow]; rfl⟩
theorem Lays.drewN {a w : World} (h : Lays a w) (n : Nat) : Lays a (w.drewN n) := h.trans ⟨n, #[], by simp [grow]; rfl⟩
theorem Lays.alloc {a w : World} (h : Lays a w) (o : Obj) : Lays a (w.alloc o) := h.trans ⟨0, #[o], by rw [alloc_eq_grow]; rfl⟩
theorem Lays.nx {a w : World} (h : Lays a w) : Nx a w := by
  obtain ⟨q, os, rfl⟩ := h
  refine ⟨rfl, rfl, rfl, by simp [grow], fun k hk => ?_⟩
  show ((a.heap ++ os)[k]?) = _
  rw [Array.getElem?_append_left (by exact hk)]
theorem Lays.cell {a w : World} (h : Lays a w) {p : Addr} {v : Value} (hc : a.cell? p = some v) : w.cell? p = some v :=
  (Below.cell h.nx (World.block_lt_of_cell? a _ hc)).trans hc

theorem region_still_tail {P : Program} {id : Nat} {Q : Exit → Act → World → Prop} {a : Act} {w : World} {l : List Oper} (n : Nat) (hm : P.follows .mixedOrders = true) (hB : Region.lexTailB .any l.toArray n = true)
    (h : wpStill P l.toArray w.drew (fun a' => wpList P l.toArray Q (l.drop n) a' w.drew) (l.take n) a) : (Code.region id l.toArray true).wp P Q a w := wp_region_still_tail n hm hB h

end Go.Proofs.YthlhomcgjgfdhaaGreatDoor
/- A row of the call's own, as the sort's contracts read it. Of no program. -/
namespace Go.Proofs.YthlhomcgjgfdhaaGreatDoor
open Go.RowKit Go.Sort Go.Proofs Go.Shelf

section
variable {α : Type} [Inhabited α] {enc : α → List Value} {K : Nat}
theorem flatK_toList (hk : ∀ x, (enc x).length = K) (hK : 0 < K) (d : Array α) : (flatK enc K d).toList = d.toList.flatMap enc := by
  apply List.ext_getElem?
  intro t
  by_cases ht : t < d.size * K
  · have h1 : t / K < d.size := (Nat.div_lt_iff_lt_mul hK).2 ht
    have h2 : t % K < K := Nat.mod_lt _ hK
    have e : t / K * K + t % K = t := by rw [Nat.mul_comm]; exact Nat.div_add_mod t K
    have hx : d.toList[t / K]? = some d[t / K]! := by
      rw [Array.getElem?_toList, getElem!_pos d _ h1, Array.getElem?_eq_getElem h1]
    have hu : (enc d[t / K]!)[t % K]? = some (enc d[t / K]!)[t % K]! := by
      have h5 : t % K < (enc d[t / K]!).length := by rw [hk]; exact h2
      rw [getElem!_pos (enc d[t / K]!) (t % K) h5]
      exact List.getElem?_eq_getElem h5
    have h3 := flat_get (xs := d.toList) hk (t / K) _ hx (t % K) _ hu
    rw [e] at h3
    rw [h3, Array.getElem?_toList]
    have hs : t < (flatK enc K d).size := by rw [size_flatK]; exact ht
    rw [Array.getElem?_eq_getElem hs, ← getElem!_pos (flatK enc K d) t hs, get_flatK _ _ _ _ ht]
  · rw [List.getElem?_eq_none (by rw [Array.length_toList, size_flatK]; omega), List.getElem?_eq_none (by rw [flat_len hk, Array.length_toList]; omega)]

variable {w : World} {base g cap n : Nat} {e : TypeId} {xs : List α}
theorem holds_of_own (hk : ∀ x, (enc x).length = K) (hK : 0 < K) (hn : xs.length = n) (h : w.ownsRow base e K (.slice (some ⟨g, 0, none⟩) n cap) n (xs.flatMap enc)) : HoldsK enc K w g 0 xs.toArray := by
  intro j hj
  rw [size_flatK] at hj
  have hj' : j < n * K := by rw [← hn]; simpa using hj
  have hs : j < (flatK enc K xs.toArray).size := by rw [size_flatK]; exact hj
  refine ⟨?_, by rw [Nat.zero_add]; exact h.frozenAt j⟩
  rw [Nat.zero_add, h.cellAt j hj', ← flatK_toList hk hK xs.toArray, Array.getElem?_toList, Array.getElem?_eq_getElem hs, getElem!_pos (flatK enc K xs.toArray) j hs]
  rfl

theorem own_of_sorted (hk : ∀ x, (enc x).length = K) (hK : 0 < K) (h : w.ownsRow base e K (.slice (some ⟨g, 0, none⟩) n cap) n (xs.flatMap enc)) (ys : List α) (hy : ys.length = n) (m : Nat) (os : Array Obj) :
    (sortWorldK enc K w g 0 m ys.toArray os).ownsRow base e K (.slice (some ⟨g, 0, none⟩) n cap) n (ys.flatMap enc) ∧ Gr g w (sortWorldK enc K w g 0 m ys.toArray os) := by
  have hlt := (h.lt g rfl)
  have hF : (flatK enc K ys.toArray).size = n * K := by rw [size_flatK]; simp [hy]
  constructor
  · rcases h.2 with ⟨h0, _⟩ | ⟨g', cap', cur, hv, hg, hh, hnc, hcm, hcs, ht⟩
    · cases h0
    · cases hv
      refine ⟨by rw [flat_len hk, hy], .inr ⟨g, cap, putCells id 0 (flatK enc K ys.toArray) cur, rfl, hlt.1, ?_, hnc, hcm, by simp [putCells, hcs], ?_⟩⟩
      · unfold sortWorldK
        rw [heap_grow_old _ _ (by simpa [putRowK] using hlt.2)]
        simp [putRowK, putRow, mapBlock, Sort.ahead, Array.getElem?_modify, hh, onCells]
      · have hle : n * K ≤ cur.size := by rw [hcs]; exact Nat.mul_le_mul_right K hnc
        apply List.ext_getElem?
        intro j
        by_cases hj : j < n * K
        · rw [List.getElem?_take_of_lt hj, Array.getElem?_toList]
          have hjc : j < cur.size := by omega
          have hs : j < (flatK enc K ys.toArray).size := by rw [hF]; exact hj
          have e1 := flatK_toList hk hK ys.toArray
          have e2 : (ys.flatMap enc)[j]? = some (flatK enc K ys.toArray)[j]! := by
            show (ys.toArray.toList.flatMap enc)[j]? = _
            rw [← e1, Array.getElem?_toList, Array.getElem?_eq_getElem hs, getElem!_pos (flatK enc K ys.toArray) j hs]
          rw [e2]
          simp [putCells, hjc, hF, hj]
        · rw [List.getElem?_take_eq_none (by omega), List.getElem?_eq_none (by rw [flat_len hk, hy]; omega)]
  · refine ⟨rfl, rfl, rfl, by simp [sortWorldK, putRowK, grow], fun k hkk hne => ?_⟩
    unfold sortWorldK
    rw [heap_grow_old _ _ (by simpa [putRowK] using hkk)]
    have : g ≠ k := fun e => hne (by rw [e])
    simp [putRowK, putRow, mapBlock, Sort.ahead, Array.getElem?_modify, this]
end

end Go.Proofs.YthlhomcgjgfdhaaGreatDoor
/- Plain: sorting by insertion is stable. -/
namespace Go.Proofs.YthlhomcgjgfdhaaGreatDoor
open Go.Sort Go.Proofs
variable {α : Type} [Inhabited α]
theorem get_bang {d : Array α} {pre suf : List α} {x : α} (h : d.toList = pre ++ x :: suf) : d[pre.length]! = x := by
  have h1 : d[pre.length]? = some x := by rw [← Array.getElem?_toList, h, List.getElem?_append_right (Nat.le_refl _)]; simp
  rw [getElem!_def, h1]
theorem swp_list {d : Array α} {q suf : List α} {x y : α} (h : d.toList = q ++ y :: x :: suf) : (swp d (q.length + 1) q.length).toList = q ++ x :: y :: suf := by
  have h1 : d[q.length]! = y := get_bang h
  have h2 : d[q.length + 1]! = x := by
    have : d.toList = (q ++ [y]) ++ x :: suf := by rw [h]; simp
    have := get_bang this
    simpa using this
  unfold swp
  rw [h1, h2]
  simp only [Array.toList_setIfInBounds, h]
  rw [List.set_append_right _ _ (by omega), show q.length + 1 - q.length = 1 by omega, List.set_cons_succ, List.set_cons_zero, List.set_append_right _ _ (by omega), Nat.sub_self, List.set_cons_zero]
theorem inner_list (lt : α → α → Bool) : ∀ (n : Nat) (pre suf : List α) (x : α) (d : Array α), pre.length = n → d.toList = pre ++ x :: suf → ∃ p1 p2, pre = p1 ++ p2 ∧ (insInner lt 0 n d).toList = p1 ++ x :: (p2 ++ suf) ∧ (∀ y ∈ p2, lt x y = true) ∧ (∀ q y, p1 = q ++ [y] → lt x y = false)
  | 0, pre, suf, x, d, hn, hd => by
    have : pre = [] := List.eq_nil_of_length_eq_zero hn
    subst this
    exact ⟨[], [], rfl, by simpa [insInner] using hd, by simp, by simp⟩
  | n + 1, pre, suf, x, d, hn, hd => by
    have hne : pre ≠ [] := by intro e; subst e; simp at hn
    obtain ⟨q, y, rfl⟩ : ∃ q y, pre = q ++ [y] := ⟨pre.dropLast, pre.getLast hne, (List.dropLast_concat_getLast hne).symm⟩
    have hq : q.length = n := by simpa using hn
    have hx : d[n + 1]! = x := by rw [← hn]; exact get_bang hd
    have hy : d[n]! = y := by rw [← hq]; exact get_bang (suf := x :: suf) (by rw [hd]; simp)
    unfold insInner
    rw [hx, hy]
    by_cases hl : lt x y = true
    · rw [if_pos (by simp [hl])]
      obtain ⟨p1, p2, e1, e2, e3, e4⟩ := inner_list lt n q (y :: suf) x (swp d (n + 1) n) hq (by rw [← hq]; exact swp_list (by rw [hd]; simp))
      refine ⟨p1, p2 ++ [y], by rw [e1]; simp, by rw [e2]; simp, fun z hz => ?_, e4⟩
      rcases List.mem_append.1 hz with hz | hz
      · exact e3 z hz
      · simp at hz; subst hz; exact hl
    · rw [if_neg (by simp [hl])]
      refine ⟨q ++ [y], [], by simp, by simpa using hd, by simp, fun q' y' e => ?_⟩
      have := List.append_inj' e rfl
      simp at this
      rw [← this.2]
      simpa using hl
/-- Sorting by insertion is stable: S is the order at first, R the order behind it. -/
theorem outer_list (lt : α → α → Bool) {R S : α → α → Prop} (h1 : ∀ x y, lt x y = true → R x y) (h2 : ∀ x y, S y x → lt x y = false → R y x) (htr : ∀ x y z, R x y → R y z → R x z) :
    ∀ (m : Nat) (b i : Nat) (d : Array α) (pre suf : List α), b - i = m → i ≤ b → pre.length = i → d.toList = pre ++ suf → b = (pre ++ suf).length → pre.Pairwise R → (∀ y ∈ pre, ∀ x ∈ suf, S y x) → suf.Pairwise S → ((insOuter lt 0 b i d).toList.Perm (pre ++ suf) ∧ (insOuter lt 0 b i d).toList.Pairwise R)
  | 0, b, i, d, pre, suf, hm, hib, hp, hd, hb, hR, hS, hs => by
    have : suf = [] := List.eq_nil_of_length_eq_zero (by simp at hb; omega)
    subst this
    rw [insOuter_stop lt 0 b i d (by omega), hd]
    exact ⟨List.Perm.refl _, by simpa using hR⟩
  | m + 1, b, i, d, pre, suf, hm, hib, hp, hd, hb, hR, hS, hs => by
    cases suf with
    | nil => simp at hb; omega
    | cons x suf =>
      rw [insOuter_go lt 0 b i d (by omega)]
      obtain ⟨p1, p2, e1, e2, e3, e4⟩ := inner_list lt i pre suf x d hp hd
      have hsx := List.pairwise_cons.1 hs
      have hR' : (p1 ++ x :: p2).Pairwise R := by
        subst e1
        rw [List.pairwise_append] at hR ⊢
        have hlast : ∀ y ∈ p1, R y x := by
          intro y hy
          have hne : p1 ≠ [] := List.ne_nil_of_mem hy
          obtain ⟨q, z, e⟩ : ∃ q z, p1 = q ++ [z] := ⟨p1.dropLast, p1.getLast hne, (List.dropLast_concat_getLast hne).symm⟩
          have hz : R z x := h2 x z (hS z (by simp [e]) x (by simp)) (e4 q z e)
          rw [e] at hy
          rcases List.mem_append.1 hy with hy | hy
          · have hp := hR.1
            rw [e, List.pairwise_append] at hp
            exact htr y z x (hp.2.2 y hy z (by simp)) hz
          · simp at hy; subst hy; exact hz
        refine ⟨hR.1, List.pairwise_cons.2 ⟨fun y hy => h1 x y (e3 y hy), hR.2.1⟩, fun y hy z hz => ?_⟩
        rcases List.mem_cons.1 hz with rfl | hz
        · exact hlast y hy
        · exact hR.2.2 y hy z hz
      have hperm : (p1 ++ x :: p2).Perm (pre ++ [x]) := by
        subst e1
        exact (List.perm_middle).trans (List.perm_append_singleton x (p1 ++ p2)).symm
      have hl : (p1 ++ x :: p2).length = i + 1 := by have := hperm.length_eq; simp at this ⊢; omega
      have ih := outer_list lt h1 h2 htr m b (i + 1) (insInner lt 0 i d) (p1 ++ x :: p2) suf (by omega) (by simp at hb; omega) hl (by rw [e2]; simp) (by simp at hb hl ⊢; omega) hR'
        (fun y hy z hz => by
          have hy' := hperm.mem_iff.1 hy
          rcases List.mem_append.1 hy' with hy' | hy'
          · exact hS y hy' z (by simp [hz])
          · simp at hy'; subst hy'; exact hsx.1 z hz) hsx.2
      refine ⟨ih.1.trans ?_, ih.2⟩
      have := hperm.append_right suf
      simpa using this
theorem ins_stable (lt : α → α → Bool) {R S : α → α → Prop} (h1 : ∀ x y, lt x y = true → R x y) (h2 : ∀ x y, S y x → lt x y = false → R y x) (htr : ∀ x y z, R x y → R y z → R x z) (d : Array α) (hS : d.toList.Pairwise S) :
    (insertionSort lt d 0 d.size).toList.Perm d.toList ∧ (insertionSort lt d 0 d.size).toList.Pairwise R := by
  unfold insertionSort
  cases hd : d.toList with
  | nil =>
    have : d.size = 0 := by rw [← Array.length_toList, hd]; rfl
    rw [insOuter_stop lt 0 _ _ d (by omega), hd]
    exact ⟨List.Perm.refl _, List.Pairwise.nil⟩
  | cons x l =>
    rw [hd] at hS
    have hx := List.pairwise_cons.1 hS
    have hsz : d.size = l.length + 1 := by rw [← Array.length_toList, hd]; rfl
    exact outer_list lt h1 h2 htr _ d.size 1 d [x] l rfl (by omega) rfl hd (by rw [hsz]; simp) (by simp) (fun y hy z hz => by simp at hy; subst hy; exact hx.1 z hz) hx.2
end Go.Proofs.YthlhomcgjgfdhaaGreatDoor
/- Plain functions: what is left is given out one by one; sorting in place. -/
namespace Go.Proofs.YthlhomcgjgfdhaaGreatDoor
/-- i gets one of what is left ahead of j. -/
def beats (rs : List Int) (i j : Nat) : Prop := rs.getD j 0 < rs.getD i 0 ∨ (rs.getD i 0 = rs.getD j 0 ∧ i < j)
theorem beats_asymm {rs : List Int} {i j : Nat} (h : beats rs i j) (k : beats rs j i) : False := by unfold beats at h k; omega
structure UpSet (rs : List Int) (T : List Nat) : Prop where
  nd : T.Nodup
  lt : ∀ i ∈ T, i < rs.length
  up : ∀ i ∈ T, ∀ j, j < rs.length → j ∉ T → beats rs i j
theorem nodup_len : ∀ {l m : List Nat}, l.Nodup → (∀ x ∈ l, x ∈ m) → l.length ≤ m.length
  | [], _, _, _ => by simp
  | x :: l, m, hn, hs => by
    have h1 := List.nodup_cons.1 hn
    have h2 : l.length ≤ (m.erase x).length := nodup_len h1.2 (fun y hy => by
      have hne : y ≠ x := fun e => h1.1 (e ▸ hy)
      exact (List.mem_erase_of_ne hne).2 (hs y (List.mem_cons_of_mem _ hy)))
    have h3 := List.length_erase_of_mem (hs x (by simp))
    have h4 : 0 < m.length := List.length_pos_of_mem (hs x (by simp))
    simp only [List.length_cons]
    omega
theorem UpSet.sub {rs : List Int} {S T : List Nat} (hS : UpSet rs S) (hT : UpSet rs T) (hl : S.length = T.length) : ∀ i ∈ S, i ∈ T := by
  intro a ha
  refine Classical.byContradiction fun hna => ?_
  have hb : ∃ b ∈ T, b ∉ S := by
    refine Classical.byContradiction fun hno => ?_
    have hsub : ∀ x ∈ T, x ∈ S.erase a := fun x hx => by
      have hxS : x ∈ S := Classical.byContradiction fun h => hno ⟨x, hx, h⟩
      have hne : x ≠ a := fun e => hna (e ▸ hx)
      exact (List.mem_erase_of_ne hne).2 hxS
    have h1 := nodup_len hT.nd hsub
    have h2 := List.length_erase_of_mem ha
    have h3 : 0 < S.length := List.length_pos_of_mem ha
    omega
  obtain ⟨b, hb, hbS⟩ := hb
  exact beats_asymm (hS.up a ha b (hT.lt b hb) hbS) (hT.up b hb a (hS.lt a ha) hna)
theorem UpSet.same {rs : List Int} {S T : List Nat} (hS : UpSet rs S) (hT : UpSet rs T) (hl : S.length = T.length) (i : Nat) : i ∈ S ↔ i ∈ T :=
  ⟨hS.sub hT hl i, hT.sub hS hl.symm i⟩
/-- One more for those in T. -/
def bump (qs : List Int) (T : List Nat) : List Int := qs.mapIdx (fun i q => if i ∈ T then q + 1 else q)
theorem bump_len (qs : List Int) (T : List Nat) : (bump qs T).length = qs.length := by simp [bump]
/-- What is given out: rounded down, and what is left one by one to those ahead. -/
def Dealt (qs rs : List Int) (left : Nat) (zs : List Int) : Prop := ∃ T, UpSet rs T ∧ T.length = left ∧ zs = bump qs T
/-- What the reference still looks at. -/
def cur (rs : List Int) (T : List Nat) : List Int := rs.mapIdx (fun i r => if i ∈ T then -1 else r)
theorem UpSet.nil (rs : List Int) : UpSet rs [] := ⟨List.nodup_nil, by simp, by simp⟩
/-- The first ones of all, in order. -/
theorem UpSet.take {rs : List Int} {l : List Nat} (hp : l.Perm (List.range rs.length)) (hs : l.Pairwise (beats rs)) (k : Nat) : UpSet rs (l.take k) := by
  have hnd : l.Nodup := hp.nodup_iff.2 List.nodup_range
  refine ⟨?_, ?_, ?_⟩
  · exact List.Nodup.sublist (List.take_sublist k l) hnd
  · intro i hi
    exact List.mem_range.1 (hp.mem_iff.1 (List.mem_of_mem_take hi))
  · intro i hi j hj hjT
    have hjl : j ∈ l := hp.mem_iff.2 (List.mem_range.2 hj)
    have hjd : j ∈ l.drop k := by
      rw [← List.take_append_drop k l] at hjl
      exact (List.mem_append.1 hjl).resolve_left hjT
    rw [← List.take_append_drop k l] at hs
    exact (List.pairwise_append.1 hs).2.2 i hi j hjd
end Go.Proofs.YthlhomcgjgfdhaaGreatDoor
/- Plain: a whole given out by parts. -/
namespace Go.Proofs.YthlhomcgjgfdhaaGreatDoor

def sumL : List Int → Int
  | [] => 0
  | x :: l => x + sumL l
def qsN (nums : List Int) (F : Int) : List Int := nums.map (· / F)
def rsN (nums : List Int) (F : Int) : List Int := nums.map (· % F)
def leftN (all : Int) (nums : List Int) (F : Int) : Int := all - sumL (qsN nums F)
theorem qsN_len (nums : List Int) (F : Int) : (qsN nums F).length = nums.length := by simp [qsN]
/-- A whole 'all' given out by numbers of which all together are F times it. -/
def Handed (all : Int) (nums : List Int) (F : Int) (zs : List Int) : Prop := Dealt (qsN nums F) (rsN nums F) (leftN all nums F).toNat zs
theorem Handed.len {all : Int} {nums : List Int} {F : Int} {zs : List Int} (h : Handed all nums F zs) : zs.length = nums.length := by
  obtain ⟨T, _, _, rfl⟩ := h
  rw [bump_len, qsN_len]
end Go.Proofs.YthlhomcgjgfdhaaGreatDoor
/- cmp.Or of errors. -/
namespace Go.Proofs.YthlhomcgjgfdhaaGreatDoor
open Go.RowKit

def encI (n : Int) : List Value := [.int .i64 n]
theorem orI_drop (zs : List Int) (k : Nat) (hk : k < zs.length) : orI (zs.drop k) = if zs[k] = 0 then orI (zs.drop (k + 1)) else zs[k] := by
  rw [List.drop_eq_getElem_cons hk]; rfl
set_option maxHeartbeats 400000 in
theorem w_OrE (lo : Nat) (A : Option Addr) (c : Nat) (zs : List Int) (w : World) (hR : Rd w lo A 1 encI zs) (hl : zs.length ≤ 65536) :
    Calls Tryz.prog 10 #[.slice A zs.length c] w fun e w' => e = .returned (.int .i64 (orI zs)) ∧ w = w' := by
  generalize hn : zs.length = n at *
  have HR := hide hR
  have HN := hide hn
  clear hR hn
  go_enter Tryz.func10, Tryz.ntmps10
  go_wp2
  go_loop [2, 5, 8] (fun _ _ i => ∃ k : Nat, k ≤ n ∧ i = .int .i64 k ∧ orI zs = orI (zs.drop k)) (fun _ _ i => n - (intOf i).toNat)
  case atStart => exact ⟨0, Nat.zero_le _, rfl, rfl⟩
  case round =>
    obtain ⟨k, hk, rfl, hq⟩ := hrel
    have HQ := hide hq
    clear hq
    by_cases hlt : k < n
    · have hlt' : k < zs.length := by have := HN.out; omega
      obtain ⟨b, off, rfl, _, hb, _, hc⟩ := HR.out.open_ (Nx.refl w) (by omega)
      have c0 : w.cell? ⟨b, off + k, none⟩ = some (.int .i64 zs[k]) := by have := hc k hlt' 0 _ rfl; simpa using this
      clear hc
      have HD := hide (orI_drop zs k hlt')
      by_cases hz : zs[k] = 0
      · have hz' : (zs[k] != 0) = false := by simpa using hz
        generalize zs[k] = z at *
        go_wp2
        go_round
        case rel => exact ⟨k + 1, by omega, by go_num, by rw [HQ.out, HD.out, if_pos hz]⟩
        case measure => simp [intOf]; omega
      · have hz' : (zs[k] != 0) = true := by simpa using hz
        generalize zs[k] = z at *
        go_wp2
        go_ret
        exact ⟨ret_int (by rw [HQ.out, HD.out, if_neg hz]), rfl⟩
    · go_wp2
      go_ret
      exact ⟨ret_int (by rw [HQ.out, List.drop_of_length_le (by have := HN.out; omega)]; rfl), rfl⟩

end Go.Proofs.YthlhomcgjgfdhaaGreatDoor
