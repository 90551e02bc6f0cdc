/- Words for memory, of no program: a slice that reads as a list of elements of K cells, the stream's object, worlds that only grow. -/
import Derived.WalkKit
import Derived.WalkSpells
import Derived.WalkLawsBesides
import Derived.IntWalk
import Derived.Test.YtdjopfagccildaaGreatDoorRows
import Derived.Test.YtdjopfagccildaaGreatDoorQG0
import Derived.Deep.QuietTactic
import Derived.BigQuiet
import Derived.Outline
import Derived.Maps.Keyed
import Derived.DeepKeys4
import Derived.KernelRfl
import Derived.Maps.Own
import Derived.Maps.OwnOps
import Derived.Maps.OwnSet
import Derived.Maps.Views
import Derived.Maps.RangeWalk
import Derived.Laws.Cover1
import Derived.Lib.Bytealg
import Derived.Sort.LotA
import Derived.Shelf.SlSortCmp.Insertion
namespace Go.Proofs.YtdjopfagccildaaGreatDoor
open Go.RowKit

theorem hide {p : Prop} (h : p) : Hid p := h

/-- Nothing that was there has turned. -/
def Nx (w w' : World) : Prop := Below w.heap.size w w'
theorem Nx.refl (w : World) : Nx w w := Below.refl _ _
theorem Nx.trans {a b c : World} (h : Nx a b) (k : Nx b c) : Nx a c := Below.trans h (Below.mono k h.size)
theorem Nx.drew {a w : World} (h : Nx a w) : Nx a w.drew := Below.drew h
theorem Nx.drewN {a w : World} (h : Nx a w) (n : Nat) : Nx a (w.drewN n) := below_drewN h n
theorem Nx.alloc {a w : World} (h : Nx a w) (o : Obj) : Nx a (w.alloc o) := Below.alloc h h.size o
theorem Nx.setCell {a w : World} (h : Nx a w) {p : Addr} (hp : a.heap.size ≤ p.block) (u : Value) : Nx a (w.setCell p u) := Below.setCell h hp u
theorem Nx.sz {a w : World} (h : Nx a w) : a.heap.size ≤ w.heap.size := h.size
theorem Nx.grown {a w w' : World} {row : Option Nat} (h : Nx a w) (hg : w.grownBy w' row) (hr : ∀ k, row = some k → a.heap.size ≤ k) : Nx a w' := Below.grown h hg h.size hr
theorem Nx.gr {a w : World} (h : Nx a w) (row : Option Nat) : a.grownBy w row := ⟨h.os, h.tape, h.output, h.size, fun i hi _ => h.block i hi⟩

/-- Only block s, and what is new, has turned. -/
def Gr (s : Nat) (a w : World) : Prop := a.grownBy w (some s)
theorem Gr.refl (s : Nat) (w : World) : Gr s w w := World.grownBy.refl w _
theorem Gr.of_nx {s : Nat} {a w : World} (h : Nx a w) : Gr s a w := h.gr _
theorem Gr.sz {s : Nat} {a w : World} (h : Gr s a w) : a.heap.size ≤ w.heap.size := World.grownBy.size h
theorem Gr.trans {s : Nat} {a b c : World} (h : Gr s a b) (k : Gr s b c) : Gr s a c :=
  ⟨k.os.trans h.os, k.tape.trans h.tape, k.output.trans h.output, Nat.le_trans h.size k.size, fun i hi hn => (k.block i (Nat.lt_of_lt_of_le hi h.size) hn).trans (h.block i hi hn)⟩
theorem Gr.then_nx {s : Nat} {a b c : World} (h : Gr s a b) (k : Nx b c) : Gr s a c := h.trans (Gr.of_nx k)
theorem Gr.drew {s : Nat} {a w : World} (h : Gr s a w) : Gr s a w.drew := h.then_nx (Nx.refl _).drew
theorem Gr.drewN {s : Nat} {a w : World} (h : Gr s a w) (n : Nat) : Gr s a (w.drewN n) := h.then_nx ((Nx.refl _).drewN n)
theorem Gr.alloc {s : Nat} {a w : World} (h : Gr s a w) (o : Obj) : Gr s a (w.alloc o) := h.then_nx ((Nx.refl _).alloc o)
theorem Gr.setS {s : Nat} {a w : World} (h : Gr s a w) {p : Addr} (hp : p.block = s ∨ a.heap.size ≤ p.block) (u : Value) : Gr s a (w.setCell p u) :=
  ⟨h.os, h.tape, h.output, by have := h.sz; simpa [World.setCell] using this, fun i hi hne => (Below.heap_setCell w p u i (by
    rintro rfl
    rcases hp with hp | hp
    · exact hne (by rw [hp])
    · omega)).trans (h.block i hi hne)⟩
theorem Gr.grown {s : Nat} {a w w' : World} {row : Option Nat} (h : Gr s a w) (hg : w.grownBy w' row) (hr : ∀ k, row = some k → k = s ∨ a.heap.size ≤ k) : Gr s a w' :=
  ⟨hg.os.trans h.os, hg.tape.trans h.tape, hg.output.trans h.output, Nat.le_trans h.size hg.size, fun i hi hne => (hg.block i (Nat.lt_of_lt_of_le hi h.size) (fun e => by
    rcases hr i e.symm with h1 | h1
    · exact hne (by rw [h1])
    · omega)).trans (h.block i hi hne)⟩
theorem Nx.of_gr {s : Nat} {a w : World} (h : Gr s a w) (hs : a.heap.size ≤ s) : Nx a w :=
  ⟨h.os, h.tape, h.output, h.size, fun i hi => h.block i hi (by intro e; injection e with e; omega)⟩

/-- A slice's value with address A reads as xs, each element K cells; its block lies from lo on. -/
def Rd {α : Type} (w : World) (lo : Nat) (A : Option Addr) (K : Nat) (enc : α → List Value) (xs : List α) : Prop :=
  0 < xs.length → ∃ b off, A = some ⟨b, off, none⟩ ∧ lo ≤ b ∧ b < w.heap.size ∧ ∀ i x, xs[i]? = some x → ∀ j u, (enc x)[j]? = some u → w.cell? ⟨b, off + i * K + j, none⟩ = some u
section
variable {α : Type} {w w' : World} {lo lo' K : Nat} {A : Option Addr} {enc : α → List Value} {xs : List α}
theorem Rd.nil : Rd w lo A K enc ([] : List α) := fun h => absurd h (by simp)
theorem Rd.nx (h : Rd w lo A K enc xs) (hn : Nx w w') : Rd w' lo A K enc xs := fun hp => by
  obtain ⟨b, off, e, hl, hb, hc⟩ := h hp
  exact ⟨b, off, e, hl, Nat.lt_of_lt_of_le hb hn.sz, fun i x hx j u hu => (Below.cell hn (p := ⟨b, _, none⟩) hb).trans (hc i x hx j u hu)⟩
theorem Rd.gr {s : Nat} (h : Rd w lo A K enc xs) (hn : Gr s w w') (hs : s < lo) : Rd w' lo A K enc xs := fun hp => by
  obtain ⟨b, off, e, hl, hb, hc⟩ := h hp
  exact ⟨b, off, e, hl, Nat.lt_of_lt_of_le hb hn.sz, fun i x hx j u hu => World.grownBy.cell (row := some s) hn (hc i x hx j u hu) (by simp; omega)⟩
theorem Rd.low (h : Rd w lo A K enc xs) (hl : lo' ≤ lo) : Rd w lo' A K enc xs := fun hp => by
  obtain ⟨b, off, e, h1, hb, hc⟩ := h hp
  exact ⟨b, off, e, Nat.le_trans hl h1, hb, hc⟩
/-- For a loop: the block and all the cells, in the round's world. -/
theorem Rd.open_ (h : Rd w lo A K enc xs) (hn : Nx w w') (hp : 0 < xs.length) : ∃ b off, A = some ⟨b, off, none⟩ ∧ lo ≤ b ∧ b < w.heap.size ∧ b < w'.heap.size ∧ ∀ i (hi : i < xs.length) j u, (enc xs[i])[j]? = some u → w'.cell? ⟨b, off + i * K + j, none⟩ = some u := by
  obtain ⟨b, off, e, hl, hb, hc⟩ := h hp
  exact ⟨b, off, e, hl, hb, Nat.lt_of_lt_of_le hb hn.sz, fun i hi j u hu => (Below.cell hn (p := ⟨b, _, none⟩) hb).trans (hc i _ (List.getElem?_eq_getElem hi) j u hu)⟩
theorem flat_get (hk : ∀ x, (enc x).length = K) (i : Nat) (x : α) (hx : xs[i]? = some x) (j : Nat) (u : Value) (hu : (enc x)[j]? = some u) : (xs.flatMap enc)[i * K + j]? = some u := by
  induction xs generalizing i with
  | nil => simp at hx
  | cons y ys ih =>
    rw [List.flatMap_cons]
    rcases i with _ | i
    · simp at hx; subst hx
      rw [List.getElem?_append_left (by have := (List.getElem?_eq_some_iff.1 hu).1; omega)]
      simpa using hu
    · have hx' : ys[i]? = some x := by simpa using hx
      rw [List.getElem?_append_right (by rw [hk, Nat.add_mul]; omega), hk]
      have e : (i + 1) * K + j - K = i * K + j := by rw [Nat.add_mul]; omega
      rw [e]
      exact ih i hx'
theorem flat_len (hk : ∀ x, (enc x).length = K) : (xs.flatMap enc).length = xs.length * K := by
  induction xs with
  | nil => simp
  | cons y ys ih => rw [List.flatMap_cons, List.length_append, ih, hk, List.length_cons, Nat.add_mul]; omega
/-- A row of the call's own, read. -/
theorem Rd.of_own {base : Nat} {e : TypeId} {v : Value} {n : Nat} (hk : ∀ x, (enc x).length = K) (hn : n = xs.length) (h : w.ownsRow base e K v n (xs.flatMap enc)) :
    ∃ A c, v = .slice A xs.length c ∧ Rd w base A K enc xs ∧ (∀ a, A = some a → ∃ g, a = ⟨g, 0, none⟩ ∧ base ≤ g ∧ g < w.heap.size) := by
  subst hn
  rcases h.2 with ⟨rfl, h0⟩ | ⟨g, cap, cur, rfl, hg, hh, hr⟩
  · have hx : xs = [] := List.eq_nil_of_length_eq_zero h0
    subst hx
    exact ⟨none, 0, rfl, Rd.nil, by simp⟩
  · have hlt := (h.lt g rfl)
    refine ⟨some ⟨g, 0, none⟩, cap, rfl, fun _ => ⟨g, 0, rfl, hlt.1, hlt.2, fun i x hx j u hu => ?_⟩, fun a ha => ⟨g, by injection ha with ha; exact ha.symm, hlt.1, hlt.2⟩⟩
    have hil : i < xs.length := (List.getElem?_eq_some_iff.1 hx).1
    have hjl : j < K := by have := (List.getElem?_eq_some_iff.1 hu).1; rw [hk] at this; exact this
    have h2 := h.cellAt (i * K + j) (by
      have : (i + 1) * K ≤ xs.length * K := Nat.mul_le_mul_right K hil
      rw [Nat.add_mul] at this; omega)
    rw [Nat.zero_add, h2]
    exact flat_get hk i x hx j u hu
end

theorem heap_set {w : World} {s i : Nat} {cs : Array Value} {t : TypeId} {u : Value} (h : w.heap[s]? = some (.cells cs t (0, 0))) : (w.setCell ⟨s, i, none⟩ u).heap[s]? = some (.cells (cs.setIfInBounds i u) t (0, 0)) := by
  simp [World.setCell, Array.getElem?_modify, h]
theorem cell_set {w : World} {s i b o : Nat} {u : Value} (h : b ≠ s) : (w.setCell ⟨s, i, none⟩ u).cell? ⟨b, o, none⟩ = w.cell? ⟨b, o, none⟩ :=
  World.cell?_setCell_other _ _ _ _ (by intro e; injection e with e1 e2; omega)

theorem flipc {P : Program} {f : FuncId} {args : Array Value} {w : World} {v : Value} (h : Calls P f args w (fun e w' => e = .returned v ∧ w = w')) : Calls P f args w (fun e w'' => e = .returned v ∧ w'' = w) :=
  h.mono fun _ _ ⟨a, b⟩ => ⟨a, b.symm⟩
/-- A literal row. -/
theorem Rd.lit {α : Type} {w : World} {lo g K : Nat} {enc : α → List Value} {xs : List α} {cs : Array Value} {t : TypeId} (hg : w.heap[g]? = some (.cells cs t (0, 0))) (hlo : lo ≤ g) (hk : ∀ x, (enc x).length = K) (hcs : cs.toList = xs.flatMap enc) :
    Rd w lo (some ⟨g, 0, none⟩) K enc xs := fun _ => by
  have hlt : g < w.heap.size := by
    rcases Nat.lt_or_ge g w.heap.size with hlt | hge
    · exact hlt
    · rw [Array.getElem?_eq_none hge] at hg; cases hg
  refine ⟨g, 0, rfl, hlo, hlt, fun i x hx j u hu => ?_⟩
  rw [Nat.zero_add, cell_of_row w g _ cs t _ hg, ← Array.getElem?_toList, hcs]
  exact flat_get hk i x hx j u hu

theorem hnew {w : World} {o : Obj} {g : Nat} (hg : g = w.heap.size) : (w.alloc o).heap[g]? = some o := by subst hg; exact heap_alloc_new w o
theorem hnew_drew {w : World} {o : Obj} {g : Nat} (hg : g = w.heap.size) : (w.alloc o).drew.heap[g]? = some o := hnew hg
/-- t is a slice type over e, whose values take K cells and so many bytes. -/
structure ElemOf (P : Program) (t e : TypeId) (K bytes : Nat) : Prop where
  ht : P.underlying t = some (.slice e)
  hi : ∃ i z, P.info? e = some i ∧ i.zero = some z ∧ i.size = K ∧ i.bytes = bytes ∧ z.cells.size = K
theorem ElemOf.mk' {P : Program} {t e : TypeId} {K bytes : Nat} {z : Value} (ht : P.underlying t = some (.slice e)) (h : (P.info? e).map (fun i => (i.zero, i.size, i.bytes)) = some (some z, K, bytes)) (hz : z.cells.size = K) : ElemOf P t e K bytes := by
  obtain ⟨i, h1, h2, h3, h4⟩ := info_parts h
  exact ⟨ht, i, z, h1, h2, h3, h4, hz⟩
theorem news_of {w : World} {g : Nat} {cs : Array Value} {e : TypeId} (h : w.heap[g]? = some (.cells cs e (0, 0))) {l : List Value} (hl : cs.toList = l) : ∀ j u, l[j]? = some u → w.cell? ((⟨g, 0, none⟩ : Addr).add j) = some u := by
  intro j u hu
  have e1 : (⟨g, 0, none⟩ : Addr).add j = ⟨g, j, none⟩ := by unfold Addr.add; split <;> simp_all
  rw [e1, cell_of_row w g j cs e _ h, ← Array.getElem?_toList, hl]
  exact hu
/-- 'out = append(out, y)' on a row of the call's own. -/
theorem wpApp {α : Type} {P : Program} {w : World} {ops : Array Oper} {rest : List Oper} {o : Oper} {a : Act} {Q : Exit → Act → World → Prop} (hgd : o.guard = none) (s x : Operand) (t : TypeId)
    (ho : o.op = .call { callee := .builtin .append, args := #[s, x], argTypes := #[t, t] })
    {e : TypeId} {K bytes : Nat} (E : ElemOf P t e K bytes) (enc : α → List Value) (hk : ∀ x, (enc x).length = K) (h1c : ∀ x, ∀ v ∈ enc x, v.oneCell' = true) (hK : 0 < K) (hB : bytes ≤ 1000)
    (base : Nat) (v : Value) (L : List α) (hs : a.eval s = v) (hown : w.ownsRow base e K v L.length (L.flatMap enc)) (g : Nat) (y : α) (cs : Array Value) (hx : a.eval x = .slice (some ⟨g, 0, none⟩) 1 1)
    (hblk : w.heap[g]? = some (.cells cs e (0, 0))) (hcs : cs.toList = enc y) (hlen : L.length ≤ 10000000) (hbase : base ≤ w.heap.size)
    (h : ∀ v' w', w'.ownsRow base e K v' (L ++ [y]).length ((L ++ [y]).flatMap enc) → w.grownBy w' v.ownBlock → wpList P ops Q rest (a.put o.dst v') w') : wpList P ops Q (o :: rest) a w := by
  obtain ⟨i, z, h1, h2, h3, h4, h5⟩ := E.hi
  refine wpList_append_own w hgd s x t ho base e i z K bytes E.ht h1 h2 h3 h4 h5 hK v L.length _ hs hown ⟨g, 0, none⟩ 1 1 (enc y) hx (by rw [hk]; omega) (news_of hblk hcs) (h1c y) (by unfold maxLen; omega) ?_ hbase ?_
  · have : (L.length + 1) * bytes ≤ 10000001 * 1000 := Nat.mul_le_mul (by omega) hB
    omega
  · intro v' w' ho' hg' _
    exact h v' w' (by simpa using ho') hg'
theorem own_blk_lt {w : World} {base : Nat} {e : TypeId} {size : Nat} {v : Value} {n : Nat} {xs : List Value} (h : w.ownsRow base e size v n xs) : ∀ k, v.ownBlock = some k → base ≤ k := fun k hk => (h.lt k hk).1
theorem own_nx {w w' : World} {base : Nat} {e : TypeId} {size : Nat} {v : Value} {n : Nat} {xs : List Value} (h : w.ownsRow base e size v n xs) (hn : Nx w w') : w'.ownsRow base e size v n xs :=
  h.kept (hn.gr none) (by cases hv : v.ownBlock <;> simp)
theorem own_gr {w w' : World} {s base : Nat} {e : TypeId} {size : Nat} {v : Value} {n : Nat} {xs : List Value} (h : w.ownsRow base e size v n xs) (hn : w.grownBy w' (some s)) (hs : s < base) : w'.ownsRow base e size v n xs :=
  h.kept hn (.inr fun e => by have := own_blk_lt h s e; omega)

theorem flat_set {α : Type} {enc : α → List Value} {K : Nat} (hk : ∀ x, (enc x).length = K) : ∀ (xs : List α) (i : Nat) (hi : i < xs.length) (x' : α) (j : Nat) (_ : j < K) (u : Value), enc x' = (enc xs[i]).set j u → (xs.flatMap enc).set (i * K + j) u = (xs.set i x').flatMap enc
  | y :: ys, 0, hi, x', j, hj, u, h => by
    rw [List.set_cons_zero, List.flatMap_cons, List.flatMap_cons, Nat.zero_mul, Nat.zero_add, List.set_append_left _ _ (by rw [hk]; exact hj), h]; rfl
  | y :: ys, i + 1, hi, x', j, hj, u, h => by
    rw [List.set_cons_succ, List.flatMap_cons, List.flatMap_cons, List.set_append_right _ _ (by rw [hk, Nat.add_mul]; omega), hk, show (i + 1) * K + j - K = i * K + j by rw [Nat.add_mul]; omega]
    rw [flat_set hk ys i (by simpa using hi) x' j hj u (by simpa using h)]
/-- A field of a row's element is stored. -/
theorem own_set {α : Type} {enc : α → List Value} {K : Nat} (hk : ∀ x, (enc x).length = K) {w : World} {base g cap n : Nat} {e : TypeId} {xs : List α} (hn : xs.length = n) (h : w.ownsRow base e K (.slice (some ⟨g, 0, none⟩) n cap) n (xs.flatMap enc))
    (i : Nat) (hi : i < xs.length) (j : Nat) (hj : j < K) (u : Value) (x' : α) (hx : enc x' = (enc xs[i]).set j u) (off : Nat) (ho : off = i * K + j) :
    (w.setCell ⟨g, off, none⟩ u).ownsRow base e K (.slice (some ⟨g, 0, none⟩) n cap) n ((xs.set i x').flatMap enc) := by
  subst ho hn
  rw [← flat_set hk xs i hi x' j hj u hx]
  exact (h.stored (i * K + j) u).1
/-- A field of a row's element, read. -/
theorem own_cell {α : Type} {enc : α → List Value} {K : Nat} (hk : ∀ x, (enc x).length = K) {w : World} {base g cap n : Nat} {e : TypeId} {xs : List α} (hn : xs.length = n) (h : w.ownsRow base e K (.slice (some ⟨g, 0, none⟩) n cap) n (xs.flatMap enc))
    (i : Nat) (hi : i < xs.length) (j : Nat) (u : Value) (hu : (enc xs[i])[j]? = some u) : w.cell? ⟨g, i * K + j, none⟩ = some u := by
  subst hn
  have hj : j < K := by have := (List.getElem?_eq_some_iff.1 hu).1; rw [hk] at this; exact this
  rw [h.cellAt (i * K + j) (by
      have : (i + 1) * K ≤ xs.length * K := Nat.mul_le_mul_right K hi
      rw [Nat.add_mul] at this; omega)]
  exact flat_get hk i _ (List.getElem?_eq_getElem hi) j u hu
end Go.Proofs.YtdjopfagccildaaGreatDoor
/- The walks of the smallest functions of numbers: those that all packages use. -/
namespace Go.Proofs.YtdjopfagccildaaGreatDoor
open Go.RowKit

theorem ret_bool {a b : Bool} (h : a = b) : Ending.returned (.bool a) = .returned (.bool b) := by rw [h]
theorem ret_int {k : IntKind} {a b : Int} (h : a = b) : Ending.returned (.int k a) = .returned (.int k b) := by rw [h]

theorem w_Out (n l h : Int) (w : World) : Calls Tryz.prog 103 #[.int .i64 n, .int .i64 l, .int .i64 h] w fun e w' => e = .returned (.bool (outB n l h)) ∧ w = w' := by
  by_cases h1 : n < l <;> by_cases h2 : h < n
  all_goals
    go_enter Tryz.func103, Tryz.ntmps103
    go_wp2
    go_ret
    exact ⟨ret_bool (by unfold outB; simp; omega), rfl⟩

theorem w_in (n l h : Int) (w : World) : Calls Tryz.prog 76 #[.int .i64 n, .int .i64 l, .int .i64 h] w fun e w' => e = .returned (.bool (inB n l h)) ∧ w = w' := by
  by_cases h1 : l ≤ n <;> by_cases h2 : n ≤ h
  all_goals
    go_enter Tryz.func76, Tryz.ntmps76
    go_wp2
    go_ret
    exact ⟨ret_bool (by unfold inB; simp; omega), rfl⟩

end Go.Proofs.YtdjopfagccildaaGreatDoor
/- cmp.Compare of numbers. -/
namespace Go.Proofs.YtdjopfagccildaaGreatDoor
open Go.RowKit

theorem w_isNaN (a : Int) (w : World) : Calls Tryz.prog 141 #[.int .i64 a] w fun e w' => e = .returned (.bool false) ∧ w = w' := by
  go_enter Tryz.func141, Tryz.ntmps141
  go_wp2
  go_ret
  exact ⟨rfl, rfl⟩

theorem w_Compare (a b : Int) (w : World) : Calls Tryz.prog 110 #[.int .i64 a, .int .i64 b] w fun e w' => e = .returned (.int .i64 (cmpI a b)) ∧ w = w' := by
  by_cases h1 : a < b
  · go_enter Tryz.func110, Tryz.ntmps110
    go_wp2_with (go_at_call 141; refine (w_isNaN _ _).mono ?_; rintro e w' ⟨rfl, rfl⟩)
    go_ret
    exact ⟨ret_int (by unfold cmpI; simp [h1]), rfl⟩
  · by_cases h2 : b < a
    · go_enter Tryz.func110, Tryz.ntmps110
      go_wp2_with (go_at_call 141; refine (w_isNaN _ _).mono ?_; rintro e w' ⟨rfl, rfl⟩)
      go_ret
      exact ⟨ret_int (by unfold cmpI; simp [h1, h2]), rfl⟩
    · go_enter Tryz.func110, Tryz.ntmps110
      go_wp2_with (go_at_call 141; refine (w_isNaN _ _).mono ?_; rintro e w' ⟨rfl, rfl⟩)
      go_ret
      exact ⟨ret_int (by unfold cmpI; rw [if_neg (by omega), if_neg (by omega)]), rfl⟩

end Go.Proofs.YtdjopfagccildaaGreatDoor
/- The walks of the smallest functions of numbers. -/
namespace Go.Proofs.YtdjopfagccildaaGreatDoor
open Go.RowKit

theorem w_Moment (n : Int) (w : World) : Calls Tryz.prog 74 #[.int .i64 n] w fun e w' => e = .returned (.bool (momB n)) ∧ w = w' := by
  have H := hide (show outB n 0 345686399999 = outB n 0 lastMo from rfl)
  go_enter Tryz.func74, Tryz.ntmps74
  go_wp2_with (go_at_call 103; rw [show (345686399999 : Int) = lastMo from rfl]; refine (w_Out _ _ _ _).mono ?_; rintro e w' ⟨rfl, rfl⟩)
  go_ret
  exact ⟨ret_bool (by unfold momB; rfl), rfl⟩

theorem w_MomentFault (x : Int) (w : World) : Calls Tryz.prog 22 #[.int .i64 x] w fun e w' => e = .returned (.int .i64 (momF x)) ∧ w = w' := by
  have e1 := inB_out x 0 lastMo
  go_enter Tryz.func22, Tryz.ntmps22
  cases h1 : outB x 0 lastMo
  all_goals
    rw [h1] at e1
    go_wp2_with (go_at_call 76; rw [show (345686399999 : Int) = lastMo from rfl]; refine (w_in _ _ _ _).mono ?_; rintro e w' ⟨rfl, rfl⟩)
    go_ret
    exact ⟨ret_int (by unfold momF momB; simp [h1, argF]), rfl⟩

end Go.Proofs.YtdjopfagccildaaGreatDoor
/- Maps: the keys. -/
namespace Go.Proofs.YtdjopfagccildaaGreatDoor
open Go.RowKit Go.Maps

theorem tySize : Tryz.prog.types.size = 323 := by kernel_rfl
theorem laidOut : laidOutB Tryz.prog = true := by kernel_rfl
theorem cells_int : Tryz.prog.cellsOf 3 = 1 := by kernel_rfl

theorem lits_int (d : Nat) (x : Int) (hx : (Lit.int .i64 x).wf = true) : Tryz.prog.keyLits (d + 1) 3 [.int .i64 x] = some [.int .i64 x] := by
  unfold Program.keyLits; rw [Tryz.underlying3]; simp [hx]
end Go.Proofs.YtdjopfagccildaaGreatDoor
/- A map whose elements are of any kind, said of a plain function; pointers to blocks as elements. Of no program. -/
namespace Go.Proofs.YtdjopfagccildaaGreatDoor
open Go.RowKit Go.Maps

/-- R reads the values 'ev v', and no others as what they read as. -/
structure ElemR {V : Type} (R : Value → Option (DataW Unit × List MemPlace)) (ev : V → Value) (dv : V → DataW Unit) (okv : V → Prop) : Prop where
  make : ∀ v, okv v → ∃ ps, R (ev v) = some (dv v, ps)
  inv : ∀ x d ps, R x = some (d, ps) → ∃ v, okv v ∧ x = ev v ∧ d = dv v
  inj : ∀ a b, dv a = dv b → a = b

theorem elemInt {P : Program} {E : TypeId} (he : P.underlying E = some (.int .i64)) : ElemR (plainElem P E) (Value.int .i64) (fun z => .lit (.int .i64 z)) (fun z => (Lit.int .i64 z).wf = true) where
  make z h := ⟨[], plainElem_int he h⟩
  inv x d ps h := by
    obtain ⟨a, rfl, e, hw⟩ := plainElem_int_inv he h
    injection e with e1 e2
    exact ⟨a, hw, rfl, e1⟩
  inj a b h := by injection h with h; injection h
theorem elemBool {P : Program} {E : TypeId} (he : P.underlying E = some .bool) : ElemR (plainElem P E) Value.bool (fun z => .lit (.bool z)) (fun _ => True) where
  make z _ := ⟨[], plainElem_bool he z⟩
  inv x d ps h := by
    unfold plainElem at h
    rw [he] at h
    cases x <;> simp at h
    obtain ⟨rfl, _⟩ := h
    exact ⟨_, trivial, rfl, rfl⟩
  inj a b h := by injection h with h; injection h

/-- A pointer to a block's head, or nil. -/
def ptrV : Option Nat → Value
  | none => .pointer none
  | some b => .pointer (some ⟨b, 0, none⟩)
def ptrD : Option Nat → DataW Unit
  | none => .lit (.bool false)
  | some b => .lit (.int .i64 (b : Int))
def ptrElem : Value → Option (DataW Unit × List MemPlace)
  | .pointer none => some (.lit (.bool false), [])
  | .pointer (some ⟨b, 0, none⟩) => some (.lit (.int .i64 (b : Int)), [])
  | _ => none
theorem elemPtr : ElemR ptrElem ptrV ptrD (fun _ => True) where
  make v _ := by cases v <;> exact ⟨[], rfl⟩
  inv x d ps h := by
    unfold ptrElem at h
    split at h
    · injection h with h; injection h with h1 h2; exact ⟨none, trivial, rfl, h1.symm⟩
    · rename_i b
      injection h with h; injection h with h1 h2; exact ⟨some b, trivial, rfl, h1.symm⟩
    · cases h
  inj a b h := by
    cases a <;> cases b <;> simp [ptrD] at h <;> first | rfl | (congr 1; omega)

section
variable {κ V : Type} {P : Program} {K : TypeId} {ek : κ → Value} {dom : κ → Prop} {R : Value → Option (DataW Unit × List MemPlace)} {ev : V → Value} {dv : V → DataW Unit} {okv : V → Prop}

structure MgD (P : Program) (K : TypeId) (ek : κ → Value) (dom : κ → Prop) (dv : V → DataW Unit) (D : DataW Unit) (f : κ → Option V) : Prop where
  isMap : IsMap D
  at_ : ∀ k l, dom k → keyOf P K (ek k) = some l → ∀ z, D.atKey l z = (match f k with | some v => dv v | none => z)
  keys : ∀ l, has D l = true → ∃ k, dom k ∧ keyOf P K (ek k) = some l
  dm : ∀ k, (f k).isSome = true → dom k
/-- Block b is a map that holds f k at key k, if it has the key at all. -/
def MgI (P : Program) (K : TypeId) (ek : κ → Value) (dom : κ → Prop) (R : Value → Option (DataW Unit × List MemPlace)) (dv : V → DataW Unit) (w : World) (b n : Nat) (f : κ → Option V) : Prop :=
  ∃ D : DataW Unit, w.ownsMap P K R b n D ∧ MgD P K ek dom dv D f
theorem MgI.lt {w : World} {b n : Nat} {f : κ → Option V} (h : MgI P K ek dom R dv w b n f) : b < w.heap.size := by
  obtain ⟨D, h1, _⟩ := h; exact h1.lt
theorem MgI.grown {w w' : World} {b n : Nat} {row : Option Nat} {f : κ → Option V} (h : MgI P K ek dom R dv w b n f) (hg : w.grownBy w' row) (hne : some b ≠ row) : MgI P K ek dom R dv w' b n f := by
  obtain ⟨D, h1, h2⟩ := h
  exact ⟨D, h1.kept hg hne, h2⟩
theorem MgI.nx {w w' : World} {b n : Nat} {f : κ → Option V} (h : MgI P K ek dom R dv w b n f) (hn : Nx w w') : MgI P K ek dom R dv w' b n f := h.grown (hn.gr none) (by simp)
theorem MgI.gr {w w' : World} {b n s : Nat} {f : κ → Option V} (h : MgI P K ek dom R dv w b n f) (hn : Gr s w w') (hs : b ≠ s) : MgI P K ek dom R dv w' b n f := h.grown (row := some s) hn (by simpa using hs)
theorem MgI.mono {w : World} {b n n' : Nat} {f : κ → Option V} (h : MgI P K ek dom R dv w b n f) (hn : n ≤ n') : MgI P K ek dom R dv w b n' f := by
  obtain ⟨D, h1, h2⟩ := h; exact ⟨D, h1.mono hn, h2⟩
theorem MgI.made (w : World) : MgI P K ek dom R dv (w.alloc (.map #[] 0)) w.heap.size 0 (fun _ : κ => (none : Option V)) :=
  ⟨.map [], World.ownsMap_made w P K _, isMap_empty, fun _ _ _ _ _ => rfl, fun l h => (by simp [has_eq] at h), fun k h => by cases h⟩
theorem MgD.has_ {D : DataW Unit} {f : κ → Option V} (h : MgD P K ek dom dv D f) {k : κ} (hd : dom k) {l : Lit} (hkey : keyOf P K (ek k) = some l) : has D l = (f k).isSome := by
  have e := h.at_ k l hd hkey
  cases hf : f k with
  | none => rw [hf] at e; exact has_false_of_atKey e
  | some v => rw [hf] at e; exact has_true_of_atKey e
/-- 'm[k]'. -/
theorem MgI.look (ER : ElemR R ev dv okv) {w : World} {b n : Nat} {f : κ → Option V} {t E : TypeId} (h : MgI P K ek dom R dv w b n f) (KL : Keyed P K) (ht : P.underlying t = some (.map K E)) {z : V} (hzo : okv z) (hz : (zeroValue E).run P w = .ok (ev z) w)
    {k : κ} (hd : dom k) {l : Lit} (hkey : keyOf P K (ek k) = some l) : (Instr.lookup t (.map (some b)) (ek k) false).run P w = .ok (ev ((f k).getD z)) w ∧ okv ((f k).getD z) := by
  obtain ⟨D, h1, h2⟩ := h
  obtain ⟨ps0, hzd⟩ := ER.make z hzo
  obtain ⟨v, ps, hrun, hv⟩ := h1.lookup KL ht hz hzd hkey
  obtain ⟨v', ho, rfl, e1⟩ := ER.inv _ _ _ hv
  have e := h2.at_ k l hd hkey (dv z)
  have e2 : v' = (f k).getD z := by
    rw [e1] at e
    cases hf : f k with
    | none => rw [hf] at e; exact ER.inj _ _ e
    | some u => rw [hf] at e; exact ER.inj _ _ e
  subst e2
  exact ⟨hrun, ho⟩
/-- 'v, is := m[k]'. -/
theorem MgI.look_ok (ER : ElemR R ev dv okv) {w : World} {b n : Nat} {f : κ → Option V} {t E : TypeId} (h : MgI P K ek dom R dv w b n f) (KL : Keyed P K) (ht : P.underlying t = some (.map K E)) {z : V} (hzo : okv z) (hz : (zeroValue E).run P w = .ok (ev z) w)
    {k : κ} (hd : dom k) {l : Lit} (hkey : keyOf P K (ek k) = some l) : (Instr.lookup t (.map (some b)) (ek k) true).run P w = .ok (.tuple #[ev ((f k).getD z), .bool (f k).isSome]) w ∧ okv ((f k).getD z) := by
  obtain ⟨D, h1, h2⟩ := h
  obtain ⟨ps0, hzd⟩ := ER.make z hzo
  obtain ⟨v, ps, hrun, hv⟩ := h1.look_ok KL ht hz hzd hkey
  obtain ⟨v', ho, rfl, e1⟩ := ER.inv _ _ _ hv
  have e := h2.at_ k l hd hkey (dv z)
  have e2 : v' = (f k).getD z := by
    rw [e1] at e
    cases hf : f k with
    | none => rw [hf] at e; exact ER.inj _ _ e
    | some u => rw [hf] at e; exact ER.inj _ _ e
  subst e2
  rw [h2.has_ hd hkey] at hrun
  exact ⟨hrun, ho⟩
theorem MgD.put [DecidableEq κ] {D : DataW Unit} {f : κ → Option V} (h : MgD P K ek dom dv D f) (KL : Keyed P K) (hinj : ∀ a b : κ, ek a = ek b → a = b) {k : κ} (hd : dom k) {l : Lit} (hkey : keyOf P K (ek k) = some l) (v : V) :
    MgD P K ek dom dv (D.put l (dv v)) (fun k' => if k' = k then some v else f k') where
  isMap := h.isMap.put _ _
  at_ k' l' hd' hk' z := by
    by_cases e : k' = k
    · subst e
      rw [hkey] at hk'; injection hk' with hk'; subst hk'
      rw [if_pos rfl]
      exact atKey_put_same h.isMap (KL.key hkey) _ _
    · rw [if_neg e]
      have hne : l' ≠ l := fun e1 => by subst e1; exact e (hinj _ _ (KL.inj hk' hkey))
      rw [atKey_put_other hne]
      exact h.at_ k' l' hd' hk' z
  keys l' hl' := by
    by_cases e : l' = l
    · subst e; exact ⟨k, hd, hkey⟩
    · rw [has_put_other e] at hl'; exact h.keys l' hl'
  dm k' hk' := by
    by_cases e : k' = k
    · subst e; exact hd
    · rw [if_neg e] at hk'; exact h.dm k' hk'
/-- 'm[k] = v'. -/
theorem MgI.upd [DecidableEq κ] (ER : ElemR R ev dv okv) {w : World} {b n : Nat} {f : κ → Option V} {t E : TypeId} (h : MgI P K ek dom R dv w b n f) (KL : Keyed P K) (hinj : ∀ a b : κ, ek a = ek b → a = b) (ht : P.underlying t = some (.map K E)) (hn : n < maxLen)
    {k : κ} (hd : dom k) {l : Lit} (hkey : keyOf P K (ek k) = some l) (v : V) (hv : okv v) :
    ∃ w', (Instr.mapUpdate t (.map (some b)) (ek k) (ev v)).run P w = .ok () w' ∧ MgI P K ek dom R dv w' b (n + 1) (fun k' => if k' = k then some v else f k') ∧ Gr b w w' := by
  obtain ⟨D, h1, h2⟩ := h
  obtain ⟨ps, hR⟩ := ER.make v hv
  obtain ⟨w', hr, ho, hg⟩ := h1.update KL ht hn hkey hR
  exact ⟨w', hr, ⟨_, ho, h2.put KL hinj hd hkey v⟩, hg⟩
/-- 'm[k] = v' at the operation. -/
theorem wpMgPut [DecidableEq κ] (w : World) {ops : Array Oper} {rest : List Oper} {o : Oper} {a : Act} {Q : Exit → Act → World → Prop}
    (hg : o.guard = none) (m x v : Operand) (t : TypeId) (hop : o.op = Op.mapUpdate t m x v) (ER : ElemR R ev dv okv) {E : TypeId}
    (KL : Keyed P K) (hinj : ∀ a b : κ, ek a = ek b → a = b) (ht : P.underlying t = some (.map K E)) (b n : Nat) (f : κ → Option V)
    (hm : a.eval m = .map (some b)) (hown : MgI P K ek dom R dv w b n f) (hn : n < maxLen) (k : κ) (hx : a.eval x = ek k) (hd : dom k) (l : Lit) (hkey : keyOf P K (ek k) = some l)
    (z : V) (hz : a.eval v = ev z) (hwf : okv z)
    (hK : ∀ w', MgI P K ek dom R dv w' b (n + 1) (fun k' => if k' = k then some z else f k') → Gr b w w' → wpList P ops Q rest (a.put o.dst undef) w') :
    wpList P ops Q (o :: rest) a w := by
  refine wpList_plain hg fun K' hK' => ?_
  obtain ⟨w', hrun, r1, r2⟩ := hown.upd ER KL hinj ht hn hd hkey z hwf
  unfold Oper.wp
  simp [execOp, hop, hm, hx, hz, hrun, Result.andThen]
  exact hK' _ _ (hK w' r1 r2)
/-- The number of entries: no more than n. -/
theorem MgI.size {w : World} {b n : Nat} {f : κ → Option V} (h : MgI P K ek dom R dv w b n f) {t E : TypeId} (ht : P.underlying t = some (.map K E)) (ty : TypeId) : ∃ m : Nat, m ≤ n ∧ (Builtin.len_ #[t] ty #[.map (some b)]).run P w = .ok (.int .i64 (m : Int)) w := by
  obtain ⟨D, h1, h2⟩ := h
  refine ⟨Maps.size D, ?_, by simpa using h1.len ht ty⟩
  obtain ⟨es, clock, _, _, h3, rfl⟩ := h1
  rw [size_eq, length_sorted]; simpa using h3
end
end Go.Proofs.YtdjopfagccildaaGreatDoor
/- A map of integers in which it counts whether a key is there, said of a plain function. Of no program. -/
namespace Go.Proofs.YtdjopfagccildaaGreatDoor
open Go.RowKit Go.Maps

section
variable {κ : Type} {P : Program} {K E : TypeId} {ek : κ → Value} {dom : κ → Prop}

/-- The map's datum D holds f k at key k, if it has the key at all; its keys lie in dom. -/
structure MoD (P : Program) (K : TypeId) (ek : κ → Value) (dom : κ → Prop) (D : DataW Unit) (f : κ → Option Int) : Prop where
  isMap : IsMap D
  at_ : ∀ k l, dom k → keyOf P K (ek k) = some l → ∀ z, D.atKey l z = (match f k with | some v => .lit (.int .i64 v) | none => z)
  keys : ∀ l, has D l = true → ∃ k, dom k ∧ keyOf P K (ek k) = some l
  dm : ∀ k, (f k).isSome = true → dom k

/-- Block b is such a map. -/
def MoI (P : Program) (K E : TypeId) (ek : κ → Value) (dom : κ → Prop) (w : World) (b n : Nat) (f : κ → Option Int) : Prop :=
  ∃ D : DataW Unit, w.ownsMap P K (plainElem P E) b n D ∧ MoD P K ek dom D f

theorem MoI.lt {w : World} {b n : Nat} {f : κ → Option Int} (h : MoI P K E ek dom w b n f) : b < w.heap.size := by
  obtain ⟨D, h1, _⟩ := h; exact h1.lt
theorem MoI.nx {w w' : World} {b n : Nat} {f : κ → Option Int} (h : MoI P K E ek dom w b n f) (hn : Nx w w') : MoI P K E ek dom w' b n f := by
  obtain ⟨D, h1, h2⟩ := h
  exact ⟨D, h1.kept (hn.gr none) (by simp), h2⟩
theorem MoI.gr {w w' : World} {b n s : Nat} {f : κ → Option Int} (h : MoI P K E ek dom w b n f) (hn : Gr s w w') (hs : b ≠ s) : MoI P K E ek dom w' b n f := by
  obtain ⟨D, h1, h2⟩ := h
  exact ⟨D, h1.kept (row := some s) hn (by simpa using hs), h2⟩
theorem MoI.mono {w : World} {b n n' : Nat} {f : κ → Option Int} (h : MoI P K E ek dom w b n f) (hn : n ≤ n') : MoI P K E ek dom w b n' f := by
  obtain ⟨D, h1, h2⟩ := h; exact ⟨D, h1.mono hn, h2⟩
theorem MoI.made (w : World) : MoI P K E ek dom (w.alloc (.map #[] 0)) w.heap.size 0 (fun _ => none) :=
  ⟨.map [], World.ownsMap_made w P K _, isMap_empty, fun _ _ _ _ _ => rfl, fun l h => (by simp [has_eq] at h), fun k h => by cases h⟩
theorem wf_i64o {n : Int} : (Lit.int .i64 n).wf = true ↔ -9223372036854775808 ≤ n ∧ n ≤ 9223372036854775807 := by
  simp [Lit.wf, IntKind.min, IntKind.max, IntKind.signed, IntKind.bits]
theorem MoD.has_ {D : DataW Unit} {f : κ → Option Int} (h : MoD P K ek dom D f) {k : κ} (hd : dom k) {l : Lit} (hkey : keyOf P K (ek k) = some l) : has D l = (f k).isSome := by
  have e := h.at_ k l hd hkey
  cases hf : f k with
  | none => rw [hf] at e; exact has_false_of_atKey e
  | some v => rw [hf] at e; exact has_true_of_atKey e

theorem MoI.look {w : World} {b n : Nat} {f : κ → Option Int} {t : TypeId} (h : MoI P K E ek dom w b n f) (KL : Keyed P K) (ht : P.underlying t = some (.map K E)) (he : P.underlying E = some (.int .i64)) (hz : (zeroValue E).run P w = .ok (.int .i64 0) w)
    {k : κ} (hd : dom k) {l : Lit} (hkey : keyOf P K (ek k) = some l) : (Instr.lookup t (.map (some b)) (ek k) false).run P w = .ok (.int .i64 ((f k).getD 0)) w ∧ (Lit.int .i64 ((f k).getD 0)).wf = true := by
  obtain ⟨D, h1, h2⟩ := h
  obtain ⟨c, hrun, hat, hwf⟩ := h1.lookup_int KL ht he hz hkey
  have e := h2.at_ k l hd hkey (.lit (.int .i64 0))
  rw [hat] at e
  have e' : c = (f k).getD 0 := by
    cases hf : f k with
    | none => rw [hf] at e; injection e with e; injection e
    | some v => rw [hf] at e; injection e with e; injection e
  subst e'
  exact ⟨hrun, hwf⟩

theorem MoD.put {D : DataW Unit} {f : κ → Option Int} [DecidableEq κ] (h : MoD P K ek dom D f) (KL : Keyed P K) (hinj : ∀ a b : κ, ek a = ek b → a = b) {k : κ} (hd : dom k) {l : Lit} (hkey : keyOf P K (ek k) = some l) (v : Int) :
    MoD P K ek dom (D.put l (.lit (.int .i64 v))) (fun k' => if k' = k then some v else f k') where
  isMap := h.isMap.put _ _
  at_ k' l' hd' hk' z := by
    by_cases e : k' = k
    · subst e
      rw [hkey] at hk'; injection hk' with hk'; subst hk'
      rw [if_pos rfl]
      exact atKey_put_same h.isMap (KL.key hkey) _ _
    · rw [if_neg e]
      have hne : l' ≠ l := fun e1 => by subst e1; exact e (hinj _ _ (KL.inj hk' hkey))
      rw [atKey_put_other hne]
      exact h.at_ k' l' hd' hk' z
  keys l' hl' := by
    by_cases e : l' = l
    · subst e; exact ⟨k, hd, hkey⟩
    · rw [has_put_other e] at hl'; exact h.keys l' hl'
  dm k' hk' := by
    by_cases e : k' = k
    · subst e; exact hd
    · rw [if_neg e] at hk'; exact h.dm k' hk'

/-- 'm[k] = v'. -/
theorem MoI.upd {w : World} {b n : Nat} {f : κ → Option Int} [DecidableEq κ] {t : TypeId} (h : MoI P K E ek dom w b n f) (KL : Keyed P K) (hinj : ∀ a b : κ, ek a = ek b → a = b) (ht : P.underlying t = some (.map K E)) (he : P.underlying E = some (.int .i64)) (hn : n < maxLen)
    {k : κ} (hd : dom k) {l : Lit} (hkey : keyOf P K (ek k) = some l) (v : Int) (hv : (Lit.int .i64 v).wf = true) :
    ∃ w', (Instr.mapUpdate t (.map (some b)) (ek k) (.int .i64 v)).run P w = .ok () w' ∧ MoI P K E ek dom w' b (n + 1) (fun k' => if k' = k then some v else f k') ∧ Gr b w w' := by
  obtain ⟨D, h1, h2⟩ := h
  obtain ⟨w', hr, ho, hg⟩ := h1.update KL ht hn hkey (plainElem_int (H := Unit) he hv)
  exact ⟨w', hr, ⟨_, ho, h2.put KL hinj hd hkey v⟩, hg⟩

end
end Go.Proofs.YtdjopfagccildaaGreatDoor
/- Plain functions: what is left is given out one by one; sorting in place. -/
namespace Go.Proofs.YtdjopfagccildaaGreatDoor
/-- i gets one of what is left ahead of j. -/
def beats (rs : List Int) (i j : Nat) : Prop := rs.getD j 0 < rs.getD i 0 ∨ (rs.getD i 0 = rs.getD j 0 ∧ i < j)
theorem beats_asymm {rs : List Int} {i j : Nat} (h : beats rs i j) (k : beats rs j i) : False := by unfold beats at h k; omega
structure UpSet (rs : List Int) (T : List Nat) : Prop where
  nd : T.Nodup
  lt : ∀ i ∈ T, i < rs.length
  up : ∀ i ∈ T, ∀ j, j < rs.length → j ∉ T → beats rs i j
theorem nodup_len : ∀ {l m : List Nat}, l.Nodup → (∀ x ∈ l, x ∈ m) → l.length ≤ m.length
  | [], _, _, _ => by simp
  | x :: l, m, hn, hs => by
    have h1 := List.nodup_cons.1 hn
    have h2 : l.length ≤ (m.erase x).length := nodup_len h1.2 (fun y hy => by
      have hne : y ≠ x := fun e => h1.1 (e ▸ hy)
      exact (List.mem_erase_of_ne hne).2 (hs y (List.mem_cons_of_mem _ hy)))
    have h3 := List.length_erase_of_mem (hs x (by simp))
    have h4 : 0 < m.length := List.length_pos_of_mem (hs x (by simp))
    simp only [List.length_cons]
    omega
theorem UpSet.sub {rs : List Int} {S T : List Nat} (hS : UpSet rs S) (hT : UpSet rs T) (hl : S.length = T.length) : ∀ i ∈ S, i ∈ T := by
  intro a ha
  refine Classical.byContradiction fun hna => ?_
  have hb : ∃ b ∈ T, b ∉ S := by
    refine Classical.byContradiction fun hno => ?_
    have hsub : ∀ x ∈ T, x ∈ S.erase a := fun x hx => by
      have hxS : x ∈ S := Classical.byContradiction fun h => hno ⟨x, hx, h⟩
      have hne : x ≠ a := fun e => hna (e ▸ hx)
      exact (List.mem_erase_of_ne hne).2 hxS
    have h1 := nodup_len hT.nd hsub
    have h2 := List.length_erase_of_mem ha
    have h3 : 0 < S.length := List.length_pos_of_mem ha
    omega
  obtain ⟨b, hb, hbS⟩ := hb
  exact beats_asymm (hS.up a ha b (hT.lt b hb) hbS) (hT.up b hb a (hS.lt a ha) hna)
theorem UpSet.same {rs : List Int} {S T : List Nat} (hS : UpSet rs S) (hT : UpSet rs T) (hl : S.length = T.length) (i : Nat) : i ∈ S ↔ i ∈ T :=
  ⟨hS.sub hT hl i, hT.sub hS hl.symm i⟩
/-- One more for those in T. -/
def bump (qs : List Int) (T : List Nat) : List Int := qs.mapIdx (fun i q => if i ∈ T then q + 1 else q)
theorem bump_len (qs : List Int) (T : List Nat) : (bump qs T).length = qs.length := by simp [bump]
/-- What is given out: rounded down, and what is left one by one to those ahead. -/
def Dealt (qs rs : List Int) (left : Nat) (zs : List Int) : Prop := ∃ T, UpSet rs T ∧ T.length = left ∧ zs = bump qs T
/-- What the reference still looks at. -/
def cur (rs : List Int) (T : List Nat) : List Int := rs.mapIdx (fun i r => if i ∈ T then -1 else r)
theorem UpSet.nil (rs : List Int) : UpSet rs [] := ⟨List.nodup_nil, by simp, by simp⟩
/-- The first ones of all, in order. -/
theorem UpSet.take {rs : List Int} {l : List Nat} (hp : l.Perm (List.range rs.length)) (hs : l.Pairwise (beats rs)) (k : Nat) : UpSet rs (l.take k) := by
  have hnd : l.Nodup := hp.nodup_iff.2 List.nodup_range
  refine ⟨?_, ?_, ?_⟩
  · exact List.Nodup.sublist (List.take_sublist k l) hnd
  · intro i hi
    exact List.mem_range.1 (hp.mem_iff.1 (List.mem_of_mem_take hi))
  · intro i hi j hj hjT
    have hjl : j ∈ l := hp.mem_iff.2 (List.mem_range.2 hj)
    have hjd : j ∈ l.drop k := by
      rw [← List.take_append_drop k l] at hjl
      exact (List.mem_append.1 hjl).resolve_left hjT
    rw [← List.take_append_drop k l] at hs
    exact (List.pairwise_append.1 hs).2.2 i hi j hjd
end Go.Proofs.YtdjopfagccildaaGreatDoor
/- Plain: a whole given out by parts. -/
namespace Go.Proofs.YtdjopfagccildaaGreatDoor

def sumL : List Int → Int
  | [] => 0
  | x :: l => x + sumL l
def qsN (nums : List Int) (F : Int) : List Int := nums.map (· / F)
def rsN (nums : List Int) (F : Int) : List Int := nums.map (· % F)
def leftN (all : Int) (nums : List Int) (F : Int) : Int := all - sumL (qsN nums F)
theorem qsN_len (nums : List Int) (F : Int) : (qsN nums F).length = nums.length := by simp [qsN]
/-- A whole 'all' given out by numbers of which all together are F times it. -/
def Handed (all : Int) (nums : List Int) (F : Int) (zs : List Int) : Prop := Dealt (qsN nums F) (rsN nums F) (leftN all nums F).toNat zs
theorem Handed.len {all : Int} {nums : List Int} {F : Int} {zs : List Int} (h : Handed all nums F zs) : zs.length = nums.length := by
  obtain ⟨T, _, _, rfl⟩ := h
  rw [bump_len, qsN_len]
def numsD (cents : Int) (parts : List Int) : List Int := parts.map (fun p => cents * p)
/-- Cents given out by parts. -/
def Divided (cents : Int) (parts : List Int) (zs : List Int) : Prop := Handed cents (numsD cents parts) (sumL parts) zs
end Go.Proofs.YtdjopfagccildaaGreatDoor
/- Plain functions: what is wrong with keys, parts, costs, dues, steps; gains, refunds. -/
namespace Go.Proofs.YtdjopfagccildaaGreatDoor

structure Due where
  key : ByteArray
  cents : Int
instance : Inhabited Due := ⟨⟨default, 0⟩⟩
def encS (s : ByteArray) : List Value := [.string s]
structure Frac where
  num : Int
  den : Int
instance : Inhabited Frac := ⟨⟨0, 0⟩⟩
end Go.Proofs.YtdjopfagccildaaGreatDoor
/- Plain: sums by key; the list of them that is sorted by key; legs split by keys. -/
namespace Go.Proofs.YtdjopfagccildaaGreatDoor
open Go.Sort Go.Proofs Go.Shelf

/-- v more at key k. -/
def addK (f : ByteArray → Option Int) (k : ByteArray) (v : Int) : ByteArray → Option Int := fun k' => if k' = k then some ((f k).getD 0 + v) else f k'
/-- Nothing is below 0, nor above B. -/
def BndK (f : ByteArray → Option Int) (B : Int) : Prop := ∀ k, 0 ≤ (f k).getD 0 ∧ (f k).getD 0 ≤ B
theorem BndK.add {f : ByteArray → Option Int} {B v V : Int} (h : BndK f B) (k : ByteArray) (h0 : 0 ≤ v) (h1 : v ≤ V) : BndK (addK f k v) (B + V) := by
  intro k'
  unfold addK
  have h2 := h k
  by_cases e : k' = k
  · subst e; simp; omega
  · have := h k'
    simp [e]; omega
end Go.Proofs.YtdjopfagccildaaGreatDoor
/- Sums by key that a loop over a map collects. Of no program. -/
namespace Go.Proofs.YtdjopfagccildaaGreatDoor
open Go.RowKit Go.Sort Go.Maps Go.Proofs Go.Shelf

def domS (k : ByteArray) : Prop := k.size ≤ maxLen
def litS (k : ByteArray) : Lit := .string k.data.toList
theorem litS_inj {a b : ByteArray} (h : litS a = litS b) : a = b := data_inj (by unfold litS at h; injection h)
theorem keyS_mk {P : Program} {k : TypeId} (hk : P.underlying k = some .string) {s : ByteArray} (hs : domS s) : keyOf P k (.string s) = some (litS s) := by
  unfold domS at hs
  simp [keyOf, hk, mapKey, hs, litS]
theorem keyS_inv {P : Program} {k : TypeId} (hk : P.underlying k = some .string) {key : Value} {kl : Lit} (h : keyOf P k key = some kl) : ∃ s, key = .string s ∧ domS s ∧ kl = litS s := by
  cases key <;> simp [keyOf, hk, mapKey] at h
  obtain ⟨h1, rfl⟩ := h
  exact ⟨_, rfl, h1, rfl⟩
theorem strV_inj (a b : ByteArray) (h : Value.string a = Value.string b) : a = b := by injection h
theorem sameS_self (s : ByteArray) : (litS s).sameKey (litS s) = true := by simp [litS, Lit.sameKey]

end Go.Proofs.YtdjopfagccildaaGreatDoor
/- Cells behind calls that make memory alone. Of no program. -/
namespace Go.Proofs.YtdjopfagccildaaGreatDoor
open Go.RowKit

theorem nx_cell {w w' : World} {b o : Nat} {v : Value} (hn : Nx w w') (hb : b < w.heap.size) (h : w.cell? ⟨b, o, none⟩ = some v) : w'.cell? ⟨b, o, none⟩ = some v := (Below.cell hn (p := ⟨b, _, none⟩) hb).trans h
end Go.Proofs.YtdjopfagccildaaGreatDoor
