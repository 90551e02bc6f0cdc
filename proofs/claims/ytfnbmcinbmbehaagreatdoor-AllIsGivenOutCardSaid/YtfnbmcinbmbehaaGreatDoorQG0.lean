/- Words for memory, of no program: a slice that reads as a list of elements of K cells, the stream's object, worlds that only grow. -/
import Derived.WalkKit
import Derived.WalkSpells
import Derived.WalkLawsBesides
import Derived.IntWalk
import Derived.Test.YtfnbmcinbmbehaaGreatDoorRows
import Derived.Deep.QuietTactic
import Derived.BigQuiet
import Derived.Outline
import Derived.Below
import Derived.Lib.SlTrimSet
import Derived.Lib.Bytealg
namespace Go.Proofs.YtfnbmcinbmbehaaGreatDoor
open Go.RowKit

theorem hide {p : Prop} (h : p) : Hid p := h

/-- Nothing that was there has turned. -/
def Nx (w w' : World) : Prop := Below w.heap.size w w'
theorem Nx.refl (w : World) : Nx w w := Below.refl _ _
theorem Nx.trans {a b c : World} (h : Nx a b) (k : Nx b c) : Nx a c := Below.trans h (Below.mono k h.size)
theorem Nx.drew {a w : World} (h : Nx a w) : Nx a w.drew := Below.drew h
theorem Nx.drewN {a w : World} (h : Nx a w) (n : Nat) : Nx a (w.drewN n) := below_drewN h n
theorem Nx.alloc {a w : World} (h : Nx a w) (o : Obj) : Nx a (w.alloc o) := Below.alloc h h.size o
theorem Nx.setCell {a w : World} (h : Nx a w) {p : Addr} (hp : a.heap.size ≤ p.block) (u : Value) : Nx a (w.setCell p u) := Below.setCell h hp u
theorem Nx.sz {a w : World} (h : Nx a w) : a.heap.size ≤ w.heap.size := h.size
theorem Nx.grown {a w w' : World} {row : Option Nat} (h : Nx a w) (hg : w.grownBy w' row) (hr : ∀ k, row = some k → a.heap.size ≤ k) : Nx a w' := Below.grown h hg h.size hr
theorem Nx.gr {a w : World} (h : Nx a w) (row : Option Nat) : a.grownBy w row := ⟨h.os, h.tape, h.output, h.size, fun i hi _ => h.block i hi⟩

/-- Only block s, and what is new, has turned. -/
def Gr (s : Nat) (a w : World) : Prop := a.grownBy w (some s)
theorem Gr.refl (s : Nat) (w : World) : Gr s w w := World.grownBy.refl w _
theorem Gr.of_nx {s : Nat} {a w : World} (h : Nx a w) : Gr s a w := h.gr _
theorem Gr.sz {s : Nat} {a w : World} (h : Gr s a w) : a.heap.size ≤ w.heap.size := World.grownBy.size h
theorem Gr.trans {s : Nat} {a b c : World} (h : Gr s a b) (k : Gr s b c) : Gr s a c :=
  ⟨k.os.trans h.os, k.tape.trans h.tape, k.output.trans h.output, Nat.le_trans h.size k.size, fun i hi hn => (k.block i (Nat.lt_of_lt_of_le hi h.size) hn).trans (h.block i hi hn)⟩
theorem Gr.then_nx {s : Nat} {a b c : World} (h : Gr s a b) (k : Nx b c) : Gr s a c := h.trans (Gr.of_nx k)
theorem Gr.drew {s : Nat} {a w : World} (h : Gr s a w) : Gr s a w.drew := h.then_nx (Nx.refl _).drew
theorem Gr.drewN {s : Nat} {a w : World} (h : Gr s a w) (n : Nat) : Gr s a (w.drewN n) := h.then_nx ((Nx.refl _).drewN n)
theorem Gr.alloc {s : Nat} {a w : World} (h : Gr s a w) (o : Obj) : Gr s a (w.alloc o) := h.then_nx ((Nx.refl _).alloc o)
theorem Gr.setS {s : Nat} {a w : World} (h : Gr s a w) {p : Addr} (hp : p.block = s ∨ a.heap.size ≤ p.block) (u : Value) : Gr s a (w.setCell p u) :=
  ⟨h.os, h.tape, h.output, by have := h.sz; simpa [World.setCell] using this, fun i hi hne => (Below.heap_setCell w p u i (by
    rintro rfl
    rcases hp with hp | hp
    · exact hne (by rw [hp])
    · omega)).trans (h.block i hi hne)⟩
theorem Gr.grown {s : Nat} {a w w' : World} {row : Option Nat} (h : Gr s a w) (hg : w.grownBy w' row) (hr : ∀ k, row = some k → k = s ∨ a.heap.size ≤ k) : Gr s a w' :=
  ⟨hg.os.trans h.os, hg.tape.trans h.tape, hg.output.trans h.output, Nat.le_trans h.size hg.size, fun i hi hne => (hg.block i (Nat.lt_of_lt_of_le hi h.size) (fun e => by
    rcases hr i e.symm with h1 | h1
    · exact hne (by rw [h1])
    · omega)).trans (h.block i hi hne)⟩
theorem Nx.of_gr {s : Nat} {a w : World} (h : Gr s a w) (hs : a.heap.size ≤ s) : Nx a w :=
  ⟨h.os, h.tape, h.output, h.size, fun i hi => h.block i hi (by intro e; injection e with e; omega)⟩

/-- A slice's value with address A reads as xs, each element K cells; its block lies from lo on. -/
def Rd {α : Type} (w : World) (lo : Nat) (A : Option Addr) (K : Nat) (enc : α → List Value) (xs : List α) : Prop :=
  0 < xs.length → ∃ b off, A = some ⟨b, off, none⟩ ∧ lo ≤ b ∧ b < w.heap.size ∧ ∀ i x, xs[i]? = some x → ∀ j u, (enc x)[j]? = some u → w.cell? ⟨b, off + i * K + j, none⟩ = some u
section
variable {α : Type} {w w' : World} {lo lo' K : Nat} {A : Option Addr} {enc : α → List Value} {xs : List α}
theorem Rd.nil : Rd w lo A K enc ([] : List α) := fun h => absurd h (by simp)
theorem Rd.nx (h : Rd w lo A K enc xs) (hn : Nx w w') : Rd w' lo A K enc xs := fun hp => by
  obtain ⟨b, off, e, hl, hb, hc⟩ := h hp
  exact ⟨b, off, e, hl, Nat.lt_of_lt_of_le hb hn.sz, fun i x hx j u hu => (Below.cell hn (p := ⟨b, _, none⟩) hb).trans (hc i x hx j u hu)⟩
theorem Rd.gr {s : Nat} (h : Rd w lo A K enc xs) (hn : Gr s w w') (hs : s < lo) : Rd w' lo A K enc xs := fun hp => by
  obtain ⟨b, off, e, hl, hb, hc⟩ := h hp
  exact ⟨b, off, e, hl, Nat.lt_of_lt_of_le hb hn.sz, fun i x hx j u hu => World.grownBy.cell (row := some s) hn (hc i x hx j u hu) (by simp; omega)⟩
theorem Rd.low (h : Rd w lo A K enc xs) (hl : lo' ≤ lo) : Rd w lo' A K enc xs := fun hp => by
  obtain ⟨b, off, e, h1, hb, hc⟩ := h hp
  exact ⟨b, off, e, Nat.le_trans hl h1, hb, hc⟩
/-- For a loop: the block and all the cells, in the round's world. -/
theorem Rd.open_ (h : Rd w lo A K enc xs) (hn : Nx w w') (hp : 0 < xs.length) : ∃ b off, A = some ⟨b, off, none⟩ ∧ lo ≤ b ∧ b < w.heap.size ∧ b < w'.heap.size ∧ ∀ i (hi : i < xs.length) j u, (enc xs[i])[j]? = some u → w'.cell? ⟨b, off + i * K + j, none⟩ = some u := by
  obtain ⟨b, off, e, hl, hb, hc⟩ := h hp
  exact ⟨b, off, e, hl, hb, Nat.lt_of_lt_of_le hb hn.sz, fun i hi j u hu => (Below.cell hn (p := ⟨b, _, none⟩) hb).trans (hc i _ (List.getElem?_eq_getElem hi) j u hu)⟩
theorem flat_get (hk : ∀ x, (enc x).length = K) (i : Nat) (x : α) (hx : xs[i]? = some x) (j : Nat) (u : Value) (hu : (enc x)[j]? = some u) : (xs.flatMap enc)[i * K + j]? = some u := by
  induction xs generalizing i with
  | nil => simp at hx
  | cons y ys ih =>
    rw [List.flatMap_cons]
    rcases i with _ | i
    · simp at hx; subst hx
      rw [List.getElem?_append_left (by have := (List.getElem?_eq_some_iff.1 hu).1; omega)]
      simpa using hu
    · have hx' : ys[i]? = some x := by simpa using hx
      rw [List.getElem?_append_right (by rw [hk, Nat.add_mul]; omega), hk]
      have e : (i + 1) * K + j - K = i * K + j := by rw [Nat.add_mul]; omega
      rw [e]
      exact ih i hx'
theorem flat_len (hk : ∀ x, (enc x).length = K) : (xs.flatMap enc).length = xs.length * K := by
  induction xs with
  | nil => simp
  | cons y ys ih => rw [List.flatMap_cons, List.length_append, ih, hk, List.length_cons, Nat.add_mul]; omega
/-- A row of the call's own, read. -/
theorem Rd.of_own {base : Nat} {e : TypeId} {v : Value} {n : Nat} (hk : ∀ x, (enc x).length = K) (hn : n = xs.length) (h : w.ownsRow base e K v n (xs.flatMap enc)) :
    ∃ A c, v = .slice A xs.length c ∧ Rd w base A K enc xs ∧ (∀ a, A = some a → ∃ g, a = ⟨g, 0, none⟩ ∧ base ≤ g ∧ g < w.heap.size) := by
  subst hn
  rcases h.2 with ⟨rfl, h0⟩ | ⟨g, cap, cur, rfl, hg, hh, hr⟩
  · have hx : xs = [] := List.eq_nil_of_length_eq_zero h0
    subst hx
    exact ⟨none, 0, rfl, Rd.nil, by simp⟩
  · have hlt := (h.lt g rfl)
    refine ⟨some ⟨g, 0, none⟩, cap, rfl, fun _ => ⟨g, 0, rfl, hlt.1, hlt.2, fun i x hx j u hu => ?_⟩, fun a ha => ⟨g, by injection ha with ha; exact ha.symm, hlt.1, hlt.2⟩⟩
    have hil : i < xs.length := (List.getElem?_eq_some_iff.1 hx).1
    have hjl : j < K := by have := (List.getElem?_eq_some_iff.1 hu).1; rw [hk] at this; exact this
    have h2 := h.cellAt (i * K + j) (by
      have : (i + 1) * K ≤ xs.length * K := Nat.mul_le_mul_right K hil
      rw [Nat.add_mul] at this; omega)
    rw [Nat.zero_add, h2]
    exact flat_get hk i x hx j u hu
end

theorem heap_set {w : World} {s i : Nat} {cs : Array Value} {t : TypeId} {u : Value} (h : w.heap[s]? = some (.cells cs t (0, 0))) : (w.setCell ⟨s, i, none⟩ u).heap[s]? = some (.cells (cs.setIfInBounds i u) t (0, 0)) := by
  simp [World.setCell, Array.getElem?_modify, h]
theorem cell_set {w : World} {s i b o : Nat} {u : Value} (h : b ≠ s) : (w.setCell ⟨s, i, none⟩ u).cell? ⟨b, o, none⟩ = w.cell? ⟨b, o, none⟩ :=
  World.cell?_setCell_other _ _ _ _ (by intro e; injection e with e1 e2; omega)

theorem flipc {P : Program} {f : FuncId} {args : Array Value} {w : World} {v : Value} (h : Calls P f args w (fun e w' => e = .returned v ∧ w = w')) : Calls P f args w (fun e w'' => e = .returned v ∧ w'' = w) :=
  h.mono fun _ _ ⟨a, b⟩ => ⟨a, b.symm⟩
/-- A literal row. -/
theorem Rd.lit {α : Type} {w : World} {lo g K : Nat} {enc : α → List Value} {xs : List α} {cs : Array Value} {t : TypeId} (hg : w.heap[g]? = some (.cells cs t (0, 0))) (hlo : lo ≤ g) (hk : ∀ x, (enc x).length = K) (hcs : cs.toList = xs.flatMap enc) :
    Rd w lo (some ⟨g, 0, none⟩) K enc xs := fun _ => by
  have hlt : g < w.heap.size := by
    rcases Nat.lt_or_ge g w.heap.size with hlt | hge
    · exact hlt
    · rw [Array.getElem?_eq_none hge] at hg; cases hg
  refine ⟨g, 0, rfl, hlo, hlt, fun i x hx j u hu => ?_⟩
  rw [Nat.zero_add, cell_of_row w g _ cs t _ hg, ← Array.getElem?_toList, hcs]
  exact flat_get hk i x hx j u hu

theorem hnew {w : World} {o : Obj} {g : Nat} (hg : g = w.heap.size) : (w.alloc o).heap[g]? = some o := by subst hg; exact heap_alloc_new w o
theorem hnew_drew {w : World} {o : Obj} {g : Nat} (hg : g = w.heap.size) : (w.alloc o).drew.heap[g]? = some o := hnew hg
theorem hnew_drewN {w : World} {o : Obj} {g n : Nat} (hg : g = w.heap.size) : ((w.alloc o).drewN n).heap[g]? = some o := hnew hg

/-- t is a slice type over e, whose values take K cells and so many bytes. -/
structure ElemOf (P : Program) (t e : TypeId) (K bytes : Nat) : Prop where
  ht : P.underlying t = some (.slice e)
  hi : ∃ i z, P.info? e = some i ∧ i.zero = some z ∧ i.size = K ∧ i.bytes = bytes ∧ z.cells.size = K
theorem ElemOf.mk' {P : Program} {t e : TypeId} {K bytes : Nat} {z : Value} (ht : P.underlying t = some (.slice e)) (h : (P.info? e).map (fun i => (i.zero, i.size, i.bytes)) = some (some z, K, bytes)) (hz : z.cells.size = K) : ElemOf P t e K bytes := by
  obtain ⟨i, h1, h2, h3, h4⟩ := info_parts h
  exact ⟨ht, i, z, h1, h2, h3, h4, hz⟩
theorem news_of {w : World} {g : Nat} {cs : Array Value} {e : TypeId} (h : w.heap[g]? = some (.cells cs e (0, 0))) {l : List Value} (hl : cs.toList = l) : ∀ j u, l[j]? = some u → w.cell? ((⟨g, 0, none⟩ : Addr).add j) = some u := by
  intro j u hu
  have e1 : (⟨g, 0, none⟩ : Addr).add j = ⟨g, j, none⟩ := by unfold Addr.add; split <;> simp_all
  rw [e1, cell_of_row w g j cs e _ h, ← Array.getElem?_toList, hl]
  exact hu
/-- 'out = append(out, y)' on a row of the call's own. -/
theorem wpApp {α : Type} {P : Program} {w : World} {ops : Array Oper} {rest : List Oper} {o : Oper} {a : Act} {Q : Exit → Act → World → Prop} (hgd : o.guard = none) (s x : Operand) (t : TypeId)
    (ho : o.op = .call { callee := .builtin .append, args := #[s, x], argTypes := #[t, t] })
    {e : TypeId} {K bytes : Nat} (E : ElemOf P t e K bytes) (enc : α → List Value) (hk : ∀ x, (enc x).length = K) (h1c : ∀ x, ∀ v ∈ enc x, v.oneCell' = true) (hK : 0 < K) (hB : bytes ≤ 1000)
    (base : Nat) (v : Value) (L : List α) (hs : a.eval s = v) (hown : w.ownsRow base e K v L.length (L.flatMap enc)) (g : Nat) (y : α) (cs : Array Value) (hx : a.eval x = .slice (some ⟨g, 0, none⟩) 1 1)
    (hblk : w.heap[g]? = some (.cells cs e (0, 0))) (hcs : cs.toList = enc y) (hlen : L.length ≤ 10000000) (hbase : base ≤ w.heap.size)
    (h : ∀ v' w', w'.ownsRow base e K v' (L ++ [y]).length ((L ++ [y]).flatMap enc) → w.grownBy w' v.ownBlock → wpList P ops Q rest (a.put o.dst v') w') : wpList P ops Q (o :: rest) a w := by
  obtain ⟨i, z, h1, h2, h3, h4, h5⟩ := E.hi
  refine wpList_append_own w hgd s x t ho base e i z K bytes E.ht h1 h2 h3 h4 h5 hK v L.length _ hs hown ⟨g, 0, none⟩ 1 1 (enc y) hx (by rw [hk]; omega) (news_of hblk hcs) (h1c y) (by unfold maxLen; omega) ?_ hbase ?_
  · have : (L.length + 1) * bytes ≤ 10000001 * 1000 := Nat.mul_le_mul (by omega) hB
    omega
  · intro v' w' ho' hg' _
    exact h v' w' (by simpa using ho') hg'
theorem own_blk_lt {w : World} {base : Nat} {e : TypeId} {size : Nat} {v : Value} {n : Nat} {xs : List Value} (h : w.ownsRow base e size v n xs) : ∀ k, v.ownBlock = some k → base ≤ k := fun k hk => (h.lt k hk).1
theorem own_nx {w w' : World} {base : Nat} {e : TypeId} {size : Nat} {v : Value} {n : Nat} {xs : List Value} (h : w.ownsRow base e size v n xs) (hn : Nx w w') : w'.ownsRow base e size v n xs :=
  h.kept (hn.gr none) (by cases hv : v.ownBlock <;> simp)
theorem own_gr {w w' : World} {s base : Nat} {e : TypeId} {size : Nat} {v : Value} {n : Nat} {xs : List Value} (h : w.ownsRow base e size v n xs) (hn : w.grownBy w' (some s)) (hs : s < base) : w'.ownsRow base e size v n xs :=
  h.kept hn (.inr fun e => by have := own_blk_lt h s e; omega)

theorem flat_set {α : Type} {enc : α → List Value} {K : Nat} (hk : ∀ x, (enc x).length = K) : ∀ (xs : List α) (i : Nat) (hi : i < xs.length) (x' : α) (j : Nat) (_ : j < K) (u : Value), enc x' = (enc xs[i]).set j u → (xs.flatMap enc).set (i * K + j) u = (xs.set i x').flatMap enc
  | y :: ys, 0, hi, x', j, hj, u, h => by
    rw [List.set_cons_zero, List.flatMap_cons, List.flatMap_cons, Nat.zero_mul, Nat.zero_add, List.set_append_left _ _ (by rw [hk]; exact hj), h]; rfl
  | y :: ys, i + 1, hi, x', j, hj, u, h => by
    rw [List.set_cons_succ, List.flatMap_cons, List.flatMap_cons, List.set_append_right _ _ (by rw [hk, Nat.add_mul]; omega), hk, show (i + 1) * K + j - K = i * K + j by rw [Nat.add_mul]; omega]
    rw [flat_set hk ys i (by simpa using hi) x' j hj u (by simpa using h)]
/-- A field of a row's element is stored. -/
theorem own_set {α : Type} {enc : α → List Value} {K : Nat} (hk : ∀ x, (enc x).length = K) {w : World} {base g cap n : Nat} {e : TypeId} {xs : List α} (hn : xs.length = n) (h : w.ownsRow base e K (.slice (some ⟨g, 0, none⟩) n cap) n (xs.flatMap enc))
    (i : Nat) (hi : i < xs.length) (j : Nat) (hj : j < K) (u : Value) (x' : α) (hx : enc x' = (enc xs[i]).set j u) (off : Nat) (ho : off = i * K + j) :
    (w.setCell ⟨g, off, none⟩ u).ownsRow base e K (.slice (some ⟨g, 0, none⟩) n cap) n ((xs.set i x').flatMap enc) := by
  subst ho hn
  rw [← flat_set hk xs i hi x' j hj u hx]
  exact (h.stored (i * K + j) u).1
/-- A field of a row's element, read. -/
theorem own_cell {α : Type} {enc : α → List Value} {K : Nat} (hk : ∀ x, (enc x).length = K) {w : World} {base g cap n : Nat} {e : TypeId} {xs : List α} (hn : xs.length = n) (h : w.ownsRow base e K (.slice (some ⟨g, 0, none⟩) n cap) n (xs.flatMap enc))
    (i : Nat) (hi : i < xs.length) (j : Nat) (u : Value) (hu : (enc xs[i])[j]? = some u) : w.cell? ⟨g, i * K + j, none⟩ = some u := by
  subst hn
  have hj : j < K := by have := (List.getElem?_eq_some_iff.1 hu).1; rw [hk] at this; exact this
  rw [h.cellAt (i * K + j) (by
      have : (i + 1) * K ≤ xs.length * K := Nat.mul_le_mul_right K hi
      rw [Nat.add_mul] at this; omega)]
  exact flat_get hk i _ (List.getElem?_eq_getElem hi) j u hu
end Go.Proofs.YtfnbmcinbmbehaaGreatDoor
/- Plain functions: what the smallest functions of numbers compute. -/
namespace Go.Proofs.YtfnbmcinbmbehaaGreatDoor

def outB (n l h : Int) : Bool := decide (n < l) || decide (h < n)
def inB (n l h : Int) : Bool := decide (l ≤ n) && decide (n ≤ h)
theorem inB_out (n l h : Int) : inB n l h = !outB n l h := by
  unfold inB outB
  by_cases h1 : n < l <;> by_cases h2 : h < n <;> simp [h1, h2] <;> (try omega)
theorem outB_false {n l h : Int} : outB n l h = false ↔ l ≤ n ∧ n ≤ h := by unfold outB; simp
theorem outB_true {n l h : Int} : outB n l h = true ↔ n < l ∨ h < n := by unfold outB; simp

/-- The last moment. -/
def lastMo : Int := 345686399999
def momB (n : Int) : Bool := !outB n 0 lastMo
theorem momB_true {n : Int} : momB n = true ↔ 0 ≤ n ∧ n ≤ 345686399999 := by unfold momB lastMo; simp [outB_false]
def isPtB (x y : Int) : Bool := !outB x (-10000) 10000 && !outB y (-10000) 10000
theorem isPtB_true {x y : Int} : isPtB x y = true ↔ (-10000 ≤ x ∧ x ≤ 10000) ∧ (-10000 ≤ y ∧ y ≤ 10000) := by unfold isPtB; simp [outB_false]
def argF (b : Bool) : Int := if b then 0 else 1
def ptF (x y : Int) : Int := argF (isPtB x y)
def momF (n : Int) : Int := argF (momB n)
def sizeF (n : Int) : Int := argF (!outB n 1 10000)
def zoneF (n : Int) : Int := argF (!outB n (-1440) 1440)
def hourF (n : Int) : Int := argF (!outB n 0 167)
theorem argF_or (b : Bool) : argF b = 0 ∨ argF b = 1 := by cases b <;> simp [argF]

/-- The first that is not 0. -/
def orI : List Int → Int
  | [] => 0
  | z :: zs => if z = 0 then orI zs else z

/-- cmp.Compare. -/
def cmpI (a b : Int) : Int := if a < b then -1 else if b < a then 1 else 0

theorem tdiv_bd (a b : Int) (hb : 1 ≤ b) : -(if a < 0 then -a else a) ≤ a.tdiv b ∧ a.tdiv b ≤ (if a < 0 then -a else a) := by
  rcases Int.le_total 0 a with h | h
  · rw [Int.tdiv_eq_ediv_of_nonneg h]
    have h1 := Int.ediv_nonneg h (show 0 ≤ b by omega)
    have h2 := Int.ediv_le_self b h
    split <;> omega
  · have e : a.tdiv b = -((-a) / b) := by
      rw [← Int.tdiv_eq_ediv_of_nonneg (by omega), Int.neg_tdiv]; omega
    have h1 := Int.ediv_nonneg (a := -a) (by omega) (show 0 ≤ b by omega)
    have h2 := Int.ediv_le_self b (show 0 ≤ -a by omega)
    rw [e]
    split <;> omega
theorem floor_pos (a b : Int) (hb : 1 ≤ b) (h : ¬ a.tmod b < 0) : a.tdiv b = a / b := by
  have h1 := Int.mul_tdiv_add_tmod a b
  have h2 := Int.tmod_lt_of_pos a (show 0 < b by omega)
  exact ((Int.ediv_emod_unique (a := a) (b := b) (r := a.tmod b) (q := a.tdiv b) (by omega)).2 ⟨by omega, by omega, h2⟩).1.symm
theorem floor_neg (a b : Int) (hb : 1 ≤ b) (h : a.tmod b < 0) : a.tdiv b - 1 = a / b := by
  have h1 := Int.mul_tdiv_add_tmod a b
  have h2 := Int.lt_tmod_of_pos a (b := b) (by omega)
  exact ((Int.ediv_emod_unique (a := a) (b := b) (r := a.tmod b + b) (q := a.tdiv b - 1) (by omega)).2 ⟨by rw [Int.mul_sub]; omega, by omega, by omega⟩).1.symm

/-- The hour of the week. -/
def hourI (at_ zone : Int) : Int := (at_ + zone * 60000) % 604800000 / 3600000

/-- What stands ahead of place k. -/
def prevOf {α : Type} (l : List α) (k : Nat) : Option α := if k = 0 then none else l[k - 1]?
/-- A check over a list: the first fault; each element is held against the one ahead of it. -/
def chk {α : Type} (f : Option α → α → Int) : Option α → List α → Int
  | _, [] => 0
  | p, c :: cs => if f p c = 0 then chk f (some c) cs else f p c
theorem chk_drop {α : Type} (f : Option α → α → Int) (l : List α) (k : Nat) (hk : k < l.length) :
    chk f (prevOf l k) (l.drop k) = if f (prevOf l k) l[k] = 0 then chk f (prevOf l (k + 1)) (l.drop (k + 1)) else f (prevOf l k) l[k] := by
  rw [List.drop_eq_getElem_cons hk, chk]
  have e : prevOf l (k + 1) = some l[k] := by unfold prevOf; simp [List.getElem?_eq_getElem hk]
  rw [e]
theorem prevOf_zero {α : Type} (l : List α) : prevOf l 0 = none := rfl
theorem prevOf_pos {α : Type} (l : List α) (k : Nat) (h : 0 < k) (hk : k ≤ l.length) : prevOf l k = some (l[k - 1]'(by omega)) := by
  unfold prevOf; rw [if_neg (by omega), List.getElem?_eq_getElem]

structure Cell where
  x : Int
  y : Int
deriving DecidableEq, Inhabited
structure Call where
  at_ : Int
  x : Int
  y : Int
deriving DecidableEq, Inhabited
structure Tally where
  x : Int
  y : Int
  hour : Int
  many : Int
deriving DecidableEq, Inhabited

def callF (p : Option Call) (c : Call) : Int :=
  if momB c.at_ && isPtB c.x c.y then (match p with | some q => if c.at_ < q.at_ then 7 else 0 | none => 0) else 1
/-- demand.CheckCalls. -/
def callsF (l : List Call) : Int := if 3000 < l.length then 2 else chk callF none l

/-- The order of cells; of tallies. -/
def cellC (a b : Cell) : Int := orI [cmpI a.x b.x, cmpI a.y b.y]
def tallyC (a b : Tally) : Int := orI [cellC ⟨a.x, a.y⟩ ⟨b.x, b.y⟩, cmpI a.hour b.hour]

/-- A cell in an hour. -/
structure Spot where
  x : Int
  y : Int
  h : Int
deriving DecidableEq, Inhabited
def keyT (t : Tally) : Spot := ⟨t.x, t.y, t.hour⟩
/-- Tallies sorted, each key once, that tell f where it is above 0. -/
structure Listed (f : Spot → Int) (l : List Tally) : Prop where
  sorted : l.Pairwise fun a b => tallyC a b < 0
  mem : ∀ t, t ∈ l ↔ f (keyT t) = t.many ∧ 0 < t.many
theorem cmpI_self (a : Int) : cmpI a a = 0 := by unfold cmpI; simp
theorem orI_two (a b : Int) : orI [a, b] = if a = 0 then b else a := by
  unfold orI orI orI
  by_cases h1 : a = 0 <;> by_cases h2 : b = 0 <;> simp [h1, h2]
theorem cmpI_neg {a b : Int} : cmpI a b < 0 ↔ a < b := by unfold cmpI; split <;> (try split) <;> omega
theorem cmpI_zero {a b : Int} : cmpI a b = 0 ↔ a = b := by unfold cmpI; split <;> (try split) <;> omega
theorem cmpI_pos {a b : Int} : 0 < cmpI a b ↔ b < a := by unfold cmpI; split <;> (try split) <;> omega
theorem cellC_neg {a b : Cell} : cellC a b < 0 ↔ a.x < b.x ∨ (a.x = b.x ∧ a.y < b.y) := by
  unfold cellC; rw [orI_two]
  have h1 := @cmpI_zero a.x b.x
  have h2 := @cmpI_neg a.x b.x
  have h3 := @cmpI_neg a.y b.y
  split <;> omega
theorem cellC_zero {a b : Cell} : cellC a b = 0 ↔ a.x = b.x ∧ a.y = b.y := by
  unfold cellC; rw [orI_two]
  have h1 := @cmpI_zero a.x b.x
  have h3 := @cmpI_zero a.y b.y
  split <;> omega
theorem tallyC_neg {a b : Tally} : tallyC a b < 0 ↔ a.x < b.x ∨ (a.x = b.x ∧ (a.y < b.y ∨ (a.y = b.y ∧ a.hour < b.hour))) := by
  unfold tallyC; rw [orI_two]
  have h1 := @cellC_zero ⟨a.x, a.y⟩ ⟨b.x, b.y⟩
  have h2 := @cellC_neg ⟨a.x, a.y⟩ ⟨b.x, b.y⟩
  have h3 := @cmpI_neg a.hour b.hour
  simp only at h1 h2
  split <;> omega
theorem tallyC_zero {a b : Tally} : tallyC a b = 0 ↔ keyT a = keyT b := by
  unfold tallyC keyT; rw [orI_two]
  have h1 := @cellC_zero ⟨a.x, a.y⟩ ⟨b.x, b.y⟩
  have h3 := @cmpI_zero a.hour b.hour
  simp only at h1
  simp only [Spot.mk.injEq]
  split <;> omega
theorem listed_unique {f : Spot → Int} {l m : List Tally} (hl : Listed f l) (hm : Listed f m) : l = m := by
  have hmem : ∀ t, t ∈ l ↔ t ∈ m := fun t => (hl.mem t).trans (hm.mem t).symm
  have nd : ∀ k : List Tally, (k.Pairwise fun a b => tallyC a b < 0) → k.Nodup := fun k hk => hk.imp (fun {a b} h e => by subst e; have := (@tallyC_zero a a).2 rfl; omega)
  have hp : l.Perm m := (List.perm_ext_iff_of_nodup (nd l hl.sorted) (nd m hm.sorted)).2 hmem
  exact List.Perm.eq_of_pairwise (le := fun a b => tallyC a b < 0) (fun a b _ _ h1 h2 => by
    have e1 := @tallyC_neg a b
    have e2 := @tallyC_neg b a
    omega) hl.sorted hm.sorted hp

/-- The cell and the hour of a call; how many calls there were in one. -/
def spotOf (size zone : Int) (c : Call) : Spot := ⟨c.x / size, c.y / size, hourI c.at_ zone⟩
def cntF (size zone : Int) (l : List Call) (k : Spot) : Int := (l.countP (fun c => spotOf size zone c = k) : Nat)
theorem cntF_step (size zone : Int) (l : List Call) (k : Nat) (hk : k < l.length) (s : Spot) (hs : s = spotOf size zone l[k]) :
    cntF size zone (l.take (k + 1)) = fun k' => if k' = s then cntF size zone (l.take k) s + 1 else cntF size zone (l.take k) k' := by
  funext k'
  unfold cntF
  rw [List.take_succ_eq_append_getElem hk, List.countP_append, List.countP_cons, List.countP_nil]
  subst hs
  by_cases e : k' = spotOf size zone l[k]
  · subst e; simp
  · rw [if_neg e]
    have : ¬ spotOf size zone l[k] = k' := fun h => e h.symm
    simp [this]
theorem cntF_ge (size zone : Int) (l : List Call) (k : Spot) : 0 ≤ cntF size zone l k := by unfold cntF; omega
theorem cntF_le (size zone : Int) (l : List Call) (k : Spot) : cntF size zone l k ≤ l.length := by
  unfold cntF
  have := List.countP_le_length (p := fun c => decide (spotOf size zone c = k)) (l := l)
  omega
theorem cntF_pos {size zone : Int} {l : List Call} {k : Spot} (h : 0 < cntF size zone l k) : ∃ c ∈ l, spotOf size zone c = k := by
  unfold cntF at h
  have h1 : 0 < l.countP (fun c => decide (spotOf size zone c = k)) := by omega
  obtain ⟨c, hc, h2⟩ := List.countP_pos_iff.1 h1
  exact ⟨c, hc, by simpa using h2⟩
/-- All calls are on the map and at moments. -/
def okCall (c : Call) : Prop := (0 ≤ c.at_ ∧ c.at_ ≤ 345686399999) ∧ (-10000 ≤ c.x ∧ c.x ≤ 10000) ∧ (-10000 ≤ c.y ∧ c.y ≤ 10000)
theorem chk_ok : ∀ (l : List Call) (p : Option Call), chk callF p l = 0 → ∀ c ∈ l, okCall c
  | [], _, _, c, hc => by cases hc
  | d :: l, p, h, c, hc => by
    unfold chk at h
    split at h
    · rename_i h0
      rcases List.mem_cons.1 hc with rfl | hc
      · unfold callF at h0
        cases h1 : momB c.at_
        · rw [h1] at h0; simp at h0
        · cases h2 : isPtB c.x c.y
          · rw [h1, h2] at h0; simp at h0
          · exact ⟨momB_true.1 h1, isPtB_true.1 h2⟩
      · exact chk_ok l _ h c hc
    · exact absurd h (by assumption)
theorem callsF_ok {l : List Call} (h : callsF l = 0) : ∀ c ∈ l, okCall c := by
  unfold callsF at h
  split at h
  · cases h
  · exact chk_ok l none h
theorem div_bd {x size : Int} (h : 1 ≤ size) (hx : -10000 ≤ x ∧ x ≤ 10000) : -10000 ≤ x / size ∧ x / size ≤ 10000 :=
  ⟨Int.le_ediv_of_mul_le (by omega) (by omega), Int.ediv_le_of_le_mul (by omega) (by omega)⟩
theorem hourI_bd (at_ zone : Int) : 0 ≤ hourI at_ zone ∧ hourI at_ zone ≤ 167 := by
  unfold hourI
  have q1 := Int.emod_nonneg (at_ + zone * 60000) (b := 604800000) (by omega)
  have q2 := Int.emod_lt_of_pos (at_ + zone * 60000) (b := 604800000) (by omega)
  omega

/-- Right arguments of CellOf; what it gives. -/
def cellV (x y size : Int) : Bool := isPtB x y && !outB size 1 10000
def cellX (v : Bool) (x size : Int) : Int := if v then x / size else 0
theorem or_cell (x y size : Int) : orI [ptF x y, sizeF size] = argF (cellV x y size) := by
  unfold cellV ptF sizeF; rw [orI_two]
  cases isPtB x y <;> cases outB size 1 10000 <;> simp [argF]
def hourV (at_ zone : Int) : Bool := momB at_ && !outB zone (-1440) 1440
theorem or_hour (at_ zone : Int) : orI [momF at_, zoneF zone] = argF (hourV at_ zone) := by
  unfold hourV momF zoneF; rw [orI_two]
  cases momB at_ <;> cases outB zone (-1440) 1440 <;> simp [argF]

theorem argF_ne (b : Bool) : (argF b != 0) = !b := by cases b <;> rfl
theorem argF_eq (b : Bool) : (argF b == 0) = b := by cases b <;> rfl
end Go.Proofs.YtfnbmcinbmbehaaGreatDoor
/- The walks of the smallest functions of numbers: those that all packages use. -/
namespace Go.Proofs.YtfnbmcinbmbehaaGreatDoor
open Go.RowKit

theorem ret_bool {a b : Bool} (h : a = b) : Ending.returned (.bool a) = .returned (.bool b) := by rw [h]
theorem ret_int {k : IntKind} {a b : Int} (h : a = b) : Ending.returned (.int k a) = .returned (.int k b) := by rw [h]

theorem w_Out (n l h : Int) (w : World) : Calls Tryz.prog 22 #[.int .i64 n, .int .i64 l, .int .i64 h] w fun e w' => e = .returned (.bool (outB n l h)) ∧ w = w' := by
  by_cases h1 : n < l <;> by_cases h2 : h < n
  all_goals
    go_enter Tryz.func22, Tryz.ntmps22
    go_wp2
    go_ret
    exact ⟨ret_bool (by unfold outB; simp; omega), rfl⟩

theorem w_in (n l h : Int) (w : World) : Calls Tryz.prog 21 #[.int .i64 n, .int .i64 l, .int .i64 h] w fun e w' => e = .returned (.bool (inB n l h)) ∧ w = w' := by
  by_cases h1 : l ≤ n <;> by_cases h2 : n ≤ h
  all_goals
    go_enter Tryz.func21, Tryz.ntmps21
    go_wp2
    go_ret
    exact ⟨ret_bool (by unfold inB; simp; omega), rfl⟩

end Go.Proofs.YtfnbmcinbmbehaaGreatDoor
/- cmp.Or of errors. -/
namespace Go.Proofs.YtfnbmcinbmbehaaGreatDoor
open Go.RowKit

def encI (n : Int) : List Value := [.int .i64 n]
theorem orI_drop (zs : List Int) (k : Nat) (hk : k < zs.length) : orI (zs.drop k) = if zs[k] = 0 then orI (zs.drop (k + 1)) else zs[k] := by
  rw [List.drop_eq_getElem_cons hk]; rfl
end Go.Proofs.YtfnbmcinbmbehaaGreatDoor
/- The stream's object and its smallest methods. -/
namespace Go.Proofs.YtfnbmcinbmbehaaGreatDoor
open Go.RowKit

/-- Block s is a stream whose counter is at most k; its numbers lie below s. -/
def Str (w : World) (s k : Nat) : Prop :=
  ∃ (A : Option Addr) (n c i : Nat), i ≤ k ∧ n ≤ 9223372036854775807 ∧ w.heap[s]? = some (.cells #[.slice A n c, .int .i64 (i : Int)] 25 (0, 0)) ∧
    (0 < n → ∃ b off, A = some ⟨b, off, none⟩ ∧ b < s ∧ ∀ j, j < n → ∃ z : Int, w.cell? ⟨b, off + j, none⟩ = some (.int .i64 z) ∧ -9223372036854775808 ≤ z ∧ z ≤ 9223372036854775807)

theorem Str.lt {w : World} {s k : Nat} (h : Str w s k) : s < w.heap.size := by
  obtain ⟨A, n, c, i, _, _, hh, _⟩ := h
  rcases Nat.lt_or_ge s w.heap.size with hlt | hge
  · exact hlt
  · rw [Array.getElem?_eq_none hge] at hh; cases hh
theorem Str.more {w : World} {s k k' : Nat} (h : Str w s k) (hk : k ≤ k') : Str w s k' := by
  obtain ⟨A, n, c, i, hi, r⟩ := h
  exact ⟨A, n, c, i, Nat.le_trans hi hk, r⟩
theorem Str.nx {w w' : World} {s k : Nat} (h : Str w s k) (hn : Nx w w') : Str w' s k := by
  have hlt := h.lt
  obtain ⟨A, n, c, i, hi, hn2, hh, hc⟩ := h
  refine ⟨A, n, c, i, hi, hn2, (hn.block s hlt).trans hh, fun hp => ?_⟩
  obtain ⟨b, off, e, hb, hz⟩ := hc hp
  refine ⟨b, off, e, hb, fun j hj => ?_⟩
  obtain ⟨z, hz1, hz2⟩ := hz j hj
  exact ⟨z, (Below.cell hn (p := ⟨b, _, none⟩) (by show b < _; omega)).trans hz1, hz2⟩

theorem Str.step {w : World} {s k' m c i : Nat} {A : Option Addr} (hh : w.heap[s]? = some (.cells #[.slice A m c, .int .i64 (i : Int)] 25 (0, 0))) (hi : i < k') (hm : m ≤ 9223372036854775807)
    (hc : 0 < m → ∃ b off, A = some ⟨b, off, none⟩ ∧ b < s ∧ ∀ j, j < m → ∃ z : Int, w.cell? ⟨b, off + j, none⟩ = some (.int .i64 z) ∧ -9223372036854775808 ≤ z ∧ z ≤ 9223372036854775807) :
    Str (w.setCell ⟨s, 1, none⟩ (.int .i64 ((i : Int) + 1))) s k' := by
  refine ⟨A, m, c, i + 1, by omega, hm, heap_set hh, fun hp => ?_⟩
  obtain ⟨b, off, e, hb, hz⟩ := hc hp
  refine ⟨b, off, e, hb, fun j hj => ?_⟩
  obtain ⟨z, h1, h2⟩ := hz j hj
  exact ⟨z, by rw [cell_set (by omega)]; exact h1, h2⟩
theorem Str.drewN {w : World} {s k : Nat} (h : Str w s k) (n : Nat) : Str (w.drewN n) s k := h.nx ((Nx.refl w).drewN n)

/-- A row above the stream has been written. -/
theorem Str.row {w w' : World} {s k : Nat} {row : Option Nat} (h : Str w s k) (hg : w.grownBy w' row) (hr : ∀ j, row = some j → s < j) : Str w' s k := by
  have hlt := h.lt
  obtain ⟨A, n, c, i, hi, hn2, hh, hc⟩ := h
  refine ⟨A, n, c, i, hi, hn2, (hg.block s hlt (fun e => by have := hr s e.symm; omega)).trans hh, fun hp => ?_⟩
  obtain ⟨b, off, e, hb, hz⟩ := hc hp
  refine ⟨b, off, e, hb, fun j hj => ?_⟩
  obtain ⟨z, hz1, hz2⟩ := hz j hj
  exact ⟨z, hg.cell hz1 (fun e => by have := hr b e.symm; omega), hz2⟩

/-- A number from 0 to n - 1 (0 where n is less than 1). -/
def Lt0 (n : Int) (w : World) (e : Ending) (w' : World) : Prop := ∃ r : Int, 0 ≤ r ∧ (r < n ∨ r = 0) ∧ e = .returned (.int .i64 r) ∧ w = w'

set_option maxHeartbeats 400000 in
theorem w_Below (x n : Int) (w : World) (hn : n ≤ 4294967296) :
    Calls Tryz.prog 39 #[.int .i64 x, .int .i64 n] w (Lt0 n w) := by
  by_cases h1 : n < 1
  · go_enter Tryz.func39, Tryz.ntmps39
    go_wp2
    go_ret
    exact ⟨0, by omega, .inr rfl, rfl, rfl⟩
  · have b1 : x.tmod n < n := Int.tmod_lt_of_pos x (by omega)
    have b2 : -n < x.tmod n := by have := Int.lt_tmod_of_pos x (b := n) (by omega); omega
    by_cases h2 : x.tmod n < 0
    · go_enter Tryz.func39, Tryz.ntmps39
      go_wp2
      go_ret
      exact ⟨_, by omega, .inl (by omega), rfl, rfl⟩
    · go_enter Tryz.func39, Tryz.ntmps39
      go_wp2
      go_ret
      exact ⟨_, by omega, .inl (by omega), rfl, rfl⟩

/-- The stream's methods: a number from low to high; the stream goes on by m. -/
def StrInt (low high : Int) (s k : Nat) (w : World) (e : Ending) (w' : World) : Prop :=
  ∃ r : Int, low ≤ r ∧ r ≤ high ∧ e = .returned (.int .i64 r) ∧ Gr s w w' ∧ Str w' s k

set_option maxHeartbeats 1000000 in
theorem w_Next (n : Int) (s k : Nat) (w : World) (hS : Str w s k) (hk : k < 1000000) (hn : 1 ≤ n ∧ n ≤ 4294967296) :
    Calls Tryz.prog 15 #[.pointer (some ⟨s, 0, none⟩), .int .i64 n] w (StrInt 0 (n - 1) s (k + 1) w) := by
  obtain ⟨A, m, c, i, hi, hm, hh, hc⟩ := hS
  have c0 : w.cell? ⟨s, 0, none⟩ = some (.slice A m c) := cell_of_row w s 0 _ _ _ hh
  have c1 : w.cell? ⟨s, 1, none⟩ = some (.int .i64 (i : Int)) := cell_of_row w s 1 _ _ _ hh
  have f1 : w.frozen? ⟨s, 1, none⟩ = false := by simp [World.frozen?, hh]
  have HH := hide hh
  have HC := hide hc
  clear hc hh
  by_cases hm0 : m = 0
  · subst hm0
    go_enter Tryz.func15, Tryz.ntmps15
    go_wp2_with (go_at_call 39; refine (w_Below _ _ _ (by omega)).mono ?_; rintro e w' ⟨r, hr1, hr2, rfl, rfl⟩)
    go_ret
    exact ⟨r, hr1, by omega, rfl, (Gr.refl _ _).setS (.inl rfl) _, Str.step HH.out (by omega) (by omega) HC.out⟩
  · have hmp : 0 < m := by omega
    obtain ⟨b, off, rfl, hb, hz⟩ := HC.out hmp
    obtain ⟨z, hz1, hz2, hz3⟩ := hz (i % m) (Nat.mod_lt _ hmp)
    clear hz
    go_enter Tryz.func15, Tryz.ntmps15
    have hst : (w.setCell ⟨s, 1, none⟩ (.int .i64 ((i : Int) + 1))).cell? ⟨b, off + i % m, none⟩ = some (.int .i64 z) := by
      rw [World.cell?_setCell_other _ _ _ _ (by intro h; injection h with h1 h2; omega)]; exact hz1
    have t1 : ((i : Int)).tmod (m : Int) = (i : Int) % (m : Int) := Int.tmod_eq_emod_of_nonneg (by omega)
    have t2 : ((i : Int)).tdiv (m : Int) = (i : Int) / (m : Int) := Int.tdiv_eq_ediv_of_nonneg (by omega)
    have t3 : IntKind.i64.wrap ((i : Int)) = (i : Int) := IntWalk.i64_in _ (by omega)
    have t4 : i % m < m := Nat.mod_lt _ hmp
    go_wp2_with fail
    go_quiet (fail)
    go_wp2_with fail
    go_quiet (fail)
    go_wp2_with fail
    refine (w_Below _ _ _ (by omega)).mono ?_
    rintro e w' ⟨r, hr1, hr2, rfl, rfl⟩
    go_wp2_with fail
    refine (w_Below _ _ _ (by omega)).mono ?_
    rintro e w' ⟨r', hr1', hr2', rfl, rfl⟩
    go_wp2_with fail
    go_ret
    exact ⟨r', hr1', by omega, rfl, ((Gr.refl _ _).setS (.inl rfl) _).drewN _, (Str.step HH.out (by omega) (by omega) HC.out).drewN _⟩

set_option maxHeartbeats 400000 in
theorem w_Range (l h : Int) (s k : Nat) (w : World) (hS : Str w s k) (hk : k < 1000000) (hl : -4294967296 ≤ l ∧ l ≤ h ∧ h < 4294967296) (hn : h - l < 4294967296) :
    Calls Tryz.prog 16 #[.pointer (some ⟨s, 0, none⟩), .int .i64 l, .int .i64 h] w (StrInt l h s (k + 1) w) := by
  go_enter Tryz.func16, Tryz.ntmps16
  go_wp2_with (go_at_call 15; refine (w_Next _ _ _ _ hS hk (by omega)).mono ?_; rintro e w' ⟨r, hr1, hr2, rfl, hg, hS'⟩)
  go_ret
  exact ⟨_, by omega, by omega, rfl, hg, hS'⟩

/-- A stream's method that answers a bool. -/
def StrBool (s k : Nat) (w : World) (e : Ending) (w' : World) : Prop :=
  ∃ r : Bool, e = .returned (.bool r) ∧ Gr s w w' ∧ Str w' s k

set_option maxHeartbeats 400000 in
theorem w_Flip (n : Int) (s k : Nat) (w : World) (hS : Str w s k) (hk : k < 1000000) (hn : 1 ≤ n ∧ n ≤ 4294967296) :
    Calls Tryz.prog 17 #[.pointer (some ⟨s, 0, none⟩), .int .i64 n] w (StrBool s (k + 1) w) := by
  go_enter Tryz.func17, Tryz.ntmps17
  go_wp2_with (go_at_call 15; refine (w_Next _ _ _ _ hS hk hn).mono ?_; rintro e w' ⟨r, hr1, hr2, rfl, hg, hS'⟩)
  go_ret
  exact ⟨_, rfl, hg, hS'⟩

/-- A stream's method that answers one of some values. -/
def StrOf (cs : List Value) (s k : Nat) (w : World) (e : Ending) (w' : World) : Prop :=
  ∃ v, v ∈ cs ∧ e = .returned v ∧ Gr s w w' ∧ Str w' s k

set_option maxHeartbeats 400000 in
theorem w_Pick (g m : Nat) (cs : Array Value) (s k : Nat) (w : World) (hS : Str w s k) (hk : k < 1000000) (hg : w.heap[g]? = some (.cells cs 3 (0, 0))) (hne : g ≠ s) (hm : cs.size = m) (h0 : 0 < m) (h1 : m < 1000) :
    Calls Tryz.prog 4 #[.pointer (some ⟨s, 0, none⟩), .slice (some ⟨g, 0, none⟩) m m] w (StrOf cs.toList s (k + 1) w) := by
  go_enter Tryz.func4, Tryz.ntmps4
  go_wp2_with (go_at_call 15; refine (w_Next _ _ _ _ hS hk (by omega)).mono ?_; rintro e w' ⟨r, hr1, hr2, rfl, hgr, hS'⟩; (obtain ⟨q, rfl⟩ := Int.eq_ofNat_of_zero_le hr1); (have hcell : w'.cell? ⟨g, q, none⟩ = some (cs[q]'(by omega)) := World.grownBy.cell hgr ((cell_of_row w g q _ _ _ hg).trans (Array.getElem?_eq_getElem (by omega))) (by simp; omega)))
  go_ret
  exact ⟨_, Array.getElem_mem_toList _, rfl, hgr, hS'⟩
end Go.Proofs.YtfnbmcinbmbehaaGreatDoor
/- What the laws share: the end, the stream, cmp.Or of two or three. -/
namespace Go.Proofs.YtfnbmcinbmbehaaGreatDoor
open Go.RowKit

/-- The law's world: what was there stays. -/
def TrueNx (w : World) (e : Ending) (w' : World) : Prop := e = .returned (.bool true) ∧ Nx w w'

theorem str_new (A : Option Addr) (n c : Nat) (w : World) (hn : n ≤ 9223372036854775807)
    (hL : 0 < n → ∃ b off, A = some ⟨b, off, none⟩ ∧ b < w.heap.size ∧ ∀ j, j < n → ∃ z : Int, w.cell? ⟨b, off + j, none⟩ = some (.int .i64 z) ∧ -9223372036854775808 ≤ z ∧ z ≤ 9223372036854775807) :
    Str (w.alloc (.cells #[.slice A n c, .int .i64 0] 25)) w.heap.size 0 := by
  refine ⟨A, n, c, 0, Nat.le_refl _, hn, hnew rfl, fun hp => ?_⟩
  obtain ⟨b, off, e, hb, hz⟩ := hL hp
  refine ⟨b, off, e, hb, fun j hj => ?_⟩
  obtain ⟨z, h1, h2⟩ := hz j hj
  exact ⟨z, (Below.cell ((Nx.refl w).alloc _) (p := ⟨b, _, none⟩) hb).trans h1, h2⟩
end Go.Proofs.YtfnbmcinbmbehaaGreatDoor
/- Plain: what a key is, by the program's loop and by the reference's trim. -/
namespace Go.Proofs.YtfnbmcinbmbehaaGreatDoor
def lowC (c : UInt8) : Bool := decide (97 ≤ c.toNat) && decide (c.toNat ≤ 122)
def digC (c : UInt8) : Bool := decide (48 ≤ c.toNat) && decide (c.toNat ≤ 57)
def keyC (c : UInt8) : Bool := lowC c || digC c || c == 45 || c == 95
/-- A key. -/
def keyL : List UInt8 → Bool
  | [] => false
  | c :: l => decide ((c :: l).length ≤ 40) && lowC c && (c :: l).all keyC
def keyB (s : ByteArray) : Bool := keyL s.data.toList
def smallL : List UInt8 := [97, 98, 99, 100, 101, 102, 103, 104, 105, 106, 107, 108, 109, 110, 111, 112, 113, 114, 115, 116, 117, 118, 119, 120, 121, 122]
def csetL : List UInt8 := smallL ++ [48, 49, 50, 51, 52, 53, 54, 55, 56, 57, 45, 95]
theorem all_u8 {p : UInt8 → Bool} (h : ∀ n : Fin 256, p (UInt8.ofNat n.val) = true) (c : UInt8) : p c = true := by
  have := h ⟨c.toNat, c.toNat_lt⟩
  simpa using this
theorem cset_key (c : UInt8) : csetL.contains c = keyC c := by
  have := all_u8 (p := fun c => csetL.contains c == keyC c) (by decide +kernel) c
  simpa using this
theorem small_low (c : UInt8) : decide (0 ≤ Go.Lib.indexByte smallL c) = lowC c := by
  have := all_u8 (p := fun c => decide (0 ≤ Go.Lib.indexByte smallL c) == lowC c) (by decide +kernel) c
  simpa using this
theorem drop_nil {p : UInt8 → Bool} : ∀ {l : List UInt8}, l.dropWhile p = [] ↔ l.all p = true
  | [] => by simp
  | c :: l => by
    by_cases h : p c = true
    · rw [List.dropWhile_cons_of_pos h, drop_nil]; simp [h]
    · rw [List.dropWhile_cons_of_neg h]; simp [h]
theorem drop_all {p : UInt8 → Bool} : ∀ {l : List UInt8}, (l.dropWhile p).all p = true → l.all p = true
  | [], h => h
  | c :: l, h => by
    by_cases hc : p c = true
    · rw [List.dropWhile_cons_of_pos hc] at h; simp [hc]; simpa using drop_all h
    · rw [List.dropWhile_cons_of_neg hc] at h; exact h
theorem all_drop {p : UInt8 → Bool} {l : List UInt8} (h : l.all p = true) : (l.dropWhile p).all p = true := by
  rw [drop_nil.2 h]; rfl
theorem trim_nil (l cs : List UInt8) : Go.Lib.trimS l cs = [] ↔ l.all (cs.contains ·) = true := by
  unfold Go.Lib.trimS Go.Lib.trimLeftS Go.Lib.trimRightS
  rw [drop_nil]
  simp only [List.all_reverse]
  constructor
  · intro h; have := drop_all h; simpa using this
  · intro h; exact all_drop (by simpa using h)
theorem trim_key (l : List UInt8) : (Go.Lib.trimS l csetL).isEmpty = l.all keyC := by
  have h := trim_nil l csetL
  have e : (fun c => csetL.contains c) = keyC := by funext c; exact cset_key c
  rw [e] at h
  cases h1 : l.all keyC
  · cases h2 : Go.Lib.trimS l csetL
    · rw [h.1 h2] at h1; cases h1
    · rfl
  · rw [h.2 h1]; rfl
end Go.Proofs.YtfnbmcinbmbehaaGreatDoor
