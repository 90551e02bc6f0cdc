/- Plain: zones, what is wrong with them; the zone of a node; the zones to which nodes come. -/
import Derived.Test.YthlhomcgjgfdhaaGreatDoorQG6
import Derived.Lib.SlicesCompact
import Derived.Lib.Strings
import Derived.Test.YthlhomcgjgfdhaaGreatDoorQG0
import Derived.Maps.Own
import Derived.Maps.OwnOps
import Derived.Maps.Views
import Derived.Maps.RangeWalk
import Derived.Test.YthlhomcgjgfdhaaGreatDoorQG3
import Derived.Deep.DeepCutAuto
import Derived.Shelf.Spec.SearchS
import Derived.Shelf.Slices.Turned
import Derived.Shelf.Slices.CompactS
import Derived.Ground.Names2Prog
import Derived.Ground.NamesProg
import Derived.Test.YthlhomcgjgfdhaaGreatDoorProg
import Derived.Orders
import Derived.KernelRfl
import Derived.Test.YthlhomcgjgfdhaaGreatDoorQStrS
import Derived.Laws.Bits64
import Derived.WalkKit
import Derived.IntWalk
import Derived.StillTailTactics
import Derived.Shelf.Slices.Cells
import Derived.Lib.LazyBuf
import Derived.Deep.RegionHeld3
import Derived.Deep.Onto
import Derived.Deep.AppendLies
import Derived.RegionTactic
import Derived.Deep.RegionHeld
import Derived.Test.YthlhomcgjgfdhaaGreatDoorQDivB
namespace Go.Proofs.YthlhomcgjgfdhaaGreatDoor

structure Zone where
  key : ByteArray
  a : Option Addr
  cap : Nat
  nodes : List ByteArray
instance : Inhabited Zone := ⟨⟨default, none, 0, []⟩⟩
def encZone (z : Zone) : List Value := [.string z.key, .slice z.a z.nodes.length z.cap]
end Go.Proofs.YthlhomcgjgfdhaaGreatDoor
/- Plain: prices and trips, what is wrong with them; what a trip costs. -/
namespace Go.Proofs.YthlhomcgjgfdhaaGreatDoor

structure Price where
  key : ByteArray
  base : Int
  metre : Int
  minute : Int
  cross : Int
  from_ : Int
  to_ : Int
  peak : Int
  least : Int
  most : Int
instance : Inhabited Price := ⟨⟨default, 0, 0, 0, 0, 0, 0, 0, 0, 0⟩⟩
def encP (p : Price) : List Value := [.string p.key, .int .i64 p.base, .int .i64 p.metre, .int .i64 p.minute, .int .i64 p.cross, .int .i64 p.from_, .int .i64 p.to_, .int .i64 p.peak, .int .i64 p.least, .int .i64 p.most]
structure Jour where
  ride : ByteArray
  rider : ByteArray
  a : Option Addr
  cap : Nat
  nodes : List ByteArray
  metres : Int
  from_ : Int
  to_ : Int
instance : Inhabited Jour := ⟨⟨default, default, none, 0, [], 0, 0, 0⟩⟩
def encJ (t : Jour) : List Value := [.string t.ride, .string t.rider, .slice t.a t.nodes.length t.cap, .int .i64 t.metres, .int .i64 t.from_, .int .i64 t.to_]
end Go.Proofs.YthlhomcgjgfdhaaGreatDoor
/- A map of integers in which it counts whether a key is there, said of a plain function. Of no program. -/
namespace Go.Proofs.YthlhomcgjgfdhaaGreatDoor
open Go.RowKit Go.Maps

section
variable {κ : Type} {P : Program} {K E : TypeId} {ek : κ → Value} {dom : κ → Prop}

/-- The map's datum D holds f k at key k, if it has the key at all; its keys lie in dom. -/
structure MoD (P : Program) (K : TypeId) (ek : κ → Value) (dom : κ → Prop) (D : DataW Unit) (f : κ → Option Int) : Prop where
  isMap : IsMap D
  at_ : ∀ k l, dom k → keyOf P K (ek k) = some l → ∀ z, D.atKey l z = (match f k with | some v => .lit (.int .i64 v) | none => z)
  keys : ∀ l, has D l = true → ∃ k, dom k ∧ keyOf P K (ek k) = some l
  dm : ∀ k, (f k).isSome = true → dom k

/-- Block b is such a map. -/
def MoI (P : Program) (K E : TypeId) (ek : κ → Value) (dom : κ → Prop) (w : World) (b n : Nat) (f : κ → Option Int) : Prop :=
  ∃ D : DataW Unit, w.ownsMap P K (plainElem P E) b n D ∧ MoD P K ek dom D f

theorem MoI.lt {w : World} {b n : Nat} {f : κ → Option Int} (h : MoI P K E ek dom w b n f) : b < w.heap.size := by
  obtain ⟨D, h1, _⟩ := h; exact h1.lt
theorem MoI.nx {w w' : World} {b n : Nat} {f : κ → Option Int} (h : MoI P K E ek dom w b n f) (hn : Nx w w') : MoI P K E ek dom w' b n f := by
  obtain ⟨D, h1, h2⟩ := h
  exact ⟨D, h1.kept (hn.gr none) (by simp), h2⟩
theorem MoI.gr {w w' : World} {b n s : Nat} {f : κ → Option Int} (h : MoI P K E ek dom w b n f) (hn : Gr s w w') (hs : b ≠ s) : MoI P K E ek dom w' b n f := by
  obtain ⟨D, h1, h2⟩ := h
  exact ⟨D, h1.kept (row := some s) hn (by simpa using hs), h2⟩
theorem MoI.mono {w : World} {b n n' : Nat} {f : κ → Option Int} (h : MoI P K E ek dom w b n f) (hn : n ≤ n') : MoI P K E ek dom w b n' f := by
  obtain ⟨D, h1, h2⟩ := h; exact ⟨D, h1.mono hn, h2⟩
theorem MoD.put {D : DataW Unit} {f : κ → Option Int} [DecidableEq κ] (h : MoD P K ek dom D f) (KL : Keyed P K) (hinj : ∀ a b : κ, ek a = ek b → a = b) {k : κ} (hd : dom k) {l : Lit} (hkey : keyOf P K (ek k) = some l) (v : Int) :
    MoD P K ek dom (D.put l (.lit (.int .i64 v))) (fun k' => if k' = k then some v else f k') where
  isMap := h.isMap.put _ _
  at_ k' l' hd' hk' z := by
    by_cases e : k' = k
    · subst e
      rw [hkey] at hk'; injection hk' with hk'; subst hk'
      rw [if_pos rfl]
      exact atKey_put_same h.isMap (KL.key hkey) _ _
    · rw [if_neg e]
      have hne : l' ≠ l := fun e1 => by subst e1; exact e (hinj _ _ (KL.inj hk' hkey))
      rw [atKey_put_other hne]
      exact h.at_ k' l' hd' hk' z
  keys l' hl' := by
    by_cases e : l' = l
    · subst e; exact ⟨k, hd, hkey⟩
    · rw [has_put_other e] at hl'; exact h.keys l' hl'
  dm k' hk' := by
    by_cases e : k' = k
    · subst e; exact hd
    · rw [if_neg e] at hk'; exact h.dm k' hk'

end
end Go.Proofs.YthlhomcgjgfdhaaGreatDoor
/- A map to bools that is a set. Of no program. -/
namespace Go.Proofs.YthlhomcgjgfdhaaGreatDoor
open Go.RowKit Go.Maps

section
variable {κ : Type} {P : Program} {K E : TypeId} {ek : κ → Value} {dom : κ → Prop}
/-- The map's datum D says of each key whether it is in the set. -/
structure MbD (P : Program) (K : TypeId) (ek : κ → Value) (dom : κ → Prop) (D : DataW Unit) (f : κ → Bool) : Prop where
  isMap : IsMap D
  at_ : ∀ k l, dom k → keyOf P K (ek k) = some l → D.atKey l (.lit (.bool false)) = .lit (.bool (f k))
def MbI (P : Program) (K E : TypeId) (ek : κ → Value) (dom : κ → Prop) (w : World) (b n : Nat) (f : κ → Bool) : Prop :=
  ∃ D : DataW Unit, w.ownsMap P K (plainElem P E) b n D ∧ MbD P K ek dom D f
theorem MbI.lt {w : World} {b n : Nat} {f : κ → Bool} (h : MbI P K E ek dom w b n f) : b < w.heap.size := by
  obtain ⟨D, h1, _⟩ := h; exact h1.lt
theorem MbI.nx {w w' : World} {b n : Nat} {f : κ → Bool} (h : MbI P K E ek dom w b n f) (hn : Nx w w') : MbI P K E ek dom w' b n f := by
  obtain ⟨D, h1, h2⟩ := h
  exact ⟨D, h1.kept (hn.gr none) (by simp), h2⟩
theorem MbI.gr {w w' : World} {b n s : Nat} {f : κ → Bool} (h : MbI P K E ek dom w b n f) (hn : Gr s w w') (hs : b ≠ s) : MbI P K E ek dom w' b n f := by
  obtain ⟨D, h1, h2⟩ := h
  exact ⟨D, h1.kept (row := some s) hn (by simpa using hs), h2⟩
theorem MbI.mono {w : World} {b n n' : Nat} {f : κ → Bool} (h : MbI P K E ek dom w b n f) (hn : n ≤ n') : MbI P K E ek dom w b n' f := by
  obtain ⟨D, h1, h2⟩ := h; exact ⟨D, h1.mono hn, h2⟩
end
end Go.Proofs.YthlhomcgjgfdhaaGreatDoor
/- Zones: the program's check and the reference's. -/
namespace Go.Proofs.YthlhomcgjgfdhaaGreatDoor
open Go.RowKit Go.Maps

/-- Zones, their nodes each in a row of its own. -/
def RdZones (w : World) (lo : Nat) (A : Option Addr) (zs : List Zone) : Prop :=
  Rd w lo A 2 encZone zs ∧ ∀ x ∈ zs, Rd w lo x.a 1 encS x.nodes ∧ Small x.nodes ∧ x.nodes.length ≤ 400 ∧ x.key.size ≤ 1000000
theorem RdZones.nx {w w' : World} {lo : Nat} {A : Option Addr} {zs : List Zone} (h : RdZones w lo A zs) (hn : Nx w w') : RdZones w' lo A zs :=
  ⟨h.1.nx hn, fun x hx => ⟨(h.2 x hx).1.nx hn, (h.2 x hx).2⟩⟩
end Go.Proofs.YthlhomcgjgfdhaaGreatDoor
/- Trips: the program's check. -/
namespace Go.Proofs.YthlhomcgjgfdhaaGreatDoor
open Go.RowKit

/-- Trips in a row, the nodes of each in a row of its own. -/
def RdJours (w : World) (lo : Nat) (A : Option Addr) (ts : List Jour) : Prop :=
  Rd w lo A 6 encJ ts ∧ ∀ x ∈ ts, Rd w lo x.a 1 encS x.nodes ∧ Small x.nodes ∧ x.nodes.length ≤ 2000 ∧ x.ride.size ≤ 1000000 ∧ x.rider.size ≤ 1000000
theorem RdJours.nx {w w' : World} {lo : Nat} {A : Option Addr} {ts : List Jour} (h : RdJours w lo A ts) (hn : Nx w w') : RdJours w' lo A ts :=
  ⟨h.1.nx hn, fun x hx => ⟨(h.2 x hx).1.nx hn, (h.2 x hx).2⟩⟩
end Go.Proofs.YthlhomcgjgfdhaaGreatDoor
/- Prices: the program's check. -/
namespace Go.Proofs.YthlhomcgjgfdhaaGreatDoor
open Go.RowKit

/-- Prices in a row. -/
def RdPrices (w : World) (lo : Nat) (A : Option Addr) (ps : List Price) : Prop := Rd w lo A 10 encP ps ∧ ∀ p ∈ ps, p.key.size ≤ 1000000
theorem RdPrices.nx {w w' : World} {lo : Nat} {A : Option Addr} {ps : List Price} (h : RdPrices w lo A ps) (hn : Nx w w') : RdPrices w' lo A ps := ⟨h.1.nx hn, h.2⟩
end Go.Proofs.YthlhomcgjgfdhaaGreatDoor
/- Strings in a list: by halving a sorted one, by looking at all. -/
namespace Go.Proofs.YthlhomcgjgfdhaaGreatDoor
open Go.RowKit Go.Proofs Go.Shelf

/-- Where x would stand in a sorted list. -/
theorem place (x : ByteArray) : ∀ l : List ByteArray, l.Pairwise ltS → ∃ k, k ≤ l.length ∧ (∀ t (h : t < l.length), t < k → ltS l[t] x) ∧ (∀ t (h : t < l.length), k ≤ t → ¬ ltS l[t] x)
  | [], _ => ⟨0, by simp, fun t h => absurd h (by simp), fun t h => absurd h (by simp)⟩
  | a :: l, hs => by
    rw [List.pairwise_cons] at hs
    obtain ⟨k, h1, h2, h3⟩ := place x l hs.2
    by_cases ha : ltS a x
    · refine ⟨k + 1, by simp; omega, fun t h ht => ?_, fun t h ht => ?_⟩
      · rcases t with _ | t
        · exact ha
        · exact h2 t (by simpa using h) (by omega)
      · rcases t with _ | t
        · omega
        · exact h3 t (by simpa using h) (by omega)
    · refine ⟨0, by simp, fun t h ht => by omega, fun t h ht hl => ?_⟩
      rcases t with _ | t
      · exact ha hl
      · have hm : l[t]'(by simpa using h) ∈ l := List.getElem_mem _
        exact ha (ltS_trans (hs.1 _ hm) hl)
end Go.Proofs.YthlhomcgjgfdhaaGreatDoor
/- What the slots of a stream's statement hold, said by shape alone. -/
namespace Go.Proofs.YthlhomcgjgfdhaaGreatDoor
open Go.RowKit

/-- A step of a stream's statement: block s (the stream) may turn, block b (what is made) may turn, all else stays. -/
def Two (s b : Nat) (w w' : World) : Prop :=
  w'.os = w.os ∧ w'.tape = w.tape ∧ w'.output = w.output ∧ w.heap.size ≤ w'.heap.size ∧ ∀ i, i < w.heap.size → i ≠ s → i ≠ b → w'.heap[i]? = w.heap[i]?
theorem Two.refl (s b : Nat) (w : World) : Two s b w w := ⟨rfl, rfl, rfl, Nat.le_refl _, fun _ _ _ _ => rfl⟩
theorem Two.of_gr {s b : Nat} {w w' : World} (h : Gr s w w') : Two s b w w' :=
  ⟨h.os, h.tape, h.output, h.sz, fun i hi hs _ => h.block i hi (by intro e; injection e with e; exact hs e)⟩
theorem Two.trans {s b : Nat} {w w' w'' : World} (h : Two s b w w') (k : Two s b w' w'') : Two s b w w'' :=
  ⟨k.1.trans h.1, k.2.1.trans h.2.1, k.2.2.1.trans h.2.2.1, Nat.le_trans h.2.2.2.1 k.2.2.2.1, fun i hi hs hb => (k.2.2.2.2 i (Nat.lt_of_lt_of_le hi h.2.2.2.1) hs hb).trans (h.2.2.2.2 i hi hs hb)⟩

/-- A literal of n small strings in a block of its own. -/
def ShLitS (s b n : Nat) (v : Value) (w : World) : Prop :=
  ∃ (g : Nat) (zs : List ByteArray), v = .slice (some ⟨g, 0, none⟩) n n ∧ zs.length = n ∧ (∀ z ∈ zs, z.size ≤ 1000000) ∧ g ≠ s ∧ g ≠ b ∧ w.heap[g]? = some (.cells (zs.map Value.string).toArray 9 (0, 0))
/-- A literal of n numbers in a block of its own. -/
def ShLitI (s b n : Nat) (v : Value) (w : World) : Prop :=
  ∃ (g : Nat) (zs : List Int), v = .slice (some ⟨g, 0, none⟩) n n ∧ zs.length = n ∧ g ≠ s ∧ g ≠ b ∧ w.heap[g]? = some (.cells (zs.map (Value.int .i64)).toArray 3 (0, 0))
theorem ShLitS.keep {s b n : Nat} {v : Value} {w w' : World} (h : ShLitS s b n v w) (k : Two s b w w') : ShLitS s b n v w' := by
  obtain ⟨g, zs, h1, h2, h3, h4, h5, h6⟩ := h
  exact ⟨g, zs, h1, h2, h3, h4, h5, (k.2.2.2.2 g (Array.getElem?_eq_some_iff.1 h6).1 h4 h5).trans h6⟩
theorem ShLitI.keep {s b n : Nat} {v : Value} {w w' : World} (h : ShLitI s b n v w) (k : Two s b w w') : ShLitI s b n v w' := by
  obtain ⟨g, zs, h1, h2, h3, h4, h5⟩ := h
  exact ⟨g, zs, h1, h2, h3, h4, (k.2.2.2.2 g (Array.getElem?_eq_some_iff.1 h5).1 h3 h4).trans h5⟩

end Go.Proofs.YthlhomcgjgfdhaaGreatDoor
/- A drawn statement over a stream and a price's cells: what the world holds, and each operation's step. -/
namespace Go.Proofs.YthlhomcgjgfdhaaGreatDoor
open Go.RowKit


/-- A price with no giants. -/
def okP (x : Price) : Prop := x.key.size ≤ 1000 ∧ ∀ z ∈ [x.base, x.metre, x.minute, x.cross, x.from_, x.to_, x.peak, x.least, x.most], -1000000000000000 ≤ z ∧ z ≤ 1000000000000000
/-- What is known of a price's cells from off on in block b. -/
structure PrBox (b off : Nat) (B : World → Prop) : Prop where
  get : ∀ w, B w → ∃ x : Price, okP x ∧ ∀ j u, (encP x)[j]? = some u → w.cell? ⟨b, off + j, none⟩ = some u
  frz : ∀ w j, B w → w.frozen? ⟨b, j, none⟩ = false
  lt : ∀ w, B w → b < w.heap.size
  setS : ∀ w j (t : ByteArray), B w → (j = 0) → t.size ≤ 1000 → B (w.setCell ⟨b, off + j, none⟩ (.string t))
  setI : ∀ w j (z : Int), B w → (1 ≤ j ∧ j ≤ 9) → -1000000000000000 ≤ z ∧ z ≤ 1000000000000000 → B (w.setCell ⟨b, off + j, none⟩ (.int .i64 z))
  same : ∀ w w', B w → w'.heap[b]? = w.heap[b]? → w.heap.size ≤ w'.heap.size → B w'
/-- A literal of n small strings in a block of its own. -/
def ShLT (s b n : Nat) (v : Value) (w : World) : Prop :=
  ∃ (g : Nat) (zs : List ByteArray), v = .slice (some ⟨g, 0, none⟩) n n ∧ zs.length = n ∧ (∀ z ∈ zs, z.size ≤ 1000) ∧ g ≠ s ∧ g ≠ b ∧ w.heap[g]? = some (.cells (zs.map Value.string).toArray 9 (0, 0))
def ShLZ (s b n : Nat) (v : Value) (w : World) : Prop :=
  ∃ (g : Nat) (zs : List Int), v = .slice (some ⟨g, 0, none⟩) n n ∧ zs.length = n ∧ (∀ z ∈ zs, -1000000000000000 ≤ z ∧ z ≤ 1000000000000000) ∧ g ≠ s ∧ g ≠ b ∧ w.heap[g]? = some (.cells (zs.map (Value.int .i64)).toArray 3 (0, 0))
theorem ShLT.keep {s b n : Nat} {v : Value} {w w' : World} (h : ShLT s b n v w) (k : Two s b w w') : ShLT s b n v w' := by
  obtain ⟨g, zs, h1, h2, h3, h4, h5, h6⟩ := h
  exact ⟨g, zs, h1, h2, h3, h4, h5, (k.2.2.2.2 g (Array.getElem?_eq_some_iff.1 h6).1 h4 h5).trans h6⟩
theorem ShLZ.keep {s b n : Nat} {v : Value} {w w' : World} (h : ShLZ s b n v w) (k : Two s b w w') : ShLZ s b n v w' := by
  obtain ⟨g, zs, h1, h2, h3, h4, h5, h6⟩ := h
  exact ⟨g, zs, h1, h2, h3, h4, h5, (k.2.2.2.2 g (Array.getElem?_eq_some_iff.1 h6).1 h4 h5).trans h6⟩
/-- What the world holds when m operations have come up. -/
structure TyW (s b k : Nat) (B : World → Prop) (w0 : World) (m : Nat) (w : World) : Prop where
  two : Two s b w0 w
  str : Str w s (k + 2 * m)
  box : B w
theorem Two.alloc {s b : Nat} (w : World) (o : Obj) : Two s b w (w.alloc o) := Two.of_gr ((Gr.refl s w).alloc o)
theorem Two.set {s b j : Nat} {w : World} (u : Value) : Two s b w (w.setCell ⟨b, j, none⟩ u) := by
  have h := (Gr.refl b w).setS (p := ⟨b, j, none⟩) (.inl rfl) u
  exact ⟨h.os, h.tape, h.output, h.sz, fun i hi _ hb => h.block i hi (by intro e; injection e with e; exact hb e)⟩
section
variable {s b off k m : Nat} {B : World → Prop} {w0 w : World}
theorem TyW.alloc (h : TyW s b k B w0 m w) (E : PrBox b off B) (o : Obj) : TyW s b k B w0 (m + 1) (w.alloc o) :=
  ⟨h.two.trans (Two.alloc w o), (h.str.nx ((Nx.refl w).alloc o)).more (by omega), E.same _ _ h.box (((Nx.refl w).alloc o).block b (E.lt _ h.box)) ((Nx.refl w).alloc o).sz⟩
theorem TyW.gr (h : TyW s b k B w0 m w) (E : PrBox b off B) (hb : b ≠ s) {w' : World} (hg : Gr s w w') (hS : Str w' s (k + 2 * (m + 1))) : TyW s b k B w0 (m + 1) w' :=
  ⟨h.two.trans (Two.of_gr hg), hS, E.same _ _ h.box (hg.block b (E.lt _ h.box) (by intro e; injection e with e; exact hb e)) hg.sz⟩
theorem TyW.setS (h : TyW s b k B w0 m w) (E : PrBox b off B) (hb : s < b) {j : Nat} {t : ByteArray} (hj : j = 0) (ht : t.size ≤ 1000) : TyW s b k B w0 (m + 1) (w.setCell ⟨b, off + j, none⟩ (.string t)) :=
  ⟨h.two.trans (Two.set _), (h.str.row (row := some b) ((Gr.refl b w).setS (p := ⟨b, off + j, none⟩) (.inl rfl) _) (fun j h => by injection h with h; omega)).more (by omega), E.setS _ _ _ h.box hj ht⟩
end
end Go.Proofs.YthlhomcgjgfdhaaGreatDoor
/- A drawn statement over a stream and a trip's cells. -/
namespace Go.Proofs.YthlhomcgjgfdhaaGreatDoor
open Go.RowKit

/-- A trip with no giants. -/
structure okJ (x : Jour) : Prop where
  ride : x.ride.size ≤ 1000
  rider : x.rider.size ≤ 1000
  metres : -1000000000000000 ≤ x.metres ∧ x.metres ≤ 1000000000000000
  from_ : -100000000000000 ≤ x.from_ ∧ x.from_ ≤ 100000000000000
  to_ : -1000000000000000 ≤ x.to_ ∧ x.to_ ≤ 1000000000000000
end Go.Proofs.YthlhomcgjgfdhaaGreatDoor
/- Legs: what is wrong with them. -/
namespace Go.Proofs.YthlhomcgjgfdhaaGreatDoor
open Go.RowKit

structure Leg where
  a : Option Addr
  cap : Nat
  rides : List ByteArray
  cents : Int
instance : Inhabited Leg := ⟨⟨none, 0, [], 0⟩⟩
def encLeg (x : Leg) : List Value := [.slice x.a x.rides.length x.cap, .int .i64 x.cents]
/-- Legs, their rides each in a row of its own. -/
def RdLegs (w : World) (lo : Nat) (A : Option Addr) (ls : List Leg) : Prop :=
  Rd w lo A 2 encLeg ls ∧ ∀ x ∈ ls, Rd w lo x.a 1 encS x.rides ∧ Small x.rides ∧ x.rides.length ≤ 100
theorem RdLegs.nx {w w' : World} {lo : Nat} {A : Option Addr} {ls : List Leg} (h : RdLegs w lo A ls) (hn : Nx w w') : RdLegs w' lo A ls :=
  ⟨h.1.nx hn, fun x hx => ⟨(h.2 x hx).1.nx hn, (h.2 x hx).2⟩⟩
end Go.Proofs.YthlhomcgjgfdhaaGreatDoor
/- Trips in the making: each one's nodes a row of the call's own. -/
namespace Go.Proofs.YthlhomcgjgfdhaaGreatDoor
open Go.RowKit Go.Sort Go.Proofs Go.Shelf

/-- A trip that stands fast: its nodes a row of the call's own. -/
structure JRow (w : World) (base : Nat) (x : Jour) : Prop where
  row : w.ownsRow base 9 1 (.slice x.a x.nodes.length x.cap) x.nodes.length (x.nodes.flatMap encS)
  small : Small x.nodes
  few : x.nodes.length ≤ 4
  ok : okJ x
def OwnJours (w : World) (base : Nat) (v : Value) (ts : List Jour) : Prop :=
  w.ownsRow base 71 6 v ts.length (ts.flatMap encJ) ∧ ∀ x ∈ ts, JRow w base x
theorem JRow.gr {w w' : World} {s base : Nat} {x : Jour} (h : JRow w base x) (hn : Gr s w w') (hs : s < base) : JRow w' base x := ⟨own_gr h.row hn hs, h.small, h.few, h.ok⟩
theorem OwnJours.gr {w w' : World} {s base : Nat} {v : Value} {ts : List Jour} (h : OwnJours w base v ts) (hn : Gr s w w') (hs : s < base) : OwnJours w' base v ts :=
  ⟨own_gr h.1 hn hs, fun x hx => (h.2 x hx).gr hn hs⟩
theorem OwnJours.nx {w w' : World} {base : Nat} {v : Value} {ts : List Jour} (h : OwnJours w base v ts) (hn : Nx w w') : OwnJours w' base v ts :=
  ⟨own_nx h.1 hn, fun x hx => ⟨own_nx (h.2 x hx).row hn, (h.2 x hx).small, (h.2 x hx).few, (h.2 x hx).ok⟩⟩
end Go.Proofs.YthlhomcgjgfdhaaGreatDoor
/- What RidesPriced leans on: Full and Cheapest for all arguments, what stands fast. -/
namespace Go.Proofs.YthlhomcgjgfdhaaGreatDoor
open Go.RowKit

theorem RdZones.gr {s : Nat} {w w' : World} {lo : Nat} {A : Option Addr} {zs : List Zone} (h : RdZones w lo A zs) (hn : Gr s w w') (hs : s < lo) : RdZones w' lo A zs :=
  ⟨h.1.gr hn hs, fun x hx => ⟨(h.2 x hx).1.gr hn hs, (h.2 x hx).2⟩⟩
theorem RdZones.low {w : World} {lo lo' : Nat} {A : Option Addr} {zs : List Zone} (h : RdZones w lo A zs) (hl : lo' ≤ lo) : RdZones w lo' A zs :=
  ⟨h.1.low hl, fun x hx => ⟨(h.2 x hx).1.low hl, (h.2 x hx).2⟩⟩
theorem RdPrices.gr {s : Nat} {w w' : World} {lo : Nat} {A : Option Addr} {ps : List Price} (h : RdPrices w lo A ps) (hn : Gr s w w') (hs : s < lo) : RdPrices w' lo A ps := ⟨h.1.gr hn hs, h.2⟩
theorem RdPrices.low {w : World} {lo lo' : Nat} {A : Option Addr} {ps : List Price} (h : RdPrices w lo A ps) (hl : lo' ≤ lo) : RdPrices w lo' A ps := ⟨h.1.low hl, h.2⟩
theorem RdJours.gr {s : Nat} {w w' : World} {lo : Nat} {A : Option Addr} {ts : List Jour} (h : RdJours w lo A ts) (hn : Gr s w w') (hs : s < lo) : RdJours w' lo A ts :=
  ⟨h.1.gr hn hs, fun x hx => ⟨(h.2 x hx).1.gr hn hs, (h.2 x hx).2⟩⟩
theorem RdJours.low {w : World} {lo lo' : Nat} {A : Option Addr} {ts : List Jour} (h : RdJours w lo A ts) (hl : lo' ≤ lo) : RdJours w lo' A ts :=
  ⟨h.1.low hl, fun x hx => ⟨(h.2 x hx).1.low hl, (h.2 x hx).2⟩⟩
theorem w_Or3R (a b d : Int) (g : Nat) (w : World) (hg : w.heap[g]? = some (.cells #[.int .i64 a, .int .i64 b, .int .i64 d] 29 (0, 0))) :
    Calls Tryz.prog 10 #[.slice (some ⟨g, 0, none⟩) 3 3] w fun e w' => e = .returned (.int .i64 (orI [a, b, d])) ∧ w = w' := by
  have hR : Rd w 0 (some ⟨g, 0, none⟩) 1 encI [a, b, d] := Rd.lit hg (Nat.zero_le _) (fun _ => rfl) rfl
  exact w_OrE 0 _ 3 [a, b, d] w hR (by simp)
end Go.Proofs.YthlhomcgjgfdhaaGreatDoor
