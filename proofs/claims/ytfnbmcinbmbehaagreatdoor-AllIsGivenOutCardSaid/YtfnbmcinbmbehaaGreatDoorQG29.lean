/- Maps: the keys. -/
import Derived.Test.YtfnbmcinbmbehaaGreatDoorQG27
import Derived.Maps.Keyed
import Derived.DeepKeys4
import Derived.KernelRfl
import Derived.Test.YtfnbmcinbmbehaaGreatDoorQG0
import Derived.Maps.Own
import Derived.Maps.OwnOps
import Derived.Maps.OwnSet
import Derived.Maps.Views
import Derived.Maps.RangeWalk
import Derived.Test.YtfnbmcinbmbehaaGreatDoorQG5
import Derived.Test.YtfnbmcinbmbehaaGreatDoorQG23
import Derived.Deep.QuietTactic
import Derived.BigQuiet
import Derived.Deep.RegionHeld3
namespace Go.Proofs.YtfnbmcinbmbehaaGreatDoor
open Go.RowKit Go.Maps

theorem tySize : Tryz.prog.types.size = 254 := by kernel_rfl
theorem laidOut : laidOutB Tryz.prog = true := by kernel_rfl
theorem law_cell : Keyed Tryz.prog 77 := Keyed.of_law (deep_law_laid laidOut (m := 5) (by omega) (k := 77) (by rw [tySize]; decide) (by kernel_rfl) (by kernel_rfl))
theorem kt_cell : Tryz.prog.keyType 77 = true := by kernel_rfl
theorem cells_cell : Tryz.prog.cellsOf 77 = 2 := by kernel_rfl
theorem cells_int : Tryz.prog.cellsOf 3 = 1 := by kernel_rfl

theorem lits_int (d : Nat) (x : Int) (hx : (Lit.int .i64 x).wf = true) : Tryz.prog.keyLits (d + 1) 3 [.int .i64 x] = some [.int .i64 x] := by
  unfold Program.keyLits; rw [Tryz.underlying3]; simp [hx]
theorem lits_cell (d : Nat) (x y : Int) (hx : (Lit.int .i64 x).wf = true) (hy : (Lit.int .i64 y).wf = true) : Tryz.prog.keyLits (d + 2) 77 [.int .i64 x, .int .i64 y] = some [.int .i64 x, .int .i64 y] := by
  unfold Program.keyLits; rw [Tryz.underlying77]; simp [cells_cell, cells_int, lits_int _ _ hx, lits_int _ _ hy]
set_option maxRecDepth 10000 in
theorem lits_int_inv {d : Nat} {c : Value} {ls : List Lit} (h : Tryz.prog.keyLits (d + 1) 3 [c] = some ls) : ∃ x, c = .int .i64 x ∧ (Lit.int .i64 x).wf = true := by
  unfold Program.keyLits at h
  rw [Tryz.underlying3] at h
  cases c <;> simp at h
  obtain ⟨⟨rfl, hw⟩, _⟩ := h
  exact ⟨_, rfl, hw⟩
set_option maxRecDepth 10000 in
theorem lits_cell_inv {d : Nat} {a b : Value} {ls : List Lit} (h : Tryz.prog.keyLits (d + 2) 77 [a, b] = some ls) : ∃ x y, a = .int .i64 x ∧ b = .int .i64 y ∧ (Lit.int .i64 x).wf = true ∧ (Lit.int .i64 y).wf = true := by
  unfold Program.keyLits at h
  rw [Tryz.underlying77] at h
  simp [cells_cell, cells_int] at h
  cases h1 : Tryz.prog.keyLits (d + 1) 3 [a] with
  | none => simp [h1] at h
  | some l1 =>
    cases h2 : Tryz.prog.keyLits (d + 1) 3 [b] with
    | none => simp [h1, h2] at h
    | some l2 =>
      obtain ⟨x, rfl, hx⟩ := lits_int_inv h1
      obtain ⟨y, rfl, hy⟩ := lits_int_inv h2
      exact ⟨x, y, rfl, rfl, hx, hy⟩
end Go.Proofs.YtfnbmcinbmbehaaGreatDoor
/- A map whose elements are of any kind, said of a plain function; pointers to blocks as elements. Of no program. -/
namespace Go.Proofs.YtfnbmcinbmbehaaGreatDoor
open Go.RowKit Go.Maps

/-- R reads the values 'ev v', and no others as what they read as. -/
structure ElemR {V : Type} (R : Value → Option (DataW Unit × List MemPlace)) (ev : V → Value) (dv : V → DataW Unit) (okv : V → Prop) : Prop where
  make : ∀ v, okv v → ∃ ps, R (ev v) = some (dv v, ps)
  inv : ∀ x d ps, R x = some (d, ps) → ∃ v, okv v ∧ x = ev v ∧ d = dv v
  inj : ∀ a b, dv a = dv b → a = b

theorem elemInt {P : Program} {E : TypeId} (he : P.underlying E = some (.int .i64)) : ElemR (plainElem P E) (Value.int .i64) (fun z => .lit (.int .i64 z)) (fun z => (Lit.int .i64 z).wf = true) where
  make z h := ⟨[], plainElem_int he h⟩
  inv x d ps h := by
    obtain ⟨a, rfl, e, hw⟩ := plainElem_int_inv he h
    injection e with e1 e2
    exact ⟨a, hw, rfl, e1⟩
  inj a b h := by injection h with h; injection h
theorem elemBool {P : Program} {E : TypeId} (he : P.underlying E = some .bool) : ElemR (plainElem P E) Value.bool (fun z => .lit (.bool z)) (fun _ => True) where
  make z _ := ⟨[], plainElem_bool he z⟩
  inv x d ps h := by
    unfold plainElem at h
    rw [he] at h
    cases x <;> simp at h
    obtain ⟨rfl, _⟩ := h
    exact ⟨_, trivial, rfl, rfl⟩
  inj a b h := by injection h with h; injection h

/-- A pointer to a block's head, or nil. -/
def ptrV : Option Nat → Value
  | none => .pointer none
  | some b => .pointer (some ⟨b, 0, none⟩)
def ptrD : Option Nat → DataW Unit
  | none => .lit (.bool false)
  | some b => .lit (.int .i64 (b : Int))
def ptrElem : Value → Option (DataW Unit × List MemPlace)
  | .pointer none => some (.lit (.bool false), [])
  | .pointer (some ⟨b, 0, none⟩) => some (.lit (.int .i64 (b : Int)), [])
  | _ => none
theorem elemPtr : ElemR ptrElem ptrV ptrD (fun _ => True) where
  make v _ := by cases v <;> exact ⟨[], rfl⟩
  inv x d ps h := by
    unfold ptrElem at h
    split at h
    · injection h with h; injection h with h1 h2; exact ⟨none, trivial, rfl, h1.symm⟩
    · rename_i b
      injection h with h; injection h with h1 h2; exact ⟨some b, trivial, rfl, h1.symm⟩
    · cases h
  inj a b h := by
    cases a <;> cases b <;> simp [ptrD] at h <;> first | rfl | (congr 1; omega)

section
variable {κ V : Type} {P : Program} {K : TypeId} {ek : κ → Value} {dom : κ → Prop} {R : Value → Option (DataW Unit × List MemPlace)} {ev : V → Value} {dv : V → DataW Unit} {okv : V → Prop}

structure MgD (P : Program) (K : TypeId) (ek : κ → Value) (dom : κ → Prop) (dv : V → DataW Unit) (D : DataW Unit) (f : κ → Option V) : Prop where
  isMap : IsMap D
  at_ : ∀ k l, dom k → keyOf P K (ek k) = some l → ∀ z, D.atKey l z = (match f k with | some v => dv v | none => z)
  keys : ∀ l, has D l = true → ∃ k, dom k ∧ keyOf P K (ek k) = some l
  dm : ∀ k, (f k).isSome = true → dom k
/-- Block b is a map that holds f k at key k, if it has the key at all. -/
def MgI (P : Program) (K : TypeId) (ek : κ → Value) (dom : κ → Prop) (R : Value → Option (DataW Unit × List MemPlace)) (dv : V → DataW Unit) (w : World) (b n : Nat) (f : κ → Option V) : Prop :=
  ∃ D : DataW Unit, w.ownsMap P K R b n D ∧ MgD P K ek dom dv D f
theorem MgI.lt {w : World} {b n : Nat} {f : κ → Option V} (h : MgI P K ek dom R dv w b n f) : b < w.heap.size := by
  obtain ⟨D, h1, _⟩ := h; exact h1.lt
theorem MgI.grown {w w' : World} {b n : Nat} {row : Option Nat} {f : κ → Option V} (h : MgI P K ek dom R dv w b n f) (hg : w.grownBy w' row) (hne : some b ≠ row) : MgI P K ek dom R dv w' b n f := by
  obtain ⟨D, h1, h2⟩ := h
  exact ⟨D, h1.kept hg hne, h2⟩
theorem MgI.nx {w w' : World} {b n : Nat} {f : κ → Option V} (h : MgI P K ek dom R dv w b n f) (hn : Nx w w') : MgI P K ek dom R dv w' b n f := h.grown (hn.gr none) (by simp)
theorem MgI.gr {w w' : World} {b n s : Nat} {f : κ → Option V} (h : MgI P K ek dom R dv w b n f) (hn : Gr s w w') (hs : b ≠ s) : MgI P K ek dom R dv w' b n f := h.grown (row := some s) hn (by simpa using hs)
theorem MgI.mono {w : World} {b n n' : Nat} {f : κ → Option V} (h : MgI P K ek dom R dv w b n f) (hn : n ≤ n') : MgI P K ek dom R dv w b n' f := by
  obtain ⟨D, h1, h2⟩ := h; exact ⟨D, h1.mono hn, h2⟩
theorem MgI.made (w : World) : MgI P K ek dom R dv (w.alloc (.map #[] 0)) w.heap.size 0 (fun _ : κ => (none : Option V)) :=
  ⟨.map [], World.ownsMap_made w P K _, isMap_empty, fun _ _ _ _ _ => rfl, fun l h => (by simp [has_eq] at h), fun k h => by cases h⟩
/-- A new map, wherever it came. -/
theorem MgI.fresh {w : World} {b : Nat} (hb : w.heap[b]? = some (.map #[] 0)) : MgI P K ek dom R dv w b 0 (fun _ : κ => (none : Option V)) :=
  ⟨.map [], ⟨#[], 0, hb, by
    obtain ⟨es, clock, h1, h2, _⟩ := World.ownsMap_made w P K R
    have e : (w.alloc (.map #[] 0)).heap[w.heap.size]? = some (.map #[] 0) := heap_alloc_new w _
    rw [e] at h1
    injection h1 with h1; injection h1 with h3 h4
    subst h3 h4
    exact h2, Nat.le_refl _, rfl⟩, isMap_empty, fun _ _ _ _ _ => rfl, fun l h => (by simp [has_eq] at h), fun k h => by cases h⟩
theorem MgD.has_ {D : DataW Unit} {f : κ → Option V} (h : MgD P K ek dom dv D f) {k : κ} (hd : dom k) {l : Lit} (hkey : keyOf P K (ek k) = some l) : has D l = (f k).isSome := by
  have e := h.at_ k l hd hkey
  cases hf : f k with
  | none => rw [hf] at e; exact has_false_of_atKey e
  | some v => rw [hf] at e; exact has_true_of_atKey e
/-- 'm[k]'. -/
theorem MgI.look (ER : ElemR R ev dv okv) {w : World} {b n : Nat} {f : κ → Option V} {t E : TypeId} (h : MgI P K ek dom R dv w b n f) (KL : Keyed P K) (ht : P.underlying t = some (.map K E)) {z : V} (hzo : okv z) (hz : (zeroValue E).run P w = .ok (ev z) w)
    {k : κ} (hd : dom k) {l : Lit} (hkey : keyOf P K (ek k) = some l) : (Instr.lookup t (.map (some b)) (ek k) false).run P w = .ok (ev ((f k).getD z)) w ∧ okv ((f k).getD z) := by
  obtain ⟨D, h1, h2⟩ := h
  obtain ⟨ps0, hzd⟩ := ER.make z hzo
  obtain ⟨v, ps, hrun, hv⟩ := h1.lookup KL ht hz hzd hkey
  obtain ⟨v', ho, rfl, e1⟩ := ER.inv _ _ _ hv
  have e := h2.at_ k l hd hkey (dv z)
  have e2 : v' = (f k).getD z := by
    rw [e1] at e
    cases hf : f k with
    | none => rw [hf] at e; exact ER.inj _ _ e
    | some u => rw [hf] at e; exact ER.inj _ _ e
  subst e2
  exact ⟨hrun, ho⟩
/-- 'v, is := m[k]'. -/
theorem MgI.look_ok (ER : ElemR R ev dv okv) {w : World} {b n : Nat} {f : κ → Option V} {t E : TypeId} (h : MgI P K ek dom R dv w b n f) (KL : Keyed P K) (ht : P.underlying t = some (.map K E)) {z : V} (hzo : okv z) (hz : (zeroValue E).run P w = .ok (ev z) w)
    {k : κ} (hd : dom k) {l : Lit} (hkey : keyOf P K (ek k) = some l) : (Instr.lookup t (.map (some b)) (ek k) true).run P w = .ok (.tuple #[ev ((f k).getD z), .bool (f k).isSome]) w ∧ okv ((f k).getD z) := by
  obtain ⟨D, h1, h2⟩ := h
  obtain ⟨ps0, hzd⟩ := ER.make z hzo
  obtain ⟨v, ps, hrun, hv⟩ := h1.look_ok KL ht hz hzd hkey
  obtain ⟨v', ho, rfl, e1⟩ := ER.inv _ _ _ hv
  have e := h2.at_ k l hd hkey (dv z)
  have e2 : v' = (f k).getD z := by
    rw [e1] at e
    cases hf : f k with
    | none => rw [hf] at e; exact ER.inj _ _ e
    | some u => rw [hf] at e; exact ER.inj _ _ e
  subst e2
  rw [h2.has_ hd hkey] at hrun
  exact ⟨hrun, ho⟩
theorem MgD.put [DecidableEq κ] {D : DataW Unit} {f : κ → Option V} (h : MgD P K ek dom dv D f) (KL : Keyed P K) (hinj : ∀ a b : κ, ek a = ek b → a = b) {k : κ} (hd : dom k) {l : Lit} (hkey : keyOf P K (ek k) = some l) (v : V) :
    MgD P K ek dom dv (D.put l (dv v)) (fun k' => if k' = k then some v else f k') where
  isMap := h.isMap.put _ _
  at_ k' l' hd' hk' z := by
    by_cases e : k' = k
    · subst e
      rw [hkey] at hk'; injection hk' with hk'; subst hk'
      rw [if_pos rfl]
      exact atKey_put_same h.isMap (KL.key hkey) _ _
    · rw [if_neg e]
      have hne : l' ≠ l := fun e1 => by subst e1; exact e (hinj _ _ (KL.inj hk' hkey))
      rw [atKey_put_other hne]
      exact h.at_ k' l' hd' hk' z
  keys l' hl' := by
    by_cases e : l' = l
    · subst e; exact ⟨k, hd, hkey⟩
    · rw [has_put_other e] at hl'; exact h.keys l' hl'
  dm k' hk' := by
    by_cases e : k' = k
    · subst e; exact hd
    · rw [if_neg e] at hk'; exact h.dm k' hk'
/-- 'm[k] = v'. -/
theorem MgI.upd [DecidableEq κ] (ER : ElemR R ev dv okv) {w : World} {b n : Nat} {f : κ → Option V} {t E : TypeId} (h : MgI P K ek dom R dv w b n f) (KL : Keyed P K) (hinj : ∀ a b : κ, ek a = ek b → a = b) (ht : P.underlying t = some (.map K E)) (hn : n < maxLen)
    {k : κ} (hd : dom k) {l : Lit} (hkey : keyOf P K (ek k) = some l) (v : V) (hv : okv v) :
    ∃ w', (Instr.mapUpdate t (.map (some b)) (ek k) (ev v)).run P w = .ok () w' ∧ MgI P K ek dom R dv w' b (n + 1) (fun k' => if k' = k then some v else f k') ∧ Gr b w w' := by
  obtain ⟨D, h1, h2⟩ := h
  obtain ⟨ps, hR⟩ := ER.make v hv
  obtain ⟨w', hr, ho, hg⟩ := h1.update KL ht hn hkey hR
  exact ⟨w', hr, ⟨_, ho, h2.put KL hinj hd hkey v⟩, hg⟩
/-- 'm[k]' at the operation. -/
theorem wpMgLook (w : World) {ops : Array Oper} {rest : List Oper} {o : Oper} {a : Act} {Q : Exit → Act → World → Prop}
    (hg : o.guard = none) (m x : Operand) (t : TypeId) (hop : o.op = Op.lookup t m x false) (ER : ElemR R ev dv okv) {E : TypeId}
    (KL : Keyed P K) (ht : P.underlying t = some (.map K E)) {z : V} (hzo : okv z) (hz : (zeroValue E).run P w = .ok (ev z) w) (b n : Nat) (f : κ → Option V)
    (hm : a.eval m = .map (some b)) (hown : MgI P K ek dom R dv w b n f) (k : κ) (hx : a.eval x = ek k) (hd : dom k) (l : Lit) (hkey : keyOf P K (ek k) = some l)
    (hK : wpList P ops Q rest (a.put o.dst (ev ((f k).getD z))) w) :
    wpList P ops Q (o :: rest) a w := by
  refine wpList_plain hg fun K' hK' => ?_
  obtain ⟨hrun, hwf⟩ := hown.look ER KL ht hzo hz hd hkey
  unfold Oper.wp
  simp [execOp, hop, hm, hx, hrun, Result.andThen]
  exact hK' _ _ hK
/-- 'v, is := m[k]' at the operation. -/
theorem wpMgLookOk (w : World) {ops : Array Oper} {rest : List Oper} {o : Oper} {a : Act} {Q : Exit → Act → World → Prop}
    (hg : o.guard = none) (m x : Operand) (t : TypeId) (hop : o.op = Op.lookup t m x true) (ER : ElemR R ev dv okv) {E : TypeId}
    (KL : Keyed P K) (ht : P.underlying t = some (.map K E)) {z : V} (hzo : okv z) (hz : (zeroValue E).run P w = .ok (ev z) w) (b n : Nat) (f : κ → Option V)
    (hm : a.eval m = .map (some b)) (hown : MgI P K ek dom R dv w b n f) (k : κ) (hx : a.eval x = ek k) (hd : dom k) (l : Lit) (hkey : keyOf P K (ek k) = some l)
    (hK : wpList P ops Q rest (a.put o.dst (.tuple #[ev ((f k).getD z), .bool (f k).isSome])) w) :
    wpList P ops Q (o :: rest) a w := by
  refine wpList_plain hg fun K' hK' => ?_
  obtain ⟨hrun, hwf⟩ := hown.look_ok ER KL ht hzo hz hd hkey
  unfold Oper.wp
  simp [execOp, hop, hm, hx, hrun, Result.andThen]
  exact hK' _ _ hK
/-- 'm[k] = v' at the operation. -/
theorem wpMgPut [DecidableEq κ] (w : World) {ops : Array Oper} {rest : List Oper} {o : Oper} {a : Act} {Q : Exit → Act → World → Prop}
    (hg : o.guard = none) (m x v : Operand) (t : TypeId) (hop : o.op = Op.mapUpdate t m x v) (ER : ElemR R ev dv okv) {E : TypeId}
    (KL : Keyed P K) (hinj : ∀ a b : κ, ek a = ek b → a = b) (ht : P.underlying t = some (.map K E)) (b n : Nat) (f : κ → Option V)
    (hm : a.eval m = .map (some b)) (hown : MgI P K ek dom R dv w b n f) (hn : n < maxLen) (k : κ) (hx : a.eval x = ek k) (hd : dom k) (l : Lit) (hkey : keyOf P K (ek k) = some l)
    (z : V) (hz : a.eval v = ev z) (hwf : okv z)
    (hK : ∀ w', MgI P K ek dom R dv w' b (n + 1) (fun k' => if k' = k then some z else f k') → Gr b w w' → wpList P ops Q rest (a.put o.dst undef) w') :
    wpList P ops Q (o :: rest) a w := by
  refine wpList_plain hg fun K' hK' => ?_
  obtain ⟨w', hrun, r1, r2⟩ := hown.upd ER KL hinj ht hn hd hkey z hwf
  unfold Oper.wp
  simp [execOp, hop, hm, hx, hz, hrun, Result.andThen]
  exact hK' _ _ (hK w' r1 r2)
/-- The number of entries: no more than n. -/
theorem MgI.size {w : World} {b n : Nat} {f : κ → Option V} (h : MgI P K ek dom R dv w b n f) {t E : TypeId} (ht : P.underlying t = some (.map K E)) (ty : TypeId) : ∃ m : Nat, m ≤ n ∧ (Builtin.len_ #[t] ty #[.map (some b)]).run P w = .ok (.int .i64 (m : Int)) w := by
  obtain ⟨D, h1, h2⟩ := h
  refine ⟨Maps.size D, ?_, by simpa using h1.len ht ty⟩
  obtain ⟨es, clock, _, _, h3, rfl⟩ := h1
  rw [size_eq, length_sorted]; simpa using h3
end
end Go.Proofs.YtfnbmcinbmbehaaGreatDoor
/- Events: the maps that follow them; the keys. -/
namespace Go.Proofs.YtfnbmcinbmbehaaGreatDoor
open Go.RowKit Go.Maps

theorem law_strE : Keyed Tryz.prog 9 := string_keyed Tryz.underlying9
theorem law_intE : Keyed Tryz.prog 3 := int_keyed Tryz.underlying3
theorem law_name : Keyed Tryz.prog 158 := Keyed.of_law (deep_law_laid laidOut (m := 5) (by omega) (k := 158) (by rw [tySize]; decide) (by kernel_rfl) (by kernel_rfl))
theorem kt_name : Tryz.prog.keyType 158 = true := by kernel_rfl
theorem cells_name : Tryz.prog.cellsOf 158 = 2 := by kernel_rfl
theorem cells_str : Tryz.prog.cellsOf 9 = 1 := by kernel_rfl
theorem lits_str (d : Nat) (s : ByteArray) (hs : s.size ≤ maxLen) : Tryz.prog.keyLits (d + 1) 9 [.string s] = some [.string s.data.toList] := by
  unfold Program.keyLits; rw [Tryz.underlying9]; simp [hs]
theorem lits_name (d : Nat) (s : ByteArray) (n : Int) (hs : s.size ≤ maxLen) (hn : (Lit.int .i64 n).wf = true) : Tryz.prog.keyLits (d + 2) 158 [.string s, .int .i64 n] = some [.string s.data.toList, .int .i64 n] := by
  unfold Program.keyLits; rw [Tryz.underlying158]; simp [cells_name, cells_str, cells_int, lits_str _ _ hs, lits_int _ _ hn]
/-- The name of an event. -/
structure EvName where
  source : ByteArray
  no : Int
deriving DecidableEq
def ekName (k : EvName) : Value := .agg #[.string k.source, .int .i64 k.no]
theorem ekName_inj (a b : EvName) (h : ekName a = ekName b) : a = b := by
  cases a; cases b; simp [ekName] at h; simp [h]
def domName (k : EvName) : Prop := k.source.size ≤ maxLen ∧ (Lit.int .i64 k.no).wf = true
theorem key_name (k : EvName) (h : domName k) : ∃ l, keyOf Tryz.prog 158 (ekName k) = some l := by
  refine ⟨.string (keyBytes [.string k.source.data.toList, .int .i64 k.no]), ?_⟩
  unfold keyOf ekName
  rw [Tryz.underlying158, kt_name, tySize]
  have e := lits_name 253 k.source k.no h.1 h.2
  simp [Value.formed, Tryz.underlying158, cells_name, Value.cells, e]
theorem zeroIntE (w : World) : (zeroValue 3).run Tryz.prog w = .ok (.int .i64 0) w := by kernel_rfl
theorem zeroBoolE (w : World) : (zeroValue 4).run Tryz.prog w = .ok (.bool false) w := by kernel_rfl
theorem zeroPtrE (w : World) : (zeroValue 122).run Tryz.prog w = .ok (.pointer none) w := by kernel_rfl
abbrev intE : ElemR (plainElem Tryz.prog 3) (Value.int .i64) (fun z => .lit (.int .i64 z)) (fun z => (Lit.int .i64 z).wf = true) := elemInt Tryz.underlying3
abbrev boolE : ElemR (plainElem Tryz.prog 4) Value.bool (fun z => .lit (.bool z)) (fun _ => True) := elemBool Tryz.underlying4
/-- A map from strings to numbers. -/
abbrev MpSI (w : World) (b n : Nat) (f : ByteArray → Option Int) : Prop := MgI Tryz.prog 9 Value.string domS (plainElem Tryz.prog 3) (fun z : Int => (.lit (.int .i64 z) : DataW Unit)) w b n f
/-- .. to variables. -/
abbrev MpSP (w : World) (b n : Nat) (f : ByteArray → Option (Option Nat)) : Prop := MgI Tryz.prog 9 Value.string domS ptrElem ptrD w b n f
def domI (z : Int) : Prop := (Lit.int .i64 z).wf = true
theorem key_int {z : Int} (h : domI z) : keyOf Tryz.prog 3 (.int .i64 z) = some (.int .i64 z) := keyOf_int_mk Tryz.underlying3 h
abbrev MpII (w : World) (b n : Nat) (f : Int → Option Int) : Prop := MgI Tryz.prog 3 (Value.int .i64) domI (plainElem Tryz.prog 3) (fun z : Int => (.lit (.int .i64 z) : DataW Unit)) w b n f
abbrev MpIB (w : World) (b n : Nat) (f : Int → Option Bool) : Prop := MgI Tryz.prog 3 (Value.int .i64) domI (plainElem Tryz.prog 4) (fun z : Bool => (.lit (.bool z) : DataW Unit)) w b n f
abbrev MpNI (w : World) (b n : Nat) (f : EvName → Option Int) : Prop := MgI Tryz.prog 158 ekName domName (plainElem Tryz.prog 3) (fun z : Int => (.lit (.int .i64 z) : DataW Unit)) w b n f
end Go.Proofs.YtfnbmcinbmbehaaGreatDoor
/- One event: the program's check of events. -/
namespace Go.Proofs.YtfnbmcinbmbehaaGreatDoor
open Go.RowKit Go.Maps

/-- The event by itself is right. -/
def EvRight : Prop := ∀ W : World, Calls Tryz.prog 127 #[.agg exEv] W fun e w' => e = .returned (.int .i64 0) ∧ Nx W w'
set_option maxRecDepth 100000 in
set_option maxHeartbeats 4000000 in
theorem w_CheckEventsEx (hEF : EvRight) (g c : Nat) (w : World) (hg : w.heap[g]? = some (.cells exEv 74 (0, 0))) :
    Calls Tryz.prog 86 #[.slice (some ⟨g, 0, none⟩) 1 c] w fun e w' => e = .returned (.int .i64 0) ∧ Nx w w' := by
  have hgl : g < w.heap.size := (Array.getElem?_eq_some_iff.1 hg).1
  have a0 := cell_of_row w g 0 _ _ _ hg
  have a1 := cell_of_row w g 1 _ _ _ hg
  have a2 := cell_of_row w g 2 _ _ _ hg
  have a3 := cell_of_row w g 3 _ _ _ hg
  have a4 := cell_of_row w g 4 _ _ _ hg
  have a5 := cell_of_row w g 5 _ _ _ hg
  have a6 := cell_of_row w g 6 _ _ _ hg
  have a7 := cell_of_row w g 7 _ _ _ hg
  have a8 := cell_of_row w g 8 _ _ _ hg
  have a9 := cell_of_row w g 9 _ _ _ hg
  have a10 := cell_of_row w g 10 _ _ _ hg
  simp [exEv] at a0 a1 a2 a3 a4 a5 a6 a7 a8 a9 a10
  have hmm := @run_makeMap Tryz.prog
  have HEF := hide hEF
  unfold EvRight exEv at HEF
  clear hEF
  clear hg
  go_enter Tryz.func86, Tryz.ntmps86
  go_wp2_with fail
  clear hmm
  have hM0 : MpSI (w.alloc (.map #[] 0)) w.heap.size 0 (fun _ => none) := MgI.made w
  have HM0 := hide hM0
  clear hM0
  refine wp_loop_rounds 2 ?_
  rw [rounds_succ]
  go_wp2_with fail
  refine (HEF.out _).mono ?_
  rintro e w1 ⟨rfl, hn1⟩
  have hx1 : Nx (w.alloc (.map #[] 0)) w1 := ((Nx.refl _).alloc _).trans hn1
  have HM1 := hide (HM0.out.nx hx1)
  have hs1 : w.heap.size + 1 < w1.heap.size := by have := hn1.sz; simp at this; omega
  have d0 : w1.cell? ⟨w.heap.size + 1, 0, none⟩ = some (.string sS) := nx_cell hn1 (by simp) (show ((w.alloc (.map #[] 0)).alloc (.cells #[.string sS, .int .i64 1, .int .i64 0, .int .i64 1, .string sR, .string ⟨#[]⟩, .string ⟨#[]⟩, .int .i64 5, .int .i64 9, .string ⟨#[]⟩, .int .i64 0] 74)).cell? ⟨w.heap.size + 1, 0, none⟩ = some (.string sS) by go_simp)
  have d1 : w1.cell? ⟨w.heap.size + 1, 1, none⟩ = some (.int .i64 1) := nx_cell hn1 (by simp) (show ((w.alloc (.map #[] 0)).alloc (.cells #[.string sS, .int .i64 1, .int .i64 0, .int .i64 1, .string sR, .string ⟨#[]⟩, .string ⟨#[]⟩, .int .i64 5, .int .i64 9, .string ⟨#[]⟩, .int .i64 0] 74)).cell? ⟨w.heap.size + 1, 1, none⟩ = some (.int .i64 1) by go_simp)
  clear a0 a1 a2 a3 a4 a5 a6 a7 a8 a9 a10 HM0 HEF
  go_wp2_with fail
  go_quiet (fail)
  have hds : domS sS := by unfold domS; decide
  have hM2 := HM1.out.nx ((Nx.refl w1).drewN nq)
  go_wp2_with (first
    | (at_lookup; refine wpMgLook _ rfl _ _ _ rfl intE law_strE Tryz.underlying58 (by decide) (zeroIntE _) w.heap.size 0 _ rfl hM2 sS rfl hds _ (keyS_mk Tryz.underlying9 hds) ?_)
    | (at_mapUpdate; refine wpMgPut _ rfl _ _ _ _ rfl intE law_strE strV_inj Tryz.underlying58 w.heap.size 0 _ rfl hM2 (by decide) sS rfl hds _ (keyS_mk Tryz.underlying9 hds) 1 rfl (by decide) ?_; intro w2 hM3 hg2))
  obtain ⟨D3, ho3, _⟩ := hM3
  have hsz := ho3.size_le
  rw [rounds_succ]
  go_wp2_with (at_len; refine wpList_len_own _ rfl _ _ rfl 9 3 Tryz.underlying58 _ w.heap.size _ D3 rfl ho3 ?_)
  go_ret
  exact ⟨rfl, Nx.of_gr ((Gr.of_nx ((((Nx.refl w).alloc _).trans hx1).drewN _)).trans hg2) (Nat.le_refl _)⟩

theorem w_momentFaultEx (hEF : EvRight) (g c : Nat) (w : World) (hg : w.heap[g]? = some (.cells exEv 74 (0, 0))) :
    Calls Tryz.prog 60 #[.slice (some ⟨g, 0, none⟩) 1 c, .int .i64 3] w fun e w' => e = .returned (.int .i64 0) ∧ Nx w w' := by
  have HC := hide (w_CheckEventsEx hEF g c w hg)
  have hm3 : momB 3 = true := by decide
  clear hg
  go_enter Tryz.func60, Tryz.ntmps60
  go_wp2_with (first
    | (go_at_call 86; refine HC.out.mono ?_; rintro e w1 ⟨rfl, hn1⟩)
    | (go_at_call 58; refine (w_Moment _ _).mono ?_; rintro e w' ⟨rfl, rfl⟩))
  go_ret
  exact ⟨rfl, hn1⟩
end Go.Proofs.YtfnbmcinbmbehaaGreatDoor
/- One event followed. -/
namespace Go.Proofs.YtfnbmcinbmbehaaGreatDoor
open Go.RowKit Go.Maps

def exName : EvName := ⟨sS, 1⟩
set_option maxRecDepth 100000 in
set_option maxHeartbeats 4000000 in
theorem w_byNameEx (g c : Nat) (w : World) (hg : w.heap[g]? = some (.cells exEv 74 (0, 0))) :
    Calls Tryz.prog 87 #[.slice (some ⟨g, 0, none⟩) 1 c] w fun e w' => ∃ b : Nat, e = .returned (.map (some b)) ∧ w.heap.size ≤ b ∧ MpNI w' b 1 (fun k => if k = exName then some 0 else none) ∧ Nx w w' := by
  have a0 := cell_of_row w g 0 _ _ _ hg
  have a1 := cell_of_row w g 1 _ _ _ hg
  have a2 := cell_of_row w g 2 _ _ _ hg
  have a3 := cell_of_row w g 3 _ _ _ hg
  have a4 := cell_of_row w g 4 _ _ _ hg
  have a5 := cell_of_row w g 5 _ _ _ hg
  have a6 := cell_of_row w g 6 _ _ _ hg
  have a7 := cell_of_row w g 7 _ _ _ hg
  have a8 := cell_of_row w g 8 _ _ _ hg
  have a9 := cell_of_row w g 9 _ _ _ hg
  have a10 := cell_of_row w g 10 _ _ _ hg
  simp [exEv] at a0 a1 a2 a3 a4 a5 a6 a7 a8 a9 a10
  have hgl : g < w.heap.size := (Array.getElem?_eq_some_iff.1 hg).1
  have hmm := @run_makeMap Tryz.prog
  have hdn : domName exName := ⟨by decide, by decide⟩
  obtain ⟨kl, hkey⟩ := key_name exName hdn
  clear hg
  go_enter Tryz.func87, Tryz.ntmps87
  go_wp2_with fail
  clear hmm
  have hM0 : MpNI (w.alloc (.map #[] 0)) w.heap.size 0 (fun _ => none) := MgI.made w
  refine wp_loop_rounds 2 ?_
  rw [rounds_succ]
  go_wp2_with (at_mapUpdate; refine wpMgPut _ rfl _ _ _ _ rfl intE law_name ekName_inj Tryz.underlying155 w.heap.size 0 _ rfl (hM0.nx ((Nx.refl _).alloc _)) (by decide) exName rfl hdn _ hkey 0 rfl (by decide) ?_; intro w2 hM3 hg2)
  rw [rounds_succ]
  go_wp2_with fail
  go_ret
  exact ⟨_, rfl, Nat.le_refl _, hM3, Nx.of_gr ((Gr.of_nx (((Nx.refl w).alloc _).alloc _)).trans hg2) (Nat.le_refl _)⟩

theorem nx_heap {w w' : World} {p : Nat} {o : Obj} (hn : Nx w w') (h : w.heap[p]? = some o) : w'.heap[p]? = some o := (hn.block p (Array.getElem?_eq_some_iff.1 h).1).trans h
def exSt : Array Value := #[.string sR, .string ⟨#[]⟩, .int .i64 1, .int .i64 5, .int .i64 9, .int .i64 0, .int .i64 0]
/-- A booking, followed. -/
def Booked (rb : Nat) (w : World) (e : Ending) (w' : World) : Prop :=
  ∃ (A : Option Addr) (c p : Nat), e = .returned (.tuple #[.slice A 1 c, .int .i64 0]) ∧ w.heap.size ≤ p ∧ p ≠ rb ∧ w'.heap[p]? = some (.cells exSt 124 (0, 0)) ∧ MpSP w' rb 1 (fun k => if k = sR then some (some p) else none) ∧ Gr rb w w'
set_option maxRecDepth 100000 in
set_option maxHeartbeats 4000000 in
theorem w_stepEx (d rb nb : Nat) (w : World) (hdr : d ≠ rb) (hd : w.cell? ⟨d, 1, none⟩ = some (.map (some rb))) (hM : MpSP w rb 0 (fun _ => none)) :
    Calls Tryz.prog 88 #[.pointer (some ⟨d, 0, none⟩), .int .i64 0, .agg exEv, .map (some nb)] w (Booked rb w) := by
  have hdl : d < w.heap.size := World.block_lt_of_cell? w _ hd
  have hrl := hM.lt
  obtain ⟨wa, hwa⟩ : ∃ wa, wa = w.alloc (.cells #[.string sS, .int .i64 1, .int .i64 0, .int .i64 1, .string sR, .string ⟨#[]⟩, .string ⟨#[]⟩, .int .i64 5, .int .i64 9, .string ⟨#[]⟩, .int .i64 0] 74) := ⟨_, rfl⟩
  have hna : Nx w wa := hwa ▸ (Nx.refl w).alloc _
  have hgw : w.heap.size < wa.heap.size := by rw [hwa]; simp
  have hda := nx_cell hna hdl hd
  have hMa := hM.nx hna
  have hds : domS sR := by unfold domS; decide
  have hlk : ∀ n, (Instr.lookup 112 (.map (some rb)) (.string sR) false).run Tryz.prog (wa.drewN n) = .ok (.pointer none) (wa.drewN n) := fun n =>
    ((hMa.nx ((Nx.refl wa).drewN n)).look (z := (none : Option Nat)) elemPtr law_strE Tryz.underlying112 trivial (zeroPtrE _) hds (keyS_mk Tryz.underlying9 hds)).1
  unfold exEv
  go_enter Tryz.func88, Tryz.ntmps88
  go_wp2_with fail
  rw [← hwa]
  have b4 : wa.cell? ⟨w.heap.size, 4, none⟩ = some (.string sR) := by rw [hwa]; go_simp
  have b7 : wa.cell? ⟨w.heap.size, 7, none⟩ = some (.int .i64 5) := by rw [hwa]; go_simp
  have b8 : wa.cell? ⟨w.heap.size, 8, none⟩ = some (.int .i64 9) := by rw [hwa]; go_simp
  have HWA := hide hwa
  clear hwa
  have hlk0 := hlk 0
  have hlk1 := hlk 1
  go_quiet (fail)
  clear hlk hlk0 hlk1
  obtain ⟨wq, hwq⟩ : ∃ wq, wq = wa.drewN nq := ⟨_, rfl⟩
  have hnq : Nx wa wq := hwq ▸ (Nx.refl wa).drewN _
  rw [← hwq]
  have hgw' : w.heap.size < wq.heap.size := Nat.lt_of_lt_of_le hgw hnq.sz
  have hdq := nx_cell hnq (Nat.lt_of_lt_of_le hdl hna.sz) hda
  have c4 := nx_cell hnq hgw b4
  have c7 := nx_cell hnq hgw b7
  have c8 := nx_cell hnq hgw b8
  have hdq' : d < wq.heap.size := Nat.lt_of_lt_of_le hdl (hna.trans hnq).sz
  have hMq := (hMa.nx hnq).nx (((Nx.refl wq).alloc (.cells #[.string sR, .string ⟨#[]⟩, .int .i64 1, .int .i64 5, .int .i64 9, .int .i64 0, .int .i64 0] 124)).drew)
  obtain ⟨w3, hup, hM3, hg3⟩ := hMq.upd elemPtr law_strE strV_inj Tryz.underlying112 (by decide) hds (keyS_mk Tryz.underlying9 hds) (some wq.heap.size) trivial
  have HM3 := hide hM3
  have hup' : (Instr.mapUpdate 112 (.map (some rb)) (.string sR) (.pointer (some ⟨wq.heap.size, 0, none⟩))).run Tryz.prog (wq.alloc (.cells #[.string sR, .string ⟨#[]⟩, .int .i64 1, .int .i64 5, .int .i64 9, .int .i64 0, .int .i64 0] 124)).drew = .ok () w3 := hup
  clear hup hM3 hwq hMa hMq hM hda b4 b7 b8
  have hrb : rb ≠ w.heap.size := by omega
  have hrq : rb ≠ wq.heap.size := by omega
  have f4 : w3.cell? ⟨w.heap.size, 4, none⟩ = some (.string sR) := World.grownBy.cell hg3 (nx_cell (((Nx.refl wq).alloc _).drew) hgw' c4) (by simp; omega)
  have f1 : w3.cell? ⟨d, 1, none⟩ = some (.map (some rb)) := World.grownBy.cell hg3 (nx_cell (((Nx.refl wq).alloc _).drew) hdq' hdq) (by simp; omega)
  have f7 : w3.cell? ⟨w.heap.size, 7, none⟩ = some (.int .i64 5) := World.grownBy.cell hg3 (nx_cell (((Nx.refl wq).alloc _).drew) hgw' c7) (by simp; omega)
  have f8 : w3.cell? ⟨w.heap.size, 8, none⟩ = some (.int .i64 9) := World.grownBy.cell hg3 (nx_cell (((Nx.refl wq).alloc _).drew) hgw' c8) (by simp; omega)
  have HF := hide (And.intro f1 (And.intro f4 (And.intro f7 f8)))
  clear f1 f4 f7 f8
  go_wp2_with fail
  go_region_held3 (fun w' => w'.cell? ⟨d, 1, none⟩ = some (.map (some rb)) ∧ w'.cell? ⟨w.heap.size, 4, none⟩ = some (.string sR) ∧ w'.cell? ⟨w.heap.size, 7, none⟩ = some (.int .i64 5) ∧ w'.cell? ⟨w.heap.size, 8, none⟩ = some (.int .i64 9))
    (first | exact HF.out | go_keep)
    (fail)
  obtain ⟨f1, f4, f7, f8⟩ := HF.out
  have hp : w3.heap[wq.heap.size]? = some (.cells exSt 124 (0, 0)) := (hg3.block wq.heap.size (by simp) (by intro e; injection e with e; omega)).trans (heap_alloc_new wq _)
  have hgr : Gr rb w w3 := ((Gr.of_nx (((hna.trans hnq).alloc _).drew)).trans hg3)
  have hpl : w.heap.size ≤ wq.heap.size := by omega
  go_wp2_with fail
  go_ret2
  exact ⟨_, _, wq.heap.size, rfl, hpl, by omega, nx_heap ((Nx.refl w3).alloc _) hp, HM3.out.nx ((Nx.refl w3).alloc _), hgr.alloc _⟩
end Go.Proofs.YtfnbmcinbmbehaaGreatDoor
/- One event followed: the day. -/
namespace Go.Proofs.YtfnbmcinbmbehaaGreatDoor
open Go.RowKit Go.Maps

/-- The day behind one booking. -/
def DayEx (w : World) (e : Ending) (w' : World) : Prop :=
  ∃ (d rb p : Nat), e = .returned (.pointer (some ⟨d, 0, none⟩)) ∧ w'.cell? ⟨d, 1, none⟩ = some (.map (some rb)) ∧ w.heap.size ≤ p ∧ p ≠ rb ∧ w.heap.size ≤ rb ∧ w'.heap[p]? = some (.cells exSt 124 (0, 0)) ∧ MpSP w' rb 1 (fun k => if k = sR then some (some p) else none) ∧ Nx w w'
set_option maxRecDepth 100000 in
set_option maxHeartbeats 4000000 in
theorem w_followEx (g c : Nat) (w : World) (hg : w.heap[g]? = some (.cells exEv 74 (0, 0))) :
    Calls Tryz.prog 61 #[.slice (some ⟨g, 0, none⟩) 1 c, .int .i64 3, .nilFunc] w (DayEx w) := by
  have hgl : g < w.heap.size := (Array.getElem?_eq_some_iff.1 hg).1
  have hmm := @run_makeMap Tryz.prog
  have hnf : ∀ w, (binOp .neq 117 .nilFunc .nilFunc).run Tryz.prog w = .ok (.bool false) w := fun w => by kernel_rfl
  have hne : ¬ (⟨⟨#[]⟩, 0⟩ : EvName) = exName := by decide
  have HG := hide hg
  clear hg
  go_enter Tryz.func61, Tryz.ntmps61
  go_wp2_with fail
  obtain ⟨w5, hw5⟩ : ∃ w5, w5 = ((((w.alloc (.map #[] 0)).alloc (.map #[] 0)).alloc (.map #[] 0)).alloc (.map #[] 0)).alloc (.cells #[.slice (some ⟨g, 0, none⟩) 1 c, .map (some w.heap.size), .map (some (w.heap.size + 1)), .slice none 0 0, .map (some (w.heap.size + 1 + 1)), .map (some (w.heap.size + 1 + 1 + 1)), .nilFunc] 119) := ⟨_, rfl⟩
  have hx5 : Nx w w5 := hw5 ▸ (((((Nx.refl w).alloc _).alloc _).alloc _).alloc _).alloc _
  have hM5 : MpSP w5 w.heap.size 0 (fun _ => none) := by
    rw [hw5]; exact (MgI.made w).nx (((((Nx.refl _).alloc _).alloc _).alloc _).alloc _)
  have hG5 : MpII w5 (w.heap.size + 1 + 1) 0 (fun _ => none) := by
    have h : MpII (((w.alloc (.map #[] 0)).alloc (.map #[] 0)).alloc (.map #[] 0)) ((w.alloc (.map #[] 0)).alloc (.map #[] 0)).heap.size 0 (fun _ => none) := MgI.made ((w.alloc (.map #[] 0)).alloc (.map #[] 0))
    rw [show ((w.alloc (.map #[] 0)).alloc (.map #[] 0)).heap.size = w.heap.size + 1 + 1 by simp] at h
    rw [hw5]; exact h.nx (((Nx.refl _).alloc _).alloc _)
  have hd5 : w.heap.size + 1 + 1 + 1 + 1 < w5.heap.size := by rw [hw5]; simp
  have y1 : w5.cell? ⟨w.heap.size + 1 + 1 + 1 + 1, 1, none⟩ = some (.map (some w.heap.size)) := by rw [hw5]; go_simp
  have y4 : w5.cell? ⟨w.heap.size + 1 + 1 + 1 + 1, 4, none⟩ = some (.map (some (w.heap.size + 1 + 1))) := by rw [hw5]; go_simp
  have y6 : w5.cell? ⟨w.heap.size + 1 + 1 + 1 + 1, 6, none⟩ = some .nilFunc := by rw [hw5]; go_simp
  have hg5 := nx_heap hx5 HG.out
  rw [← hw5]
  clear hw5
  obtain ⟨rb, hrb⟩ : ∃ rb, rb = w.heap.size := ⟨_, rfl⟩
  rw [← hrb] at hM5 hG5 hd5 y1 y4 y6 ⊢
  refine (w_byNameEx g c w5 hg5).mono ?_
  rintro e w6 ⟨nb, rfl, hnb, hN6, hn6⟩
  have hM6 := hM5.nx hn6
  have hG6 := hG5.nx hn6
  have z1 := nx_cell hn6 hd5 y1
  have z4 := nx_cell hn6 hd5 y4
  have z6 := nx_cell hn6 hd5 y6
  have hd6 := Nat.lt_of_lt_of_le hd5 hn6.sz
  have hg6 := nx_heap hn6 hg5
  have hgl6 : g < w6.heap.size := (Array.getElem?_eq_some_iff.1 hg6).1
  have a0 := cell_of_row w6 g 0 _ _ _ hg6
  have a1 := cell_of_row w6 g 1 _ _ _ hg6
  have a2 := cell_of_row w6 g 2 _ _ _ hg6
  have a3 := cell_of_row w6 g 3 _ _ _ hg6
  have a4 := cell_of_row w6 g 4 _ _ _ hg6
  have a5 := cell_of_row w6 g 5 _ _ _ hg6
  have a6 := cell_of_row w6 g 6 _ _ _ hg6
  have a7 := cell_of_row w6 g 7 _ _ _ hg6
  have a8 := cell_of_row w6 g 8 _ _ _ hg6
  have a9 := cell_of_row w6 g 9 _ _ _ hg6
  have a10 := cell_of_row w6 g 10 _ _ _ hg6
  simp [exEv] at a0 a1 a2 a3 a4 a5 a6 a7 a8 a9 a10
  have HRB := hide hrb
  have HG5 := hide hg5
  have HG6 := hide hg6
  have hdn : domName ⟨⟨#[]⟩, 0⟩ := ⟨by decide, by decide⟩
  obtain ⟨kl, hkey⟩ := key_name ⟨⟨#[]⟩, 0⟩ hdn
  clear hmm hrb hM5 hG5 y1 y4 y6 hg5 hg6
  go_wp2_with fail
  refine wp_loop_rounds 2 ?_
  rw [rounds_succ]
  go_wp2_with (at_lookup; refine wpMgLookOk _ rfl _ _ _ rfl intE law_name Tryz.underlying155 (z := (0 : Int)) (by decide) (zeroIntE _) nb 1 _ rfl (hN6.nx ((Nx.refl _).alloc _)) ⟨⟨#[]⟩, 0⟩ rfl hdn _ hkey ?_)
  rw [rounds_succ]
  go_wp2_with fail
  refine wp_loop_rounds 2 ?_
  rw [rounds_succ]
  have hn8 : Nx w6 ((w6.alloc (.cells #[.string sS, .int .i64 1, .int .i64 0, .int .i64 1, .string sR, .string ⟨#[]⟩, .string ⟨#[]⟩, .int .i64 5, .int .i64 9, .string ⟨#[]⟩, .int .i64 0] 74)).alloc (.cells #[.string sS, .int .i64 1, .int .i64 0, .int .i64 1, .string sR, .string ⟨#[]⟩, .string ⟨#[]⟩, .int .i64 5, .int .i64 9, .string ⟨#[]⟩, .int .i64 0] 74)) := ((Nx.refl w6).alloc _).alloc _
  have k1 := nx_cell hn8 hd6 z1
  have k4 := nx_cell hn8 hd6 z4
  have k6 := nx_cell hn8 hd6 z6
  have hst := w_stepEx (rb + 1 + 1 + 1 + 1) rb nb _ (by omega) k1 (hM6.nx hn8)
  have HST := hide hst
  have HK6 := hide k6
  clear k1 k6 hst
  have hdi : domI 0 := by unfold domI; decide
  go_wp2_with (at_lookup; refine wpMgLookOk _ rfl _ _ _ rfl intE law_intE Tryz.underlying115 (z := (0 : Int)) (by decide) (zeroIntE _) (rb + 1 + 1) 0 _ rfl (hG6.nx (((Nx.refl _).alloc _).alloc _)) 0 rfl hdi _ (key_int hdi) ?_)
  have hst := HST.out
  unfold exEv at hst
  refine hst.mono ?_
  rintro e w9 ⟨A9, c9, p, rfl, hp1, hp2, hp3, hM9, hg9⟩
  have m6 : w9.cell? ⟨rb + 1 + 1 + 1 + 1, 6, none⟩ = some .nilFunc := World.grownBy.cell hg9 HK6.out (by simp; omega)
  have m1 : w9.cell? ⟨rb + 1 + 1 + 1 + 1, 1, none⟩ = some (.map (some rb)) := World.grownBy.cell hg9 (nx_cell hn8 hd6 z1) (by simp; omega)
  have hend : Nx w w9 := Nx.of_gr (((Gr.of_nx ((hx5.trans hn6).trans hn8))).trans hg9) (by rw [HRB.out]; exact Nat.le_refl _)
  have hpw : w.heap.size ≤ p := Nat.le_trans ((hx5.trans hn6).trans hn8).sz hp1
  clear hst HST HK6 k4 a0 a1 a2 a3 a4 a5 a6 a7 a8 a9 a10 z1 z4 z6
  go_wp2_with fail
  rw [rounds_succ]
  go_wp2_with fail
  go_ret
  exact ⟨_, rb, p, rfl, m1, hpw, hp2, by rw [HRB.out]; exact Nat.le_refl _, hp3, hM9, hend⟩
end Go.Proofs.YtfnbmcinbmbehaaGreatDoor
/- The rides behind one booking. -/
namespace Go.Proofs.YtfnbmcinbmbehaaGreatDoor
open Go.RowKit Go.Maps

theorem hMD_has {P : Program} {K : TypeId} {κ V : Type} {ek : κ → Value} {dom : κ → Prop} {dv : V → DataW Unit} {D : DataW Unit} {f : κ → Option V} (h : MgD P K ek dom dv D f) {k : κ} (hd : dom k) {l : Lit} (hkey : keyOf P K (ek k) = some l) : Maps.has D l = (f k).isSome := h.has_ hd hkey
theorem hA5' {w : World} {base : Nat} {e : TypeId} {c : Nat} (A : Option Addr) (h : ∀ a, A = some a → ∃ g, a = ⟨g, 0, none⟩ ∧ base ≤ g ∧ g < w.heap.size) {L : List Value} (ho : w.ownsRow base e 7 (.slice A 1 c) 1 L) : ∃ g, A = some ⟨g, 0, none⟩ ∧ base ≤ g ∧ g < w.heap.size := by
  rcases ho.2 with ⟨hv, h0⟩ | ⟨g, cap, cur, hv, _⟩
  · cases h0
  · injection hv with h1 _ _
    obtain ⟨g', e1, e2⟩ := h _ h1
    exact ⟨g', by rw [h1, e1], e2⟩
theorem el_State : ElemOf Tryz.prog 70 124 7 72 := ElemOf.mk' (z := .agg #[.string ByteArray.empty, .string ByteArray.empty, .int .i64 0, .int .i64 0, .int .i64 0, .int .i64 0, .int .i64 0]) Tryz.underlying70 (by kernel_rfl) rfl
def encSt (_ : Unit) : List Value := exSt.toList
theorem encSt_len (x : Unit) : (encSt x).length = 7 := rfl
theorem encSt_one (x : Unit) : ∀ v ∈ encSt x, v.oneCell' = true := by
  intro v hv; simp [encSt, exSt] at hv; rcases hv with rfl | rfl | rfl | rfl | rfl | rfl <;> rfl
set_option maxRecDepth 100000 in
set_option maxHeartbeats 1000000 in
theorem w_insSt (g c : Nat) (fv : Value) (w : World) :
    Calls Tryz.prog 133 #[.slice (some ⟨g, 0, none⟩) 1 c, .int .i64 0, .int .i64 1, fv] w fun e w' => e = .returned (.tuple #[]) ∧ w = w' := by
  go_enter Tryz.func133, Tryz.ntmps133
  go_wp2_with fail
  refine wp_loop_rounds 1 ?_
  rw [rounds_succ]
  go_wp2_with fail
  go_end0
  exact ⟨rfl, rfl⟩
set_option maxRecDepth 100000 in
set_option maxHeartbeats 1000000 in
theorem w_pdqSt (g c : Nat) (z : Int) (fv : Value) (w : World) :
    Calls Tryz.prog 89 #[.slice (some ⟨g, 0, none⟩) 1 c, .int .i64 0, .int .i64 1, .int .i64 z, fv] w fun e w' => e = .returned (.tuple #[]) ∧ w = w' := by
  go_enter Tryz.func89, Tryz.ntmps89
  go_wp2_with fail
  refine wp_loop_rounds 1 ?_
  rw [rounds_succ]
  go_wp2_with (go_at_call 133; refine (w_insSt g c fv w).mono ?_; rintro e w1 ⟨rfl, rfl⟩)
  exact bodyPost_ret (results_none (by rfl) _ _ _) rfl ⟨rfl, rfl⟩
theorem w_SortSt (g c : Nat) (fv : Value) (w : World) :
    Calls Tryz.prog 62 #[.slice (some ⟨g, 0, none⟩) 1 c, fv] w fun e w' => e = .returned (.tuple #[]) ∧ w = w' := by
  go_enter Tryz.func62, Tryz.ntmps62
  go_wp2_with (first
    | (go_at_call 73; refine (w_Len _ _ (by omega) (by omega)).mono ?_; rintro e w' ⟨z, rfl, rfl⟩)
    | (go_at_call 89; refine (w_pdqSt g c _ fv _).mono ?_; rintro e w1 ⟨rfl, rfl⟩))
  go_end0
  exact ⟨rfl, rfl⟩

set_option maxRecDepth 100000 in
set_option maxHeartbeats 4000000 in
theorem w_RidesEx (hEF : EvRight) (g c : Nat) (w : World) (hg : w.heap[g]? = some (.cells exEv 74 (0, 0))) :
    Calls Tryz.prog 36 #[.slice (some ⟨g, 0, none⟩) 1 c, .int .i64 3] w fun e w' => ∃ (A : Option Addr) (cc : Nat), e = .returned (.tuple #[.slice A 1 cc, .int .i64 0]) ∧ Nx w w' := by
  have HMF := hide (w_momentFaultEx hEF g c w hg)
  have HG := hide hg
  clear hg
  go_enter Tryz.func36, Tryz.ntmps36
  go_wp2_with fail
  refine HMF.out.mono ?_
  rintro e w1 ⟨rfl, hn1⟩
  have HFO := hide (w_followEx g c w1 (nx_heap hn1 HG.out))
  go_wp2_with fail
  refine HFO.out.mono ?_
  rintro e w2 ⟨d, rb, p, rfl, hd, hp1, hp2, hrb, hp3, hM, hn2⟩
  obtain ⟨D, hown, hMD⟩ := hM
  have hds : domS sR := by unfold domS; decide
  have hkl := keyS_mk (P := Tryz.prog) Tryz.underlying9 hds
  have hhas : Maps.has D (litS sR) = true := by rw [hMD.has_ hds hkl]; simp
  have hHAS := hide hhas
  have HMD := hide hMD
  clear hhas hMD
  go_wp2_with (at_range; refine wpList_range_own _ rfl _ _ rfl 9 122 law_strE Tryz.underlying112 _ rb 1 _ rfl hown ?_; intro w3 hrg3 hg3 hs3)
  go_frame
  have hx3 : Nx w2 w3 := (Nx.refl w2).grown hg3 (fun j hj => by cases hj)
  have hown0 : ∀ W : World, W.ownsRow (w2.heap.size + 1) 124 7 (.slice none 0 0) ([] : List Unit).length (([] : List Unit).flatMap encSt) := fun W => World.ownsRow_nil _ _ _ _
  have HO0 := hide hown0
  have HS3 := hide hs3
  clear hs3 hown0
  refine wp_loop_rounds 2 ?_
  rw [rounds_succ]
  go_wp2_with (at_next; refine wpList_next_ranges _ rfl _ rfl 9 law_strE ptrElem Value.string ptrV (fun key kl hkey => (by obtain ⟨x, rfl, _⟩ := keyS_inv Tryz.underlying9 hkey; exact ⟨x, rfl⟩)) (fun v y hv => (by obtain ⟨q, _, h, _⟩ := elemPtr.inv v y.1 y.2 hv; exact ⟨q, h⟩)) rb w2.heap.size 1 _ _ _ rfl hrg3 ?_ ?_)
  · intro _ hl0
    exact absurd (hl0 (litS sR)) (by rw [hHAS.out]; simp)
  · intro k c kl y ps w4 cnt4 hkey hlk hRv hat hrg4 hlt4 hg4 hs4 hen
    obtain ⟨k0, ek, hdk, rfl⟩ := keyS_inv Tryz.underlying9 hkey
    obtain rfl := strV_inj _ _ ek
    have hfs : (if k = sR then some (some p) else none : Option (Option Nat)).isSome = true := by
      rw [← hMD_has HMD.out hdk (keyS_mk Tryz.underlying9 hdk)]; exact hlk
    have hk : k = sR := by
      by_cases e : k = sR
      · exact e
      · rw [if_neg e] at hfs; cases hfs
    subst hk
    have hc : c = some p := by
      obtain ⟨q, _, e1, e2⟩ := elemPtr.inv _ _ _ hRv
      have e3 := HMD.out.at_ sR (litS sR) hds hkl (.lit (.bool true))
      rw [hat] at e3
      simp at e3
      rw [e2] at e3
      have e4 := elemPtr.inj _ _ e3
      subst e4
      cases c with
      | none => cases e1
      | some q2 => simp [ptrV] at e1; rw [e1]
    subst hc
    have hpl : p < w2.heap.size := (Array.getElem?_eq_some_iff.1 hp3).1
    have hrl : rb < w2.heap.size := hown.lt
    have hp4 : w4.heap[p]? = some (.cells exSt 124 (0, 0)) := (hg4.block p (Nat.lt_of_lt_of_le hpl hx3.sz) (by intro e; injection e with e; omega)).trans (nx_heap hx3 hp3)
    have b0 := cell_of_row w4 p 0 _ _ _ hp4
    have b1 := cell_of_row w4 p 1 _ _ _ hp4
    have b2 := cell_of_row w4 p 2 _ _ _ hp4
    have b3 := cell_of_row w4 p 3 _ _ _ hp4
    have b4 := cell_of_row w4 p 4 _ _ _ hp4
    have b5 := cell_of_row w4 p 5 _ _ _ hp4
    have b6 := cell_of_row w4 p 6 _ _ _ hp4
    simp [exSt] at b0 b1 b2 b3 b4 b5 b6
    have hsz4 : w2.heap.size < w4.heap.size := by rw [hs4, HS3.out]; omega
    have hen' : (Instr.entry (.pointer (some ⟨w2.heap.size, 0, none⟩))).run Tryz.prog w4 = .ok (.tuple #[.string sR, .pointer (some ⟨p, 0, none⟩)]) w4 := hen
    have hx4 : Nx w2 w4 := hx3.grown hg4 (fun j hj => by injection hj with hj; omega)
    clear hen hp4 hs4 hRv hat
    go_wp2_with (at_builtin; refine wpApp rfl _ _ _ rfl el_State encSt encSt_len encSt_one (by omega) (by omega) (w2.heap.size + 1) _ [] rfl (HO0.out _) _ () _ rfl (hnew rfl) rfl (by simp) (by simp; omega) ?_; intro v5 w5 hown5 hg5)
    have hrg5 := (hrg4.alloc (.cells exSt 124)).kept hg5 (fun e => by cases e) (fun e => by cases e)
    have hx5 : Nx w2 w5 := (hx4.alloc _).grown hg5 (fun j hj => by cases hj)
    obtain ⟨A5, c5, ev, _, hA5⟩ := Rd.of_own encSt_len rfl hown5
    obtain rfl := ev
    have HL := hide hlk
    clear hlk hlt4 b0 b1 b2 b3 b4 b5 b6
    rw [rounds_succ]
    go_wp2_with (at_next; refine wpList_next_ranges _ rfl _ rfl 9 law_strE ptrElem Value.string ptrV (fun key kl hkey => (by obtain ⟨x, rfl, _⟩ := keyS_inv Tryz.underlying9 hkey; exact ⟨x, rfl⟩)) (fun v y hv => (by obtain ⟨q, _, h, _⟩ := elemPtr.inv v y.1 y.2 hv; exact ⟨q, h⟩)) rb w2.heap.size 1 _ _ _ rfl hrg5 ?_ ?_)
    · intro _ hl0
      obtain ⟨g5, hg5e, _, _⟩ := hA5' A5 hA5 hown5
      subst hg5e
      go_wp2_with (go_at_call 62; refine (w_SortSt g5 c5 _ _).mono ?_; rintro e w6 ⟨rfl, rfl⟩)
      go_ret2
      exact ⟨_, _, rfl, (hn1.trans hn2).trans hx5⟩
    · intro k c kl y' ps' w6 cnt6 hkey6 hlk6 hsk6 _ _ _ _ _ _ _
      exfalso
      obtain ⟨k0, ek, hdk6, rfl⟩ := keyS_inv Tryz.underlying9 hkey6
      obtain rfl := strV_inj _ _ ek
      have hfs : (if k = sR then some (some p) else none : Option (Option Nat)).isSome = true := by
        rw [← hMD_has HMD.out hdk6 (keyS_mk Tryz.underlying9 hdk6)]; exact hlk6
      have hk : k = sR := by
        by_cases e : k = sR
        · exact e
        · rw [if_neg e] at hfs; cases hfs
      rw [hk, sameS_self] at hsk6
      cases hsk6
end Go.Proofs.YtfnbmcinbmbehaaGreatDoor
