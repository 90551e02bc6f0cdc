/- The walks of the smallest functions of numbers: those that all packages use. -/
import Derived.Test.YtfkmbeppckelfaaGreatDoorRows
import Derived.Test.YtfkmbeppckelfaaGreatDoorQG0
import Derived.Deep.QuietTactic
import Derived.BigQuiet
import Derived.Outline
import Derived.Maps.Keyed
import Derived.DeepKeys4
import Derived.KernelRfl
import Derived.Maps.Own
import Derived.Maps.OwnOps
import Derived.Maps.OwnSet
import Derived.Maps.Views
import Derived.Maps.RangeWalk
import Derived.Laws.Cover1
import Derived.Lib.Bytealg
import Derived.Sort.LotA
import Derived.Shelf.SlSortCmp.Insertion
namespace Go.Proofs.YtfkmbeppckelfaaGreatDoor
open Go.RowKit

theorem ret_bool {a b : Bool} (h : a = b) : Ending.returned (.bool a) = .returned (.bool b) := by rw [h]
theorem ret_int {k : IntKind} {a b : Int} (h : a = b) : Ending.returned (.int k a) = .returned (.int k b) := by rw [h]

theorem w_Out (n l h : Int) (w : World) : Calls Tryz.prog 85 #[.int .i64 n, .int .i64 l, .int .i64 h] w fun e w' => e = .returned (.bool (outB n l h)) ∧ w = w' := by
  by_cases h1 : n < l <;> by_cases h2 : h < n
  all_goals
    go_enter Tryz.func85, Tryz.ntmps85
    go_wp2
    go_ret
    exact ⟨ret_bool (by unfold outB; simp; omega), rfl⟩

theorem w_in (n l h : Int) (w : World) : Calls Tryz.prog 78 #[.int .i64 n, .int .i64 l, .int .i64 h] w fun e w' => e = .returned (.bool (inB n l h)) ∧ w = w' := by
  by_cases h1 : l ≤ n <;> by_cases h2 : n ≤ h
  all_goals
    go_enter Tryz.func78, Tryz.ntmps78
    go_wp2
    go_ret
    exact ⟨ret_bool (by unfold inB; simp; omega), rfl⟩

end Go.Proofs.YtfkmbeppckelfaaGreatDoor
/- cmp.Compare of numbers. -/
namespace Go.Proofs.YtfkmbeppckelfaaGreatDoor
open Go.RowKit

theorem w_isNaN (a : Int) (w : World) : Calls Tryz.prog 117 #[.int .i64 a] w fun e w' => e = .returned (.bool false) ∧ w = w' := by
  go_enter Tryz.func117, Tryz.ntmps117
  go_wp2
  go_ret
  exact ⟨rfl, rfl⟩

theorem w_Compare (a b : Int) (w : World) : Calls Tryz.prog 83 #[.int .i64 a, .int .i64 b] w fun e w' => e = .returned (.int .i64 (cmpI a b)) ∧ w = w' := by
  by_cases h1 : a < b
  · go_enter Tryz.func83, Tryz.ntmps83
    go_wp2_with (go_at_call 117; refine (w_isNaN _ _).mono ?_; rintro e w' ⟨rfl, rfl⟩)
    go_ret
    exact ⟨ret_int (by unfold cmpI; simp [h1]), rfl⟩
  · by_cases h2 : b < a
    · go_enter Tryz.func83, Tryz.ntmps83
      go_wp2_with (go_at_call 117; refine (w_isNaN _ _).mono ?_; rintro e w' ⟨rfl, rfl⟩)
      go_ret
      exact ⟨ret_int (by unfold cmpI; simp [h1, h2]), rfl⟩
    · go_enter Tryz.func83, Tryz.ntmps83
      go_wp2_with (go_at_call 117; refine (w_isNaN _ _).mono ?_; rintro e w' ⟨rfl, rfl⟩)
      go_ret
      exact ⟨ret_int (by unfold cmpI; rw [if_neg (by omega), if_neg (by omega)]), rfl⟩

end Go.Proofs.YtfkmbeppckelfaaGreatDoor
/- The walks of the smallest functions of numbers. -/
namespace Go.Proofs.YtfkmbeppckelfaaGreatDoor
open Go.RowKit

theorem w_Moment (n : Int) (w : World) : Calls Tryz.prog 86 #[.int .i64 n] w fun e w' => e = .returned (.bool (momB n)) ∧ w = w' := by
  have H := hide (show outB n 0 345686399999 = outB n 0 lastMo from rfl)
  go_enter Tryz.func86, Tryz.ntmps86
  go_wp2_with (go_at_call 85; rw [show (345686399999 : Int) = lastMo from rfl]; refine (w_Out _ _ _ _).mono ?_; rintro e w' ⟨rfl, rfl⟩)
  go_ret
  exact ⟨ret_bool (by unfold momB; rfl), rfl⟩

theorem w_MomentFault (x : Int) (w : World) : Calls Tryz.prog 79 #[.int .i64 x] w fun e w' => e = .returned (.int .i64 (momF x)) ∧ w = w' := by
  have e1 := inB_out x 0 lastMo
  go_enter Tryz.func79, Tryz.ntmps79
  cases h1 : outB x 0 lastMo
  all_goals
    rw [h1] at e1
    go_wp2_with (go_at_call 78; rw [show (345686399999 : Int) = lastMo from rfl]; refine (w_in _ _ _ _).mono ?_; rintro e w' ⟨rfl, rfl⟩)
    go_ret
    exact ⟨ret_int (by unfold momF momB; simp [h1, argF]), rfl⟩

end Go.Proofs.YtfkmbeppckelfaaGreatDoor
/- Maps: the keys. -/
namespace Go.Proofs.YtfkmbeppckelfaaGreatDoor
open Go.RowKit Go.Maps

theorem tySize : Tryz.prog.types.size = 308 := by kernel_rfl
theorem laidOut : laidOutB Tryz.prog = true := by kernel_rfl
theorem cells_int : Tryz.prog.cellsOf 3 = 1 := by kernel_rfl

theorem lits_int (d : Nat) (x : Int) (hx : (Lit.int .i64 x).wf = true) : Tryz.prog.keyLits (d + 1) 3 [.int .i64 x] = some [.int .i64 x] := by
  unfold Program.keyLits; rw [Tryz.underlying3]; simp [hx]
end Go.Proofs.YtfkmbeppckelfaaGreatDoor
/- A map whose elements are of any kind, said of a plain function; pointers to blocks as elements. Of no program. -/
namespace Go.Proofs.YtfkmbeppckelfaaGreatDoor
open Go.RowKit Go.Maps

/-- R reads the values 'ev v', and no others as what they read as. -/
structure ElemR {V : Type} (R : Value → Option (DataW Unit × List MemPlace)) (ev : V → Value) (dv : V → DataW Unit) (okv : V → Prop) : Prop where
  make : ∀ v, okv v → ∃ ps, R (ev v) = some (dv v, ps)
  inv : ∀ x d ps, R x = some (d, ps) → ∃ v, okv v ∧ x = ev v ∧ d = dv v
  inj : ∀ a b, dv a = dv b → a = b

theorem elemInt {P : Program} {E : TypeId} (he : P.underlying E = some (.int .i64)) : ElemR (plainElem P E) (Value.int .i64) (fun z => .lit (.int .i64 z)) (fun z => (Lit.int .i64 z).wf = true) where
  make z h := ⟨[], plainElem_int he h⟩
  inv x d ps h := by
    obtain ⟨a, rfl, e, hw⟩ := plainElem_int_inv he h
    injection e with e1 e2
    exact ⟨a, hw, rfl, e1⟩
  inj a b h := by injection h with h; injection h
theorem elemBool {P : Program} {E : TypeId} (he : P.underlying E = some .bool) : ElemR (plainElem P E) Value.bool (fun z => .lit (.bool z)) (fun _ => True) where
  make z _ := ⟨[], plainElem_bool he z⟩
  inv x d ps h := by
    unfold plainElem at h
    rw [he] at h
    cases x <;> simp at h
    obtain ⟨rfl, _⟩ := h
    exact ⟨_, trivial, rfl, rfl⟩
  inj a b h := by injection h with h; injection h

/-- A pointer to a block's head, or nil. -/
def ptrV : Option Nat → Value
  | none => .pointer none
  | some b => .pointer (some ⟨b, 0, none⟩)
def ptrD : Option Nat → DataW Unit
  | none => .lit (.bool false)
  | some b => .lit (.int .i64 (b : Int))
def ptrElem : Value → Option (DataW Unit × List MemPlace)
  | .pointer none => some (.lit (.bool false), [])
  | .pointer (some ⟨b, 0, none⟩) => some (.lit (.int .i64 (b : Int)), [])
  | _ => none
theorem elemPtr : ElemR ptrElem ptrV ptrD (fun _ => True) where
  make v _ := by cases v <;> exact ⟨[], rfl⟩
  inv x d ps h := by
    unfold ptrElem at h
    split at h
    · injection h with h; injection h with h1 h2; exact ⟨none, trivial, rfl, h1.symm⟩
    · rename_i b
      injection h with h; injection h with h1 h2; exact ⟨some b, trivial, rfl, h1.symm⟩
    · cases h
  inj a b h := by
    cases a <;> cases b <;> simp [ptrD] at h <;> first | rfl | (congr 1; omega)

section
variable {κ V : Type} {P : Program} {K : TypeId} {ek : κ → Value} {dom : κ → Prop} {R : Value → Option (DataW Unit × List MemPlace)} {ev : V → Value} {dv : V → DataW Unit} {okv : V → Prop}

structure MgD (P : Program) (K : TypeId) (ek : κ → Value) (dom : κ → Prop) (dv : V → DataW Unit) (D : DataW Unit) (f : κ → Option V) : Prop where
  isMap : IsMap D
  at_ : ∀ k l, dom k → keyOf P K (ek k) = some l → ∀ z, D.atKey l z = (match f k with | some v => dv v | none => z)
  keys : ∀ l, has D l = true → ∃ k, dom k ∧ keyOf P K (ek k) = some l
  dm : ∀ k, (f k).isSome = true → dom k
/-- Block b is a map that holds f k at key k, if it has the key at all. -/
def MgI (P : Program) (K : TypeId) (ek : κ → Value) (dom : κ → Prop) (R : Value → Option (DataW Unit × List MemPlace)) (dv : V → DataW Unit) (w : World) (b n : Nat) (f : κ → Option V) : Prop :=
  ∃ D : DataW Unit, w.ownsMap P K R b n D ∧ MgD P K ek dom dv D f
theorem MgI.lt {w : World} {b n : Nat} {f : κ → Option V} (h : MgI P K ek dom R dv w b n f) : b < w.heap.size := by
  obtain ⟨D, h1, _⟩ := h; exact h1.lt
theorem MgI.grown {w w' : World} {b n : Nat} {row : Option Nat} {f : κ → Option V} (h : MgI P K ek dom R dv w b n f) (hg : w.grownBy w' row) (hne : some b ≠ row) : MgI P K ek dom R dv w' b n f := by
  obtain ⟨D, h1, h2⟩ := h
  exact ⟨D, h1.kept hg hne, h2⟩
theorem MgI.nx {w w' : World} {b n : Nat} {f : κ → Option V} (h : MgI P K ek dom R dv w b n f) (hn : Nx w w') : MgI P K ek dom R dv w' b n f := h.grown (hn.gr none) (by simp)
theorem MgI.gr {w w' : World} {b n s : Nat} {f : κ → Option V} (h : MgI P K ek dom R dv w b n f) (hn : Gr s w w') (hs : b ≠ s) : MgI P K ek dom R dv w' b n f := h.grown (row := some s) hn (by simpa using hs)
theorem MgI.mono {w : World} {b n n' : Nat} {f : κ → Option V} (h : MgI P K ek dom R dv w b n f) (hn : n ≤ n') : MgI P K ek dom R dv w b n' f := by
  obtain ⟨D, h1, h2⟩ := h; exact ⟨D, h1.mono hn, h2⟩
theorem MgI.made (w : World) : MgI P K ek dom R dv (w.alloc (.map #[] 0)) w.heap.size 0 (fun _ : κ => (none : Option V)) :=
  ⟨.map [], World.ownsMap_made w P K _, isMap_empty, fun _ _ _ _ _ => rfl, fun l h => (by simp [has_eq] at h), fun k h => by cases h⟩
theorem MgD.has_ {D : DataW Unit} {f : κ → Option V} (h : MgD P K ek dom dv D f) {k : κ} (hd : dom k) {l : Lit} (hkey : keyOf P K (ek k) = some l) : has D l = (f k).isSome := by
  have e := h.at_ k l hd hkey
  cases hf : f k with
  | none => rw [hf] at e; exact has_false_of_atKey e
  | some v => rw [hf] at e; exact has_true_of_atKey e
/-- 'm[k]'. -/
theorem MgI.look (ER : ElemR R ev dv okv) {w : World} {b n : Nat} {f : κ → Option V} {t E : TypeId} (h : MgI P K ek dom R dv w b n f) (KL : Keyed P K) (ht : P.underlying t = some (.map K E)) {z : V} (hzo : okv z) (hz : (zeroValue E).run P w = .ok (ev z) w)
    {k : κ} (hd : dom k) {l : Lit} (hkey : keyOf P K (ek k) = some l) : (Instr.lookup t (.map (some b)) (ek k) false).run P w = .ok (ev ((f k).getD z)) w ∧ okv ((f k).getD z) := by
  obtain ⟨D, h1, h2⟩ := h
  obtain ⟨ps0, hzd⟩ := ER.make z hzo
  obtain ⟨v, ps, hrun, hv⟩ := h1.lookup KL ht hz hzd hkey
  obtain ⟨v', ho, rfl, e1⟩ := ER.inv _ _ _ hv
  have e := h2.at_ k l hd hkey (dv z)
  have e2 : v' = (f k).getD z := by
    rw [e1] at e
    cases hf : f k with
    | none => rw [hf] at e; exact ER.inj _ _ e
    | some u => rw [hf] at e; exact ER.inj _ _ e
  subst e2
  exact ⟨hrun, ho⟩
/-- 'v, is := m[k]'. -/
theorem MgI.look_ok (ER : ElemR R ev dv okv) {w : World} {b n : Nat} {f : κ → Option V} {t E : TypeId} (h : MgI P K ek dom R dv w b n f) (KL : Keyed P K) (ht : P.underlying t = some (.map K E)) {z : V} (hzo : okv z) (hz : (zeroValue E).run P w = .ok (ev z) w)
    {k : κ} (hd : dom k) {l : Lit} (hkey : keyOf P K (ek k) = some l) : (Instr.lookup t (.map (some b)) (ek k) true).run P w = .ok (.tuple #[ev ((f k).getD z), .bool (f k).isSome]) w ∧ okv ((f k).getD z) := by
  obtain ⟨D, h1, h2⟩ := h
  obtain ⟨ps0, hzd⟩ := ER.make z hzo
  obtain ⟨v, ps, hrun, hv⟩ := h1.look_ok KL ht hz hzd hkey
  obtain ⟨v', ho, rfl, e1⟩ := ER.inv _ _ _ hv
  have e := h2.at_ k l hd hkey (dv z)
  have e2 : v' = (f k).getD z := by
    rw [e1] at e
    cases hf : f k with
    | none => rw [hf] at e; exact ER.inj _ _ e
    | some u => rw [hf] at e; exact ER.inj _ _ e
  subst e2
  rw [h2.has_ hd hkey] at hrun
  exact ⟨hrun, ho⟩
theorem MgD.put [DecidableEq κ] {D : DataW Unit} {f : κ → Option V} (h : MgD P K ek dom dv D f) (KL : Keyed P K) (hinj : ∀ a b : κ, ek a = ek b → a = b) {k : κ} (hd : dom k) {l : Lit} (hkey : keyOf P K (ek k) = some l) (v : V) :
    MgD P K ek dom dv (D.put l (dv v)) (fun k' => if k' = k then some v else f k') where
  isMap := h.isMap.put _ _
  at_ k' l' hd' hk' z := by
    by_cases e : k' = k
    · subst e
      rw [hkey] at hk'; injection hk' with hk'; subst hk'
      rw [if_pos rfl]
      exact atKey_put_same h.isMap (KL.key hkey) _ _
    · rw [if_neg e]
      have hne : l' ≠ l := fun e1 => by subst e1; exact e (hinj _ _ (KL.inj hk' hkey))
      rw [atKey_put_other hne]
      exact h.at_ k' l' hd' hk' z
  keys l' hl' := by
    by_cases e : l' = l
    · subst e; exact ⟨k, hd, hkey⟩
    · rw [has_put_other e] at hl'; exact h.keys l' hl'
  dm k' hk' := by
    by_cases e : k' = k
    · subst e; exact hd
    · rw [if_neg e] at hk'; exact h.dm k' hk'
/-- 'm[k] = v'. -/
theorem MgI.upd [DecidableEq κ] (ER : ElemR R ev dv okv) {w : World} {b n : Nat} {f : κ → Option V} {t E : TypeId} (h : MgI P K ek dom R dv w b n f) (KL : Keyed P K) (hinj : ∀ a b : κ, ek a = ek b → a = b) (ht : P.underlying t = some (.map K E)) (hn : n < maxLen)
    {k : κ} (hd : dom k) {l : Lit} (hkey : keyOf P K (ek k) = some l) (v : V) (hv : okv v) :
    ∃ w', (Instr.mapUpdate t (.map (some b)) (ek k) (ev v)).run P w = .ok () w' ∧ MgI P K ek dom R dv w' b (n + 1) (fun k' => if k' = k then some v else f k') ∧ Gr b w w' := by
  obtain ⟨D, h1, h2⟩ := h
  obtain ⟨ps, hR⟩ := ER.make v hv
  obtain ⟨w', hr, ho, hg⟩ := h1.update KL ht hn hkey hR
  exact ⟨w', hr, ⟨_, ho, h2.put KL hinj hd hkey v⟩, hg⟩
/-- 'm[k] = v' at the operation. -/
theorem wpMgPut [DecidableEq κ] (w : World) {ops : Array Oper} {rest : List Oper} {o : Oper} {a : Act} {Q : Exit → Act → World → Prop}
    (hg : o.guard = none) (m x v : Operand) (t : TypeId) (hop : o.op = Op.mapUpdate t m x v) (ER : ElemR R ev dv okv) {E : TypeId}
    (KL : Keyed P K) (hinj : ∀ a b : κ, ek a = ek b → a = b) (ht : P.underlying t = some (.map K E)) (b n : Nat) (f : κ → Option V)
    (hm : a.eval m = .map (some b)) (hown : MgI P K ek dom R dv w b n f) (hn : n < maxLen) (k : κ) (hx : a.eval x = ek k) (hd : dom k) (l : Lit) (hkey : keyOf P K (ek k) = some l)
    (z : V) (hz : a.eval v = ev z) (hwf : okv z)
    (hK : ∀ w', MgI P K ek dom R dv w' b (n + 1) (fun k' => if k' = k then some z else f k') → Gr b w w' → wpList P ops Q rest (a.put o.dst undef) w') :
    wpList P ops Q (o :: rest) a w := by
  refine wpList_plain hg fun K' hK' => ?_
  obtain ⟨w', hrun, r1, r2⟩ := hown.upd ER KL hinj ht hn hd hkey z hwf
  unfold Oper.wp
  simp [execOp, hop, hm, hx, hz, hrun, Result.andThen]
  exact hK' _ _ (hK w' r1 r2)
/-- The number of entries: no more than n. -/
theorem MgI.size {w : World} {b n : Nat} {f : κ → Option V} (h : MgI P K ek dom R dv w b n f) {t E : TypeId} (ht : P.underlying t = some (.map K E)) (ty : TypeId) : ∃ m : Nat, m ≤ n ∧ (Builtin.len_ #[t] ty #[.map (some b)]).run P w = .ok (.int .i64 (m : Int)) w := by
  obtain ⟨D, h1, h2⟩ := h
  refine ⟨Maps.size D, ?_, by simpa using h1.len ht ty⟩
  obtain ⟨es, clock, _, _, h3, rfl⟩ := h1
  rw [size_eq, length_sorted]; simpa using h3
end
end Go.Proofs.YtfkmbeppckelfaaGreatDoor
/- A map of integers in which it counts whether a key is there, said of a plain function. Of no program. -/
namespace Go.Proofs.YtfkmbeppckelfaaGreatDoor
open Go.RowKit Go.Maps

section
variable {κ : Type} {P : Program} {K E : TypeId} {ek : κ → Value} {dom : κ → Prop}

/-- The map's datum D holds f k at key k, if it has the key at all; its keys lie in dom. -/
structure MoD (P : Program) (K : TypeId) (ek : κ → Value) (dom : κ → Prop) (D : DataW Unit) (f : κ → Option Int) : Prop where
  isMap : IsMap D
  at_ : ∀ k l, dom k → keyOf P K (ek k) = some l → ∀ z, D.atKey l z = (match f k with | some v => .lit (.int .i64 v) | none => z)
  keys : ∀ l, has D l = true → ∃ k, dom k ∧ keyOf P K (ek k) = some l
  dm : ∀ k, (f k).isSome = true → dom k

/-- Block b is such a map. -/
def MoI (P : Program) (K E : TypeId) (ek : κ → Value) (dom : κ → Prop) (w : World) (b n : Nat) (f : κ → Option Int) : Prop :=
  ∃ D : DataW Unit, w.ownsMap P K (plainElem P E) b n D ∧ MoD P K ek dom D f

theorem MoI.lt {w : World} {b n : Nat} {f : κ → Option Int} (h : MoI P K E ek dom w b n f) : b < w.heap.size := by
  obtain ⟨D, h1, _⟩ := h; exact h1.lt
theorem MoI.nx {w w' : World} {b n : Nat} {f : κ → Option Int} (h : MoI P K E ek dom w b n f) (hn : Nx w w') : MoI P K E ek dom w' b n f := by
  obtain ⟨D, h1, h2⟩ := h
  exact ⟨D, h1.kept (hn.gr none) (by simp), h2⟩
theorem MoI.gr {w w' : World} {b n s : Nat} {f : κ → Option Int} (h : MoI P K E ek dom w b n f) (hn : Gr s w w') (hs : b ≠ s) : MoI P K E ek dom w' b n f := by
  obtain ⟨D, h1, h2⟩ := h
  exact ⟨D, h1.kept (row := some s) hn (by simpa using hs), h2⟩
theorem MoI.mono {w : World} {b n n' : Nat} {f : κ → Option Int} (h : MoI P K E ek dom w b n f) (hn : n ≤ n') : MoI P K E ek dom w b n' f := by
  obtain ⟨D, h1, h2⟩ := h; exact ⟨D, h1.mono hn, h2⟩
theorem MoI.made (w : World) : MoI P K E ek dom (w.alloc (.map #[] 0)) w.heap.size 0 (fun _ => none) :=
  ⟨.map [], World.ownsMap_made w P K _, isMap_empty, fun _ _ _ _ _ => rfl, fun l h => (by simp [has_eq] at h), fun k h => by cases h⟩
theorem wf_i64o {n : Int} : (Lit.int .i64 n).wf = true ↔ -9223372036854775808 ≤ n ∧ n ≤ 9223372036854775807 := by
  simp [Lit.wf, IntKind.min, IntKind.max, IntKind.signed, IntKind.bits]
theorem MoD.has_ {D : DataW Unit} {f : κ → Option Int} (h : MoD P K ek dom D f) {k : κ} (hd : dom k) {l : Lit} (hkey : keyOf P K (ek k) = some l) : has D l = (f k).isSome := by
  have e := h.at_ k l hd hkey
  cases hf : f k with
  | none => rw [hf] at e; exact has_false_of_atKey e
  | some v => rw [hf] at e; exact has_true_of_atKey e

theorem MoI.look {w : World} {b n : Nat} {f : κ → Option Int} {t : TypeId} (h : MoI P K E ek dom w b n f) (KL : Keyed P K) (ht : P.underlying t = some (.map K E)) (he : P.underlying E = some (.int .i64)) (hz : (zeroValue E).run P w = .ok (.int .i64 0) w)
    {k : κ} (hd : dom k) {l : Lit} (hkey : keyOf P K (ek k) = some l) : (Instr.lookup t (.map (some b)) (ek k) false).run P w = .ok (.int .i64 ((f k).getD 0)) w ∧ (Lit.int .i64 ((f k).getD 0)).wf = true := by
  obtain ⟨D, h1, h2⟩ := h
  obtain ⟨c, hrun, hat, hwf⟩ := h1.lookup_int KL ht he hz hkey
  have e := h2.at_ k l hd hkey (.lit (.int .i64 0))
  rw [hat] at e
  have e' : c = (f k).getD 0 := by
    cases hf : f k with
    | none => rw [hf] at e; injection e with e; injection e
    | some v => rw [hf] at e; injection e with e; injection e
  subst e'
  exact ⟨hrun, hwf⟩

theorem MoD.put {D : DataW Unit} {f : κ → Option Int} [DecidableEq κ] (h : MoD P K ek dom D f) (KL : Keyed P K) (hinj : ∀ a b : κ, ek a = ek b → a = b) {k : κ} (hd : dom k) {l : Lit} (hkey : keyOf P K (ek k) = some l) (v : Int) :
    MoD P K ek dom (D.put l (.lit (.int .i64 v))) (fun k' => if k' = k then some v else f k') where
  isMap := h.isMap.put _ _
  at_ k' l' hd' hk' z := by
    by_cases e : k' = k
    · subst e
      rw [hkey] at hk'; injection hk' with hk'; subst hk'
      rw [if_pos rfl]
      exact atKey_put_same h.isMap (KL.key hkey) _ _
    · rw [if_neg e]
      have hne : l' ≠ l := fun e1 => by subst e1; exact e (hinj _ _ (KL.inj hk' hkey))
      rw [atKey_put_other hne]
      exact h.at_ k' l' hd' hk' z
  keys l' hl' := by
    by_cases e : l' = l
    · subst e; exact ⟨k, hd, hkey⟩
    · rw [has_put_other e] at hl'; exact h.keys l' hl'
  dm k' hk' := by
    by_cases e : k' = k
    · subst e; exact hd
    · rw [if_neg e] at hk'; exact h.dm k' hk'

/-- 'm[k] = v'. -/
theorem MoI.upd {w : World} {b n : Nat} {f : κ → Option Int} [DecidableEq κ] {t : TypeId} (h : MoI P K E ek dom w b n f) (KL : Keyed P K) (hinj : ∀ a b : κ, ek a = ek b → a = b) (ht : P.underlying t = some (.map K E)) (he : P.underlying E = some (.int .i64)) (hn : n < maxLen)
    {k : κ} (hd : dom k) {l : Lit} (hkey : keyOf P K (ek k) = some l) (v : Int) (hv : (Lit.int .i64 v).wf = true) :
    ∃ w', (Instr.mapUpdate t (.map (some b)) (ek k) (.int .i64 v)).run P w = .ok () w' ∧ MoI P K E ek dom w' b (n + 1) (fun k' => if k' = k then some v else f k') ∧ Gr b w w' := by
  obtain ⟨D, h1, h2⟩ := h
  obtain ⟨w', hr, ho, hg⟩ := h1.update KL ht hn hkey (plainElem_int (H := Unit) he hv)
  exact ⟨w', hr, ⟨_, ho, h2.put KL hinj hd hkey v⟩, hg⟩

end
end Go.Proofs.YtfkmbeppckelfaaGreatDoor
/- Plain functions: what is left is given out one by one; sorting in place. -/
namespace Go.Proofs.YtfkmbeppckelfaaGreatDoor
/-- i gets one of what is left ahead of j. -/
def beats (rs : List Int) (i j : Nat) : Prop := rs.getD j 0 < rs.getD i 0 ∨ (rs.getD i 0 = rs.getD j 0 ∧ i < j)
theorem beats_asymm {rs : List Int} {i j : Nat} (h : beats rs i j) (k : beats rs j i) : False := by unfold beats at h k; omega
structure UpSet (rs : List Int) (T : List Nat) : Prop where
  nd : T.Nodup
  lt : ∀ i ∈ T, i < rs.length
  up : ∀ i ∈ T, ∀ j, j < rs.length → j ∉ T → beats rs i j
theorem nodup_len : ∀ {l m : List Nat}, l.Nodup → (∀ x ∈ l, x ∈ m) → l.length ≤ m.length
  | [], _, _, _ => by simp
  | x :: l, m, hn, hs => by
    have h1 := List.nodup_cons.1 hn
    have h2 : l.length ≤ (m.erase x).length := nodup_len h1.2 (fun y hy => by
      have hne : y ≠ x := fun e => h1.1 (e ▸ hy)
      exact (List.mem_erase_of_ne hne).2 (hs y (List.mem_cons_of_mem _ hy)))
    have h3 := List.length_erase_of_mem (hs x (by simp))
    have h4 : 0 < m.length := List.length_pos_of_mem (hs x (by simp))
    simp only [List.length_cons]
    omega
theorem UpSet.sub {rs : List Int} {S T : List Nat} (hS : UpSet rs S) (hT : UpSet rs T) (hl : S.length = T.length) : ∀ i ∈ S, i ∈ T := by
  intro a ha
  refine Classical.byContradiction fun hna => ?_
  have hb : ∃ b ∈ T, b ∉ S := by
    refine Classical.byContradiction fun hno => ?_
    have hsub : ∀ x ∈ T, x ∈ S.erase a := fun x hx => by
      have hxS : x ∈ S := Classical.byContradiction fun h => hno ⟨x, hx, h⟩
      have hne : x ≠ a := fun e => hna (e ▸ hx)
      exact (List.mem_erase_of_ne hne).2 hxS
    have h1 := nodup_len hT.nd hsub
    have h2 := List.length_erase_of_mem ha
    have h3 : 0 < S.length := List.length_pos_of_mem ha
    omega
  obtain ⟨b, hb, hbS⟩ := hb
  exact beats_asymm (hS.up a ha b (hT.lt b hb) hbS) (hT.up b hb a (hS.lt a ha) hna)
theorem UpSet.same {rs : List Int} {S T : List Nat} (hS : UpSet rs S) (hT : UpSet rs T) (hl : S.length = T.length) (i : Nat) : i ∈ S ↔ i ∈ T :=
  ⟨hS.sub hT hl i, hT.sub hS hl.symm i⟩
/-- One more for those in T. -/
def bump (qs : List Int) (T : List Nat) : List Int := qs.mapIdx (fun i q => if i ∈ T then q + 1 else q)
theorem bump_len (qs : List Int) (T : List Nat) : (bump qs T).length = qs.length := by simp [bump]
/-- What is given out: rounded down, and what is left one by one to those ahead. -/
def Dealt (qs rs : List Int) (left : Nat) (zs : List Int) : Prop := ∃ T, UpSet rs T ∧ T.length = left ∧ zs = bump qs T
/-- What the reference still looks at. -/
def cur (rs : List Int) (T : List Nat) : List Int := rs.mapIdx (fun i r => if i ∈ T then -1 else r)
theorem UpSet.nil (rs : List Int) : UpSet rs [] := ⟨List.nodup_nil, by simp, by simp⟩
/-- The first ones of all, in order. -/
theorem UpSet.take {rs : List Int} {l : List Nat} (hp : l.Perm (List.range rs.length)) (hs : l.Pairwise (beats rs)) (k : Nat) : UpSet rs (l.take k) := by
  have hnd : l.Nodup := hp.nodup_iff.2 List.nodup_range
  refine ⟨?_, ?_, ?_⟩
  · exact List.Nodup.sublist (List.take_sublist k l) hnd
  · intro i hi
    exact List.mem_range.1 (hp.mem_iff.1 (List.mem_of_mem_take hi))
  · intro i hi j hj hjT
    have hjl : j ∈ l := hp.mem_iff.2 (List.mem_range.2 hj)
    have hjd : j ∈ l.drop k := by
      rw [← List.take_append_drop k l] at hjl
      exact (List.mem_append.1 hjl).resolve_left hjT
    rw [← List.take_append_drop k l] at hs
    exact (List.pairwise_append.1 hs).2.2 i hi j hjd
end Go.Proofs.YtfkmbeppckelfaaGreatDoor
/- Plain: a whole given out by parts. -/
namespace Go.Proofs.YtfkmbeppckelfaaGreatDoor

def sumL : List Int → Int
  | [] => 0
  | x :: l => x + sumL l
def qsN (nums : List Int) (F : Int) : List Int := nums.map (· / F)
def rsN (nums : List Int) (F : Int) : List Int := nums.map (· % F)
def leftN (all : Int) (nums : List Int) (F : Int) : Int := all - sumL (qsN nums F)
theorem qsN_len (nums : List Int) (F : Int) : (qsN nums F).length = nums.length := by simp [qsN]
/-- A whole 'all' given out by numbers of which all together are F times it. -/
def Handed (all : Int) (nums : List Int) (F : Int) (zs : List Int) : Prop := Dealt (qsN nums F) (rsN nums F) (leftN all nums F).toNat zs
theorem Handed.len {all : Int} {nums : List Int} {F : Int} {zs : List Int} (h : Handed all nums F zs) : zs.length = nums.length := by
  obtain ⟨T, _, _, rfl⟩ := h
  rw [bump_len, qsN_len]
def numsD (cents : Int) (parts : List Int) : List Int := parts.map (fun p => cents * p)
/-- Cents given out by parts. -/
def Divided (cents : Int) (parts : List Int) (zs : List Int) : Prop := Handed cents (numsD cents parts) (sumL parts) zs
end Go.Proofs.YtfkmbeppckelfaaGreatDoor
/- Plain functions: what is wrong with keys, parts, costs, dues, steps; gains, refunds. -/
namespace Go.Proofs.YtfkmbeppckelfaaGreatDoor

structure Due where
  key : ByteArray
  cents : Int
instance : Inhabited Due := ⟨⟨default, 0⟩⟩
def encS (s : ByteArray) : List Value := [.string s]
structure Frac where
  num : Int
  den : Int
instance : Inhabited Frac := ⟨⟨0, 0⟩⟩
end Go.Proofs.YtfkmbeppckelfaaGreatDoor
/- Plain: sums by key; the list of them that is sorted by key; legs split by keys. -/
namespace Go.Proofs.YtfkmbeppckelfaaGreatDoor
open Go.Sort Go.Proofs Go.Shelf

/-- v more at key k. -/
def addK (f : ByteArray → Option Int) (k : ByteArray) (v : Int) : ByteArray → Option Int := fun k' => if k' = k then some ((f k).getD 0 + v) else f k'
/-- Nothing is below 0, nor above B. -/
def BndK (f : ByteArray → Option Int) (B : Int) : Prop := ∀ k, 0 ≤ (f k).getD 0 ∧ (f k).getD 0 ≤ B
theorem BndK.add {f : ByteArray → Option Int} {B v V : Int} (h : BndK f B) (k : ByteArray) (h0 : 0 ≤ v) (h1 : v ≤ V) : BndK (addK f k v) (B + V) := by
  intro k'
  unfold addK
  have h2 := h k
  by_cases e : k' = k
  · subst e; simp; omega
  · have := h k'
    simp [e]; omega
end Go.Proofs.YtfkmbeppckelfaaGreatDoor
/- Sums by key that a loop over a map collects. Of no program. -/
namespace Go.Proofs.YtfkmbeppckelfaaGreatDoor
open Go.RowKit Go.Sort Go.Maps Go.Proofs Go.Shelf

def domS (k : ByteArray) : Prop := k.size ≤ maxLen
def litS (k : ByteArray) : Lit := .string k.data.toList
theorem litS_inj {a b : ByteArray} (h : litS a = litS b) : a = b := data_inj (by unfold litS at h; injection h)
theorem keyS_mk {P : Program} {k : TypeId} (hk : P.underlying k = some .string) {s : ByteArray} (hs : domS s) : keyOf P k (.string s) = some (litS s) := by
  unfold domS at hs
  simp [keyOf, hk, mapKey, hs, litS]
theorem keyS_inv {P : Program} {k : TypeId} (hk : P.underlying k = some .string) {key : Value} {kl : Lit} (h : keyOf P k key = some kl) : ∃ s, key = .string s ∧ domS s ∧ kl = litS s := by
  cases key <;> simp [keyOf, hk, mapKey] at h
  obtain ⟨h1, rfl⟩ := h
  exact ⟨_, rfl, h1, rfl⟩
theorem strV_inj (a b : ByteArray) (h : Value.string a = Value.string b) : a = b := by injection h
theorem sameS_self (s : ByteArray) : (litS s).sameKey (litS s) = true := by simp [litS, Lit.sameKey]

end Go.Proofs.YtfkmbeppckelfaaGreatDoor
/- Cells behind calls that make memory alone. Of no program. -/
namespace Go.Proofs.YtfkmbeppckelfaaGreatDoor
open Go.RowKit

theorem nx_cell {w w' : World} {b o : Nat} {v : Value} (hn : Nx w w') (hb : b < w.heap.size) (h : w.cell? ⟨b, o, none⟩ = some v) : w'.cell? ⟨b, o, none⟩ = some v := (Below.cell hn (p := ⟨b, _, none⟩) hb).trans h
end Go.Proofs.YtfkmbeppckelfaaGreatDoor
/- Events: the maps that follow them; the keys. -/
namespace Go.Proofs.YtfkmbeppckelfaaGreatDoor
open Go.RowKit Go.Maps

theorem law_strE : Keyed Tryz.prog 9 := string_keyed Tryz.underlying9
theorem law_intE : Keyed Tryz.prog 3 := int_keyed Tryz.underlying3
theorem law_name : Keyed Tryz.prog 83 := Keyed.of_law (deep_law_laid laidOut (m := 5) (by omega) (k := 83) (by rw [tySize]; decide) (by kernel_rfl) (by kernel_rfl))
theorem kt_name : Tryz.prog.keyType 83 = true := by kernel_rfl
theorem cells_name : Tryz.prog.cellsOf 83 = 2 := by kernel_rfl
theorem cells_str : Tryz.prog.cellsOf 9 = 1 := by kernel_rfl
theorem lits_str (d : Nat) (s : ByteArray) (hs : s.size ≤ maxLen) : Tryz.prog.keyLits (d + 1) 9 [.string s] = some [.string s.data.toList] := by
  unfold Program.keyLits; rw [Tryz.underlying9]; simp [hs]
theorem lits_name (d : Nat) (s : ByteArray) (n : Int) (hs : s.size ≤ maxLen) (hn : (Lit.int .i64 n).wf = true) : Tryz.prog.keyLits (d + 2) 83 [.string s, .int .i64 n] = some [.string s.data.toList, .int .i64 n] := by
  unfold Program.keyLits; rw [Tryz.underlying83]; simp [cells_name, cells_str, cells_int, lits_str _ _ hs, lits_int _ _ hn]
/-- The name of an event. -/
structure EvName where
  source : ByteArray
  no : Int
deriving DecidableEq
def ekName (k : EvName) : Value := .agg #[.string k.source, .int .i64 k.no]
theorem ekName_inj (a b : EvName) (h : ekName a = ekName b) : a = b := by
  cases a; cases b; simp [ekName] at h; simp [h]
def domName (k : EvName) : Prop := k.source.size ≤ maxLen ∧ (Lit.int .i64 k.no).wf = true
theorem key_name (k : EvName) (h : domName k) : ∃ l, keyOf Tryz.prog 83 (ekName k) = some l := by
  refine ⟨.string (keyBytes [.string k.source.data.toList, .int .i64 k.no]), ?_⟩
  unfold keyOf ekName
  rw [Tryz.underlying83, kt_name, tySize]
  have e := lits_name 307 k.source k.no h.1 h.2
  simp [Value.formed, Tryz.underlying83, cells_name, Value.cells, e]
theorem zeroIntE (w : World) : (zeroValue 3).run Tryz.prog w = .ok (.int .i64 0) w := by kernel_rfl
theorem zeroBoolE (w : World) : (zeroValue 4).run Tryz.prog w = .ok (.bool false) w := by kernel_rfl
abbrev intE : ElemR (plainElem Tryz.prog 3) (Value.int .i64) (fun z => .lit (.int .i64 z)) (fun z => (Lit.int .i64 z).wf = true) := elemInt Tryz.underlying3
abbrev boolE : ElemR (plainElem Tryz.prog 4) Value.bool (fun z => .lit (.bool z)) (fun _ => True) := elemBool Tryz.underlying4
/-- A map from strings to numbers. -/
abbrev MpSI (w : World) (b n : Nat) (f : ByteArray → Option Int) : Prop := MgI Tryz.prog 9 Value.string domS (plainElem Tryz.prog 3) (fun z : Int => (.lit (.int .i64 z) : DataW Unit)) w b n f
/-- .. to variables. -/
abbrev MpSP (w : World) (b n : Nat) (f : ByteArray → Option (Option Nat)) : Prop := MgI Tryz.prog 9 Value.string domS ptrElem ptrD w b n f
def domI (z : Int) : Prop := (Lit.int .i64 z).wf = true
theorem key_int {z : Int} (h : domI z) : keyOf Tryz.prog 3 (.int .i64 z) = some (.int .i64 z) := keyOf_int_mk Tryz.underlying3 h
abbrev MpII (w : World) (b n : Nat) (f : Int → Option Int) : Prop := MgI Tryz.prog 3 (Value.int .i64) domI (plainElem Tryz.prog 3) (fun z : Int => (.lit (.int .i64 z) : DataW Unit)) w b n f
abbrev MpIB (w : World) (b n : Nat) (f : Int → Option Bool) : Prop := MgI Tryz.prog 3 (Value.int .i64) domI (plainElem Tryz.prog 4) (fun z : Bool => (.lit (.bool z) : DataW Unit)) w b n f
abbrev MpNI (w : World) (b n : Nat) (f : EvName → Option Int) : Prop := MgI Tryz.prog 83 ekName domName (plainElem Tryz.prog 3) (fun z : Int => (.lit (.int .i64 z) : DataW Unit)) w b n f
end Go.Proofs.YtfkmbeppckelfaaGreatDoor
/- The day in memory: rides and cars, each a block of its own. -/
namespace Go.Proofs.YtfkmbeppckelfaaGreatDoor
open Go.RowKit Go.Maps

def encEvt (x : Ev) : List Value := [.string x.source, .int .i64 x.no, .int .i64 x.at_, .int .i64 x.kind, .string x.ride, .string x.car, .string x.node, .int .i64 x.up, .int .i64 x.down, .string x.from_, .int .i64 x.number]
theorem encEvt_len (x : Ev) : (encEvt x).length = 11 := rfl
def staV (s : St) : Array Value := #[.string s.ride, .string s.car, .int .i64 s.how, .int .i64 s.up, .int .i64 s.down, .int .i64 s.on, .int .i64 s.off]
def crwV (c : Crew) (m : Nat) : Array Value := #[.string c.node, .int .i64 c.at_, .bool c.broken, .map (some m)]
def staO (s : St) : Obj := .cells (staV s) 59 (0, 0)
def crwO (c : Crew) (m : Nat) : Obj := .cells (crwV c m) 111 (0, 0)
/-- A map from strings to bools. -/
abbrev MpKB (w : World) (b n : Nat) (f : ByteArray → Option Bool) : Prop := MgI Tryz.prog 9 Value.string domS (plainElem Tryz.prog 4) (fun z : Bool => (.lit (.bool z) : DataW Unit)) w b n f

theorem mg_obj {κ V : Type} {P : Program} {K : TypeId} {ek : κ → Value} {dom : κ → Prop} {R : Value → Option (DataW Unit × List MemPlace)} {dv : V → DataW Unit} {w : World} {b n : Nat} {f : κ → Option V} (h : MgI P K ek dom R dv w b n f) : ∃ es t, w.heap[b]? = some (.map es t) := by
  obtain ⟨D, ⟨es, cl, hb, _⟩, _⟩ := h
  exact ⟨es, cl, hb⟩
theorem mg_ne {κ V : Type} {P : Program} {K : TypeId} {ek : κ → Value} {dom : κ → Prop} {R : Value → Option (DataW Unit × List MemPlace)} {dv : V → DataW Unit} {w : World} {b n p : Nat} {f : κ → Option V} {cs : Array Value} {t : TypeId} {fr : Nat × Nat} (h : MgI P K ek dom R dv w b n f) (hp : w.heap[p]? = some (.cells cs t fr)) : b ≠ p := by
  intro e; subst e
  obtain ⟨es, cl, hb⟩ := mg_obj h
  rw [hb] at hp; cases hp
theorem sta_ne {w : World} {p q m : Nat} {s : St} {c : Crew} (hp : w.heap[p]? = some (staO s)) (hq : w.heap[q]? = some (crwO c m)) : p ≠ q := by
  intro e; subst e
  rw [hp] at hq
  injection hq with hq; unfold staO crwO at hq; injection hq with _ hq _; revert hq; decide
theorem gr_at {p i : Nat} {o : Obj} {w w' : World} (hg : Gr p w w') (h : w.heap[i]? = some o) (hne : i ≠ p) : w'.heap[i]? = some o :=
  (World.grownBy.block hg i (Array.getElem?_eq_some_iff.1 h).1 (by simpa using hne)).trans h

/-- Rides: a map of pointers to blocks of their own. -/
structure RidesW (w : World) (lo rb N : Nat) (f : ByteArray → Option St) (fr : ByteArray → Option (Option Nat)) : Prop where
  map : MpSP w rb N fr
  non : ∀ k, f k = none → fr k = none
  at_ : ∀ k s, f k = some s → ∃ p, fr k = some (some p) ∧ lo ≤ p ∧ w.heap[p]? = some (staO s)
  inj : ∀ k k' p, fr k = some (some p) → fr k' = some (some p) → k = k'
/-- Cars: each a block and a map of its own. -/
structure CarsW (w : World) (lo cb N : Nat) (f : ByteArray → Option Crew) (fc : ByteArray → Option (Option Nat)) (fm : ByteArray → Nat) : Prop where
  map : MpSP w cb N fc
  non : ∀ k, f k = none → fc k = none
  at_ : ∀ k c, f k = some c → ∃ p, fc k = some (some p) ∧ lo ≤ p ∧ w.heap[p]? = some (crwO c (fm k)) ∧ lo ≤ fm k ∧ MpKB w (fm k) N c.on
  inj : ∀ k k' p, fc k = some (some p) → fc k' = some (some p) → k = k'
  injm : ∀ k k', (f k).isSome = true → (f k').isSome = true → fm k = fm k' → k = k'
structure DayW (w : World) (lo rb cb N : Nat) (D : DayP) (fr fc : ByteArray → Option (Option Nat)) (fm : ByteArray → Nat) : Prop where
  rides : RidesW w lo rb N D.rides fr
  cars : CarsW w lo cb N D.cars fc fm
  rlo : rb < lo
  clo : cb < lo
  ne : rb ≠ cb
  sz : lo ≤ w.heap.size

/-- Of what lies below lo only two maps have turned; of what lies above it maps, rides and cars alone. -/
structure Fr2 (lo rb cb : Nat) (w w' : World) : Prop where
  os : w'.os = w.os
  tape : w'.tape = w.tape
  output : w'.output = w.output
  size : w.heap.size ≤ w'.heap.size
  block : ∀ i, i < lo → i ≠ rb → i ≠ cb → w'.heap[i]? = w.heap[i]?
  cells : ∀ (i : Nat) (cs : Array Value) (t : TypeId) (fr : Nat × Nat), w.heap[i]? = some (.cells cs t fr) → t ≠ 59 → t ≠ 111 → w'.heap[i]? = some (.cells cs t fr)
theorem Fr2.refl (lo rb cb : Nat) (w : World) : Fr2 lo rb cb w w := ⟨rfl, rfl, rfl, Nat.le_refl _, fun _ _ _ _ => rfl, fun _ _ _ _ h _ _ => h⟩
theorem Fr2.trans {lo rb cb : Nat} {a b c : World} (h : Fr2 lo rb cb a b) (k : Fr2 lo rb cb b c) : Fr2 lo rb cb a c :=
  ⟨k.os.trans h.os, k.tape.trans h.tape, k.output.trans h.output, Nat.le_trans h.size k.size, fun i h1 h2 h3 => (k.block i h1 h2 h3).trans (h.block i h1 h2 h3), fun i cs t fr h1 h2 h3 => k.cells i cs t fr (h.cells i cs t fr h1 h2 h3) h2 h3⟩
theorem Fr2.gr {lo rb cb p : Nat} {b c : World} (k : Gr p b c) (hp : p = rb ∨ p = cb ∨ lo ≤ p) (hs : lo ≤ b.heap.size) (ht : ∀ (cs : Array Value) (t : TypeId) (fr : Nat × Nat), b.heap[p]? = some (.cells cs t fr) → t = 59 ∨ t = 111) : Fr2 lo rb cb b c :=
  ⟨World.grownBy.os k, World.grownBy.tape k, World.grownBy.output k, World.grownBy.size k, fun i h1 h2 h3 => World.grownBy.block k i (by omega) (by simp; omega), fun i cs t fr h1 h2 h3 =>
    gr_at k h1 (fun e => by subst e; exact (ht cs t fr h1).elim h2 h3)⟩
theorem Fr2.grMap {lo rb cb p : Nat} {b c : World} {es : Array MapEntry} {cl : Nat} (k : Gr p b c) (hp : p = rb ∨ p = cb ∨ lo ≤ p) (hs : lo ≤ b.heap.size) (hm : b.heap[p]? = some (.map es cl)) : Fr2 lo rb cb b c :=
  Fr2.gr k hp hs (fun cs t fr h => by rw [hm] at h; cases h)
theorem Fr2.grSta {lo rb cb p : Nat} {b c : World} {s : St} (k : Gr p b c) (hp : lo ≤ p) (hs : lo ≤ b.heap.size) (hm : b.heap[p]? = some (staO s)) : Fr2 lo rb cb b c :=
  Fr2.gr k (.inr (.inr hp)) hs (fun cs t fr h => by rw [hm] at h; injection h with h; unfold staO at h; injection h with _ h _; exact .inl h.symm)
theorem Fr2.grCrw {lo rb cb p m : Nat} {b c : World} {s : Crew} (k : Gr p b c) (hp : lo ≤ p) (hs : lo ≤ b.heap.size) (hm : b.heap[p]? = some (crwO s m)) : Fr2 lo rb cb b c :=
  Fr2.gr k (.inr (.inr hp)) hs (fun cs t fr h => by rw [hm] at h; injection h with h; unfold crwO at h; injection h with _ h _; exact .inr h.symm)
theorem Fr2.nx {lo rb cb : Nat} {b c : World} (k : Nx b c) (hs : lo ≤ b.heap.size) : Fr2 lo rb cb b c :=
  Fr2.gr (p := b.heap.size) (Gr.of_nx k) (.inr (.inr hs)) hs (fun cs t fr h => by have := (Array.getElem?_eq_some_iff.1 h).1; omega)
theorem Fr2.at_ {lo rb cb i : Nat} {w w' : World} {o : Obj} (h : Fr2 lo rb cb w w') (hi : i < lo) (h1 : i ≠ rb) (h2 : i ≠ cb) (ho : w.heap[i]? = some o) : w'.heap[i]? = some o := (h.block i hi h1 h2).trans ho
theorem Fr2.toNx {lo rb cb : Nat} {w w' : World} (h : Fr2 lo rb cb w w') {a : World} (hn : Nx a w) (hr : a.heap.size ≤ rb) (hc : a.heap.size ≤ cb) (hl : a.heap.size ≤ lo) : Nx a w' :=
  Below.trans hn ⟨h.os, h.tape, h.output, h.size, fun i hi => h.block i (by omega) (by omega) (by omega)⟩

theorem RidesW.step {w w' : World} {lo rb N p : Nat} {f : ByteArray → Option St} {fr : ByteArray → Option (Option Nat)} (h : RidesW w lo rb N f fr) (hg : Gr p w w') (hr : rb ≠ p) (hp : ∀ k s q, f k = some s → fr k = some (some q) → q ≠ p) : RidesW w' lo rb N f fr :=
  ⟨h.map.gr hg hr, h.non, fun k s hk => by obtain ⟨q, a, b, c⟩ := h.at_ k s hk; exact ⟨q, a, b, gr_at hg c (hp k s q hk a)⟩, h.inj⟩
theorem CarsW.step {w w' : World} {lo cb N p : Nat} {f : ByteArray → Option Crew} {fc : ByteArray → Option (Option Nat)} {fm : ByteArray → Nat} (h : CarsW w lo cb N f fc fm) (hg : Gr p w w') (hr : cb ≠ p) (hp : ∀ k c q, f k = some c → fc k = some (some q) → q ≠ p ∧ fm k ≠ p) : CarsW w' lo cb N f fc fm :=
  ⟨h.map.gr hg hr, h.non, fun k c hk => by obtain ⟨q, a, b, d, e, g⟩ := h.at_ k c hk; exact ⟨q, a, b, gr_at hg d (hp k c q hk a).1, e, g.gr hg (hp k c q hk a).2⟩, h.inj, h.injm⟩
theorem RidesW.mono {w : World} {lo rb N N' : Nat} {f : ByteArray → Option St} {fr : ByteArray → Option (Option Nat)} (h : RidesW w lo rb N f fr) (hn : N ≤ N') : RidesW w lo rb N' f fr := ⟨h.map.mono hn, h.non, h.at_, h.inj⟩
theorem CarsW.mono {w : World} {lo cb N N' : Nat} {f : ByteArray → Option Crew} {fc : ByteArray → Option (Option Nat)} {fm : ByteArray → Nat} (h : CarsW w lo cb N f fc fm) (hn : N ≤ N') : CarsW w lo cb N' f fc fm :=
  ⟨h.map.mono hn, h.non, fun k c hk => by obtain ⟨q, a, b, d, e, g⟩ := h.at_ k c hk; exact ⟨q, a, b, d, e, g.mono hn⟩, h.inj, h.injm⟩
theorem DayW.mono {w : World} {lo rb cb N N' : Nat} {D : DayP} {fr fc : ByteArray → Option (Option Nat)} {fm : ByteArray → Nat} (h : DayW w lo rb cb N D fr fc fm) (hn : N ≤ N') : DayW w lo rb cb N' D fr fc fm := ⟨h.rides.mono hn, h.cars.mono hn, h.rlo, h.clo, h.ne, h.sz⟩
section
variable {w w' : World} {lo rb cb N : Nat} {D : DayP} {fr fc : ByteArray → Option (Option Nat)} {fm : ByteArray → Nat}
/-- A block that is none of the day's turns. -/
theorem DayW.other (h : DayW w lo rb cb N D fr fc fm) {p : Nat} (hg : Gr p w w') (h1 : rb ≠ p) (h2 : cb ≠ p) (h3 : p < lo ∨ w.heap.size ≤ p) : DayW w' lo rb cb N D fr fc fm := by
  have hlt : ∀ {i : Nat} {o : Obj}, w.heap[i]? = some o → i < w.heap.size := fun h => (Array.getElem?_eq_some_iff.1 h).1
  refine ⟨h.rides.step hg h1 ?_, h.cars.step hg h2 ?_, h.rlo, h.clo, h.ne, Nat.le_trans h.sz (World.grownBy.size hg)⟩
  · intro k s q hk hq
    obtain ⟨q', a, b, c⟩ := h.rides.at_ k s hk
    rw [hq] at a; injection a with a; injection a with a; subst a
    have := hlt c; omega
  · intro k c q hk hq
    obtain ⟨q', a, b, d, e, g⟩ := h.cars.at_ k c hk
    rw [hq] at a; injection a with a; injection a with a; subst a
    have := hlt d; have := g.lt; omega
theorem DayW.nx (h : DayW w lo rb cb N D fr fc fm) (hn : Nx w w') : DayW w' lo rb cb N D fr fc fm :=
  h.other (p := w.heap.size) (Gr.of_nx hn) (by have := h.rlo; have := h.sz; omega) (by have := h.clo; have := h.sz; omega) (.inr (Nat.le_refl _))
/-- A ride's block turns. -/
theorem DayW.stPut (h : DayW w lo rb cb N D fr fc fm) {k : ByteArray} {p : Nat} {s s' : St} (hs : D.rides k = some s) (hp : fr k = some (some p)) (hg : Gr p w w') (hw : w'.heap[p]? = some (staO s')) : DayW w' lo rb cb N (setR D k s') fr fc fm := by
  obtain ⟨p', a, hlo, hpo⟩ := h.rides.at_ k s hs
  rw [hp] at a; injection a with a; injection a with a; subst a
  refine ⟨⟨h.rides.map.gr hg (mg_ne h.rides.map hpo), ?_, ?_, h.rides.inj⟩, h.cars.step hg (mg_ne h.cars.map hpo) ?_, h.rlo, h.clo, h.ne, Nat.le_trans h.sz (World.grownBy.size hg)⟩
  · intro j hj
    have hj : updF D.rides k s' j = none := hj
    by_cases e : j = k
    · subst e; rw [updF_same] at hj; cases hj
    · rw [updF_other _ _ e] at hj; exact h.rides.non j hj
  · intro j t hj
    have hj : updF D.rides k s' j = some t := hj
    by_cases e : j = k
    · subst e; rw [updF_same] at hj; injection hj with hj; subst hj; exact ⟨p, hp, hlo, hw⟩
    · rw [updF_other _ _ e] at hj
      obtain ⟨q, a, b, c⟩ := h.rides.at_ j t hj
      exact ⟨q, a, b, gr_at hg c (fun e2 => e (h.rides.inj j k p (by rw [a, e2]) hp))⟩
  · intro j c q hj hq
    obtain ⟨q', a, b, d, e, g⟩ := h.cars.at_ j c hj
    rw [hq] at a; injection a with a; injection a with a; subst a
    exact ⟨fun e2 => by subst e2; exact sta_ne hpo d rfl, fun e2 => mg_ne g hpo e2⟩
/-- A ride is booked: a new block, and the map says so. -/
theorem DayW.book (h : DayW w lo rb cb N D fr fc fm) {k : ByteArray} {p : Nat} {s' : St} (hs : D.rides k = none) (hpl : lo ≤ p) (hpo : w.heap[p]? = some (staO s')) (hpn : ∀ j q, fr j = some (some q) → q ≠ p) (hg : Gr rb w w') (hm : MpSP w' rb (N + 1) (fun j => if j = k then some (some p) else fr j)) :
    DayW w' lo rb cb (N + 1) (setR D k s') (fun j => if j = k then some (some p) else fr j) fc fm := by
  refine ⟨⟨hm, ?_, ?_, ?_⟩, (h.cars.step hg h.ne.symm ?_).mono (Nat.le_succ _), h.rlo, h.clo, h.ne, Nat.le_trans h.sz (World.grownBy.size hg)⟩
  · intro j hj
    have hj : updF D.rides k s' j = none := hj
    by_cases e : j = k
    · subst e; rw [updF_same] at hj; cases hj
    · rw [updF_other _ _ e] at hj; rw [if_neg e]; exact h.rides.non j hj
  · intro j t hj
    have hj : updF D.rides k s' j = some t := hj
    by_cases e : j = k
    · subst e; rw [updF_same] at hj; injection hj with hj; subst hj
      exact ⟨p, if_pos rfl, hpl, gr_at hg hpo (fun e => mg_ne h.rides.map hpo e.symm)⟩
    · rw [updF_other _ _ e] at hj
      obtain ⟨q, a, b, c⟩ := h.rides.at_ j t hj
      exact ⟨q, by rw [if_neg e]; exact a, b, gr_at hg c (fun e => mg_ne h.rides.map c e.symm)⟩
  · intro i j q hi hj
    by_cases e1 : i = k <;> by_cases e2 : j = k
    · exact e1.trans e2.symm
    · rw [if_pos e1] at hi; rw [if_neg e2] at hj
      injection hi with hi; injection hi with hi
      exact absurd hi.symm (hpn j q hj)
    · rw [if_neg e1] at hi; rw [if_pos e2] at hj
      injection hj with hj; injection hj with hj
      exact absurd hj.symm (hpn i q hi)
    · rw [if_neg e1] at hi; rw [if_neg e2] at hj
      exact h.rides.inj i j q hi hj
  · intro j c q hj hq
    obtain ⟨q', a, b, d, e, g⟩ := h.cars.at_ j c hj
    have := h.rlo
    rw [hq] at a; injection a with a; injection a with a; subst a
    exact ⟨by omega, by omega⟩
/-- A car's block turns. -/
theorem DayW.crPut (h : DayW w lo rb cb N D fr fc fm) {k : ByteArray} {p : Nat} {c c' : Crew} (hs : D.cars k = some c) (hp : fc k = some (some p)) (hg : Gr p w w') (hw : w'.heap[p]? = some (crwO c' (fm k))) (hon : c'.on = c.on) : DayW w' lo rb cb N (setC D k c') fr fc fm := by
  obtain ⟨p', a, hlo, hpo, hml, hm⟩ := h.cars.at_ k c hs
  rw [hp] at a; injection a with a; injection a with a; subst a
  refine ⟨h.rides.step hg (mg_ne h.rides.map hpo) ?_, ⟨h.cars.map.gr hg (mg_ne h.cars.map hpo), ?_, ?_, h.cars.inj, ?_⟩, h.rlo, h.clo, h.ne, Nat.le_trans h.sz (World.grownBy.size hg)⟩
  · intro j s q hj hq
    obtain ⟨q', a, b, d⟩ := h.rides.at_ j s hj
    rw [hq] at a; injection a with a; injection a with a; subst a
    exact sta_ne d hpo
  · intro j hj
    have hj : updF D.cars k c' j = none := hj
    by_cases e : j = k
    · subst e; rw [updF_same] at hj; cases hj
    · rw [updF_other _ _ e] at hj; exact h.cars.non j hj
  · intro j t hj
    have hj : updF D.cars k c' j = some t := hj
    by_cases e : j = k
    · subst e; rw [updF_same] at hj; injection hj with hj; subst hj
      exact ⟨p, hp, hlo, hw, hml, by rw [hon]; exact hm.gr hg (mg_ne hm hpo)⟩
    · rw [updF_other _ _ e] at hj
      obtain ⟨q, a, b, d, e', g⟩ := h.cars.at_ j t hj
      exact ⟨q, a, b, gr_at hg d (fun e2 => e (h.cars.inj j k p (by rw [a, e2]) hp)), e', g.gr hg (mg_ne g hpo)⟩
  · intro i j hi hj
    refine h.cars.injm i j ?_ ?_
    · have hi : (updF D.cars k c' i).isSome = true := hi
      by_cases e : i = k
      · subst e; rw [hs]; rfl
      · rw [updF_other _ _ e] at hi; exact hi
    · have hj : (updF D.cars k c' j).isSome = true := hj
      by_cases e : j = k
      · subst e; rw [hs]; rfl
      · rw [updF_other _ _ e] at hj; exact hj
/-- Who is on board of a car turns. -/
theorem DayW.crOn (h : DayW w lo rb cb N D fr fc fm) {k : ByteArray} {c : Crew} {on' : ByteArray → Option Bool} (hs : D.cars k = some c) (hg : Gr (fm k) w w') (hm : MpKB w' (fm k) (N + 1) on') : DayW w' lo rb cb (N + 1) (setC D k { c with on := on' }) fr fc fm := by
  obtain ⟨p, hp, hlo, hpo, hml, hm0⟩ := h.cars.at_ k c hs
  have hr := h.rlo
  have hc := h.clo
  refine ⟨(h.rides.step hg (by omega) ?_).mono (Nat.le_succ _), ⟨(h.cars.map.gr hg (by omega)).mono (Nat.le_succ _), ?_, ?_, h.cars.inj, ?_⟩, h.rlo, h.clo, h.ne, Nat.le_trans h.sz (World.grownBy.size hg)⟩
  · intro j s q hj hq
    obtain ⟨q', a, b, d⟩ := h.rides.at_ j s hj
    rw [hq] at a; injection a with a; injection a with a; subst a
    exact fun e => mg_ne hm0 d e.symm
  · intro j hj
    have hj : updF D.cars k { c with on := on' } j = none := hj
    by_cases e : j = k
    · subst e; rw [updF_same] at hj; cases hj
    · rw [updF_other _ _ e] at hj; exact h.cars.non j hj
  · intro j t hj
    have hj : updF D.cars k { c with on := on' } j = some t := hj
    by_cases e : j = k
    · subst e; rw [updF_same] at hj; injection hj with hj; subst hj
      exact ⟨p, hp, hlo, gr_at hg hpo (fun e => mg_ne hm0 hpo e.symm), hml, hm⟩
    · rw [updF_other _ _ e] at hj
      obtain ⟨q, a, b, d, e', g⟩ := h.cars.at_ j t hj
      exact ⟨q, a, b, gr_at hg d (fun e2 => mg_ne hm0 d e2.symm), e', (g.gr hg (fun e2 => e (h.cars.injm j k (by rw [hj]; rfl) (by rw [hs]; rfl) e2))).mono (Nat.le_succ _)⟩
  · intro i j hi hj
    refine h.cars.injm i j ?_ ?_
    · have hi : (updF D.cars k { c with on := on' } i).isSome = true := hi
      by_cases e : i = k
      · subst e; rw [hs]; rfl
      · rw [updF_other _ _ e] at hi; exact hi
    · have hj : (updF D.cars k { c with on := on' } j).isSome = true := hj
      by_cases e : j = k
      · subst e; rw [hs]; rfl
      · rw [updF_other _ _ e] at hj; exact hj
/-- A car is told of for the first time: a new block, a new map. -/
theorem DayW.carNew (h : DayW w lo rb cb N D fr fc fm) {k : ByteArray} {p m : Nat} (hs : D.cars k = none) (hpl : lo ≤ p) (hpo : w.heap[p]? = some (crwO crew0 m)) (hml : lo ≤ m) (hmo : MpKB w m 0 (fun _ => none)) (hpn : ∀ j q, fc j = some (some q) → q ≠ p) (hmn : ∀ j, (D.cars j).isSome = true → fm j ≠ m)
    (hg : Gr cb w w') (hm : MpSP w' cb (N + 1) (fun j => if j = k then some (some p) else fc j)) :
    DayW w' lo rb cb (N + 1) (setC D k crew0) fr (fun j => if j = k then some (some p) else fc j) (fun j => if j = k then m else fm j) := by
  have hcl := h.clo
  refine ⟨(h.rides.step hg h.ne ?_).mono (Nat.le_succ _), ⟨hm, ?_, ?_, ?_, ?_⟩, h.rlo, h.clo, h.ne, Nat.le_trans h.sz (World.grownBy.size hg)⟩
  · intro j s q hj hq
    obtain ⟨q', a, b, d⟩ := h.rides.at_ j s hj
    rw [hq] at a; injection a with a; injection a with a; subst a
    omega
  · intro j hj
    have hj : updF D.cars k crew0 j = none := hj
    by_cases e : j = k
    · subst e; rw [updF_same] at hj; cases hj
    · rw [updF_other _ _ e] at hj; rw [if_neg e]; exact h.cars.non j hj
  · intro j t hj
    have hj : updF D.cars k crew0 j = some t := hj
    by_cases e : j = k
    · subst e; rw [updF_same] at hj; injection hj with hj; subst hj
      rw [if_pos rfl, if_pos rfl]
      exact ⟨p, rfl, hpl, gr_at hg hpo (by omega), hml, (hmo.gr hg (by omega)).mono (Nat.zero_le _)⟩
    · rw [updF_other _ _ e] at hj
      rw [if_neg e, if_neg e]
      obtain ⟨q, a, b, d, e', g⟩ := h.cars.at_ j t hj
      exact ⟨q, a, b, gr_at hg d (by omega), e', (g.gr hg (by omega)).mono (Nat.le_succ _)⟩
  · intro i j q hi hj
    by_cases e1 : i = k <;> by_cases e2 : j = k
    · exact e1.trans e2.symm
    · rw [if_pos e1] at hi; rw [if_neg e2] at hj
      injection hi with hi; injection hi with hi
      exact absurd hi.symm (hpn j q hj)
    · rw [if_neg e1] at hi; rw [if_pos e2] at hj
      injection hj with hj; injection hj with hj
      exact absurd hj.symm (hpn i q hi)
    · rw [if_neg e1] at hi; rw [if_neg e2] at hj
      exact h.cars.inj i j q hi hj
  · intro i j hi hj hij
    have hi : (updF D.cars k crew0 i).isSome = true := hi
    have hj : (updF D.cars k crew0 j).isSome = true := hj
    have hij : (if i = k then m else fm i) = (if j = k then m else fm j) := hij
    by_cases e1 : i = k <;> by_cases e2 : j = k
    · exact e1.trans e2.symm
    · rw [if_pos e1, if_neg e2] at hij
      rw [updF_other _ _ e2] at hj
      exact absurd hij.symm (hmn j hj)
    · rw [if_neg e1, if_pos e2] at hij
      rw [updF_other _ _ e1] at hi
      exact absurd hij (hmn i hi)
    · rw [if_neg e1, if_neg e2] at hij
      rw [updF_other _ _ e1] at hi
      rw [updF_other _ _ e2] at hj
      exact h.cars.injm i j hi hj hij
end
end Go.Proofs.YtfkmbeppckelfaaGreatDoor
