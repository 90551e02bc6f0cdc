/- A map of integers in which it counts whether a key is there, said of a plain function. Of no program. -/
import Derived.Test.YtjhmgkoghapocaaDoorLib
import Derived.Maps.Own
import Derived.Maps.OwnOps
import Derived.Maps.Views
import Derived.Maps.RangeWalk
namespace Go.Proofs.YtjhmgkoghapocaaDoor
open Go.RowKit Go.Maps

section
variable {κ : Type} {P : Program} {K E : TypeId} {ek : κ → Value} {dom : κ → Prop}

/-- The map's datum D holds f k at key k, if it has the key at all; its keys lie in dom. -/
structure MoD (P : Program) (K : TypeId) (ek : κ → Value) (dom : κ → Prop) (D : DataW Unit) (f : κ → Option Int) : Prop where
  isMap : IsMap D
  at_ : ∀ k l, dom k → keyOf P K (ek k) = some l → ∀ z, D.atKey l z = (match f k with | some v => .lit (.int .i64 v) | none => z)
  keys : ∀ l, has D l = true → ∃ k, dom k ∧ keyOf P K (ek k) = some l
  dm : ∀ k, (f k).isSome = true → dom k

/-- Block b is such a map. -/
def MoI (P : Program) (K E : TypeId) (ek : κ → Value) (dom : κ → Prop) (w : World) (b n : Nat) (f : κ → Option Int) : Prop :=
  ∃ D : DataW Unit, w.ownsMap P K (plainElem P E) b n D ∧ MoD P K ek dom D f

theorem MoI.lt {w : World} {b n : Nat} {f : κ → Option Int} (h : MoI P K E ek dom w b n f) : b < w.heap.size := by
  obtain ⟨D, h1, _⟩ := h; exact h1.lt
theorem MoI.nx {w w' : World} {b n : Nat} {f : κ → Option Int} (h : MoI P K E ek dom w b n f) (hn : Nx w w') : MoI P K E ek dom w' b n f := by
  obtain ⟨D, h1, h2⟩ := h
  exact ⟨D, h1.kept (hn.gr none) (by simp), h2⟩
theorem MoI.gr {w w' : World} {b n s : Nat} {f : κ → Option Int} (h : MoI P K E ek dom w b n f) (hn : Gr s w w') (hs : b ≠ s) : MoI P K E ek dom w' b n f := by
  obtain ⟨D, h1, h2⟩ := h
  exact ⟨D, h1.kept (row := some s) hn (by simpa using hs), h2⟩
theorem MoI.mono {w : World} {b n n' : Nat} {f : κ → Option Int} (h : MoI P K E ek dom w b n f) (hn : n ≤ n') : MoI P K E ek dom w b n' f := by
  obtain ⟨D, h1, h2⟩ := h; exact ⟨D, h1.mono hn, h2⟩
theorem MoI.made (w : World) : MoI P K E ek dom (w.alloc (.map #[] 0)) w.heap.size 0 (fun _ => none) :=
  ⟨.map [], World.ownsMap_made w P K _, isMap_empty, fun _ _ _ _ _ => rfl, fun l h => (by simp [has_eq] at h), fun k h => by cases h⟩
theorem wf_i64o {n : Int} : (Lit.int .i64 n).wf = true ↔ -9223372036854775808 ≤ n ∧ n ≤ 9223372036854775807 := by
  simp [Lit.wf, IntKind.min, IntKind.max, IntKind.signed, IntKind.bits]
theorem MoD.has_ {D : DataW Unit} {f : κ → Option Int} (h : MoD P K ek dom D f) {k : κ} (hd : dom k) {l : Lit} (hkey : keyOf P K (ek k) = some l) : has D l = (f k).isSome := by
  have e := h.at_ k l hd hkey
  cases hf : f k with
  | none => rw [hf] at e; exact has_false_of_atKey e
  | some v => rw [hf] at e; exact has_true_of_atKey e

theorem MoI.look {w : World} {b n : Nat} {f : κ → Option Int} {t : TypeId} (h : MoI P K E ek dom w b n f) (KL : Keyed P K) (ht : P.underlying t = some (.map K E)) (he : P.underlying E = some (.int .i64)) (hz : (zeroValue E).run P w = .ok (.int .i64 0) w)
    {k : κ} (hd : dom k) {l : Lit} (hkey : keyOf P K (ek k) = some l) : (Instr.lookup t (.map (some b)) (ek k) false).run P w = .ok (.int .i64 ((f k).getD 0)) w ∧ (Lit.int .i64 ((f k).getD 0)).wf = true := by
  obtain ⟨D, h1, h2⟩ := h
  obtain ⟨c, hrun, hat, hwf⟩ := h1.lookup_int KL ht he hz hkey
  have e := h2.at_ k l hd hkey (.lit (.int .i64 0))
  rw [hat] at e
  have e' : c = (f k).getD 0 := by
    cases hf : f k with
    | none => rw [hf] at e; injection e with e; injection e
    | some v => rw [hf] at e; injection e with e; injection e
  subst e'
  exact ⟨hrun, hwf⟩

theorem MoD.put {D : DataW Unit} {f : κ → Option Int} [DecidableEq κ] (h : MoD P K ek dom D f) (KL : Keyed P K) (hinj : ∀ a b : κ, ek a = ek b → a = b) {k : κ} (hd : dom k) {l : Lit} (hkey : keyOf P K (ek k) = some l) (v : Int) :
    MoD P K ek dom (D.put l (.lit (.int .i64 v))) (fun k' => if k' = k then some v else f k') where
  isMap := h.isMap.put _ _
  at_ k' l' hd' hk' z := by
    by_cases e : k' = k
    · subst e
      rw [hkey] at hk'; injection hk' with hk'; subst hk'
      rw [if_pos rfl]
      exact atKey_put_same h.isMap (KL.key hkey) _ _
    · rw [if_neg e]
      have hne : l' ≠ l := fun e1 => by subst e1; exact e (hinj _ _ (KL.inj hk' hkey))
      rw [atKey_put_other hne]
      exact h.at_ k' l' hd' hk' z
  keys l' hl' := by
    by_cases e : l' = l
    · subst e; exact ⟨k, hd, hkey⟩
    · rw [has_put_other e] at hl'; exact h.keys l' hl'
  dm k' hk' := by
    by_cases e : k' = k
    · subst e; exact hd
    · rw [if_neg e] at hk'; exact h.dm k' hk'

/-- 'm[k] = v'. -/
theorem MoI.upd {w : World} {b n : Nat} {f : κ → Option Int} [DecidableEq κ] {t : TypeId} (h : MoI P K E ek dom w b n f) (KL : Keyed P K) (hinj : ∀ a b : κ, ek a = ek b → a = b) (ht : P.underlying t = some (.map K E)) (he : P.underlying E = some (.int .i64)) (hn : n < maxLen)
    {k : κ} (hd : dom k) {l : Lit} (hkey : keyOf P K (ek k) = some l) (v : Int) (hv : (Lit.int .i64 v).wf = true) :
    ∃ w', (Instr.mapUpdate t (.map (some b)) (ek k) (.int .i64 v)).run P w = .ok () w' ∧ MoI P K E ek dom w' b (n + 1) (fun k' => if k' = k then some v else f k') ∧ Gr b w w' := by
  obtain ⟨D, h1, h2⟩ := h
  obtain ⟨w', hr, ho, hg⟩ := h1.update KL ht hn hkey (plainElem_int (H := Unit) he hv)
  exact ⟨w', hr, ⟨_, ho, h2.put KL hinj hd hkey v⟩, hg⟩

/-- 'm[k]' at the operation. -/
theorem wpMoLook (w : World) {ops : Array Oper} {rest : List Oper} {o : Oper} {a : Act} {Q : Exit → Act → World → Prop}
    (hg : o.guard = none) (m x : Operand) (t : TypeId) (hop : o.op = Op.lookup t m x false)
    (KL : Keyed P K) (ht : P.underlying t = some (.map K E)) (he : P.underlying E = some (.int .i64)) (hz : (zeroValue E).run P w = .ok (.int .i64 0) w) (b n : Nat) (f : κ → Option Int)
    (hm : a.eval m = .map (some b)) (hown : MoI P K E ek dom w b n f) (k : κ) (hx : a.eval x = ek k) (hd : dom k) (l : Lit) (hkey : keyOf P K (ek k) = some l)
    (hK : (Lit.int .i64 ((f k).getD 0)).wf = true → wpList P ops Q rest (a.put o.dst (.int .i64 ((f k).getD 0))) w) :
    wpList P ops Q (o :: rest) a w := by
  refine wpList_plain hg fun K' hK' => ?_
  obtain ⟨hrun, hwf⟩ := hown.look KL ht he hz hd hkey
  unfold Oper.wp
  simp [execOp, hop, hm, hx, hrun, Result.andThen]
  exact hK' _ _ (hK hwf)

/-- 'm[k] = v' at the operation. -/
theorem wpMoPut [DecidableEq κ] (w : World) {ops : Array Oper} {rest : List Oper} {o : Oper} {a : Act} {Q : Exit → Act → World → Prop}
    (hg : o.guard = none) (m x v : Operand) (t : TypeId) (hop : o.op = Op.mapUpdate t m x v)
    (KL : Keyed P K) (hinj : ∀ a b : κ, ek a = ek b → a = b) (ht : P.underlying t = some (.map K E)) (he : P.underlying E = some (.int .i64)) (b n : Nat) (f : κ → Option Int)
    (hm : a.eval m = .map (some b)) (hown : MoI P K E ek dom w b n f) (hn : n < maxLen) (k : κ) (hx : a.eval x = ek k) (hd : dom k) (l : Lit) (hkey : keyOf P K (ek k) = some l)
    (z : Int) (hz : a.eval v = .int .i64 z) (hwf : (Lit.int .i64 z).wf = true)
    (hK : ∀ w', MoI P K E ek dom w' b (n + 1) (fun k' => if k' = k then some z else f k') → Gr b w w' → wpList P ops Q rest (a.put o.dst undef) w') :
    wpList P ops Q (o :: rest) a w := by
  refine wpList_plain hg fun K' hK' => ?_
  obtain ⟨w', hrun, r1, r2⟩ := hown.upd KL hinj ht he hn hd hkey z hwf
  unfold Oper.wp
  simp [execOp, hop, hm, hx, hz, hrun, Result.andThen]
  exact hK' _ _ (hK w' r1 r2)
end
end Go.Proofs.YtjhmgkoghapocaaDoor
