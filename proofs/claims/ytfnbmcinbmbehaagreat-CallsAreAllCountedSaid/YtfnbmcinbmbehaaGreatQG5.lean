/- A map of integers, said of a plain function: what it holds at each key. Of no program. -/
import Derived.Test.YtfnbmcinbmbehaaGreatQG0
import Derived.Maps.Own
import Derived.Maps.OwnOps
import Derived.Maps.Views
import Derived.Maps.RangeWalk
import Derived.WideKeyEntry
import Derived.Maps.Keyed
import Derived.DeepKeys4
import Derived.KernelRfl
import Derived.Test.YtfnbmcinbmbehaaGreatQG3
import Derived.Test.YtfnbmcinbmbehaaGreatQShelf
import Derived.Laws.StructEq
namespace Go.Proofs.YtfnbmcinbmbehaaGreat
open Go.RowKit Go.Maps

section
variable {κ : Type} {P : Program} {K E : TypeId} {ek : κ → Value} {dom : κ → Prop}

/-- The map's datum D holds f k at key k (0 where it has none); its keys lie in dom. -/
structure MpD (P : Program) (K : TypeId) (ek : κ → Value) (dom : κ → Prop) (D : DataW Unit) (f : κ → Int) : Prop where
  isMap : IsMap D
  at_ : ∀ k l, dom k → keyOf P K (ek k) = some l → D.atKey l (.lit (.int .i64 0)) = .lit (.int .i64 (f k))
  keys : ∀ l, has D l = true → ∃ k, dom k ∧ keyOf P K (ek k) = some l

/-- Block b is such a map. -/
def MpI (P : Program) (K E : TypeId) (ek : κ → Value) (dom : κ → Prop) (w : World) (b n : Nat) (f : κ → Int) : Prop :=
  ∃ D : DataW Unit, w.ownsMap P K (plainElem P E) b n D ∧ MpD P K ek dom D f

theorem MpI.lt {w : World} {b n : Nat} {f : κ → Int} (h : MpI P K E ek dom w b n f) : b < w.heap.size := by
  obtain ⟨D, h1, _⟩ := h; exact h1.lt
theorem MpI.nx {w w' : World} {b n : Nat} {f : κ → Int} (h : MpI P K E ek dom w b n f) (hn : Nx w w') : MpI P K E ek dom w' b n f := by
  obtain ⟨D, h1, h2⟩ := h
  exact ⟨D, h1.kept (hn.gr none) (by simp), h2⟩
theorem MpI.mono {w : World} {b n n' : Nat} {f : κ → Int} (h : MpI P K E ek dom w b n f) (hn : n ≤ n') : MpI P K E ek dom w b n' f := by
  obtain ⟨D, h1, h2⟩ := h; exact ⟨D, h1.mono hn, h2⟩
theorem MpI.made (w : World) : MpI P K E ek dom (w.alloc (.map #[] 0)) w.heap.size 0 (fun _ => 0) :=
  ⟨.map [], World.ownsMap_made w P K _, isMap_empty, fun _ _ _ _ => rfl, fun l h => by simp [has_eq] at h⟩
theorem wf_i64 {n : Int} : (Lit.int .i64 n).wf = true ↔ -9223372036854775808 ≤ n ∧ n ≤ 9223372036854775807 := by
  simp [Lit.wf, IntKind.min, IntKind.max, IntKind.signed, IntKind.bits]

theorem MpI.look {w : World} {b n : Nat} {f : κ → Int} {t : TypeId} (h : MpI P K E ek dom w b n f) (KL : Keyed P K) (ht : P.underlying t = some (.map K E)) (he : P.underlying E = some (.int .i64)) (hz : (zeroValue E).run P w = .ok (.int .i64 0) w)
    {k : κ} (hd : dom k) {l : Lit} (hkey : keyOf P K (ek k) = some l) : (Instr.lookup t (.map (some b)) (ek k) false).run P w = .ok (.int .i64 (f k)) w ∧ (Lit.int .i64 (f k)).wf = true := by
  obtain ⟨D, h1, h2⟩ := h
  obtain ⟨c, hrun, hat, hwf⟩ := h1.lookup_int KL ht he hz hkey
  have e := h2.at_ k l hd hkey
  rw [hat] at e
  have e' : c = f k := by injection e with e; injection e
  subst e'
  exact ⟨hrun, hwf⟩

theorem MpD.put {D : DataW Unit} {f : κ → Int} [DecidableEq κ] (h : MpD P K ek dom D f) (KL : Keyed P K) (hinj : ∀ a b : κ, ek a = ek b → a = b) {k : κ} (hd : dom k) {l : Lit} (hkey : keyOf P K (ek k) = some l) (v : Int) :
    MpD P K ek dom (D.put l (.lit (.int .i64 v))) (fun k' => if k' = k then v else f k') where
  isMap := h.isMap.put _ _
  at_ k' l' hd' hk' := by
    by_cases e : k' = k
    · subst e
      rw [hkey] at hk'; injection hk' with hk'; subst hk'
      rw [if_pos rfl]
      exact atKey_put_same h.isMap (KL.key hkey) _ _
    · rw [if_neg e]
      have hne : l' ≠ l := fun e1 => by subst e1; exact e (hinj _ _ (KL.inj hk' hkey))
      rw [atKey_put_other hne]
      exact h.at_ k' l' hd' hk'
  keys l' hl' := by
    by_cases e : l' = l
    · subst e; exact ⟨k, hd, hkey⟩
    · rw [has_put_other e] at hl'; exact h.keys l' hl'

set_option maxRecDepth 100000 in
/-- 'm[k] op= v', as the model runs it: first the entry, then the store. -/
theorem MpI.entry {w : World} {b n : Nat} {f : κ → Int} [DecidableEq κ] {t : TypeId} (h : MpI P K E ek dom w b n f) (KL : WideMaps.KeyLaw P K) (hinj : ∀ a b : κ, ek a = ek b → a = b) (ht : P.underlying t = some (.map K E)) (he : P.underlying E = some (.int .i64))
    (hz : ∀ u, (zeroValue E).run P u = .ok (.int .i64 0) u) (hn : n < maxLen) {k : κ} (hd : dom k) {l : Lit} (hkey : keyOf P K (ek k) = some l) :
    ∃ (v0 : Value) (st : Int) (w1 : World), (Instr.mapEntry t (.map (some b)) (ek k)).run P w = .ok (.tuple #[v0, .int .i64 st]) w1 ∧ w.grownBy w1 (some b) ∧ (Instr.lookup t (.map (some b)) (ek k) false).run P w1 = .ok (.int .i64 (f k)) w1 ∧
      ∀ v : Int, (Lit.int .i64 v).wf = true → ∃ w2, (Instr.entryStore t (.map (some b)) (.int .i64 st) (.int .i64 v)).run P w1 = .ok () w2 ∧ MpI P K E ek dom w2 b (n + 1) (fun k' => if k' = k then v else f k') ∧ w.grownBy w2 (some b) := by
  obtain ⟨D, h1, h2⟩ := h
  have h1' := h1
  obtain ⟨es, clock, hb, F, _, _⟩ := h1
  obtain ⟨v0, st, es1, clock1, hr1, _, hr2⟩ := WideElems.entry_then_store KL ht hz hb F hkey
  refine ⟨v0, st, _, hr1, ⟨rfl, rfl, rfl, by simp [ChangeMaps.setBlock], fun k hk hne => by
    have : b ≠ k := fun e => hne (by rw [e])
    simp [ChangeMaps.setBlock, this]⟩, ?_, fun v hv => ?_⟩
  · have hlt : b < w.heap.size := h1'.lt
    rcases KL.find w hkey es.toList F.keys with ⟨e1, e2⟩ | ⟨j, e0, e1, e2, e3⟩
    · have hrun : (Instr.mapEntry t (.map (some b)) (ek k)).run P w = .ok (.tuple #[.int .i64 0, goInt clock]) (ChangeMaps.setBlock w b (.map (es.push ⟨ek k, .int .i64 0, clock⟩) (clock + 1))) := by
        simp [Instr.mapEntry, run_underlying ht, MapKept.run_getObj_map hb, KL.check w false hkey, e1, hz, MapKept.run_setObj_map _ hb, Result.andThen, ChangeMaps.setBlock]
      have hup : (Instr.mapUpdate t (.map (some b)) (ek k) (.int .i64 0)).run P w = .ok () (ChangeMaps.setBlock w b (.map (es.push ⟨ek k, .int .i64 0, clock⟩) (clock + 1))) := by
        simp [Instr.mapUpdate, run_underlying ht, MapKept.run_getObj_map hb, KL.check w false hkey, e1, MapKept.run_setObj_map _ hb, Result.andThen, ChangeMaps.setBlock]
      rw [hr1] at hrun
      rw [Result.ok.injEq] at hrun
      have ew := hrun.2
      clear hrun
      rw [ew]
      obtain ⟨w2, hu2, ho2, _⟩ := h1'.update (Keyed.of_law KL) ht hn hkey (plainElem_int (H := Unit) he (wf_i64.2 (by omega) : (Lit.int .i64 0).wf = true))
      rw [hup] at hu2
      rw [Result.ok.injEq] at hu2
      have eu := hu2.2
      clear hu2
      have hM : MpI P K E ek dom w2 b (n + 1) (fun k' => if k' = k then 0 else f k') := ⟨_, ho2, h2.put (Keyed.of_law KL) hinj hd hkey 0⟩
      have hl := (hM.look (Keyed.of_law KL) ht he (hz _) hd hkey).1
      rw [if_pos rfl] at hl
      have hf : f k = 0 := by
        have e4 := (MpI.look ⟨D, h1', h2⟩ (Keyed.of_law KL) ht he (hz _) hd hkey).1
        have e5 : (Instr.lookup t (.map (some b)) (ek k) false).run P w = .ok (.int .i64 0) w := by
          simp [Instr.lookup, run_underlying ht, MapKept.run_getObj_map hb, KL.check w _ hkey, e1, hz, Result.andThen]
        rw [e5] at e4
        injection e4 with e4 _; injection e4 with _ e4; exact e4.symm
      rw [eu, hf]
      exact hl
    · have hj : es[j]? = some e0 := by simpa using e2
      have hrun : (Instr.mapEntry t (.map (some b)) (ek k)).run P w = .ok (.tuple #[e0.val, goInt e0.born]) w := by
        have hsame : es.modify j (fun e => { e with key := ek k }) = es := by
          apply Array.ext'
          rw [Array.toList_modify]
          have h6 : ({ e0 with key := ek k } : MapEntry) = e0 := by rw [← e3]
          apply List.ext_getElem?
          intro i
          rw [List.getElem?_modify]
          by_cases hi : j = i
          · subst hi; rw [e2]; simp [h6]
          · simp [hi]
        simp [Instr.mapEntry, run_underlying ht, MapKept.run_getObj_map hb, KL.check w false hkey, e1, hj, e3, KL.stays w hkey, hsame, MapKept.run_setObj_map _ hb, Result.andThen]
        have hs : w.heap.setIfInBounds b (.map es clock) = w.heap := by
          apply Array.ext'
          rw [Array.toList_setIfInBounds]
          apply List.ext_getElem?
          intro i
          rw [List.getElem?_set]
          by_cases hi : b = i
          · subst hi; rw [if_pos rfl, if_pos (by simpa using hlt), Array.getElem?_toList, hb]
          · rw [if_neg hi]
        rw [hs]
      rw [hr1] at hrun
      rw [Result.ok.injEq] at hrun
      have ew := hrun.2
      clear hrun
      rw [ew]
      exact (MpI.look ⟨D, h1', h2⟩ (Keyed.of_law KL) ht he (hz _) hd hkey).1
  obtain ⟨es', clock', hs, hu⟩ := hr2 (ChangeMaps.setBlock w b (.map es1 clock1)) (.int .i64 v) (by
    have hlt : b < w.heap.size := h1'.lt
    simp [ChangeMaps.setBlock, hlt])
  obtain ⟨w2, hu2, ho2, hg2⟩ := h1'.update (Keyed.of_law KL) ht hn hkey (plainElem_int (H := Unit) he hv)
  rw [hu] at hu2
  injection hu2 with _ e2
  have e3 : ChangeMaps.setBlock (ChangeMaps.setBlock w b (.map es1 clock1)) b (.map es' clock') = ChangeMaps.setBlock w b (.map es' clock') := by
    simp [ChangeMaps.setBlock]
  rw [e3, e2] at hs
  exact ⟨w2, hs, ⟨_, ho2, h2.put (Keyed.of_law KL) hinj hd hkey v⟩, hg2⟩
end
end Go.Proofs.YtfnbmcinbmbehaaGreat
/- Maps: the keys. -/
namespace Go.Proofs.YtfnbmcinbmbehaaGreat
open Go.RowKit Go.Maps

theorem tySize : Tryz.prog.types.size = 248 := by kernel_rfl
theorem laidOut : laidOutB Tryz.prog = true := by kernel_rfl
theorem law_place : Keyed Tryz.prog 79 := Keyed.of_law (deep_law_laid laidOut (m := 5) (by omega) (k := 79) (by rw [tySize]; decide) (by kernel_rfl) (by kernel_rfl))
theorem law_cell : Keyed Tryz.prog 45 := Keyed.of_law (deep_law_laid laidOut (m := 5) (by omega) (k := 45) (by rw [tySize]; decide) (by kernel_rfl) (by kernel_rfl))
theorem kt_place : Tryz.prog.keyType 79 = true := by kernel_rfl
theorem kt_cell : Tryz.prog.keyType 45 = true := by kernel_rfl
theorem cells_place : Tryz.prog.cellsOf 79 = 3 := by kernel_rfl
theorem cells_cell : Tryz.prog.cellsOf 45 = 2 := by kernel_rfl
theorem cells_int : Tryz.prog.cellsOf 3 = 1 := by kernel_rfl

theorem lits_int (d : Nat) (x : Int) (hx : (Lit.int .i64 x).wf = true) : Tryz.prog.keyLits (d + 1) 3 [.int .i64 x] = some [.int .i64 x] := by
  unfold Program.keyLits; rw [Tryz.underlying3]; simp [hx]
theorem lits_cell (d : Nat) (x y : Int) (hx : (Lit.int .i64 x).wf = true) (hy : (Lit.int .i64 y).wf = true) : Tryz.prog.keyLits (d + 2) 45 [.int .i64 x, .int .i64 y] = some [.int .i64 x, .int .i64 y] := by
  unfold Program.keyLits; rw [Tryz.underlying45]; simp [cells_cell, cells_int, lits_int _ _ hx, lits_int _ _ hy]
theorem lits_place (d : Nat) (x y h : Int) (hx : (Lit.int .i64 x).wf = true) (hy : (Lit.int .i64 y).wf = true) (hh : (Lit.int .i64 h).wf = true) : Tryz.prog.keyLits (d + 3) 79 [.int .i64 x, .int .i64 y, .int .i64 h] = some [.int .i64 x, .int .i64 y, .int .i64 h] := by
  unfold Program.keyLits; rw [Tryz.underlying79]; simp [cells_place, cells_cell, cells_int, lits_cell _ _ _ hx hy, lits_int _ _ hh]
theorem key_place (x y h : Int) (hx : (Lit.int .i64 x).wf = true) (hy : (Lit.int .i64 y).wf = true) (hh : (Lit.int .i64 h).wf = true) : ∃ l, keyOf Tryz.prog 79 (.agg #[.int .i64 x, .int .i64 y, .int .i64 h]) = some l := by
  refine ⟨.string (keyBytes [.int .i64 x, .int .i64 y, .int .i64 h]), ?_⟩
  unfold keyOf
  rw [Tryz.underlying79, kt_place, tySize]
  have e := lits_place 246 x y h hx hy hh
  simp [Value.formed, Tryz.underlying79, cells_place, Value.cells, e]

set_option maxRecDepth 10000 in
theorem lits_int_inv {d : Nat} {c : Value} {ls : List Lit} (h : Tryz.prog.keyLits (d + 1) 3 [c] = some ls) : ∃ x, c = .int .i64 x ∧ (Lit.int .i64 x).wf = true := by
  unfold Program.keyLits at h
  rw [Tryz.underlying3] at h
  cases c <;> simp at h
  obtain ⟨⟨rfl, hw⟩, _⟩ := h
  exact ⟨_, rfl, hw⟩
set_option maxRecDepth 10000 in
theorem lits_cell_inv {d : Nat} {a b : Value} {ls : List Lit} (h : Tryz.prog.keyLits (d + 2) 45 [a, b] = some ls) : ∃ x y, a = .int .i64 x ∧ b = .int .i64 y ∧ (Lit.int .i64 x).wf = true ∧ (Lit.int .i64 y).wf = true := by
  unfold Program.keyLits at h
  rw [Tryz.underlying45] at h
  simp [cells_cell, cells_int] at h
  cases h1 : Tryz.prog.keyLits (d + 1) 3 [a] with
  | none => simp [h1] at h
  | some l1 =>
    cases h2 : Tryz.prog.keyLits (d + 1) 3 [b] with
    | none => simp [h1, h2] at h
    | some l2 =>
      obtain ⟨x, rfl, hx⟩ := lits_int_inv h1
      obtain ⟨y, rfl, hy⟩ := lits_int_inv h2
      exact ⟨x, y, rfl, rfl, hx, hy⟩
set_option maxRecDepth 10000 in
theorem key_place_inv {key : Value} {l : Lit} (h : keyOf Tryz.prog 79 key = some l) : ∃ x y z : Int, key = .agg #[.int .i64 x, .int .i64 y, .int .i64 z] ∧ (Lit.int .i64 x).wf = true ∧ (Lit.int .i64 y).wf = true ∧ (Lit.int .i64 z).wf = true := by
  unfold keyOf at h
  rw [Tryz.underlying79, kt_place, tySize] at h
  cases key <;> simp [Value.formed, Tryz.underlying79, cells_place] at h
  rename_i cs
  obtain ⟨hs, ls, h, _⟩ := h
  obtain ⟨cs⟩ := cs
  match cs, hs with
  | [a, b, c], _ =>
    have e : Tryz.prog.keyLits (246 + 3) 79 [a, b, c] = some ls := h
    unfold Program.keyLits at e
    rw [Tryz.underlying79] at e
    simp [cells_place, cells_cell, cells_int] at e
    cases h1 : Tryz.prog.keyLits (246 + 2) 45 [a, b] with
    | none => simp [h1] at e
    | some l1 =>
      cases h2 : Tryz.prog.keyLits (247 + 1) 3 [c] with
      | none => simp [h1, h2] at e
      | some l2 =>
        obtain ⟨x, y, rfl, rfl, hx, hy⟩ := lits_cell_inv h1
        obtain ⟨z, rfl, hz⟩ := lits_int_inv h2
        exact ⟨x, y, z, rfl, hx, hy, hz⟩
end Go.Proofs.YtfnbmcinbmbehaaGreat
/- The tallies of a map, sorted. -/
namespace Go.Proofs.YtfnbmcinbmbehaaGreat
open Go.RowKit Go.Sort Go.Shelf Go.Maps

def dom64 (k : Spot) : Prop := (Lit.int .i64 k.x).wf = true ∧ (Lit.int .i64 k.y).wf = true ∧ (Lit.int .i64 k.h).wf = true
def ekSpot (k : Spot) : Value := .agg #[.int .i64 k.x, .int .i64 k.y, .int .i64 k.h]
theorem ekSpot_inj (a b : Spot) (h : ekSpot a = ekSpot b) : a = b := by
  cases a; cases b; simp [ekSpot] at h; simp [h]
abbrev MpP (w : World) (b n : Nat) (f : Spot → Int) : Prop := MpI Tryz.prog 79 3 ekSpot dom64 w b n f
theorem zeroInt (w : World) : (zeroValue 3).run Tryz.prog w = .ok (.int .i64 0) w := by kernel_rfl
theorem el_Tally : ElemOf Tryz.prog 41 47 4 32 := ElemOf.mk' (z := .agg #[.int .i64 0, .int .i64 0, .int .i64 0, .int .i64 0]) Tryz.underlying41 (by kernel_rfl) rfl
theorem dom_of_key_place {k : Spot} {l : Lit} (h : keyOf Tryz.prog 79 (ekSpot k) = some l) : dom64 k := by
  obtain ⟨x, y, z, e, hx, hy, hz⟩ := key_place_inv h
  have : k = ⟨x, y, z⟩ := ekSpot_inj _ _ e
  subst this; exact ⟨hx, hy, hz⟩
theorem encTally_len (x : Tally) : (encTally x).length = 4 := rfl
theorem encTally_one (x : Tally) : ∀ v ∈ encTally x, v.oneCell' = true := by
  intro v hv; simp [encTally] at hv; rcases hv with rfl | rfl | rfl | rfl <;> rfl
theorem swoTally : SWO (ltOf tallyC) where
  irrefl x := by have := (@tallyC_zero x x).2 rfl; simp [ltOf]; omega
  trans x y z h1 h2 := by simp [ltOf, tallyC_neg] at *; omega
  ntrans x y z h1 h2 := by simp [ltOf] at *; have a := @tallyC_neg x y; have b := @tallyC_neg y z; have c := @tallyC_neg x z; omega

/-- What has been collected while some entries are still to come. -/
structure Coll (K : TypeId) (D : DataW Unit) (f : Spot → Int) (left : Lit → Bool) (L : List Tally) : Prop where
  val : ∀ t ∈ L, dom64 (keyT t) ∧ f (keyT t) = t.many ∧ 0 < t.many
  gone : ∀ t ∈ L, ∀ l, keyOf Tryz.prog K (ekSpot (keyT t)) = some l → left l = false
  all_ : ∀ k l, dom64 k → keyOf Tryz.prog K (ekSpot k) = some l → has D l = true → left l = false → 0 < f k → (⟨k.x, k.y, k.h, f k⟩ : Tally) ∈ L
  nodup : (L.map keyT).Nodup

theorem coll_start_place {D : DataW Unit} {f : Spot → Int} : Coll 79 D f (has D) [] :=
  ⟨by simp, by simp, fun k l _ _ h1 h2 => (by rw [h1] at h2; cases h2), by simp⟩
set_option maxRecDepth 100000 in
theorem coll_step_place {D : DataW Unit} {f : Spot → Int} {left : Lit → Bool} {L : List Tally} (h : Coll 79 D f left L) {k : Spot} {kl : Lit} (hd : dom64 k) (hk : keyOf Tryz.prog 79 (ekSpot k) = some kl) (hl : left kl = true)
    (L' : List Tally) (hL : L' = if 0 < f k then L ++ [⟨k.x, k.y, k.h, f k⟩] else L) : Coll 79 D f (fun z => left z && !z.sameKey kl) L' := by
  have hself : kl.sameKey kl = true := WideAt.sameKey_self (law_place.key hk)
  refine ⟨?_, ?_, ?_, ?_⟩
  · intro t ht
    rw [hL] at ht
    split at ht
    · rcases List.mem_append.1 ht with ht | ht
      · exact h.val t ht
      · simp at ht; subst ht; exact ⟨hd, rfl, by assumption⟩
    · exact h.val t ht
  · intro t ht l hl2
    rw [hL] at ht
    have old : t ∈ L → (left l && !l.sameKey kl) = false := fun ht => by rw [h.gone t ht l hl2]; rfl
    split at ht
    · rcases List.mem_append.1 ht with ht | ht
      · exact old ht
      · simp at ht; subst ht
        have e : l = kl := by
          have : keyOf Tryz.prog 79 (ekSpot k) = some l := hl2
          rw [hk] at this; injection this with this; exact this.symm
        subst e; rw [hself]; simp
    · exact old ht
  · intro k' l' hd' hk' hh hlf hpos
    by_cases e : l' = kl
    · subst e
      have ek' : k' = k := ekSpot_inj _ _ (law_place.inj hk' hk)
      subst ek'
      rw [hL, if_pos hpos]; simp
    · have hs : l'.sameKey kl = false := sameKey_ne e
      rw [hs] at hlf
      have := h.all_ k' l' hd' hk' hh (by simpa using hlf) hpos
      rw [hL]; split
      · exact List.mem_append_left _ this
      · exact this
  · rw [hL]; split
    · rw [List.map_append, List.nodup_append]
      refine ⟨h.nodup, by simp, fun a ha b hb e => ?_⟩
      simp at hb; subst hb; subst e
      obtain ⟨t, ht, e2⟩ := List.mem_map.1 ha
      have e3 : keyT t = k := e2
      have := h.gone t ht kl (by rw [e3]; exact hk)
      rw [hl] at this; cases this
    · exact h.nodup
set_option maxRecDepth 100000 in
theorem coll_end_place {D : DataW Unit} {f : Spot → Int} {left : Lit → Bool} {L : List Tally} (h : Coll 79 D f left L) (hM : MpD Tryz.prog 79 ekSpot dom64 D f) (hl : ∀ kl, left kl = false) (hf : ∀ k, 0 < f k → dom64 k) {ys : List Tally} (hp : ys.Perm L)
    (hs : ∀ i j (hi : i < j) (hj : j < ys.length), ltOf tallyC ys[j] (ys[i]'(by omega)) = false) : Listed f ys := by
  refine ⟨?_, fun t => ?_⟩
  · have hnd : (ys.map keyT).Nodup := (hp.map keyT).nodup_iff.2 h.nodup
    rw [List.pairwise_iff_getElem]
    intro i j hi hj hij
    have h1 := hs i j hij hj
    have h2 : keyT ys[i] ≠ keyT ys[j] := fun e => by
      have := (List.nodup_iff_pairwise_ne.1 hnd)
      rw [List.pairwise_iff_getElem] at this
      exact this i j (by simpa using hi) (by simpa using hj) hij (by simpa using e)
    simp [ltOf] at h1
    have e1 := @tallyC_neg ys[i] ys[j]
    have e2 := @tallyC_neg ys[j] ys[i]
    simp only [keyT, ne_eq, Spot.mk.injEq] at h2
    omega
  · rw [hp.mem_iff]
    constructor
    · intro ht; exact (h.val t ht).2
    · rintro ⟨h1, h2⟩
      have hd := hf (keyT t) (by omega)
      obtain ⟨l, hk⟩ := key_place t.x t.y t.hour hd.1 hd.2.1 hd.2.2
      have hh : has D l = true := by
        cases hc : has D l with
        | true => rfl
        | false =>
          have e1 := hM.at_ (keyT t) l hd hk
          rw [atKey_of_not_has hc] at e1
          injection e1 with e1; injection e1 with _ e1
          omega
      have := h.all_ (keyT t) l hd hk hh (hl l) (by omega)
      have e : (⟨(keyT t).x, (keyT t).y, (keyT t).h, f (keyT t)⟩ : Tally) = t := by rw [h1]; rfl
      rw [e] at this
      exact this

/-- A slice of tallies in new memory. -/
def Talsplace (f : Spot → Int) (w : World) (e : Ending) (w' : World) : Prop :=
  ∃ (A : Option Addr) (c : Nat) (ys : List Tally), e = .returned (.slice A ys.length c) ∧ Listed f ys ∧ Rd w' w.heap.size A 4 encTally ys ∧ Nx w w'

set_option maxRecDepth 100000 in
set_option maxHeartbeats 2000000 in
theorem w_placelisted (b n : Nat) (f : Spot → Int) (w : World) (hm : MpP w b n f) (hn : n ≤ 65536) (hf : ∀ k, 0 < f k → dom64 k) :
    Calls Tryz.prog 33 #[.map (some b)] w (Talsplace f w) := by
  obtain ⟨D, hown, hM⟩ := hm
  have hbl := hown.lt
  have hsz : Maps.size D ≤ n := by
    obtain ⟨es, clock, _, _, h1, rfl⟩ := hown
    rw [size_eq, length_sorted]; simpa using h1
  have HM := hide hM
  have HF := hide hf
  clear hM hf
  go_enter Tryz.func33, Tryz.ntmps33
  go_wp2_with (first
    | (at_range; refine wpList_range_own _ rfl _ _ rfl 79 3 law_place Tryz.underlying77 _ b n _ rfl hown ?_; intro w0 hrg0 hg0 hs0))
  go_frame
  go_loopw [3, 4, 5] (fun v _ _ wr => ∃ (left : Lit → Bool) (cnt : Nat) (L : List Tally), wr.ranges Tryz.prog 79 (plainElem Tryz.prog 3) b w.heap.size n D left cnt ∧ L.length + cnt ≤ n ∧ wr.ownsRow (w.heap.size + 1) 47 4 v L.length (L.flatMap encTally) ∧ Coll 79 D f left L ∧ Nx w wr)
    (fun _ _ _ wr => wr.rangeLeft b w.heap.size)
  case atStart =>
    exact ⟨_, _, [], hrg0, by simpa using hsz, World.ownsRow_nil _ _ _ _, coll_start_place, (Nx.refl _).grown hg0 (fun j hj => by cases hj)⟩
  case round =>
    obtain ⟨left, cnt, L, hrg, hcs, hown1, hC, hnx⟩ := hrel
    go_wp2_with (first
      | (at_next; refine wpList_next_ranges _ rfl _ rfl 79 law_place (plainElem Tryz.prog 3) ekSpot (Value.int .i64) (fun key kl hkey => (by obtain ⟨x, y, z, rfl, _⟩ := key_place_inv hkey; exact ⟨⟨x, y, z⟩, rfl⟩)) (fun v y hv => (by obtain ⟨c, rfl, _⟩ := plainElem_int_inv Tryz.underlying3 hv; exact ⟨c, rfl⟩)) b w.heap.size n _ _ _ rfl hrg ?_ ?_))
    · intro hc0 hl0
      have HC := hide hC
      clear hC
      rcases hown1.2 with ⟨rfl, h0⟩ | ⟨g, cap, cur, rfl, hg, _⟩
      · have hL : L = [] := List.eq_nil_of_length_eq_zero h0
        subst hL
        have hcon := fun W => AnyF.slices_SortFunc_none (P := Tryz.prog) { Tryz.sortTally with } none 0 (.func (.func 59) #[] #[]) W
        change ∀ W, Calls Tryz.prog 58 _ _ _ at hcon
        go_wp2_with (go_at_call 58; refine (hcon _).mono ?_; rintro e w' ⟨rfl, rfl⟩)
        go_ret
        exact ⟨none, 0, [], rfl, coll_end_place HC.out HM.out hl0 HF.out (List.Perm.refl _) (by simp), Rd.nil, hnx⟩
      · have hcon := sortFunc Tryz.sortTally 4 (by omega) Tryz.isAgg47 Tryz.sizeOf47 encTally encTally_len encTally_one tallyC swoTally 59 (enters_of Tryz.func59 (by kernel_rfl) rfl) (fun x y W => w_byTally x y W) (base := w.heap.size + 1) (b := g) (cap := cap) (xs := L) rfl (by omega) hown1
        change Calls Tryz.prog 58 _ _ _ at hcon
        go_wp2_with (go_at_call 58; refine hcon.mono ?_; rintro e w' ⟨rfl, ys, hp, hs, ho, hgr⟩)
        go_ret
        have hyl : ys.length = L.length := hp.length_eq
        obtain ⟨A, c, ev, hR, _⟩ := Rd.of_own encTally_len hyl.symm ho
        exact ⟨A, c, ys, congrArg Ending.returned ev, coll_end_place HC.out HM.out hl0 HF.out hp hs, hR.low (by omega), hnx.grown hgr (fun j hj => by injection hj with hj; omega)⟩
    · intro k c kl y ps w1 cnt1 hkey hlk hRv hat hrg1 hlt hg1 hs1 hen
      have hd := dom_of_key_place hkey
      have hfk : f k = c := by
        obtain ⟨c', e1, e2, _⟩ := plainElem_int_inv Tryz.underlying3 hRv
        injection e1 with _ e1; subst e1
        have e3 := HM.out.at_ k kl hd hkey
        rw [hat] at e3
        injection e2 with e2 _
        rw [e2] at e3
        injection e3 with e3; injection e3 with _ e3
        exact e3.symm
      have HFK := hide hfk
      clear hfk hRv hat
      have hown2 := own_gr hown1 hg1 (by omega)
      have hnx1 : Nx w w1 := hnx.grown hg1 (fun j hj => by injection hj with hj; omega)
      have hsz1 : w.heap.size < w1.heap.size := by
        obtain ⟨_, _, _, _, _, _, _, _, _, h, _⟩ := hrg1
        exact (Array.getElem?_eq_some_iff.1 h).1
      clear hs1
      simp only [ekSpot] at hen ⊢
      by_cases hpos : 0 < c
      · go_wp2_with (first | (at_builtin; refine wpApp rfl _ _ _ rfl el_Tally encTally encTally_len encTally_one (by omega) (by omega) (w.heap.size + 1) _ L rfl ((hown2.alloc _).alloc _) _ ⟨k.x, k.y, k.h, c⟩ _ rfl (hnew (by simp)) rfl (by omega) (by simp; omega) ?_; intro v2 w2 hown3 hg2))
        have hrg2 := ((hrg1.alloc _).alloc _).kept hg2 (fun e => by have := own_blk_lt hown2 b e.symm; omega) (fun e => by have := own_blk_lt hown2 _ e.symm; omega)
        go_roundw
        case rel => exact ⟨_, cnt1, _, hrg2, by simp; omega, hown3, coll_step_place hC hd hkey hlk _ (by rw [HFK.out, if_pos hpos]), ((hnx1.alloc _).alloc _).grown hg2 (fun j hj => by have := own_blk_lt hown2 j hj; omega)⟩
        case measure => rw [hrg2.left_eq, hrg.left_eq]; exact hlt
      · go_wp2
        go_roundw
        case rel => exact ⟨_, cnt1, _, hrg1.alloc _, by omega, hown2.alloc _, coll_step_place hC hd hkey hlk _ (by rw [HFK.out, if_neg hpos]), hnx1.alloc _⟩
        case measure => rw [(hrg1.alloc _).left_eq, hrg.left_eq]; exact hlt

/-- A slice of tallies in new memory. -/
def Talsspot (f : Spot → Int) (w : World) (e : Ending) (w' : World) : Prop :=
  ∃ (A : Option Addr) (c : Nat) (ys : List Tally), e = .returned (.slice A ys.length c) ∧ Listed f ys ∧ Rd w' w.heap.size A 4 encTally ys ∧ Nx w w'

end Go.Proofs.YtfnbmcinbmbehaaGreat
/- '==' and '!=' on structs. -/
namespace Go.Proofs.YtfnbmcinbmbehaaGreat
open Go.RowKit

theorem gd_Cell : Tryz.prog.eqGuardType Tryz.prog.depth 45 = false := by kernel_rfl
theorem gd_Tally : Tryz.prog.eqGuardType Tryz.prog.depth 47 = false := by kernel_rfl
theorem sin_Cell (d : Nat) (x y a b : Int) (w : World) : (Op.equalIn (d + 2) 45 (.agg #[.int .i64 x, .int .i64 y]) (.agg #[.int .i64 a, .int .i64 b])).run Tryz.prog w = .ok (x == a && y == b) w := by
  have u3 := Tryz.underlying3
  have a3 := Tryz.isAgg3
  have z3 := Tryz.sizeOf3
  have hS : Tryz.prog.underlying 45 = some (.struct (Tryz.prog.fieldsOf 45)) := by kernel_rfl
  have hp : Tryz.prog.stoodInHeld 45 = false := by kernel_rfl
  rw [run_equalIn_agg w (d + 1) 45 _ _ hS hp]
  simp only [Program.fieldsOf, Tryz.underlying45]
  go_simp
  by_cases h1 : x = a <;> by_cases h2 : y = b <;> simp [h1, h2]
theorem neq_Cell (x y a b : Int) (w : World) : (binOp .neq 45 (.agg #[.int .i64 x, .int .i64 y]) (.agg #[.int .i64 a, .int .i64 b])).run Tryz.prog w = .ok (.bool (!(x == a && y == b))) w := by
  rw [run_neq_struct, show (10000 : Nat) = 9998 + 2 from rfl, sin_Cell]; rfl
theorem eql_Cell (x y a b : Int) (w : World) : (binOp .eql 45 (.agg #[.int .i64 x, .int .i64 y]) (.agg #[.int .i64 a, .int .i64 b])).run Tryz.prog w = .ok (.bool (x == a && y == b)) w := by
  rw [run_eql_struct, show (10000 : Nat) = 9998 + 2 from rfl, sin_Cell]; rfl
theorem sin_Tally (d : Nat) (x y h m a b c e : Int) (w : World) : (Op.equalIn (d + 3) 47 (.agg #[.int .i64 x, .int .i64 y, .int .i64 h, .int .i64 m]) (.agg #[.int .i64 a, .int .i64 b, .int .i64 c, .int .i64 e])).run Tryz.prog w = .ok ((x == a && y == b) && h == c && m == e) w := by
  have u3 := Tryz.underlying3
  have a3 := Tryz.isAgg3
  have z3 := Tryz.sizeOf3
  have a4 := Tryz.isAgg45
  have z4 := Tryz.sizeOf45
  have hC := fun w => sin_Cell d x y a b w
  have hS : Tryz.prog.underlying 47 = some (.struct (Tryz.prog.fieldsOf 47)) := by kernel_rfl
  have hp : Tryz.prog.stoodInHeld 47 = false := by kernel_rfl
  rw [run_equalIn_agg w (d + 2) 47 _ _ hS hp]
  simp only [Program.fieldsOf, Tryz.underlying47]
  go_simp
  by_cases h1 : x = a <;> by_cases h2 : y = b <;> by_cases h3 : h = c <;> by_cases h4 : m = e <;> simp [h1, h2, h3, h4]
theorem neq_Tally (x y h m a b c e : Int) (w : World) : (binOp .neq 47 (.agg #[.int .i64 x, .int .i64 y, .int .i64 h, .int .i64 m]) (.agg #[.int .i64 a, .int .i64 b, .int .i64 c, .int .i64 e])).run Tryz.prog w = .ok (.bool (!((x == a && y == b) && h == c && m == e))) w := by
  rw [run_neq_struct, show (10000 : Nat) = 9997 + 3 from rfl, sin_Tally]; rfl
end Go.Proofs.YtfnbmcinbmbehaaGreat
