/- A map of integers, said of a plain function: what it holds at each key. Of no program. -/
import Derived.Test.YtfnbmcinbmbehaaGreatQG0
import Derived.Maps.Own
import Derived.Maps.OwnOps
import Derived.Maps.Views
import Derived.Maps.RangeWalk
import Derived.WideKeyEntry
namespace Go.Proofs.YtfnbmcinbmbehaaGreat
open Go.RowKit Go.Maps

section
variable {κ : Type} {P : Program} {K E : TypeId} {ek : κ → Value} {dom : κ → Prop}

/-- The map's datum D holds f k at key k (0 where it has none); its keys lie in dom. -/
structure MpD (P : Program) (K : TypeId) (ek : κ → Value) (dom : κ → Prop) (D : DataW Unit) (f : κ → Int) : Prop where
  isMap : IsMap D
  at_ : ∀ k l, dom k → keyOf P K (ek k) = some l → D.atKey l (.lit (.int .i64 0)) = .lit (.int .i64 (f k))
  keys : ∀ l, has D l = true → ∃ k, dom k ∧ keyOf P K (ek k) = some l

/-- Block b is such a map. -/
def MpI (P : Program) (K E : TypeId) (ek : κ → Value) (dom : κ → Prop) (w : World) (b n : Nat) (f : κ → Int) : Prop :=
  ∃ D : DataW Unit, w.ownsMap P K (plainElem P E) b n D ∧ MpD P K ek dom D f

theorem MpI.lt {w : World} {b n : Nat} {f : κ → Int} (h : MpI P K E ek dom w b n f) : b < w.heap.size := by
  obtain ⟨D, h1, _⟩ := h; exact h1.lt
theorem MpI.nx {w w' : World} {b n : Nat} {f : κ → Int} (h : MpI P K E ek dom w b n f) (hn : Nx w w') : MpI P K E ek dom w' b n f := by
  obtain ⟨D, h1, h2⟩ := h
  exact ⟨D, h1.kept (hn.gr none) (by simp), h2⟩
theorem MpI.mono {w : World} {b n n' : Nat} {f : κ → Int} (h : MpI P K E ek dom w b n f) (hn : n ≤ n') : MpI P K E ek dom w b n' f := by
  obtain ⟨D, h1, h2⟩ := h; exact ⟨D, h1.mono hn, h2⟩
theorem MpI.made (w : World) : MpI P K E ek dom (w.alloc (.map #[] 0)) w.heap.size 0 (fun _ => 0) :=
  ⟨.map [], World.ownsMap_made w P K _, isMap_empty, fun _ _ _ _ => rfl, fun l h => by simp [has_eq] at h⟩
theorem wf_i64 {n : Int} : (Lit.int .i64 n).wf = true ↔ -9223372036854775808 ≤ n ∧ n ≤ 9223372036854775807 := by
  simp [Lit.wf, IntKind.min, IntKind.max, IntKind.signed, IntKind.bits]

theorem MpI.look {w : World} {b n : Nat} {f : κ → Int} {t : TypeId} (h : MpI P K E ek dom w b n f) (KL : Keyed P K) (ht : P.underlying t = some (.map K E)) (he : P.underlying E = some (.int .i64)) (hz : (zeroValue E).run P w = .ok (.int .i64 0) w)
    {k : κ} (hd : dom k) {l : Lit} (hkey : keyOf P K (ek k) = some l) : (Instr.lookup t (.map (some b)) (ek k) false).run P w = .ok (.int .i64 (f k)) w ∧ (Lit.int .i64 (f k)).wf = true := by
  obtain ⟨D, h1, h2⟩ := h
  obtain ⟨c, hrun, hat, hwf⟩ := h1.lookup_int KL ht he hz hkey
  have e := h2.at_ k l hd hkey
  rw [hat] at e
  have e' : c = f k := by injection e with e; injection e
  subst e'
  exact ⟨hrun, hwf⟩

theorem MpD.put {D : DataW Unit} {f : κ → Int} [DecidableEq κ] (h : MpD P K ek dom D f) (KL : Keyed P K) (hinj : ∀ a b : κ, ek a = ek b → a = b) {k : κ} (hd : dom k) {l : Lit} (hkey : keyOf P K (ek k) = some l) (v : Int) :
    MpD P K ek dom (D.put l (.lit (.int .i64 v))) (fun k' => if k' = k then v else f k') where
  isMap := h.isMap.put _ _
  at_ k' l' hd' hk' := by
    by_cases e : k' = k
    · subst e
      rw [hkey] at hk'; injection hk' with hk'; subst hk'
      rw [if_pos rfl]
      exact atKey_put_same h.isMap (KL.key hkey) _ _
    · rw [if_neg e]
      have hne : l' ≠ l := fun e1 => by subst e1; exact e (hinj _ _ (KL.inj hk' hkey))
      rw [atKey_put_other hne]
      exact h.at_ k' l' hd' hk'
  keys l' hl' := by
    by_cases e : l' = l
    · subst e; exact ⟨k, hd, hkey⟩
    · rw [has_put_other e] at hl'; exact h.keys l' hl'

set_option maxRecDepth 100000 in
/-- 'm[k] op= v', as the model runs it: first the entry, then the store. -/
theorem MpI.entry {w : World} {b n : Nat} {f : κ → Int} [DecidableEq κ] {t : TypeId} (h : MpI P K E ek dom w b n f) (KL : WideMaps.KeyLaw P K) (hinj : ∀ a b : κ, ek a = ek b → a = b) (ht : P.underlying t = some (.map K E)) (he : P.underlying E = some (.int .i64))
    (hz : ∀ u, (zeroValue E).run P u = .ok (.int .i64 0) u) (hn : n < maxLen) {k : κ} (hd : dom k) {l : Lit} (hkey : keyOf P K (ek k) = some l) :
    ∃ (v0 : Value) (st : Int) (w1 : World), (Instr.mapEntry t (.map (some b)) (ek k)).run P w = .ok (.tuple #[v0, .int .i64 st]) w1 ∧ w.grownBy w1 (some b) ∧ (Instr.lookup t (.map (some b)) (ek k) false).run P w1 = .ok (.int .i64 (f k)) w1 ∧
      ∀ v : Int, (Lit.int .i64 v).wf = true → ∃ w2, (Instr.entryStore t (.map (some b)) (.int .i64 st) (.int .i64 v)).run P w1 = .ok () w2 ∧ MpI P K E ek dom w2 b (n + 1) (fun k' => if k' = k then v else f k') ∧ w.grownBy w2 (some b) := by
  obtain ⟨D, h1, h2⟩ := h
  have h1' := h1
  obtain ⟨es, clock, hb, F, _, _⟩ := h1
  obtain ⟨v0, st, es1, clock1, hr1, _, hr2⟩ := WideElems.entry_then_store KL ht hz hb F hkey
  refine ⟨v0, st, _, hr1, ⟨rfl, rfl, rfl, by simp [ChangeMaps.setBlock], fun k hk hne => by
    have : b ≠ k := fun e => hne (by rw [e])
    simp [ChangeMaps.setBlock, this]⟩, ?_, fun v hv => ?_⟩
  · have hlt : b < w.heap.size := h1'.lt
    rcases KL.find w hkey es.toList F.keys with ⟨e1, e2⟩ | ⟨j, e0, e1, e2, e3⟩
    · have hrun : (Instr.mapEntry t (.map (some b)) (ek k)).run P w = .ok (.tuple #[.int .i64 0, goInt clock]) (ChangeMaps.setBlock w b (.map (es.push ⟨ek k, .int .i64 0, clock⟩) (clock + 1))) := by
        simp [Instr.mapEntry, run_underlying ht, MapKept.run_getObj_map hb, KL.check w false hkey, e1, hz, MapKept.run_setObj_map _ hb, Result.andThen, ChangeMaps.setBlock]
      have hup : (Instr.mapUpdate t (.map (some b)) (ek k) (.int .i64 0)).run P w = .ok () (ChangeMaps.setBlock w b (.map (es.push ⟨ek k, .int .i64 0, clock⟩) (clock + 1))) := by
        simp [Instr.mapUpdate, run_underlying ht, MapKept.run_getObj_map hb, KL.check w false hkey, e1, MapKept.run_setObj_map _ hb, Result.andThen, ChangeMaps.setBlock]
      rw [hr1] at hrun
      rw [Result.ok.injEq] at hrun
      have ew := hrun.2
      clear hrun
      rw [ew]
      obtain ⟨w2, hu2, ho2, _⟩ := h1'.update (Keyed.of_law KL) ht hn hkey (plainElem_int (H := Unit) he (wf_i64.2 (by omega) : (Lit.int .i64 0).wf = true))
      rw [hup] at hu2
      rw [Result.ok.injEq] at hu2
      have eu := hu2.2
      clear hu2
      have hM : MpI P K E ek dom w2 b (n + 1) (fun k' => if k' = k then 0 else f k') := ⟨_, ho2, h2.put (Keyed.of_law KL) hinj hd hkey 0⟩
      have hl := (hM.look (Keyed.of_law KL) ht he (hz _) hd hkey).1
      rw [if_pos rfl] at hl
      have hf : f k = 0 := by
        have e4 := (MpI.look ⟨D, h1', h2⟩ (Keyed.of_law KL) ht he (hz _) hd hkey).1
        have e5 : (Instr.lookup t (.map (some b)) (ek k) false).run P w = .ok (.int .i64 0) w := by
          simp [Instr.lookup, run_underlying ht, MapKept.run_getObj_map hb, KL.check w _ hkey, e1, hz, Result.andThen]
        rw [e5] at e4
        injection e4 with e4 _; injection e4 with _ e4; exact e4.symm
      rw [eu, hf]
      exact hl
    · have hj : es[j]? = some e0 := by simpa using e2
      have hrun : (Instr.mapEntry t (.map (some b)) (ek k)).run P w = .ok (.tuple #[e0.val, goInt e0.born]) w := by
        have hsame : es.modify j (fun e => { e with key := ek k }) = es := by
          apply Array.ext'
          rw [Array.toList_modify]
          have h6 : ({ e0 with key := ek k } : MapEntry) = e0 := by rw [← e3]
          apply List.ext_getElem?
          intro i
          rw [List.getElem?_modify]
          by_cases hi : j = i
          · subst hi; rw [e2]; simp [h6]
          · simp [hi]
        simp [Instr.mapEntry, run_underlying ht, MapKept.run_getObj_map hb, KL.check w false hkey, e1, hj, e3, KL.stays w hkey, hsame, MapKept.run_setObj_map _ hb, Result.andThen]
        have hs : w.heap.setIfInBounds b (.map es clock) = w.heap := by
          apply Array.ext'
          rw [Array.toList_setIfInBounds]
          apply List.ext_getElem?
          intro i
          rw [List.getElem?_set]
          by_cases hi : b = i
          · subst hi; rw [if_pos rfl, if_pos (by simpa using hlt), Array.getElem?_toList, hb]
          · rw [if_neg hi]
        rw [hs]
      rw [hr1] at hrun
      rw [Result.ok.injEq] at hrun
      have ew := hrun.2
      clear hrun
      rw [ew]
      exact (MpI.look ⟨D, h1', h2⟩ (Keyed.of_law KL) ht he (hz _) hd hkey).1
  obtain ⟨es', clock', hs, hu⟩ := hr2 (ChangeMaps.setBlock w b (.map es1 clock1)) (.int .i64 v) (by
    have hlt : b < w.heap.size := h1'.lt
    simp [ChangeMaps.setBlock, hlt])
  obtain ⟨w2, hu2, ho2, hg2⟩ := h1'.update (Keyed.of_law KL) ht hn hkey (plainElem_int (H := Unit) he hv)
  rw [hu] at hu2
  injection hu2 with _ e2
  have e3 : ChangeMaps.setBlock (ChangeMaps.setBlock w b (.map es1 clock1)) b (.map es' clock') = ChangeMaps.setBlock w b (.map es' clock') := by
    simp [ChangeMaps.setBlock]
  rw [e3, e2] at hs
  exact ⟨w2, hs, ⟨_, ho2, h2.put (Keyed.of_law KL) hinj hd hkey v⟩, hg2⟩
end
end Go.Proofs.YtfnbmcinbmbehaaGreat
