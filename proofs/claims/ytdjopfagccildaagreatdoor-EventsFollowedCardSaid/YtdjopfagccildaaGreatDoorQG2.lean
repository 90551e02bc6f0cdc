/- Events: the maps that follow them; the keys. -/
import Derived.Test.YtdjopfagccildaaGreatDoorQG1
import Derived.Test.YtdjopfagccildaaGreatDoorQG0
import Derived.Deep.RegionHeld3
import Derived.Deep.RegionWith
import Derived.Deep.DeepCutAuto
import Derived.RegionTactic
import Derived.StillTailTactics
namespace Go.Proofs.YtdjopfagccildaaGreatDoor
open Go.RowKit Go.Maps

theorem law_strE : Keyed Tryz.prog 9 := string_keyed Tryz.underlying9
theorem law_intE : Keyed Tryz.prog 3 := int_keyed Tryz.underlying3
theorem law_name : Keyed Tryz.prog 160 := Keyed.of_law (deep_law_laid laidOut (m := 5) (by omega) (k := 160) (by rw [tySize]; decide) (by kernel_rfl) (by kernel_rfl))
theorem kt_name : Tryz.prog.keyType 160 = true := by kernel_rfl
theorem cells_name : Tryz.prog.cellsOf 160 = 2 := by kernel_rfl
theorem cells_str : Tryz.prog.cellsOf 9 = 1 := by kernel_rfl
theorem lits_str (d : Nat) (s : ByteArray) (hs : s.size ≤ maxLen) : Tryz.prog.keyLits (d + 1) 9 [.string s] = some [.string s.data.toList] := by
  unfold Program.keyLits; rw [Tryz.underlying9]; simp [hs]
theorem lits_name (d : Nat) (s : ByteArray) (n : Int) (hs : s.size ≤ maxLen) (hn : (Lit.int .i64 n).wf = true) : Tryz.prog.keyLits (d + 2) 160 [.string s, .int .i64 n] = some [.string s.data.toList, .int .i64 n] := by
  unfold Program.keyLits; rw [Tryz.underlying160]; simp [cells_name, cells_str, cells_int, lits_str _ _ hs, lits_int _ _ hn]
/-- The name of an event. -/
structure EvName where
  source : ByteArray
  no : Int
deriving DecidableEq
def ekName (k : EvName) : Value := .agg #[.string k.source, .int .i64 k.no]
theorem ekName_inj (a b : EvName) (h : ekName a = ekName b) : a = b := by
  cases a; cases b; simp [ekName] at h; simp [h]
def domName (k : EvName) : Prop := k.source.size ≤ maxLen ∧ (Lit.int .i64 k.no).wf = true
theorem key_name (k : EvName) (h : domName k) : ∃ l, keyOf Tryz.prog 160 (ekName k) = some l := by
  refine ⟨.string (keyBytes [.string k.source.data.toList, .int .i64 k.no]), ?_⟩
  unfold keyOf ekName
  rw [Tryz.underlying160, kt_name, tySize]
  have e := lits_name 322 k.source k.no h.1 h.2
  simp [Value.formed, Tryz.underlying160, cells_name, Value.cells, e]
theorem zeroIntE (w : World) : (zeroValue 3).run Tryz.prog w = .ok (.int .i64 0) w := by kernel_rfl
theorem zeroBoolE (w : World) : (zeroValue 4).run Tryz.prog w = .ok (.bool false) w := by kernel_rfl
abbrev intE : ElemR (plainElem Tryz.prog 3) (Value.int .i64) (fun z => .lit (.int .i64 z)) (fun z => (Lit.int .i64 z).wf = true) := elemInt Tryz.underlying3
abbrev boolE : ElemR (plainElem Tryz.prog 4) Value.bool (fun z => .lit (.bool z)) (fun _ => True) := elemBool Tryz.underlying4
/-- A map from strings to numbers. -/
abbrev MpSI (w : World) (b n : Nat) (f : ByteArray → Option Int) : Prop := MgI Tryz.prog 9 Value.string domS (plainElem Tryz.prog 3) (fun z : Int => (.lit (.int .i64 z) : DataW Unit)) w b n f
/-- .. to variables. -/
abbrev MpSP (w : World) (b n : Nat) (f : ByteArray → Option (Option Nat)) : Prop := MgI Tryz.prog 9 Value.string domS ptrElem ptrD w b n f
def domI (z : Int) : Prop := (Lit.int .i64 z).wf = true
theorem key_int {z : Int} (h : domI z) : keyOf Tryz.prog 3 (.int .i64 z) = some (.int .i64 z) := keyOf_int_mk Tryz.underlying3 h
abbrev MpII (w : World) (b n : Nat) (f : Int → Option Int) : Prop := MgI Tryz.prog 3 (Value.int .i64) domI (plainElem Tryz.prog 3) (fun z : Int => (.lit (.int .i64 z) : DataW Unit)) w b n f
abbrev MpIB (w : World) (b n : Nat) (f : Int → Option Bool) : Prop := MgI Tryz.prog 3 (Value.int .i64) domI (plainElem Tryz.prog 4) (fun z : Bool => (.lit (.bool z) : DataW Unit)) w b n f
abbrev MpNI (w : World) (b n : Nat) (f : EvName → Option Int) : Prop := MgI Tryz.prog 160 ekName domName (plainElem Tryz.prog 3) (fun z : Int => (.lit (.int .i64 z) : DataW Unit)) w b n f
end Go.Proofs.YtdjopfagccildaaGreatDoor
/- The day in memory: rides and cars, each a block of its own. -/
namespace Go.Proofs.YtdjopfagccildaaGreatDoor
open Go.RowKit Go.Maps

def encEvt (x : Ev) : List Value := [.string x.source, .int .i64 x.no, .int .i64 x.at_, .int .i64 x.kind, .string x.ride, .string x.car, .string x.node, .int .i64 x.up, .int .i64 x.down, .string x.from_, .int .i64 x.number]
theorem encEvt_len (x : Ev) : (encEvt x).length = 11 := rfl
def staV (s : St) : Array Value := #[.string s.ride, .string s.car, .int .i64 s.how, .int .i64 s.up, .int .i64 s.down, .int .i64 s.on, .int .i64 s.off]
def crwV (c : Crew) (m : Nat) : Array Value := #[.string c.node, .int .i64 c.at_, .bool c.broken, .map (some m)]
def staO (s : St) : Obj := .cells (staV s) 51 (0, 0)
def crwO (c : Crew) (m : Nat) : Obj := .cells (crwV c m) 138 (0, 0)
/-- A map from strings to bools. -/
abbrev MpKB (w : World) (b n : Nat) (f : ByteArray → Option Bool) : Prop := MgI Tryz.prog 9 Value.string domS (plainElem Tryz.prog 4) (fun z : Bool => (.lit (.bool z) : DataW Unit)) w b n f

theorem mg_obj {κ V : Type} {P : Program} {K : TypeId} {ek : κ → Value} {dom : κ → Prop} {R : Value → Option (DataW Unit × List MemPlace)} {dv : V → DataW Unit} {w : World} {b n : Nat} {f : κ → Option V} (h : MgI P K ek dom R dv w b n f) : ∃ es t, w.heap[b]? = some (.map es t) := by
  obtain ⟨D, ⟨es, cl, hb, _⟩, _⟩ := h
  exact ⟨es, cl, hb⟩
theorem mg_ne {κ V : Type} {P : Program} {K : TypeId} {ek : κ → Value} {dom : κ → Prop} {R : Value → Option (DataW Unit × List MemPlace)} {dv : V → DataW Unit} {w : World} {b n p : Nat} {f : κ → Option V} {cs : Array Value} {t : TypeId} {fr : Nat × Nat} (h : MgI P K ek dom R dv w b n f) (hp : w.heap[p]? = some (.cells cs t fr)) : b ≠ p := by
  intro e; subst e
  obtain ⟨es, cl, hb⟩ := mg_obj h
  rw [hb] at hp; cases hp
theorem sta_ne {w : World} {p q m : Nat} {s : St} {c : Crew} (hp : w.heap[p]? = some (staO s)) (hq : w.heap[q]? = some (crwO c m)) : p ≠ q := by
  intro e; subst e
  rw [hp] at hq
  injection hq with hq; unfold staO crwO at hq; injection hq with _ hq _; revert hq; decide
theorem gr_at {p i : Nat} {o : Obj} {w w' : World} (hg : Gr p w w') (h : w.heap[i]? = some o) (hne : i ≠ p) : w'.heap[i]? = some o :=
  (World.grownBy.block hg i (Array.getElem?_eq_some_iff.1 h).1 (by simpa using hne)).trans h

/-- Rides: a map of pointers to blocks of their own. -/
structure RidesW (w : World) (lo rb N : Nat) (f : ByteArray → Option St) (fr : ByteArray → Option (Option Nat)) : Prop where
  map : MpSP w rb N fr
  non : ∀ k, f k = none → fr k = none
  at_ : ∀ k s, f k = some s → ∃ p, fr k = some (some p) ∧ lo ≤ p ∧ w.heap[p]? = some (staO s)
  inj : ∀ k k' p, fr k = some (some p) → fr k' = some (some p) → k = k'
/-- Cars: each a block and a map of its own. -/
structure CarsW (w : World) (lo cb N : Nat) (f : ByteArray → Option Crew) (fc : ByteArray → Option (Option Nat)) (fm : ByteArray → Nat) : Prop where
  map : MpSP w cb N fc
  non : ∀ k, f k = none → fc k = none
  at_ : ∀ k c, f k = some c → ∃ p, fc k = some (some p) ∧ lo ≤ p ∧ w.heap[p]? = some (crwO c (fm k)) ∧ lo ≤ fm k ∧ MpKB w (fm k) N c.on
  inj : ∀ k k' p, fc k = some (some p) → fc k' = some (some p) → k = k'
  injm : ∀ k k', (f k).isSome = true → (f k').isSome = true → fm k = fm k' → k = k'
structure DayW (w : World) (lo rb cb N : Nat) (D : DayP) (fr fc : ByteArray → Option (Option Nat)) (fm : ByteArray → Nat) : Prop where
  rides : RidesW w lo rb N D.rides fr
  cars : CarsW w lo cb N D.cars fc fm
  rlo : rb < lo
  clo : cb < lo
  ne : rb ≠ cb
  sz : lo ≤ w.heap.size

/-- Of what lies below lo only two maps have turned; of what lies above it maps, rides and cars alone. -/
structure Fr2 (lo rb cb : Nat) (w w' : World) : Prop where
  os : w'.os = w.os
  tape : w'.tape = w.tape
  output : w'.output = w.output
  size : w.heap.size ≤ w'.heap.size
  block : ∀ i, i < lo → i ≠ rb → i ≠ cb → w'.heap[i]? = w.heap[i]?
  cells : ∀ (i : Nat) (cs : Array Value) (t : TypeId) (fr : Nat × Nat), w.heap[i]? = some (.cells cs t fr) → t ≠ 51 → t ≠ 138 → w'.heap[i]? = some (.cells cs t fr)
theorem Fr2.refl (lo rb cb : Nat) (w : World) : Fr2 lo rb cb w w := ⟨rfl, rfl, rfl, Nat.le_refl _, fun _ _ _ _ => rfl, fun _ _ _ _ h _ _ => h⟩
theorem Fr2.trans {lo rb cb : Nat} {a b c : World} (h : Fr2 lo rb cb a b) (k : Fr2 lo rb cb b c) : Fr2 lo rb cb a c :=
  ⟨k.os.trans h.os, k.tape.trans h.tape, k.output.trans h.output, Nat.le_trans h.size k.size, fun i h1 h2 h3 => (k.block i h1 h2 h3).trans (h.block i h1 h2 h3), fun i cs t fr h1 h2 h3 => k.cells i cs t fr (h.cells i cs t fr h1 h2 h3) h2 h3⟩
theorem Fr2.gr {lo rb cb p : Nat} {b c : World} (k : Gr p b c) (hp : p = rb ∨ p = cb ∨ lo ≤ p) (hs : lo ≤ b.heap.size) (ht : ∀ (cs : Array Value) (t : TypeId) (fr : Nat × Nat), b.heap[p]? = some (.cells cs t fr) → t = 51 ∨ t = 138) : Fr2 lo rb cb b c :=
  ⟨World.grownBy.os k, World.grownBy.tape k, World.grownBy.output k, World.grownBy.size k, fun i h1 h2 h3 => World.grownBy.block k i (by omega) (by simp; omega), fun i cs t fr h1 h2 h3 =>
    gr_at k h1 (fun e => by subst e; exact (ht cs t fr h1).elim h2 h3)⟩
theorem Fr2.grMap {lo rb cb p : Nat} {b c : World} {es : Array MapEntry} {cl : Nat} (k : Gr p b c) (hp : p = rb ∨ p = cb ∨ lo ≤ p) (hs : lo ≤ b.heap.size) (hm : b.heap[p]? = some (.map es cl)) : Fr2 lo rb cb b c :=
  Fr2.gr k hp hs (fun cs t fr h => by rw [hm] at h; cases h)
theorem Fr2.grSta {lo rb cb p : Nat} {b c : World} {s : St} (k : Gr p b c) (hp : lo ≤ p) (hs : lo ≤ b.heap.size) (hm : b.heap[p]? = some (staO s)) : Fr2 lo rb cb b c :=
  Fr2.gr k (.inr (.inr hp)) hs (fun cs t fr h => by rw [hm] at h; injection h with h; unfold staO at h; injection h with _ h _; exact .inl h.symm)
theorem Fr2.grCrw {lo rb cb p m : Nat} {b c : World} {s : Crew} (k : Gr p b c) (hp : lo ≤ p) (hs : lo ≤ b.heap.size) (hm : b.heap[p]? = some (crwO s m)) : Fr2 lo rb cb b c :=
  Fr2.gr k (.inr (.inr hp)) hs (fun cs t fr h => by rw [hm] at h; injection h with h; unfold crwO at h; injection h with _ h _; exact .inr h.symm)
theorem Fr2.nx {lo rb cb : Nat} {b c : World} (k : Nx b c) (hs : lo ≤ b.heap.size) : Fr2 lo rb cb b c :=
  Fr2.gr (p := b.heap.size) (Gr.of_nx k) (.inr (.inr hs)) hs (fun cs t fr h => by have := (Array.getElem?_eq_some_iff.1 h).1; omega)
theorem Fr2.at_ {lo rb cb i : Nat} {w w' : World} {o : Obj} (h : Fr2 lo rb cb w w') (hi : i < lo) (h1 : i ≠ rb) (h2 : i ≠ cb) (ho : w.heap[i]? = some o) : w'.heap[i]? = some o := (h.block i hi h1 h2).trans ho
theorem Fr2.toNx {lo rb cb : Nat} {w w' : World} (h : Fr2 lo rb cb w w') {a : World} (hn : Nx a w) (hr : a.heap.size ≤ rb) (hc : a.heap.size ≤ cb) (hl : a.heap.size ≤ lo) : Nx a w' :=
  Below.trans hn ⟨h.os, h.tape, h.output, h.size, fun i hi => h.block i (by omega) (by omega) (by omega)⟩

theorem RidesW.step {w w' : World} {lo rb N p : Nat} {f : ByteArray → Option St} {fr : ByteArray → Option (Option Nat)} (h : RidesW w lo rb N f fr) (hg : Gr p w w') (hr : rb ≠ p) (hp : ∀ k s q, f k = some s → fr k = some (some q) → q ≠ p) : RidesW w' lo rb N f fr :=
  ⟨h.map.gr hg hr, h.non, fun k s hk => by obtain ⟨q, a, b, c⟩ := h.at_ k s hk; exact ⟨q, a, b, gr_at hg c (hp k s q hk a)⟩, h.inj⟩
theorem CarsW.step {w w' : World} {lo cb N p : Nat} {f : ByteArray → Option Crew} {fc : ByteArray → Option (Option Nat)} {fm : ByteArray → Nat} (h : CarsW w lo cb N f fc fm) (hg : Gr p w w') (hr : cb ≠ p) (hp : ∀ k c q, f k = some c → fc k = some (some q) → q ≠ p ∧ fm k ≠ p) : CarsW w' lo cb N f fc fm :=
  ⟨h.map.gr hg hr, h.non, fun k c hk => by obtain ⟨q, a, b, d, e, g⟩ := h.at_ k c hk; exact ⟨q, a, b, gr_at hg d (hp k c q hk a).1, e, g.gr hg (hp k c q hk a).2⟩, h.inj, h.injm⟩
theorem RidesW.mono {w : World} {lo rb N N' : Nat} {f : ByteArray → Option St} {fr : ByteArray → Option (Option Nat)} (h : RidesW w lo rb N f fr) (hn : N ≤ N') : RidesW w lo rb N' f fr := ⟨h.map.mono hn, h.non, h.at_, h.inj⟩
theorem CarsW.mono {w : World} {lo cb N N' : Nat} {f : ByteArray → Option Crew} {fc : ByteArray → Option (Option Nat)} {fm : ByteArray → Nat} (h : CarsW w lo cb N f fc fm) (hn : N ≤ N') : CarsW w lo cb N' f fc fm :=
  ⟨h.map.mono hn, h.non, fun k c hk => by obtain ⟨q, a, b, d, e, g⟩ := h.at_ k c hk; exact ⟨q, a, b, d, e, g.mono hn⟩, h.inj, h.injm⟩
theorem DayW.mono {w : World} {lo rb cb N N' : Nat} {D : DayP} {fr fc : ByteArray → Option (Option Nat)} {fm : ByteArray → Nat} (h : DayW w lo rb cb N D fr fc fm) (hn : N ≤ N') : DayW w lo rb cb N' D fr fc fm := ⟨h.rides.mono hn, h.cars.mono hn, h.rlo, h.clo, h.ne, h.sz⟩
section
variable {w w' : World} {lo rb cb N : Nat} {D : DayP} {fr fc : ByteArray → Option (Option Nat)} {fm : ByteArray → Nat}
/-- A block that is none of the day's turns. -/
theorem DayW.other (h : DayW w lo rb cb N D fr fc fm) {p : Nat} (hg : Gr p w w') (h1 : rb ≠ p) (h2 : cb ≠ p) (h3 : p < lo ∨ w.heap.size ≤ p) : DayW w' lo rb cb N D fr fc fm := by
  have hlt : ∀ {i : Nat} {o : Obj}, w.heap[i]? = some o → i < w.heap.size := fun h => (Array.getElem?_eq_some_iff.1 h).1
  refine ⟨h.rides.step hg h1 ?_, h.cars.step hg h2 ?_, h.rlo, h.clo, h.ne, Nat.le_trans h.sz (World.grownBy.size hg)⟩
  · intro k s q hk hq
    obtain ⟨q', a, b, c⟩ := h.rides.at_ k s hk
    rw [hq] at a; injection a with a; injection a with a; subst a
    have := hlt c; omega
  · intro k c q hk hq
    obtain ⟨q', a, b, d, e, g⟩ := h.cars.at_ k c hk
    rw [hq] at a; injection a with a; injection a with a; subst a
    have := hlt d; have := g.lt; omega
theorem DayW.nx (h : DayW w lo rb cb N D fr fc fm) (hn : Nx w w') : DayW w' lo rb cb N D fr fc fm :=
  h.other (p := w.heap.size) (Gr.of_nx hn) (by have := h.rlo; have := h.sz; omega) (by have := h.clo; have := h.sz; omega) (.inr (Nat.le_refl _))
/-- A ride's block turns. -/
theorem DayW.stPut (h : DayW w lo rb cb N D fr fc fm) {k : ByteArray} {p : Nat} {s s' : St} (hs : D.rides k = some s) (hp : fr k = some (some p)) (hg : Gr p w w') (hw : w'.heap[p]? = some (staO s')) : DayW w' lo rb cb N (setR D k s') fr fc fm := by
  obtain ⟨p', a, hlo, hpo⟩ := h.rides.at_ k s hs
  rw [hp] at a; injection a with a; injection a with a; subst a
  refine ⟨⟨h.rides.map.gr hg (mg_ne h.rides.map hpo), ?_, ?_, h.rides.inj⟩, h.cars.step hg (mg_ne h.cars.map hpo) ?_, h.rlo, h.clo, h.ne, Nat.le_trans h.sz (World.grownBy.size hg)⟩
  · intro j hj
    have hj : updF D.rides k s' j = none := hj
    by_cases e : j = k
    · subst e; rw [updF_same] at hj; cases hj
    · rw [updF_other _ _ e] at hj; exact h.rides.non j hj
  · intro j t hj
    have hj : updF D.rides k s' j = some t := hj
    by_cases e : j = k
    · subst e; rw [updF_same] at hj; injection hj with hj; subst hj; exact ⟨p, hp, hlo, hw⟩
    · rw [updF_other _ _ e] at hj
      obtain ⟨q, a, b, c⟩ := h.rides.at_ j t hj
      exact ⟨q, a, b, gr_at hg c (fun e2 => e (h.rides.inj j k p (by rw [a, e2]) hp))⟩
  · intro j c q hj hq
    obtain ⟨q', a, b, d, e, g⟩ := h.cars.at_ j c hj
    rw [hq] at a; injection a with a; injection a with a; subst a
    exact ⟨fun e2 => by subst e2; exact sta_ne hpo d rfl, fun e2 => mg_ne g hpo e2⟩
/-- A ride is booked: a new block, and the map says so. -/
theorem DayW.book (h : DayW w lo rb cb N D fr fc fm) {k : ByteArray} {p : Nat} {s' : St} (hs : D.rides k = none) (hpl : lo ≤ p) (hpo : w.heap[p]? = some (staO s')) (hpn : ∀ j q, fr j = some (some q) → q ≠ p) (hg : Gr rb w w') (hm : MpSP w' rb (N + 1) (fun j => if j = k then some (some p) else fr j)) :
    DayW w' lo rb cb (N + 1) (setR D k s') (fun j => if j = k then some (some p) else fr j) fc fm := by
  refine ⟨⟨hm, ?_, ?_, ?_⟩, (h.cars.step hg h.ne.symm ?_).mono (Nat.le_succ _), h.rlo, h.clo, h.ne, Nat.le_trans h.sz (World.grownBy.size hg)⟩
  · intro j hj
    have hj : updF D.rides k s' j = none := hj
    by_cases e : j = k
    · subst e; rw [updF_same] at hj; cases hj
    · rw [updF_other _ _ e] at hj; rw [if_neg e]; exact h.rides.non j hj
  · intro j t hj
    have hj : updF D.rides k s' j = some t := hj
    by_cases e : j = k
    · subst e; rw [updF_same] at hj; injection hj with hj; subst hj
      exact ⟨p, if_pos rfl, hpl, gr_at hg hpo (fun e => mg_ne h.rides.map hpo e.symm)⟩
    · rw [updF_other _ _ e] at hj
      obtain ⟨q, a, b, c⟩ := h.rides.at_ j t hj
      exact ⟨q, by rw [if_neg e]; exact a, b, gr_at hg c (fun e => mg_ne h.rides.map c e.symm)⟩
  · intro i j q hi hj
    by_cases e1 : i = k <;> by_cases e2 : j = k
    · exact e1.trans e2.symm
    · rw [if_pos e1] at hi; rw [if_neg e2] at hj
      injection hi with hi; injection hi with hi
      exact absurd hi.symm (hpn j q hj)
    · rw [if_neg e1] at hi; rw [if_pos e2] at hj
      injection hj with hj; injection hj with hj
      exact absurd hj.symm (hpn i q hi)
    · rw [if_neg e1] at hi; rw [if_neg e2] at hj
      exact h.rides.inj i j q hi hj
  · intro j c q hj hq
    obtain ⟨q', a, b, d, e, g⟩ := h.cars.at_ j c hj
    have := h.rlo
    rw [hq] at a; injection a with a; injection a with a; subst a
    exact ⟨by omega, by omega⟩
/-- A car's block turns. -/
theorem DayW.crPut (h : DayW w lo rb cb N D fr fc fm) {k : ByteArray} {p : Nat} {c c' : Crew} (hs : D.cars k = some c) (hp : fc k = some (some p)) (hg : Gr p w w') (hw : w'.heap[p]? = some (crwO c' (fm k))) (hon : c'.on = c.on) : DayW w' lo rb cb N (setC D k c') fr fc fm := by
  obtain ⟨p', a, hlo, hpo, hml, hm⟩ := h.cars.at_ k c hs
  rw [hp] at a; injection a with a; injection a with a; subst a
  refine ⟨h.rides.step hg (mg_ne h.rides.map hpo) ?_, ⟨h.cars.map.gr hg (mg_ne h.cars.map hpo), ?_, ?_, h.cars.inj, ?_⟩, h.rlo, h.clo, h.ne, Nat.le_trans h.sz (World.grownBy.size hg)⟩
  · intro j s q hj hq
    obtain ⟨q', a, b, d⟩ := h.rides.at_ j s hj
    rw [hq] at a; injection a with a; injection a with a; subst a
    exact sta_ne d hpo
  · intro j hj
    have hj : updF D.cars k c' j = none := hj
    by_cases e : j = k
    · subst e; rw [updF_same] at hj; cases hj
    · rw [updF_other _ _ e] at hj; exact h.cars.non j hj
  · intro j t hj
    have hj : updF D.cars k c' j = some t := hj
    by_cases e : j = k
    · subst e; rw [updF_same] at hj; injection hj with hj; subst hj
      exact ⟨p, hp, hlo, hw, hml, by rw [hon]; exact hm.gr hg (mg_ne hm hpo)⟩
    · rw [updF_other _ _ e] at hj
      obtain ⟨q, a, b, d, e', g⟩ := h.cars.at_ j t hj
      exact ⟨q, a, b, gr_at hg d (fun e2 => e (h.cars.inj j k p (by rw [a, e2]) hp)), e', g.gr hg (mg_ne g hpo)⟩
  · intro i j hi hj
    refine h.cars.injm i j ?_ ?_
    · have hi : (updF D.cars k c' i).isSome = true := hi
      by_cases e : i = k
      · subst e; rw [hs]; rfl
      · rw [updF_other _ _ e] at hi; exact hi
    · have hj : (updF D.cars k c' j).isSome = true := hj
      by_cases e : j = k
      · subst e; rw [hs]; rfl
      · rw [updF_other _ _ e] at hj; exact hj
/-- Who is on board of a car turns. -/
theorem DayW.crOn (h : DayW w lo rb cb N D fr fc fm) {k : ByteArray} {c : Crew} {on' : ByteArray → Option Bool} (hs : D.cars k = some c) (hg : Gr (fm k) w w') (hm : MpKB w' (fm k) (N + 1) on') : DayW w' lo rb cb (N + 1) (setC D k { c with on := on' }) fr fc fm := by
  obtain ⟨p, hp, hlo, hpo, hml, hm0⟩ := h.cars.at_ k c hs
  have hr := h.rlo
  have hc := h.clo
  refine ⟨(h.rides.step hg (by omega) ?_).mono (Nat.le_succ _), ⟨(h.cars.map.gr hg (by omega)).mono (Nat.le_succ _), ?_, ?_, h.cars.inj, ?_⟩, h.rlo, h.clo, h.ne, Nat.le_trans h.sz (World.grownBy.size hg)⟩
  · intro j s q hj hq
    obtain ⟨q', a, b, d⟩ := h.rides.at_ j s hj
    rw [hq] at a; injection a with a; injection a with a; subst a
    exact fun e => mg_ne hm0 d e.symm
  · intro j hj
    have hj : updF D.cars k { c with on := on' } j = none := hj
    by_cases e : j = k
    · subst e; rw [updF_same] at hj; cases hj
    · rw [updF_other _ _ e] at hj; exact h.cars.non j hj
  · intro j t hj
    have hj : updF D.cars k { c with on := on' } j = some t := hj
    by_cases e : j = k
    · subst e; rw [updF_same] at hj; injection hj with hj; subst hj
      exact ⟨p, hp, hlo, gr_at hg hpo (fun e => mg_ne hm0 hpo e.symm), hml, hm⟩
    · rw [updF_other _ _ e] at hj
      obtain ⟨q, a, b, d, e', g⟩ := h.cars.at_ j t hj
      exact ⟨q, a, b, gr_at hg d (fun e2 => mg_ne hm0 d e2.symm), e', (g.gr hg (fun e2 => e (h.cars.injm j k (by rw [hj]; rfl) (by rw [hs]; rfl) e2))).mono (Nat.le_succ _)⟩
  · intro i j hi hj
    refine h.cars.injm i j ?_ ?_
    · have hi : (updF D.cars k { c with on := on' } i).isSome = true := hi
      by_cases e : i = k
      · subst e; rw [hs]; rfl
      · rw [updF_other _ _ e] at hi; exact hi
    · have hj : (updF D.cars k { c with on := on' } j).isSome = true := hj
      by_cases e : j = k
      · subst e; rw [hs]; rfl
      · rw [updF_other _ _ e] at hj; exact hj
/-- A car is told of for the first time: a new block, a new map. -/
theorem DayW.carNew (h : DayW w lo rb cb N D fr fc fm) {k : ByteArray} {p m : Nat} (hs : D.cars k = none) (hpl : lo ≤ p) (hpo : w.heap[p]? = some (crwO crew0 m)) (hml : lo ≤ m) (hmo : MpKB w m 0 (fun _ => none)) (hpn : ∀ j q, fc j = some (some q) → q ≠ p) (hmn : ∀ j, (D.cars j).isSome = true → fm j ≠ m)
    (hg : Gr cb w w') (hm : MpSP w' cb (N + 1) (fun j => if j = k then some (some p) else fc j)) :
    DayW w' lo rb cb (N + 1) (setC D k crew0) fr (fun j => if j = k then some (some p) else fc j) (fun j => if j = k then m else fm j) := by
  have hcl := h.clo
  refine ⟨(h.rides.step hg h.ne ?_).mono (Nat.le_succ _), ⟨hm, ?_, ?_, ?_, ?_⟩, h.rlo, h.clo, h.ne, Nat.le_trans h.sz (World.grownBy.size hg)⟩
  · intro j s q hj hq
    obtain ⟨q', a, b, d⟩ := h.rides.at_ j s hj
    rw [hq] at a; injection a with a; injection a with a; subst a
    omega
  · intro j hj
    have hj : updF D.cars k crew0 j = none := hj
    by_cases e : j = k
    · subst e; rw [updF_same] at hj; cases hj
    · rw [updF_other _ _ e] at hj; rw [if_neg e]; exact h.cars.non j hj
  · intro j t hj
    have hj : updF D.cars k crew0 j = some t := hj
    by_cases e : j = k
    · subst e; rw [updF_same] at hj; injection hj with hj; subst hj
      rw [if_pos rfl, if_pos rfl]
      exact ⟨p, rfl, hpl, gr_at hg hpo (by omega), hml, (hmo.gr hg (by omega)).mono (Nat.zero_le _)⟩
    · rw [updF_other _ _ e] at hj
      rw [if_neg e, if_neg e]
      obtain ⟨q, a, b, d, e', g⟩ := h.cars.at_ j t hj
      exact ⟨q, a, b, gr_at hg d (by omega), e', (g.gr hg (by omega)).mono (Nat.le_succ _)⟩
  · intro i j q hi hj
    by_cases e1 : i = k <;> by_cases e2 : j = k
    · exact e1.trans e2.symm
    · rw [if_pos e1] at hi; rw [if_neg e2] at hj
      injection hi with hi; injection hi with hi
      exact absurd hi.symm (hpn j q hj)
    · rw [if_neg e1] at hi; rw [if_pos e2] at hj
      injection hj with hj; injection hj with hj
      exact absurd hj.symm (hpn i q hi)
    · rw [if_neg e1] at hi; rw [if_neg e2] at hj
      exact h.cars.inj i j q hi hj
  · intro i j hi hj hij
    have hi : (updF D.cars k crew0 i).isSome = true := hi
    have hj : (updF D.cars k crew0 j).isSome = true := hj
    have hij : (if i = k then m else fm i) = (if j = k then m else fm j) := hij
    by_cases e1 : i = k <;> by_cases e2 : j = k
    · exact e1.trans e2.symm
    · rw [if_pos e1, if_neg e2] at hij
      rw [updF_other _ _ e2] at hj
      exact absurd hij.symm (hmn j hj)
    · rw [if_neg e1, if_pos e2] at hij
      rw [updF_other _ _ e1] at hi
      exact absurd hij (hmn i hi)
    · rw [if_neg e1, if_neg e2] at hij
      rw [updF_other _ _ e1] at hi
      rw [updF_other _ _ e2] at hj
      exact h.cars.injm i j hi hj hij
end
end Go.Proofs.YtdjopfagccildaaGreatDoor
/- The day's cars: broken, car, was. -/
namespace Go.Proofs.YtdjopfagccildaaGreatDoor
open Go.RowKit Go.Maps

theorem zeroCrewE (w : World) : (zeroValue 135).run Tryz.prog w = .ok (ptrV none) w := by kernel_rfl
theorem zeroStateE (w : World) : (zeroValue 131).run Tryz.prog w = .ok (ptrV none) w := by kernel_rfl
theorem look_car {w : World} {cb n : Nat} {fc : ByteArray → Option (Option Nat)} (h : MpSP w cb n fc) {key : ByteArray} (hk : domS key) : (Instr.lookup 112 (.map (some cb)) (.string key) false).run Tryz.prog w = .ok (ptrV ((fc key).getD none)) w :=
  (h.look elemPtr law_strE Tryz.underlying112 trivial (zeroCrewE w) hk (keyS_mk Tryz.underlying9 hk)).1
theorem look_ride {w : World} {rb n : Nat} {fr : ByteArray → Option (Option Nat)} (h : MpSP w rb n fr) {key : ByteArray} (hk : domS key) : (Instr.lookup 111 (.map (some rb)) (.string key) false).run Tryz.prog w = .ok (ptrV ((fr key).getD none)) w :=
  (h.look elemPtr law_strE Tryz.underlying111 trivial (zeroStateE w) hk (keyS_mk Tryz.underlying9 hk)).1
theorem crw_cells {w : World} {p m : Nat} {c : Crew} (h : w.heap[p]? = some (crwO c m)) : w.cell? ⟨p, 0, none⟩ = some (.string c.node) ∧ w.cell? ⟨p, 1, none⟩ = some (.int .i64 c.at_) ∧ w.cell? ⟨p, 2, none⟩ = some (.bool c.broken) ∧ w.cell? ⟨p, 3, none⟩ = some (.map (some m)) :=
  ⟨cell_of_row w p 0 _ _ _ h, cell_of_row w p 1 _ _ _ h, cell_of_row w p 2 _ _ _ h, cell_of_row w p 3 _ _ _ h⟩
theorem sta_cells {w : World} {p : Nat} {s : St} (h : w.heap[p]? = some (staO s)) : w.cell? ⟨p, 0, none⟩ = some (.string s.ride) ∧ w.cell? ⟨p, 1, none⟩ = some (.string s.car) ∧ w.cell? ⟨p, 2, none⟩ = some (.int .i64 s.how) ∧ w.cell? ⟨p, 3, none⟩ = some (.int .i64 s.up) ∧ w.cell? ⟨p, 4, none⟩ = some (.int .i64 s.down) ∧ w.cell? ⟨p, 5, none⟩ = some (.int .i64 s.on) ∧ w.cell? ⟨p, 6, none⟩ = some (.int .i64 s.off) :=
  ⟨cell_of_row w p 0 _ _ _ h, cell_of_row w p 1 _ _ _ h, cell_of_row w p 2 _ _ _ h, cell_of_row w p 3 _ _ _ h, cell_of_row w p 4 _ _ _ h, cell_of_row w p 5 _ _ _ h, cell_of_row w p 6 _ _ _ h⟩
set_option maxRecDepth 100000 in
set_option maxHeartbeats 1000000 in
theorem w_broken (d lo rb cb N : Nat) (D : DayP) (fr fc : ByteArray → Option (Option Nat)) (fm : ByteArray → Nat) (key : ByteArray) (w : World) (h : DayW w lo rb cb N D fr fc fm) (h2 : w.cell? ⟨d, 2, none⟩ = some (.map (some cb))) (hk : domS key) :
    Calls Tryz.prog 142 #[.pointer (some ⟨d, 0, none⟩), .string key] w fun e w' => e = .returned (.bool (brokenP D key)) ∧ w = w' := by
  have hl := look_car h.cars.map hk
  cases hc : D.cars key with
  | none =>
    have hb : brokenP D key = false := by unfold brokenP carP; rw [hc]; rfl
    rw [h.cars.non key hc] at hl
    rw [hb]
    simp only [Option.getD_none, ptrV] at hl
    have H := hide h
    clear h hb hc
    go_enter Tryz.func142, Tryz.ntmps142
    go_wp2_with fail
    go_ret
    exact ⟨rfl, rfl⟩
  | some c =>
    obtain ⟨p, hp, _, hpo, _⟩ := h.cars.at_ key c hc
    have hb : brokenP D key = c.broken := by unfold brokenP carP; rw [hc]; rfl
    rw [hp] at hl
    rw [hb]
    simp only [Option.getD_some, ptrV] at hl
    have c2 := (crw_cells hpo).2.2.1
    have H := hide h
    clear h hb hc hpo hp
    go_enter Tryz.func142, Tryz.ntmps142
    go_wp2_with fail
    go_ret
    exact ⟨rfl, rfl⟩
theorem setC_same {D : DayP} {k : ByteArray} {c : Crew} (h : D.cars k = some c) : setC D k (carP D k) = D := by
  obtain ⟨r, f⟩ := D
  unfold setC carP
  simp only at h ⊢
  rw [h]
  simp only [Option.getD_some, DayP.mk.injEq, true_and]
  funext j
  unfold updF
  split
  · rename_i e; subst e; exact h.symm
  · rfl
theorem carP_none {D : DayP} {k : ByteArray} (h : D.cars k = none) : carP D k = crew0 := by unfold carP; rw [h]; rfl
/-- The car that is told of, and where it lies. -/
def CarOut (lo rb cb N : Nat) (D : DayP) (fr : ByteArray → Option (Option Nat)) (key : ByteArray) (w : World) (e : Ending) (w' : World) : Prop :=
  ∃ (p : Nat) (fc' : ByteArray → Option (Option Nat)) (fm' : ByteArray → Nat), e = .returned (.pointer (some ⟨p, 0, none⟩)) ∧ DayW w' lo rb cb (N + 1) (setC D key (carP D key)) fr fc' fm' ∧ fc' key = some (some p) ∧ lo ≤ p ∧ Gr cb w w'
set_option maxRecDepth 100000 in
set_option maxHeartbeats 2000000 in
theorem w_car (d lo rb cb N : Nat) (D : DayP) (fr fc : ByteArray → Option (Option Nat)) (fm : ByteArray → Nat) (key : ByteArray) (w : World) (h : DayW w lo rb cb N D fr fc fm) (h2 : w.cell? ⟨d, 2, none⟩ = some (.map (some cb))) (hd : d < lo) (hdc : d ≠ cb) (hk : domS key) (hN : N < 100000) :
    Calls Tryz.prog 203 #[.pointer (some ⟨d, 0, none⟩), .string key] w (CarOut lo rb cb N D fr key w) := by
  have hl := look_car h.cars.map hk
  cases hc : D.cars key with
  | some c =>
    obtain ⟨p, hp, hlp, hpo, _⟩ := h.cars.at_ key c hc
    rw [hp] at hl
    simp only [Option.getD_some, ptrV] at hl
    have H := hide h
    have HP := hide hp
    have HS := hide (setC_same hc)
    clear h hc hpo hp
    go_enter Tryz.func203, Tryz.ntmps203
    go_wp2_with fail
    go_ret
    exact ⟨p, fc, fm, rfl, by rw [HS.out]; exact H.out.mono (Nat.le_succ _), HP.out, hlp, Gr.refl _ _⟩
  | none =>
    have hnn := h.cars.non key hc
    rw [hnn] at hl
    simp only [Option.getD_none, ptrV] at hl
    have hsz := h.sz
    have hrl := h.rlo
    have hcl := h.clo
    have hM := h.cars.map
    have hkey := keyS_mk (P := Tryz.prog) Tryz.underlying9 hk
    have hmm := @run_makeMap Tryz.prog
    obtain ⟨w1, hw1⟩ : ∃ w1, w1 = (w.alloc (.map #[] 0)).alloc (.cells #[.string ⟨#[]⟩, .int .i64 0, .bool false, .map (some w.heap.size)] 138 (0, 0)) := ⟨_, rfl⟩
    have hn1 : Nx w w1 := hw1 ▸ ((Nx.refl w).alloc _).alloc _
    have hD1 := h.nx hn1
    have hM1 := hM.nx hn1
    have hp1 : w1.heap[w.heap.size + 1]? = some (crwO crew0 w.heap.size) := by
      rw [hw1]
      have := heap_alloc_new (w.alloc (.map #[] 0)) (.cells #[.string ⟨#[]⟩, .int .i64 0, .bool false, .map (some w.heap.size)] 138 (0, 0))
      simpa [crwO, crwV, crew0, eB] using this
    have hm1 : MpKB w1 w.heap.size 0 (fun _ => none) := by
      rw [hw1]; exact (MgI.made w).nx ((Nx.refl _).alloc _)
    have hd1 : w1.cell? ⟨d, 2, none⟩ = some (.map (some cb)) := nx_cell hn1 (by omega) h2
    have hpn : ∀ j q, fc j = some (some q) → q ≠ w.heap.size + 1 := by
      intro j q hj e
      cases hcj : D.cars j with
      | none => rw [h.cars.non j hcj] at hj; cases hj
      | some c =>
        obtain ⟨q', a, _, b, _⟩ := h.cars.at_ j c hcj
        rw [hj] at a; injection a with a; injection a with a; subst a
        have := (Array.getElem?_eq_some_iff.1 b).1
        omega
    have hmn : ∀ j, (D.cars j).isSome = true → fm j ≠ w.heap.size := by
      intro j hj e
      cases hcj : D.cars j with
      | none => rw [hcj] at hj; cases hj
      | some c =>
        obtain ⟨q', _, _, _, _, g⟩ := h.cars.at_ j c hcj
        have := g.lt
        omega
    have H := hide h
    have HD1 := hide hD1
    have HP1 := hide hp1
    have HM1 := hide hm1
    have HPN := hide hpn
    have HMN := hide hmn
    have HC := hide hc
    have HW1 := hide hw1
    have HN1 := hide hn1
    have HG := hide hM1
    clear h hD1 hp1 hm1 hpn hmn hc hw1 hn1 hM hM1 hnn
    go_enter Tryz.func203, Tryz.ntmps203
    go_wp2_with (at_mapUpdate; rw [show ((w.alloc (.map #[] 0)).alloc (.cells #[.string ⟨#[]⟩, .int .i64 0, .bool false, .map (some w.heap.size)] 138 (0, 0))) = w1 from HW1.out.symm]; refine wpMgPut _ rfl _ _ _ _ rfl elemPtr law_strE strV_inj Tryz.underlying112 cb N _ rfl HG.out (by unfold maxLen; omega) key rfl hk _ hkey (some (w.heap.size + 1)) rfl trivial ?_; intro w2 hM2 hg2; (have hl2 := look_car hM2 hk); (simp only [if_true, Option.getD_some, ptrV] at hl2); (have hd2 : w2.cell? ⟨d, 2, none⟩ = some (.map (some cb)) := World.grownBy.cell hg2 hd1 (by simp; omega)); (have HM2 := hide hM2); clear hM2)
    go_ret
    refine ⟨w.heap.size + 1, (fun j => if j = key then some (some (w.heap.size + 1)) else fc j), (fun j => if j = key then w.heap.size else fm j), rfl, ?_, if_pos rfl, by omega, (Gr.of_nx HN1.out).trans hg2⟩
    rw [carP_none HC.out]
    exact HD1.out.carNew HC.out (by omega) HP1.out hsz HM1.out HPN.out HMN.out hg2 HM2.out
theorem setC_setC (D : DayP) (k : ByteArray) (c c' : Crew) : setC (setC D k c) k c' = setC D k c' := by
  unfold setC
  simp only [DayP.mk.injEq, true_and]
  funext j
  unfold updF
  split <;> rfl
theorem setC_at (D : DayP) (k : ByteArray) (c : Crew) : (setC D k c).cars k = some c := updF_same _ _ _
def evA (x : Ev) : Array Value := #[.string x.source, .int .i64 x.no, .int .i64 x.at_, .int .i64 x.kind, .string x.ride, .string x.car, .string x.node, .int .i64 x.up, .int .i64 x.down, .string x.from_, .int .i64 x.number]
set_option maxRecDepth 100000 in
set_option maxHeartbeats 2000000 in
theorem w_was (d lo rb cb N : Nat) (D : DayP) (fr fc : ByteArray → Option (Option Nat)) (fm : ByteArray → Nat) (x : Ev) (w : World) (h : DayW w lo rb cb N D fr fc fm) (h2 : w.cell? ⟨d, 2, none⟩ = some (.map (some cb))) (hd : d < lo) (hdc : d ≠ cb) (hk : domS x.car) (hN : N < 100000) :
    Calls Tryz.prog 143 #[.pointer (some ⟨d, 0, none⟩), .agg (evA x)] w fun e w' => e = .returned (.tuple #[]) ∧ (∃ fc' fm', DayW w' lo rb cb (N + 1) (wasP D x) fr fc' fm') ∧ Fr2 lo rb cb w w' := by
  obtain ⟨so, no, at_, ki, ri, ca, nd, up, dn, fo, nu⟩ := x
  unfold evA
  simp only at hk
  have hsz := h.sz
  have hcl := h.clo
  have hrl := h.rlo
  obtain ⟨o, ho⟩ : ∃ o, o = (.cells #[.string so, .int .i64 no, .int .i64 at_, .int .i64 ki, .string ri, .string ca, .string nd, .int .i64 up, .int .i64 dn, .string fo, .int .i64 nu] 71 (0, 0) : Obj) := ⟨_, rfl⟩
  have hn1 : Nx w (w.alloc o) := (Nx.refl w).alloc _
  have HC := hide (w_car d lo rb cb N D fr fc fm ca (w.alloc o) (h.nx hn1) (nx_cell hn1 (by omega) h2) hd hdc hk hN)
  have hb : (w.alloc o).heap[w.heap.size]? = some o := heap_alloc_new w o
  have HN1 := hide hn1
  have HB := hide hb
  have HCM := hide (h.cars.map.nx hn1)
  subst ho
  clear h hn1 hb
  go_enter Tryz.func143, Tryz.ntmps143
  go_wp2_with fail
  refine HC.out.mono ?_
  rintro e w2 ⟨p, fc', fm', rfl, hD2, hp, hlp, hF⟩
  obtain ⟨p', a, _, hpo, _⟩ := hD2.cars.at_ ca _ (setC_at _ _ _)
  rw [hp] at a; injection a with a; injection a with a; subst a
  have hbx := gr_at hF HB.out (by omega)
  have b0 := (crw_cells hpo).1
  have b1 := (crw_cells hpo).2.1
  have e0 : w2.frozen? ⟨p, 0, none⟩ = false := by simp [World.frozen?, hpo, crwO]
  have e1 : w2.frozen? ⟨p, 1, none⟩ = false := by simp [World.frozen?, hpo, crwO]
  have a2 : w2.cell? ⟨w.heap.size, 2, none⟩ = some (.int .i64 at_) := cell_of_row w2 _ 2 _ _ _ hbx
  have a6 : w2.cell? ⟨w.heap.size, 6, none⟩ = some (.string nd) := cell_of_row w2 _ 6 _ _ _ hbx
  have hne : w.heap.size ≠ p := by
    intro e; subst e
    rw [hbx] at hpo; injection hpo with hpo; unfold crwO at hpo; injection hpo with _ hpo _; revert hpo; decide
  have HPO := hide hpo
  have HD2 := hide hD2
  have HF := hide hF
  have HBX := hide hbx
  clear hpo hD2 hF hbx
  go_wp2_with fail
  go_region
  all_goals (go_wp2; go_end0)
  have hgr : Gr p w2 ((w2.setCell ⟨p, 0, none⟩ (.string nd)).setCell ⟨p, 1, none⟩ (.int .i64 at_)).drew := (((Gr.refl p w2).setS (.inl rfl) _).setS (.inl rfl) _).drew
  have hbl : ((w2.setCell ⟨p, 0, none⟩ (.string nd)).setCell ⟨p, 1, none⟩ (.int .i64 at_)).drew.heap[p]? = some (crwO { carP D ca with node := nd, at_ := at_ } (fm' ca)) := heap_set (heap_set HPO.out)
  have hD3 := HD2.out.crPut (setC_at _ _ _) hp hgr hbl rfl
  rw [setC_setC] at hD3
  refine ⟨rfl, ⟨fc', fm', hD3⟩, ?_⟩
  obtain ⟨es, cl, hcm⟩ := mg_obj HCM.out
  exact ((Fr2.nx HN1.out hsz).trans (Fr2.grMap HF.out (.inr (.inl rfl)) (Nat.le_trans hsz HN1.out.sz) hcm)).trans (Fr2.grCrw hgr hlp HD2.out.sz HPO.out)
end Go.Proofs.YtdjopfagccildaaGreatDoor
