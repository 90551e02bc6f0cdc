/- An event followed, whatever it is. -/
import Derived.Test.YtfkmbeppckelfaaGreatDoorQG10
namespace Go.Proofs.YtfkmbeppckelfaaGreatDoor
open Go.RowKit Go.Maps

def stepA (l : List Ev) (i : Nat) (D : DayP) (x : Ev) : DayP × Int := if x.kind = 9 then (D, undoW l i x) else stepP D x
theorem MgI.same {κ V : Type} {P : Program} {K : TypeId} {ek : κ → Value} {dom : κ → Prop} {R : Value → Option (DataW Unit × List MemPlace)} {dv : V → DataW Unit} {w w' : World} {b n : Nat} {f : κ → Option V} (h : MgI P K ek dom R dv w b n f) (e : w'.heap[b]? = w.heap[b]?) : MgI P K ek dom R dv w' b n f := by
  obtain ⟨D, ⟨es, cl, hb, r⟩, h2⟩ := h
  exact ⟨D, ⟨es, cl, e.trans hb, r⟩, h2⟩
theorem own_same {w w' : World} {base : Nat} {e : TypeId} {size : Nat} {v : Value} {n : Nat} {xs : List Value} (h : w.ownsRow base e size v n xs) (_ : w.heap.size ≤ w'.heap.size) (hh : ∀ g o, v.ownBlock = some g → w.heap[g]? = some o → w'.heap[g]? = some o) : w'.ownsRow base e size v n xs := by
  refine ⟨h.1, ?_⟩
  rcases h.2 with hn | ⟨g, cap, cur, rfl, hb, hg, rest⟩
  · exact .inl hn
  · exact .inr ⟨g, cap, cur, rfl, hb, hh g _ rfl hg, rest⟩
/-- What the step reads besides the day. -/
structure StepC (w : World) (d rb cb nb bb nn nm lc : Nat) (lA : Option Addr) (lo2 : Nat) (l : List Ev) : Prop where
  d0 : w.cell? ⟨d, 0, none⟩ = some (.slice lA l.length lc)
  d1 : w.cell? ⟨d, 1, none⟩ = some (.map (some rb))
  d2 : w.cell? ⟨d, 2, none⟩ = some (.map (some cb))
  d5 : w.cell? ⟨d, 5, none⟩ = some (.map (some bb))
  names : MpNI w nb nn (evNamesF l l.length)
  back : MpIB w bb nm (goneM l l.length).2
  rd : Rd w lo2 lA 11 encEvt l
theorem w_step (d lo rb cb N lo2 nb bb nn nm lc i : Nat) (lA : Option Addr) (l : List Ev) (D : DayP) (fr fc : ByteArray → Option (Option Nat)) (fm : ByteArray → Nat) (x : Ev) (w : World)
    (h : DayW w lo rb cb N D fr fc fm) (hc : StepC w d rb cb nb bb nn nm lc lA lo2 l) (hd : d < lo) (hdc : d ≠ cb) (hdr : d ≠ rb) (hN : N < 50000) (hl : l.length ≤ 1000) (hev : evsF l = 0) (hx : l[i]? = some x) :
    Calls Tryz.prog 90 #[.pointer (some ⟨d, 0, none⟩), .int .i64 (i : Int), .agg (evA x), .map (some nb)] w (RideOut lo rb cb N (stepA l i D x) w) := by
  have hr := evs_right hev (List.mem_of_getElem? hx)
  have hok := okEv_of hr
  obtain ⟨_, _, _, ⟨hk1, hk9⟩, _⟩ := evF_zero hr
  have hkr := domS_1000 hok.ride
  have hkc := domS_1000 hok.car
  obtain ⟨so, no, at_, ki, ri, ca, nd, up, dn, fo, nu⟩ := x
  simp only at hk1 hk9 hkr hkc
  have hk : ki = 1 ∨ ki = 2 ∨ ki = 3 ∨ ki = 4 ∨ ki = 5 ∨ ki = 6 ∨ ki = 7 ∨ ki = 8 ∨ ki = 9 := by omega
  rcases hk with rfl | rfl | rfl | rfl | rfl | rfl | rfl | rfl | rfl
  · exact w_step1 d lo rb cb N D fr fc fm so no at_ i ri ca nd up dn fo nu (.map (some nb)) w h hc.d1 hd hdc hdr hkr (by omega)
  · exact w_step2 d lo rb cb N D fr fc fm so no at_ i ri ca nd up dn fo nu (.map (some nb)) w h hc.d1 hc.d2 hd hdc hdr hkr hkc (by omega)
  · exact w_step3 d lo rb cb N D fr fc fm so no at_ i ri ca nd up dn fo nu (.map (some nb)) w h hc.d1 hc.d2 hd hdc hdr hkr hkc (by omega)
  · exact w_step4 d lo rb cb N D fr fc fm so no at_ i ri ca nd up dn fo nu (.map (some nb)) w h hc.d1 hc.d2 hd hdc hdr hkr hkc (by omega)
  · exact w_step5 d lo rb cb N D fr fc fm so no at_ i ri ca nd up dn fo nu (.map (some nb)) w h hc.d1 hc.d2 hd hdc hdr hkr hkc (by omega)
  · exact w_step6 d lo rb cb N D fr fc fm so no at_ i ri ca nd up dn fo nu (.map (some nb)) w h hc.d1 hc.d2 hd hdc hdr hkr hkc (by omega)
  · exact w_step7 d lo rb cb N D fr fc fm so no at_ i ri ca nd up dn fo nu (.map (some nb)) w h hc.d1 hc.d2 hd hdc hdr hkc (by omega)
  · exact w_step8 d lo rb cb N D fr fc fm so no at_ i ri ca nd up dn fo nu (.map (some nb)) w h hc.d1 hc.d2 hd hdc hdr hkc (by omega)
  · refine (w_step9 d lo2 nb bb nn nm lc i lA l so no at_ ri ca nd up dn fo nu w hc.d0 hc.d5 (Nat.lt_of_lt_of_le hd h.sz) hc.names hc.back hc.rd hl hev hx (by have := hok.from_; unfold maxLen; simp only at this; omega) (wf_15 hok.number)).mono ?_
    rintro e w' ⟨rfl, hn⟩
    exact ⟨none, 0, 0, by unfold stepA; rw [if_pos rfl], ⟨fr, fc, fm, (h.nx hn).mono (by omega)⟩, Fr2.nx hn h.sz⟩
end Go.Proofs.YtfkmbeppckelfaaGreatDoor
/- The reference's day in memory: maps of structs by value. -/
namespace Go.Proofs.YtfkmbeppckelfaaGreatDoor
open Go.RowKit Go.Maps

/-- Where a car was, as the reference keeps it. -/
structure Wh where
  car : ByteArray
  node : ByteArray
  at_ : Int
def wh0 : Wh := ⟨eB, eB, 0⟩
def sD (s : ByteArray) : DataW Unit := .lit (.string s.data.toList)
def iD (z : Int) : DataW Unit := .lit (.int .i64 z)
theorem sD_inj {a b : ByteArray} (h : sD a = sD b) : a = b := data_inj (by unfold sD at h; injection h with h; injection h)
theorem iD_inj {a b : Int} (h : iD a = iD b) : a = b := by unfold iD at h; injection h with h; injection h
def stV (s : St) : Value := .agg (staV s)
def stD (s : St) : DataW Unit := .agg [sD s.ride, sD s.car, iD s.how, iD s.up, iD s.down, iD s.on, iD s.off]
def stElem : Value → Option (DataW Unit × List MemPlace)
  | .agg ⟨[.string a, .string b, .int .i64 c, .int .i64 d, .int .i64 e, .int .i64 f, .int .i64 g]⟩ => some (stD ⟨a, b, c, d, e, f, g⟩, [])
  | _ => none
theorem elemSt : ElemR stElem stV stD (fun _ => True) where
  make v _ := ⟨[], rfl⟩
  inv x d ps h := by
    unfold stElem at h
    split at h
    · injection h with h; injection h with h1 h2; exact ⟨_, trivial, rfl, h1.symm⟩
    · cases h
  inj a b h := by
    obtain ⟨a1, a2, a3, a4, a5, a6, a7⟩ := a
    obtain ⟨b1, b2, b3, b4, b5, b6, b7⟩ := b
    unfold stD at h
    injection h with h
    simp only [List.cons.injEq, and_true] at h
    obtain ⟨h1, h2, h3, h4, h5, h6, h7⟩ := h
    rw [sD_inj h1, sD_inj h2, iD_inj h3, iD_inj h4, iD_inj h5, iD_inj h6, iD_inj h7]
def whV (s : Wh) : Value := .agg #[.string s.car, .string s.node, .int .i64 s.at_, .bool false, .slice none 0 0]
def whD (s : Wh) : DataW Unit := .agg [sD s.car, sD s.node, iD s.at_]
def whElem : Value → Option (DataW Unit × List MemPlace)
  | .agg ⟨[.string a, .string b, .int .i64 c, .bool false, .slice none 0 0]⟩ => some (whD ⟨a, b, c⟩, [])
  | _ => none
theorem elemWh : ElemR whElem whV whD (fun _ => True) where
  make v _ := ⟨[], rfl⟩
  inv x d ps h := by
    unfold whElem at h
    split at h
    · injection h with h; injection h with h1 h2; exact ⟨_, trivial, rfl, h1.symm⟩
    · cases h
  inj a b h := by
    obtain ⟨a1, a2, a3⟩ := a
    obtain ⟨b1, b2, b3⟩ := b
    unfold whD at h
    injection h with h
    simp only [List.cons.injEq, and_true] at h
    obtain ⟨h1, h2, h3⟩ := h
    rw [sD_inj h1, sD_inj h2, iD_inj h3]
theorem zeroStR (w : World) : (zeroValue 59).run Tryz.prog w = .ok (stV st0) w := by kernel_rfl
theorem zeroWhR (w : World) : (zeroValue 57).run Tryz.prog w = .ok (whV wh0) w := by kernel_rfl
abbrev MpSS (w : World) (b n : Nat) (f : ByteArray → Option St) : Prop := MgI Tryz.prog 9 Value.string domS stElem stD w b n f
abbrev MpSC (w : World) (b n : Nat) (f : ByteArray → Option Wh) : Prop := MgI Tryz.prog 9 Value.string domS whElem whD w b n f
def carsF (D : DayR) : ByteArray → Option Wh := fun k => (D.cars k).map fun z => ⟨k, z.1, z.2⟩
theorem look_stR {w : World} {b n : Nat} {f : ByteArray → Option St} (h : MpSS w b n f) {s : ByteArray} (hs : domS s) : (Instr.lookup 154 (.map (some b)) (.string s) false).run Tryz.prog w = .ok (stV ((f s).getD st0)) w :=
  (h.look elemSt law_strE Tryz.underlying154 trivial (zeroStR w) hs (keyS_mk Tryz.underlying9 hs)).1
theorem look_stRk {w : World} {b n : Nat} {f : ByteArray → Option St} (h : MpSS w b n f) {s : ByteArray} (hs : domS s) : (Instr.lookup 154 (.map (some b)) (.string s) true).run Tryz.prog w = .ok (.tuple #[stV ((f s).getD st0), .bool (f s).isSome]) w :=
  (h.look_ok elemSt law_strE Tryz.underlying154 trivial (zeroStR w) hs (keyS_mk Tryz.underlying9 hs)).1
theorem look_whR {w : World} {b n : Nat} {f : ByteArray → Option Wh} (h : MpSC w b n f) {s : ByteArray} (hs : domS s) : (Instr.lookup 155 (.map (some b)) (.string s) false).run Tryz.prog w = .ok (whV ((f s).getD wh0)) w :=
  (h.look elemWh law_strE Tryz.underlying155 trivial (zeroWhR w) hs (keyS_mk Tryz.underlying9 hs)).1
theorem look_boR {w : World} {b n : Nat} {f : ByteArray → Option Bool} (h : MpKB w b n f) {s : ByteArray} (hs : domS s) : (Instr.lookup 97 (.map (some b)) (.string s) false).run Tryz.prog w = .ok (.bool ((f s).getD false)) w :=
  (h.look boolE law_strE Tryz.underlying97 (z := false) trivial (zeroBoolE w) hs (keyS_mk Tryz.underlying9 hs)).1
/-- The reference's day. -/
structure DayRW (w : World) (d rb cb bb N : Nat) (D : DayR) : Prop where
  blk : w.heap[d]? = some (.cells #[.map (some rb), .map (some cb), .map (some bb)] 157 (0, 0))
  rides : MpSS w rb N D.rides
  cars : MpSC w cb N (carsF D)
  brk : MpKB w bb N D.broken
  n1 : rb ≠ cb
  n2 : rb ≠ bb
  n3 : cb ≠ bb
theorem DayRW.nx {w w' : World} {d rb cb bb N : Nat} {D : DayR} (h : DayRW w d rb cb bb N D) (hn : Nx w w') : DayRW w' d rb cb bb N D :=
  ⟨(hn.block _ (Array.getElem?_eq_some_iff.1 h.blk).1).trans h.blk, h.rides.nx hn, h.cars.nx hn, h.brk.nx hn, h.n1, h.n2, h.n3⟩
theorem DayRW.mono {w : World} {d rb cb bb N N' : Nat} {D : DayR} (h : DayRW w d rb cb bb N D) (hn : N ≤ N') : DayRW w d rb cb bb N' D :=
  ⟨h.blk, h.rides.mono hn, h.cars.mono hn, h.brk.mono hn, h.n1, h.n2, h.n3⟩
/-- A block that is no map turns. -/
theorem DayRW.gr {w w' : World} {d rb cb bb N p : Nat} {D : DayR} (h : DayRW w d rb cb bb N D) (hg : Gr p w w') (hp : ∀ es t, w.heap[p]? ≠ some (.map es t)) (hd : d ≠ p) : DayRW w' d rb cb bb N D :=
  ⟨gr_at hg h.blk hd, h.rides.gr hg (fun e => by subst e; obtain ⟨es, t, ho⟩ := mg_obj h.rides; exact hp es t ho), h.cars.gr hg (fun e => by subst e; obtain ⟨es, t, ho⟩ := mg_obj h.cars; exact hp es t ho), h.brk.gr hg (fun e => by subst e; obtain ⟨es, t, ho⟩ := mg_obj h.brk; exact hp es t ho), h.n1, h.n2, h.n3⟩
theorem dayR_cells {w : World} {d rb cb bb : Nat} (h : w.heap[d]? = some (.cells #[.map (some rb), .map (some cb), .map (some bb)] 157 (0, 0))) :
    w.cell? ⟨d, 0, none⟩ = some (.map (some rb)) ∧ w.cell? ⟨d, 1, none⟩ = some (.map (some cb)) ∧ w.cell? ⟨d, 2, none⟩ = some (.map (some bb)) :=
  ⟨cell_of_row w d 0 _ _ _ h, cell_of_row w d 1 _ _ _ h, cell_of_row w d 2 _ _ _ h⟩
/-- Of what was there three maps alone have turned. -/
structure FrR (rb cb bb : Nat) (w w' : World) : Prop where
  os : w'.os = w.os
  tape : w'.tape = w.tape
  output : w'.output = w.output
  size : w.heap.size ≤ w'.heap.size
  block : ∀ i, i < w.heap.size → i ≠ rb → i ≠ cb → i ≠ bb → w'.heap[i]? = w.heap[i]?
theorem FrR.refl (rb cb bb : Nat) (w : World) : FrR rb cb bb w w := ⟨rfl, rfl, rfl, Nat.le_refl _, fun _ _ _ _ _ => rfl⟩
theorem FrR.trans {rb cb bb : Nat} {a b c : World} (h : FrR rb cb bb a b) (k : FrR rb cb bb b c) : FrR rb cb bb a c :=
  ⟨k.os.trans h.os, k.tape.trans h.tape, k.output.trans h.output, Nat.le_trans h.size k.size, fun i h1 h2 h3 h4 => (k.block i (Nat.lt_of_lt_of_le h1 h.size) h2 h3 h4).trans (h.block i h1 h2 h3 h4)⟩
theorem FrR.nx {rb cb bb : Nat} {a b : World} (h : Nx a b) : FrR rb cb bb a b := ⟨h.os, h.tape, h.output, h.size, fun i hi _ _ _ => h.block i hi⟩
theorem FrR.gr {rb cb bb p : Nat} {a b : World} (k : Gr p a b) (hp : p = rb ∨ p = cb ∨ p = bb) : FrR rb cb bb a b :=
  ⟨World.grownBy.os k, World.grownBy.tape k, World.grownBy.output k, World.grownBy.size k, fun i h1 h2 h3 h4 => World.grownBy.block k i h1 (by simp; omega)⟩
/-- A block that is new since turns. -/
theorem FrR.newer {rb cb bb : Nat} {a b c : World} (h : FrR rb cb bb a b) {row : Option Nat} (k : b.grownBy c row) (hp : ∀ p, row = some p → a.heap.size ≤ p) : FrR rb cb bb a c :=
  ⟨(World.grownBy.os k).trans h.os, (World.grownBy.tape k).trans h.tape, (World.grownBy.output k).trans h.output, Nat.le_trans h.size (World.grownBy.size k), fun i h1 h2 h3 h4 => (World.grownBy.block k i (Nat.lt_of_lt_of_le h1 h.size) (fun e => by have := hp i e.symm; omega)).trans (h.block i h1 h2 h3 h4)⟩
theorem FrR.toNx {rb cb bb : Nat} {a b w : World} (h : FrR rb cb bb a b) (hn : Nx w a) (h1 : w.heap.size ≤ rb) (h2 : w.heap.size ≤ cb) (h3 : w.heap.size ≤ bb) : Nx w b :=
  Below.trans hn ⟨h.os, h.tape, h.output, h.size, fun i hi => h.block i (Nat.lt_of_lt_of_le hi hn.sz) (by omega) (by omega) (by omega)⟩
theorem w_newDay (w : World) : Calls Tryz.prog 52 #[] w fun e w' => e = .returned (.pointer (some ⟨w.heap.size + 3, 0, none⟩)) ∧ DayRW w' (w.heap.size + 3) w.heap.size (w.heap.size + 1) (w.heap.size + 2) 0 dayR0 ∧ Nx w w' := by
  have hmm := @run_makeMap Tryz.prog
  go_enter Tryz.func52, Tryz.ntmps52
  go_wp2_with fail
  go_ret
  refine ⟨rfl, ⟨?_, ?_, ?_, ?_, by omega, by omega, by omega⟩, ((((Nx.refl w).alloc _).alloc _).alloc _).alloc _⟩
  · have := heap_alloc_new (((w.alloc (.map #[] 0)).alloc (.map #[] 0)).alloc (.map #[] 0)) (.cells #[.map (some w.heap.size), .map (some (w.heap.size + 1)), .map (some (w.heap.size + 2))] 157 (0, 0))
    simpa using this
  · exact (MgI.made w).nx ((((Nx.refl _).alloc _).alloc _).alloc _)
  · have h : MpSC ((w.alloc (.map #[] 0)).alloc (.map #[] 0)) (w.alloc (.map #[] 0)).heap.size 0 (fun _ => none) := MgI.made (w.alloc (.map #[] 0))
    rw [show (w.alloc (.map #[] 0)).heap.size = w.heap.size + 1 by simp] at h
    exact h.nx (((Nx.refl _).alloc _).alloc _)
  · have h : MpKB (((w.alloc (.map #[] 0)).alloc (.map #[] 0)).alloc (.map #[] 0)) ((w.alloc (.map #[] 0)).alloc (.map #[] 0)).heap.size 0 (fun _ => none) := MgI.made ((w.alloc (.map #[] 0)).alloc (.map #[] 0))
    rw [show ((w.alloc (.map #[] 0)).alloc (.map #[] 0)).heap.size = w.heap.size + 2 by simp] at h
    exact h.nx ((Nx.refl _).alloc _)
end Go.Proofs.YtfkmbeppckelfaaGreatDoor
