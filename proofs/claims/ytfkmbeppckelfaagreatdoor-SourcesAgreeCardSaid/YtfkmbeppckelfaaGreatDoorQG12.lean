/- An event that takes another one back. -/
import Derived.Test.YtfkmbeppckelfaaGreatDoorQEvT
import Derived.Test.YtfkmbeppckelfaaGreatDoorQG10
import Derived.Test.YtfkmbeppckelfaaGreatDoorQG4
namespace Go.Proofs.YtfkmbeppckelfaaGreatDoor
open Go.RowKit Go.Maps

/-- The map of names. -/
def evNamesF (l : List Ev) (n : Nat) : EvName → Option Int := fun k => nameM l n k.source k.no
theorem look_name {w : World} {b n : Nat} {f : EvName → Option Int} (h : MpNI w b n f) {s : ByteArray} {z : Int} (hs : s.size ≤ maxLen) (hz : (Lit.int .i64 z).wf = true) : (Instr.lookup 79 (.map (some b)) (.agg #[.string s, .int .i64 z]) true).run Tryz.prog w = .ok (.tuple #[.int .i64 ((f ⟨s, z⟩).getD 0), .bool (f ⟨s, z⟩).isSome]) w := by
  obtain ⟨kl, hkey⟩ := key_name ⟨s, z⟩ ⟨hs, hz⟩
  exact (h.look_ok intE law_name Tryz.underlying79 (z := (0 : Int)) (by decide) (zeroIntE w) (k := ⟨s, z⟩) ⟨hs, hz⟩ hkey).1
theorem look_back {w : World} {b n : Nat} {f : Int → Option Bool} (h : MpIB w b n f) {z : Int} (hz : domI z) : (Instr.lookup 89 (.map (some b)) (.int .i64 z) false).run Tryz.prog w = .ok (.bool ((f z).getD false)) w :=
  (h.look boolE law_intE Tryz.underlying89 (z := false) trivial (zeroBoolE w) hz (key_int hz)).1
theorem look_gone {w : World} {b n : Nat} {f : Int → Option Int} (h : MpII w b n f) {z : Int} (hz : domI z) : (Instr.lookup 88 (.map (some b)) (.int .i64 z) true).run Tryz.prog w = .ok (.tuple #[.int .i64 ((f z).getD 0), .bool (f z).isSome]) w :=
  (h.look_ok intE law_intE Tryz.underlying88 (z := (0 : Int)) (by decide) (zeroIntE w) hz (key_int hz)).1
theorem domI_nat {k : Nat} (h : k ≤ 1000000) : domI (k : Int) := by unfold domI; exact wf_i64o.2 ⟨by omega, by omega⟩
set_option maxRecDepth 100000 in
set_option maxHeartbeats 4000000 in
theorem w_step9 (d lo2 nb bb nn nm lc i : Nat) (lA : Option Addr) (l : List Ev) (so : ByteArray) (no at_ : Int) (ri ca nd : ByteArray) (up dn : Int) (fo : ByteArray) (nu : Int) (w : World)
    (h0 : w.cell? ⟨d, 0, none⟩ = some (.slice lA l.length lc)) (h5 : w.cell? ⟨d, 5, none⟩ = some (.map (some bb))) (hd : d < w.heap.size) (hNm : MpNI w nb nn (evNamesF l l.length)) (hB : MpIB w bb nm (goneM l l.length).2)
    (hR : Rd w lo2 lA 11 encEvt l) (hl : l.length ≤ 1000) (hev : evsF l = 0) (hx : l[i]? = some ⟨so, no, at_, 9, ri, ca, nd, up, dn, fo, nu⟩) (hfo : fo.size ≤ maxLen) (hnu : (Lit.int .i64 nu).wf = true) :
    Calls Tryz.prog 90 #[.pointer (some ⟨d, 0, none⟩), .int .i64 (i : Int), .agg #[.string so, .int .i64 no, .int .i64 at_, .int .i64 9, .string ri, .string ca, .string nd, .int .i64 up, .int .i64 dn, .string fo, .int .i64 nu], .map (some nb)] w fun e w' => e = .returned (.tuple #[.slice none 0 0, .int .i64 (undoW l i ⟨so, no, at_, 9, ri, ca, nd, up, dn, fo, nu⟩)]) ∧ Nx w w' := by
  have hil : i < l.length := (List.getElem?_eq_some_iff.1 hx).1
  rw [undoW_maps hx rfl]
  obtain ⟨bx, hbx⟩ : ∃ bx, bx = w.heap.size := ⟨_, rfl⟩
  obtain ⟨w1, hw1⟩ : ∃ w1, w1 = w.alloc (.cells #[.string so, .int .i64 no, .int .i64 at_, .int .i64 9, .string ri, .string ca, .string nd, .int .i64 up, .int .i64 dn, .string fo, .int .i64 nu] 31 (0, 0)) := ⟨_, rfl⟩
  have hn1 : Nx w w1 := hw1 ▸ (Nx.refl w).alloc _
  have hb1 : w1.heap[bx]? = some (.cells #[.string so, .int .i64 no, .int .i64 at_, .int .i64 9, .string ri, .string ca, .string nd, .int .i64 up, .int .i64 dn, .string fo, .int .i64 nu] 31 (0, 0)) := by rw [hw1, hbx]; exact heap_alloc_new w _
  have a3 : w1.cell? ⟨bx, 3, none⟩ = some (.int .i64 9) := cell_of_row w1 _ 3 _ _ _ hb1
  have a9 : w1.cell? ⟨bx, 9, none⟩ = some (.string fo) := cell_of_row w1 _ 9 _ _ _ hb1
  have a10 : w1.cell? ⟨bx, 10, none⟩ = some (.int .i64 nu) := cell_of_row w1 _ 10 _ _ _ hb1
  have d0 : w1.cell? ⟨d, 0, none⟩ = some (.slice lA l.length lc) := nx_cell hn1 hd h0
  have d5 : w1.cell? ⟨d, 5, none⟩ = some (.map (some bb)) := nx_cell hn1 hd h5
  have hln := look_name (hNm.nx hn1) hfo hnu
  have hlb := look_back (hB.nx hn1) (domI_nat (k := i) (by omega))
  have hnt : evNamesF l l.length ⟨fo, nu⟩ = (tgtF l fo nu).map (fun i : Nat => (i : Int)) := nameM_tgt hev fo nu
  rw [hnt] at hln
  have HN1 := hide hn1
  obtain ⟨n, hn⟩ : ∃ n, n = l.length := ⟨_, rfl⟩
  cases ht : tgtF l fo nu with
  | none =>
    rw [ht] at hln
    simp only [Option.map_none, Option.getD_none, Option.isSome_none] at hln
    clear h0 h5 hNm hB hR hx hb1 hn1 hnt ht hev hlb
    rw [← hn] at d0
    clear hn hil hl
    go_enter Tryz.func90, Tryz.ntmps90
    go_upto_region 1 with fail
    rw [← hw1, ← hbx]
    clear hw1 hbx
    go_wp2_with fail
    go_ret2
    exact ⟨rfl, HN1.out⟩
  | some t =>
    rw [ht] at hln
    simp only [Option.map_some, Option.getD_some, Option.isSome_some] at hln
    obtain ⟨y, hy, _, _⟩ := tgt_some ht
    have htl : t < l.length := (List.getElem?_eq_some_iff.1 hy).1
    obtain ⟨gb, off, hA, _, hgb, _, hc⟩ := hR.open_ hn1 (by omega)
    subst hA
    have hyt : l[t] = y := (List.getElem?_eq_some_iff.1 hy).2
    have ck : w1.cell? ⟨gb, off + t * 11 + 3, none⟩ = some (.int .i64 y.kind) := by have := hc t htl 3 (.int .i64 y.kind) (by rw [hyt]; rfl); exact this
    simp only [kindAt_some hy]
    obtain ⟨kk, hkk⟩ : ∃ kk, kk = y.kind := ⟨_, rfl⟩
    rw [← hkk] at ck ⊢
    obtain ⟨bk, hbk⟩ : ∃ bk, bk = ((goneM l l.length).2 (i : Int)).getD false := ⟨_, rfl⟩
    rw [← hbk] at hlb ⊢
    have htn : t < n := by omega
    rw [← hn] at d0
    clear h0 h5 hNm hB hR hx hb1 hn1 hnt ht hc hyt hy hkk hbk hn hil hl htl hev
    have hq : kk = 9 ∨ (kk == 9) = false := by simp; omega
    rcases hq with rfl | hq
    · go_enter Tryz.func90, Tryz.ntmps90
      go_upto_region 1 with fail
      rw [← hw1, ← hbx]
      clear hw1 hbx
      go_wp2_with fail
      go_ret2
      exact ⟨rfl, HN1.out⟩
    · have hq2 : ¬ kk = 9 := by simpa using hq
      rw [if_neg hq2]
      clear hq2
      cases bk with
      | true =>
        go_enter Tryz.func90, Tryz.ntmps90
        go_upto_region 1 with fail
        rw [← hw1, ← hbx]
        clear hw1 hbx
        go_wp2_with fail
        go_ret2
        exact ⟨rfl, HN1.out⟩
      | false =>
        go_enter Tryz.func90, Tryz.ntmps90
        go_upto_region 1 with fail
        rw [← hw1, ← hbx]
        clear hw1 hbx
        go_wp2_with fail
        go_ret2
        exact ⟨rfl, HN1.out⟩
end Go.Proofs.YtfkmbeppckelfaaGreatDoor
/- The map of names of events. -/
namespace Go.Proofs.YtfkmbeppckelfaaGreatDoor
open Go.RowKit Go.Maps

/-- Strings and numbers of an event are no giants. -/
structure okEv (x : Ev) : Prop where
  source : x.source.size ≤ 1000
  ride : x.ride.size ≤ 1000
  car : x.car.size ≤ 1000
  node : x.node.size ≤ 1000
  from_ : x.from_.size ≤ 1000
  no : -1000000000000000 ≤ x.no ∧ x.no ≤ 1000000000000000
  at_ : -1000000000000000 ≤ x.at_ ∧ x.at_ ≤ 1000000000000000
  kind : -1000000000000000 ≤ x.kind ∧ x.kind ≤ 1000000000000000
  up : -1000000000000000 ≤ x.up ∧ x.up ≤ 1000000000000000
  down : -1000000000000000 ≤ x.down ∧ x.down ≤ 1000000000000000
  number : -1000000000000000 ≤ x.number ∧ x.number ≤ 1000000000000000
theorem domS_1000 {s : ByteArray} (h : s.size ≤ 1000) : domS s := by unfold domS maxLen; omega
theorem wf_15 {z : Int} (h : -1000000000000000 ≤ z ∧ z ≤ 1000000000000000) : (Lit.int .i64 z).wf = true := wf_i64o.2 ⟨by omega, by omega⟩
theorem key_size {s : ByteArray} (h : keyB s = true) : s.size ≤ 40 := by
  unfold keyB at h
  have e : s.size = s.data.toList.length := by rw [Array.length_toList]; rfl
  rw [e]
  cases hs : s.data.toList with
  | nil => simp
  | cons c l =>
    rw [hs] at h
    unfold keyL at h
    simp only [Bool.and_eq_true, decide_eq_true_eq] at h
    exact h.1.1
theorem okEv_of {x : Ev} (h : evF x = 0) : okEv x := by
  obtain ⟨a1, a2, a3, a4, kr, kc, kn, ku, nr, nc, nn, b1, b2, b3, b4⟩ := evF_zero h
  have he : eB.size = 0 := rfl
  have sz : ∀ {s : ByteArray} {b : Bool}, (b = true → keyB s = true) → (b = false → s = eB) → s.size ≤ 1000 := by
    intro s b h1 h2
    cases b with
    | true => have := key_size (h1 rfl); omega
    | false => rw [h2 rfl, he]; omega
  refine ⟨by have := key_size a1; omega, sz kr nr, sz kc nc, sz kn nn, sz ku (fun h => (b4 h).1), by omega, by omega, by omega, ?_, ?_, ?_⟩
  · cases hb : uBook x.kind with
    | true => have := b1 hb; omega
    | false => have := b3 hb; omega
  · cases hb : uBook x.kind with
    | true => have := b1 hb; omega
    | false => have := b3 hb; omega
  · cases hb : uUndo x.kind with
    | true => have := b2 hb; omega
    | false => have := (b4 hb).2; omega
/-- The cells of an event in a row. -/
theorem ev_cells {w : World} {b off k : Nat} {x : Ev} (hc : ∀ j u, (encEvt x)[j]? = some u → w.cell? ⟨b, off + k * 11 + j, none⟩ = some u) :
    w.cell? ⟨b, off + k * 11, none⟩ = some (.string x.source) ∧ w.cell? ⟨b, off + k * 11 + 1, none⟩ = some (.int .i64 x.no) ∧ w.cell? ⟨b, off + k * 11 + 2, none⟩ = some (.int .i64 x.at_) ∧ w.cell? ⟨b, off + k * 11 + 3, none⟩ = some (.int .i64 x.kind) ∧ w.cell? ⟨b, off + k * 11 + 4, none⟩ = some (.string x.ride) ∧
    w.cell? ⟨b, off + k * 11 + 5, none⟩ = some (.string x.car) ∧ w.cell? ⟨b, off + k * 11 + 6, none⟩ = some (.string x.node) ∧ w.cell? ⟨b, off + k * 11 + 7, none⟩ = some (.int .i64 x.up) ∧ w.cell? ⟨b, off + k * 11 + 8, none⟩ = some (.int .i64 x.down) ∧ w.cell? ⟨b, off + k * 11 + 9, none⟩ = some (.string x.from_) ∧ w.cell? ⟨b, off + k * 11 + 10, none⟩ = some (.int .i64 x.number) :=
  ⟨hc 0 _ rfl, hc 1 _ rfl, hc 2 _ rfl, hc 3 _ rfl, hc 4 _ rfl, hc 5 _ rfl, hc 6 _ rfl, hc 7 _ rfl, hc 8 _ rfl, hc 9 _ rfl, hc 10 _ rfl⟩
theorem evNames_succ (l : List Ev) (k : Nat) (h : k < l.length) : evNamesF l (k + 1) = fun q => if q = ⟨l[k].source, l[k].no⟩ then some (k : Int) else evNamesF l k q := by
  funext q
  obtain ⟨s, n⟩ := q
  show nameM l (k + 1) s n = if (⟨s, n⟩ : EvName) = ⟨l[k].source, l[k].no⟩ then some (k : Int) else nameM l k s n
  rw [nameM, List.getElem?_eq_getElem h]
  simp only [EvName.mk.injEq]
set_option maxRecDepth 100000 in
set_option maxHeartbeats 2000000 in
theorem w_byName (lo : Nat) (A : Option Addr) (c : Nat) (l : List Ev) (w : World) (hR : Rd w lo A 11 encEvt l) (hl : l.length ≤ 1000) (hok : ∀ x ∈ l, okEv x) :
    Calls Tryz.prog 47 #[.slice A l.length c] w fun e w' => e = .returned (.map (some w.heap.size)) ∧ MpNI w' w.heap.size l.length (evNamesF l l.length) ∧ Nx w w' := by
  have hmm := @run_makeMap Tryz.prog
  have HR := hide hR
  have HOK := hide hok
  generalize hn : l.length = n at *
  have HN := hide hn
  clear hR hn hok
  go_enter Tryz.func47, Tryz.ntmps47
  go_wp2_with fail
  clear hmm
  have HM0 : Hid (MpNI (w.alloc (.map #[] 0)) w.heap.size 0 (evNamesF l 0)) := hide (MgI.made w)
  go_loopw [9] (fun i wr => ∃ k : Nat, k ≤ n ∧ i = .int .i64 k ∧ Nx w wr ∧ MpNI wr w.heap.size k (evNamesF l k)) (fun i _ => n - (intOf i).toNat)
  case atStart => exact ⟨0, Nat.zero_le _, rfl, (Nx.refl w).alloc _, HM0.out⟩
  case round =>
    clear HM0
    obtain ⟨k, hk, rfl, hnx, hM⟩ := hrel
    by_cases hlt : k < n
    · have hlt' : k < l.length := by have := HN.out; omega
      obtain ⟨b, off, rfl, _, hb, hbr, hc⟩ := HR.out.open_ hnx (by omega)
      obtain ⟨c0, c1, c2, c3, c4, c5, c6, c7, c8, c9, c10⟩ := ev_cells (hc k hlt')
      have hx := HOK.out l[k] (List.getElem_mem hlt')
      have HS := hide (evNames_succ l k hlt')
      clear hc
      generalize l[k] = x at *
      obtain ⟨so, no, at_, ki, ri, ca, nd, up, dn, fo, nu⟩ := x
      simp only at c0 c1 c2 c3 c4 c5 c6 c7 c8 c9 c10
      have hdn : domName ⟨so, no⟩ := ⟨domS_1000 hx.source, wf_15 hx.no⟩
      obtain ⟨kl, hkey⟩ := key_name ⟨so, no⟩ hdn
      have HM := hide hM
      have hml := hM.lt
      clear hM hx
      go_wp2_with (at_mapUpdate; refine wpMgPut _ rfl _ _ _ _ rfl intE law_name ekName_inj Tryz.underlying79 w.heap.size k _ rfl (HM.out.nx ((Nx.refl _).alloc _)) (by unfold maxLen; omega) ⟨so, no⟩ rfl hdn _ hkey (k : Int) rfl (domI_nat (by omega)) ?_; intro w2 hM3 hg2)
      go_roundw
      case rel =>
        refine ⟨k + 1, by omega, by go_num, (hnx.alloc _).grown hg2 (fun j hj => by injection hj with hj; omega), ?_⟩
        rw [HS.out]; exact hM3
      case measure => simp [intOf]; omega
    · obtain rfl : k = n := by omega
      go_wp2_with fail
      go_ret
      exact ⟨rfl, hM, hnx⟩
end Go.Proofs.YtfkmbeppckelfaaGreatDoor
/- A drawn statement over a stream and an event's cells: what the world holds, and each operation's step. -/
namespace Go.Proofs.YtfkmbeppckelfaaGreatDoor
open Go.RowKit

section
variable {P : Program} {ops : Array Oper} {Q : Exit → Act → World → Prop}
/-- The frame behind a drawn statement: the old one, with what was written. -/
theorem known_frame {W : Nat → World → Prop} {Sh : Nat → Value → World → Prop} {a0 a : Act} {listed : Array Bool} {w : World} (h : Known ops W Sh a0 listed a w) (_ : dstsB ops a0.tmps.size = true) :
    ∃ f : Tmp → Value, a = ⟨(dstsOf ops).foldl (fun t d => t.setIfInBounds d (f d)) a0.tmps, a0.defers⟩ := by
  refine ⟨fun d => a.tmps.getD d undef, ?_⟩
  obtain ⟨ts, df⟩ := a
  have hs := h.frame.1
  have hd := h.frame.2
  simp only at hs hd
  subst hd
  congr 1
  have gen : ∀ (l : List Tmp) (t0 : Array Value), t0.size = ts.size → (∀ t, t ∉ l → ts.getD t undef = t0.getD t undef) → ts = l.foldl (fun t d => t.setIfInBounds d (ts.getD d undef)) t0 := by
    intro l
    induction l with
    | nil =>
      intro t0 h1 h2
      apply Array.ext
      · exact h1.symm
      · intro i hi hj
        have := h2 i (by simp)
        have hj' : i < t0.size := by simpa using hj
        simp [Array.getD, hi, hj'] at this
        exact this
    | cons d l ih =>
      intro t0 h1 h2
      refine ih _ (by simpa using h1) (fun t ht => ?_)
      by_cases e : t = d
      · subst e
        by_cases hb : t < t0.size
        · simp [Array.getD, hb]
        · have hb2 : ¬ t < ts.size := by rw [← h1]; exact hb
          simp [Array.getD, hb, hb2]
      · rw [h2 t (by simp [e, ht])]
        simp [Array.getElem?_setIfInBounds_ne (fun e2 : d = t => e e2.symm)]
  exact gen _ _ hs.symm (fun t ht => h.old t ht)
end

/-- What is known of an event's cells from off on in block b. -/
structure EvBox (b off : Nat) (B : World → Prop) : Prop where
  get : ∀ w, B w → ∃ x : Ev, okEv x ∧ ∀ j u, (encEvt x)[j]? = some u → w.cell? ⟨b, off + j, none⟩ = some u
  frz : ∀ w j, B w → w.frozen? ⟨b, j, none⟩ = false
  lt : ∀ w, B w → b < w.heap.size
  setS : ∀ w j (t : ByteArray), B w → (j = 0 ∨ j = 4 ∨ j = 5 ∨ j = 6 ∨ j = 9) → t.size ≤ 1000 → B (w.setCell ⟨b, off + j, none⟩ (.string t))
  setI : ∀ w j (z : Int), B w → (j = 1 ∨ j = 2 ∨ j = 3 ∨ j = 7 ∨ j = 8 ∨ j = 10) → -1000000000000000 ≤ z ∧ z ≤ 1000000000000000 → B (w.setCell ⟨b, off + j, none⟩ (.int .i64 z))
  same : ∀ w w', B w → w'.heap[b]? = w.heap[b]? → w.heap.size ≤ w'.heap.size → B w'
def ShT (v : Value) (_w : World) : Prop := ∃ t : ByteArray, v = .string t ∧ t.size ≤ 1000
def ShZ (v : Value) (_w : World) : Prop := ∃ z : Int, v = .int .i64 z ∧ -1000000000000000 ≤ z ∧ z ≤ 1000000000000000
def ShA (v : Value) (_w : World) : Prop := ∃ z : Int, v = .int .i64 z ∧ -10000000000000 ≤ z ∧ z ≤ 10000000000000
/-- A literal of n small strings in a block of its own. -/
def ShLT (s b n : Nat) (v : Value) (w : World) : Prop :=
  ∃ (g : Nat) (zs : List ByteArray), v = .slice (some ⟨g, 0, none⟩) n n ∧ zs.length = n ∧ (∀ z ∈ zs, z.size ≤ 1000) ∧ g ≠ s ∧ g ≠ b ∧ w.heap[g]? = some (.cells (zs.map Value.string).toArray 9 (0, 0))
def ShLZ (s b n : Nat) (v : Value) (w : World) : Prop :=
  ∃ (g : Nat) (zs : List Int), v = .slice (some ⟨g, 0, none⟩) n n ∧ zs.length = n ∧ (∀ z ∈ zs, -1000000000000000 ≤ z ∧ z ≤ 1000000000000000) ∧ g ≠ s ∧ g ≠ b ∧ w.heap[g]? = some (.cells (zs.map (Value.int .i64)).toArray 3 (0, 0))
theorem ShLT.keep {s b n : Nat} {v : Value} {w w' : World} (h : ShLT s b n v w) (k : Two s b w w') : ShLT s b n v w' := by
  obtain ⟨g, zs, h1, h2, h3, h4, h5, h6⟩ := h
  exact ⟨g, zs, h1, h2, h3, h4, h5, (k.2.2.2.2 g (Array.getElem?_eq_some_iff.1 h6).1 h4 h5).trans h6⟩
theorem ShLZ.keep {s b n : Nat} {v : Value} {w w' : World} (h : ShLZ s b n v w) (k : Two s b w w') : ShLZ s b n v w' := by
  obtain ⟨g, zs, h1, h2, h3, h4, h5, h6⟩ := h
  exact ⟨g, zs, h1, h2, h3, h4, h5, (k.2.2.2.2 g (Array.getElem?_eq_some_iff.1 h6).1 h4 h5).trans h6⟩
/-- What the world holds when m operations have come up. -/
structure TyW (s b k : Nat) (B : World → Prop) (w0 : World) (m : Nat) (w : World) : Prop where
  two : Two s b w0 w
  str : Str w s (k + 2 * m)
  box : B w
theorem Two.alloc {s b : Nat} (w : World) (o : Obj) : Two s b w (w.alloc o) := Two.of_gr ((Gr.refl s w).alloc o)
theorem Two.set {s b j : Nat} {w : World} (u : Value) : Two s b w (w.setCell ⟨b, j, none⟩ u) := by
  have h := (Gr.refl b w).setS (p := ⟨b, j, none⟩) (.inl rfl) u
  exact ⟨h.os, h.tape, h.output, h.sz, fun i hi _ hb => h.block i hi (by intro e; injection e with e; exact hb e)⟩
section
variable {s b off k m : Nat} {B : World → Prop} {w0 w : World}
theorem TyW.pass (h : TyW s b k B w0 m w) : TyW s b k B w0 (m + 1) w := ⟨h.two, h.str.more (by omega), h.box⟩
theorem TyW.alloc (h : TyW s b k B w0 m w) (E : EvBox b off B) (o : Obj) : TyW s b k B w0 (m + 1) (w.alloc o) :=
  ⟨h.two.trans (Two.alloc w o), (h.str.nx ((Nx.refl w).alloc o)).more (by omega), E.same _ _ h.box (((Nx.refl w).alloc o).block b (E.lt _ h.box)) ((Nx.refl w).alloc o).sz⟩
theorem TyW.gr (h : TyW s b k B w0 m w) (E : EvBox b off B) (hb : b ≠ s) {w' : World} (hg : Gr s w w') (hS : Str w' s (k + 2 * (m + 1))) : TyW s b k B w0 (m + 1) w' :=
  ⟨h.two.trans (Two.of_gr hg), hS, E.same _ _ h.box (hg.block b (E.lt _ h.box) (by intro e; injection e with e; exact hb e)) hg.sz⟩
theorem TyW.setS (h : TyW s b k B w0 m w) (E : EvBox b off B) (hb : s < b) {j : Nat} {t : ByteArray} (hj : j = 0 ∨ j = 4 ∨ j = 5 ∨ j = 6 ∨ j = 9) (ht : t.size ≤ 1000) : TyW s b k B w0 (m + 1) (w.setCell ⟨b, off + j, none⟩ (.string t)) :=
  ⟨h.two.trans (Two.set _), (h.str.row (row := some b) ((Gr.refl b w).setS (p := ⟨b, off + j, none⟩) (.inl rfl) _) (fun j h => by injection h with h; omega)).more (by omega), E.setS _ _ _ h.box hj ht⟩
theorem TyW.setI (h : TyW s b k B w0 m w) (E : EvBox b off B) (hb : s < b) {j : Nat} {z : Int} (hj : j = 1 ∨ j = 2 ∨ j = 3 ∨ j = 7 ∨ j = 8 ∨ j = 10) (hz : -1000000000000000 ≤ z ∧ z ≤ 1000000000000000) : TyW s b k B w0 (m + 1) (w.setCell ⟨b, off + j, none⟩ (.int .i64 z)) :=
  ⟨h.two.trans (Two.set _), (h.str.row (row := some b) ((Gr.refl b w).setS (p := ⟨b, off + j, none⟩) (.inl rfl) _) (fun j h => by injection h with h; omega)).more (by omega), E.setI _ _ _ h.box hj hz⟩
end
section
variable {ops : Array Oper} {Q : Exit → Act → World → Prop} {i : Nat} {o : Oper} {a : Act} {w : World} {K : Act → World → Prop}
theorem ty_some (hi : ops[i]? = some o) (hg : o.guard = none) {x y : Operand} {ts : Array TypeId} {s b n k : Nat} (hop : o.op = .call { callee := .value (.func 40), args := #[x, y], argTypes := ts })
    (hx : ShPtr s 0 (a.eval x) w) (hy : ShLT s b n (a.eval y) w) (hn : 0 < n ∧ n < 1000) (hS : Str w s k) (hk : k < 1000000)
    (hK : ∀ (t : ByteArray) (w' : World), t.size ≤ 1000 → Gr s w w' → Str w' s (k + 1) → K (a.put o.dst (.string t)) w') : wpOp Tryz.prog ops Q i K a w := by
  obtain ⟨g, zs, h1, h2, h3, h4, h5, h6⟩ := hy
  have hc := w_Some g zs _ s k w hS hk h6 h4 (by simp) (by intro e; rw [e] at h2; simp at h2; omega) (by omega)
  rw [h2] at hc
  have hr := run_call (a := a) (w := w) hop (enters_of Tryz.func40 (by kernel_rfl) rfl)
  unfold ShPtr at hx
  have e : (#[x, y] : Array Operand).map a.eval = #[.pointer (some ⟨s, 0, none⟩), .slice (some ⟨g, 0, none⟩) n n] := by simp [hx, h1]
  rw [e] at hr
  refine wpOp_call hi hg hr hc ?_
  rintro e w' ⟨t, ht, rfl, hgr, hS'⟩
  exact ⟨_, rfl, hK t w' (h3 t ht) hgr hS'⟩
theorem ty_pick (hi : ops[i]? = some o) (hg : o.guard = none) {x y : Operand} {ts : Array TypeId} {s b n k : Nat} (hop : o.op = .call { callee := .value (.func 15), args := #[x, y], argTypes := ts })
    (hx : ShPtr s 0 (a.eval x) w) (hy : ShLZ s b n (a.eval y) w) (hn : 0 < n ∧ n < 1000) (hS : Str w s k) (hk : k < 1000000)
    (hK : ∀ (z : Int) (w' : World), (-1000000000000000 ≤ z ∧ z ≤ 1000000000000000) → Gr s w w' → Str w' s (k + 1) → K (a.put o.dst (.int .i64 z)) w') : wpOp Tryz.prog ops Q i K a w := by
  obtain ⟨g, zs, h1, h2, h3, h4, h5, h6⟩ := hy
  have hc := w_PickI g zs _ s k w hS hk h6 h4 (by simp) (by intro e; rw [e] at h2; simp at h2; omega) (by omega)
  rw [h2] at hc
  have hr := run_call (a := a) (w := w) hop (enters_of Tryz.func15 (by kernel_rfl) rfl)
  unfold ShPtr at hx
  have e : (#[x, y] : Array Operand).map a.eval = #[.pointer (some ⟨s, 0, none⟩), .slice (some ⟨g, 0, none⟩) n n] := by simp [hx, h1]
  rw [e] at hr
  refine wpOp_call hi hg hr hc ?_
  rintro e w' ⟨t, ht, rfl, hgr, hS'⟩
  exact ⟨_, rfl, hK t w' (h3 t ht) hgr hS'⟩
end
end Go.Proofs.YtfkmbeppckelfaaGreatDoor
/- Events in rows. -/
namespace Go.Proofs.YtfkmbeppckelfaaGreatDoor
open Go.RowKit Go.Maps

def ev0 : Ev := ⟨eB, 0, 0, 0, eB, eB, eB, 0, 0, eB, 0⟩
theorem el_Evt : ElemOf Tryz.prog 26 31 11 128 := ElemOf.mk' (z := .agg (evA ev0)) Tryz.underlying26 (by kernel_rfl) rfl
theorem encEvt_one (x : Ev) : ∀ v ∈ encEvt x, v.oneCell' = true := by
  intro v hv; simp [encEvt] at hv
  rcases hv with rfl | rfl | rfl | rfl | rfl | rfl | rfl | rfl | rfl | rfl | rfl <;> rfl
/-- A row of one's own with its capacity. -/
theorem own_rd {α : Type} {w : World} {K : Nat} {enc : α → List Value} {xs : List α} {base : Nat} {e : TypeId} {v : Value} (hk : ∀ x, (enc x).length = K) (h : w.ownsRow base e K v xs.length (xs.flatMap enc)) :
    ∃ A c, v = .slice A xs.length c ∧ xs.length ≤ c ∧ Rd w base A K enc xs ∧ (∀ g off q, A = some ⟨g, off, q⟩ → off = 0 ∧ q = none ∧ base ≤ g ∧ g < w.heap.size) := by
  have h0 := h
  obtain ⟨A, c, ev, hR, hA⟩ := Rd.of_own hk rfl h0
  refine ⟨A, c, ev, ?_, hR, fun g off q e => ?_⟩
  · rcases h.2 with ⟨e2, h1⟩ | ⟨g, cap, cur, e2, _, _, h1, _⟩
    · omega
    · rw [ev] at e2; injection e2 with _ _ e3; omega
  · obtain ⟨g', e1, e2, e3⟩ := hA _ e
    injection e1 with a1 a2 a3
    exact ⟨a2, a3, by omega, by omega⟩
end Go.Proofs.YtfkmbeppckelfaaGreatDoor
/- An event followed, whatever it is. -/
namespace Go.Proofs.YtfkmbeppckelfaaGreatDoor
open Go.RowKit Go.Maps

def stepA (l : List Ev) (i : Nat) (D : DayP) (x : Ev) : DayP × Int := if x.kind = 9 then (D, undoW l i x) else stepP D x
theorem MgI.same {κ V : Type} {P : Program} {K : TypeId} {ek : κ → Value} {dom : κ → Prop} {R : Value → Option (DataW Unit × List MemPlace)} {dv : V → DataW Unit} {w w' : World} {b n : Nat} {f : κ → Option V} (h : MgI P K ek dom R dv w b n f) (e : w'.heap[b]? = w.heap[b]?) : MgI P K ek dom R dv w' b n f := by
  obtain ⟨D, ⟨es, cl, hb, r⟩, h2⟩ := h
  exact ⟨D, ⟨es, cl, e.trans hb, r⟩, h2⟩
theorem own_same {w w' : World} {base : Nat} {e : TypeId} {size : Nat} {v : Value} {n : Nat} {xs : List Value} (h : w.ownsRow base e size v n xs) (_ : w.heap.size ≤ w'.heap.size) (hh : ∀ g o, v.ownBlock = some g → w.heap[g]? = some o → w'.heap[g]? = some o) : w'.ownsRow base e size v n xs := by
  refine ⟨h.1, ?_⟩
  rcases h.2 with hn | ⟨g, cap, cur, rfl, hb, hg, rest⟩
  · exact .inl hn
  · exact .inr ⟨g, cap, cur, rfl, hb, hh g _ rfl hg, rest⟩
/-- What the step reads besides the day. -/
structure StepC (w : World) (d rb cb nb bb nn nm lc : Nat) (lA : Option Addr) (lo2 : Nat) (l : List Ev) : Prop where
  d0 : w.cell? ⟨d, 0, none⟩ = some (.slice lA l.length lc)
  d1 : w.cell? ⟨d, 1, none⟩ = some (.map (some rb))
  d2 : w.cell? ⟨d, 2, none⟩ = some (.map (some cb))
  d5 : w.cell? ⟨d, 5, none⟩ = some (.map (some bb))
  names : MpNI w nb nn (evNamesF l l.length)
  back : MpIB w bb nm (goneM l l.length).2
  rd : Rd w lo2 lA 11 encEvt l
theorem w_step (d lo rb cb N lo2 nb bb nn nm lc i : Nat) (lA : Option Addr) (l : List Ev) (D : DayP) (fr fc : ByteArray → Option (Option Nat)) (fm : ByteArray → Nat) (x : Ev) (w : World)
    (h : DayW w lo rb cb N D fr fc fm) (hc : StepC w d rb cb nb bb nn nm lc lA lo2 l) (hd : d < lo) (hdc : d ≠ cb) (hdr : d ≠ rb) (hN : N < 50000) (hl : l.length ≤ 1000) (hev : evsF l = 0) (hx : l[i]? = some x) :
    Calls Tryz.prog 90 #[.pointer (some ⟨d, 0, none⟩), .int .i64 (i : Int), .agg (evA x), .map (some nb)] w (RideOut lo rb cb N (stepA l i D x) w) := by
  have hr := evs_right hev (List.mem_of_getElem? hx)
  have hok := okEv_of hr
  obtain ⟨_, _, _, ⟨hk1, hk9⟩, _⟩ := evF_zero hr
  have hkr := domS_1000 hok.ride
  have hkc := domS_1000 hok.car
  obtain ⟨so, no, at_, ki, ri, ca, nd, up, dn, fo, nu⟩ := x
  simp only at hk1 hk9 hkr hkc
  have hk : ki = 1 ∨ ki = 2 ∨ ki = 3 ∨ ki = 4 ∨ ki = 5 ∨ ki = 6 ∨ ki = 7 ∨ ki = 8 ∨ ki = 9 := by omega
  rcases hk with rfl | rfl | rfl | rfl | rfl | rfl | rfl | rfl | rfl
  · exact w_step1 d lo rb cb N D fr fc fm so no at_ i ri ca nd up dn fo nu (.map (some nb)) w h hc.d1 hd hdc hdr hkr (by omega)
  · exact w_step2 d lo rb cb N D fr fc fm so no at_ i ri ca nd up dn fo nu (.map (some nb)) w h hc.d1 hc.d2 hd hdc hdr hkr hkc (by omega)
  · exact w_step3 d lo rb cb N D fr fc fm so no at_ i ri ca nd up dn fo nu (.map (some nb)) w h hc.d1 hc.d2 hd hdc hdr hkr hkc (by omega)
  · exact w_step4 d lo rb cb N D fr fc fm so no at_ i ri ca nd up dn fo nu (.map (some nb)) w h hc.d1 hc.d2 hd hdc hdr hkr hkc (by omega)
  · exact w_step5 d lo rb cb N D fr fc fm so no at_ i ri ca nd up dn fo nu (.map (some nb)) w h hc.d1 hc.d2 hd hdc hdr hkr hkc (by omega)
  · exact w_step6 d lo rb cb N D fr fc fm so no at_ i ri ca nd up dn fo nu (.map (some nb)) w h hc.d1 hc.d2 hd hdc hdr hkr hkc (by omega)
  · exact w_step7 d lo rb cb N D fr fc fm so no at_ i ri ca nd up dn fo nu (.map (some nb)) w h hc.d1 hc.d2 hd hdc hdr hkc (by omega)
  · exact w_step8 d lo rb cb N D fr fc fm so no at_ i ri ca nd up dn fo nu (.map (some nb)) w h hc.d1 hc.d2 hd hdc hdr hkc (by omega)
  · refine (w_step9 d lo2 nb bb nn nm lc i lA l so no at_ ri ca nd up dn fo nu w hc.d0 hc.d5 (Nat.lt_of_lt_of_le hd h.sz) hc.names hc.back hc.rd hl hev hx (by have := hok.from_; unfold maxLen; simp only at this; omega) (wf_15 hok.number)).mono ?_
    rintro e w' ⟨rfl, hn⟩
    exact ⟨none, 0, 0, by unfold stepA; rw [if_pos rfl], ⟨fr, fc, fm, (h.nx hn).mono (by omega)⟩, Fr2.nx hn h.sz⟩
end Go.Proofs.YtfkmbeppckelfaaGreatDoor
/- The reference's day in memory: maps of structs by value. -/
namespace Go.Proofs.YtfkmbeppckelfaaGreatDoor
open Go.RowKit Go.Maps

/-- Where a car was, as the reference keeps it. -/
structure Wh where
  car : ByteArray
  node : ByteArray
  at_ : Int
def wh0 : Wh := ⟨eB, eB, 0⟩
def sD (s : ByteArray) : DataW Unit := .lit (.string s.data.toList)
def iD (z : Int) : DataW Unit := .lit (.int .i64 z)
theorem sD_inj {a b : ByteArray} (h : sD a = sD b) : a = b := data_inj (by unfold sD at h; injection h with h; injection h)
theorem iD_inj {a b : Int} (h : iD a = iD b) : a = b := by unfold iD at h; injection h with h; injection h
def stV (s : St) : Value := .agg (staV s)
def stD (s : St) : DataW Unit := .agg [sD s.ride, sD s.car, iD s.how, iD s.up, iD s.down, iD s.on, iD s.off]
def stElem : Value → Option (DataW Unit × List MemPlace)
  | .agg ⟨[.string a, .string b, .int .i64 c, .int .i64 d, .int .i64 e, .int .i64 f, .int .i64 g]⟩ => some (stD ⟨a, b, c, d, e, f, g⟩, [])
  | _ => none
theorem elemSt : ElemR stElem stV stD (fun _ => True) where
  make v _ := ⟨[], rfl⟩
  inv x d ps h := by
    unfold stElem at h
    split at h
    · injection h with h; injection h with h1 h2; exact ⟨_, trivial, rfl, h1.symm⟩
    · cases h
  inj a b h := by
    obtain ⟨a1, a2, a3, a4, a5, a6, a7⟩ := a
    obtain ⟨b1, b2, b3, b4, b5, b6, b7⟩ := b
    unfold stD at h
    injection h with h
    simp only [List.cons.injEq, and_true] at h
    obtain ⟨h1, h2, h3, h4, h5, h6, h7⟩ := h
    rw [sD_inj h1, sD_inj h2, iD_inj h3, iD_inj h4, iD_inj h5, iD_inj h6, iD_inj h7]
def whV (s : Wh) : Value := .agg #[.string s.car, .string s.node, .int .i64 s.at_, .bool false, .slice none 0 0]
def whD (s : Wh) : DataW Unit := .agg [sD s.car, sD s.node, iD s.at_]
def whElem : Value → Option (DataW Unit × List MemPlace)
  | .agg ⟨[.string a, .string b, .int .i64 c, .bool false, .slice none 0 0]⟩ => some (whD ⟨a, b, c⟩, [])
  | _ => none
theorem elemWh : ElemR whElem whV whD (fun _ => True) where
  make v _ := ⟨[], rfl⟩
  inv x d ps h := by
    unfold whElem at h
    split at h
    · injection h with h; injection h with h1 h2; exact ⟨_, trivial, rfl, h1.symm⟩
    · cases h
  inj a b h := by
    obtain ⟨a1, a2, a3⟩ := a
    obtain ⟨b1, b2, b3⟩ := b
    unfold whD at h
    injection h with h
    simp only [List.cons.injEq, and_true] at h
    obtain ⟨h1, h2, h3⟩ := h
    rw [sD_inj h1, sD_inj h2, iD_inj h3]
theorem zeroStR (w : World) : (zeroValue 59).run Tryz.prog w = .ok (stV st0) w := by kernel_rfl
theorem zeroWhR (w : World) : (zeroValue 57).run Tryz.prog w = .ok (whV wh0) w := by kernel_rfl
abbrev MpSS (w : World) (b n : Nat) (f : ByteArray → Option St) : Prop := MgI Tryz.prog 9 Value.string domS stElem stD w b n f
abbrev MpSC (w : World) (b n : Nat) (f : ByteArray → Option Wh) : Prop := MgI Tryz.prog 9 Value.string domS whElem whD w b n f
def carsF (D : DayR) : ByteArray → Option Wh := fun k => (D.cars k).map fun z => ⟨k, z.1, z.2⟩
theorem look_stR {w : World} {b n : Nat} {f : ByteArray → Option St} (h : MpSS w b n f) {s : ByteArray} (hs : domS s) : (Instr.lookup 154 (.map (some b)) (.string s) false).run Tryz.prog w = .ok (stV ((f s).getD st0)) w :=
  (h.look elemSt law_strE Tryz.underlying154 trivial (zeroStR w) hs (keyS_mk Tryz.underlying9 hs)).1
theorem look_stRk {w : World} {b n : Nat} {f : ByteArray → Option St} (h : MpSS w b n f) {s : ByteArray} (hs : domS s) : (Instr.lookup 154 (.map (some b)) (.string s) true).run Tryz.prog w = .ok (.tuple #[stV ((f s).getD st0), .bool (f s).isSome]) w :=
  (h.look_ok elemSt law_strE Tryz.underlying154 trivial (zeroStR w) hs (keyS_mk Tryz.underlying9 hs)).1
theorem look_whR {w : World} {b n : Nat} {f : ByteArray → Option Wh} (h : MpSC w b n f) {s : ByteArray} (hs : domS s) : (Instr.lookup 155 (.map (some b)) (.string s) false).run Tryz.prog w = .ok (whV ((f s).getD wh0)) w :=
  (h.look elemWh law_strE Tryz.underlying155 trivial (zeroWhR w) hs (keyS_mk Tryz.underlying9 hs)).1
theorem look_boR {w : World} {b n : Nat} {f : ByteArray → Option Bool} (h : MpKB w b n f) {s : ByteArray} (hs : domS s) : (Instr.lookup 97 (.map (some b)) (.string s) false).run Tryz.prog w = .ok (.bool ((f s).getD false)) w :=
  (h.look boolE law_strE Tryz.underlying97 (z := false) trivial (zeroBoolE w) hs (keyS_mk Tryz.underlying9 hs)).1
/-- The reference's day. -/
structure DayRW (w : World) (d rb cb bb N : Nat) (D : DayR) : Prop where
  blk : w.heap[d]? = some (.cells #[.map (some rb), .map (some cb), .map (some bb)] 157 (0, 0))
  rides : MpSS w rb N D.rides
  cars : MpSC w cb N (carsF D)
  brk : MpKB w bb N D.broken
  n1 : rb ≠ cb
  n2 : rb ≠ bb
  n3 : cb ≠ bb
theorem DayRW.nx {w w' : World} {d rb cb bb N : Nat} {D : DayR} (h : DayRW w d rb cb bb N D) (hn : Nx w w') : DayRW w' d rb cb bb N D :=
  ⟨(hn.block _ (Array.getElem?_eq_some_iff.1 h.blk).1).trans h.blk, h.rides.nx hn, h.cars.nx hn, h.brk.nx hn, h.n1, h.n2, h.n3⟩
theorem DayRW.mono {w : World} {d rb cb bb N N' : Nat} {D : DayR} (h : DayRW w d rb cb bb N D) (hn : N ≤ N') : DayRW w d rb cb bb N' D :=
  ⟨h.blk, h.rides.mono hn, h.cars.mono hn, h.brk.mono hn, h.n1, h.n2, h.n3⟩
/-- A block that is no map turns. -/
theorem DayRW.gr {w w' : World} {d rb cb bb N p : Nat} {D : DayR} (h : DayRW w d rb cb bb N D) (hg : Gr p w w') (hp : ∀ es t, w.heap[p]? ≠ some (.map es t)) (hd : d ≠ p) : DayRW w' d rb cb bb N D :=
  ⟨gr_at hg h.blk hd, h.rides.gr hg (fun e => by subst e; obtain ⟨es, t, ho⟩ := mg_obj h.rides; exact hp es t ho), h.cars.gr hg (fun e => by subst e; obtain ⟨es, t, ho⟩ := mg_obj h.cars; exact hp es t ho), h.brk.gr hg (fun e => by subst e; obtain ⟨es, t, ho⟩ := mg_obj h.brk; exact hp es t ho), h.n1, h.n2, h.n3⟩
theorem dayR_cells {w : World} {d rb cb bb : Nat} (h : w.heap[d]? = some (.cells #[.map (some rb), .map (some cb), .map (some bb)] 157 (0, 0))) :
    w.cell? ⟨d, 0, none⟩ = some (.map (some rb)) ∧ w.cell? ⟨d, 1, none⟩ = some (.map (some cb)) ∧ w.cell? ⟨d, 2, none⟩ = some (.map (some bb)) :=
  ⟨cell_of_row w d 0 _ _ _ h, cell_of_row w d 1 _ _ _ h, cell_of_row w d 2 _ _ _ h⟩
/-- Of what was there three maps alone have turned. -/
structure FrR (rb cb bb : Nat) (w w' : World) : Prop where
  os : w'.os = w.os
  tape : w'.tape = w.tape
  output : w'.output = w.output
  size : w.heap.size ≤ w'.heap.size
  block : ∀ i, i < w.heap.size → i ≠ rb → i ≠ cb → i ≠ bb → w'.heap[i]? = w.heap[i]?
theorem FrR.refl (rb cb bb : Nat) (w : World) : FrR rb cb bb w w := ⟨rfl, rfl, rfl, Nat.le_refl _, fun _ _ _ _ _ => rfl⟩
theorem FrR.trans {rb cb bb : Nat} {a b c : World} (h : FrR rb cb bb a b) (k : FrR rb cb bb b c) : FrR rb cb bb a c :=
  ⟨k.os.trans h.os, k.tape.trans h.tape, k.output.trans h.output, Nat.le_trans h.size k.size, fun i h1 h2 h3 h4 => (k.block i (Nat.lt_of_lt_of_le h1 h.size) h2 h3 h4).trans (h.block i h1 h2 h3 h4)⟩
theorem FrR.nx {rb cb bb : Nat} {a b : World} (h : Nx a b) : FrR rb cb bb a b := ⟨h.os, h.tape, h.output, h.size, fun i hi _ _ _ => h.block i hi⟩
theorem FrR.gr {rb cb bb p : Nat} {a b : World} (k : Gr p a b) (hp : p = rb ∨ p = cb ∨ p = bb) : FrR rb cb bb a b :=
  ⟨World.grownBy.os k, World.grownBy.tape k, World.grownBy.output k, World.grownBy.size k, fun i h1 h2 h3 h4 => World.grownBy.block k i h1 (by simp; omega)⟩
/-- A block that is new since turns. -/
theorem FrR.newer {rb cb bb : Nat} {a b c : World} (h : FrR rb cb bb a b) {row : Option Nat} (k : b.grownBy c row) (hp : ∀ p, row = some p → a.heap.size ≤ p) : FrR rb cb bb a c :=
  ⟨(World.grownBy.os k).trans h.os, (World.grownBy.tape k).trans h.tape, (World.grownBy.output k).trans h.output, Nat.le_trans h.size (World.grownBy.size k), fun i h1 h2 h3 h4 => (World.grownBy.block k i (Nat.lt_of_lt_of_le h1 h.size) (fun e => by have := hp i e.symm; omega)).trans (h.block i h1 h2 h3 h4)⟩
theorem FrR.toNx {rb cb bb : Nat} {a b w : World} (h : FrR rb cb bb a b) (hn : Nx w a) (h1 : w.heap.size ≤ rb) (h2 : w.heap.size ≤ cb) (h3 : w.heap.size ≤ bb) : Nx w b :=
  Below.trans hn ⟨h.os, h.tape, h.output, h.size, fun i hi => h.block i (Nat.lt_of_lt_of_le hi hn.sz) (by omega) (by omega) (by omega)⟩
theorem w_newDay (w : World) : Calls Tryz.prog 52 #[] w fun e w' => e = .returned (.pointer (some ⟨w.heap.size + 3, 0, none⟩)) ∧ DayRW w' (w.heap.size + 3) w.heap.size (w.heap.size + 1) (w.heap.size + 2) 0 dayR0 ∧ Nx w w' := by
  have hmm := @run_makeMap Tryz.prog
  go_enter Tryz.func52, Tryz.ntmps52
  go_wp2_with fail
  go_ret
  refine ⟨rfl, ⟨?_, ?_, ?_, ?_, by omega, by omega, by omega⟩, ((((Nx.refl w).alloc _).alloc _).alloc _).alloc _⟩
  · have := heap_alloc_new (((w.alloc (.map #[] 0)).alloc (.map #[] 0)).alloc (.map #[] 0)) (.cells #[.map (some w.heap.size), .map (some (w.heap.size + 1)), .map (some (w.heap.size + 2))] 157 (0, 0))
    simpa using this
  · exact (MgI.made w).nx ((((Nx.refl _).alloc _).alloc _).alloc _)
  · have h : MpSC ((w.alloc (.map #[] 0)).alloc (.map #[] 0)) (w.alloc (.map #[] 0)).heap.size 0 (fun _ => none) := MgI.made (w.alloc (.map #[] 0))
    rw [show (w.alloc (.map #[] 0)).heap.size = w.heap.size + 1 by simp] at h
    exact h.nx (((Nx.refl _).alloc _).alloc _)
  · have h : MpKB (((w.alloc (.map #[] 0)).alloc (.map #[] 0)).alloc (.map #[] 0)) ((w.alloc (.map #[] 0)).alloc (.map #[] 0)).heap.size 0 (fun _ => none) := MgI.made ((w.alloc (.map #[] 0)).alloc (.map #[] 0))
    rw [show ((w.alloc (.map #[] 0)).alloc (.map #[] 0)).heap.size = w.heap.size + 2 by simp] at h
    exact h.nx ((Nx.refl _).alloc _)
end Go.Proofs.YtfkmbeppckelfaaGreatDoor
