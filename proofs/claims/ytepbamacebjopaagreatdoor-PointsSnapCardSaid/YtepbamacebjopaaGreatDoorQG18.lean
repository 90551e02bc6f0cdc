/- Arcs are put into a queue, if they are new (plainWay's closure). -/
import Derived.Test.YtepbamacebjopaaGreatDoorQG17
import Derived.Test.YtepbamacebjopaaGreatDoorQG10
import Derived.Deep.DeepCutAuto
import Derived.Deep.DeepMust
import Derived.Test.YtepbamacebjopaaGreatDoorQG0
import Derived.Deep.AppendLies
import Derived.Deep.RegionHeld
namespace Go.Proofs.YtepbamacebjopaaGreatDoor
open Go.RowKit Go.Maps

theorem law_intN : Keyed Tryz.prog 3 := int_keyed Tryz.underlying3
def ekN (k : Nat) : Value := .int .i64 (k : Int)
def domK (k : Nat) : Prop := (Lit.int .i64 (k : Int)).wf = true
theorem ekN_inj (a b : Nat) (h : ekN a = ekN b) : a = b := by unfold ekN at h; injection h with _ h; omega
theorem domK_of {k : Nat} (h : k ≤ 1000000) : domK k := wf_i64o.2 ⟨by omega, by omega⟩
theorem key_N {k : Nat} (h : domK k) : keyOf Tryz.prog 3 (ekN k) = some (.int .i64 (k : Int)) := keyOf_int_mk Tryz.underlying3 h
abbrev MpQI (w : World) (b n : Nat) (f : Nat → Option Int) : Prop := MgI Tryz.prog 3 ekN domK (plainElem Tryz.prog 3) (fun z : Int => (.lit (.int .i64 z) : DataW Unit)) w b n f
/-- What came of it: which arcs have one before them, and the queue. -/
def stepQ (wo p : Int) : List Nat → (Nat → Option Int) × List Nat → (Nat → Option Int) × List Nat
  | [], s => s
  | k :: l, s => stepQ wo p l (if s.1 k = none ∧ (k : Int) ≠ wo then (fun x => if x = k then some p else s.1 x, s.2 ++ [k]) else s)
theorem stepQ_drop (wo p : Int) (l : List Nat) (j : Nat) (hj : j < l.length) (s : (Nat → Option Int) × List Nat) : stepQ wo p (l.drop j) s = stepQ wo p (l.drop (j + 1)) (if s.1 l[j] = none ∧ (l[j] : Int) ≠ wo then (fun x => if x = l[j] then some p else s.1 x, s.2 ++ [l[j]]) else s) := by
  rw [List.drop_eq_getElem_cons hj, stepQ]
/-- Two blocks, and a third one if any, may turn. -/
def KQ (s t : Nat) (q : Option Nat) (a w : World) : Prop := w.os = a.os ∧ w.tape = a.tape ∧ w.output = a.output ∧ a.heap.size ≤ w.heap.size ∧ ∀ i, i < a.heap.size → i ≠ s → i ≠ t → some i ≠ q → w.heap[i]? = a.heap[i]?
section
variable {s t : Nat} {q : Option Nat} {a w w' : World}
theorem KQ.refl (s t : Nat) (q : Option Nat) (a : World) : KQ s t q a a := ⟨rfl, rfl, rfl, Nat.le_refl _, fun _ _ _ _ _ => rfl⟩
theorem KQ.grown {row : Option Nat} (h : KQ s t q a w) (hg : w.grownBy w' row) (hr : ∀ k, row = some k → k = s ∨ k = t ∨ some k = q ∨ a.heap.size ≤ k) : KQ s t q a w' :=
  ⟨hg.os.trans h.1, hg.tape.trans h.2.1, hg.output.trans h.2.2.1, Nat.le_trans h.2.2.2.1 hg.size, fun i hi h1 h2 h3 => (hg.block i (Nat.lt_of_lt_of_le hi h.2.2.2.1) (fun e => by
    rcases hr i e.symm with h4 | h4 | h4 | h4
    · exact h1 h4
    · exact h2 h4
    · exact h3 h4
    · omega)).trans (h.2.2.2.2 i hi h1 h2 h3)⟩
theorem KQ.nx (h : KQ s t q a w) (hn : Nx w w') : KQ s t q a w' := h.grown (hn.gr none) (fun k e => by cases e)
theorem KQ.sz (h : KQ s t q a w) : a.heap.size ≤ w.heap.size := h.2.2.2.1
theorem KQ.blk (h : KQ s t q a w) {i : Nat} {o : Obj} (hi : a.heap[i]? = some o) (h1 : i ≠ s) (h2 : i ≠ t) (h3 : q ≠ some i) : w.heap[i]? = some o := (h.2.2.2.2 i (Array.getElem?_eq_some_iff.1 hi).1 h1 h2 (fun e => h3 e.symm)).trans hi
theorem KQ.cell (h : KQ s t q a w) {x : Addr} {v : Value} (hc : a.cell? x = some v) (hl : x.block < a.heap.size) (h1 : x.block ≠ s) (h2 : x.block ≠ t) (h3 : q ≠ some x.block) : w.cell? x = some v := by
  have hb := h.2.2.2.2 x.block hl h1 h2 (fun e => h3 e.symm)
  unfold World.cell? at hc ⊢
  rw [hb]
  exact hc
theorem KQ.nx_of {o : World} (h : KQ s t q a w) (hn : Nx o a) (hs : o.heap.size ≤ s) (ht : o.heap.size ≤ t) (hq : ∀ k, q = some k → o.heap.size ≤ k) : Nx o w :=
  ⟨h.1.trans hn.os, h.2.1.trans hn.tape, h.2.2.1.trans hn.output, Nat.le_trans hn.sz h.sz, fun i hi => (h.2.2.2.2 i (Nat.lt_of_lt_of_le hi hn.sz) (by omega) (by omega) (fun e => by have := hq i e.symm; omega)).trans (hn.block i hi)⟩
end
theorem mapI_one (l : List Nat) (k : Nat) : intsOf (l ++ [k]) = intsOf l ++ [(k : Int)] := by unfold intsOf; rw [List.map_append]; rfl
theorem intsOf_len (l : List Nat) : (intsOf l).length = l.length := by unfold intsOf; rw [List.length_map]
/-- What the closure leaves behind. -/
def StepOut (base pl bm N : Nat) (A : Option Addr) (S : (Nat → Option Int) × List Nat) (w : World) (e : Ending) (w' : World) : Prop := e = .returned (.tuple #[]) ∧ ∃ (A' : Option Addr) (c' : Nat), w'.heap[pl]? = some (.cells #[.slice A' S.2.length c'] 22 (0, 0)) ∧ MpQI w' bm N S.1 ∧ QIs w' base 3 A' c' (intsOf S.2) ∧ (blkOf A' = blkOf A ∨ ∀ k, blkOf A' = some k → w.heap.size ≤ k) ∧ KQ pl bm (blkOf A) w w'
set_option maxRecDepth 100000 in
set_option maxHeartbeats 8000000 in
theorem w_pstep (base pm pw pl bm N lo : Nat) (wo p : Int) (f : Nat → Option Int) (q : List Nat) (A : Option Addr) (c : Nat) (Z : Option Addr) (cz : Nat) (l : List Nat) (w : World)
    (cm : w.cell? ⟨pm, 0, none⟩ = some (.map (some bm))) (cw : w.cell? ⟨pw, 0, none⟩ = some (.int .i64 wo)) (hpl : w.heap[pl]? = some (.cells #[.slice A q.length c] 22 (0, 0))) (hM : MpQI w bm N f) (hq : QIs w base 3 A c (intsOf q)) (hR : Rd w lo Z 1 encI (intsOf l))
    (hN : N + l.length ≤ 1000000) (hql : q.length + l.length ≤ 100000) (hl : ∀ k ∈ l, k ≤ 100000) (hp : -1 ≤ p ∧ p ≤ 100000) (hbase : base ≤ w.heap.size)
    (hd1 : pm ≠ pl ∧ pm ≠ bm ∧ blkOf A ≠ some pm ∧ pm < w.heap.size) (hd2 : pw ≠ pl ∧ pw ≠ bm ∧ blkOf A ≠ some pw ∧ pw < w.heap.size) (hd3 : 0 < l.length → ∀ k, blkOf Z = some k → k ≠ pl ∧ k ≠ bm ∧ blkOf A ≠ some k) (hd4 : blkOf A ≠ some pl ∧ blkOf A ≠ some bm ∧ pl ≠ bm) :
    Calls Tryz.prog 82 #[.slice Z l.length cz, .int .i64 p, .pointer (some ⟨pm, 0, none⟩), .pointer (some ⟨pw, 0, none⟩), .pointer (some ⟨pl, 0, none⟩)] w (StepOut base pl bm (N + l.length) A (stepQ wo p l (f, q)) w) := by
  have HX := hide (fun W (h : KQ pl bm (blkOf A) w W) => (⟨h.cell cm hd1.2.2.2 hd1.1 hd1.2.1 hd1.2.2.1, h.cell cw hd2.2.2.2 hd2.1 hd2.2.1 hd2.2.2.1⟩ : W.cell? ⟨pm, 0, none⟩ = some (.map (some bm)) ∧ W.cell? ⟨pw, 0, none⟩ = some (.int .i64 wo)))
  have HZ := hide (fun W (h : KQ pl bm (blkOf A) w W) j (hj : j < l.length) => (show ∃ b off, Z = some ⟨b, off, none⟩ ∧ W.cell? ⟨b, off + j, none⟩ = some (.int .i64 (l.getD j 0 : Int)) from by
    obtain ⟨b, off, e, _, hb, _, hc⟩ := hR.open_ (Nx.refl w) (by rw [intsOf_len]; omega)
    have hz := hd3 (by omega) b (by rw [e]; rfl)
    have hcc := hc j (by rw [intsOf_len]; exact hj) 0 _ rfl
    have eg : l.getD j 0 = l[j] := by rw [List.getD_eq_getElem?_getD, List.getElem?_eq_getElem hj]; rfl
    rw [eg]
    exact ⟨b, off, e, h.cell (by simpa [intsOf] using hcc) hb hz.1 hz.2.1 hz.2.2⟩))
  have HL := hide hl
  have HP := hide hp
  have hplt : pl < w.heap.size := (Array.getElem?_eq_some_iff.1 hpl).1
  have hbmt := hM.lt
  have HD4 := hide hd4
  have HST0 := hide (⟨hpl, hM, hq⟩ : w.heap[pl]? = some (.cells #[.slice A q.length c] 22 (0, 0)) ∧ MpQI w bm N f ∧ QIs w base 3 A c (intsOf q))
  clear cm cw hpl hM hq hR hd1 hd2 hd3 hl hp hd4
  obtain ⟨S, hS⟩ : ∃ S, S = stepQ wo p l (f, q) := ⟨_, rfl⟩
  rw [← hS]
  have HS := hide hS
  clear hS
  generalize hn : l.length = n at *
  have HN := hide hn
  clear hn
  go_enter Tryz.func82, Tryz.ntmps82
  go_wp2_with fail
  go_loopw [13] (fun i wr => ∃ (j : Nat) (f' : Nat → Option Int) (q' : List Nat) (A' : Option Addr) (c' : Nat), j ≤ n ∧ i = .int .i64 j ∧ KQ pl bm (blkOf A) w wr ∧ wr.heap[pl]? = some (.cells #[.slice A' q'.length c'] 22 (0, 0)) ∧ MpQI wr bm (N + j) f' ∧ QIs wr base 3 A' c' (intsOf q') ∧ (blkOf A' = blkOf A ∨ ∀ k, blkOf A' = some k → w.heap.size ≤ k) ∧ q'.length ≤ q.length + j ∧ S = stepQ wo p (l.drop j) (f', q')) (fun i _ => n - (intOf i).toNat)
  case atStart => exact ⟨0, f, q, A, c, Nat.zero_le _, rfl, KQ.refl _ _ _ _, HST0.out.1, HST0.out.2.1, HST0.out.2.2, .inl rfl, Nat.le_refl _, HS.out⟩
  case round =>
    obtain ⟨j, f', q', A', c', hj, rfl, hkq, hpl, hM, hq, hA, hql', hSS⟩ := hrel
    have HSS := hide hSS
    have HM := hide hM
    have HQ := hide hq
    have HA := hide hA
    have HKQ := hide hkq
    have HPL := hide hpl
    have HQL := hide hql'
    clear hSS hM hq hA hql'
    by_cases hlt : j < n
    · have hlt' : j < l.length := by have := HN.out; omega
      obtain ⟨b, off, eb, cz0⟩ := HZ.out wr hkq j hlt
      obtain ⟨x1, x2⟩ := HX.out wr hkq
      have hkb := HL.out l[j] (List.getElem_mem hlt')
      have HDR := hide (show stepQ wo p (l.drop j) (f', q') = stepQ wo p (l.drop (j + 1)) (if f' l[j] = none ∧ (l[j] : Int) ≠ wo then (fun x => if x = l[j] then some p else f' x, q' ++ [l[j]]) else (f', q')) from stepQ_drop wo p l j hlt' (f', q'))
      have hszr := hkq.sz
      have x3 : wr.cell? ⟨pl, 0, none⟩ = some (.slice A' q'.length c') := (cell_of_row wr pl 0 _ _ _ hpl).trans rfl
      rw [show l.getD j 0 = l[j] by rw [List.getD_eq_getElem?_getD, List.getElem?_eq_getElem hlt']; rfl] at cz0
      generalize l[j] = k at *
      have hdk : domK k := domK_of (by omega)
      have HKK := hide (key_N hdk)
      have HDK := hide hdk
      clear hpl hkq hdk
      subst eb
      have hA1 : ∀ i, blkOf A' = some i → i ≠ pl ∧ i ≠ bm ∧ (some i = blkOf A ∨ w.heap.size ≤ i) := by
        intro i hi
        rcases HA.out with h | h
        · have h4 := HD4.out
          refine ⟨fun e => h4.1 ?_, fun e => h4.2.1 ?_, .inl (hi.symm.trans h)⟩
          · rw [← h, hi, e]
          · rw [← h, hi, e]
        · have := h i hi
          exact ⟨by omega, by omega, .inr this⟩
      have HA1 := hide hA1
      clear hA1
      cases hf : f' k with
      | some z =>
        have HEQ := hide (HSS.out.trans (HDR.out.trans (by rw [if_neg (by rw [hf]; simp)] : _ = stepQ wo p (l.drop (j + 1)) (f', q'))))
        go_wp2_with (at_lookup; refine wpMgLookOk _ rfl _ _ _ rfl intR law_intN Tryz.underlying132 (z := (0 : Int)) (by decide) (zeroIntR _) bm (N + j) f' rfl HM.out k rfl HDK.out _ HKK.out ?_)
        go_roundw
        case rel => exact ⟨j + 1, f', q', A', c', by omega, by go_num, HKQ.out, HPL.out, by rw [← Nat.add_assoc]; exact HM.out.mono (by omega), HQ.out, HA.out, by have := HQL.out; omega, HEQ.out⟩
        case measure => simp [intOf]; omega
      | none =>
        by_cases hwo : (k : Int) = wo
        · have tw : ((k : Int) != wo) = false := by simpa using hwo
          have HEQ := hide (HSS.out.trans (HDR.out.trans (by rw [if_neg (by rw [hwo]; simp)] : _ = stepQ wo p (l.drop (j + 1)) (f', q'))))
          clear hwo
          go_wp2_with (at_lookup; refine wpMgLookOk _ rfl _ _ _ rfl intR law_intN Tryz.underlying132 (z := (0 : Int)) (by decide) (zeroIntR _) bm (N + j) f' rfl HM.out k rfl HDK.out _ HKK.out ?_)
          go_roundw
          case rel => exact ⟨j + 1, f', q', A', c', by omega, by go_num, HKQ.out, HPL.out, by rw [← Nat.add_assoc]; exact HM.out.mono (by omega), HQ.out, HA.out, by have := HQL.out; omega, HEQ.out⟩
          case measure => simp [intOf]; omega
        · have tw : ((k : Int) != wo) = true := by simpa using hwo
          have HEQ := hide (HSS.out.trans (HDR.out.trans (by rw [if_pos ⟨hf, hwo⟩] : _ = stepQ wo p (l.drop (j + 1)) (fun x => if x = k then some p else f' x, q' ++ [k]))))
          have hwp : (Lit.int .i64 p).wf = true := wf_i64o.2 ⟨by have := HP.out; omega, by have := HP.out; omega⟩
          have HWP := hide hwp
          clear hwo hwp
          have hpm : bm ≠ pl := fun e => HD4.out.2.2 e.symm
          have HPM := hide hpm
          clear hpm
          go_wp2_with (first
            | (at_lookup; refine wpMgLookOk _ rfl _ _ _ rfl intR law_intN Tryz.underlying132 (z := (0 : Int)) (by decide) (zeroIntR _) bm (N + j) f' rfl HM.out k rfl HDK.out _ HKK.out ?_)
            | (at_mapUpdate; go_must (refine wpMgPut _ rfl _ _ _ _ rfl intR law_intN ekN_inj Tryz.underlying132 bm (N + j) f' rfl HM.out (by unfold maxLen; omega) k rfl HDK.out _ HKK.out p rfl HWP.out ?_); intro w7 hM7 hg7; (have HM7 := hide hM7); (have HG7 := hide hg7); (have hpl7 := (hg7.block pl (Array.getElem?_eq_some_iff.1 HPL.out).1 (by simpa using fun e => HPM.out e.symm)).trans HPL.out); (have HPL7 := hide hpl7); (have x4 : w7.cell? ⟨pl, 0, none⟩ = some (.slice A' q'.length c') := (cell_of_row w7 pl 0 _ _ _ hpl7).trans rfl); clear hM7 hg7 hpl7)
            | (at_builtin; go_must (refine wpQApp rfl _ _ _ rfl el_IntR (by omega) base A' c' (intsOf q') (by rw [intsOf_len]; rfl) ((HQ.out.kept (row := some bm) HG7.out (fun i hi e => (HA1.out i hi).2.1 (by injection e with e; exact e.symm))).nx ((Nx.refl _).alloc _)) _ (k : Int) rfl (hnew rfl) (by rw [intsOf_len]; have := HQL.out; omega) (by have := HG7.out.sz; simp; omega) ?_); intro A9 c9 w9 hq9 hg9 ha9; (have HQ9 := hide hq9); (have HG9 := hide hg9); (have HA9 := hide ha9); (have hpl9 := (hg9.block pl (Nat.lt_of_lt_of_le (Array.getElem?_eq_some_iff.1 HPL7.out).1 ((Nx.refl w7).alloc _).sz) (fun e => (HA1.out pl e.symm).1 rfl)).trans ((((Nx.refl w7).alloc _).block pl (Array.getElem?_eq_some_iff.1 HPL7.out).1).trans HPL7.out)); (have HPL9 := hide hpl9); (have y0 : w9.cell? ⟨pl, 0, none⟩ = some (.slice A' q'.length c') := (cell_of_row w9 pl 0 _ _ _ hpl9).trans rfl); (have yf := frozen_blkR (j := 0) hpl9); clear hq9 hg9 ha9 hpl9))
          go_roundw
          case rel =>
            have hlen : (intsOf q').length + 1 = (q' ++ [k]).length := by rw [intsOf_len, List.length_append]; rfl
            have hk7 : KQ pl bm (blkOf A) w w7 := HKQ.out.grown (row := some bm) HG7.out (fun i e => by injection e with e; exact .inr (.inl e.symm))
            have hk9 : KQ pl bm (blkOf A) w w9 := (hk7.nx ((Nx.refl w7).alloc _)).grown HG9.out (fun i e => (HA1.out i e).2.2.elim (fun h => .inr (.inr (.inl h))) (fun h => .inr (.inr (.inr h))))
            have hb9 : bm ≠ pl := HPM.out
            have hs := Gr.setS (Gr.refl pl w9) (p := ⟨pl, 0, none⟩) (Or.inl rfl) (.slice A9 ((intsOf q').length + 1) c9)
            refine ⟨j + 1, fun x => if x = k then some p else f' x, q' ++ [k], A9, c9, by omega, by go_num, hk9.grown (row := some pl) hs (fun i e => by injection e with e; exact .inl e.symm), ?_, ?_, ?_, ?_, ?_, HEQ.out⟩
            · rw [← hlen]
              exact heap_set HPL9.out
            · rw [← Nat.add_assoc]
              exact (((HM7.out.nx ((Nx.refl w7).alloc _)).grown HG9.out (fun e => (HA1.out bm e.symm).2.1 rfl)).gr hs hb9)
            · rw [mapI_one]
              refine HQ9.out.kept (row := some pl) hs (fun i hi e => ?_)
              injection e with e
              subst e
              rcases HA9.out with h | h
              · exact (HA1.out pl (h ▸ hi)).1 rfl
              · have := h pl hi
                have := (Array.getElem?_eq_some_iff.1 HPL7.out).1
                simp at *
                omega
            · rcases HA9.out with h | h
              · rw [h]; exact HA.out
              · refine .inr fun i hi => ?_
                have h1 := h i hi
                have h2 := hk7.sz
                have h3 := ((Nx.refl w7).alloc (.cells #[.int .i64 (k : Int)] 3)).sz
                omega
            · rw [List.length_append]
              have := HQL.out
              simp
              omega
          case measure => simp [intOf]; omega
    · obtain rfl : n = j := by omega
      go_wp2_with fail
      go_end0
      refine ⟨rfl, A', c', ?_, ?_, ?_, HA.out, HKQ.out⟩
      all_goals
        rw [HSS.out, ← HN.out, List.drop_length]
      · exact HPL.out
      · exact HN.out ▸ HM.out
      · exact HQ.out
end Go.Proofs.YtepbamacebjopaaGreatDoor
/- 'out = append(out, y)' at a step of a region that draws. Of no program. -/
namespace Go.Proofs.YtepbamacebjopaaGreatDoor
open Go.RowKit
/-- .. at an operation of a region that does not draw. -/
theorem wpApp2 {α : Type} {P : Program} {w : World} {ops : Array Oper} {rest : List Oper} {o : Oper} {a : Act} {Q : Exit → Act → World → Prop} (hgd : o.guard = none) (s x : Operand) (t : TypeId)
    (ho : o.op = .call { callee := .builtin .append, args := #[s, x], argTypes := #[t, t] })
    {e : TypeId} {K bytes : Nat} (E : ElemOf P t e K bytes) (enc : α → List Value) (hk : ∀ x, (enc x).length = K) (h1c : ∀ x, ∀ v ∈ enc x, v.oneCell' = true) (hK : 0 < K) (hB : bytes ≤ 1000)
    (base : Nat) (v : Value) (L : List α) (hs : a.eval s = v) (hown : w.ownsRow base e K v L.length (L.flatMap enc)) (g : Nat) (y : α) (cs : Array Value) (hx : a.eval x = .slice (some ⟨g, 0, none⟩) 1 1)
    (hblk : w.heap[g]? = some (.cells cs e (0, 0))) (hcs : cs.toList = enc y) (hlen : L.length ≤ 10000000) (hbase : base ≤ w.heap.size)
    (h : ∀ v' w', w'.ownsRow base e K v' (L ++ [y]).length ((L ++ [y]).flatMap enc) → w.grownBy w' v.ownBlock → (∀ b, v'.ownBlock = some b → v.ownBlock = some b ∨ b = w.heap.size) → wpList P ops Q rest (a.put o.dst v') w') : wpList P ops Q (o :: rest) a w := by
  obtain ⟨i, z, h1, h2, h3, h4, h5⟩ := E.hi
  refine wpList_append_lies w hgd s x t ho base e i z K bytes E.ht h1 h2 h3 h4 h5 hK v L.length _ hs hown ⟨g, 0, none⟩ 1 1 (enc y) hx (by rw [hk]; omega) (news_of hblk hcs) (h1c y) (by omega) (by unfold maxLen; omega) ?_ hbase _ rfl ?_
  · have : (L.length + 1) * bytes ≤ 10000001 * 1000 := Nat.mul_le_mul (by omega) hB
    omega
  · intro g' cap w' ho' hg' hat _
    have e1 : (L ++ [y]).length = L.length + 1 := by simp
    refine h _ w' (by rw [e1, List.flatMap_append]; simpa using ho') hg' (fun b hb => ?_)
    have : g' = b := by simpa [Value.ownBlock] using hb
    subst this
    exact hat
end Go.Proofs.YtepbamacebjopaaGreatDoor
/- The map of roads: the node at an arc's end, the arcs out of a node, the arcs behind an arc. -/
namespace Go.Proofs.YtepbamacebjopaaGreatDoor
open Go.RowKit Go.Maps

section
variable {bm g0 lo : Nat} {A B C : Option Addr} {ca cb cc : Nat} {M : MapA} {ns : List Node} {rs : List Arc} {bs : List Ban}
theorem map_to {w : World} (hM : MapR w bm g0 lo A B C ca cb cc M ns rs bs) {k : Nat} (hk : k < rs.length) : ∃ tb toff, M.T = some ⟨tb, toff, none⟩ ∧ tb < w.heap.size ∧ w.cell? ⟨tb, toff + k, none⟩ = some (.int .i64 (nodeN ns (arcX rs k).to_ : Int)) := by
  obtain ⟨tb, toff, e, _, hb, _, hc⟩ := hM.hT.open_ (Nx.refl w) (by rw [List.length_map, List.length_range]; omega)
  refine ⟨tb, toff, e, hb, ?_⟩
  have h := hc k (by rw [List.length_map, List.length_range]; exact hk) 0 _ rfl
  simpa using h
set_option maxRecDepth 100000 in
set_option maxHeartbeats 1000000 in
theorem w_MTo (w : World) (hM : MapR w bm g0 lo A B C ca cb cc M ns rs bs) (k : Nat) (hk : k < rs.length) :
    Calls Tryz.prog 84 #[.pointer (some ⟨bm, 0, none⟩), .int .i64 (k : Int)] w fun e w' => e = .returned (.int .i64 (nodeN ns (arcX rs k).to_ : Int)) ∧ Nx w w' := by
  obtain ⟨tb, toff, e, _, hc⟩ := map_to hM hk
  have c2 := hM.c2
  rw [e] at c2
  generalize nodeN ns (arcX rs k).to_ = z at *
  generalize rs.length = m at *
  clear hM e
  go_enter Tryz.func84, Tryz.ntmps84
  go_wp2
  go_ret
  exact ⟨rfl, Nx.refl _⟩
set_option maxRecDepth 100000 in
set_option maxHeartbeats 1000000 in
theorem w_MOut (w0 w : World) (hM0 : MapR w0 bm g0 lo A B C ca cb cc M ns rs bs) (hn0 : Nx w0 w) (i : Nat) (hi : i < ns.length) :
    Calls Tryz.prog 83 #[.pointer (some ⟨bm, 0, none⟩), .int .i64 (i : Int)] w fun e w' => ∃ (Z : Option Addr) (cz : Nat), e = .returned (.slice Z ((gphOf ns rs bs).outs i).length cz) ∧ Rd w' 0 Z 1 encI (intsOf ((gphOf ns rs bs).outs i)) ∧ (0 < ((gphOf ns rs bs).outs i).length → ∀ a, Z = some a → a.block < w0.heap.size) ∧ Nx w w' := by
  have hM := hM0.nx hn0
  obtain ⟨Z, cz, ho0, hR0⟩ := hM0.hO i hi
  have ho := nx_cell hn0 hM0.bol ho0
  have hR := hR0.nx hn0
  have HBB := hide (show 0 < ((gphOf ns rs bs).outs i).length → ∀ a, Z = some a → a.block < w0.heap.size from fun hp a e => by
    obtain ⟨b, off, e2, _, hb, _⟩ := hR0 (by unfold intsOf; rw [List.length_map]; exact hp)
    rw [e] at e2
    injection e2 with e2
    rw [e2]
    exact hb)
  clear ho0 hR0
  have c3 := hM.c3
  generalize (gphOf ns rs bs).outs i = l at *
  generalize ns.length = m at *
  generalize M.bo = bo at *
  have HR := hide hR
  clear hM hR hM0
  generalize hl : l.length = n at *
  have HL := hide hl
  clear hl
  go_enter Tryz.func83, Tryz.ntmps83
  go_wp2
  go_ret
  exact ⟨Z, cz, rfl, HR.out, HBB.out, Nx.refl _⟩
theorem gph_ban (hA : SortA rs) {k j : Nat} (hk : k < rs.length) (hj : j < rs.length) : (mapB rs bs bs.length ((k : Int), (j : Int))).getD false = (gphOf ns rs bs).ban k j := mapB_ban hA hk hj
set_option maxRecDepth 100000 in
set_option maxHeartbeats 4000000 in
theorem w_MNext (w : World) (hM : MapR w bm g0 lo A B C ca cb cc M ns rs bs) (hC : chk (arcF ns) none rs = 0) (hal : rs.length ≤ 400) (k : Nat) (hk : k < rs.length) :
    Calls Tryz.prog 85 #[.pointer (some ⟨bm, 0, none⟩), .int .i64 (k : Int)] w fun e w' => ∃ (Z : Option Addr) (cz : Nat), e = .returned (.slice Z (((gphOf ns rs bs).outs ((gphOf ns rs bs).to_ k)).filter fun j => !(gphOf ns rs bs).ban k j).length cz) ∧ Rd w' w.heap.size Z 1 encI (intsOf (((gphOf ns rs bs).outs ((gphOf ns rs bs).to_ k)).filter fun j => !(gphOf ns rs bs).ban k j)) ∧ Nx w w' := by
  have hG := gph_ok (bs := bs) hC
  have hnt : (gphOf ns rs bs).to_ k < ns.length := hG.to_lt k hk
  obtain ⟨tb, toff, eT, htb, xT⟩ := map_to hM hk
  obtain ⟨Z0, c0, ho, hR⟩ := hM.hO _ hnt
  have HLT := hide (show ∀ j ∈ (gphOf ns rs bs).outs ((gphOf ns rs bs).to_ k), j < rs.length from fun j hj => hG.outs_lt _ j hj)
  have HLK := hide (fun (j : Nat) (hj : j < rs.length) W (hx : Nx w W) => (show (Instr.lookup 156 (.map (some M.b4)) (.agg #[.int .i64 (k : Int), .int .i64 (j : Int)]) false).run Tryz.prog W = .ok (.bool ((gphOf ns rs bs).ban k j)) W by
    obtain ⟨lb, hlb⟩ := key_pair ((k : Int), (j : Int)) ⟨wf_i64o.2 ⟨by show _ ≤ (k : Int); omega, by show (k : Int) ≤ _; omega⟩, wf_i64o.2 ⟨by show _ ≤ (j : Int); omega, by show (j : Int) ≤ _; omega⟩⟩
    have h := ((hM.m4.nx hx).look boolR law_pair Tryz.underlying156 (z := false) trivial (zeroBoolR _) (k := ((k : Int), (j : Int))) ⟨wf_i64o.2 ⟨by show _ ≤ (k : Int); omega, by show (k : Int) ≤ _; omega⟩, wf_i64o.2 ⟨by show _ ≤ (j : Int); omega, by show (j : Int) ≤ _; omega⟩⟩ hlb).1
    rw [gph_ban (ns := ns) (sortA_of hC) hk hj] at h
    exact h))
  have c2 := hM.c2
  have c3 := hM.c3
  have c4 := hM.c4
  rw [eT] at c2
  have hlb := hM.lt
  have HX := hide (fun W (hx : Nx w W) => (⟨nx_cell hx hlb c2, nx_cell hx hlb c3, nx_cell hx htb xT, nx_cell hx hM.bol ho⟩ : W.cell? ⟨bm, 2, none⟩ = some (.slice (some ⟨tb, toff, none⟩) rs.length M.cT) ∧ W.cell? ⟨bm, 3, none⟩ = some (.slice (some ⟨M.bo, 0, none⟩) ns.length ns.length) ∧ W.cell? ⟨tb, toff + k, none⟩ = some (.int .i64 (nodeN ns (arcX rs k).to_ : Int)) ∧ W.cell? ⟨M.bo, (gphOf ns rs bs).to_ k, none⟩ = some (.slice Z0 ((gphOf ns rs bs).outs ((gphOf ns rs bs).to_ k)).length c0)))
  have HX4 := hide (fun W (hx : Nx w W) => nx_cell hx hlb c4)
  have HR := hide hR
  have hLl : ((gphOf ns rs bs).outs ((gphOf ns rs bs).to_ k)).length ≤ 400 := Nat.le_trans (hG.outs_len _) hal
  rw [show nodeN ns (arcX rs k).to_ = (gphOf ns rs bs).to_ k from rfl] at HX
  generalize (gphOf ns rs bs).to_ k = t at *
  generalize (gphOf ns rs bs).outs t = L at *
  generalize (gphOf ns rs bs).ban k = ban at *
  clear hM eT c2 c3 c4 hlb xT ho hR htb hG hC
  generalize hn : L.length = n at *
  have HN := hide hn
  clear hn
  generalize hm : rs.length = m at *
  generalize hnn : ns.length = nn at *
  clear hm hnn
  go_enter Tryz.func85, Tryz.ntmps85
  go_upto_region 2 with fail
  go_cut [20, 21, 22] (fun v20 v21 v22 wx => v20 = .slice Z0 n c0 ∧ v21 = .int .i64 (n : Int) ∧ v22 = .int .i64 0 ∧ Nx w wx)
  case first =>
    refine wp_region_held_drew (S := fun w' => w'.cell? ⟨bm, 2, none⟩ = some (.slice (some ⟨tb, toff, none⟩) m M.cT) ∧ w'.cell? ⟨bm, 3, none⟩ = some (.slice (some ⟨M.bo, 0, none⟩) nn nn) ∧ w'.cell? ⟨tb, toff + k, none⟩ = some (.int .i64 (t : Int)) ∧ w'.cell? ⟨M.bo, t, none⟩ = some (.slice Z0 n c0)) (by kernel_rfl) ?_ (fun hHeld => ?_)
    · exact HX.out _ (Nx.refl _).drew
    refine wpAnyH_take (i := 0) (oi := ⟨some 8, _, _, _, _, _⟩) (v := ?_) rfl (by kernel_rfl) (by kernel_rfl) (by kernel_rfl) (fun _ _ _ h => h) (Or.inl ⟨by rfl, ?_⟩) (by assumption) ?_
    rotate_left 1
    · intro w hSw
      (try dsimp only at hSw)
      go_simp
      try with_reducible rfl
    try simp only [Act.put, List.setIfInBounds_toArray, List.set_cons_zero, List.set_cons_succ]
    refine wpAnyH_take (i := 1) (oi := ⟨some 9, _, _, _, _, _⟩) (v := ?_) rfl (by kernel_rfl) (by kernel_rfl) (by kernel_rfl) (fun _ _ _ h => h) (Or.inl ⟨by rfl, ?_⟩) (by assumption) ?_
    rotate_left 1
    · intro w hSw
      (try dsimp only at hSw)
      go_simp
      try with_reducible rfl
    try simp only [Act.put, List.setIfInBounds_toArray, List.set_cons_zero, List.set_cons_succ]
    refine wpAnyH_take (i := 2) (oi := ⟨some 10, _, _, _, _, _⟩) (v := ?_) rfl (by kernel_rfl) (by kernel_rfl) (by kernel_rfl) (fun _ _ _ h => h) (Or.inl ⟨by rfl, ?_⟩) (by assumption) ?_
    rotate_left 1
    · intro w hSw
      (try dsimp only at hSw)
      go_simp
      try with_reducible rfl
    try simp only [Act.put, List.setIfInBounds_toArray, List.set_cons_zero, List.set_cons_succ]
    refine wpAnyH_take (i := 3) (oi := ⟨some 11, _, _, _, _, _⟩) (v := ?_) rfl (by kernel_rfl) (by kernel_rfl) (by kernel_rfl) (fun _ _ _ h => h) (Or.inl ⟨by rfl, ?_⟩) (by assumption) ?_
    rotate_left 1
    · intro w hSw
      (try dsimp only at hSw)
      go_simp
      try with_reducible rfl
    try simp only [Act.put, List.setIfInBounds_toArray, List.set_cons_zero, List.set_cons_succ]
    refine wpAnyH_take (i := 4) (oi := ⟨some 12, _, _, _, _, _⟩) (v := ?_) rfl (by kernel_rfl) (by kernel_rfl) (by kernel_rfl) (fun _ _ _ h => h) (Or.inl ⟨by rfl, ?_⟩) (by assumption) ?_
    rotate_left 1
    · intro w hSw
      (try dsimp only at hSw)
      go_simp
      try with_reducible rfl
    try simp only [Act.put, List.setIfInBounds_toArray, List.set_cons_zero, List.set_cons_succ]
    refine wpAnyH_take (i := 5) (oi := ⟨some 13, _, _, _, _, _⟩) (v := ?_) rfl (by kernel_rfl) (by kernel_rfl) (by kernel_rfl) (fun _ _ _ h => h) (Or.inl ⟨by rfl, ?_⟩) (by assumption) ?_
    rotate_left 1
    · intro w hSw
      (try dsimp only at hSw)
      go_simp
      try with_reducible rfl
    try simp only [Act.put, List.setIfInBounds_toArray, List.set_cons_zero, List.set_cons_succ]
    refine wpAnyH_take (i := 6) (oi := ⟨some 14, _, _, _, _, _⟩) (v := ?_) rfl (by kernel_rfl) (by kernel_rfl) (by kernel_rfl) (fun _ _ _ h => h) (Or.inl ⟨by rfl, ?_⟩) (by assumption) ?_
    rotate_left 1
    · intro w hSw
      (try dsimp only at hSw)
      go_simp
      try with_reducible rfl
    try simp only [Act.put, List.setIfInBounds_toArray, List.set_cons_zero, List.set_cons_succ]
    refine wpAnyH_take (i := 7) (oi := ⟨some 15, _, _, _, _, _⟩) (v := ?_) rfl (by kernel_rfl) (by kernel_rfl) (by kernel_rfl) (fun _ _ _ h => h) (Or.inl ⟨by rfl, ?_⟩) (by assumption) ?_
    rotate_left 1
    · intro w hSw
      (try dsimp only at hSw)
      go_simp
      try with_reducible rfl
    try simp only [Act.put, List.setIfInBounds_toArray, List.set_cons_zero, List.set_cons_succ]
    refine wpAnyH_take (i := 8) (oi := ⟨some 16, _, _, _, _, _⟩) (v := ?_) rfl (by kernel_rfl) (by kernel_rfl) (by kernel_rfl) (fun _ _ _ h => h) (Or.inl ⟨by rfl, ?_⟩) (by assumption) ?_
    rotate_left 1
    · intro w hSw
      (try dsimp only at hSw)
      go_simp
      try with_reducible rfl
    try simp only [Act.put, List.setIfInBounds_toArray, List.set_cons_zero, List.set_cons_succ]
    refine wpAnyH_take (i := 9) (oi := ⟨some 17, _, _, _, _, _⟩) (v := ?_) rfl (by kernel_rfl) (by kernel_rfl) (by kernel_rfl) (fun _ _ _ h => h) (Or.inl ⟨by rfl, ?_⟩) (by assumption) ?_
    rotate_left 1
    · intro w hSw
      (try dsimp only at hSw)
      go_simp
      try with_reducible rfl
    try simp only [Act.put, List.setIfInBounds_toArray, List.set_cons_zero, List.set_cons_succ]
    refine wpAnyH_take (i := 10) (oi := ⟨some 18, _, _, _, _, _⟩) (v := ?_) rfl (by kernel_rfl) (by kernel_rfl) (by kernel_rfl) (fun _ _ _ h => h) (Or.inl ⟨by rfl, ?_⟩) (by assumption) ?_
    rotate_left 1
    · intro w hSw
      (try dsimp only at hSw)
      go_simp
      try with_reducible rfl
    try simp only [Act.put, List.setIfInBounds_toArray, List.set_cons_zero, List.set_cons_succ]
    refine wpAnyH_take (i := 11) (oi := ⟨some 19, _, _, _, _, _⟩) (v := ?_) rfl (by kernel_rfl) (by kernel_rfl) (by kernel_rfl) (fun _ _ _ h => h) (Or.inl ⟨by rfl, ?_⟩) (by assumption) ?_
    rotate_left 1
    · intro w hSw
      (try dsimp only at hSw)
      go_simp
      try with_reducible rfl
    try simp only [Act.put, List.setIfInBounds_toArray, List.set_cons_zero, List.set_cons_succ]
    refine wpAnyH_take (i := 12) (oi := ⟨some 20, _, _, _, _, _⟩) (v := ?_) rfl (by kernel_rfl) (by kernel_rfl) (by kernel_rfl) (fun _ _ _ h => h) (Or.inl ⟨by rfl, ?_⟩) (by assumption) ?_
    rotate_left 1
    · intro w hSw
      (try dsimp only at hSw)
      go_simp
      try with_reducible rfl
    try simp only [Act.put, List.setIfInBounds_toArray, List.set_cons_zero, List.set_cons_succ]
    refine wpAnyH_take (i := 13) (oi := ⟨some 21, _, _, _, _, _⟩) (v := ?_) rfl (by kernel_rfl) (by kernel_rfl) (by kernel_rfl) (fun _ _ _ h => h) (Or.inl ⟨by rfl, ?_⟩) (by assumption) ?_
    rotate_left 1
    · intro w hSw
      (try dsimp only at hSw)
      go_simp
      try with_reducible rfl
    try simp only [Act.put, List.setIfInBounds_toArray, List.set_cons_zero, List.set_cons_succ]
    refine wpAnyH_take (i := 14) (oi := ⟨some 22, _, _, _, _, _⟩) (v := ?_) rfl (by kernel_rfl) (by kernel_rfl) (by kernel_rfl) (fun _ _ _ h => h) (Or.inl ⟨by rfl, ?_⟩) (by assumption) ?_
    rotate_left 1
    · intro w hSw
      (try dsimp only at hSw)
      go_simp
      try with_reducible rfl
    try simp only [Act.put, List.setIfInBounds_toArray, List.set_cons_zero, List.set_cons_succ]
    refine wpAnyH_done (by kernel_rfl) ?_ _
    go_wp2
    go_meet
    exact ⟨rfl, rfl, rfl, (Nx.refl _).drew⟩
  case rest =>
    obtain ⟨rfl, rfl, rfl, hx⟩ := hcut
    obtain ⟨w1, hw1⟩ : ∃ w1, w1 = wc := ⟨_, rfl⟩
    subst hw1
    have HX1 := hide hx
    clear hx
    go_wp2_with fail
    go_loopw [5, 22] (fun v i wr => ∃ j : Nat, j ≤ n ∧ i = .int .i64 j ∧ Nx w1 wr ∧ wr.ownsRow w1.heap.size 3 1 v ((L.take j).filter fun x => !ban x).length ((intsOf ((L.take j).filter fun x => !ban x)).flatMap encI)) (fun _ i _ => n - (intOf i).toNat)
    case atStart => exact ⟨0, Nat.zero_le _, rfl, Nx.refl _, World.ownsRow_nil _ _ _ _⟩
    case round =>
      obtain ⟨j, hj, rfl, hbw, hown⟩ := hrel
      have HO := hide hown
      clear hown
      by_cases hlt : j < n
      · have hlt' : j < L.length := by have := HN.out; omega
        obtain ⟨b, off, eb, _, hb, hbr, hc⟩ := HR.out.open_ (HX1.out.trans hbw) (by unfold intsOf; rw [List.length_map]; omega)
        have cj : wr.cell? ⟨b, off + j, none⟩ = some (.int .i64 (L[j] : Int)) := by
          have h := hc j (by unfold intsOf; rw [List.length_map]; omega) 0 _ rfl
          simpa [intsOf] using h
        have hLm := HLT.out L[j] (List.getElem_mem hlt')
        have HLJ := hide (fun W (hx : Nx w W) => HLK.out L[j] hLm W hx)
        have HTK := hide (show (L.take (j + 1)).filter (fun x => !ban x) = (L.take j).filter (fun x => !ban x) ++ (if ban L[j] = true then [] else [L[j]]) by
          rw [List.take_succ_eq_append_getElem hlt', List.filter_append]
          cases h : ban L[j] <;> simp [h])
        clear hc hb hbr hLm
        generalize L[j] = x at *
        have b4 := HX4.out wr (HX1.out.trans hbw)
        have hlk := HLJ.out wr (HX1.out.trans hbw)
        subst eb
        cases hbn : ban x
        · rw [hbn] at hlk
          have h1 := HO.out
          have HTK2 := hide (HTK.out.trans (by rw [hbn]; rfl : _ = (L.take j).filter (fun x => !ban x) ++ [x]))
          have HLE := hide (show ((L.take j).filter (fun x => !ban x)).length ≤ j by
            have := List.length_filter_le (fun x => !ban x) (L.take j)
            rw [List.length_take] at this
            omega)
          generalize (L.take j).filter (fun x => !ban x) = F at *
          have HI := hide (show (intsOf F).length = F.length by unfold intsOf; rw [List.length_map])
          have h2 := h1
          rw [← HI.out] at h2
          have HO2 := hide h2
          clear h1 h2
          go_wp2_with (at_builtin; go_must (refine wpApp2 rfl _ _ _ rfl el_IntR encI encI_len encI_one (by omega) (by omega) w1.heap.size _ (intsOf F) rfl (HO2.out.alloc _) _ (x : Int) _ rfl (hnew rfl) rfl (by have := HI.out; have := HLE.out; omega) (by have := hbw.sz; simp; omega) ?_); intro v9 w9 hown9 hg9 _; (have HO9 := hide hown9); (have HG9 := hide hg9); clear hown9 hg9)
          go_roundw
          case rel =>
            refine ⟨j + 1, by omega, by go_num, (hbw.alloc _).grown HG9.out (fun y hy => own_blk_lt HO2.out y hy), ?_⟩
            have h9 := HO9.out
            rw [HTK2.out]
            have e : intsOf (F ++ [x]) = intsOf F ++ [(x : Int)] := by unfold intsOf; rw [List.map_append]; rfl
            rw [e]
            rw [show (intsOf F ++ [(x : Int)]).length = (F ++ [x]).length by rw [List.length_append, List.length_append, HI.out]; rfl] at h9
            exact h9
          case measure => simp [intOf]; omega
        · rw [hbn] at hlk
          have HTK2 := hide (HTK.out.trans (by rw [hbn, if_pos rfl, List.append_nil] : _ = (L.take j).filter (fun x => !ban x)))
          go_wp2_with fail
          go_roundw
          case rel => exact ⟨j + 1, by omega, by go_num, hbw, by rw [HTK2.out]; exact HO.out⟩
          case measure => simp [intOf]; omega
      · obtain rfl : n = j := by omega
        have hown := HO.out
        rw [← HN.out, List.take_length] at hown
        obtain ⟨F, hF⟩ : ∃ F, F = L.filter (fun x => !ban x) := ⟨_, rfl⟩
        rw [← hF] at hown
        have hI : F.length = (intsOf F).length := by unfold intsOf; rw [List.length_map]
        obtain ⟨D, cd, rfl, hRd, _⟩ := Rd.of_own encI_len hI hown
        have HRd := hide hRd
        have HF := hide hF
        have HI := hide hI
        clear hRd hown HO hI hF
        generalize hfl : (intsOf F).length = fl at *
        have HFL := hide hfl
        clear hfl
        go_wp2_with fail
        go_ret
        refine ⟨D, cd, ?_, by rw [← HF.out]; exact HRd.out.low HX1.out.sz, HX1.out.trans hbw⟩
        rw [← HF.out, HI.out]
        rfl
end
end Go.Proofs.YtepbamacebjopaaGreatDoor
