/- A statement whose operations come up in whatever order: what each slot holds is said per operation, what the world holds by the number of operations that have come up. Of no program. -/
import Derived.Orders
import Derived.KernelRfl
import Derived.Test.YtfkmbeppckelfaaGreatDoorQG5
import Derived.Test.YtfkmbeppckelfaaGreatDoorQG10
namespace Go.Proofs.YtfkmbeppckelfaaGreatDoor
open Go

section
variable {P : Program} {ops : Array Oper} {Q : Exit → Act → World → Prop}

theorem wpOp_val {i : Nat} {o : Oper} {a : Act} {w w' : World} {v : Value} {K : Act → World → Prop} (hi : ops[i]? = some o) (hg : o.guard = none) (hrun : (execOp a.eval o).run P w = .ok (.value v) w') (hK : K (a.put o.dst v) w') : wpOp P ops Q i K a w := by
  unfold wpOp
  simp only [hi]
  have hw : Region.wanted o (yielded ops a.tmps) = true := by simp [Region.wanted, hg]
  rw [if_pos hw]
  refine .inl ?_
  unfold Oper.wp
  rw [hrun]
  exact hK
theorem wpOp_skip {i : Nat} {o : Oper} {a : Act} {w w' : World} {K : Act → World → Prop} (hi : ops[i]? = some o) (hg : o.guard = none) (hrun : (execOp a.eval o).run P w = .ok .skip w') (hK : K (a.put o.dst undef) w') : wpOp P ops Q i K a w := by
  unfold wpOp
  simp only [hi]
  have hw : Region.wanted o (yielded ops a.tmps) = true := by simp [Region.wanted, hg]
  rw [if_pos hw]
  refine .inl ?_
  unfold Oper.wp
  rw [hrun]
  exact hK
theorem wpOp_call {i : Nat} {o : Oper} {a : Act} {w : World} {K : Act → World → Prop} {f : FuncId} {args : Array Value} {R : Ending → World → Prop} (hi : ops[i]? = some o) (hg : o.guard = none) (hrun : (execOp a.eval o).run P w = .ok (.enter f args) w) (hC : Calls P f args w R) (hR : ∀ e w', R e w' → ∃ v, e = .returned v ∧ K (a.put o.dst v) w') : wpOp P ops Q i K a w := by
  unfold wpOp
  simp only [hi]
  have hw : Region.wanted o (yielded ops a.tmps) = true := by simp [Region.wanted, hg]
  rw [if_pos hw]
  refine .inl ?_
  unfold Oper.wp
  rw [hrun]
  refine Calls.mono hC fun e w' he => ?_
  obtain ⟨v, rfl, hK⟩ := hR e w' he
  exact hK

def cntB (l : Array Bool) : Nat := (l.toList.filter id).length
theorem cnt_list : ∀ (l : List Bool) (i : Nat), l[i]? = some false → ((l.set i true).filter id).length = (l.filter id).length + 1
  | [], i, h => by simp at h
  | b :: l, 0, h => by simp at h; subst h; simp
  | b :: l, i + 1, h => by
    have := cnt_list l i (by simpa using h)
    cases b <;> simp [this]
theorem cntB_set {l : Array Bool} {i : Nat} (h : l.getD i true = false) : cntB (l.setIfInBounds i true) = cntB l + 1 := by
  unfold cntB
  rw [Array.toList_setIfInBounds]
  refine cnt_list _ _ ?_
  rw [Array.getElem?_toList]
  rcases Nat.lt_or_ge i l.size with h' | h'
  · simp [h'] at h ⊢; exact h
  · simp [Array.getElem?_eq_none h'] at h
theorem cnt_all : ∀ (l : List Bool), (l.filter id).length = l.length → ∀ (i : Nat), i < l.length → l[i]? = some true
  | [], _, i, h => by simp at h
  | b :: l, h, i, hi => by
    cases b with
    | false =>
      simp at h
      have := List.length_filter_le id l
      omega
    | true =>
      rcases i with _ | i
      · rfl
      · simpa using cnt_all l (by simpa using h) i (by simpa using hi)

/-- The slots that the statement's operations write. -/
def dstsOf (ops : Array Oper) : List Tmp := ops.toList.filterMap (·.dst)
def dstsB (ops : Array Oper) (n : Nat) : Bool := (dstsOf ops).all (fun d => Nat.blt d n) && decide (dstsOf ops).Nodup
theorem nodup_dst : ∀ {l : List Oper}, (l.filterMap (·.dst)).Nodup → ∀ {i j : Nat} {oi oj : Oper} {d : Tmp}, l[i]? = some oi → l[j]? = some oj → oi.dst = some d → oj.dst = some d → i = j
  | [], _, i, j, oi, oj, d, h, _, _, _ => by simp at h
  | o :: l, hn, 0, 0, _, _, _, _, _, _, _ => rfl
  | o :: l, hn, 0, j + 1, oi, oj, d, hi, hj, hdi, hdj => by
    simp at hi; subst hi
    rw [List.filterMap_cons_some hdi, List.nodup_cons] at hn
    exact absurd (List.mem_filterMap.2 ⟨oj, List.mem_of_getElem? (by simpa using hj), hdj⟩) hn.1
  | o :: l, hn, i + 1, 0, oi, oj, d, hi, hj, hdi, hdj => by
    simp at hj; subst hj
    rw [List.filterMap_cons_some hdj, List.nodup_cons] at hn
    exact absurd (List.mem_filterMap.2 ⟨oi, List.mem_of_getElem? (by simpa using hi), hdi⟩) hn.1
  | o :: l, hn, i + 1, j + 1, oi, oj, d, hi, hj, hdi, hdj => by
    have hn' : (l.filterMap (·.dst)).Nodup := by
      cases ho : o.dst with
      | none => rwa [List.filterMap_cons_none ho] at hn
      | some x => rw [List.filterMap_cons_some ho, List.nodup_cons] at hn; exact hn.2
    have h1 : l[i]? = some oi := by simpa using hi
    have h2 : l[j]? = some oj := by simpa using hj
    have := nodup_dst hn' h1 h2 hdi hdj
    omega

/-- What is known when some operations have come up. -/
structure Known (ops : Array Oper) (W : Nat → World → Prop) (Sh : Nat → Value → World → Prop) (a0 : Act) (listed : Array Bool) (a : Act) (w : World) : Prop where
  size : listed.size = ops.size
  world : W (cntB listed) w
  slot : ∀ i o d, ops[i]? = some o → listed.getD i false = true → o.dst = some d → Sh i (a.tmps.getD d undef) w
  old : ∀ t, t ∉ dstsOf ops → a.tmps.getD t undef = a0.tmps.getD t undef
  frame : a.tmps.size = a0.tmps.size ∧ a.defers = a0.defers

def downB (ops : Array Oper) : Bool := (List.range ops.size).all fun i => match ops[i]? with | some o => o.after.toList.all (fun e => !Region.binds .any e || Nat.blt e.on i) | none => true
theorem wpAny_known (W : Nat → World → Prop) (Sh : Nat → Value → World → Prop) (Kp : World → World → Prop) (a0 : Act) (hdst : dstsB ops a0.tmps.size = true) (hdown : downB ops = true)
    (hkeep : ∀ i v w w', Sh i v w → Kp w w' → Sh i v w')
    (hstep : ∀ i o, ops[i]? = some o → ∀ m a w, m < ops.size → W m w → (∀ t, t ∉ dstsOf ops → a.tmps.getD t undef = a0.tmps.getD t undef) →
      (∀ j oj d, ops[j]? = some oj → (∃ e ∈ o.after, Region.binds .any e = true ∧ e.on = j) → oj.dst = some d → Sh j (a.tmps.getD d undef) w) →
      wpOp P ops Q i (fun a' w' => ∃ v, a' = a.put o.dst v ∧ W (m + 1) w' ∧ Kp w w' ∧ ∀ d, o.dst = some d → Sh i v w') a w)
    (hend : ∀ listed a w, Known ops W Sh a0 listed a w → W ops.size w → (∀ i o d, ops[i]? = some o → o.dst = some d → Sh i (a.tmps.getD d undef) w) → Q .normal a w) :
    ∀ (fuel : Nat) (listed : Array Bool) (a : Act) (w : World), Known ops W Sh a0 listed a w → cntB listed + fuel = ops.size → wpAny P .any ops Q fuel listed a w := by
  simp only [dstsB, Bool.and_eq_true, decide_eq_true_eq] at hdst
  have fin : ∀ (listed : Array Bool) (a : Act) (w : World), Known ops W Sh a0 listed a w → (∀ i, i < ops.size → listed.getD i false = true) → cntB listed = ops.size → Q .normal a w := fun listed a w hI hall hc => by
    have hw := hI.world
    rw [hc] at hw
    exact hend listed a w hI hw fun i o d ho hd => hI.slot i o d ho (hall i (Array.getElem?_eq_some_iff.1 ho).1) hd
  intro fuel
  induction fuel with
  | zero =>
    intro listed a w hI hc
    have hlen : (listed.toList.filter id).length = listed.toList.length := by
      have : cntB listed = (listed.toList.filter id).length := rfl
      rw [← this, Array.length_toList, hI.size]; omega
    have hall : ∀ i, i < ops.size → listed.getD i false = true := fun i hi => by
      have h1 := cnt_all _ hlen i (by rw [Array.length_toList, hI.size]; exact hi)
      rw [Array.getElem?_toList] at h1
      simp [h1]
    refine ⟨?_, fin listed a w hI hall (by omega)⟩
    cases hr : Region.ready .any ops listed with
    | nil => rfl
    | cons i l =>
      have hi : i ∈ Region.ready .any ops listed := by rw [hr]; simp
      obtain ⟨h1, o, ho, _⟩ := mem_ready.1 hi
      have h2 := hall i (Array.getElem?_eq_some_iff.1 ho).1
      have hlt : i < listed.size := by rw [hI.size]; exact (Array.getElem?_eq_some_iff.1 ho).1
      simp [hlt] at h1 h2
      rw [h1] at h2; cases h2
  | succ fuel ih =>
    intro listed a w hI hc
    refine ⟨fun hr => ?_, fun i hi => ?_⟩
    · have hall : ∀ i, i < ops.size → listed.getD i false = true := by
        intro i
        induction i using Nat.strongRecOn with
        | _ i ihi =>
          intro hlt
          cases hl : listed.getD i false with
          | true => rfl
          | false =>
            exfalso
            have hi : i ∈ Region.ready .any ops listed := by
              refine mem_ready.2 ⟨?_, ops[i], Array.getElem?_eq_getElem hlt, fun e he hb => ?_⟩
              · have hlt' : i < listed.size := by rw [hI.size]; exact hlt
                simp [hlt'] at hl ⊢; exact hl
              · have h1 := List.all_eq_true.1 hdown i (List.mem_range.2 hlt)
                rw [Array.getElem?_eq_getElem hlt] at h1
                have h2 := List.all_eq_true.1 h1 e (by simpa using he)
                rw [hb] at h2
                have h3 : e.on < i := by simpa using h2
                exact ihi e.on h3 (by omega)
            rw [hr] at hi; cases hi
      have hcnt : cntB listed = ops.size := by
        have e0 : listed.toList.filter id = listed.toList := List.filter_eq_self.2 (fun b hb => by
          obtain ⟨i, hi, e⟩ := List.mem_iff_getElem.1 hb
          have hi' : i < listed.size := by simpa using hi
          have := hall i (by rw [← hI.size]; exact hi')
          simp [hi'] at this
          rw [← e]
          simpa using this)
        unfold cntB
        rw [e0, Array.length_toList, hI.size]
      exact fin listed a w hI hall hcnt
    · obtain ⟨h1, o, ho, hall⟩ := mem_ready.1 hi
      have hlt : i < ops.size := (Array.getElem?_eq_some_iff.1 ho).1
      refine wpOp_mono (fun a' w' h => ?_) (hstep i o ho _ a w (by omega) hI.world hI.old (fun j oj d hj ⟨e, he, hb, hon⟩ hd => hI.slot j oj d hj (by rw [← hon]; exact hall e he hb) hd))
      obtain ⟨v, rfl, hW, hKp, hSh⟩ := h
      refine ih _ _ _ ⟨by simp [hI.size], by rw [cntB_set h1]; exact hW, fun j oj d hj hl hd => ?_, fun t ht => ?_, ?_⟩ (by rw [cntB_set h1]; omega)
      · by_cases hij : i = j
        · subst hij
          have e : oj = o := Option.some.inj (hj.symm.trans ho)
          subst e
          have hdn : d < a.tmps.size := by
            rw [hI.frame.1]
            have := List.all_eq_true.1 hdst.1 d (List.mem_filterMap.2 ⟨oj, List.mem_of_getElem? (by rw [Array.getElem?_toList]; exact hj), hd⟩)
            simpa using this
          have e2 : (a.put oj.dst v).tmps.getD d undef = v := by simp [Act.put, hd, hdn]
          rw [e2]
          exact hSh d hd
        · have hlj : listed.getD j false = true := by rw [getD_set_ne false hij] at hl; exact hl
          have e2 : (a.put o.dst v).tmps.getD d undef = a.tmps.getD d undef := by
            cases hod : o.dst with
            | none => rfl
            | some x =>
              have hne : x ≠ d := fun e => hij (by subst e; exact nodup_dst hdst.2 (by rw [Array.getElem?_toList]; exact ho) (by rw [Array.getElem?_toList]; exact hj) hod hd)
              simp [Act.put, Array.getElem?_setIfInBounds_ne hne]
          rw [e2]
          exact hkeep j _ w w' (hI.slot j oj d hj hlj hd) hKp
      · have e2 : (a.put o.dst v).tmps.getD t undef = a.tmps.getD t undef := by
          cases hod : o.dst with
          | none => rfl
          | some x =>
            have hne : x ≠ t := fun e => ht (by subst e; exact List.mem_filterMap.2 ⟨o, List.mem_of_getElem? (by rw [Array.getElem?_toList]; exact ho), hod⟩)
            simp [Act.put, Array.getElem?_setIfInBounds_ne hne]
        rw [e2]; exact hI.old t ht
      · cases hod : o.dst with
        | none => exact hI.frame
        | some x => exact ⟨by simp [Act.put, hI.frame.1], hI.frame.2⟩
/-- At a region that draws its order. -/
theorem wp_region_known {id : Nat} {w : World} (hm : P.follows .mixedOrders = true) (W : Nat → World → Prop) (Sh : Nat → Value → World → Prop) (Kp : World → World → Prop) (a0 : Act) (hdst : dstsB ops a0.tmps.size = true) (hdown : downB ops = true)
    (hkeep : ∀ i v w w', Sh i v w → Kp w w' → Sh i v w')
    (hstep : ∀ i o, ops[i]? = some o → ∀ m a w, m < ops.size → W m w → (∀ t, t ∉ dstsOf ops → a.tmps.getD t undef = a0.tmps.getD t undef) →
      (∀ j oj d, ops[j]? = some oj → (∃ e ∈ o.after, Region.binds .any e = true ∧ e.on = j) → oj.dst = some d → Sh j (a.tmps.getD d undef) w) →
      wpOp P ops Q i (fun a' w' => ∃ v, a' = a.put o.dst v ∧ W (m + 1) w' ∧ Kp w w' ∧ ∀ d, o.dst = some d → Sh i v w') a w)
    (hend : ∀ listed a w, Known ops W Sh a0 listed a w → W ops.size w → (∀ i o d, ops[i]? = some o → o.dst = some d → Sh i (a.tmps.getD d undef) w) → Q .normal a w)
    (h0 : W 0 { w with drawn := w.drawn + 1 }) : (Code.region id ops true).wp P Q a0 w := by
  refine wp_region_any hm (wpAny_known W Sh Kp a0 hdst hdown hkeep hstep hend _ _ _ _ ⟨by simp, ?_, fun i o d _ hl => ?_, fun _ _ => rfl, rfl, rfl⟩ ?_)
  · have : cntB (Array.replicate ops.size false) = 0 := by
      unfold cntB
      rw [Array.toList_replicate]
      simp
    rw [this]; exact h0
  · have : (Array.replicate ops.size false).getD i false = false := by
      rcases Nat.lt_or_ge i ops.size with h | h
      · simp [h]
      · simp [h]
    rw [this] at hl; cases hl
  · unfold cntB
    rw [Array.toList_replicate]
    simp
end
end Go.Proofs.YtfkmbeppckelfaaGreatDoor
/- What the slots of a stream's statement hold, said by shape alone. -/
namespace Go.Proofs.YtfkmbeppckelfaaGreatDoor
open Go.RowKit

/-- A step of a stream's statement: block s (the stream) may turn, block b (what is made) may turn, all else stays. -/
def Two (s b : Nat) (w w' : World) : Prop :=
  w'.os = w.os ∧ w'.tape = w.tape ∧ w'.output = w.output ∧ w.heap.size ≤ w'.heap.size ∧ ∀ i, i < w.heap.size → i ≠ s → i ≠ b → w'.heap[i]? = w.heap[i]?
theorem Two.refl (s b : Nat) (w : World) : Two s b w w := ⟨rfl, rfl, rfl, Nat.le_refl _, fun _ _ _ _ => rfl⟩
theorem Two.of_gr {s b : Nat} {w w' : World} (h : Gr s w w') : Two s b w w' :=
  ⟨h.os, h.tape, h.output, h.sz, fun i hi hs _ => h.block i hi (by intro e; injection e with e; exact hs e)⟩
theorem Two.trans {s b : Nat} {w w' w'' : World} (h : Two s b w w') (k : Two s b w' w'') : Two s b w w'' :=
  ⟨k.1.trans h.1, k.2.1.trans h.2.1, k.2.2.1.trans h.2.2.1, Nat.le_trans h.2.2.2.1 k.2.2.2.1, fun i hi hs hb => (k.2.2.2.2 i (Nat.lt_of_lt_of_le hi h.2.2.2.1) hs hb).trans (h.2.2.2.2 i hi hs hb)⟩

def ShPtr (b o : Nat) (v : Value) (_w : World) : Prop := v = .pointer (some ⟨b, o, none⟩)
/-- A literal of n small strings in a block of its own. -/
def ShLitS (s b n : Nat) (v : Value) (w : World) : Prop :=
  ∃ (g : Nat) (zs : List ByteArray), v = .slice (some ⟨g, 0, none⟩) n n ∧ zs.length = n ∧ (∀ z ∈ zs, z.size ≤ 1000000) ∧ g ≠ s ∧ g ≠ b ∧ w.heap[g]? = some (.cells (zs.map Value.string).toArray 9 (0, 0))
/-- A literal of n numbers in a block of its own. -/
def ShLitI (s b n : Nat) (v : Value) (w : World) : Prop :=
  ∃ (g : Nat) (zs : List Int), v = .slice (some ⟨g, 0, none⟩) n n ∧ zs.length = n ∧ g ≠ s ∧ g ≠ b ∧ w.heap[g]? = some (.cells (zs.map (Value.int .i64)).toArray 3 (0, 0))
theorem ShLitS.keep {s b n : Nat} {v : Value} {w w' : World} (h : ShLitS s b n v w) (k : Two s b w w') : ShLitS s b n v w' := by
  obtain ⟨g, zs, h1, h2, h3, h4, h5, h6⟩ := h
  exact ⟨g, zs, h1, h2, h3, h4, h5, (k.2.2.2.2 g (Array.getElem?_eq_some_iff.1 h6).1 h4 h5).trans h6⟩
theorem ShLitI.keep {s b n : Nat} {v : Value} {w w' : World} (h : ShLitI s b n v w) (k : Two s b w w') : ShLitI s b n v w' := by
  obtain ⟨g, zs, h1, h2, h3, h4, h5⟩ := h
  exact ⟨g, zs, h1, h2, h3, h4, (k.2.2.2.2 g (Array.getElem?_eq_some_iff.1 h5).1 h3 h4).trans h5⟩

section
variable {ops : Array Oper} {Q : Exit → Act → World → Prop} {i : Nat} {o : Oper} {a : Act} {w : World} {K : Act → World → Prop}
theorem run_call {f : FuncId} {xs : Array Operand} {ts : Array TypeId} (hop : o.op = .call { callee := .value (.func f), args := xs, argTypes := ts }) (he : ∀ args w, (callFunc f args).run Tryz.prog w = .ok (.enter f args) w) : (execOp a.eval o).run Tryz.prog w = .ok (.enter f (xs.map a.eval)) w := by
  unfold execOp
  rw [hop]
  have e : a.eval (.func f) = .func (.func f) #[] #[] := rfl
  simp [resolve, e, Deferred.ofValue, invoke, he]
end
end Go.Proofs.YtfkmbeppckelfaaGreatDoor
/- A drawn statement over a stream and an event's cells: what the world holds, and each operation's step. -/
namespace Go.Proofs.YtfkmbeppckelfaaGreatDoor
open Go.RowKit

section
variable {P : Program} {ops : Array Oper} {Q : Exit → Act → World → Prop}
/-- The frame behind a drawn statement: the old one, with what was written. -/
theorem known_frame {W : Nat → World → Prop} {Sh : Nat → Value → World → Prop} {a0 a : Act} {listed : Array Bool} {w : World} (h : Known ops W Sh a0 listed a w) (_ : dstsB ops a0.tmps.size = true) :
    ∃ f : Tmp → Value, a = ⟨(dstsOf ops).foldl (fun t d => t.setIfInBounds d (f d)) a0.tmps, a0.defers⟩ := by
  refine ⟨fun d => a.tmps.getD d undef, ?_⟩
  obtain ⟨ts, df⟩ := a
  have hs := h.frame.1
  have hd := h.frame.2
  simp only at hs hd
  subst hd
  congr 1
  have gen : ∀ (l : List Tmp) (t0 : Array Value), t0.size = ts.size → (∀ t, t ∉ l → ts.getD t undef = t0.getD t undef) → ts = l.foldl (fun t d => t.setIfInBounds d (ts.getD d undef)) t0 := by
    intro l
    induction l with
    | nil =>
      intro t0 h1 h2
      apply Array.ext
      · exact h1.symm
      · intro i hi hj
        have := h2 i (by simp)
        have hj' : i < t0.size := by simpa using hj
        simp [Array.getD, hi, hj'] at this
        exact this
    | cons d l ih =>
      intro t0 h1 h2
      refine ih _ (by simpa using h1) (fun t ht => ?_)
      by_cases e : t = d
      · subst e
        by_cases hb : t < t0.size
        · simp [Array.getD, hb]
        · have hb2 : ¬ t < ts.size := by rw [← h1]; exact hb
          simp [Array.getD, hb, hb2]
      · rw [h2 t (by simp [e, ht])]
        simp [Array.getElem?_setIfInBounds_ne (fun e2 : d = t => e e2.symm)]
  exact gen _ _ hs.symm (fun t ht => h.old t ht)
end

/-- What is known of an event's cells from off on in block b. -/
structure EvBox (b off : Nat) (B : World → Prop) : Prop where
  get : ∀ w, B w → ∃ x : Ev, okEv x ∧ ∀ j u, (encEvt x)[j]? = some u → w.cell? ⟨b, off + j, none⟩ = some u
  frz : ∀ w j, B w → w.frozen? ⟨b, j, none⟩ = false
  lt : ∀ w, B w → b < w.heap.size
  setS : ∀ w j (t : ByteArray), B w → (j = 0 ∨ j = 4 ∨ j = 5 ∨ j = 6 ∨ j = 9) → t.size ≤ 1000 → B (w.setCell ⟨b, off + j, none⟩ (.string t))
  setI : ∀ w j (z : Int), B w → (j = 1 ∨ j = 2 ∨ j = 3 ∨ j = 7 ∨ j = 8 ∨ j = 10) → -1000000000000000 ≤ z ∧ z ≤ 1000000000000000 → B (w.setCell ⟨b, off + j, none⟩ (.int .i64 z))
  same : ∀ w w', B w → w'.heap[b]? = w.heap[b]? → w.heap.size ≤ w'.heap.size → B w'
def ShT (v : Value) (_w : World) : Prop := ∃ t : ByteArray, v = .string t ∧ t.size ≤ 1000
def ShZ (v : Value) (_w : World) : Prop := ∃ z : Int, v = .int .i64 z ∧ -1000000000000000 ≤ z ∧ z ≤ 1000000000000000
def ShA (v : Value) (_w : World) : Prop := ∃ z : Int, v = .int .i64 z ∧ -10000000000000 ≤ z ∧ z ≤ 10000000000000
/-- A literal of n small strings in a block of its own. -/
def ShLT (s b n : Nat) (v : Value) (w : World) : Prop :=
  ∃ (g : Nat) (zs : List ByteArray), v = .slice (some ⟨g, 0, none⟩) n n ∧ zs.length = n ∧ (∀ z ∈ zs, z.size ≤ 1000) ∧ g ≠ s ∧ g ≠ b ∧ w.heap[g]? = some (.cells (zs.map Value.string).toArray 9 (0, 0))
def ShLZ (s b n : Nat) (v : Value) (w : World) : Prop :=
  ∃ (g : Nat) (zs : List Int), v = .slice (some ⟨g, 0, none⟩) n n ∧ zs.length = n ∧ (∀ z ∈ zs, -1000000000000000 ≤ z ∧ z ≤ 1000000000000000) ∧ g ≠ s ∧ g ≠ b ∧ w.heap[g]? = some (.cells (zs.map (Value.int .i64)).toArray 3 (0, 0))
theorem ShLT.keep {s b n : Nat} {v : Value} {w w' : World} (h : ShLT s b n v w) (k : Two s b w w') : ShLT s b n v w' := by
  obtain ⟨g, zs, h1, h2, h3, h4, h5, h6⟩ := h
  exact ⟨g, zs, h1, h2, h3, h4, h5, (k.2.2.2.2 g (Array.getElem?_eq_some_iff.1 h6).1 h4 h5).trans h6⟩
theorem ShLZ.keep {s b n : Nat} {v : Value} {w w' : World} (h : ShLZ s b n v w) (k : Two s b w w') : ShLZ s b n v w' := by
  obtain ⟨g, zs, h1, h2, h3, h4, h5, h6⟩ := h
  exact ⟨g, zs, h1, h2, h3, h4, h5, (k.2.2.2.2 g (Array.getElem?_eq_some_iff.1 h6).1 h4 h5).trans h6⟩
/-- What the world holds when m operations have come up. -/
structure TyW (s b k : Nat) (B : World → Prop) (w0 : World) (m : Nat) (w : World) : Prop where
  two : Two s b w0 w
  str : Str w s (k + 2 * m)
  box : B w
theorem Two.alloc {s b : Nat} (w : World) (o : Obj) : Two s b w (w.alloc o) := Two.of_gr ((Gr.refl s w).alloc o)
theorem Two.set {s b j : Nat} {w : World} (u : Value) : Two s b w (w.setCell ⟨b, j, none⟩ u) := by
  have h := (Gr.refl b w).setS (p := ⟨b, j, none⟩) (.inl rfl) u
  exact ⟨h.os, h.tape, h.output, h.sz, fun i hi _ hb => h.block i hi (by intro e; injection e with e; exact hb e)⟩
section
variable {s b off k m : Nat} {B : World → Prop} {w0 w : World}
theorem TyW.pass (h : TyW s b k B w0 m w) : TyW s b k B w0 (m + 1) w := ⟨h.two, h.str.more (by omega), h.box⟩
theorem TyW.alloc (h : TyW s b k B w0 m w) (E : EvBox b off B) (o : Obj) : TyW s b k B w0 (m + 1) (w.alloc o) :=
  ⟨h.two.trans (Two.alloc w o), (h.str.nx ((Nx.refl w).alloc o)).more (by omega), E.same _ _ h.box (((Nx.refl w).alloc o).block b (E.lt _ h.box)) ((Nx.refl w).alloc o).sz⟩
theorem TyW.gr (h : TyW s b k B w0 m w) (E : EvBox b off B) (hb : b ≠ s) {w' : World} (hg : Gr s w w') (hS : Str w' s (k + 2 * (m + 1))) : TyW s b k B w0 (m + 1) w' :=
  ⟨h.two.trans (Two.of_gr hg), hS, E.same _ _ h.box (hg.block b (E.lt _ h.box) (by intro e; injection e with e; exact hb e)) hg.sz⟩
theorem TyW.setS (h : TyW s b k B w0 m w) (E : EvBox b off B) (hb : s < b) {j : Nat} {t : ByteArray} (hj : j = 0 ∨ j = 4 ∨ j = 5 ∨ j = 6 ∨ j = 9) (ht : t.size ≤ 1000) : TyW s b k B w0 (m + 1) (w.setCell ⟨b, off + j, none⟩ (.string t)) :=
  ⟨h.two.trans (Two.set _), (h.str.row (row := some b) ((Gr.refl b w).setS (p := ⟨b, off + j, none⟩) (.inl rfl) _) (fun j h => by injection h with h; omega)).more (by omega), E.setS _ _ _ h.box hj ht⟩
theorem TyW.setI (h : TyW s b k B w0 m w) (E : EvBox b off B) (hb : s < b) {j : Nat} {z : Int} (hj : j = 1 ∨ j = 2 ∨ j = 3 ∨ j = 7 ∨ j = 8 ∨ j = 10) (hz : -1000000000000000 ≤ z ∧ z ≤ 1000000000000000) : TyW s b k B w0 (m + 1) (w.setCell ⟨b, off + j, none⟩ (.int .i64 z)) :=
  ⟨h.two.trans (Two.set _), (h.str.row (row := some b) ((Gr.refl b w).setS (p := ⟨b, off + j, none⟩) (.inl rfl) _) (fun j h => by injection h with h; omega)).more (by omega), E.setI _ _ _ h.box hj hz⟩
end
section
variable {ops : Array Oper} {Q : Exit → Act → World → Prop} {i : Nat} {o : Oper} {a : Act} {w : World} {K : Act → World → Prop}
theorem ty_some (hi : ops[i]? = some o) (hg : o.guard = none) {x y : Operand} {ts : Array TypeId} {s b n k : Nat} (hop : o.op = .call { callee := .value (.func 40), args := #[x, y], argTypes := ts })
    (hx : ShPtr s 0 (a.eval x) w) (hy : ShLT s b n (a.eval y) w) (hn : 0 < n ∧ n < 1000) (hS : Str w s k) (hk : k < 1000000)
    (hK : ∀ (t : ByteArray) (w' : World), t.size ≤ 1000 → Gr s w w' → Str w' s (k + 1) → K (a.put o.dst (.string t)) w') : wpOp Tryz.prog ops Q i K a w := by
  obtain ⟨g, zs, h1, h2, h3, h4, h5, h6⟩ := hy
  have hc := w_Some g zs _ s k w hS hk h6 h4 (by simp) (by intro e; rw [e] at h2; simp at h2; omega) (by omega)
  rw [h2] at hc
  have hr := run_call (a := a) (w := w) hop (enters_of Tryz.func40 (by kernel_rfl) rfl)
  unfold ShPtr at hx
  have e : (#[x, y] : Array Operand).map a.eval = #[.pointer (some ⟨s, 0, none⟩), .slice (some ⟨g, 0, none⟩) n n] := by simp [hx, h1]
  rw [e] at hr
  refine wpOp_call hi hg hr hc ?_
  rintro e w' ⟨t, ht, rfl, hgr, hS'⟩
  exact ⟨_, rfl, hK t w' (h3 t ht) hgr hS'⟩
theorem ty_pick (hi : ops[i]? = some o) (hg : o.guard = none) {x y : Operand} {ts : Array TypeId} {s b n k : Nat} (hop : o.op = .call { callee := .value (.func 15), args := #[x, y], argTypes := ts })
    (hx : ShPtr s 0 (a.eval x) w) (hy : ShLZ s b n (a.eval y) w) (hn : 0 < n ∧ n < 1000) (hS : Str w s k) (hk : k < 1000000)
    (hK : ∀ (z : Int) (w' : World), (-1000000000000000 ≤ z ∧ z ≤ 1000000000000000) → Gr s w w' → Str w' s (k + 1) → K (a.put o.dst (.int .i64 z)) w') : wpOp Tryz.prog ops Q i K a w := by
  obtain ⟨g, zs, h1, h2, h3, h4, h5, h6⟩ := hy
  have hc := w_PickI g zs _ s k w hS hk h6 h4 (by simp) (by intro e; rw [e] at h2; simp at h2; omega) (by omega)
  rw [h2] at hc
  have hr := run_call (a := a) (w := w) hop (enters_of Tryz.func15 (by kernel_rfl) rfl)
  unfold ShPtr at hx
  have e : (#[x, y] : Array Operand).map a.eval = #[.pointer (some ⟨s, 0, none⟩), .slice (some ⟨g, 0, none⟩) n n] := by simp [hx, h1]
  rw [e] at hr
  refine wpOp_call hi hg hr hc ?_
  rintro e w' ⟨t, ht, rfl, hgr, hS'⟩
  exact ⟨_, rfl, hK t w' (h3 t ht) hgr hS'⟩
end
end Go.Proofs.YtfkmbeppckelfaaGreatDoor
