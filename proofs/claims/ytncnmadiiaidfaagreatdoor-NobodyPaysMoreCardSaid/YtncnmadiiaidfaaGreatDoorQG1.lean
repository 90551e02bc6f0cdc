/- Plain: trips in the order in which they began; the one list of them; what each costs; what each pays. -/
import Derived.Test.YtncnmadiiaidfaaGreatDoorQG0
import Derived.Sort.Statements
import Derived.Orders
import Derived.KernelRfl
import Derived.WalkKit
import Derived.WalkSpells
import Derived.WalkLawsBesides
import Derived.IntWalk
import Derived.Test.YtncnmadiiaidfaaGreatDoorRows
import Derived.Deep.QuietTactic
import Derived.BigQuiet
import Derived.Outline
import Derived.Laws.AppendOwn
import Derived.Sort.Grow
import Derived.Deep.RegionHeld3
import Derived.StillTailTactics
namespace Go.Proofs.YtncnmadiiaidfaaGreatDoor
open Go.Sort

/-- One trip began before another. -/
def lexJ (a b : Jour) : Prop := a.from_ < b.from_ ∨ (a.from_ = b.from_ ∧ ltS a.ride b.ride)
theorem lexJ_irrefl (a : Jour) : ¬ lexJ a a := fun h => by
  rcases h with h | ⟨_, h⟩
  · omega
  · exact ltS_irrefl _ h
theorem lexJ_trans {a b c : Jour} (h : lexJ a b) (k : lexJ b c) : lexJ a c := by
  rcases h with h | ⟨h1, h2⟩ <;> rcases k with k | ⟨k1, k2⟩
  · exact .inl (by omega)
  · exact .inl (by omega)
  · exact .inl (by omega)
  · exact .inr ⟨by omega, ltS_trans h2 k2⟩
/-- The one list in which they began. -/
def IsOrd (l O : List Jour) : Prop := O.Perm l ∧ O.Pairwise lexJ
theorem ord_uniq : ∀ {a b : List Jour}, a.Perm b → a.Pairwise lexJ → b.Pairwise lexJ → a = b
  | [], b, h, _, _ => (List.nil_perm.1 h).symm
  | x :: a, [], h, _, _ => by have := h.length_eq; simp at this
  | x :: a, y :: b, h, h1, h2 => by
    rw [List.pairwise_cons] at h1 h2
    have e : x = y := by
      have hx : x ∈ y :: b := h.subset (List.mem_cons_self ..)
      have hy : y ∈ x :: a := h.symm.subset (List.mem_cons_self ..)
      rcases List.mem_cons.1 hx with hx | hx
      · exact hx
      · rcases List.mem_cons.1 hy with hy | hy
        · exact hy.symm
        · exact absurd (lexJ_trans (h1.1 y hy) (h2.1 x hx)) (lexJ_irrefl _)
    subst e
    rw [ord_uniq (List.perm_cons x |>.1 h) h1.2 h2.2]
def SortR (l : List Jour) : Prop := l.Pairwise (fun a b => ltS a.ride b.ride)
theorem afterJ_lt {q t : Jour} (h : afterJ (some q) t = false) : ltS q.ride t.ride := strLe_lt h
theorem jourE_after_no {q : Option Jour} {t : Jour} (h : jourE q t = 0) : afterJ q t = false := by
  unfold jourE at h
  cases hk : (keyB t.ride && keyB t.rider) with
  | false => rw [hk] at h; simp at h
  | true =>
    rw [hk, if_pos rfl] at h
    cases ha : afterJ q t with
    | false => rfl
    | true => rw [ha] at h; simp at h
theorem chkJ_sorted : ∀ (q : Option Jour) (l : List Jour), chk jourE q l = 0 → SortR l ∧ ∀ y, q = some y → ∀ t ∈ l, ltS y.ride t.ride
  | _, [], _ => ⟨List.Pairwise.nil, fun _ _ t ht => by cases ht⟩
  | q, x :: l, h => by
    unfold chk at h
    by_cases hx : jourE q x = 0
    · rw [if_pos hx] at h
      obtain ⟨h1, h2⟩ := chkJ_sorted (some x) l h
      have ha := jourE_after_no hx
      refine ⟨List.pairwise_cons.2 ⟨fun t ht => h2 x rfl t ht, h1⟩, fun y hy t ht => ?_⟩
      subst hy
      have h3 := afterJ_lt ha
      rcases List.mem_cons.1 ht with rfl | ht
      · exact h3
      · exact ltS_trans h3 (h2 x rfl t ht)
    · rw [if_neg hx] at h; exact absurd h hx
theorem joursF_sorted {l : List Jour} (h : joursF l = 0) : SortR l := by
  unfold joursF at h
  split at h
  · exact absurd h (by decide)
  · exact (chkJ_sorted none l h).1
/-- What a trip of this name pays. -/
def costOf (P : List Paid) (r : ByteArray) : Int := ((P.find? (fun d => decide (d.t.ride = r))).map Paid.cents).getD 0
theorem payAll_t (zs : List Zone) (p : Price) (xs : List Pass) : ∀ (l : List Jour) (done : List Paid), (payAll zs p xs done l).map Paid.t = done.map Paid.t ++ l
  | [], done => by simp [payAll]
  | t :: l, done => by
    show (payAll zs p xs (done ++ [payOne zs p xs done t]) l).map Paid.t = _
    rw [payAll_t zs p xs l]
    simp [payOne]
/-- In a list of distinct names each one is found. -/
theorem costOf_at {P : List Paid} (h : (P.map Paid.t).Pairwise (fun a b => a.ride ≠ b.ride)) {d : Paid} (hd : d ∈ P) : costOf P d.t.ride = d.cents := by
  induction P with
  | nil => cases hd
  | cons x P ih =>
    rw [List.map_cons, List.pairwise_cons] at h
    unfold costOf
    rw [List.find?_cons]
    rcases List.mem_cons.1 hd with rfl | hd'
    · simp
    · have hne : x.t.ride ≠ d.t.ride := h.1 d.t (List.mem_map_of_mem hd')
      rw [show decide (x.t.ride = d.t.ride) = false from decide_eq_false hne]
      exact ih h.2 hd'
theorem sortR_ne {l : List Jour} (h : SortR l) : l.Pairwise (fun a b => a.ride ≠ b.ride) := h.imp (fun hab e => by rw [e] at hab; exact ltS_irrefl _ hab)
theorem ord_ne {l O : List Jour} (h : IsOrd l O) (hs : SortR l) : O.Pairwise (fun a b => a.ride ≠ b.ride) :=
  (List.Perm.pairwise_iff (fun {_ _} h => fun e => h e.symm) h.1).2 (sortR_ne hs)
/-- What the trips cost, in the list's order. -/
def costL (zs : List Zone) (p : Price) (xs : List Pass) (O l : List Jour) : List Int := l.map (fun t => costOf (payAll zs p xs [] O) t.ride)
end Go.Proofs.YtncnmadiiaidfaaGreatDoor
/- Plain: the costs as they are filled in, one trip after the other. -/
namespace Go.Proofs.YtncnmadiiaidfaaGreatDoor

/-- What was paid so far with a pass on a day. -/
def daySp (done : List Paid) (k : Int × Int) : Int := if 0 ≤ k.1 then spentD done k.1.toNat k.2 else 0
theorem daySp_at (done : List Paid) (k : Nat) (d : Int) : daySp done ((k : Int), d) = spentD done k d := by unfold daySp; rw [if_pos (by simp)]; simp
theorem daySp_nil : daySp [] = fun _ => 0 := by funext k; unfold daySp spentD; simp
theorem daySp_some {done : List Paid} {d : Paid} {k : Nat} (h : d.by_ = some k) : daySp (done ++ [d]) = fun k' => if k' = ((k : Int), dayJ d.t) then daySp done ((k : Int), dayJ d.t) + d.cents else daySp done k' := by
  funext k'
  obtain ⟨a, b⟩ := k'
  by_cases e : (a, b) = ((k : Int), dayJ d.t)
  · rw [if_pos e, e, daySp_at, daySp_at, spentD_snoc, if_pos ⟨h, rfl⟩]
  · rw [if_neg e]
    unfold daySp
    by_cases h0 : 0 ≤ a
    · rw [if_pos h0, if_pos h0, spentD_snoc, if_neg, Int.add_zero]
      rintro ⟨h1, h2⟩
      rw [h] at h1
      injection h1 with h1
      simp only at h1 h2
      exact e (by rw [h2, h1]; congr 1; omega)
    · rw [if_neg h0, if_neg h0]
theorem daySp_none {done : List Paid} {d : Paid} (h : d.by_ = none) : daySp (done ++ [d]) = daySp done := by
  funext k'
  unfold daySp
  split
  · rw [spentD_snoc, if_neg, Int.add_zero]
    rw [h]
    rintro ⟨h1, _⟩
    cases h1
  · rfl
theorem payAll_app (zs : List Zone) (p : Price) (xs : List Pass) : ∀ (a b : List Jour) (done : List Paid), payAll zs p xs done (a ++ b) = payAll zs p xs (payAll zs p xs done a) b
  | [], _, _ => rfl
  | _ :: a, b, _ => payAll_app zs p xs a b _
theorem payAll_pre (zs : List Zone) (p : Price) (xs : List Pass) : ∀ (l : List Jour) (done : List Paid), ∃ r, payAll zs p xs done l = done ++ r
  | [], done => ⟨[], by simp [payAll]⟩
  | t :: l, done => by
    obtain ⟨r, hr⟩ := payAll_pre zs p xs l (done ++ [payOne zs p xs done t])
    exact ⟨[payOne zs p xs done t] ++ r, by show payAll zs p xs (done ++ [payOne zs p xs done t]) l = _; rw [hr, List.append_assoc]⟩
theorem payAll_step (zs : List Zone) (p : Price) (xs : List Pass) (O : List Jour) (j : Nat) (hj : j < O.length) : payAll zs p xs [] (O.take (j + 1)) = payAll zs p xs [] (O.take j) ++ [payOne zs p xs (payAll zs p xs [] (O.take j)) O[j]] := by
  rw [List.take_succ_eq_append_getElem hj, payAll_snoc]
theorem payAll_mem (zs : List Zone) (p : Price) (xs : List Pass) (O : List Jour) (j : Nat) (hj : j < O.length) : payOne zs p xs (payAll zs p xs [] (O.take j)) O[j] ∈ payAll zs p xs [] O := by
  have h1 : O = O.take (j + 1) ++ O.drop (j + 1) := (List.take_append_drop _ _).symm
  have h2 : payAll zs p xs [] O = payAll zs p xs (payAll zs p xs [] (O.take (j + 1))) (O.drop (j + 1)) := by
    conv => lhs; rw [h1]
    rw [payAll_app]
  obtain ⟨r, hr⟩ := payAll_pre zs p xs (O.drop (j + 1)) (payAll zs p xs [] (O.take (j + 1)))
  rw [h2, hr, payAll_step zs p xs O j hj]
  simp
/-- The costs, filled in for the first j of the order. -/
def outF (P : List Paid) (l : List Jour) (ys : List Nat) (j : Nat) : List Int := (List.range l.length).map (fun i => if i ∈ ys.take j then costOf P (l.getD i default).ride else 0)
theorem outF_len (P : List Paid) (l : List Jour) (ys : List Nat) (j : Nat) : (outF P l ys j).length = l.length := by simp [outF]
theorem outF_zero (P : List Paid) (l : List Jour) (ys : List Nat) : outF P l ys 0 = List.replicate l.length 0 := by
  apply List.ext_getElem
  · simp [outF]
  · intro i h1 h2; simp [outF]
theorem outF_set (P : List Paid) (l : List Jour) (ys : List Nat) (j : Nat) (hj : j < ys.length) (v : Int) (hv : v = costOf P (l.getD ys[j] default).ride) : (outF P l ys j).set ys[j] v = outF P l ys (j + 1) := by
  apply List.ext_getElem
  · simp [outF]
  · intro i h1 h2
    rw [List.getElem_set]
    simp only [outF, List.getElem_map, List.getElem_range]
    rw [List.take_succ_eq_append_getElem hj]
    by_cases e : ys[j] = i
    · rw [if_pos e, if_pos (List.mem_append_right _ (by rw [e]; exact List.mem_singleton.2 rfl)), hv, e]
    · rw [if_neg e]
      by_cases hm : i ∈ ys.take j
      · rw [if_pos hm, if_pos (List.mem_append_left _ hm)]
      · rw [if_neg hm, if_neg]
        intro hc
        rcases List.mem_append.1 hc with hc | hc
        · exact hm hc
        · exact e (List.mem_singleton.1 hc).symm
theorem outF_all (zs : List Zone) (p : Price) (xs : List Pass) (O l : List Jour) (ys : List Nat) (hp : ys.Perm (List.range l.length)) (j : Nat) (hj : ys.length ≤ j) : outF (payAll zs p xs [] O) l ys j = costL zs p xs O l := by
  apply List.ext_getElem
  · simp [outF, costL]
  · intro i h1 h2
    have hi : i < l.length := by simpa [outF] using h1
    simp only [outF, costL, List.getElem_map, List.getElem_range]
    rw [List.take_of_length_le hj, if_pos (hp.mem_iff.2 (List.mem_range.2 hi))]
    simp [List.getD, hi]
/-- The trips in the order of their places. -/
def ordOf (l : List Jour) (ys : List Nat) : List Jour := ys.map (fun i => l.getD i default)
theorem ordOf_is {l : List Jour} {ys : List Nat} (hp : ys.Perm (List.range l.length)) (hs : ys.Pairwise (fun a b => lexJ (l.getD a default) (l.getD b default))) : IsOrd l (ordOf l ys) := by
  constructor
  · have h1 : (ordOf l ys).Perm ((List.range l.length).map (fun i => l.getD i default)) := hp.map _
    have h2 : (List.range l.length).map (fun i => l.getD i default) = l := by
      apply List.ext_getElem
      · simp
      · intro i h1 h2
        simp [List.getD, h2]
    rw [h2] at h1
    exact h1
  · unfold ordOf
    rw [List.pairwise_map]; exact hs
theorem ordOf_at {l : List Jour} {ys : List Nat} {j : Nat} (hj : j < ys.length) : (ordOf l ys)[j]'(by simpa [ordOf] using hj) = l.getD ys[j] default := by simp [ordOf]
/-- What the j-th of the order pays stands in the list of all. -/
theorem cost_step (zs : List Zone) (p : Price) (xs : List Pass) {l O : List Jour} (hO : IsOrd l O) (hs : SortR l) (j : Nat) (hj : j < O.length) : (payOne zs p xs (payAll zs p xs [] (O.take j)) O[j]).cents = costOf (payAll zs p xs [] O) O[j].ride := by
  have h1 := payAll_mem zs p xs O j hj
  have h2 : ((payAll zs p xs [] O).map Paid.t).Pairwise (fun a b => a.ride ≠ b.ride) := by
    rw [payAll_t]; simpa using ord_ne hO hs
  exact (costOf_at h2 h1).symm
end Go.Proofs.YtncnmadiiaidfaaGreatDoor
/- A statement whose operations come up in whatever order: what each slot holds is said per operation, what the world holds by the number of operations that have come up. Of no program. -/
namespace Go.Proofs.YtncnmadiiaidfaaGreatDoor
open Go

section
variable {P : Program} {ops : Array Oper} {Q : Exit → Act → World → Prop}

theorem wpOp_val {i : Nat} {o : Oper} {a : Act} {w w' : World} {v : Value} {K : Act → World → Prop} (hi : ops[i]? = some o) (hg : o.guard = none) (hrun : (execOp a.eval o).run P w = .ok (.value v) w') (hK : K (a.put o.dst v) w') : wpOp P ops Q i K a w := by
  unfold wpOp
  simp only [hi]
  have hw : Region.wanted o (yielded ops a.tmps) = true := by simp [Region.wanted, hg]
  rw [if_pos hw]
  refine .inl ?_
  unfold Oper.wp
  rw [hrun]
  exact hK
theorem wpOp_skip {i : Nat} {o : Oper} {a : Act} {w w' : World} {K : Act → World → Prop} (hi : ops[i]? = some o) (hg : o.guard = none) (hrun : (execOp a.eval o).run P w = .ok .skip w') (hK : K (a.put o.dst undef) w') : wpOp P ops Q i K a w := by
  unfold wpOp
  simp only [hi]
  have hw : Region.wanted o (yielded ops a.tmps) = true := by simp [Region.wanted, hg]
  rw [if_pos hw]
  refine .inl ?_
  unfold Oper.wp
  rw [hrun]
  exact hK
theorem wpOp_call {i : Nat} {o : Oper} {a : Act} {w : World} {K : Act → World → Prop} {f : FuncId} {args : Array Value} {R : Ending → World → Prop} (hi : ops[i]? = some o) (hg : o.guard = none) (hrun : (execOp a.eval o).run P w = .ok (.enter f args) w) (hC : Calls P f args w R) (hR : ∀ e w', R e w' → ∃ v, e = .returned v ∧ K (a.put o.dst v) w') : wpOp P ops Q i K a w := by
  unfold wpOp
  simp only [hi]
  have hw : Region.wanted o (yielded ops a.tmps) = true := by simp [Region.wanted, hg]
  rw [if_pos hw]
  refine .inl ?_
  unfold Oper.wp
  rw [hrun]
  refine Calls.mono hC fun e w' he => ?_
  obtain ⟨v, rfl, hK⟩ := hR e w' he
  exact hK

def cntB (l : Array Bool) : Nat := (l.toList.filter id).length
theorem cnt_list : ∀ (l : List Bool) (i : Nat), l[i]? = some false → ((l.set i true).filter id).length = (l.filter id).length + 1
  | [], i, h => by simp at h
  | b :: l, 0, h => by simp at h; subst h; simp
  | b :: l, i + 1, h => by
    have := cnt_list l i (by simpa using h)
    cases b <;> simp [this]
theorem cntB_set {l : Array Bool} {i : Nat} (h : l.getD i true = false) : cntB (l.setIfInBounds i true) = cntB l + 1 := by
  unfold cntB
  rw [Array.toList_setIfInBounds]
  refine cnt_list _ _ ?_
  rw [Array.getElem?_toList]
  rcases Nat.lt_or_ge i l.size with h' | h'
  · simp [h'] at h ⊢; exact h
  · simp [Array.getElem?_eq_none h'] at h
theorem cnt_all : ∀ (l : List Bool), (l.filter id).length = l.length → ∀ (i : Nat), i < l.length → l[i]? = some true
  | [], _, i, h => by simp at h
  | b :: l, h, i, hi => by
    cases b with
    | false =>
      simp at h
      have := List.length_filter_le id l
      omega
    | true =>
      rcases i with _ | i
      · rfl
      · simpa using cnt_all l (by simpa using h) i (by simpa using hi)

/-- The slots that the statement's operations write. -/
def dstsOf (ops : Array Oper) : List Tmp := ops.toList.filterMap (·.dst)
def dstsB (ops : Array Oper) (n : Nat) : Bool := (dstsOf ops).all (fun d => Nat.blt d n) && decide (dstsOf ops).Nodup
theorem nodup_dst : ∀ {l : List Oper}, (l.filterMap (·.dst)).Nodup → ∀ {i j : Nat} {oi oj : Oper} {d : Tmp}, l[i]? = some oi → l[j]? = some oj → oi.dst = some d → oj.dst = some d → i = j
  | [], _, i, j, oi, oj, d, h, _, _, _ => by simp at h
  | o :: l, hn, 0, 0, _, _, _, _, _, _, _ => rfl
  | o :: l, hn, 0, j + 1, oi, oj, d, hi, hj, hdi, hdj => by
    simp at hi; subst hi
    rw [List.filterMap_cons_some hdi, List.nodup_cons] at hn
    exact absurd (List.mem_filterMap.2 ⟨oj, List.mem_of_getElem? (by simpa using hj), hdj⟩) hn.1
  | o :: l, hn, i + 1, 0, oi, oj, d, hi, hj, hdi, hdj => by
    simp at hj; subst hj
    rw [List.filterMap_cons_some hdj, List.nodup_cons] at hn
    exact absurd (List.mem_filterMap.2 ⟨oi, List.mem_of_getElem? (by simpa using hi), hdi⟩) hn.1
  | o :: l, hn, i + 1, j + 1, oi, oj, d, hi, hj, hdi, hdj => by
    have hn' : (l.filterMap (·.dst)).Nodup := by
      cases ho : o.dst with
      | none => rwa [List.filterMap_cons_none ho] at hn
      | some x => rw [List.filterMap_cons_some ho, List.nodup_cons] at hn; exact hn.2
    have h1 : l[i]? = some oi := by simpa using hi
    have h2 : l[j]? = some oj := by simpa using hj
    have := nodup_dst hn' h1 h2 hdi hdj
    omega

/-- What is known when some operations have come up. -/
structure Known (ops : Array Oper) (W : Nat → World → Prop) (Sh : Nat → Value → World → Prop) (a0 : Act) (listed : Array Bool) (a : Act) (w : World) : Prop where
  size : listed.size = ops.size
  world : W (cntB listed) w
  slot : ∀ i o d, ops[i]? = some o → listed.getD i false = true → o.dst = some d → Sh i (a.tmps.getD d undef) w
  old : ∀ t, t ∉ dstsOf ops → a.tmps.getD t undef = a0.tmps.getD t undef
  frame : a.tmps.size = a0.tmps.size ∧ a.defers = a0.defers

def downB (ops : Array Oper) : Bool := (List.range ops.size).all fun i => match ops[i]? with | some o => o.after.toList.all (fun e => !Region.binds .any e || Nat.blt e.on i) | none => true
theorem wpAny_known (W : Nat → World → Prop) (Sh : Nat → Value → World → Prop) (Kp : World → World → Prop) (a0 : Act) (hdst : dstsB ops a0.tmps.size = true) (hdown : downB ops = true)
    (hkeep : ∀ i v w w', Sh i v w → Kp w w' → Sh i v w')
    (hstep : ∀ i o, ops[i]? = some o → ∀ m a w, m < ops.size → W m w → (∀ t, t ∉ dstsOf ops → a.tmps.getD t undef = a0.tmps.getD t undef) →
      (∀ j oj d, ops[j]? = some oj → (∃ e ∈ o.after, Region.binds .any e = true ∧ e.on = j) → oj.dst = some d → Sh j (a.tmps.getD d undef) w) →
      wpOp P ops Q i (fun a' w' => ∃ v, a' = a.put o.dst v ∧ W (m + 1) w' ∧ Kp w w' ∧ ∀ d, o.dst = some d → Sh i v w') a w)
    (hend : ∀ listed a w, Known ops W Sh a0 listed a w → W ops.size w → (∀ i o d, ops[i]? = some o → o.dst = some d → Sh i (a.tmps.getD d undef) w) → Q .normal a w) :
    ∀ (fuel : Nat) (listed : Array Bool) (a : Act) (w : World), Known ops W Sh a0 listed a w → cntB listed + fuel = ops.size → wpAny P .any ops Q fuel listed a w := by
  simp only [dstsB, Bool.and_eq_true, decide_eq_true_eq] at hdst
  have fin : ∀ (listed : Array Bool) (a : Act) (w : World), Known ops W Sh a0 listed a w → (∀ i, i < ops.size → listed.getD i false = true) → cntB listed = ops.size → Q .normal a w := fun listed a w hI hall hc => by
    have hw := hI.world
    rw [hc] at hw
    exact hend listed a w hI hw fun i o d ho hd => hI.slot i o d ho (hall i (Array.getElem?_eq_some_iff.1 ho).1) hd
  intro fuel
  induction fuel with
  | zero =>
    intro listed a w hI hc
    have hlen : (listed.toList.filter id).length = listed.toList.length := by
      have : cntB listed = (listed.toList.filter id).length := rfl
      rw [← this, Array.length_toList, hI.size]; omega
    have hall : ∀ i, i < ops.size → listed.getD i false = true := fun i hi => by
      have h1 := cnt_all _ hlen i (by rw [Array.length_toList, hI.size]; exact hi)
      rw [Array.getElem?_toList] at h1
      simp [h1]
    refine ⟨?_, fin listed a w hI hall (by omega)⟩
    cases hr : Region.ready .any ops listed with
    | nil => rfl
    | cons i l =>
      have hi : i ∈ Region.ready .any ops listed := by rw [hr]; simp
      obtain ⟨h1, o, ho, _⟩ := mem_ready.1 hi
      have h2 := hall i (Array.getElem?_eq_some_iff.1 ho).1
      have hlt : i < listed.size := by rw [hI.size]; exact (Array.getElem?_eq_some_iff.1 ho).1
      simp [hlt] at h1 h2
      rw [h1] at h2; cases h2
  | succ fuel ih =>
    intro listed a w hI hc
    refine ⟨fun hr => ?_, fun i hi => ?_⟩
    · have hall : ∀ i, i < ops.size → listed.getD i false = true := by
        intro i
        induction i using Nat.strongRecOn with
        | _ i ihi =>
          intro hlt
          cases hl : listed.getD i false with
          | true => rfl
          | false =>
            exfalso
            have hi : i ∈ Region.ready .any ops listed := by
              refine mem_ready.2 ⟨?_, ops[i], Array.getElem?_eq_getElem hlt, fun e he hb => ?_⟩
              · have hlt' : i < listed.size := by rw [hI.size]; exact hlt
                simp [hlt'] at hl ⊢; exact hl
              · have h1 := List.all_eq_true.1 hdown i (List.mem_range.2 hlt)
                rw [Array.getElem?_eq_getElem hlt] at h1
                have h2 := List.all_eq_true.1 h1 e (by simpa using he)
                rw [hb] at h2
                have h3 : e.on < i := by simpa using h2
                exact ihi e.on h3 (by omega)
            rw [hr] at hi; cases hi
      have hcnt : cntB listed = ops.size := by
        have e0 : listed.toList.filter id = listed.toList := List.filter_eq_self.2 (fun b hb => by
          obtain ⟨i, hi, e⟩ := List.mem_iff_getElem.1 hb
          have hi' : i < listed.size := by simpa using hi
          have := hall i (by rw [← hI.size]; exact hi')
          simp [hi'] at this
          rw [← e]
          simpa using this)
        unfold cntB
        rw [e0, Array.length_toList, hI.size]
      exact fin listed a w hI hall hcnt
    · obtain ⟨h1, o, ho, hall⟩ := mem_ready.1 hi
      have hlt : i < ops.size := (Array.getElem?_eq_some_iff.1 ho).1
      refine wpOp_mono (fun a' w' h => ?_) (hstep i o ho _ a w (by omega) hI.world hI.old (fun j oj d hj ⟨e, he, hb, hon⟩ hd => hI.slot j oj d hj (by rw [← hon]; exact hall e he hb) hd))
      obtain ⟨v, rfl, hW, hKp, hSh⟩ := h
      refine ih _ _ _ ⟨by simp [hI.size], by rw [cntB_set h1]; exact hW, fun j oj d hj hl hd => ?_, fun t ht => ?_, ?_⟩ (by rw [cntB_set h1]; omega)
      · by_cases hij : i = j
        · subst hij
          have e : oj = o := Option.some.inj (hj.symm.trans ho)
          subst e
          have hdn : d < a.tmps.size := by
            rw [hI.frame.1]
            have := List.all_eq_true.1 hdst.1 d (List.mem_filterMap.2 ⟨oj, List.mem_of_getElem? (by rw [Array.getElem?_toList]; exact hj), hd⟩)
            simpa using this
          have e2 : (a.put oj.dst v).tmps.getD d undef = v := by simp [Act.put, hd, hdn]
          rw [e2]
          exact hSh d hd
        · have hlj : listed.getD j false = true := by rw [getD_set_ne false hij] at hl; exact hl
          have e2 : (a.put o.dst v).tmps.getD d undef = a.tmps.getD d undef := by
            cases hod : o.dst with
            | none => rfl
            | some x =>
              have hne : x ≠ d := fun e => hij (by subst e; exact nodup_dst hdst.2 (by rw [Array.getElem?_toList]; exact ho) (by rw [Array.getElem?_toList]; exact hj) hod hd)
              simp [Act.put, Array.getElem?_setIfInBounds_ne hne]
          rw [e2]
          exact hkeep j _ w w' (hI.slot j oj d hj hlj hd) hKp
      · have e2 : (a.put o.dst v).tmps.getD t undef = a.tmps.getD t undef := by
          cases hod : o.dst with
          | none => rfl
          | some x =>
            have hne : x ≠ t := fun e => ht (by subst e; exact List.mem_filterMap.2 ⟨o, List.mem_of_getElem? (by rw [Array.getElem?_toList]; exact ho), hod⟩)
            simp [Act.put, Array.getElem?_setIfInBounds_ne hne]
        rw [e2]; exact hI.old t ht
      · cases hod : o.dst with
        | none => exact hI.frame
        | some x => exact ⟨by simp [Act.put, hI.frame.1], hI.frame.2⟩
/-- At a region that draws its order. -/
theorem wp_region_known {id : Nat} {w : World} (hm : P.follows .mixedOrders = true) (W : Nat → World → Prop) (Sh : Nat → Value → World → Prop) (Kp : World → World → Prop) (a0 : Act) (hdst : dstsB ops a0.tmps.size = true) (hdown : downB ops = true)
    (hkeep : ∀ i v w w', Sh i v w → Kp w w' → Sh i v w')
    (hstep : ∀ i o, ops[i]? = some o → ∀ m a w, m < ops.size → W m w → (∀ t, t ∉ dstsOf ops → a.tmps.getD t undef = a0.tmps.getD t undef) →
      (∀ j oj d, ops[j]? = some oj → (∃ e ∈ o.after, Region.binds .any e = true ∧ e.on = j) → oj.dst = some d → Sh j (a.tmps.getD d undef) w) →
      wpOp P ops Q i (fun a' w' => ∃ v, a' = a.put o.dst v ∧ W (m + 1) w' ∧ Kp w w' ∧ ∀ d, o.dst = some d → Sh i v w') a w)
    (hend : ∀ listed a w, Known ops W Sh a0 listed a w → W ops.size w → (∀ i o d, ops[i]? = some o → o.dst = some d → Sh i (a.tmps.getD d undef) w) → Q .normal a w)
    (h0 : W 0 { w with drawn := w.drawn + 1 }) : (Code.region id ops true).wp P Q a0 w := by
  refine wp_region_any hm (wpAny_known W Sh Kp a0 hdst hdown hkeep hstep hend _ _ _ _ ⟨by simp, ?_, fun i o d _ hl => ?_, fun _ _ => rfl, rfl, rfl⟩ ?_)
  · have : cntB (Array.replicate ops.size false) = 0 := by
      unfold cntB
      rw [Array.toList_replicate]
      simp
    rw [this]; exact h0
  · have : (Array.replicate ops.size false).getD i false = false := by
      rcases Nat.lt_or_ge i ops.size with h | h
      · simp [h]
      · simp [h]
    rw [this] at hl; cases hl
  · unfold cntB
    rw [Array.toList_replicate]
    simp
end
end Go.Proofs.YtncnmadiiaidfaaGreatDoor
/- Words for memory, of no program: a slice that reads as a list of elements of K cells, the stream's object, worlds that only grow. -/
namespace Go.Proofs.YtncnmadiiaidfaaGreatDoor
open Go.RowKit

theorem hide {p : Prop} (h : p) : Hid p := h

/-- Nothing that was there has turned. -/
def Nx (w w' : World) : Prop := Below w.heap.size w w'
theorem Nx.refl (w : World) : Nx w w := Below.refl _ _
theorem Nx.trans {a b c : World} (h : Nx a b) (k : Nx b c) : Nx a c := Below.trans h (Below.mono k h.size)
theorem Nx.drew {a w : World} (h : Nx a w) : Nx a w.drew := Below.drew h
theorem Nx.drewN {a w : World} (h : Nx a w) (n : Nat) : Nx a (w.drewN n) := below_drewN h n
theorem Nx.alloc {a w : World} (h : Nx a w) (o : Obj) : Nx a (w.alloc o) := Below.alloc h h.size o
theorem Nx.setCell {a w : World} (h : Nx a w) {p : Addr} (hp : a.heap.size ≤ p.block) (u : Value) : Nx a (w.setCell p u) := Below.setCell h hp u
theorem Nx.sz {a w : World} (h : Nx a w) : a.heap.size ≤ w.heap.size := h.size
theorem Nx.grown {a w w' : World} {row : Option Nat} (h : Nx a w) (hg : w.grownBy w' row) (hr : ∀ k, row = some k → a.heap.size ≤ k) : Nx a w' := Below.grown h hg h.size hr
theorem Nx.gr {a w : World} (h : Nx a w) (row : Option Nat) : a.grownBy w row := ⟨h.os, h.tape, h.output, h.size, fun i hi _ => h.block i hi⟩

/-- Only block s, and what is new, has turned. -/
def Gr (s : Nat) (a w : World) : Prop := a.grownBy w (some s)
theorem Gr.refl (s : Nat) (w : World) : Gr s w w := World.grownBy.refl w _
theorem Gr.of_nx {s : Nat} {a w : World} (h : Nx a w) : Gr s a w := h.gr _
theorem Gr.sz {s : Nat} {a w : World} (h : Gr s a w) : a.heap.size ≤ w.heap.size := World.grownBy.size h
theorem Gr.trans {s : Nat} {a b c : World} (h : Gr s a b) (k : Gr s b c) : Gr s a c :=
  ⟨k.os.trans h.os, k.tape.trans h.tape, k.output.trans h.output, Nat.le_trans h.size k.size, fun i hi hn => (k.block i (Nat.lt_of_lt_of_le hi h.size) hn).trans (h.block i hi hn)⟩
theorem Gr.then_nx {s : Nat} {a b c : World} (h : Gr s a b) (k : Nx b c) : Gr s a c := h.trans (Gr.of_nx k)
theorem Gr.drew {s : Nat} {a w : World} (h : Gr s a w) : Gr s a w.drew := h.then_nx (Nx.refl _).drew
theorem Gr.drewN {s : Nat} {a w : World} (h : Gr s a w) (n : Nat) : Gr s a (w.drewN n) := h.then_nx ((Nx.refl _).drewN n)
theorem Gr.alloc {s : Nat} {a w : World} (h : Gr s a w) (o : Obj) : Gr s a (w.alloc o) := h.then_nx ((Nx.refl _).alloc o)
theorem Gr.setS {s : Nat} {a w : World} (h : Gr s a w) {p : Addr} (hp : p.block = s ∨ a.heap.size ≤ p.block) (u : Value) : Gr s a (w.setCell p u) :=
  ⟨h.os, h.tape, h.output, by have := h.sz; simpa [World.setCell] using this, fun i hi hne => (Below.heap_setCell w p u i (by
    rintro rfl
    rcases hp with hp | hp
    · exact hne (by rw [hp])
    · omega)).trans (h.block i hi hne)⟩
theorem Gr.grown {s : Nat} {a w w' : World} {row : Option Nat} (h : Gr s a w) (hg : w.grownBy w' row) (hr : ∀ k, row = some k → k = s ∨ a.heap.size ≤ k) : Gr s a w' :=
  ⟨hg.os.trans h.os, hg.tape.trans h.tape, hg.output.trans h.output, Nat.le_trans h.size hg.size, fun i hi hne => (hg.block i (Nat.lt_of_lt_of_le hi h.size) (fun e => by
    rcases hr i e.symm with h1 | h1
    · exact hne (by rw [h1])
    · omega)).trans (h.block i hi hne)⟩
theorem Nx.of_gr {s : Nat} {a w : World} (h : Gr s a w) (hs : a.heap.size ≤ s) : Nx a w :=
  ⟨h.os, h.tape, h.output, h.size, fun i hi => h.block i hi (by intro e; injection e with e; omega)⟩

/-- A slice's value with address A reads as xs, each element K cells; its block lies from lo on. -/
def Rd {α : Type} (w : World) (lo : Nat) (A : Option Addr) (K : Nat) (enc : α → List Value) (xs : List α) : Prop :=
  0 < xs.length → ∃ b off, A = some ⟨b, off, none⟩ ∧ lo ≤ b ∧ b < w.heap.size ∧ ∀ i x, xs[i]? = some x → ∀ j u, (enc x)[j]? = some u → w.cell? ⟨b, off + i * K + j, none⟩ = some u
section
variable {α : Type} {w w' : World} {lo lo' K : Nat} {A : Option Addr} {enc : α → List Value} {xs : List α}
theorem Rd.nil : Rd w lo A K enc ([] : List α) := fun h => absurd h (by simp)
theorem Rd.nx (h : Rd w lo A K enc xs) (hn : Nx w w') : Rd w' lo A K enc xs := fun hp => by
  obtain ⟨b, off, e, hl, hb, hc⟩ := h hp
  exact ⟨b, off, e, hl, Nat.lt_of_lt_of_le hb hn.sz, fun i x hx j u hu => (Below.cell hn (p := ⟨b, _, none⟩) hb).trans (hc i x hx j u hu)⟩
theorem Rd.gr {s : Nat} (h : Rd w lo A K enc xs) (hn : Gr s w w') (hs : s < lo) : Rd w' lo A K enc xs := fun hp => by
  obtain ⟨b, off, e, hl, hb, hc⟩ := h hp
  exact ⟨b, off, e, hl, Nat.lt_of_lt_of_le hb hn.sz, fun i x hx j u hu => World.grownBy.cell (row := some s) hn (hc i x hx j u hu) (by simp; omega)⟩
theorem Rd.low (h : Rd w lo A K enc xs) (hl : lo' ≤ lo) : Rd w lo' A K enc xs := fun hp => by
  obtain ⟨b, off, e, h1, hb, hc⟩ := h hp
  exact ⟨b, off, e, Nat.le_trans hl h1, hb, hc⟩
/-- For a loop: the block and all the cells, in the round's world. -/
theorem Rd.open_ (h : Rd w lo A K enc xs) (hn : Nx w w') (hp : 0 < xs.length) : ∃ b off, A = some ⟨b, off, none⟩ ∧ lo ≤ b ∧ b < w.heap.size ∧ b < w'.heap.size ∧ ∀ i (hi : i < xs.length) j u, (enc xs[i])[j]? = some u → w'.cell? ⟨b, off + i * K + j, none⟩ = some u := by
  obtain ⟨b, off, e, hl, hb, hc⟩ := h hp
  exact ⟨b, off, e, hl, hb, Nat.lt_of_lt_of_le hb hn.sz, fun i hi j u hu => (Below.cell hn (p := ⟨b, _, none⟩) hb).trans (hc i _ (List.getElem?_eq_getElem hi) j u hu)⟩
theorem flat_get (hk : ∀ x, (enc x).length = K) (i : Nat) (x : α) (hx : xs[i]? = some x) (j : Nat) (u : Value) (hu : (enc x)[j]? = some u) : (xs.flatMap enc)[i * K + j]? = some u := by
  induction xs generalizing i with
  | nil => simp at hx
  | cons y ys ih =>
    rw [List.flatMap_cons]
    rcases i with _ | i
    · simp at hx; subst hx
      rw [List.getElem?_append_left (by have := (List.getElem?_eq_some_iff.1 hu).1; omega)]
      simpa using hu
    · have hx' : ys[i]? = some x := by simpa using hx
      rw [List.getElem?_append_right (by rw [hk, Nat.add_mul]; omega), hk]
      have e : (i + 1) * K + j - K = i * K + j := by rw [Nat.add_mul]; omega
      rw [e]
      exact ih i hx'
theorem flat_len (hk : ∀ x, (enc x).length = K) : (xs.flatMap enc).length = xs.length * K := by
  induction xs with
  | nil => simp
  | cons y ys ih => rw [List.flatMap_cons, List.length_append, ih, hk, List.length_cons, Nat.add_mul]; omega
/-- A row of the call's own, read. -/
theorem Rd.of_own {base : Nat} {e : TypeId} {v : Value} {n : Nat} (hk : ∀ x, (enc x).length = K) (hn : n = xs.length) (h : w.ownsRow base e K v n (xs.flatMap enc)) :
    ∃ A c, v = .slice A xs.length c ∧ Rd w base A K enc xs ∧ (∀ a, A = some a → ∃ g, a = ⟨g, 0, none⟩ ∧ base ≤ g ∧ g < w.heap.size) := by
  subst hn
  rcases h.2 with ⟨rfl, h0⟩ | ⟨g, cap, cur, rfl, hg, hh, hr⟩
  · have hx : xs = [] := List.eq_nil_of_length_eq_zero h0
    subst hx
    exact ⟨none, 0, rfl, Rd.nil, by simp⟩
  · have hlt := (h.lt g rfl)
    refine ⟨some ⟨g, 0, none⟩, cap, rfl, fun _ => ⟨g, 0, rfl, hlt.1, hlt.2, fun i x hx j u hu => ?_⟩, fun a ha => ⟨g, by injection ha with ha; exact ha.symm, hlt.1, hlt.2⟩⟩
    have hil : i < xs.length := (List.getElem?_eq_some_iff.1 hx).1
    have hjl : j < K := by have := (List.getElem?_eq_some_iff.1 hu).1; rw [hk] at this; exact this
    have h2 := h.cellAt (i * K + j) (by
      have : (i + 1) * K ≤ xs.length * K := Nat.mul_le_mul_right K hil
      rw [Nat.add_mul] at this; omega)
    rw [Nat.zero_add, h2]
    exact flat_get hk i x hx j u hu
end

theorem heap_set {w : World} {s i : Nat} {cs : Array Value} {t : TypeId} {u : Value} (h : w.heap[s]? = some (.cells cs t (0, 0))) : (w.setCell ⟨s, i, none⟩ u).heap[s]? = some (.cells (cs.setIfInBounds i u) t (0, 0)) := by
  simp [World.setCell, Array.getElem?_modify, h]
theorem cell_set {w : World} {s i b o : Nat} {u : Value} (h : b ≠ s) : (w.setCell ⟨s, i, none⟩ u).cell? ⟨b, o, none⟩ = w.cell? ⟨b, o, none⟩ :=
  World.cell?_setCell_other _ _ _ _ (by intro e; injection e with e1 e2; omega)

theorem flipc {P : Program} {f : FuncId} {args : Array Value} {w : World} {v : Value} (h : Calls P f args w (fun e w' => e = .returned v ∧ w = w')) : Calls P f args w (fun e w'' => e = .returned v ∧ w'' = w) :=
  h.mono fun _ _ ⟨a, b⟩ => ⟨a, b.symm⟩
/-- A literal row. -/
theorem Rd.lit {α : Type} {w : World} {lo g K : Nat} {enc : α → List Value} {xs : List α} {cs : Array Value} {t : TypeId} (hg : w.heap[g]? = some (.cells cs t (0, 0))) (hlo : lo ≤ g) (hk : ∀ x, (enc x).length = K) (hcs : cs.toList = xs.flatMap enc) :
    Rd w lo (some ⟨g, 0, none⟩) K enc xs := fun _ => by
  have hlt : g < w.heap.size := by
    rcases Nat.lt_or_ge g w.heap.size with hlt | hge
    · exact hlt
    · rw [Array.getElem?_eq_none hge] at hg; cases hg
  refine ⟨g, 0, rfl, hlo, hlt, fun i x hx j u hu => ?_⟩
  rw [Nat.zero_add, cell_of_row w g _ cs t _ hg, ← Array.getElem?_toList, hcs]
  exact flat_get hk i x hx j u hu

theorem hnew {w : World} {o : Obj} {g : Nat} (hg : g = w.heap.size) : (w.alloc o).heap[g]? = some o := by subst hg; exact heap_alloc_new w o
theorem hnew_drew {w : World} {o : Obj} {g : Nat} (hg : g = w.heap.size) : (w.alloc o).drew.heap[g]? = some o := hnew hg
/-- t is a slice type over e, whose values take K cells and so many bytes. -/
structure ElemOf (P : Program) (t e : TypeId) (K bytes : Nat) : Prop where
  ht : P.underlying t = some (.slice e)
  hi : ∃ i z, P.info? e = some i ∧ i.zero = some z ∧ i.size = K ∧ i.bytes = bytes ∧ z.cells.size = K
theorem ElemOf.mk' {P : Program} {t e : TypeId} {K bytes : Nat} {z : Value} (ht : P.underlying t = some (.slice e)) (h : (P.info? e).map (fun i => (i.zero, i.size, i.bytes)) = some (some z, K, bytes)) (hz : z.cells.size = K) : ElemOf P t e K bytes := by
  obtain ⟨i, h1, h2, h3, h4⟩ := info_parts h
  exact ⟨ht, i, z, h1, h2, h3, h4, hz⟩
theorem news_of {w : World} {g : Nat} {cs : Array Value} {e : TypeId} (h : w.heap[g]? = some (.cells cs e (0, 0))) {l : List Value} (hl : cs.toList = l) : ∀ j u, l[j]? = some u → w.cell? ((⟨g, 0, none⟩ : Addr).add j) = some u := by
  intro j u hu
  have e1 : (⟨g, 0, none⟩ : Addr).add j = ⟨g, j, none⟩ := by unfold Addr.add; split <;> simp_all
  rw [e1, cell_of_row w g j cs e _ h, ← Array.getElem?_toList, hl]
  exact hu
/-- 'out = append(out, y)' on a row of the call's own. -/
theorem wpApp {α : Type} {P : Program} {w : World} {ops : Array Oper} {rest : List Oper} {o : Oper} {a : Act} {Q : Exit → Act → World → Prop} (hgd : o.guard = none) (s x : Operand) (t : TypeId)
    (ho : o.op = .call { callee := .builtin .append, args := #[s, x], argTypes := #[t, t] })
    {e : TypeId} {K bytes : Nat} (E : ElemOf P t e K bytes) (enc : α → List Value) (hk : ∀ x, (enc x).length = K) (h1c : ∀ x, ∀ v ∈ enc x, v.oneCell' = true) (hK : 0 < K) (hB : bytes ≤ 1000)
    (base : Nat) (v : Value) (L : List α) (hs : a.eval s = v) (hown : w.ownsRow base e K v L.length (L.flatMap enc)) (g : Nat) (y : α) (cs : Array Value) (hx : a.eval x = .slice (some ⟨g, 0, none⟩) 1 1)
    (hblk : w.heap[g]? = some (.cells cs e (0, 0))) (hcs : cs.toList = enc y) (hlen : L.length ≤ 10000000) (hbase : base ≤ w.heap.size)
    (h : ∀ v' w', w'.ownsRow base e K v' (L ++ [y]).length ((L ++ [y]).flatMap enc) → w.grownBy w' v.ownBlock → wpList P ops Q rest (a.put o.dst v') w') : wpList P ops Q (o :: rest) a w := by
  obtain ⟨i, z, h1, h2, h3, h4, h5⟩ := E.hi
  refine wpList_append_own w hgd s x t ho base e i z K bytes E.ht h1 h2 h3 h4 h5 hK v L.length _ hs hown ⟨g, 0, none⟩ 1 1 (enc y) hx (by rw [hk]; omega) (news_of hblk hcs) (h1c y) (by unfold maxLen; omega) ?_ hbase ?_
  · have : (L.length + 1) * bytes ≤ 10000001 * 1000 := Nat.mul_le_mul (by omega) hB
    omega
  · intro v' w' ho' hg' _
    exact h v' w' (by simpa using ho') hg'
theorem own_blk_lt {w : World} {base : Nat} {e : TypeId} {size : Nat} {v : Value} {n : Nat} {xs : List Value} (h : w.ownsRow base e size v n xs) : ∀ k, v.ownBlock = some k → base ≤ k := fun k hk => (h.lt k hk).1
theorem own_nx {w w' : World} {base : Nat} {e : TypeId} {size : Nat} {v : Value} {n : Nat} {xs : List Value} (h : w.ownsRow base e size v n xs) (hn : Nx w w') : w'.ownsRow base e size v n xs :=
  h.kept (hn.gr none) (by cases hv : v.ownBlock <;> simp)
theorem own_gr {w w' : World} {s base : Nat} {e : TypeId} {size : Nat} {v : Value} {n : Nat} {xs : List Value} (h : w.ownsRow base e size v n xs) (hn : w.grownBy w' (some s)) (hs : s < base) : w'.ownsRow base e size v n xs :=
  h.kept hn (.inr fun e => by have := own_blk_lt h s e; omega)

theorem flat_set {α : Type} {enc : α → List Value} {K : Nat} (hk : ∀ x, (enc x).length = K) : ∀ (xs : List α) (i : Nat) (hi : i < xs.length) (x' : α) (j : Nat) (_ : j < K) (u : Value), enc x' = (enc xs[i]).set j u → (xs.flatMap enc).set (i * K + j) u = (xs.set i x').flatMap enc
  | y :: ys, 0, hi, x', j, hj, u, h => by
    rw [List.set_cons_zero, List.flatMap_cons, List.flatMap_cons, Nat.zero_mul, Nat.zero_add, List.set_append_left _ _ (by rw [hk]; exact hj), h]; rfl
  | y :: ys, i + 1, hi, x', j, hj, u, h => by
    rw [List.set_cons_succ, List.flatMap_cons, List.flatMap_cons, List.set_append_right _ _ (by rw [hk, Nat.add_mul]; omega), hk, show (i + 1) * K + j - K = i * K + j by rw [Nat.add_mul]; omega]
    rw [flat_set hk ys i (by simpa using hi) x' j hj u (by simpa using h)]
/-- A field of a row's element is stored. -/
theorem own_set {α : Type} {enc : α → List Value} {K : Nat} (hk : ∀ x, (enc x).length = K) {w : World} {base g cap n : Nat} {e : TypeId} {xs : List α} (hn : xs.length = n) (h : w.ownsRow base e K (.slice (some ⟨g, 0, none⟩) n cap) n (xs.flatMap enc))
    (i : Nat) (hi : i < xs.length) (j : Nat) (hj : j < K) (u : Value) (x' : α) (hx : enc x' = (enc xs[i]).set j u) (off : Nat) (ho : off = i * K + j) :
    (w.setCell ⟨g, off, none⟩ u).ownsRow base e K (.slice (some ⟨g, 0, none⟩) n cap) n ((xs.set i x').flatMap enc) := by
  subst ho hn
  rw [← flat_set hk xs i hi x' j hj u hx]
  exact (h.stored (i * K + j) u).1
/-- A field of a row's element, read. -/
theorem own_cell {α : Type} {enc : α → List Value} {K : Nat} (hk : ∀ x, (enc x).length = K) {w : World} {base g cap n : Nat} {e : TypeId} {xs : List α} (hn : xs.length = n) (h : w.ownsRow base e K (.slice (some ⟨g, 0, none⟩) n cap) n (xs.flatMap enc))
    (i : Nat) (hi : i < xs.length) (j : Nat) (u : Value) (hu : (enc xs[i])[j]? = some u) : w.cell? ⟨g, i * K + j, none⟩ = some u := by
  subst hn
  have hj : j < K := by have := (List.getElem?_eq_some_iff.1 hu).1; rw [hk] at this; exact this
  rw [h.cellAt (i * K + j) (by
      have : (i + 1) * K ≤ xs.length * K := Nat.mul_le_mul_right K hi
      rw [Nat.add_mul] at this; omega)]
  exact flat_get hk i _ (List.getElem?_eq_getElem hi) j u hu
end Go.Proofs.YtncnmadiiaidfaaGreatDoor
/- The stream's object and its smallest methods. -/
namespace Go.Proofs.YtncnmadiiaidfaaGreatDoor
open Go.RowKit

/-- Block s is a stream whose counter is at most k; its numbers lie below s. -/
def Str (w : World) (s k : Nat) : Prop :=
  ∃ (A : Option Addr) (n c i : Nat), i ≤ k ∧ n ≤ 9223372036854775807 ∧ w.heap[s]? = some (.cells #[.slice A n c, .int .i64 (i : Int)] 25 (0, 0)) ∧
    (0 < n → ∃ b off, A = some ⟨b, off, none⟩ ∧ b < s ∧ ∀ j, j < n → ∃ z : Int, w.cell? ⟨b, off + j, none⟩ = some (.int .i64 z) ∧ -9223372036854775808 ≤ z ∧ z ≤ 9223372036854775807)

theorem Str.lt {w : World} {s k : Nat} (h : Str w s k) : s < w.heap.size := by
  obtain ⟨A, n, c, i, _, _, hh, _⟩ := h
  rcases Nat.lt_or_ge s w.heap.size with hlt | hge
  · exact hlt
  · rw [Array.getElem?_eq_none hge] at hh; cases hh
theorem Str.more {w : World} {s k k' : Nat} (h : Str w s k) (hk : k ≤ k') : Str w s k' := by
  obtain ⟨A, n, c, i, hi, r⟩ := h
  exact ⟨A, n, c, i, Nat.le_trans hi hk, r⟩
theorem Str.nx {w w' : World} {s k : Nat} (h : Str w s k) (hn : Nx w w') : Str w' s k := by
  have hlt := h.lt
  obtain ⟨A, n, c, i, hi, hn2, hh, hc⟩ := h
  refine ⟨A, n, c, i, hi, hn2, (hn.block s hlt).trans hh, fun hp => ?_⟩
  obtain ⟨b, off, e, hb, hz⟩ := hc hp
  refine ⟨b, off, e, hb, fun j hj => ?_⟩
  obtain ⟨z, hz1, hz2⟩ := hz j hj
  exact ⟨z, (Below.cell hn (p := ⟨b, _, none⟩) (by show b < _; omega)).trans hz1, hz2⟩

theorem Str.step {w : World} {s k' m c i : Nat} {A : Option Addr} (hh : w.heap[s]? = some (.cells #[.slice A m c, .int .i64 (i : Int)] 25 (0, 0))) (hi : i < k') (hm : m ≤ 9223372036854775807)
    (hc : 0 < m → ∃ b off, A = some ⟨b, off, none⟩ ∧ b < s ∧ ∀ j, j < m → ∃ z : Int, w.cell? ⟨b, off + j, none⟩ = some (.int .i64 z) ∧ -9223372036854775808 ≤ z ∧ z ≤ 9223372036854775807) :
    Str (w.setCell ⟨s, 1, none⟩ (.int .i64 ((i : Int) + 1))) s k' := by
  refine ⟨A, m, c, i + 1, by omega, hm, heap_set hh, fun hp => ?_⟩
  obtain ⟨b, off, e, hb, hz⟩ := hc hp
  refine ⟨b, off, e, hb, fun j hj => ?_⟩
  obtain ⟨z, h1, h2⟩ := hz j hj
  exact ⟨z, by rw [cell_set (by omega)]; exact h1, h2⟩
theorem Str.drewN {w : World} {s k : Nat} (h : Str w s k) (n : Nat) : Str (w.drewN n) s k := h.nx ((Nx.refl w).drewN n)

/-- A row above the stream has been written. -/
theorem Str.row {w w' : World} {s k : Nat} {row : Option Nat} (h : Str w s k) (hg : w.grownBy w' row) (hr : ∀ j, row = some j → s < j) : Str w' s k := by
  have hlt := h.lt
  obtain ⟨A, n, c, i, hi, hn2, hh, hc⟩ := h
  refine ⟨A, n, c, i, hi, hn2, (hg.block s hlt (fun e => by have := hr s e.symm; omega)).trans hh, fun hp => ?_⟩
  obtain ⟨b, off, e, hb, hz⟩ := hc hp
  refine ⟨b, off, e, hb, fun j hj => ?_⟩
  obtain ⟨z, hz1, hz2⟩ := hz j hj
  exact ⟨z, hg.cell hz1 (fun e => by have := hr b e.symm; omega), hz2⟩

/-- A number from 0 to n - 1 (0 where n is less than 1). -/
def Lt0 (n : Int) (w : World) (e : Ending) (w' : World) : Prop := ∃ r : Int, 0 ≤ r ∧ (r < n ∨ r = 0) ∧ e = .returned (.int .i64 r) ∧ w = w'

set_option maxHeartbeats 400000 in
theorem w_Below (x n : Int) (w : World) (hn : n ≤ 4294967296) :
    Calls Tryz.prog 43 #[.int .i64 x, .int .i64 n] w (Lt0 n w) := by
  by_cases h1 : n < 1
  · go_enter Tryz.func43, Tryz.ntmps43
    go_wp2
    go_ret
    exact ⟨0, by omega, .inr rfl, rfl, rfl⟩
  · have b1 : x.tmod n < n := Int.tmod_lt_of_pos x (by omega)
    have b2 : -n < x.tmod n := by have := Int.lt_tmod_of_pos x (b := n) (by omega); omega
    by_cases h2 : x.tmod n < 0
    · go_enter Tryz.func43, Tryz.ntmps43
      go_wp2
      go_ret
      exact ⟨_, by omega, .inl (by omega), rfl, rfl⟩
    · go_enter Tryz.func43, Tryz.ntmps43
      go_wp2
      go_ret
      exact ⟨_, by omega, .inl (by omega), rfl, rfl⟩

/-- The stream's methods: a number from low to high; the stream goes on by m. -/
def StrInt (low high : Int) (s k : Nat) (w : World) (e : Ending) (w' : World) : Prop :=
  ∃ r : Int, low ≤ r ∧ r ≤ high ∧ e = .returned (.int .i64 r) ∧ Gr s w w' ∧ Str w' s k

set_option maxHeartbeats 1000000 in
theorem w_Next (n : Int) (s k : Nat) (w : World) (hS : Str w s k) (hk : k < 1000000) (hn : 1 ≤ n ∧ n ≤ 4294967296) :
    Calls Tryz.prog 19 #[.pointer (some ⟨s, 0, none⟩), .int .i64 n] w (StrInt 0 (n - 1) s (k + 1) w) := by
  obtain ⟨A, m, c, i, hi, hm, hh, hc⟩ := hS
  have c0 : w.cell? ⟨s, 0, none⟩ = some (.slice A m c) := cell_of_row w s 0 _ _ _ hh
  have c1 : w.cell? ⟨s, 1, none⟩ = some (.int .i64 (i : Int)) := cell_of_row w s 1 _ _ _ hh
  have f1 : w.frozen? ⟨s, 1, none⟩ = false := by simp [World.frozen?, hh]
  have HH := hide hh
  have HC := hide hc
  clear hc hh
  by_cases hm0 : m = 0
  · subst hm0
    go_enter Tryz.func19, Tryz.ntmps19
    go_wp2_with (go_at_call 43; refine (w_Below _ _ _ (by omega)).mono ?_; rintro e w' ⟨r, hr1, hr2, rfl, rfl⟩)
    go_ret
    exact ⟨r, hr1, by omega, rfl, (Gr.refl _ _).setS (.inl rfl) _, Str.step HH.out (by omega) (by omega) HC.out⟩
  · have hmp : 0 < m := by omega
    obtain ⟨b, off, rfl, hb, hz⟩ := HC.out hmp
    obtain ⟨z, hz1, hz2, hz3⟩ := hz (i % m) (Nat.mod_lt _ hmp)
    clear hz
    go_enter Tryz.func19, Tryz.ntmps19
    have hst : (w.setCell ⟨s, 1, none⟩ (.int .i64 ((i : Int) + 1))).cell? ⟨b, off + i % m, none⟩ = some (.int .i64 z) := by
      rw [World.cell?_setCell_other _ _ _ _ (by intro h; injection h with h1 h2; omega)]; exact hz1
    have t1 : ((i : Int)).tmod (m : Int) = (i : Int) % (m : Int) := Int.tmod_eq_emod_of_nonneg (by omega)
    have t2 : ((i : Int)).tdiv (m : Int) = (i : Int) / (m : Int) := Int.tdiv_eq_ediv_of_nonneg (by omega)
    have t3 : IntKind.i64.wrap ((i : Int)) = (i : Int) := IntWalk.i64_in _ (by omega)
    have t4 : i % m < m := Nat.mod_lt _ hmp
    go_wp2_with fail
    go_quiet (fail)
    go_wp2_with fail
    go_quiet (fail)
    go_wp2_with fail
    refine (w_Below _ _ _ (by omega)).mono ?_
    rintro e w' ⟨r, hr1, hr2, rfl, rfl⟩
    go_wp2_with fail
    refine (w_Below _ _ _ (by omega)).mono ?_
    rintro e w' ⟨r', hr1', hr2', rfl, rfl⟩
    go_wp2_with fail
    go_ret
    exact ⟨r', hr1', by omega, rfl, ((Gr.refl _ _).setS (.inl rfl) _).drewN _, (Str.step HH.out (by omega) (by omega) HC.out).drewN _⟩

set_option maxHeartbeats 400000 in
theorem w_Range (l h : Int) (s k : Nat) (w : World) (hS : Str w s k) (hk : k < 1000000) (hl : -4294967296 ≤ l ∧ l ≤ h ∧ h < 4294967296) (hn : h - l < 4294967296) :
    Calls Tryz.prog 8 #[.pointer (some ⟨s, 0, none⟩), .int .i64 l, .int .i64 h] w (StrInt l h s (k + 1) w) := by
  go_enter Tryz.func8, Tryz.ntmps8
  go_wp2_with (go_at_call 19; refine (w_Next _ _ _ _ hS hk (by omega)).mono ?_; rintro e w' ⟨r, hr1, hr2, rfl, hg, hS'⟩)
  go_ret
  exact ⟨_, by omega, by omega, rfl, hg, hS'⟩

/-- A stream's method that answers a bool. -/
def StrBool (s k : Nat) (w : World) (e : Ending) (w' : World) : Prop :=
  ∃ r : Bool, e = .returned (.bool r) ∧ Gr s w w' ∧ Str w' s k

set_option maxHeartbeats 400000 in
theorem w_Flip (n : Int) (s k : Nat) (w : World) (hS : Str w s k) (hk : k < 1000000) (hn : 1 ≤ n ∧ n ≤ 4294967296) :
    Calls Tryz.prog 20 #[.pointer (some ⟨s, 0, none⟩), .int .i64 n] w (StrBool s (k + 1) w) := by
  go_enter Tryz.func20, Tryz.ntmps20
  go_wp2_with (go_at_call 19; refine (w_Next _ _ _ _ hS hk hn).mono ?_; rintro e w' ⟨r, hr1, hr2, rfl, hg, hS'⟩)
  go_ret
  exact ⟨_, rfl, hg, hS'⟩

/-- A stream's method that answers one of some values. -/
def StrOf (cs : List Value) (s k : Nat) (w : World) (e : Ending) (w' : World) : Prop :=
  ∃ v, v ∈ cs ∧ e = .returned v ∧ Gr s w w' ∧ Str w' s k

set_option maxHeartbeats 400000 in
theorem w_Pick (g m : Nat) (cs : Array Value) (s k : Nat) (w : World) (hS : Str w s k) (hk : k < 1000000) (hg : w.heap[g]? = some (.cells cs 3 (0, 0))) (hne : g ≠ s) (hm : cs.size = m) (h0 : 0 < m) (h1 : m < 1000) :
    Calls Tryz.prog 15 #[.pointer (some ⟨s, 0, none⟩), .slice (some ⟨g, 0, none⟩) m m] w (StrOf cs.toList s (k + 1) w) := by
  go_enter Tryz.func15, Tryz.ntmps15
  go_wp2_with (go_at_call 19; refine (w_Next _ _ _ _ hS hk (by omega)).mono ?_; rintro e w' ⟨r, hr1, hr2, rfl, hgr, hS'⟩; (obtain ⟨q, rfl⟩ := Int.eq_ofNat_of_zero_le hr1); (have hcell : w'.cell? ⟨g, q, none⟩ = some (cs[q]'(by omega)) := World.grownBy.cell hgr ((cell_of_row w g q _ _ _ hg).trans (Array.getElem?_eq_getElem (by omega))) (by simp; omega)))
  go_ret
  exact ⟨_, Array.getElem_mem_toList _, rfl, hgr, hS'⟩
end Go.Proofs.YtncnmadiiaidfaaGreatDoor
/- The walks of the smallest functions of numbers: those that all packages use. -/
namespace Go.Proofs.YtncnmadiiaidfaaGreatDoor
open Go.RowKit

theorem ret_bool {a b : Bool} (h : a = b) : Ending.returned (.bool a) = .returned (.bool b) := by rw [h]
theorem ret_int {k : IntKind} {a b : Int} (h : a = b) : Ending.returned (.int k a) = .returned (.int k b) := by rw [h]

theorem w_Out (n l h : Int) (w : World) : Calls Tryz.prog 40 #[.int .i64 n, .int .i64 l, .int .i64 h] w fun e w' => e = .returned (.bool (outB n l h)) ∧ w = w' := by
  by_cases h1 : n < l <;> by_cases h2 : h < n
  all_goals
    go_enter Tryz.func40, Tryz.ntmps40
    go_wp2
    go_ret
    exact ⟨ret_bool (by unfold outB; simp; omega), rfl⟩

theorem w_in (n l h : Int) (w : World) : Calls Tryz.prog 28 #[.int .i64 n, .int .i64 l, .int .i64 h] w fun e w' => e = .returned (.bool (inB n l h)) ∧ w = w' := by
  by_cases h1 : l ≤ n <;> by_cases h2 : n ≤ h
  all_goals
    go_enter Tryz.func28, Tryz.ntmps28
    go_wp2
    go_ret
    exact ⟨ret_bool (by unfold inB; simp; omega), rfl⟩

end Go.Proofs.YtncnmadiiaidfaaGreatDoor
/- The stream's methods that pick a number. -/
namespace Go.Proofs.YtncnmadiiaidfaaGreatDoor
open Go.RowKit

/-- A number of some list. -/
def StrIn (zs : List Int) (s k : Nat) (w : World) (e : Ending) (w' : World) : Prop := ∃ r ∈ zs, e = .returned (.int .i64 r) ∧ Gr s w w' ∧ Str w' s k
/-- 's.Pick(..)' of numbers that lie in a block of their own. -/
theorem w_PickI (g : Nat) (zs : List Int) (cs : Array Value) (s k : Nat) (w : World) (hS : Str w s k) (hk : k < 1000000) (hg : w.heap[g]? = some (.cells cs 3 (0, 0))) (hne : g ≠ s) (hcs : cs.toList = zs.map (Value.int .i64)) (h0 : zs ≠ []) (h1 : zs.length < 1000) :
    Calls Tryz.prog 15 #[.pointer (some ⟨s, 0, none⟩), .slice (some ⟨g, 0, none⟩) zs.length zs.length] w (StrIn zs s (k + 1) w) := by
  refine (w_Pick g zs.length cs s k w hS hk hg hne (by rw [← Array.length_toList, hcs, List.length_map]) (List.length_pos_iff.2 h0) h1).mono ?_
  rintro e w' ⟨v, hv, rfl, hg, hs⟩
  rw [hcs] at hv
  obtain ⟨z, hz, rfl⟩ := List.mem_map.1 hv
  exact ⟨z, hz, rfl, hg, hs⟩

set_option maxHeartbeats 1000000 in
theorem w_Odd (l h : Int) (s k : Nat) (w : World) (hS : Str w s k) (hk : k < 900000) (hl : -4294967296 ≤ l ∧ l ≤ h ∧ h < 4294967296) (hn : h - l < 4294967296) :
    Calls Tryz.prog 23 #[.pointer (some ⟨s, 0, none⟩), .int .i64 l, .int .i64 h] w (StrInt (-1099511627776) 1099511627776 s (k + 2) w) := by
  go_enter Tryz.func23, Tryz.ntmps23
  go_wp2_with (first
    | (go_at_call 20; refine (w_Flip _ _ _ _ hS (by omega) (by omega)).mono ?_; rintro e w1 ⟨b, rfl, hg1, hS1⟩)
    | (go_at_call 8; refine (w_Range _ _ _ _ _ hS1 (by omega) hl hn).mono ?_; rintro e w2 ⟨r, hr1, hr2, rfl, hg2, hS2⟩)
    | (go_at_call 15; refine (w_PickI _ [l - 1, h + 1, l, h, -1099511627776, 1099511627776] _ _ _ _ (hS1.nx ((Nx.refl _).alloc _)) (by omega) (hnew rfl) (by have := hS1.lt; omega) rfl (by simp) (by simp)).mono ?_; rintro e w2 ⟨r, hr, rfl, hg2, hS2⟩))
  · go_ret
    have hr' : r = l - 1 ∨ r = h + 1 ∨ r = l ∨ r = h ∨ r = -1099511627776 ∨ r = 1099511627776 := by simpa using hr
    exact ⟨r, by omega, by omega, rfl, (hg1.alloc _).trans hg2, hS2⟩
  · go_ret
    exact ⟨r, by omega, by omega, rfl, hg1.trans hg2, hS2⟩

end Go.Proofs.YtncnmadiiaidfaaGreatDoor
/- 'out = append(out, ys...)' on a row of the call's own. Of no program. -/
namespace Go.Proofs.YtncnmadiiaidfaaGreatDoor
open Go.RowKit

theorem run_append_nilsrc {P : Program} (w : World) (base : Nat) (t ty e : TypeId) (i : TypeInfo) (size : Nat) (ht : P.underlying t = some (.slice e)) (hi : P.info? e = some i)
    (v : Value) (n : Nat) (xs : List Value) (hown : w.ownsRow base e size v n xs) (c : Nat) : (Builtin.append_ #[t, t] ty #[v, .slice none 0 c]).run P w = .ok v w := by
  rcases hown.2 with ⟨rfl, rfl⟩ | ⟨g, cap, cur, rfl, _, _, hnc, _⟩
  · simp [Builtin.append_, run_underlying ht, sizeOf, typeInfo, hi, Builtin.lenOf, Builtin.firstCells]
  · simp [Builtin.append_, run_underlying ht, sizeOf, typeInfo, hi, Builtin.lenOf, Builtin.firstCells, hnc, storeCells]
/-- 'out = append(out, ys...)'. -/
theorem wpAppL {α : Type} {P : Program} {w : World} {ops : Array Oper} {rest : List Oper} {o : Oper} {a : Act} {Q : Exit → Act → World → Prop} (hgd : o.guard = none) (s x : Operand) (t : TypeId)
    (ho : o.op = .call { callee := .builtin .append, args := #[s, x], argTypes := #[t, t] })
    {e : TypeId} {K bytes : Nat} (E : ElemOf P t e K bytes) (enc : α → List Value) (hk : ∀ x, (enc x).length = K) (h1c : ∀ x, ∀ v ∈ enc x, v.oneCell' = true) (hK : 0 < K) (hB : bytes ≤ 1000)
    (base : Nat) (v : Value) (L : List α) (hs : a.eval s = v) (hown : w.ownsRow base e K v L.length (L.flatMap enc)) (A : Option Addr) (c : Nat) (ys : List α) (hx : a.eval x = .slice A ys.length c)
    {lo : Nat} (hR : Rd w lo A K enc ys) (hlen : L.length + ys.length ≤ 10000000) (hbase : base ≤ w.heap.size)
    (h : ∀ v' w', w'.ownsRow base e K v' (L ++ ys).length ((L ++ ys).flatMap enc) → w.grownBy w' v.ownBlock → wpList P ops Q rest (a.put o.dst v') w') : wpList P ops Q (o :: rest) a w := by
  obtain ⟨i, z, h1, h2, h3, h4, h5⟩ := E.hi
  cases A with
  | none =>
    have hy : ys = [] := by
      rcases ys with _ | ⟨y, ys⟩
      · rfl
      · obtain ⟨b, off, e, _⟩ := hR (by simp); cases e
    subst hy
    refine wpList_plain hgd fun K' hK' => ?_
    have hrun := run_append_nilsrc (P := P) w base t o.type e i K E.ht h1 v L.length _ hown c
    unfold Oper.wp execOp
    simp only [ho, resolve, invoke, builtin, Sem.run_bind, Sem.run_pure, Result.andThen_ok, List.map_toArray, List.map_cons, List.map_nil, hs, hx, List.length_nil, hrun]
    exact hK' _ _ (h v w (by simpa using hown) (World.grownBy.refl _ _))
  | some ad =>
    refine wpList_append_own w hgd s x t ho base e i z K bytes E.ht h1 h2 h3 h4 h5 hK v L.length _ hs hown ad ys.length c (ys.flatMap enc) hx (flat_len hk) ?_ ?_ (by unfold maxLen; omega) ?_ hbase ?_
    · intro j u hu
      have hj : j < ys.length * K := by have := (List.getElem?_eq_some_iff.1 hu).1; rw [flat_len hk] at this; exact this
      have hyl : 0 < ys.length := by
        rcases Nat.eq_zero_or_pos ys.length with h0 | h0
        · rw [h0] at hj; omega
        · exact h0
      obtain ⟨b, off, e, _, _, hc⟩ := hR hyl
      injection e with e; subst e
      have hq : j / K < ys.length := (Nat.div_lt_iff_lt_mul hK).2 hj
      have hr : j % K < K := Nat.mod_lt _ hK
      have e1 : j / K * K + j % K = j := by rw [Nat.mul_comm]; exact Nat.div_add_mod j K
      have hu2 : (enc ys[j / K])[j % K]? = some u := by
        have h6 : (enc ys[j / K])[j % K]? = some ((enc ys[j / K])[j % K]'(by rw [hk]; exact hr)) := List.getElem?_eq_getElem _
        have h7 := flat_get (xs := ys) hk (j / K) _ (List.getElem?_eq_getElem hq) (j % K) _ h6
        rw [e1, hu] at h7
        rw [h6, ← h7]
      have := hc (j / K) _ (List.getElem?_eq_getElem hq) (j % K) u hu2
      have e2 : (⟨b, off, none⟩ : Addr).add j = ⟨b, off + j, none⟩ := by unfold Addr.add; split <;> simp_all
      rw [e2, ← e1, ← Nat.add_assoc]
      exact this
    · intro u hu
      obtain ⟨y, _, hy⟩ := List.mem_flatMap.1 hu
      exact h1c y u hy
    · have : (L.length + ys.length) * bytes ≤ 10000000 * 1000 := Nat.mul_le_mul hlen hB
      omega
    · intro v' w' ho' hg' _
      exact h v' w' (by simpa using ho') hg'

end Go.Proofs.YtncnmadiiaidfaaGreatDoor
/- Rounding down: the program's and the reference's. -/
namespace Go.Proofs.YtncnmadiiaidfaaGreatDoor
open Go.RowKit

theorem w_Down (a b : Int) (w : World) (hb : 1 ≤ b ∧ b ≤ 4611686018427387904) (ha : -4611686018427387904 ≤ a ∧ a ≤ 4611686018427387904) :
    Calls Tryz.prog 63 #[.int .i64 a, .int .i64 b] w fun e w' => e = .returned (.int .i64 (a / b)) ∧ w = w' := by
  have q1 := tdiv_bd a b hb.1
  have q2 : -4611686018427387904 ≤ a.tdiv b ∧ a.tdiv b ≤ 4611686018427387904 := by split at q1 <;> omega
  clear q1
  have b1 : a.tmod b < b := Int.tmod_lt_of_pos a (by omega)
  have b2 : -b < a.tmod b := by have := Int.lt_tmod_of_pos a (b := b) (by omega); omega
  by_cases h : a.tmod b < 0
  · go_enter Tryz.func63, Tryz.ntmps63
    go_wp2
    go_ret
    exact ⟨ret_int (floor_neg a b hb.1 h), rfl⟩
  · go_enter Tryz.func63, Tryz.ntmps63
    go_wp2
    go_ret
    exact ⟨ret_int (floor_pos a b hb.1 (by omega)), rfl⟩

end Go.Proofs.YtncnmadiiaidfaaGreatDoor
/- Worlds that only draw and lay blocks. Of no program. -/
namespace Go.Proofs.YtncnmadiiaidfaaGreatDoor
open Go.RowKit Go.Sort

/-- Draws, and new blocks that stay as they were laid. -/
def Lays (w w' : World) : Prop := ∃ q os, w' = grow (w.drewN q) os
theorem Lays.refl (w : World) : Lays w w := ⟨0, #[], by simp [grow]; rfl⟩
theorem Lays.trans {a b c : World} (h : Lays a b) (k : Lays b c) : Lays a c := by
  obtain ⟨q, os, rfl⟩ := h
  obtain ⟨q', os', rfl⟩ := k
  refine ⟨q + q', os ++ os', ?_⟩
  have e : (grow (a.drewN q) os).drewN q' = grow ((a.drewN q).drewN q') os := rfl
  rw [e, grow_grow, World.drewN_drewN]
theorem Lays.drew {a w : World} (h : Lays a w) : Lays a w.drew := h.trans ⟨1, #[], by simp [grow]; rfl⟩
theorem Lays.drewN {a w : World} (h : Lays a w) (n : Nat) : Lays a (w.drewN n) := h.trans ⟨n, #[], by simp [grow]; rfl⟩
theorem Lays.alloc {a w : World} (h : Lays a w) (o : Obj) : Lays a (w.alloc o) := h.trans ⟨0, #[o], by rw [alloc_eq_grow]; rfl⟩
theorem Lays.nx {a w : World} (h : Lays a w) : Nx a w := by
  obtain ⟨q, os, rfl⟩ := h
  refine ⟨rfl, rfl, rfl, by simp [grow], fun k hk => ?_⟩
  show ((a.heap ++ os)[k]?) = _
  rw [Array.getElem?_append_left (by exact hk)]
theorem Lays.cell {a w : World} (h : Lays a w) {p : Addr} {v : Value} (hc : a.cell? p = some v) : w.cell? p = some v :=
  (Below.cell h.nx (World.block_lt_of_cell? a _ hc)).trans hc

end Go.Proofs.YtncnmadiiaidfaaGreatDoor
