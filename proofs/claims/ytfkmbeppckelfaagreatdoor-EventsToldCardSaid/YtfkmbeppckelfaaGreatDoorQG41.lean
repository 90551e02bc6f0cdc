/- 'out = append(out, y)' at a step of a region that draws. Of no program. -/
import Derived.Test.YtfkmbeppckelfaaGreatDoorQG0
import Derived.Deep.AppendLies
import Derived.Test.YtfkmbeppckelfaaGreatDoorQG22
import Derived.Test.YtfkmbeppckelfaaGreatDoorQG10
import Derived.Test.YtfkmbeppckelfaaGreatDoorQG19
import Derived.Test.YtfkmbeppckelfaaGreatDoorQG5
import Derived.Test.YtfkmbeppckelfaaGreatDoorQStX
import Derived.Test.YtfkmbeppckelfaaGreatDoorQG38
import Derived.Shelf.SlSortCmp.NoneTotal
import Derived.Test.YtfkmbeppckelfaaGreatDoorQShelfV
import Derived.Test.YtfkmbeppckelfaaGreatDoorQG2
namespace Go.Proofs.YtfkmbeppckelfaaGreatDoor
open Go.RowKit
/-- .. at an operation of a region that does not draw. -/
theorem wpApp2 {α : Type} {P : Program} {w : World} {ops : Array Oper} {rest : List Oper} {o : Oper} {a : Act} {Q : Exit → Act → World → Prop} (hgd : o.guard = none) (s x : Operand) (t : TypeId)
    (ho : o.op = .call { callee := .builtin .append, args := #[s, x], argTypes := #[t, t] })
    {e : TypeId} {K bytes : Nat} (E : ElemOf P t e K bytes) (enc : α → List Value) (hk : ∀ x, (enc x).length = K) (h1c : ∀ x, ∀ v ∈ enc x, v.oneCell' = true) (hK : 0 < K) (hB : bytes ≤ 1000)
    (base : Nat) (v : Value) (L : List α) (hs : a.eval s = v) (hown : w.ownsRow base e K v L.length (L.flatMap enc)) (g : Nat) (y : α) (cs : Array Value) (hx : a.eval x = .slice (some ⟨g, 0, none⟩) 1 1)
    (hblk : w.heap[g]? = some (.cells cs e (0, 0))) (hcs : cs.toList = enc y) (hlen : L.length ≤ 10000000) (hbase : base ≤ w.heap.size)
    (h : ∀ v' w', w'.ownsRow base e K v' (L ++ [y]).length ((L ++ [y]).flatMap enc) → w.grownBy w' v.ownBlock → (∀ b, v'.ownBlock = some b → v.ownBlock = some b ∨ b = w.heap.size) → wpList P ops Q rest (a.put o.dst v') w') : wpList P ops Q (o :: rest) a w := by
  obtain ⟨i, z, h1, h2, h3, h4, h5⟩ := E.hi
  refine wpList_append_lies w hgd s x t ho base e i z K bytes E.ht h1 h2 h3 h4 h5 hK v L.length _ hs hown ⟨g, 0, none⟩ 1 1 (enc y) hx (by rw [hk]; omega) (news_of hblk hcs) (h1c y) (by omega) (by unfold maxLen; omega) ?_ hbase _ rfl ?_
  · have : (L.length + 1) * bytes ≤ 10000001 * 1000 := Nat.mul_le_mul (by omega) hB
    omega
  · intro g' cap w' ho' hg' hat _
    have e1 : (L ++ [y]).length = L.length + 1 := by simp
    refine h _ w' (by rw [e1, List.flatMap_append]; simpa using ho') hg' (fun b hb => ?_)
    have : g' = b := by simpa [Value.ownBlock] using hb
    subst this
    exact hat
end Go.Proofs.YtfkmbeppckelfaaGreatDoor
/- Plain: events with one more behind them. -/
namespace Go.Proofs.YtfkmbeppckelfaaGreatDoor

theorem snocE {α : Type} (l : List α) : l = [] ∨ ∃ m x, l = m ++ [x] := by
  rcases List.eq_nil_or_concat l with h | ⟨m, x, h⟩
  · exact .inl h
  · exact .inr ⟨m, x, by rw [h]; simp⟩
/-- The last number of each source. -/
def numF : (ByteArray → Int) → List Ev → (ByteArray → Int)
  | f, [] => f
  | f, x :: l => numF (fun s => if s = x.source then x.no else f s) l
def num0 (l : List Ev) : ByteArray → Int := numF (fun _ => 0) l
/-- The last event. -/
def lastO : Option Ev → List Ev → Option Ev
  | p, [] => p
  | _, x :: l => lastO (some x) l
theorem numF_snoc (f : ByteArray → Int) (l : List Ev) (x : Ev) : numF f (l ++ [x]) = fun s => if s = x.source then x.no else numF f l s := by
  induction l generalizing f with
  | nil => rfl
  | cons y l ih => exact ih _
theorem num0_snoc (l : List Ev) (x : Ev) : num0 (l ++ [x]) = fun s => if s = x.source then x.no else num0 l s := numF_snoc _ l x
theorem lastO_snoc (p : Option Ev) (l : List Ev) (x : Ev) : lastO p (l ++ [x]) = some x := by
  induction l generalizing p with
  | nil => rfl
  | cons y l ih => exact ih _
theorem lastO_get (l : List Ev) : lastO none l = l.getLast? := by
  rcases snocE l with rfl | ⟨m, x, rfl⟩
  · rfl
  · rw [lastO_snoc]; simp
theorem evsGo_snoc (p : Option Ev) (f : ByteArray → Int) (l : List Ev) (x : Ev) : evsGo p f (l ++ [x]) = if evsGo p f l ≠ 0 then evsGo p f l else if evF x ≠ 0 then evF x else if lateB (lastO p l) x then 7 else if x.no ≠ numF f l x.source + 1 then 16 else 0 := by
  induction l generalizing p f with
  | nil =>
    show evsGo p f [x] = _
    unfold evsGo
    rfl
  | cons y l ih =>
    show evsGo p f (y :: (l ++ [x])) = _
    unfold evsGo
    by_cases h1 : evF y ≠ 0
    · rw [if_pos h1, if_pos h1, if_pos h1]
    rw [if_neg h1, if_neg h1]
    by_cases h2 : lateB p y = true
    · rw [if_pos h2, if_pos h2, if_pos (by decide)]
    rw [if_neg h2, if_neg h2]
    by_cases h3 : y.no ≠ f y.source + 1
    · rw [if_pos h3, if_pos h3, if_pos (by decide)]
    rw [if_neg h3, if_neg h3, ih]
    rfl
/-- What is wrong with events and one behind them. -/
theorem evsF_snoc (l : List Ev) (x : Ev) : evsF (l ++ [x]) = if evsF l ≠ 0 then evsF l else if evF x ≠ 0 then evF x else if lateB (lastO none l) x then 7 else if x.no ≠ num0 l x.source + 1 then 16 else 0 := evsGo_snoc _ _ l x
theorem evsF_snoc_zero {l : List Ev} {x : Ev} (h : evsF l = 0) (h1 : evF x = 0) (h2 : lateB (lastO none l) x = false) (h3 : x.no = num0 l x.source + 1) : evsF (l ++ [x]) = 0 := by
  rw [evsF_snoc, if_neg (by simpa using h), if_neg (by simpa using h1), h2, if_neg (by decide), if_neg (by simpa using h3)]
theorem num0_bd (l : List Ev) (h : evsF l = 0) (s : ByteArray) : 0 ≤ num0 l s ∧ num0 l s ≤ l.length := by
  rcases snocE l with rfl | ⟨m, x, rfl⟩
  · exact ⟨Int.le_refl _, Int.le_refl _⟩
  · rw [evsF_snoc] at h
    split at h
    · rename_i c; exact absurd h c
    rename_i c
    have ih := num0_bd m (by simpa using c) s
    have ihx := num0_bd m (by simpa using c) x.source
    split at h
    · rename_i c; exact absurd h c
    split at h
    · cases h
    split at h
    · cases h
    rename_i c4
    have c4 : x.no = num0 m x.source + 1 := by simpa using c4
    rw [num0_snoc]
    simp only [List.length_append, List.length_singleton]
    split <;> omega
termination_by l.length
decreasing_by all_goals (subst_vars; simp)
end Go.Proofs.YtfkmbeppckelfaaGreatDoor
/- Plain: lists of events merged, and what one lacks. -/
namespace Go.Proofs.YtfkmbeppckelfaaGreatDoor

/-- Where a list has an event of this name. -/
def inA (a : List Ev) (x : Ev) : Option Nat := tgtF a x.source x.no
def clash (a : List Ev) (x : Ev) : Bool := match inA a x with | none => false | some i => decide (a[i]? ≠ some x)
def mrgB (a b : List Ev) : Bool := b.any (clash a)
def newIn (a : List Ev) (x : Ev) : Bool := (inA a x).isNone
def mrgL (a b : List Ev) : List Ev := a ++ b.filter (newIn a)
/-- The list, in order. -/
def SortedE (L S : List Ev) : Prop := S.Perm L ∧ S.Pairwise (fun a b => 0 ≤ evOrd b a)
def NamesD (L : List Ev) : Prop := L.Pairwise (fun a b => ¬ (a.source = b.source ∧ a.no = b.no))
theorem evOrd_same {a b : Ev} (h : evOrd a b = 0) : a.at_ = b.at_ ∧ a.source = b.source ∧ a.no = b.no := by
  have h1 : ¬ evOrd a b < 0 := by omega
  have h2 : ¬ evOrd b a < 0 := by rw [evOrd_swap a b]; omega
  rw [evOrd_neg] at h1 h2
  have e1 : a.at_ = b.at_ := by
    by_cases e : a.at_ < b.at_
    · exact absurd (.inl e) h1
    · by_cases e' : b.at_ < a.at_
      · exact absurd (.inl e') h2
      · omega
  have e2 : a.source = b.source := ltS_tri _ _ (fun e => h1 (.inr ⟨e1, .inl e⟩)) (fun e => h2 (.inr ⟨e1.symm, .inl e⟩))
  refine ⟨e1, e2, ?_⟩
  by_cases e : a.no < b.no
  · exact absurd (.inr ⟨e1, .inr ⟨e2, e⟩⟩) h1
  · by_cases e' : b.no < a.no
    · exact absurd (.inr ⟨e1.symm, .inr ⟨e2.symm, e'⟩⟩) h2
    · omega
theorem evOrd_zero {a b : Ev} (h : evOrd a b = 0) : a.source = b.source ∧ a.no = b.no := (evOrd_same h).2
theorem evOrd_irrefl (a : Ev) : ¬ evOrd a a < 0 := by
  rw [evOrd_neg]
  rintro (h | ⟨_, h | ⟨_, h⟩⟩)
  · omega
  · exact ltS_irrefl _ h
  · omega
theorem evOrd_ntrans {a b c : Ev} (h : ¬ evOrd a b < 0) (k : ¬ evOrd b c < 0) : ¬ evOrd a c < 0 := by
  intro hc
  have h0 : evOrd b a < 0 ∨ evOrd b a = 0 := by have := evOrd_swap a b; omega
  have k0 : evOrd c b < 0 ∨ evOrd c b = 0 := by have := evOrd_swap b c; omega
  rcases h0 with h0 | h0
  · exact k (evOrd_trans h0 hc)
  · rcases k0 with k0 | k0
    · exact h (evOrd_trans hc k0)
    · obtain ⟨e1, e2, e3⟩ := evOrd_same h0
      obtain ⟨d1, d2, d3⟩ := evOrd_same k0
      rw [evOrd_neg] at hc
      rcases hc with h | ⟨_, h | ⟨_, h⟩⟩
      · omega
      · rw [← e2, ← d2] at h; exact ltS_irrefl _ h
      · omega
/-- The merged list, in order. -/
def mrgS (a b : List Ev) : List Ev := (mrgL a b).mergeSort (fun x y => decide (0 ≤ evOrd y x))
theorem mrgS_sorted (a b : List Ev) : SortedE (mrgL a b) (mrgS a b) := by
  refine ⟨List.mergeSort_perm _ _, ?_⟩
  have h := List.pairwise_mergeSort (le := fun x y : Ev => decide (0 ≤ evOrd y x)) (fun x y z h1 h2 => ?_) (fun x y => ?_) (mrgL a b)
  · exact h.imp (fun h => of_decide_eq_true h)
  · have h1 := of_decide_eq_true h1
    have h2 := of_decide_eq_true h2
    have := evOrd_ntrans (a := z) (b := y) (c := x) (by omega) (by omega)
    exact decide_eq_true (by omega)
  · rw [Bool.or_eq_true, decide_eq_true_eq, decide_eq_true_eq, evOrd_swap x y]
    omega
theorem names_right {l : List Ev} (h : evsF l = 0) : NamesD l := by
  have := (evsGo_right l _ _ h).2.2.2.1
  exact this.imp (fun hab ⟨e1, e2⟩ => by have := hab e1; omega)
theorem names_perm {L S : List Ev} (h : NamesD L) (hp : S.Perm L) : NamesD S :=
  (hp.pairwise_iff (fun hab ⟨e1, e2⟩ => hab ⟨e1.symm, e2.symm⟩)).2 h
theorem sorted_strict {L S : List Ev} (hn : NamesD L) (h : SortedE L S) : S.Pairwise (fun a b => evOrd a b < 0) := by
  have hs := names_perm hn h.1
  refine (List.Pairwise.and h.2 hs).imp (fun {a b} hab => ?_)
  have h1 := hab.1
  rw [evOrd_swap a b] at h1
  have h2 : evOrd a b ≠ 0 := fun e => hab.2 (evOrd_zero e)
  omega
theorem sorted_uniq {L S T : List Ev} (hn : NamesD L) (h : SortedE L S) (k : SortedE L T) : S = T :=
  strict_uniq (r := fun a b => evOrd a b < 0) evOrd_irrefl (fun _ _ _ => evOrd_trans) (sorted_strict hn h) (sorted_strict hn k) (fun x => by rw [h.1.mem_iff, k.1.mem_iff])
theorem inA_some {a : List Ev} {x : Ev} {i : Nat} (h : inA a x = some i) : ∃ y, a[i]? = some y ∧ y.source = x.source ∧ y.no = x.no := tgt_some h
theorem newIn_iff {a : List Ev} {x : Ev} : newIn a x = true ↔ ∀ y ∈ a, ¬ (y.source = x.source ∧ y.no = x.no) := by
  unfold newIn inA
  rw [Option.isNone_iff_eq_none, tgt_none]
theorem names_mrg {a b : List Ev} (ha : evsF a = 0) (hb : NamesD b) : NamesD (mrgL a b) := by
  unfold mrgL NamesD
  rw [List.pairwise_append]
  refine ⟨names_right ha, hb.filter _, fun x hx y hy => ?_⟩
  exact newIn_iff.1 (List.mem_filter.1 hy).2 x hx
/-- What is wrong with two lists. -/
def twoF (a b : List Ev) : Int := orI [evsF a, evsF b]
theorem twoF_zero {a b : List Ev} : twoF a b = 0 ↔ evsF a = 0 ∧ evsF b = 0 := by
  unfold twoF orI orI orI
  by_cases h : evsF a = 0
  · rw [if_pos h]
    by_cases h2 : evsF b = 0
    · rw [if_pos h2]; simp [h, h2]
    · rw [if_neg h2]; simp [h2]
  · rw [if_neg h]; simp [h]
/-- What is wrong with the merged list of right ones; of any. -/
def mrgF1 (a b : List Ev) : Int := if mrgB a b = true then 13 else evsF (mrgS a b)
def mrgF (a b : List Ev) : Int := if twoF a b = 0 then mrgF1 a b else twoF a b
theorem mrg_take (a b : List Ev) (k : Nat) (h : k < b.length) : mrgL a (b.take (k + 1)) = if newIn a b[k] = true then mrgL a (b.take k) ++ [b[k]] else mrgL a (b.take k) := by
  unfold mrgL
  rw [List.take_add_one, List.getElem?_eq_getElem h, Option.toList_some, List.filter_append]
  by_cases hm : newIn a b[k] = true
  · rw [if_pos hm, List.filter_cons_of_pos hm, List.filter_nil, List.append_assoc]
  · rw [if_neg hm, List.filter_cons_of_neg hm, List.filter_nil, List.append_nil]
theorem clash_take (a b : List Ev) (k : Nat) (h : k < b.length) : (b.take (k + 1)).any (clash a) = ((b.take k).any (clash a) || clash a b[k]) := by
  rw [List.take_add_one, List.getElem?_eq_getElem h, Option.toList_some, List.any_append]; simp
theorem clash_at (a b : List Ev) (k : Nat) (h : k < b.length) (hc : clash a b[k] = true) : mrgB a b = true := List.any_eq_true.2 ⟨_, List.getElem_mem h, hc⟩
theorem mrgL_len (a b : List Ev) : (mrgL a b).length ≤ a.length + b.length := by
  unfold mrgL
  rw [List.length_append]
  have := List.length_filter_le (newIn a) b
  omega
/-- A step of the reference: the list so far names what a or the earlier ones of b name. -/
theorem idx_append {a c : List Ev} {x : Ev} (hc : ∀ y ∈ c, ¬ (y.source = x.source ∧ y.no = x.no)) : inA (a ++ c) x = inA a x := by
  unfold inA
  cases h : tgtF a x.source x.no with
  | none =>
    rw [tgt_none] at h ⊢
    intro y hy
    rcases List.mem_append.1 hy with hy | hy
    · exact h y hy
    · exact hc y hy
  | some i =>
    unfold tgtF at h ⊢
    rw [List.findIdx?_append, h]; rfl

/-- What one list lacks of another. -/
def lacksL (a b : List Ev) : List Ev := b.filter (fun x => decide (¬ x ∈ a))

/-- Two parts of right events. -/
def saB : ByteArray := ⟨#[115, 97]⟩
def pA (cut : Int) (x : Ev) : Bool := decide (x.no ≤ cut) || decide (x.source = saB)
def pB (cut : Int) (x : Ev) : Bool := decide (x.no ≤ cut) || !decide (x.source = saB)
def halfA (cut : Int) (l : List Ev) : List Ev := l.filter (pA cut)
def halfB (cut : Int) (l : List Ev) : List Ev := l.filter (pB cut)
/-- Parts of right events that hold all of them: merged they are all again. -/
structure Parts (l a b : List Ev) : Prop where
  right : evsF l = 0
  ra : evsF a = 0
  rb : evsF b = 0
  all_ : ∀ x, x ∈ l ↔ x ∈ a ∨ x ∈ b
theorem Parts.symm {l a b : List Ev} (h : Parts l a b) : Parts l b a := ⟨h.right, h.rb, h.ra, fun x => by rw [h.all_, or_comm]⟩
end Go.Proofs.YtfkmbeppckelfaaGreatDoor
/- The stream's two halves of events. -/
namespace Go.Proofs.YtfkmbeppckelfaaGreatDoor
open Go.RowKit

theorem half_take (p : Ev → Bool) (l : List Ev) (j : Nat) (h : j < l.length) : (l.take (j + 1)).filter p = if p l[j] = true then (l.take j).filter p ++ [l[j]] else (l.take j).filter p := by
  rw [List.take_add_one, List.getElem?_eq_getElem h, Option.toList_some, List.filter_append]
  by_cases hm : p l[j] = true
  · rw [if_pos hm, List.filter_cons_of_pos hm, List.filter_nil]
  · rw [if_neg hm, List.filter_cons_of_neg hm, List.filter_nil, List.append_nil]
/-- Two rows, apart. -/
structure TwoRows (w : World) (base : Nat) (v1 v2 : Value) (L M : List Ev) : Prop where
  r1 : w.ownsRow base 31 11 v1 L.length (L.flatMap encEvt)
  r2 : w.ownsRow base 31 11 v2 M.length (M.flatMap encEvt)
  apart : ∀ b, v1.ownBlock = some b → v2.ownBlock ≠ some b
theorem TwoRows.nx {w w' : World} {base : Nat} {v1 v2 : Value} {L M : List Ev} (h : TwoRows w base v1 v2 L M) (hn : Nx w w') : TwoRows w' base v1 v2 L M := ⟨own_nx h.r1 hn, own_nx h.r2 hn, h.apart⟩
theorem TwoRows.put1 {w w' : World} {base : Nat} {v1 v2 v : Value} {L M L' : List Ev} (h : TwoRows w base v1 v2 L M) (hg : w.grownBy w' v1.ownBlock) (hw : ∀ b, v.ownBlock = some b → v1.ownBlock = some b ∨ b = w.heap.size) (ho : w'.ownsRow base 31 11 v L'.length (L'.flatMap encEvt)) : TwoRows w' base v v2 L' M := by
  refine ⟨ho, h.r2.kept hg ?_, ?_⟩
  · cases h2 : v2.ownBlock with
    | none => exact .inl rfl
    | some b => exact .inr (fun e => h.apart b e.symm h2)
  · intro b hb h2
    rcases hw b hb with h1 | h1
    · exact h.apart b h1 h2
    · have := (h.r2.lt b h2).2; omega
theorem TwoRows.put2 {w w' : World} {base : Nat} {v1 v2 v : Value} {L M M' : List Ev} (h : TwoRows w base v1 v2 L M) (hg : w.grownBy w' v2.ownBlock) (hw : ∀ b, v.ownBlock = some b → v2.ownBlock = some b ∨ b = w.heap.size) (ho : w'.ownsRow base 31 11 v M'.length (M'.flatMap encEvt)) : TwoRows w' base v1 v L M' := by
  refine ⟨h.r1.kept hg ?_, ho, ?_⟩
  · cases h2 : v1.ownBlock with
    | none => exact .inl rfl
    | some b => exact .inr (fun e => h.apart b h2 e.symm)
  · intro b hb h2
    rcases hw b h2 with h1 | h1
    · exact h.apart b hb h1
    · have := (h.r1.lt b hb).2; omega
/-- Two parts of events. -/
def HalfOut (l : List Ev) (s k : Nat) (w : World) (e : Ending) (w' : World) : Prop :=
  ∃ (cut : Int) (v1 v2 : Value), e = .returned (.tuple #[v1, v2]) ∧ TwoRows w' w.heap.size v1 v2 (halfA cut l) (halfB cut l) ∧ Gr s w w' ∧ Str w' s (k + 1)
set_option maxRecDepth 100000 in
set_option maxHeartbeats 4000000 in
theorem w_HalfEvents (lo : Nat) (A : Option Addr) (c : Nat) (l : List Ev) (s k : Nat) (w : World) (hR : Rd w lo A 11 encEvt l) (hsl : s < lo) (hl : l.length ≤ 50) (hS : Str w s k) (hk : k < 700000) :
    Calls Tryz.prog 12 #[.pointer (some ⟨s, 0, none⟩), .slice A l.length c] w (HalfOut l s k w) := by
  have HR := hide hR
  obtain ⟨n, hn⟩ : ∃ n, n = l.length := ⟨_, rfl⟩
  rw [← hn] at hl ⊢
  have HN := hide hn
  have hsw := hS.lt
  clear hR hn
  go_enter Tryz.func12, Tryz.ntmps12
  go_wp2_with fail
  refine (w_Next 8 s k w hS (by omega) (by omega)).mono ?_
  rintro e w1 ⟨cut, hc1, hc2, rfl, hg1, hS1⟩
  have HG1 := hide hg1
  have HS1 := hide hS1
  have hz1 := hg1.sz
  clear hg1 hS1 hS
  go_wp2_with fail
  go_loopw [4, 5, 14] (fun v1 v2 i wr => ∃ j : Nat, j ≤ n ∧ i = .int .i64 j ∧ TwoRows wr w1.heap.size v1 v2 ((l.take j).filter (pA cut)) ((l.take j).filter (pB cut)) ∧ Nx w1 wr) (fun _ _ i _ => n - (intOf i).toNat)
  case atStart => exact ⟨0, Nat.zero_le _, rfl, ⟨World.ownsRow_nil _ _ _ _, World.ownsRow_nil _ _ _ _, fun b h => by cases h⟩, Nx.refl _⟩
  case round =>
    obtain ⟨j, hj, rfl, hT, hnx⟩ := hrel
    have HT := hide hT
    have HNX := hide hnx
    clear hT
    by_cases hlt : j < n
    · have hlt' : j < l.length := by have := HN.out; omega
      obtain ⟨b, off, rfl, _, hb, hbr, hc⟩ := (HR.out.gr HG1.out hsl).open_ hnx (by have := HN.out; omega)
      obtain ⟨c0, c1, c2, c3, c4, c5, c6, c7, c8, c9, c10⟩ := ev_cells (hc j hlt')
      have HA := hide (half_take (pA cut) l j hlt')
      have HB := hide (half_take (pB cut) l j hlt')
      have HLA := hide (show ((l.take j).filter (pA cut)).length ≤ 50 by have := List.length_filter_le (pA cut) (l.take j); have := List.length_take_le j l; have := HN.out; omega)
      have HLB := hide (show ((l.take j).filter (pB cut)).length ≤ 50 by have := List.length_filter_le (pB cut) (l.take j); have := List.length_take_le j l; have := HN.out; omega)
      clear hc hnx
      generalize (l.take j).filter (pA cut) = L at *
      generalize (l.take j).filter (pB cut) = M at *
      have hpA : pA cut l[j] = (decide (l[j].no ≤ cut) || decide (l[j].source = saB)) := rfl
      have hpB : pB cut l[j] = (decide (l[j].no ≤ cut) || !decide (l[j].source = saB)) := rfl
      generalize l[j] = x at *
      obtain ⟨so, no, at_, ki, ri, ca, nd, up, dn, fo, nu⟩ := x
      simp only at c0 c1 c2 c3 c4 c5 c6 c7 c8 c9 c10 hpA hpB
      have q1 : (0 : Int) ≤ (j : Int) := by omega
      have q2 : (j : Int) < (n : Int) := by omega
      have te : (so.toList == (⟨#[115, 97]⟩ : ByteArray).toList) = decide (so = saB) := eqS_iff _ _
      obtain ⟨e1, he1⟩ : ∃ e1, e1 = decide (no ≤ cut) := ⟨_, rfl⟩
      obtain ⟨e2, he2⟩ : ∃ e2, e2 = decide (so = saB) := ⟨_, rfl⟩
      rw [← he1, ← he2] at hpA hpB
      rw [← he2] at te
      have te2 : (so.toList == [115, 97]) = e2 := by rw [← te, Lib.toList_data ⟨#[115, 97]⟩]
      have he1' : decide (no ≤ cut) = e1 := he1.symm
      have HPA := hide hpA
      have HPB := hide hpB
      clear hpA hpB he1 he2
      cases e1
      · have hno : ¬ no ≤ cut := by simpa using he1'
        clear he1'
        cases e2
        · have HA2 := hide (HA.out.trans (if_neg (by rw [HPA.out]; decide)))
          have HB2 := hide (HB.out.trans (if_pos (by rw [HPB.out]; decide)))
          go_wp2_with (at_builtin; refine wpApp2 rfl _ _ _ rfl el_Evt encEvt encEvt_len encEvt_one (by omega) (by omega) w1.heap.size _ M rfl ((HT.out.nx (((Nx.refl wr).alloc _).alloc _)).r2) _ ⟨so, no, at_, ki, ri, ca, nd, up, dn, fo, nu⟩ _ rfl (hnew (by simp)) rfl (by have := HLB.out; omega) (by have := HNX.out.sz; simp; omega) ?_; intro v8 w8 hown8 hg8 hat8; (have HT8 := hide ((HT.out.nx (((Nx.refl wr).alloc _).alloc _)).put2 hg8 hat8 hown8)); (have HN8 := hide (((HNX.out.alloc _).alloc _).grown hg8 (fun p hp => own_blk_lt HT.out.r2 p hp))); clear hown8 hg8 hat8)
          go_roundw
          case rel => exact ⟨j + 1, by omega, by go_num, by rw [HA2.out, HB2.out]; exact HT8.out, HN8.out⟩
          case measure => simp [intOf]; omega
        · have HA2 := hide (HA.out.trans (if_pos (by rw [HPA.out]; decide)))
          have HB2 := hide (HB.out.trans (if_neg (by rw [HPB.out]; decide)))
          go_upto_region 8 with (at_builtin; refine wpApp2 rfl _ _ _ rfl el_Evt encEvt encEvt_len encEvt_one (by omega) (by omega) w1.heap.size _ L rfl ((HT.out.nx (((Nx.refl wr).alloc _).alloc _)).r1) _ ⟨so, no, at_, ki, ri, ca, nd, up, dn, fo, nu⟩ _ rfl (hnew (by simp)) rfl (by have := HLA.out; omega) (by have := HNX.out.sz; simp; omega) ?_; intro v8 w8 hown8 hg8 hat8; (have hb8 : w8.heap[wr.heap.size]? = some (.cells #[.string so, .int .i64 no, .int .i64 at_, .int .i64 ki, .string ri, .string ca, .string nd, .int .i64 up, .int .i64 dn, .string fo, .int .i64 nu] 31 (0, 0)) := (hg8.block wr.heap.size (by simp; omega) (fun e => by have := (HT.out.r1.lt _ e.symm).2; omega)).trans ((((Nx.refl _).alloc _).block _ (by simp)).trans (heap_alloc_new wr _))); (have HT8 := hide ((HT.out.nx (((Nx.refl wr).alloc _).alloc _)).put1 hg8 hat8 hown8)); (have HN8 := hide (((HNX.out.alloc _).alloc _).grown hg8 (fun p hp => own_blk_lt HT.out.r1 p hp))); clear hown8 hg8 hat8)
          have f0 := cell_of_row w8 _ 0 _ _ _ hb8
          have f1 := cell_of_row w8 _ 1 _ _ _ hb8
          have f2 := cell_of_row w8 _ 2 _ _ _ hb8
          have f3 := cell_of_row w8 _ 3 _ _ _ hb8
          have f4 := cell_of_row w8 _ 4 _ _ _ hb8
          have f5 := cell_of_row w8 _ 5 _ _ _ hb8
          have f6 := cell_of_row w8 _ 6 _ _ _ hb8
          have f7 := cell_of_row w8 _ 7 _ _ _ hb8
          have f8 := cell_of_row w8 _ 8 _ _ _ hb8
          have f9 := cell_of_row w8 _ 9 _ _ _ hb8
          have f10 := cell_of_row w8 _ 10 _ _ _ hb8
          simp at f0 f1 f2 f3 f4 f5 f6 f7 f8 f9 f10
          have hl8 := (Array.getElem?_eq_some_iff.1 hb8).1
          clear hb8
          go_wp2_with fail
          go_roundw
          case rel => exact ⟨j + 1, by omega, by go_num, by rw [HA2.out, HB2.out]; exact HT8.out, HN8.out⟩
          case measure => simp [intOf]; omega
      · have hno : no ≤ cut := by simpa using he1'
        clear he1'
        have HA2 := hide (HA.out.trans (if_pos (by rw [HPA.out]; rfl)))
        have HB2 := hide (HB.out.trans (if_pos (by rw [HPB.out]; rfl)))
        go_upto_region 8 with (at_builtin; refine wpApp2 rfl _ _ _ rfl el_Evt encEvt encEvt_len encEvt_one (by omega) (by omega) w1.heap.size _ L rfl ((HT.out.nx (((Nx.refl wr).alloc _).alloc _)).r1) _ ⟨so, no, at_, ki, ri, ca, nd, up, dn, fo, nu⟩ _ rfl (hnew (by simp)) rfl (by have := HLA.out; omega) (by have := HNX.out.sz; simp; omega) ?_; intro v8 w8 hown8 hg8 hat8; (have hb8 : w8.heap[wr.heap.size]? = some (.cells #[.string so, .int .i64 no, .int .i64 at_, .int .i64 ki, .string ri, .string ca, .string nd, .int .i64 up, .int .i64 dn, .string fo, .int .i64 nu] 31 (0, 0)) := (hg8.block wr.heap.size (by simp; omega) (fun e => by have := (HT.out.r1.lt _ e.symm).2; omega)).trans ((((Nx.refl _).alloc _).block _ (by simp)).trans (heap_alloc_new wr _))); (have HT8 := hide ((HT.out.nx (((Nx.refl wr).alloc _).alloc _)).put1 hg8 hat8 hown8)); (have HN8 := hide (((HNX.out.alloc _).alloc _).grown hg8 (fun p hp => own_blk_lt HT.out.r1 p hp))); clear hown8 hg8 hat8)
        have f0 := cell_of_row w8 _ 0 _ _ _ hb8
        have f1 := cell_of_row w8 _ 1 _ _ _ hb8
        have f2 := cell_of_row w8 _ 2 _ _ _ hb8
        have f3 := cell_of_row w8 _ 3 _ _ _ hb8
        have f4 := cell_of_row w8 _ 4 _ _ _ hb8
        have f5 := cell_of_row w8 _ 5 _ _ _ hb8
        have f6 := cell_of_row w8 _ 6 _ _ _ hb8
        have f7 := cell_of_row w8 _ 7 _ _ _ hb8
        have f8 := cell_of_row w8 _ 8 _ _ _ hb8
        have f9 := cell_of_row w8 _ 9 _ _ _ hb8
        have f10 := cell_of_row w8 _ 10 _ _ _ hb8
        simp at f0 f1 f2 f3 f4 f5 f6 f7 f8 f9 f10
        have hl8 := (Array.getElem?_eq_some_iff.1 hb8).1
        clear hb8
        go_wp2_with (at_builtin; refine wpApp2 rfl _ _ _ rfl el_Evt encEvt encEvt_len encEvt_one (by omega) (by omega) w1.heap.size _ M rfl ((HT8.out.nx ((Nx.refl w8).alloc _)).r2) _ ⟨so, no, at_, ki, ri, ca, nd, up, dn, fo, nu⟩ _ rfl (hnew (by simp)) rfl (by have := HLB.out; omega) (by have := HN8.out.sz; simp; omega) ?_; intro v9 w9 hown9 hg9 hat9; (have HT9 := hide ((HT8.out.nx ((Nx.refl w8).alloc _)).put2 hg9 hat9 hown9)); (have HN9 := hide ((HN8.out.alloc _).grown hg9 (fun p hp => own_blk_lt HT8.out.r2 p hp))); clear hown9 hg9 hat9)
        go_roundw
        case rel => exact ⟨j + 1, by omega, by go_num, by rw [HA2.out, HB2.out]; exact HT9.out, HN9.out⟩
        case measure => simp [intOf]; omega
    · obtain rfl : j = n := by omega
      have ht : l.take j = l := List.take_of_length_le (by have := HN.out; omega)
      rw [ht] at HT
      go_wp2_with fail
      go_ret2
      exact ⟨cut, _, _, rfl, ⟨HT.out.r1.mono hz1, HT.out.r2.mono hz1, HT.out.apart⟩, HG1.out.then_nx HNX.out, HS1.out.nx HNX.out⟩
end Go.Proofs.YtfkmbeppckelfaaGreatDoor
/- The stream's new event. -/
namespace Go.Proofs.YtfkmbeppckelfaaGreatDoor
open Go.RowKit Go.Maps

/-- A new event of the stream's. -/
def NewOut (s k : Nat) (w : World) (e : Ending) (w' : World) : Prop := ∃ x : Ev, e = .returned (.agg (evA x)) ∧ okEv x ∧ Gr s w w' ∧ Str w' s (k + 420)
set_option maxRecDepth 100000 in
set_option maxHeartbeats 2000000 in
theorem w_NewEvent (lo : Nat) (A : Option Addr) (c : Nat) (l : List Ev) (at_ : Int) (s k : Nat) (w : World) (hR : Rd w lo A 11 encEvt l) (hsl : s < lo) (_hlw : lo ≤ w.heap.size) (hl : l.length ≤ 40) (hc : l.length ≤ c) (hok : ∀ x ∈ l, okEv x) (hat : 0 ≤ at_ ∧ at_ ≤ 1000000) (hS : Str w s k) (hk : k < 600000) :
    Calls Tryz.prog 14 #[.pointer (some ⟨s, 0, none⟩), .slice A l.length c, .int .i64 at_] w (NewOut s k w) := by
  obtain ⟨w1, hw1⟩ : ∃ w1, w1 = w.alloc (.cells #[.string ⟨#[]⟩, .int .i64 0, .int .i64 0, .int .i64 0, .string ⟨#[]⟩, .string ⟨#[]⟩, .string ⟨#[]⟩, .int .i64 0, .int .i64 0, .string ⟨#[]⟩, .int .i64 0] 31 (0, 0)) := ⟨_, rfl⟩
  obtain ⟨g6, hg6⟩ : ∃ g6, g6 = w.heap.size := ⟨_, rfl⟩
  have hn1 : Nx w w1 := hw1 ▸ (Nx.refl w).alloc _
  have hb1 : w1.heap[g6]? = some (.cells #[.string ⟨#[]⟩, .int .i64 0, .int .i64 0, .int .i64 0, .string ⟨#[]⟩, .string ⟨#[]⟩, .string ⟨#[]⟩, .int .i64 0, .int .i64 0, .string ⟨#[]⟩, .int .i64 0] 31 (0, 0)) := by rw [hw1, hg6]; exact heap_alloc_new w _
  have hz1 : w1.heap.size = g6 + 1 := by rw [hw1, hg6]; simp
  have hsw := hS.lt
  have HEV := hide (w_event lo A c l at_ s k w1 (hR.nx hn1) hsl hl hc hok (by omega) (hS.nx hn1) (by omega))
  have HN1 := hide hn1
  have HB1 := hide hb1
  have HG6 := hide hg6
  have HZ1 := hide hz1
  clear hb1 hS hR hok hn1 hz1
  generalize l.length = n at *
  have hsg : s < g6 := by have := HG6.out; omega
  have hgs6 : g6 ≠ s := by omega
  go_enter Tryz.func14, Tryz.ntmps14
  go_upto_region 1 with fail
  rw [← hw1, ← hg6]
  clear hw1 hg6
  go_wp2_with fail
  refine HEV.out.mono ?_
  rintro e w2 ⟨x, rfl, hxo, hg2, hS2⟩
  have HXO := hide hxo
  have HG2 := hide hg2
  have HS2 := hide hS2
  have hb2 := (hg2.block g6 (by have := HZ1.out; omega) (by intro e; injection e with e; exact hgs6 e)).trans HB1.out
  have HB2 := hide hb2
  have hz2 : g6 + 1 ≤ w2.heap.size := by have := hg2.sz; have := HZ1.out; omega
  obtain ⟨xso, xno, xat, xki, xri, xca, xnd, xup, xdn, xfo, xnu⟩ := x
  unfold evA
  simp only
  clear hxo hg2 hS2 hb2 HEV
  obtain ⟨b, hb⟩ : ∃ b, b = w2.heap.size := ⟨_, rfl⟩
  obtain ⟨w3, hw3⟩ : ∃ w3, w3 = w2.alloc (.cells #[.string xso, .int .i64 xno, .int .i64 xat, .int .i64 xki, .string xri, .string xca, .string xnd, .int .i64 xup, .int .i64 xdn, .string xfo, .int .i64 xnu] 31 (0, 0)) := ⟨_, rfl⟩
  have hb3 : w3.heap[b]? = some (.cells #[.string xso, .int .i64 xno, .int .i64 xat, .int .i64 xki, .string xri, .string xca, .string xnd, .int .i64 xup, .int .i64 xdn, .string xfo, .int .i64 xnu] 31 (0, 0)) := by rw [hw3, hb]; exact heap_alloc_new w2 _
  have hn3 : Nx w2 w3 := hw3 ▸ (Nx.refl w2).alloc _
  have hsb : s < b := by omega
  have hbs : b ≠ s := by omega
  have hg6b : g6 ≠ b := by omega
  have hg6b' : g6 < b := by omega
  have EB := boxE_ev b
  have HT3 := hide (show TyW s b k (BoxE b) w1 200 w3 from ⟨Two.of_gr (HG2.out.then_nx hn3), (HS2.out.nx hn3).more (by omega), ⟨⟨xso, xno, xat, xki, xri, xca, xnd, xup, xdn, xfo, xnu⟩, HXO.out, hb3⟩⟩)
  clear hb3 hn3
  go_upto_region 2 with fail
  rw [← hw3, ← hb]
  clear hw3 hb
  go_wp2_with fail
  refine (w_Some _ [⟨#[115, 97]⟩, ⟨#[115, 98]⟩, ⟨#[115, 99]⟩] _ s _ _ (HT3.out.str.nx ((Nx.refl _).alloc _)) (by omega) (hnew rfl) (by have := HT3.out.str.lt; omega) rfl (by simp) (by simp)).mono ?_
  rintro e w4 ⟨so2, hm4, rfl, hg4, hs4⟩
  have hz4 : so2.size ≤ 1000 := by
    simp only [List.mem_cons, List.not_mem_nil, or_false] at hm4
    rcases hm4 with rfl | rfl | rfl <;> decide
  have HT4 := hide ((HT3.out.alloc0 EB _).gr0 EB hbs hg4 hs4 (by omega))
  obtain ⟨y4, hy4, hb4⟩ := HT4.out.box
  obtain ⟨yso, yno, yat, yki, yri, yca, ynd, yup, ydn, yfo, ynu⟩ := y4
  have hb4' : w4.heap[b]? = some (.cells #[.string yso, .int .i64 yno, .int .i64 yat, .int .i64 yki, .string yri, .string yca, .string ynd, .int .i64 yup, .int .i64 ydn, .string yfo, .int .i64 ynu] 31 (0, 0)) := hb4
  obtain ⟨d0, d1, d2, d3, d4, d5, d6, d7, d8, d9, d10⟩ := evb_cells hb4'
  have hbl4 := (Array.getElem?_eq_some_iff.1 hb4').1
  have z4 : ∀ i, w4.frozen? ⟨b, i, none⟩ = false := fun i => by simp [World.frozen?, hb4']
  have HB4 := hide hb4'
  obtain ⟨w5, hw5⟩ : ∃ w5, w5 = (w4.setCell ⟨b, 0, none⟩ (.string so2)).setCell ⟨b, 2, none⟩ (.int .i64 at_) := ⟨_, rfl⟩
  have HT5 := hide (show TyW s b k (BoxE b) w1 201 w5 by
    rw [hw5]; exact (HT4.out.setS0 EB hsb (j := 0) (by decide) hz4).setI0 EB hsb (j := 2) (by decide) (by omega))
  clear hb4 hb4' hy4 hg4 hs4 hm4
  go_upto_region 3 with fail
  rw [← hw5]
  clear hw5 d0 d1 d2 d3 d4 d5 d6 d7 d8 d9 d10 z4
  go_upto_if 19 with (go_at_call 13; refine (w_Flip 20 s _ _ HT5.out.str (by omega) (by omega)).mono ?_; rintro e w6 ⟨bo, rfl, hg6', hS6⟩; (have HT6 := hide (HT5.out.gr0 EB hbs hg6' hS6 (by omega))); clear hg6' hS6)
  go_cut [] (fun wx => TyW s b k (BoxE b) w1 206 wx)
  case first =>
    cases bo with
    | false =>
      go_wp2_with fail
      go_meet
      exact HT6.out.up (by omega)
    | true =>
      go_wp2_with fail
      refine (w_PickI _ [0, 1] _ s _ _ (HT6.out.str.nx ((Nx.refl _).alloc _)) (by omega) (hnew rfl) (by have := HT6.out.str.lt; omega) rfl (by simp) (by simp)).mono ?_
      rintro e w7 ⟨no2, hm7, rfl, hg7, hs7⟩
      have hz7 : -1000000000000000 ≤ no2 ∧ no2 ≤ 1000000000000000 := by
        simp only [List.mem_cons, List.not_mem_nil, or_false] at hm7
        rcases hm7 with rfl | rfl <;> decide
      have HT7 := hide ((HT6.out.alloc0 EB _).gr0 EB hbs hg7 hs7 (by omega))
      clear hm7 hg7 hs7
      go_wp2_with fail
      refine (w_Some _ [⟨#[65]⟩, ⟨#[115, 97]⟩] _ s _ _ (HT7.out.str.nx ((Nx.refl _).alloc _)) (by omega) (hnew rfl) (by have := HT7.out.str.lt; omega) rfl (by simp) (by simp)).mono ?_
      rintro e w8 ⟨so8, hm8, rfl, hg8, hs8⟩
      have hz8 : so8.size ≤ 1000 := by
        simp only [List.mem_cons, List.not_mem_nil, or_false] at hm8
        rcases hm8 with rfl | rfl <;> decide
      have HT8 := hide ((HT7.out.alloc0 EB _).gr0 EB hbs hg8 hs8 (by omega))
      obtain ⟨y8, hy8, hb8⟩ := HT8.out.box
      obtain ⟨yso, yno, yat, yki, yri, yca, ynd, yup, ydn, yfo, ynu⟩ := y8
      have hb8' : w8.heap[b]? = some (.cells #[.string yso, .int .i64 yno, .int .i64 yat, .int .i64 yki, .string yri, .string yca, .string ynd, .int .i64 yup, .int .i64 ydn, .string yfo, .int .i64 ynu] 31 (0, 0)) := hb8
      obtain ⟨d0, d1, d2, d3, d4, d5, d6, d7, d8, d9, d10⟩ := evb_cells hb8'
      have hbl8 := (Array.getElem?_eq_some_iff.1 hb8').1
      have z8 : ∀ i, w8.frozen? ⟨b, i, none⟩ = false := fun i => by simp [World.frozen?, hb8']
      clear hm8 hg8 hs8 hb8 hb8' hy8
      go_wp2_with fail
      go_meet
      exact ((HT8.out.setI0 EB hsb (j := 1) (by decide) hz7).setS0 EB hsb (j := 0) (by decide) hz8).up (by omega)
  case rest =>
    obtain ⟨w30, hw30⟩ : ∃ w30, w30 = wc := ⟨_, rfl⟩
    rw [← hw30] at hcut ⊢
    have HT30 := hide hcut
    clear hw30 hcut
    obtain ⟨x, hxo, hB30⟩ := HT30.out.box
    have HXO2 := hide hxo
    obtain ⟨yso, yno, yat, yki, yri, yca, ynd, yup, ydn, yfo, ynu⟩ := x
    have hB30' : w30.heap[b]? = some (.cells #[.string yso, .int .i64 yno, .int .i64 yat, .int .i64 yki, .string yri, .string yca, .string ynd, .int .i64 yup, .int .i64 ydn, .string yfo, .int .i64 ynu] 31 (0, 0)) := hB30
    obtain ⟨d0, d1, d2, d3, d4, d5, d6, d7, d8, d9, d10⟩ := evb_cells hB30'
    have hbl30 := (Array.getElem?_eq_some_iff.1 hB30').1
    have hgl1 := (Array.getElem?_eq_some_iff.1 HB1.out).1
    have hG6 := (HT30.out.two.2.2.2.2 g6 hgl1 hgs6 hg6b).trans HB1.out
    obtain ⟨y0, y1, y2, y3, y4, y5, y6, y7, y8, y9, y10⟩ := evb_cells hG6
    have hgl30 := (Array.getElem?_eq_some_iff.1 hG6).1
    have hfz : ∀ i, w30.frozen? ⟨g6, i, none⟩ = false := fun i => by simp [World.frozen?, hG6]
    have hwg : w.heap.size ≤ g6 := by have := HG6.out; omega
    have HGF := hide ((Gr.of_nx HN1.out : Gr s w w1).trans (HT30.out.two.toGr (by have := HZ1.out; omega)))
    have HSF := hide HT30.out.str
    have HG6' := hide hG6
    clear hB30 hB30' hG6 hxo
    go_wp2_with fail
    exact bodyPost_ret (v := .agg #[.string yso, .int .i64 yno, .int .i64 yat, .int .i64 yki, .string yri, .string yca, .string ynd, .int .i64 yup, .int .i64 ydn, .string yfo, .int .i64 ynu]) (by simp [results, Tryz.results14, go_sem, y0, y1, y2, y3, y4, y5, y6, y7, y8, y9, y10]) rfl ⟨⟨yso, yno, yat, yki, yri, yca, ynd, yup, ydn, yfo, ynu⟩, rfl, HXO2.out, by repeat (first | with_reducible exact HGF.out | with_reducible refine Gr.setg ?_ hwg), by refine Str.more (k := k + 2 * 206) ?_ (by omega); repeat (first | with_reducible exact HSF.out | with_reducible refine Str.setg ?_ hsg)⟩
end Go.Proofs.YtfkmbeppckelfaaGreatDoor
/- The events' order: nothing but new blocks. -/
namespace Go.Proofs.YtfkmbeppckelfaaGreatDoor
open Go.RowKit

set_option maxRecDepth 100000 in
set_option maxHeartbeats 2000000 in
theorem w_byMomentL (a b : Ev) (w : World) : Calls Tryz.prog 45 #[.agg (evA a), .agg (evA b)] w fun e w' => e = .returned (.int .i64 (evOrd a b)) ∧ Lays w w' := by
  unfold evA
  obtain ⟨w2, hw2⟩ : ∃ w2, w2 = (w.alloc (.cells #[.string a.source, .int .i64 a.no, .int .i64 a.at_, .int .i64 a.kind, .string a.ride, .string a.car, .string a.node, .int .i64 a.up, .int .i64 a.down, .string a.from_, .int .i64 a.number] 31 (0, 0))).alloc (.cells #[.string b.source, .int .i64 b.no, .int .i64 b.at_, .int .i64 b.kind, .string b.ride, .string b.car, .string b.node, .int .i64 b.up, .int .i64 b.down, .string b.from_, .int .i64 b.number] 31 (0, 0)) := ⟨_, rfl⟩
  have hn2 : Lays w w2 := hw2 ▸ ((Lays.refl w).alloc _).alloc _
  have hb : w2.heap[w.heap.size + 1]? = some (.cells #[.string b.source, .int .i64 b.no, .int .i64 b.at_, .int .i64 b.kind, .string b.ride, .string b.car, .string b.node, .int .i64 b.up, .int .i64 b.down, .string b.from_, .int .i64 b.number] 31 (0, 0)) := by
    rw [hw2]
    have := heap_alloc_new (w.alloc (.cells #[.string a.source, .int .i64 a.no, .int .i64 a.at_, .int .i64 a.kind, .string a.ride, .string a.car, .string a.node, .int .i64 a.up, .int .i64 a.down, .string a.from_, .int .i64 a.number] 31 (0, 0))) (.cells #[.string b.source, .int .i64 b.no, .int .i64 b.at_, .int .i64 b.kind, .string b.ride, .string b.car, .string b.node, .int .i64 b.up, .int .i64 b.down, .string b.from_, .int .i64 b.number] 31 (0, 0))
    simpa using this
  have ha : w2.heap[w.heap.size]? = some (.cells #[.string a.source, .int .i64 a.no, .int .i64 a.at_, .int .i64 a.kind, .string a.ride, .string a.car, .string a.node, .int .i64 a.up, .int .i64 a.down, .string a.from_, .int .i64 a.number] 31 (0, 0)) := by
    rw [hw2]; exact (((Nx.refl _).alloc _).block _ (by simp)).trans (heap_alloc_new w _)
  have a0 : w2.cell? ⟨w.heap.size, 0, none⟩ = some (.string a.source) := cell_of_row w2 _ 0 _ _ _ ha
  have a1 : w2.cell? ⟨w.heap.size, 1, none⟩ = some (.int .i64 a.no) := cell_of_row w2 _ 1 _ _ _ ha
  have a2 : w2.cell? ⟨w.heap.size, 2, none⟩ = some (.int .i64 a.at_) := cell_of_row w2 _ 2 _ _ _ ha
  have b0 : w2.cell? ⟨w.heap.size + 1, 0, none⟩ = some (.string b.source) := cell_of_row w2 _ 0 _ _ _ hb
  have b1 : w2.cell? ⟨w.heap.size + 1, 1, none⟩ = some (.int .i64 b.no) := cell_of_row w2 _ 1 _ _ _ hb
  have b2 : w2.cell? ⟨w.heap.size + 1, 2, none⟩ = some (.int .i64 b.at_) := cell_of_row w2 _ 2 _ _ _ hb
  have HN2 := hide hn2
  clear ha hb hn2
  go_enter Tryz.func45, Tryz.ntmps45
  go_upto_region 1 with fail
  rw [← hw2]
  clear hw2
  refine wp_region_still_tail 15 (by kernel_rfl) (by kernel_rfl) ?_
  simp only [List.take_succ_cons, List.take_zero, List.drop_succ_cons, List.drop_zero]
  still_step; still_step; still_step; still_step
  still_call (flipc (w_Compare _ _ _))
  still_step; still_step; still_step; still_step
  still_call (flipc (w_CompareS _ _ _))
  still_step; still_step; still_step; still_step
  still_call (flipc (w_Compare _ _ _))
  refine wpStill_nil ?_
  go_wp2_with (go_at_call 82; refine (w_OrI3 (cmpI a.at_ b.at_) (cmpS a.source b.source) (cmpI a.no b.no) _ _ _ (hnew_drew (by simp))).mono ?_; rintro e w' ⟨rfl, rfl⟩)
  go_ret
  exact ⟨rfl, (HN2.out.alloc _).drew⟩
set_option maxRecDepth 100000 in
set_option maxHeartbeats 2000000 in
theorem w_EventOrderL (a b : Ev) (w : World) : Calls Tryz.prog 43 #[.agg (evA a), .agg (evA b)] w fun e w' => e = .returned (.int .i64 (evOrd a b)) ∧ Lays w w' := by
  unfold evA
  obtain ⟨w2, hw2⟩ : ∃ w2, w2 = (w.alloc (.cells #[.string a.source, .int .i64 a.no, .int .i64 a.at_, .int .i64 a.kind, .string a.ride, .string a.car, .string a.node, .int .i64 a.up, .int .i64 a.down, .string a.from_, .int .i64 a.number] 31 (0, 0))).alloc (.cells #[.string b.source, .int .i64 b.no, .int .i64 b.at_, .int .i64 b.kind, .string b.ride, .string b.car, .string b.node, .int .i64 b.up, .int .i64 b.down, .string b.from_, .int .i64 b.number] 31 (0, 0)) := ⟨_, rfl⟩
  have hn2 : Lays w w2 := hw2 ▸ ((Lays.refl w).alloc _).alloc _
  have hb : w2.heap[w.heap.size + 1]? = some (.cells #[.string b.source, .int .i64 b.no, .int .i64 b.at_, .int .i64 b.kind, .string b.ride, .string b.car, .string b.node, .int .i64 b.up, .int .i64 b.down, .string b.from_, .int .i64 b.number] 31 (0, 0)) := by
    rw [hw2]
    have := heap_alloc_new (w.alloc (.cells #[.string a.source, .int .i64 a.no, .int .i64 a.at_, .int .i64 a.kind, .string a.ride, .string a.car, .string a.node, .int .i64 a.up, .int .i64 a.down, .string a.from_, .int .i64 a.number] 31 (0, 0))) (.cells #[.string b.source, .int .i64 b.no, .int .i64 b.at_, .int .i64 b.kind, .string b.ride, .string b.car, .string b.node, .int .i64 b.up, .int .i64 b.down, .string b.from_, .int .i64 b.number] 31 (0, 0))
    simpa using this
  have ha : w2.heap[w.heap.size]? = some (.cells #[.string a.source, .int .i64 a.no, .int .i64 a.at_, .int .i64 a.kind, .string a.ride, .string a.car, .string a.node, .int .i64 a.up, .int .i64 a.down, .string a.from_, .int .i64 a.number] 31 (0, 0)) := by
    rw [hw2]; exact (((Nx.refl _).alloc _).block _ (by simp)).trans (heap_alloc_new w _)
  have a0 : w2.cell? ⟨w.heap.size, 0, none⟩ = some (.string a.source) := cell_of_row w2 _ 0 _ _ _ ha
  have a1 : w2.cell? ⟨w.heap.size, 1, none⟩ = some (.int .i64 a.no) := cell_of_row w2 _ 1 _ _ _ ha
  have a2 : w2.cell? ⟨w.heap.size, 2, none⟩ = some (.int .i64 a.at_) := cell_of_row w2 _ 2 _ _ _ ha
  have b0 : w2.cell? ⟨w.heap.size + 1, 0, none⟩ = some (.string b.source) := cell_of_row w2 _ 0 _ _ _ hb
  have b1 : w2.cell? ⟨w.heap.size + 1, 1, none⟩ = some (.int .i64 b.no) := cell_of_row w2 _ 1 _ _ _ hb
  have b2 : w2.cell? ⟨w.heap.size + 1, 2, none⟩ = some (.int .i64 b.at_) := cell_of_row w2 _ 2 _ _ _ hb
  have HN2 := hide hn2
  clear ha hb hn2
  go_enter Tryz.func43, Tryz.ntmps43
  go_upto_region 1 with fail
  rw [← hw2]
  clear hw2
  refine wp_region_still_tail 15 (by kernel_rfl) (by kernel_rfl) ?_
  simp only [List.take_succ_cons, List.take_zero, List.drop_succ_cons, List.drop_zero]
  still_step; still_step; still_step; still_step
  still_call (flipc (w_Compare _ _ _))
  still_step; still_step; still_step; still_step
  still_call (flipc (w_CompareS _ _ _))
  still_step; still_step; still_step; still_step
  still_call (flipc (w_Compare _ _ _))
  refine wpStill_nil ?_
  go_wp2_with (go_at_call 82; refine (w_OrI3 (cmpI a.at_ b.at_) (cmpS a.source b.source) (cmpI a.no b.no) _ _ _ (hnew_drew (by simp))).mono ?_; rintro e w' ⟨rfl, rfl⟩)
  go_ret
  exact ⟨rfl, (HN2.out.alloc _).drew⟩
end Go.Proofs.YtfkmbeppckelfaaGreatDoor
/- slices.SortFunc over a row of the call's own, elements of K cells: what the row holds behind it. Of no program. -/
namespace Go.Proofs.YtfkmbeppckelfaaGreatDoor
open Go.RowKit Go.Sort Go.Proofs Go.Shelf

/-- slices.SortFunc, a comparison that parts whatever two that are not one: the sorted list. -/
theorem sortFunc {α : Type} [Inhabited α] {P : Program} {ρ : Ren} (L : SlLaysF0.n6 P ρ) (K : Nat) (hK : 0 < K) (aE : ∀ w, (isAgg (ρ.t 24)).run P w = .ok true w) (zE : ∀ w, (Go.sizeOf (ρ.t 24)).run P w = .ok K w) (enc : α → List Value) (hk : ∀ x, (enc x).length = K) (h1 : ∀ x, ∀ v ∈ enc x, v.oneCell' = true)
    (cf : α → α → Int) (hO : SWO (ltOf cf)) (g : Nat) (eg : ∀ args w, (callFunc g args).run P w = .ok (.enter g args) w)
    (hcmp : ∀ x y W, Calls P g #[.agg (enc x).toArray, .agg (enc y).toArray] W fun e w' => e = .returned (.int .i64 (cf x y)) ∧ Lays W w')
    {w : World} {base b cap n : Nat} {e : TypeId} {xs : List α} (hn : xs.length = n) (hsz : n < 4611686018427387904) (h : w.ownsRow base e K (.slice (some ⟨b, 0, none⟩) n cap) n (xs.flatMap enc)) :
    Calls P (ρ.f 6) #[.slice (some ⟨b, 0, none⟩) n cap, .func (.func g) #[] #[]] w fun en w' => en = .returned (.tuple #[]) ∧
      ∃ ys : List α, ys.Perm xs ∧ (∀ i j (hi : i < j) (hj : j < ys.length), ltOf cf ys[j] (ys[i]'(by omega)) = false) ∧ w'.ownsRow base e K (.slice (some ⟨b, 0, none⟩) n cap) n (ys.flatMap enc) ∧ Gr b w w' := by
  have hlt := (h.lt b rfl)
  have hH := holds_of_own hk hK hn h
  have hc : CmpLays P g #[] enc K cf b 0 xs.toArray.size w := fun m os dk _ x y => by
    rw [Array.append_empty]
    exact hcmp x y _
  have hs := AnyQ.slices_SortFunc L K aE zE enc hk h1 cf hO g #[] b 0 cap xs.toArray w eg hc hH hlt.2 (by simpa [hn] using hsz)
  have e1 : xs.toArray.size = n := by simpa using hn
  rw [e1] at hs
  refine hs.mono fun en w' ⟨he, d', m, os, hp, hso, hw⟩ => ⟨he, d'.toList, ?_, ?_, ?_⟩
  · have h3 := hp.2.2
    have h4 := hp.1
    rw [e1] at h4
    have e2 : d'.extract 0 n = d' := by rw [← h4]; simp
    have e3 : xs.toArray.extract 0 n = xs.toArray := by rw [← e1]; simp
    rw [e2, e3] at h3
    simpa using h3
  · intro i j hi hj
    have hj' : j < d'.size := by simpa using hj
    have h4 := hp.1
    rw [e1] at h4
    have := hso i j (Nat.zero_le _) hi (by omega)
    rw [getElem!_pos d' j hj', getElem!_pos d' i (by omega)] at this
    simpa using this
  · have h4 := hp.1
    rw [e1] at h4
    have := own_of_sorted hk hK h d'.toList (by simpa using h4) m os
    rw [hw]
    simpa using this
end Go.Proofs.YtfkmbeppckelfaaGreatDoor
/- Events sorted. -/
namespace Go.Proofs.YtfkmbeppckelfaaGreatDoor
open Go.RowKit Go.Sort Go.Shelf Go.Proofs

theorem ev_lt {a b : Ev} : ltOf evOrd a b = true ↔ evOrd a b < 0 := by
  unfold ltOf
  rw [decide_eq_true_eq]
theorem ev_nlt {a b : Ev} : ltOf evOrd a b = false ↔ 0 ≤ evOrd a b := by
  unfold ltOf
  rw [decide_eq_false_iff_not]; omega
theorem swoEv : SWO (ltOf evOrd) where
  irrefl x := ev_nlt.2 (by have := evOrd_irrefl x; omega)
  trans x y z h1 h2 := ev_lt.2 (evOrd_trans (ev_lt.1 h1) (ev_lt.1 h2))
  ntrans x y z h1 h2 := ev_nlt.2 (by
    have h1 := ev_nlt.1 h1
    have h2 := ev_nlt.1 h2
    have := evOrd_ntrans (a := x) (b := y) (c := z) (by omega) (by omega)
    omega)
instance : Inhabited Ev := ⟨ev0⟩
theorem enters_byMoment : ∀ args w, (callFunc 45 args).run Tryz.prog w = .ok (.enter 45 args) w := enters_of Tryz.func45 (by kernel_rfl) rfl
theorem enters_EventOrder : ∀ args w, (callFunc 43 args).run Tryz.prog w = .ok (.enter 43 args) w := enters_of Tryz.func43 (by kernel_rfl) rfl
/-- slices.SortFunc of events, on a row of the call's own. -/
theorem w_SortEvG (g : Nat) (eg : ∀ args w, (callFunc g args).run Tryz.prog w = .ok (.enter g args) w) (hcmp : ∀ (x y : Ev) W, Calls Tryz.prog g #[.agg (encEvt x).toArray, .agg (encEvt y).toArray] W fun e w' => e = .returned (.int .i64 (evOrd x y)) ∧ Lays W w')
    {base n : Nat} {v : Value} {L : List Ev} (w : World) (hn : L.length = n) (hl : n ≤ 100000) (h : w.ownsRow base 31 11 v n (L.flatMap encEvt)) :
    Calls Tryz.prog 48 #[v, .func (.func g) #[] #[]] w fun e w' => e = .returned (.tuple #[]) ∧ ∃ ys : List Ev, SortedE L ys ∧ w'.ownsRow base 31 11 v n (ys.flatMap encEvt) ∧ w.grownBy w' v.ownBlock := by
  have h0 := h
  rcases h.2 with ⟨rfl, h1⟩ | ⟨b, cap, cur, rfl, hg, _⟩
  · obtain rfl : n = 0 := h1
    have hL : L = [] := List.eq_nil_of_length_eq_zero hn
    subst hL
    refine (AnyF.slices_SortFunc_none (P := Tryz.prog) { Tryz.sortEv with } none 0 (.func (.func g) #[] #[]) w).mono ?_
    rintro e w' ⟨rfl, rfl⟩
    exact ⟨rfl, [], ⟨List.Perm.refl _, List.Pairwise.nil⟩, h0, World.grownBy.refl _ _⟩
  · refine (sortFunc Tryz.sortEv 11 (by omega) Tryz.isAgg31 Tryz.sizeOf31 encEvt encEvt_len encEvt_one evOrd swoEv g eg hcmp (base := base) (b := b) (cap := cap) (xs := L) hn (by omega) h).mono ?_
    rintro e w' ⟨rfl, ys, hp, hs, ho, hgr⟩
    refine ⟨rfl, ys, ⟨hp, ?_⟩, ho, hgr⟩
    rw [List.pairwise_iff_getElem]
    intro i j hi hj hij
    exact ev_nlt.1 (hs i j hij hj)
theorem w_SortEv {base n : Nat} {v : Value} {L : List Ev} (w : World) (hn : L.length = n) (hl : n ≤ 100000) (h : w.ownsRow base 31 11 v n (L.flatMap encEvt)) :
    Calls Tryz.prog 48 #[v, .func (.func 45) #[] #[]] w fun e w' => e = .returned (.tuple #[]) ∧ ∃ ys : List Ev, SortedE L ys ∧ w'.ownsRow base 31 11 v n (ys.flatMap encEvt) ∧ w.grownBy w' v.ownBlock :=
  w_SortEvG _ enters_byMoment (fun x y W => w_byMomentL x y W) w hn hl h
theorem w_SortEvR {base n : Nat} {v : Value} {L : List Ev} (w : World) (hn : L.length = n) (hl : n ≤ 100000) (h : w.ownsRow base 31 11 v n (L.flatMap encEvt)) :
    Calls Tryz.prog 48 #[v, .func (.func 43) #[] #[]] w fun e w' => e = .returned (.tuple #[]) ∧ ∃ ys : List Ev, SortedE L ys ∧ w'.ownsRow base 31 11 v n (ys.flatMap encEvt) ∧ w.grownBy w' v.ownBlock :=
  w_SortEvG _ enters_EventOrder (fun x y W => w_EventOrderL x y W) w hn hl h
end Go.Proofs.YtfkmbeppckelfaaGreatDoor
/- slices.Clone of events. -/
namespace Go.Proofs.YtfkmbeppckelfaaGreatDoor
open Go.RowKit Go.Proofs Go.Shelf

set_option maxRecDepth 100000 in
set_option maxHeartbeats 400000 in
theorem w_CloneEv (lo : Nat) (A : Option Addr) (c : Nat) (l : List Ev) (w : World) (hR : Rd w lo A 11 encEvt l) (hl : l.length ≤ 100000) :
    Calls Tryz.prog 10 #[.slice A l.length c] w fun e w' => ∃ v, e = .returned v ∧ w'.ownsRow w.heap.size 31 11 v l.length (l.flatMap encEvt) ∧ Nx w w' := by
  have q22 : ∀ (w : World) (a : Option Addr) (n c n' c' : Nat), (binOp .eql 26 (.slice a n c) (.slice none n' c')).run Tryz.prog w = .ok (.bool a.isNone) w := fun w a n c n' c' => Lib.run_eql_slice_nil w _ _ a n c n' c' Tryz.underlying26
  cases A with
  | none =>
    have hy : l = [] := by
      rcases l with _ | ⟨y, l⟩
      · rfl
      · obtain ⟨b, off, e, _⟩ := hR (by simp); cases e
    subst hy
    go_enter Tryz.func10, Tryz.ntmps10
    go_wp2
    go_ret
    exact ⟨_, rfl, World.ownsRow_nil _ _ _ _, Nx.refl _⟩
  | some a =>
    have hst := own_lit (w := w.alloc (.cells #[] 31)) (e := 31) (g := w.heap.size) (n := 0) (m := 0) (base := w.heap.size) (xs := ([] : List Ev)) encEvt_len (hnew rfl) (Nat.le_refl _) rfl rfl (Nat.le_refl _) (by unfold maxLen; omega)
    have HST := hide hst
    have HR := hide hR
    clear hst hR
    generalize hn : l.length = n at *
    have HN := hide hn
    clear hn
    go_enter Tryz.func10, Tryz.ntmps10
    go_wp2_with (at_builtin; refine wpAppL rfl _ _ _ rfl el_Evt encEvt encEvt_len encEvt_one (by omega) (by omega) w.heap.size _ [] rfl HST.out (some a) c l (by rw [HN.out]; rfl) (HR.out.nx ((Nx.refl _).alloc _)) (by have := HN.out; simp; omega) (by simp) ?_; intro v2 w2 hown2 hg2)
    go_ret
    rw [List.nil_append, HN.out] at hown2
    refine ⟨_, rfl, hown2, ?_⟩
    exact ((Nx.refl w).alloc _).grown hg2 (own_blk_lt HST.out)
end Go.Proofs.YtfkmbeppckelfaaGreatDoor
/- base.First of errors. -/
namespace Go.Proofs.YtfkmbeppckelfaaGreatDoor
open Go.RowKit

set_option maxHeartbeats 400000 in
theorem w_FirstE (lo : Nat) (A : Option Addr) (c : Nat) (zs : List Int) (w : World) (hR : Rd w lo A 1 encI zs) (hl : zs.length ≤ 65536) :
    Calls Tryz.prog 46 #[.slice A zs.length c] w fun e w' => e = .returned (.int .i64 (orI zs)) ∧ w = w' := by
  generalize hn : zs.length = n at *
  have HR := hide hR
  have HN := hide hn
  clear hR hn
  go_enter Tryz.func46, Tryz.ntmps46
  go_wp2
  go_loop [2, 4, 7] (fun _ _ i => ∃ k : Nat, k ≤ n ∧ i = .int .i64 k ∧ orI zs = orI (zs.drop k)) (fun _ _ i => n - (intOf i).toNat)
  case atStart => exact ⟨0, Nat.zero_le _, rfl, rfl⟩
  case round =>
    obtain ⟨k, hk, rfl, hq⟩ := hrel
    have HQ := hide hq
    clear hq
    by_cases hlt : k < n
    · have hlt' : k < zs.length := by have := HN.out; omega
      obtain ⟨b, off, rfl, _, hb, _, hc⟩ := HR.out.open_ (Nx.refl w) (by omega)
      have c0 : w.cell? ⟨b, off + k, none⟩ = some (.int .i64 zs[k]) := by have := hc k hlt' 0 _ rfl; simpa using this
      clear hc
      have HD := hide (orI_drop zs k hlt')
      by_cases hz : zs[k] = 0
      · have hz' : (zs[k] != 0) = false := by simpa using hz
        have HZ := hide hz
        clear hz
        go_wp2
        go_round
        case rel => exact ⟨k + 1, by omega, by go_num, by rw [HQ.out, HD.out, if_pos HZ.out]⟩
        case measure => simp [intOf]; omega
      · have hz' : (zs[k] != 0) = true := by simpa using hz
        have HZ := hide hz
        clear hz
        go_wp2
        go_ret
        exact ⟨ret_int (by rw [HQ.out, HD.out, if_neg HZ.out]), rfl⟩
    · have ek : k = n := by omega
      subst ek
      have HE := hide (show orI (zs.drop k) = 0 by rw [List.drop_eq_nil_iff.2 (by have := HN.out; omega)]; rfl)
      go_wp2
      go_ret
      exact ⟨ret_int (by rw [HQ.out, HE.out]), rfl⟩
theorem w_First2 (a b : Int) (g c : Nat) (w : World) (hg : w.heap[g]? = some (.cells #[.int .i64 a, .int .i64 b] 38 (0, 0))) :
    Calls Tryz.prog 46 #[.slice (some ⟨g, 0, none⟩) 2 c] w fun e w' => e = .returned (.int .i64 (orI [a, b])) ∧ w = w' :=
  w_FirstE 0 _ c [a, b] w (Rd.lit hg (Nat.zero_le _) (fun _ => rfl) rfl) (by simp)
end Go.Proofs.YtfkmbeppckelfaaGreatDoor
