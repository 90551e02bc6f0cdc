/- Plain: lists of events merged, and what one lacks. -/
import Derived.Test.YtfkmbeppckelfaaGreatDoorQSnoS
import Derived.Test.YtfkmbeppckelfaaGreatDoorQG10
import Derived.Test.YtfkmbeppckelfaaGreatDoorQG12
import Derived.Test.YtfkmbeppckelfaaGreatDoorQG40
import Derived.Test.YtfkmbeppckelfaaGreatDoorQG0
import Derived.Test.YtfkmbeppckelfaaGreatDoorQG36
import Derived.Test.YtfkmbeppckelfaaGreatDoorQShelfV
import Derived.Test.YtfkmbeppckelfaaGreatDoorQG1
import Derived.Test.YtfkmbeppckelfaaGreatDoorQG55
import Derived.Test.YtfkmbeppckelfaaGreatDoorQG21
namespace Go.Proofs.YtfkmbeppckelfaaGreatDoor

/-- Where a list has an event of this name. -/
def inA (a : List Ev) (x : Ev) : Option Nat := tgtF a x.source x.no
def clash (a : List Ev) (x : Ev) : Bool := match inA a x with | none => false | some i => decide (a[i]? ≠ some x)
def mrgB (a b : List Ev) : Bool := b.any (clash a)
def newIn (a : List Ev) (x : Ev) : Bool := (inA a x).isNone
def mrgL (a b : List Ev) : List Ev := a ++ b.filter (newIn a)
/-- The list, in order. -/
def SortedE (L S : List Ev) : Prop := S.Perm L ∧ S.Pairwise (fun a b => 0 ≤ evOrd b a)
def NamesD (L : List Ev) : Prop := L.Pairwise (fun a b => ¬ (a.source = b.source ∧ a.no = b.no))
theorem evOrd_same {a b : Ev} (h : evOrd a b = 0) : a.at_ = b.at_ ∧ a.source = b.source ∧ a.no = b.no := by
  have h1 : ¬ evOrd a b < 0 := by omega
  have h2 : ¬ evOrd b a < 0 := by rw [evOrd_swap a b]; omega
  rw [evOrd_neg] at h1 h2
  have e1 : a.at_ = b.at_ := by
    by_cases e : a.at_ < b.at_
    · exact absurd (.inl e) h1
    · by_cases e' : b.at_ < a.at_
      · exact absurd (.inl e') h2
      · omega
  have e2 : a.source = b.source := ltS_tri _ _ (fun e => h1 (.inr ⟨e1, .inl e⟩)) (fun e => h2 (.inr ⟨e1.symm, .inl e⟩))
  refine ⟨e1, e2, ?_⟩
  by_cases e : a.no < b.no
  · exact absurd (.inr ⟨e1, .inr ⟨e2, e⟩⟩) h1
  · by_cases e' : b.no < a.no
    · exact absurd (.inr ⟨e1.symm, .inr ⟨e2.symm, e'⟩⟩) h2
    · omega
theorem evOrd_zero {a b : Ev} (h : evOrd a b = 0) : a.source = b.source ∧ a.no = b.no := (evOrd_same h).2
theorem evOrd_irrefl (a : Ev) : ¬ evOrd a a < 0 := by
  rw [evOrd_neg]
  rintro (h | ⟨_, h | ⟨_, h⟩⟩)
  · omega
  · exact ltS_irrefl _ h
  · omega
theorem evOrd_ntrans {a b c : Ev} (h : ¬ evOrd a b < 0) (k : ¬ evOrd b c < 0) : ¬ evOrd a c < 0 := by
  intro hc
  have h0 : evOrd b a < 0 ∨ evOrd b a = 0 := by have := evOrd_swap a b; omega
  have k0 : evOrd c b < 0 ∨ evOrd c b = 0 := by have := evOrd_swap b c; omega
  rcases h0 with h0 | h0
  · exact k (evOrd_trans h0 hc)
  · rcases k0 with k0 | k0
    · exact h (evOrd_trans hc k0)
    · obtain ⟨e1, e2, e3⟩ := evOrd_same h0
      obtain ⟨d1, d2, d3⟩ := evOrd_same k0
      rw [evOrd_neg] at hc
      rcases hc with h | ⟨_, h | ⟨_, h⟩⟩
      · omega
      · rw [← e2, ← d2] at h; exact ltS_irrefl _ h
      · omega
/-- The merged list, in order. -/
def mrgS (a b : List Ev) : List Ev := (mrgL a b).mergeSort (fun x y => decide (0 ≤ evOrd y x))
theorem mrgS_sorted (a b : List Ev) : SortedE (mrgL a b) (mrgS a b) := by
  refine ⟨List.mergeSort_perm _ _, ?_⟩
  have h := List.pairwise_mergeSort (le := fun x y : Ev => decide (0 ≤ evOrd y x)) (fun x y z h1 h2 => ?_) (fun x y => ?_) (mrgL a b)
  · exact h.imp (fun h => of_decide_eq_true h)
  · have h1 := of_decide_eq_true h1
    have h2 := of_decide_eq_true h2
    have := evOrd_ntrans (a := z) (b := y) (c := x) (by omega) (by omega)
    exact decide_eq_true (by omega)
  · rw [Bool.or_eq_true, decide_eq_true_eq, decide_eq_true_eq, evOrd_swap x y]
    omega
theorem names_right {l : List Ev} (h : evsF l = 0) : NamesD l := by
  have := (evsGo_right l _ _ h).2.2.2.1
  exact this.imp (fun hab ⟨e1, e2⟩ => by have := hab e1; omega)
theorem names_perm {L S : List Ev} (h : NamesD L) (hp : S.Perm L) : NamesD S :=
  (hp.pairwise_iff (fun hab ⟨e1, e2⟩ => hab ⟨e1.symm, e2.symm⟩)).2 h
theorem sorted_strict {L S : List Ev} (hn : NamesD L) (h : SortedE L S) : S.Pairwise (fun a b => evOrd a b < 0) := by
  have hs := names_perm hn h.1
  refine (List.Pairwise.and h.2 hs).imp (fun {a b} hab => ?_)
  have h1 := hab.1
  rw [evOrd_swap a b] at h1
  have h2 : evOrd a b ≠ 0 := fun e => hab.2 (evOrd_zero e)
  omega
theorem sorted_uniq {L S T : List Ev} (hn : NamesD L) (h : SortedE L S) (k : SortedE L T) : S = T :=
  strict_uniq (r := fun a b => evOrd a b < 0) evOrd_irrefl (fun _ _ _ => evOrd_trans) (sorted_strict hn h) (sorted_strict hn k) (fun x => by rw [h.1.mem_iff, k.1.mem_iff])
theorem inA_some {a : List Ev} {x : Ev} {i : Nat} (h : inA a x = some i) : ∃ y, a[i]? = some y ∧ y.source = x.source ∧ y.no = x.no := tgt_some h
theorem newIn_iff {a : List Ev} {x : Ev} : newIn a x = true ↔ ∀ y ∈ a, ¬ (y.source = x.source ∧ y.no = x.no) := by
  unfold newIn inA
  rw [Option.isNone_iff_eq_none, tgt_none]
theorem names_mrg {a b : List Ev} (ha : evsF a = 0) (hb : NamesD b) : NamesD (mrgL a b) := by
  unfold mrgL NamesD
  rw [List.pairwise_append]
  refine ⟨names_right ha, hb.filter _, fun x hx y hy => ?_⟩
  exact newIn_iff.1 (List.mem_filter.1 hy).2 x hx
/-- What is wrong with two lists. -/
def twoF (a b : List Ev) : Int := orI [evsF a, evsF b]
theorem twoF_zero {a b : List Ev} : twoF a b = 0 ↔ evsF a = 0 ∧ evsF b = 0 := by
  unfold twoF orI orI orI
  by_cases h : evsF a = 0
  · rw [if_pos h]
    by_cases h2 : evsF b = 0
    · rw [if_pos h2]; simp [h, h2]
    · rw [if_neg h2]; simp [h2]
  · rw [if_neg h]; simp [h]
/-- What is wrong with the merged list of right ones; of any. -/
def mrgF1 (a b : List Ev) : Int := if mrgB a b = true then 13 else evsF (mrgS a b)
def mrgF (a b : List Ev) : Int := if twoF a b = 0 then mrgF1 a b else twoF a b
theorem mrg_take (a b : List Ev) (k : Nat) (h : k < b.length) : mrgL a (b.take (k + 1)) = if newIn a b[k] = true then mrgL a (b.take k) ++ [b[k]] else mrgL a (b.take k) := by
  unfold mrgL
  rw [List.take_add_one, List.getElem?_eq_getElem h, Option.toList_some, List.filter_append]
  by_cases hm : newIn a b[k] = true
  · rw [if_pos hm, List.filter_cons_of_pos hm, List.filter_nil, List.append_assoc]
  · rw [if_neg hm, List.filter_cons_of_neg hm, List.filter_nil, List.append_nil]
theorem clash_take (a b : List Ev) (k : Nat) (h : k < b.length) : (b.take (k + 1)).any (clash a) = ((b.take k).any (clash a) || clash a b[k]) := by
  rw [List.take_add_one, List.getElem?_eq_getElem h, Option.toList_some, List.any_append]; simp
theorem clash_at (a b : List Ev) (k : Nat) (h : k < b.length) (hc : clash a b[k] = true) : mrgB a b = true := List.any_eq_true.2 ⟨_, List.getElem_mem h, hc⟩
theorem mrgL_len (a b : List Ev) : (mrgL a b).length ≤ a.length + b.length := by
  unfold mrgL
  rw [List.length_append]
  have := List.length_filter_le (newIn a) b
  omega
/-- What one list lacks of another. -/
def lacksL (a b : List Ev) : List Ev := b.filter (fun x => decide (¬ x ∈ a))

/-- Numbers go up by one in each source. -/
def NumsE : (ByteArray → Int) → List Ev → Prop
  | _, [] => True
  | f, x :: l => x.no = f x.source + 1 ∧ NumsE (fun s => if s = x.source then x.no else f s) l
theorem evsGo_iff : ∀ (l : List Ev) (p : Option Ev) (f : ByteArray → Int), (∀ x ∈ l, evF x = 0) → l.Pairwise (fun a b => evOrd a b < 0) → (∀ q, p = some q → ∀ x ∈ l, evOrd q x < 0) → NumsE f l → evsGo p f l = 0
  | [], _, _, _, _, _, _ => rfl
  | x :: l, p, f, h1, h2, h3, h4 => by
    unfold evsGo
    rw [List.pairwise_cons] at h2
    have hl : lateB p x = false := by
      cases p with
      | none => rfl
      | some q =>
        have := h3 q rfl x (by simp)
        show decide (evOrd x q ≤ 0) = false
        rw [evOrd_swap q x, decide_eq_false_iff_not]; omega
    rw [if_neg (by simpa using h1 x (by simp)), hl, if_neg (by decide), if_neg (by simpa using h4.1)]
    exact evsGo_iff l _ _ (fun y hy => h1 y (List.mem_cons_of_mem _ hy)) h2.2 (fun q hq y hy => by injection hq with hq; subst hq; exact h2.1 y hy) h4.2
theorem nums_of : ∀ (l : List Ev) (p : Option Ev) (f : ByteArray → Int), evsGo p f l = 0 → NumsE f l
  | [], _, _, _ => trivial
  | x :: l, p, f, h => by
    unfold evsGo at h
    split at h
    · rename_i c; exact absurd h c
    split at h
    · cases h
    split at h
    · cases h
    rename_i c
    exact ⟨by simpa using c, nums_of l _ _ h⟩
theorem nums_bd : ∀ (l : List Ev) (f : ByteArray → Int), NumsE f l → ∀ x ∈ l, f x.source < x.no
  | x :: l, f, h, y, hy => by
    rcases List.mem_cons.1 hy with rfl | hy
    · have := h.1; omega
    · have := nums_bd l _ h.2 y hy
      have h1 := h.1
      by_cases e : y.source = x.source
      · simp only [e, if_true] at this; rw [e]; omega
      · simp only [e, if_false] at this; exact this
/-- A part that holds with each event the earlier ones of its source. -/
def DownE (p : Ev → Bool) : Prop := ∀ x y : Ev, p x = true → y.source = x.source → y.no ≤ x.no → p y = true
theorem nums_filter {p : Ev → Bool} (hp : DownE p) : ∀ (l : List Ev) (f g : ByteArray → Int), NumsE f l → (∀ s, g s = f s ∨ ∀ y ∈ l, y.source = s → p y = false) → NumsE g (l.filter p)
  | [], _, _, _, _ => trivial
  | x :: l, f, g, h, hg => by
    by_cases hx : p x = true
    · rw [List.filter_cons_of_pos hx]
      have e : g x.source = f x.source := by
        rcases hg x.source with e | e
        · exact e
        · have := e x (by simp) rfl; rw [hx] at this; cases this
      refine ⟨by rw [e]; exact h.1, nums_filter hp l _ _ h.2 (fun s => ?_)⟩
      by_cases es : s = x.source
      · rw [if_pos es, if_pos es]; exact .inl rfl
      · rw [if_neg es, if_neg es]
        rcases hg s with e2 | e2
        · exact .inl e2
        · exact .inr (fun y hy => e2 y (List.mem_cons_of_mem _ hy))
    · rw [List.filter_cons_of_neg hx]
      refine nums_filter hp l _ _ h.2 (fun s => ?_)
      by_cases es : s = x.source
      · right
        intro y hy e
        cases hpy : p y with
        | false => rfl
        | true =>
          have hb := nums_bd l _ h.2 y hy
          rw [e, es] at hb
          simp only [if_true] at hb
          exact absurd (hp y x hpy (by rw [e, es]) (by omega)) hx
      · rw [if_neg es]
        rcases hg s with e2 | e2
        · exact .inl e2
        · exact .inr (fun y hy => e2 y (List.mem_cons_of_mem _ hy))
theorem right_filter {l : List Ev} (h : evsF l = 0) {p : Ev → Bool} (hp : DownE p) : evsF (l.filter p) = 0 := by
  obtain ⟨h1, h2, _⟩ := evsGo_right l _ _ h
  exact evsGo_iff _ _ _ (fun x hx => h1 x (List.mem_filter.1 hx).1) (h2.filter _) (fun q hq => by cases hq) (nums_filter hp l _ _ (nums_of l _ _ h) (fun s => .inl rfl))
/-- Two parts of right events. -/
def saB : ByteArray := ⟨#[115, 97]⟩
def pA (cut : Int) (x : Ev) : Bool := decide (x.no ≤ cut) || decide (x.source = saB)
def pB (cut : Int) (x : Ev) : Bool := decide (x.no ≤ cut) || !decide (x.source = saB)
def halfA (cut : Int) (l : List Ev) : List Ev := l.filter (pA cut)
def halfB (cut : Int) (l : List Ev) : List Ev := l.filter (pB cut)
theorem down_A (cut : Int) : DownE (pA cut) := by
  intro x y hx hs hn
  unfold pA at *
  simp only [Bool.or_eq_true, decide_eq_true_eq] at *
  rcases hx with h | h
  · exact .inl (by omega)
  · exact .inr (by rw [hs]; exact h)
theorem down_B (cut : Int) : DownE (pB cut) := by
  intro x y hx hs hn
  unfold pB at *
  simp only [Bool.or_eq_true, decide_eq_true_eq, Bool.not_eq_true', decide_eq_false_iff_not] at *
  rcases hx with h | h
  · exact .inl (by omega)
  · exact .inr (by rw [hs]; exact h)
theorem half_all (cut : Int) (x : Ev) : pA cut x = true ∨ pB cut x = true := by
  unfold pA pB
  by_cases h : x.source = saB <;> simp [h]
/-- Parts of right events that hold all of them: merged they are all again. -/
structure Parts (l a b : List Ev) : Prop where
  right : evsF l = 0
  ra : evsF a = 0
  rb : evsF b = 0
  all_ : ∀ x, x ∈ l ↔ x ∈ a ∨ x ∈ b
theorem parts_half {l : List Ev} (h : evsF l = 0) (cut : Int) : Parts l (halfA cut l) (halfB cut l) where
  right := h
  ra := right_filter h (down_A cut)
  rb := right_filter h (down_B cut)
  all_ x := by
    unfold halfA halfB
    rw [List.mem_filter, List.mem_filter]
    constructor
    · intro hx
      rcases half_all cut x with e | e
      · exact .inl ⟨hx, e⟩
      · exact .inr ⟨hx, e⟩
    · rintro (h | h) <;> exact h.1
theorem Parts.symm {l a b : List Ev} (h : Parts l a b) : Parts l b a := ⟨h.right, h.rb, h.ra, fun x => by rw [h.all_, or_comm]⟩
theorem same_name {l : List Ev} (h : evsF l = 0) {x y : Ev} (hx : x ∈ l) (hy : y ∈ l) (hs : x.source = y.source) (hn : x.no = y.no) : x = y := by
  obtain ⟨i, hi⟩ := List.getElem?_of_mem hx
  obtain ⟨j, hj⟩ := List.getElem?_of_mem hy
  have := evs_names h hi hj hs hn
  subst this
  rw [hi] at hj; injection hj
theorem Parts.noClash {l a b : List Ev} (h : Parts l a b) : mrgB a b = false := by
  unfold mrgB
  rw [List.any_eq_false]
  intro x hx
  unfold clash
  cases hi : inA a x with
  | none => simp
  | some i =>
    obtain ⟨y, hy, e1, e2⟩ := inA_some hi
    have := same_name h.right ((h.all_ y).2 (.inl (List.mem_of_getElem? hy))) ((h.all_ x).2 (.inr hx)) e1 e2
    subst this
    simp [hy]
theorem Parts.new {l a b : List Ev} (h : Parts l a b) {x : Ev} (hx : x ∈ b) : newIn a x = decide (¬ x ∈ a) := by
  rw [Bool.eq_iff_iff, newIn_iff, decide_eq_true_eq]
  constructor
  · intro hn hxa; exact hn x hxa ⟨rfl, rfl⟩
  · rintro hn y hy ⟨e1, e2⟩
    have := same_name h.right ((h.all_ y).2 (.inl hy)) ((h.all_ x).2 (.inr hx)) e1 e2
    subst this
    exact hn hy
theorem Parts.lacks {l a b : List Ev} (h : Parts l a b) : lacksL a b = b.filter (newIn a) := by
  unfold lacksL
  exact List.filter_congr (fun x hx => (h.new hx).symm)
theorem Parts.merged {l a b : List Ev} (h : Parts l a b) {S : List Ev} (hS : SortedE (mrgL a b) S) : S = l := by
  refine strict_uniq (r := fun a b => evOrd a b < 0) evOrd_irrefl (fun _ _ _ => evOrd_trans) (sorted_strict (names_mrg h.ra (names_right h.rb)) hS) (evsGo_right l _ _ h.right).2.1 (fun x => ?_)
  rw [hS.1.mem_iff, h.all_]
  unfold mrgL
  rw [List.mem_append, List.mem_filter]
  constructor
  · rintro (e | e)
    · exact .inl e
    · exact .inr e.1
  · rintro (e | e)
    · exact .inl e
    · by_cases ha : x ∈ a
      · exact .inl ha
      · exact .inr ⟨e, by rw [h.new e]; simpa using ha⟩
theorem Parts.count {l a b : List Ev} (h : Parts l a b) {S : List Ev} (hS : SortedE (mrgL a b) S) : (lacksL a b).length + a.length = l.length := by
  have e := hS.1.length_eq
  rw [h.merged hS] at e
  unfold mrgL at e
  rw [List.length_append] at e
  rw [h.lacks]; omega
end Go.Proofs.YtfkmbeppckelfaaGreatDoor
/- The stream's two halves of events. -/
namespace Go.Proofs.YtfkmbeppckelfaaGreatDoor
open Go.RowKit

theorem half_take (p : Ev → Bool) (l : List Ev) (j : Nat) (h : j < l.length) : (l.take (j + 1)).filter p = if p l[j] = true then (l.take j).filter p ++ [l[j]] else (l.take j).filter p := by
  rw [List.take_add_one, List.getElem?_eq_getElem h, Option.toList_some, List.filter_append]
  by_cases hm : p l[j] = true
  · rw [if_pos hm, List.filter_cons_of_pos hm, List.filter_nil]
  · rw [if_neg hm, List.filter_cons_of_neg hm, List.filter_nil, List.append_nil]
/-- Two rows, apart. -/
structure TwoRows (w : World) (base : Nat) (v1 v2 : Value) (L M : List Ev) : Prop where
  r1 : w.ownsRow base 31 11 v1 L.length (L.flatMap encEvt)
  r2 : w.ownsRow base 31 11 v2 M.length (M.flatMap encEvt)
  apart : ∀ b, v1.ownBlock = some b → v2.ownBlock ≠ some b
theorem TwoRows.nx {w w' : World} {base : Nat} {v1 v2 : Value} {L M : List Ev} (h : TwoRows w base v1 v2 L M) (hn : Nx w w') : TwoRows w' base v1 v2 L M := ⟨own_nx h.r1 hn, own_nx h.r2 hn, h.apart⟩
theorem TwoRows.put1 {w w' : World} {base : Nat} {v1 v2 v : Value} {L M L' : List Ev} (h : TwoRows w base v1 v2 L M) (hg : w.grownBy w' v1.ownBlock) (hw : ∀ b, v.ownBlock = some b → v1.ownBlock = some b ∨ b = w.heap.size) (ho : w'.ownsRow base 31 11 v L'.length (L'.flatMap encEvt)) : TwoRows w' base v v2 L' M := by
  refine ⟨ho, h.r2.kept hg ?_, ?_⟩
  · cases h2 : v2.ownBlock with
    | none => exact .inl rfl
    | some b => exact .inr (fun e => h.apart b e.symm h2)
  · intro b hb h2
    rcases hw b hb with h1 | h1
    · exact h.apart b h1 h2
    · have := (h.r2.lt b h2).2; omega
theorem TwoRows.put2 {w w' : World} {base : Nat} {v1 v2 v : Value} {L M M' : List Ev} (h : TwoRows w base v1 v2 L M) (hg : w.grownBy w' v2.ownBlock) (hw : ∀ b, v.ownBlock = some b → v2.ownBlock = some b ∨ b = w.heap.size) (ho : w'.ownsRow base 31 11 v M'.length (M'.flatMap encEvt)) : TwoRows w' base v1 v L M' := by
  refine ⟨h.r1.kept hg ?_, ho, ?_⟩
  · cases h2 : v1.ownBlock with
    | none => exact .inl rfl
    | some b => exact .inr (fun e => h.apart b h2 e.symm)
  · intro b hb h2
    rcases hw b h2 with h1 | h1
    · exact h.apart b hb h1
    · have := (h.r1.lt b hb).2; omega
/-- Two parts of events. -/
def HalfOut (l : List Ev) (s k : Nat) (w : World) (e : Ending) (w' : World) : Prop :=
  ∃ (cut : Int) (v1 v2 : Value), e = .returned (.tuple #[v1, v2]) ∧ TwoRows w' w.heap.size v1 v2 (halfA cut l) (halfB cut l) ∧ Gr s w w' ∧ Str w' s (k + 1)
set_option maxRecDepth 100000 in
set_option maxHeartbeats 4000000 in
theorem w_HalfEvents (lo : Nat) (A : Option Addr) (c : Nat) (l : List Ev) (s k : Nat) (w : World) (hR : Rd w lo A 11 encEvt l) (hsl : s < lo) (hl : l.length ≤ 50) (hS : Str w s k) (hk : k < 700000) :
    Calls Tryz.prog 12 #[.pointer (some ⟨s, 0, none⟩), .slice A l.length c] w (HalfOut l s k w) := by
  have HR := hide hR
  obtain ⟨n, hn⟩ : ∃ n, n = l.length := ⟨_, rfl⟩
  rw [← hn] at hl ⊢
  have HN := hide hn
  have hsw := hS.lt
  clear hR hn
  go_enter Tryz.func12, Tryz.ntmps12
  go_wp2_with fail
  refine (w_Next 8 s k w hS (by omega) (by omega)).mono ?_
  rintro e w1 ⟨cut, hc1, hc2, rfl, hg1, hS1⟩
  have HG1 := hide hg1
  have HS1 := hide hS1
  have hz1 := hg1.sz
  clear hg1 hS1 hS
  go_wp2_with fail
  go_loopw [4, 5, 14] (fun v1 v2 i wr => ∃ j : Nat, j ≤ n ∧ i = .int .i64 j ∧ TwoRows wr w1.heap.size v1 v2 ((l.take j).filter (pA cut)) ((l.take j).filter (pB cut)) ∧ Nx w1 wr) (fun _ _ i _ => n - (intOf i).toNat)
  case atStart => exact ⟨0, Nat.zero_le _, rfl, ⟨World.ownsRow_nil _ _ _ _, World.ownsRow_nil _ _ _ _, fun b h => by cases h⟩, Nx.refl _⟩
  case round =>
    obtain ⟨j, hj, rfl, hT, hnx⟩ := hrel
    have HT := hide hT
    have HNX := hide hnx
    clear hT
    by_cases hlt : j < n
    · have hlt' : j < l.length := by have := HN.out; omega
      obtain ⟨b, off, rfl, _, hb, hbr, hc⟩ := (HR.out.gr HG1.out hsl).open_ hnx (by have := HN.out; omega)
      obtain ⟨c0, c1, c2, c3, c4, c5, c6, c7, c8, c9, c10⟩ := ev_cells (hc j hlt')
      have HA := hide (half_take (pA cut) l j hlt')
      have HB := hide (half_take (pB cut) l j hlt')
      have HLA := hide (show ((l.take j).filter (pA cut)).length ≤ 50 by have := List.length_filter_le (pA cut) (l.take j); have := List.length_take_le j l; have := HN.out; omega)
      have HLB := hide (show ((l.take j).filter (pB cut)).length ≤ 50 by have := List.length_filter_le (pB cut) (l.take j); have := List.length_take_le j l; have := HN.out; omega)
      clear hc hnx
      generalize (l.take j).filter (pA cut) = L at *
      generalize (l.take j).filter (pB cut) = M at *
      have hpA : pA cut l[j] = (decide (l[j].no ≤ cut) || decide (l[j].source = saB)) := rfl
      have hpB : pB cut l[j] = (decide (l[j].no ≤ cut) || !decide (l[j].source = saB)) := rfl
      generalize l[j] = x at *
      obtain ⟨so, no, at_, ki, ri, ca, nd, up, dn, fo, nu⟩ := x
      simp only at c0 c1 c2 c3 c4 c5 c6 c7 c8 c9 c10 hpA hpB
      have q1 : (0 : Int) ≤ (j : Int) := by omega
      have q2 : (j : Int) < (n : Int) := by omega
      have te : (so.toList == (⟨#[115, 97]⟩ : ByteArray).toList) = decide (so = saB) := eqS_iff _ _
      obtain ⟨e1, he1⟩ : ∃ e1, e1 = decide (no ≤ cut) := ⟨_, rfl⟩
      obtain ⟨e2, he2⟩ : ∃ e2, e2 = decide (so = saB) := ⟨_, rfl⟩
      rw [← he1, ← he2] at hpA hpB
      rw [← he2] at te
      have te2 : (so.toList == [115, 97]) = e2 := by rw [← te, Lib.toList_data ⟨#[115, 97]⟩]
      have he1' : decide (no ≤ cut) = e1 := he1.symm
      have HPA := hide hpA
      have HPB := hide hpB
      clear hpA hpB he1 he2
      cases e1
      · have hno : ¬ no ≤ cut := by simpa using he1'
        clear he1'
        cases e2
        · have HA2 := hide (HA.out.trans (if_neg (by rw [HPA.out]; decide)))
          have HB2 := hide (HB.out.trans (if_pos (by rw [HPB.out]; decide)))
          go_wp2_with (at_builtin; refine wpApp2 rfl _ _ _ rfl el_Evt encEvt encEvt_len encEvt_one (by omega) (by omega) w1.heap.size _ M rfl ((HT.out.nx (((Nx.refl wr).alloc _).alloc _)).r2) _ ⟨so, no, at_, ki, ri, ca, nd, up, dn, fo, nu⟩ _ rfl (hnew (by simp)) rfl (by have := HLB.out; omega) (by have := HNX.out.sz; simp; omega) ?_; intro v8 w8 hown8 hg8 hat8; (have HT8 := hide ((HT.out.nx (((Nx.refl wr).alloc _).alloc _)).put2 hg8 hat8 hown8)); (have HN8 := hide (((HNX.out.alloc _).alloc _).grown hg8 (fun p hp => own_blk_lt HT.out.r2 p hp))); clear hown8 hg8 hat8)
          go_roundw
          case rel => exact ⟨j + 1, by omega, by go_num, by rw [HA2.out, HB2.out]; exact HT8.out, HN8.out⟩
          case measure => simp [intOf]; omega
        · have HA2 := hide (HA.out.trans (if_pos (by rw [HPA.out]; decide)))
          have HB2 := hide (HB.out.trans (if_neg (by rw [HPB.out]; decide)))
          go_upto_region 8 with (at_builtin; refine wpApp2 rfl _ _ _ rfl el_Evt encEvt encEvt_len encEvt_one (by omega) (by omega) w1.heap.size _ L rfl ((HT.out.nx (((Nx.refl wr).alloc _).alloc _)).r1) _ ⟨so, no, at_, ki, ri, ca, nd, up, dn, fo, nu⟩ _ rfl (hnew (by simp)) rfl (by have := HLA.out; omega) (by have := HNX.out.sz; simp; omega) ?_; intro v8 w8 hown8 hg8 hat8; (have hb8 : w8.heap[wr.heap.size]? = some (.cells #[.string so, .int .i64 no, .int .i64 at_, .int .i64 ki, .string ri, .string ca, .string nd, .int .i64 up, .int .i64 dn, .string fo, .int .i64 nu] 31 (0, 0)) := (hg8.block wr.heap.size (by simp; omega) (fun e => by have := (HT.out.r1.lt _ e.symm).2; omega)).trans ((((Nx.refl _).alloc _).block _ (by simp)).trans (heap_alloc_new wr _))); (have HT8 := hide ((HT.out.nx (((Nx.refl wr).alloc _).alloc _)).put1 hg8 hat8 hown8)); (have HN8 := hide (((HNX.out.alloc _).alloc _).grown hg8 (fun p hp => own_blk_lt HT.out.r1 p hp))); clear hown8 hg8 hat8)
          have f0 := cell_of_row w8 _ 0 _ _ _ hb8
          have f1 := cell_of_row w8 _ 1 _ _ _ hb8
          have f2 := cell_of_row w8 _ 2 _ _ _ hb8
          have f3 := cell_of_row w8 _ 3 _ _ _ hb8
          have f4 := cell_of_row w8 _ 4 _ _ _ hb8
          have f5 := cell_of_row w8 _ 5 _ _ _ hb8
          have f6 := cell_of_row w8 _ 6 _ _ _ hb8
          have f7 := cell_of_row w8 _ 7 _ _ _ hb8
          have f8 := cell_of_row w8 _ 8 _ _ _ hb8
          have f9 := cell_of_row w8 _ 9 _ _ _ hb8
          have f10 := cell_of_row w8 _ 10 _ _ _ hb8
          simp at f0 f1 f2 f3 f4 f5 f6 f7 f8 f9 f10
          have hl8 := (Array.getElem?_eq_some_iff.1 hb8).1
          clear hb8
          go_wp2_with fail
          go_roundw
          case rel => exact ⟨j + 1, by omega, by go_num, by rw [HA2.out, HB2.out]; exact HT8.out, HN8.out⟩
          case measure => simp [intOf]; omega
      · have hno : no ≤ cut := by simpa using he1'
        clear he1'
        have HA2 := hide (HA.out.trans (if_pos (by rw [HPA.out]; rfl)))
        have HB2 := hide (HB.out.trans (if_pos (by rw [HPB.out]; rfl)))
        go_upto_region 8 with (at_builtin; refine wpApp2 rfl _ _ _ rfl el_Evt encEvt encEvt_len encEvt_one (by omega) (by omega) w1.heap.size _ L rfl ((HT.out.nx (((Nx.refl wr).alloc _).alloc _)).r1) _ ⟨so, no, at_, ki, ri, ca, nd, up, dn, fo, nu⟩ _ rfl (hnew (by simp)) rfl (by have := HLA.out; omega) (by have := HNX.out.sz; simp; omega) ?_; intro v8 w8 hown8 hg8 hat8; (have hb8 : w8.heap[wr.heap.size]? = some (.cells #[.string so, .int .i64 no, .int .i64 at_, .int .i64 ki, .string ri, .string ca, .string nd, .int .i64 up, .int .i64 dn, .string fo, .int .i64 nu] 31 (0, 0)) := (hg8.block wr.heap.size (by simp; omega) (fun e => by have := (HT.out.r1.lt _ e.symm).2; omega)).trans ((((Nx.refl _).alloc _).block _ (by simp)).trans (heap_alloc_new wr _))); (have HT8 := hide ((HT.out.nx (((Nx.refl wr).alloc _).alloc _)).put1 hg8 hat8 hown8)); (have HN8 := hide (((HNX.out.alloc _).alloc _).grown hg8 (fun p hp => own_blk_lt HT.out.r1 p hp))); clear hown8 hg8 hat8)
        have f0 := cell_of_row w8 _ 0 _ _ _ hb8
        have f1 := cell_of_row w8 _ 1 _ _ _ hb8
        have f2 := cell_of_row w8 _ 2 _ _ _ hb8
        have f3 := cell_of_row w8 _ 3 _ _ _ hb8
        have f4 := cell_of_row w8 _ 4 _ _ _ hb8
        have f5 := cell_of_row w8 _ 5 _ _ _ hb8
        have f6 := cell_of_row w8 _ 6 _ _ _ hb8
        have f7 := cell_of_row w8 _ 7 _ _ _ hb8
        have f8 := cell_of_row w8 _ 8 _ _ _ hb8
        have f9 := cell_of_row w8 _ 9 _ _ _ hb8
        have f10 := cell_of_row w8 _ 10 _ _ _ hb8
        simp at f0 f1 f2 f3 f4 f5 f6 f7 f8 f9 f10
        have hl8 := (Array.getElem?_eq_some_iff.1 hb8).1
        clear hb8
        go_wp2_with (at_builtin; refine wpApp2 rfl _ _ _ rfl el_Evt encEvt encEvt_len encEvt_one (by omega) (by omega) w1.heap.size _ M rfl ((HT8.out.nx ((Nx.refl w8).alloc _)).r2) _ ⟨so, no, at_, ki, ri, ca, nd, up, dn, fo, nu⟩ _ rfl (hnew (by simp)) rfl (by have := HLB.out; omega) (by have := HN8.out.sz; simp; omega) ?_; intro v9 w9 hown9 hg9 hat9; (have HT9 := hide ((HT8.out.nx ((Nx.refl w8).alloc _)).put2 hg9 hat9 hown9)); (have HN9 := hide ((HN8.out.alloc _).grown hg9 (fun p hp => own_blk_lt HT8.out.r2 p hp))); clear hown9 hg9 hat9)
        go_roundw
        case rel => exact ⟨j + 1, by omega, by go_num, by rw [HA2.out, HB2.out]; exact HT9.out, HN9.out⟩
        case measure => simp [intOf]; omega
    · obtain rfl : j = n := by omega
      have ht : l.take j = l := List.take_of_length_le (by have := HN.out; omega)
      rw [ht] at HT
      go_wp2_with fail
      go_ret2
      exact ⟨cut, _, _, rfl, ⟨HT.out.r1.mono hz1, HT.out.r2.mono hz1, HT.out.apart⟩, HG1.out.then_nx HNX.out, HS1.out.nx HNX.out⟩
end Go.Proofs.YtfkmbeppckelfaaGreatDoor
/- The events' order: nothing but new blocks. -/
namespace Go.Proofs.YtfkmbeppckelfaaGreatDoor
open Go.RowKit

set_option maxRecDepth 100000 in
set_option maxHeartbeats 2000000 in
theorem w_byMomentL (a b : Ev) (w : World) : Calls Tryz.prog 45 #[.agg (evA a), .agg (evA b)] w fun e w' => e = .returned (.int .i64 (evOrd a b)) ∧ Lays w w' := by
  unfold evA
  obtain ⟨w2, hw2⟩ : ∃ w2, w2 = (w.alloc (.cells #[.string a.source, .int .i64 a.no, .int .i64 a.at_, .int .i64 a.kind, .string a.ride, .string a.car, .string a.node, .int .i64 a.up, .int .i64 a.down, .string a.from_, .int .i64 a.number] 31 (0, 0))).alloc (.cells #[.string b.source, .int .i64 b.no, .int .i64 b.at_, .int .i64 b.kind, .string b.ride, .string b.car, .string b.node, .int .i64 b.up, .int .i64 b.down, .string b.from_, .int .i64 b.number] 31 (0, 0)) := ⟨_, rfl⟩
  have hn2 : Lays w w2 := hw2 ▸ ((Lays.refl w).alloc _).alloc _
  have hb : w2.heap[w.heap.size + 1]? = some (.cells #[.string b.source, .int .i64 b.no, .int .i64 b.at_, .int .i64 b.kind, .string b.ride, .string b.car, .string b.node, .int .i64 b.up, .int .i64 b.down, .string b.from_, .int .i64 b.number] 31 (0, 0)) := by
    rw [hw2]
    have := heap_alloc_new (w.alloc (.cells #[.string a.source, .int .i64 a.no, .int .i64 a.at_, .int .i64 a.kind, .string a.ride, .string a.car, .string a.node, .int .i64 a.up, .int .i64 a.down, .string a.from_, .int .i64 a.number] 31 (0, 0))) (.cells #[.string b.source, .int .i64 b.no, .int .i64 b.at_, .int .i64 b.kind, .string b.ride, .string b.car, .string b.node, .int .i64 b.up, .int .i64 b.down, .string b.from_, .int .i64 b.number] 31 (0, 0))
    simpa using this
  have ha : w2.heap[w.heap.size]? = some (.cells #[.string a.source, .int .i64 a.no, .int .i64 a.at_, .int .i64 a.kind, .string a.ride, .string a.car, .string a.node, .int .i64 a.up, .int .i64 a.down, .string a.from_, .int .i64 a.number] 31 (0, 0)) := by
    rw [hw2]; exact (((Nx.refl _).alloc _).block _ (by simp)).trans (heap_alloc_new w _)
  have a0 : w2.cell? ⟨w.heap.size, 0, none⟩ = some (.string a.source) := cell_of_row w2 _ 0 _ _ _ ha
  have a1 : w2.cell? ⟨w.heap.size, 1, none⟩ = some (.int .i64 a.no) := cell_of_row w2 _ 1 _ _ _ ha
  have a2 : w2.cell? ⟨w.heap.size, 2, none⟩ = some (.int .i64 a.at_) := cell_of_row w2 _ 2 _ _ _ ha
  have b0 : w2.cell? ⟨w.heap.size + 1, 0, none⟩ = some (.string b.source) := cell_of_row w2 _ 0 _ _ _ hb
  have b1 : w2.cell? ⟨w.heap.size + 1, 1, none⟩ = some (.int .i64 b.no) := cell_of_row w2 _ 1 _ _ _ hb
  have b2 : w2.cell? ⟨w.heap.size + 1, 2, none⟩ = some (.int .i64 b.at_) := cell_of_row w2 _ 2 _ _ _ hb
  have HN2 := hide hn2
  clear ha hb hn2
  go_enter Tryz.func45, Tryz.ntmps45
  go_upto_region 1 with fail
  rw [← hw2]
  clear hw2
  refine wp_region_still_tail 15 (by kernel_rfl) (by kernel_rfl) ?_
  simp only [List.take_succ_cons, List.take_zero, List.drop_succ_cons, List.drop_zero]
  still_step; still_step; still_step; still_step
  still_call (flipc (w_Compare _ _ _))
  still_step; still_step; still_step; still_step
  still_call (flipc (w_CompareS _ _ _))
  still_step; still_step; still_step; still_step
  still_call (flipc (w_Compare _ _ _))
  refine wpStill_nil ?_
  go_wp2_with (go_at_call 82; refine (w_OrI3 (cmpI a.at_ b.at_) (cmpS a.source b.source) (cmpI a.no b.no) _ _ _ (hnew_drew (by simp))).mono ?_; rintro e w' ⟨rfl, rfl⟩)
  go_ret
  exact ⟨rfl, (HN2.out.alloc _).drew⟩
end Go.Proofs.YtfkmbeppckelfaaGreatDoor
/- Events sorted. -/
namespace Go.Proofs.YtfkmbeppckelfaaGreatDoor
open Go.RowKit Go.Sort Go.Shelf Go.Proofs

theorem ev_lt {a b : Ev} : ltOf evOrd a b = true ↔ evOrd a b < 0 := by
  unfold ltOf
  rw [decide_eq_true_eq]
theorem ev_nlt {a b : Ev} : ltOf evOrd a b = false ↔ 0 ≤ evOrd a b := by
  unfold ltOf
  rw [decide_eq_false_iff_not]; omega
theorem swoEv : SWO (ltOf evOrd) where
  irrefl x := ev_nlt.2 (by have := evOrd_irrefl x; omega)
  trans x y z h1 h2 := ev_lt.2 (evOrd_trans (ev_lt.1 h1) (ev_lt.1 h2))
  ntrans x y z h1 h2 := ev_nlt.2 (by
    have h1 := ev_nlt.1 h1
    have h2 := ev_nlt.1 h2
    have := evOrd_ntrans (a := x) (b := y) (c := z) (by omega) (by omega)
    omega)
instance : Inhabited Ev := ⟨ev0⟩
theorem enters_byMoment : ∀ args w, (callFunc 45 args).run Tryz.prog w = .ok (.enter 45 args) w := enters_of Tryz.func45 (by kernel_rfl) rfl
/-- slices.SortFunc of events, on a row of the call's own. -/
theorem w_SortEvG (g : Nat) (eg : ∀ args w, (callFunc g args).run Tryz.prog w = .ok (.enter g args) w) (hcmp : ∀ (x y : Ev) W, Calls Tryz.prog g #[.agg (encEvt x).toArray, .agg (encEvt y).toArray] W fun e w' => e = .returned (.int .i64 (evOrd x y)) ∧ Lays W w')
    {base n : Nat} {v : Value} {L : List Ev} (w : World) (hn : L.length = n) (hl : n ≤ 100000) (h : w.ownsRow base 31 11 v n (L.flatMap encEvt)) :
    Calls Tryz.prog 48 #[v, .func (.func g) #[] #[]] w fun e w' => e = .returned (.tuple #[]) ∧ ∃ ys : List Ev, SortedE L ys ∧ w'.ownsRow base 31 11 v n (ys.flatMap encEvt) ∧ w.grownBy w' v.ownBlock := by
  have h0 := h
  rcases h.2 with ⟨rfl, h1⟩ | ⟨b, cap, cur, rfl, hg, _⟩
  · obtain rfl : n = 0 := h1
    have hL : L = [] := List.eq_nil_of_length_eq_zero hn
    subst hL
    refine (AnyF.slices_SortFunc_none (P := Tryz.prog) { Tryz.sortEv with } none 0 (.func (.func g) #[] #[]) w).mono ?_
    rintro e w' ⟨rfl, rfl⟩
    exact ⟨rfl, [], ⟨List.Perm.refl _, List.Pairwise.nil⟩, h0, World.grownBy.refl _ _⟩
  · refine (sortFunc Tryz.sortEv 11 (by omega) Tryz.isAgg31 Tryz.sizeOf31 encEvt encEvt_len encEvt_one evOrd swoEv g eg hcmp (base := base) (b := b) (cap := cap) (xs := L) hn (by omega) h).mono ?_
    rintro e w' ⟨rfl, ys, hp, hs, ho, hgr⟩
    refine ⟨rfl, ys, ⟨hp, ?_⟩, ho, hgr⟩
    rw [List.pairwise_iff_getElem]
    intro i j hi hj hij
    exact ev_nlt.1 (hs i j hij hj)
theorem w_SortEv {base n : Nat} {v : Value} {L : List Ev} (w : World) (hn : L.length = n) (hl : n ≤ 100000) (h : w.ownsRow base 31 11 v n (L.flatMap encEvt)) :
    Calls Tryz.prog 48 #[v, .func (.func 45) #[] #[]] w fun e w' => e = .returned (.tuple #[]) ∧ ∃ ys : List Ev, SortedE L ys ∧ w'.ownsRow base 31 11 v n (ys.flatMap encEvt) ∧ w.grownBy w' v.ownBlock :=
  w_SortEvG _ enters_byMoment (fun x y W => w_byMomentL x y W) w hn hl h
end Go.Proofs.YtfkmbeppckelfaaGreatDoor
/- base.First of errors. -/
namespace Go.Proofs.YtfkmbeppckelfaaGreatDoor
open Go.RowKit

set_option maxHeartbeats 400000 in
theorem w_FirstE (lo : Nat) (A : Option Addr) (c : Nat) (zs : List Int) (w : World) (hR : Rd w lo A 1 encI zs) (hl : zs.length ≤ 65536) :
    Calls Tryz.prog 46 #[.slice A zs.length c] w fun e w' => e = .returned (.int .i64 (orI zs)) ∧ w = w' := by
  generalize hn : zs.length = n at *
  have HR := hide hR
  have HN := hide hn
  clear hR hn
  go_enter Tryz.func46, Tryz.ntmps46
  go_wp2
  go_loop [2, 4, 7] (fun _ _ i => ∃ k : Nat, k ≤ n ∧ i = .int .i64 k ∧ orI zs = orI (zs.drop k)) (fun _ _ i => n - (intOf i).toNat)
  case atStart => exact ⟨0, Nat.zero_le _, rfl, rfl⟩
  case round =>
    obtain ⟨k, hk, rfl, hq⟩ := hrel
    have HQ := hide hq
    clear hq
    by_cases hlt : k < n
    · have hlt' : k < zs.length := by have := HN.out; omega
      obtain ⟨b, off, rfl, _, hb, _, hc⟩ := HR.out.open_ (Nx.refl w) (by omega)
      have c0 : w.cell? ⟨b, off + k, none⟩ = some (.int .i64 zs[k]) := by have := hc k hlt' 0 _ rfl; simpa using this
      clear hc
      have HD := hide (orI_drop zs k hlt')
      by_cases hz : zs[k] = 0
      · have hz' : (zs[k] != 0) = false := by simpa using hz
        have HZ := hide hz
        clear hz
        go_wp2
        go_round
        case rel => exact ⟨k + 1, by omega, by go_num, by rw [HQ.out, HD.out, if_pos HZ.out]⟩
        case measure => simp [intOf]; omega
      · have hz' : (zs[k] != 0) = true := by simpa using hz
        have HZ := hide hz
        clear hz
        go_wp2
        go_ret
        exact ⟨ret_int (by rw [HQ.out, HD.out, if_neg HZ.out]), rfl⟩
    · have ek : k = n := by omega
      subst ek
      have HE := hide (show orI (zs.drop k) = 0 by rw [List.drop_eq_nil_iff.2 (by have := HN.out; omega)]; rfl)
      go_wp2
      go_ret
      exact ⟨ret_int (by rw [HQ.out, HE.out]), rfl⟩
theorem w_First2 (a b : Int) (g c : Nat) (w : World) (hg : w.heap[g]? = some (.cells #[.int .i64 a, .int .i64 b] 38 (0, 0))) :
    Calls Tryz.prog 46 #[.slice (some ⟨g, 0, none⟩) 2 c] w fun e w' => e = .returned (.int .i64 (orI [a, b])) ∧ w = w' :=
  w_FirstE 0 _ c [a, b] w (Rd.lit hg (Nat.zero_le _) (fun _ => rfl) rfl) (by simp)
end Go.Proofs.YtfkmbeppckelfaaGreatDoor
/- Two lists of events merged, by the program. -/
namespace Go.Proofs.YtfkmbeppckelfaaGreatDoor
open Go.RowKit Go.Maps

def MergeEnd (a b : List Ev) (w : World) (e : Ending) (w' : World) : Prop :=
  (∃ (B : Option Addr) (m cb : Nat), e = .returned (.tuple #[.slice B m cb, .int .i64 (mrgF a b)]) ∧ (mrgF a b ≠ 0 → m = 0) ∧ (mrgF a b = 0 → m = (mrgS a b).length ∧ Rd w' w.heap.size B 11 encEvt (mrgS a b))) ∧ Nx w w'
theorem ok_mrg {a b : List Ev} (hoa : ∀ x ∈ a, okEv x) (hob : ∀ x ∈ b, okEv x) : ∀ x ∈ mrgS a b, okEv x := by
  intro x hx
  rcases List.mem_append.1 ((mrgS_sorted a b).1.mem_iff.1 hx) with h | h
  · exact hoa x h
  · exact hob x (List.mem_filter.1 h).1
theorem names_at {a : List Ev} (h : evsF a = 0) (x : Ev) : evNamesF a a.length ⟨x.source, x.no⟩ = (inA a x).map (fun i : Nat => (i : Int)) := nameM_tgt h x.source x.no
set_option maxRecDepth 100000 in
set_option maxHeartbeats 8000000 in
theorem w_Merge (lo : Nat) (A B : Option Addr) (c d : Nat) (a b : List Ev) (w : World) (hA : Rd w lo A 11 encEvt a) (hB : Rd w lo B 11 encEvt b) (hla : a.length ≤ 25) (hlb : b.length ≤ 25) (hoa : ∀ x ∈ a, okEv x) (hob : ∀ x ∈ b, okEv x) :
    Calls Tryz.prog 19 #[.slice A a.length c, .slice B b.length d] w (MergeEnd a b w) := by
  have hmm := @run_makeMap Tryz.prog
  have HC1 := hide (w_CheckEvents lo A c a w hA (by omega) hoa)
  have HC2 := hide (fun W (hn : Nx w W) => w_CheckEvents lo B d b W (hB.nx hn) (by omega) hob)
  have HBN := hide (fun W (hn : Nx w W) => w_byName lo A c a W (hA.nx hn) (by omega) hoa)
  have HCL := hide (fun W (hn : Nx w W) => w_CloneEv lo A c a W (hA.nx hn) (by omega))
  have HOKM := hide (ok_mrg hoa hob)
  have HLM := hide (mrgL_len a b)
  unfold MergeEnd
  obtain ⟨F, hF⟩ : ∃ F, F = mrgF a b := ⟨_, rfl⟩
  rw [← hF]
  have HFF := hide (show F = if orI [evsF a, evsF b] = 0 then mrgF1 a b else orI [evsF a, evsF b] from hF)
  have HZ := hide (show orI [evsF a, evsF b] = 0 → evsF a = 0 ∧ evsF b = 0 from fun h => twoF_zero.1 h)
  obtain ⟨f1, hf1⟩ : ∃ f1, f1 = evsF a := ⟨_, rfl⟩
  obtain ⟨f2, hf2⟩ : ∃ f2, f2 = evsF b := ⟨_, rfl⟩
  rw [← hf1] at HC1 HFF HZ
  rw [← hf2] at HC2 HFF HZ
  have HF1 := hide hf1
  have HF2 := hide hf2
  have HA := hide hA
  have HB := hide hB
  have HOA := hide hoa
  have HOB := hide hob
  obtain ⟨n, hn⟩ : ∃ n, n = a.length := ⟨_, rfl⟩
  obtain ⟨m, hm⟩ : ∃ m, m = b.length := ⟨_, rfl⟩
  rw [← hn] at HC1 HBN HCL hla ⊢
  rw [← hm] at HC2 hlb ⊢
  have HNN := hide hn
  have HMM := hide hm
  clear hA hB hoa hob hF hn hm hf1 hf2
  go_enter Tryz.func19, Tryz.ntmps19
  go_wp2_with fail
  refine HC1.out.mono ?_
  rintro e w1 ⟨rfl, hn1⟩
  have HC3 := hide (HC2.out w1 hn1)
  have HN1 := hide hn1
  clear hn1
  go_wp2_with fail
  refine HC3.out.mono ?_
  rintro e w2 ⟨rfl, hn2⟩
  have HN2 := hide (HN1.out.trans hn2)
  clear hn2
  go_wp2_with fail
  refine (w_First2 f1 f2 w2.heap.size 2 _ (hnew rfl)).mono ?_
  rintro e w3 ⟨rfl, hw3⟩
  obtain ⟨f, hf⟩ : ∃ f, f = orI [f1, f2] := ⟨_, rfl⟩
  rw [← hf] at HFF HZ ⊢
  have HN3 := hide (show Nx w w3 from hw3 ▸ HN2.out.alloc _)
  clear hw3 HC1 HC2 HC3 hf
  have hq : f = 0 ∨ (f != 0) = true := by simp; omega
  rcases hq with hq | hq
  · subst hq
    obtain ⟨hz1, hz2⟩ := HZ.out rfl
    have HE1 := hide (show evsF a = 0 from HF1.out ▸ hz1)
    have HE2 := hide (show evsF b = 0 from HF2.out ▸ hz2)
    have HF3 := hide (show F = mrgF1 a b from HFF.out.trans (if_pos rfl))
    clear hz1 hz2 HF1 HF2 HFF HZ
    have HBN3 := hide (HBN.out w3 HN3.out)
    go_wp2_with fail
    refine HBN3.out.mono ?_
    rintro e w4 ⟨rfl, hM4, hn4⟩
    obtain ⟨g, hg⟩ : ∃ g, g = w3.heap.size := ⟨_, rfl⟩
    rw [← hg] at hM4 ⊢
    have HG := hide hg
    have HN4 := hide (HN3.out.trans hn4)
    have HM4 := hide hM4
    have HCL4 := hide (HCL.out w4 HN4.out)
    clear hg hM4 hn4 HBN HBN3
    go_wp2_with fail
    refine HCL4.out.mono ?_
    rintro e w5 ⟨v5, rfl, hown5, hn5⟩
    have HN5 := hide (HN4.out.trans hn5)
    have HM5 := hide (HM4.out.nx hn5)
    have HO5 := hide hown5
    have HN45 := hide hn5
    have hz5 := HN4.out.sz
    have hg5 : g < w4.heap.size := HM4.out.lt
    clear hown5 hn5 HCL HCL4 hmm
    go_wp2_with fail
    go_loopw [8, 29] (fun v i wr => ∃ j : Nat, j ≤ m ∧ i = .int .i64 j ∧ wr.ownsRow w4.heap.size 31 11 v (mrgL a (b.take j)).length ((mrgL a (b.take j)).flatMap encEvt) ∧ (b.take j).any (clash a) = false ∧ MpNI wr g n (evNamesF a a.length) ∧ w4.heap.size ≤ wr.heap.size ∧ Nx w wr) (fun _ i _ => m - (intOf i).toNat)
    case atStart =>
      refine ⟨0, Nat.zero_le _, rfl, ?_, rfl, ?_, HN45.out.sz, HN5.out⟩
      · have e0 : mrgL a (b.take 0) = a := by simp [mrgL]
        rw [e0, ← HNN.out]; exact HO5.out
      · have := HM5.out; rw [HNN.out] at this ⊢; exact this
    case round =>
      obtain ⟨j, hj, rfl, hown, hcl, hM, hw4, hnx⟩ := hrel
      have HOW := hide hown
      have HNX := hide hnx
      have HCL := hide hcl
      have HM := hide hM
      have hgl : g < wr.heap.size := hM.lt
      clear hown hcl hM
      by_cases hlt : j < m
      · have hlt' : j < b.length := by have := HMM.out; omega
        obtain ⟨b1, off, rfl, _, hb, hbr, hc⟩ := HB.out.open_ hnx (by have := HMM.out; omega)
        obtain ⟨c0, c1, c2, c3, c4, c5, c6, c7, c8, c9, c10⟩ := ev_cells (hc j hlt')
        have hx := HOB.out b[j] (List.getElem_mem hlt')
        have HT := hide (mrg_take a b j hlt')
        have HCT := hide (clash_take a b j hlt')
        have HCA := hide (clash_at a b j hlt')
        have HLL := hide (show (mrgL a (b.take j)).length ≤ 50 by have := mrgL_len a (b.take j); have := List.length_take_le j b; have := HNN.out; have := HMM.out; omega)
        have hna := names_at HE1.out b[j]
        have hnw : newIn a b[j] = (inA a b[j]).isNone := rfl
        have hcd : clash a b[j] = match inA a b[j] with | none => false | some i => decide (a[i]? ≠ some b[j]) := rfl
        have hin : ∀ i, inA a b[j] = some i → ∃ y, a[i]? = some y ∧ y ∈ a := fun i h => by
          obtain ⟨y, hy, _⟩ := inA_some h; exact ⟨y, hy, List.mem_of_getElem? hy⟩
        clear hc hnx
        generalize newIn a b[j] = nw at *
        generalize clash a b[j] = cl at *
        generalize inA a b[j] = q at *
        generalize mrgL a (b.take j) = L at *
        generalize b[j] = x at *
        have hdn : domName ⟨x.source, x.no⟩ := ⟨domS_1000 hx.source, wf_15 hx.no⟩
        obtain ⟨kl, hkey⟩ := key_name ⟨x.source, x.no⟩ hdn
        have hlk := ((HM.out.nx ((Nx.refl wr).alloc (.cells (evA x) 31 (0, 0)))).look_ok intE law_name Tryz.underlying79 (z := (0 : Int)) (by decide) (zeroIntE _) hdn hkey).1
        rw [hna] at hlk
        unfold ekName at hlk
        have HX := hide hx
        clear hna hdn hkey hx
        cases q with
        | none =>
          have HT2 := hide (HT.out.trans (if_pos (by rw [hnw]; rfl)))
          have HCT2 := hide (HCT.out.trans (by rw [HCL.out, hcd] <;> rfl))
          clear hnw hcd hin HT HCT
          simp only [Option.map_none, Option.getD_none, Option.isSome_none] at hlk
          obtain ⟨so, no, at_, ki, ri, ca, nd, up, dn, fo, nu⟩ := x
          unfold evA at hlk
          simp only at c0 c1 c2 c3 c4 c5 c6 c7 c8 c9 c10 hlk
          have q1 : (0 : Int) ≤ (j : Int) := by omega
          have q2 : (j : Int) < (m : Int) := by omega
          go_wp2_with (at_builtin; refine wpApp rfl _ _ _ rfl el_Evt encEvt encEvt_len encEvt_one (by omega) (by omega) w4.heap.size _ L rfl (own_nx HOW.out (((Nx.refl wr).alloc _).alloc _)) _ ⟨so, no, at_, ki, ri, ca, nd, up, dn, fo, nu⟩ _ rfl (hnew (by simp)) rfl (by have := HLL.out; omega) (by simp; omega) ?_; intro v8 w8 hown8 hg8; (have HO8 := hide hown8); (have HG8 := hide hg8); clear hown8 hg8)
          go_roundw
          case rel =>
            refine ⟨j + 1, by omega, by go_num, by rw [HT2.out]; exact HO8.out, HCT2.out, ?_, by have := HG8.out.size; simp at this; omega, ((HNX.out.alloc _).alloc _).grown HG8.out (fun p hp => by have := own_blk_lt HOW.out p hp; omega)⟩
            exact (((HM.out.nx (((Nx.refl wr).alloc _).alloc _)).grown HG8.out (fun e => by have := own_blk_lt HOW.out g e.symm; omega)))
          case measure => simp [intOf]; omega
        | some i =>
          obtain ⟨y, hy, hym⟩ := hin i rfl
          obtain ⟨hil, ey⟩ := List.getElem?_eq_some_iff.1 hy
          have HT2 := hide (HT.out.trans (if_neg (by rw [hnw]; simp)))
          simp only [Option.map_some, Option.getD_some, Option.isSome_some] at hlk
          have hcd2 : cl = decide (y ≠ x) := by rw [hcd]; simp only [hy]; congr 1; simp
          obtain ⟨b2, off2, rfl, _, hb2, hbr2, hc2⟩ := HA.out.open_ HNX.out (by omega)
          obtain ⟨d0, d1, d2, d3, d4, d5, d6, d7, d8, d9, d10⟩ := ev_cells (hc2 i hil)
          rw [ey] at d0 d1 d2 d3 d4 d5 d6 d7 d8 d9 d10
          have hin' : i < n := by have := HNN.out; omega
          clear hnw hcd hin HT hc2 hy ey hym
          obtain ⟨dd, hdd⟩ : ∃ dd, dd = decide (y = x) := ⟨_, rfl⟩
          have hcd3 : cl = !dd := by rw [hcd2, hdd]; simp
          obtain ⟨so, no, at_, ki, ri, ca, nd, up, dn, fo, nu⟩ := x
          obtain ⟨yso, yno, yat, yki, yri, yca, ynd, yup, ydn, yfo, ynu⟩ := y
          unfold evA at hlk
          simp only at c0 c1 c2 c3 c4 c5 c6 c7 c8 c9 c10 d0 d1 d2 d3 d4 d5 d6 d7 d8 d9 d10 hlk
          have q1 : (0 : Int) ≤ (j : Int) := by omega
          have q2 : (j : Int) < (m : Int) := by omega
          have q3 : (0 : Int) ≤ (i : Int) := by omega
          have q4 : (i : Int) < (n : Int) := by omega
          have HCD := hide hcd3
          have hne : ∀ W, (binOp .neq 31 (.agg #[.string yso, .int .i64 yno, .int .i64 yat, .int .i64 yki, .string yri, .string yca, .string ynd, .int .i64 yup, .int .i64 ydn, .string yfo, .int .i64 ynu]) (.agg #[.string so, .int .i64 no, .int .i64 at_, .int .i64 ki, .string ri, .string ca, .string nd, .int .i64 up, .int .i64 dn, .string fo, .int .i64 nu])).run Tryz.prog W = .ok (.bool (!dd)) W := fun W => by rw [neq_Ev, ← hdd]
          clear hcd2 hcd3 hdd hil
          go_upto_region 12 with fail
          go_quiet (fail)
          cases dd
          · have HB2 := hide (HCA.out (by rw [HCD.out]; rfl))
            have HF4 := hide (show F = 13 by rw [HF3.out]; unfold mrgF1; rw [if_pos HB2.out])
            clear HCA
            go_wp2_with fail
            go_ret2
            exact ⟨⟨_, _, _, by rw [HF4.out] <;> rfl, fun _ => rfl, fun h => by rw [HF4.out] at h; cases h⟩, (HNX.out.alloc _).drewN _⟩
          · have HCT2 := hide (HCT.out.trans (by rw [HCL.out, HCD.out] <;> rfl))
            clear HCA HCT
            go_wp2_with fail
            go_roundw
            case rel =>
              exact ⟨j + 1, by omega, by go_num, by rw [HT2.out]; exact own_nx HOW.out (((Nx.refl wr).alloc _).drewN _), HCT2.out, HM.out.nx (((Nx.refl wr).alloc _).drewN _), by simp; omega, (HNX.out.alloc _).drewN _⟩
            case measure => simp [intOf]; omega
      · obtain rfl : j = m := by omega
        have ht : b.take j = b := List.take_of_length_le (by have := HMM.out; omega)
        rw [ht] at HOW HCL
        have hsu : ∀ S, SortedE (mrgL a b) S → S = mrgS a b := fun S hS => sorted_uniq (names_mrg HE1.out (names_right HE2.out)) hS (mrgS_sorted a b)
        have HSU := hide hsu
        have HF5 := hide (show F = evsF (mrgS a b) by rw [HF3.out]; unfold mrgF1; rw [if_neg (by unfold mrgB; rw [HCL.out]; decide)])
        have hll : (mrgL a b).length ≤ 50 := by have := HLM.out; have := HNN.out; have := HMM.out; omega
        have HSO := hide (w_SortEv wr rfl (by omega) HOW.out)
        clear hsu hnx
        go_upto_region 16 with (go_at_call 48; refine HSO.out.mono ?_; rintro e w6 ⟨rfl, ys, hs, ho, hg6⟩; (have HS := hide hs); (have HO := hide ho); (have HG6 := hide hg6); clear hs ho hg6)
        have hys := HSU.out ys HS.out
        have hyl : ys.length = (mrgL a b).length := HS.out.1.length_eq
        have ho := HO.out
        rw [← hyl] at ho
        obtain ⟨A9, c9, e9, hR9, _⟩ := Rd.of_own encEvt_len rfl ho
        have HN6 := hide (HNX.out.grown HG6.out (fun p hp => by have := own_blk_lt HOW.out p hp; omega))
        have hky := HOKM.out
        rw [← hys] at hky
        rw [← hys] at HF5
        have HCE := hide (w_CheckEvents _ A9 c9 ys w6 hR9 (by omega) hky)
        have HR9 := hide (hR9.low hz5)
        have HYS := hide hys
        clear hys hky ho hR9 hyl
        obtain ⟨f9, hf9⟩ : ∃ f9, f9 = evsF ys := ⟨_, rfl⟩
        rw [← hf9] at HCE HF5
        obtain ⟨yl, hyl⟩ : ∃ yl, yl = ys.length := ⟨_, rfl⟩
        rw [← hyl] at HCE e9
        have HYL := hide hyl
        have hF5 := HF5.out
        subst hF5
        subst e9
        clear hf9 hyl HF5
        go_wp2_with fail
        refine HCE.out.mono ?_
        rintro e w7 ⟨rfl, hn7⟩
        have HN7 := hide hn7
        clear hn7
        have hq : F = 0 ∨ (F != 0) = true := by simp; omega
        rcases hq with rfl | hq
        · go_wp2_with fail
          go_ret2
          exact ⟨⟨_, _, ⟨_, rfl⟩, by rw [← HYS.out]; exact HYL.out, by rw [← HYS.out]; exact HR9.out.nx HN7.out⟩, HN6.out.trans HN7.out⟩
        · have HQ := hide (show F ≠ 0 by simpa using hq)
          go_wp2_with fail
          go_ret2
          exact ⟨⟨_, _, _, rfl, fun _ => rfl, fun h => absurd h HQ.out⟩, HN6.out.trans HN7.out⟩
  · have HQ := hide (show f ≠ 0 by simpa using hq)
    have HF3 := hide (show F = f from HFF.out.trans (if_neg HQ.out))
    have hff := HF3.out
    subst hff
    clear HFF HF3
    go_wp2_with fail
    go_ret2
    exact ⟨⟨_, _, _, rfl, fun _ => rfl, fun h => absurd h HQ.out⟩, HN3.out⟩
end Go.Proofs.YtfkmbeppckelfaaGreatDoor
/- Events as keys of a map. -/
namespace Go.Proofs.YtfkmbeppckelfaaGreatDoor
open Go.RowKit Go.Maps

theorem law_evt : Keyed Tryz.prog 31 := Keyed.of_law (deep_law_laid laidOut (m := 5) (by omega) (k := 31) (by rw [tySize]; decide) (by kernel_rfl) (by kernel_rfl))
theorem kt_evt : Tryz.prog.keyType 31 = true := by kernel_rfl
theorem cells_evt : Tryz.prog.cellsOf 31 = 11 := by kernel_rfl
def domEv (x : Ev) : Prop := okEv x
def ekEv (x : Ev) : Value := .agg (evA x)
theorem ekEv_inj (a b : Ev) (h : ekEv a = ekEv b) : a = b := by
  cases a; cases b; simp [ekEv, evA] at h; simp [h]
theorem lits_evt (d : Nat) (x : Ev) (h : domEv x) : Tryz.prog.keyLits (d + 2) 31 (encEvt x) = some [.string x.source.data.toList, .int .i64 x.no, .int .i64 x.at_, .int .i64 x.kind, .string x.ride.data.toList, .string x.car.data.toList, .string x.node.data.toList, .int .i64 x.up, .int .i64 x.down, .string x.from_.data.toList, .int .i64 x.number] := by
  have s0 := domS_1000 h.source
  have s1 := domS_1000 h.ride
  have s2 := domS_1000 h.car
  have s3 := domS_1000 h.node
  have s4 := domS_1000 h.from_
  have i0 := wf_15 h.no
  have i1 := wf_15 h.at_
  have i2 := wf_15 h.kind
  have i3 := wf_15 h.up
  have i4 := wf_15 h.down
  have i5 := wf_15 h.number
  unfold domS at s0 s1 s2 s3 s4
  unfold Program.keyLits; rw [Tryz.underlying31]; simp [encEvt, cells_evt, cells_str, cells_int, lits_str _ _ s0, lits_str _ _ s1, lits_str _ _ s2, lits_str _ _ s3, lits_str _ _ s4, lits_int _ _ i0, lits_int _ _ i1, lits_int _ _ i2, lits_int _ _ i3, lits_int _ _ i4, lits_int _ _ i5]
theorem key_evt (x : Ev) (h : domEv x) : ∃ l, keyOf Tryz.prog 31 (ekEv x) = some l := by
  refine ⟨.string (keyBytes [.string x.source.data.toList, .int .i64 x.no, .int .i64 x.at_, .int .i64 x.kind, .string x.ride.data.toList, .string x.car.data.toList, .string x.node.data.toList, .int .i64 x.up, .int .i64 x.down, .string x.from_.data.toList, .int .i64 x.number]), ?_⟩
  unfold keyOf ekEv evA
  rw [Tryz.underlying31, kt_evt, tySize]
  have e := lits_evt 307 x h
  unfold encEvt at e
  simp [Value.formed, Tryz.underlying31, cells_evt, Value.cells, e]
abbrev MpEB (w : World) (b n : Nat) (f : Ev → Option Bool) : Prop := MgI Tryz.prog 31 ekEv domEv (plainElem Tryz.prog 4) (fun z : Bool => (.lit (.bool z) : DataW Unit)) w b n f
theorem zeroBoolEv (w : World) : (zeroValue 4).run Tryz.prog w = .ok (.bool false) w := by kernel_rfl
/-- Which events there are, of the first k. -/
def evSet (l : List Ev) (k : Nat) : Ev → Option Bool := fun x => if x ∈ l.take k then some true else none
theorem evSet_zero (l : List Ev) : evSet l 0 = fun _ => none := by funext x; simp [evSet]
theorem evSet_succ (l : List Ev) (k : Nat) (h : k < l.length) : evSet l (k + 1) = fun q => if q = l[k] then some true else evSet l k q := by
  funext q
  unfold evSet
  rw [List.take_add_one, List.getElem?_eq_getElem h, Option.toList_some]
  by_cases e : q = l[k]
  · rw [if_pos e, if_pos (List.mem_append_right _ (by rw [e]; exact List.mem_singleton.2 rfl))]
  · rw [if_neg e]
    by_cases e2 : q ∈ l.take k
    · rw [if_pos e2, if_pos (List.mem_append_left _ e2)]
    · rw [if_neg e2, if_neg (fun hm => (List.mem_append.1 hm).elim e2 (fun h => e (List.mem_singleton.1 h)))]
theorem evSet_get (l : List Ev) (x : Ev) : (evSet l l.length x).getD false = decide (x ∈ l) := by
  unfold evSet
  rw [List.take_length]
  by_cases h : x ∈ l <;> simp [h]
end Go.Proofs.YtfkmbeppckelfaaGreatDoor
