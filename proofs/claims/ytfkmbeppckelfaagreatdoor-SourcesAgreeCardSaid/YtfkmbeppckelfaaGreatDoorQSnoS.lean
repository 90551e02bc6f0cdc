/- Plain: events with one more behind them. -/
import Derived.Test.YtfkmbeppckelfaaGreatDoorQG21
namespace Go.Proofs.YtfkmbeppckelfaaGreatDoor

theorem snocE {α : Type} (l : List α) : l = [] ∨ ∃ m x, l = m ++ [x] := by
  rcases List.eq_nil_or_concat l with h | ⟨m, x, h⟩
  · exact .inl h
  · exact .inr ⟨m, x, by rw [h]; simp⟩
/-- The last number of each source. -/
def numF : (ByteArray → Int) → List Ev → (ByteArray → Int)
  | f, [] => f
  | f, x :: l => numF (fun s => if s = x.source then x.no else f s) l
def num0 (l : List Ev) : ByteArray → Int := numF (fun _ => 0) l
/-- The last event. -/
def lastO : Option Ev → List Ev → Option Ev
  | p, [] => p
  | _, x :: l => lastO (some x) l
theorem numF_snoc (f : ByteArray → Int) (l : List Ev) (x : Ev) : numF f (l ++ [x]) = fun s => if s = x.source then x.no else numF f l s := by
  induction l generalizing f with
  | nil => rfl
  | cons y l ih => exact ih _
theorem num0_snoc (l : List Ev) (x : Ev) : num0 (l ++ [x]) = fun s => if s = x.source then x.no else num0 l s := numF_snoc _ l x
theorem lastO_snoc (p : Option Ev) (l : List Ev) (x : Ev) : lastO p (l ++ [x]) = some x := by
  induction l generalizing p with
  | nil => rfl
  | cons y l ih => exact ih _
theorem lastO_get (l : List Ev) : lastO none l = l.getLast? := by
  rcases snocE l with rfl | ⟨m, x, rfl⟩
  · rfl
  · rw [lastO_snoc]; simp
theorem evsGo_snoc (p : Option Ev) (f : ByteArray → Int) (l : List Ev) (x : Ev) : evsGo p f (l ++ [x]) = if evsGo p f l ≠ 0 then evsGo p f l else if evF x ≠ 0 then evF x else if lateB (lastO p l) x then 7 else if x.no ≠ numF f l x.source + 1 then 16 else 0 := by
  induction l generalizing p f with
  | nil =>
    show evsGo p f [x] = _
    unfold evsGo
    rfl
  | cons y l ih =>
    show evsGo p f (y :: (l ++ [x])) = _
    unfold evsGo
    by_cases h1 : evF y ≠ 0
    · rw [if_pos h1, if_pos h1, if_pos h1]
    rw [if_neg h1, if_neg h1]
    by_cases h2 : lateB p y = true
    · rw [if_pos h2, if_pos h2, if_pos (by decide)]
    rw [if_neg h2, if_neg h2]
    by_cases h3 : y.no ≠ f y.source + 1
    · rw [if_pos h3, if_pos h3, if_pos (by decide)]
    rw [if_neg h3, if_neg h3, ih]
    rfl
/-- What is wrong with events and one behind them. -/
theorem evsF_snoc (l : List Ev) (x : Ev) : evsF (l ++ [x]) = if evsF l ≠ 0 then evsF l else if evF x ≠ 0 then evF x else if lateB (lastO none l) x then 7 else if x.no ≠ num0 l x.source + 1 then 16 else 0 := evsGo_snoc _ _ l x
theorem evsF_snoc_zero {l : List Ev} {x : Ev} (h : evsF l = 0) (h1 : evF x = 0) (h2 : lateB (lastO none l) x = false) (h3 : x.no = num0 l x.source + 1) : evsF (l ++ [x]) = 0 := by
  rw [evsF_snoc, if_neg (by simpa using h), if_neg (by simpa using h1), h2, if_neg (by decide), if_neg (by simpa using h3)]
theorem num0_last {l : List Ev} {q : Ev} (h : lastO none l = some q) : num0 l q.source = q.no := by
  rw [lastO_get] at h
  rcases snocE l with rfl | ⟨m, x, rfl⟩
  · cases h
  · simp at h; subst h
    rw [num0_snoc]; exact if_pos rfl
theorem num0_bd (l : List Ev) (h : evsF l = 0) (s : ByteArray) : 0 ≤ num0 l s ∧ num0 l s ≤ l.length := by
  rcases snocE l with rfl | ⟨m, x, rfl⟩
  · exact ⟨Int.le_refl _, Int.le_refl _⟩
  · rw [evsF_snoc] at h
    split at h
    · rename_i c; exact absurd h c
    rename_i c
    have ih := num0_bd m (by simpa using c) s
    have ihx := num0_bd m (by simpa using c) x.source
    split at h
    · rename_i c; exact absurd h c
    split at h
    · cases h
    split at h
    · cases h
    rename_i c4
    have c4 : x.no = num0 m x.source + 1 := by simpa using c4
    rw [num0_snoc]
    simp only [List.length_append, List.length_singleton]
    split <;> omega
termination_by l.length
decreasing_by all_goals (subst_vars; simp)
/-- A right event keeps right with another number. -/
theorem evF_no {x : Ev} (h : evF x = 0) {n : Int} (h1 : 1 ≤ n) (h2 : n ≤ 3000) : evF { x with no := n } = 0 := by
  obtain ⟨a1, a2, _⟩ := evF_zero h
  have e : outB n 1 3000 = outB x.no 1 3000 := by
    rw [(outB_false ..).2 ⟨h1, h2⟩, (outB_false ..).2 a2]
  unfold evF at h ⊢
  simp only [e]
  split at h
  · cases h
  rename_i c1
  rw [if_neg c1]
  split at h
  · cases h
  rename_i c2
  rw [if_neg c2]
  split at h
  · cases h
  rename_i c3
  rw [if_neg c3]
  split at h
  · cases h
  rename_i c4
  rw [if_neg c4]
  split at h
  · cases h
  rename_i c5
  rw [if_neg c5]
  split at h
  · cases h
  rename_i c6
  rw [if_neg]
  intro c7
  refine c6 (fun e => c7 ?_)
  have e1 := congrArg (fun y : Ev => { y with no := n }) e
  exact e1
end Go.Proofs.YtfkmbeppckelfaaGreatDoor
