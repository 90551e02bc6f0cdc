/- Plain functions: tallies checked and summed. -/
import Derived.Test.YtfnbmcinbmbehaaGreatQG0
namespace Go.Proofs.YtfnbmcinbmbehaaGreat

def maxCents : Int := 1000000000
def tallyV (t : Tally) : Bool := isPtB t.x t.y && !outB t.hour 0 167 && !outB t.many 1 maxCents
def tallyF (p : Option Tally) (t : Tally) : Int :=
  if tallyV t then (match p with | some q => if tallyC t q ≤ 0 then 7 else 0 | none => 0) else 1
/-- demand.CheckTallies of at most 400. -/
def talliesF (l : List Tally) : Int := chk tallyF none l
theorem tallyC_sym {a b : Tally} : tallyC a b ≤ 0 ↔ 0 ≤ tallyC b a := by
  have h1 := @tallyC_neg a b
  have h2 := @tallyC_neg b a
  have h3 := @tallyC_zero a b
  have h4 := @tallyC_zero b a
  have e1 : keyT a = keyT b ↔ keyT b = keyT a := ⟨Eq.symm, Eq.symm⟩
  simp only [keyT, Spot.mk.injEq] at h3 h4
  omega
def okTally (t : Tally) : Prop := ((-10000 ≤ t.x ∧ t.x ≤ 10000) ∧ (-10000 ≤ t.y ∧ t.y ≤ 10000)) ∧ (0 ≤ t.hour ∧ t.hour ≤ 167) ∧ (1 ≤ t.many ∧ t.many ≤ 1000000000)
theorem tallyV_ok {t : Tally} (h : tallyV t = true) : okTally t := by
  unfold tallyV maxCents at h
  simp only [Bool.and_eq_true, Bool.not_eq_true', outB_false, isPtB_true] at h
  exact ⟨h.1.1, h.1.2, h.2⟩
theorem chkT_ok : ∀ (l : List Tally) (p : Option Tally), chk tallyF p l = 0 → (∀ c ∈ l, okTally c) ∧ l.Pairwise (fun a b => tallyC a b < 0) ∧ ∀ q, p = some q → ∀ c ∈ l, tallyC q c < 0
  | [], _, _ => ⟨by simp, List.Pairwise.nil, by simp⟩
  | d :: l, p, h => by
    unfold chk at h
    split at h
    · rename_i h0
      have ih := chkT_ok l _ h
      unfold tallyF at h0
      cases h1 : tallyV d
      · rw [h1] at h0; simp at h0
      · rw [h1] at h0
        have hpd : ∀ q, p = some q → tallyC q d < 0 := fun q hq => by
          subst hq
          simp at h0
          have e1 := @tallyC_neg q d
          have e2 := @tallyC_neg d q
          have e3 := @tallyC_zero d q
          simp only [keyT, Spot.mk.injEq] at e3
          omega
        refine ⟨fun c hc => ?_, List.pairwise_cons.2 ⟨fun c hc => ih.2.2 d rfl c hc, ih.2.1⟩, fun q hq c hc => ?_⟩
        · rcases List.mem_cons.1 hc with rfl | hc
          · exact tallyV_ok h1
          · exact ih.1 c hc
        · rcases List.mem_cons.1 hc with rfl | hc
          · exact hpd q hq
          · have a1 := (tallyC_neg).1 (hpd q hq)
            have a2 := (tallyC_neg).1 (ih.2.2 d rfl c hc)
            exact tallyC_neg.2 (by omega)
    · exact absurd h (by assumption)
theorem talliesF_ok {l : List Tally} (h : talliesF l = 0) : (∀ c ∈ l, okTally c) ∧ l.Pairwise (fun a b => tallyC a b < 0) := ⟨(chkT_ok l none h).1, (chkT_ok l none h).2.1⟩

/-- Sums by key. -/
def accF : List (Spot × Int) → Spot → Int
  | [], _ => 0
  | p :: ps, k => (if p.1 = k then p.2 else 0) + accF ps k
theorem accF_app (a b : List (Spot × Int)) (k : Spot) : accF (a ++ b) k = accF a k + accF b k := by
  induction a with
  | nil => simp [accF]
  | cons x a ih => simp only [List.cons_append, accF, ih]; omega
theorem accF_snoc (a : List (Spot × Int)) (s : Spot) (v : Int) : accF (a ++ [(s, v)]) = fun k' => if k' = s then accF a s + v else accF a k' := by
  funext k'
  rw [accF_app]
  by_cases e : k' = s
  · subst e; simp [accF]
  · have : ¬ s = k' := fun h => e h.symm
    simp [accF, e, this]
theorem accF_perm {a b : List (Spot × Int)} (h : a.Perm b) (k : Spot) : accF a k = accF b k := by
  induction h with
  | nil => rfl
  | cons x _ ih => simp only [accF, ih]
  | swap x y l => simp only [accF]; omega
  | trans _ _ h1 h2 => exact h1.trans h2
theorem accF_bd (B : Int) : ∀ (a : List (Spot × Int)), (∀ p ∈ a, 0 ≤ p.2 ∧ p.2 ≤ B) → ∀ k, 0 ≤ accF a k ∧ accF a k ≤ a.length * B
  | [], _, k => by simp [accF]
  | p :: ps, h, k => by
    have ih := accF_bd B ps (fun q hq => h q (List.mem_cons_of_mem _ hq)) k
    have hp := h p (by simp)
    have e : (((p :: ps).length : Nat) : Int) * B = (ps.length : Int) * B + B := by
      rw [List.length_cons]; push_cast; rw [Int.add_mul]; omega
    rw [e]
    simp only [accF]
    split <;> omega
theorem accF_pos {a : List (Spot × Int)} {k : Spot} (h : 0 < accF a k) : ∃ p ∈ a, p.1 = k := by
  induction a with
  | nil => simp [accF] at h
  | cons x a ih =>
    simp only [accF] at h
    by_cases e : x.1 = k
    · exact ⟨x, by simp, e⟩
    · rw [if_neg e] at h
      obtain ⟨p, hp, e2⟩ := ih (by omega)
      exact ⟨p, List.mem_cons_of_mem _ hp, e2⟩
def pairT (t : Tally) : Spot × Int := (keyT t, t.many)
theorem acc_take (l : List Tally) (k : Nat) (hk : k < l.length) : accF ((l.take (k + 1)).map pairT) = fun k' => if k' = keyT l[k] then accF ((l.take k).map pairT) (keyT l[k]) + l[k].many else accF ((l.take k).map pairT) k' := by
  rw [List.take_succ_eq_append_getElem hk, List.map_append, List.map_cons, List.map_nil]
  exact accF_snoc _ _ _

/-- What is wrong with sums, listed. -/
def bigT (t : Tally) : Bool := decide (maxCents < t.many)
def bndE (ys : List Tally) : Int := if ys.any bigT then 1 else talliesF ys
end Go.Proofs.YtfnbmcinbmbehaaGreat
