/- Plain: sums by key; the list of them that is sorted by key; legs split by keys. -/
import Derived.Test.YtbhlldpmklkeoaaGreatDoorQG0
import Derived.Lib.Bytealg
import Derived.Sort.LotA
import Derived.Shelf.SlSortCmp.Insertion
namespace Go.Proofs.YtbhlldpmklkeoaaGreatDoor
open Go.Sort Go.Proofs Go.Shelf

theorem cmpB_zero : ∀ a b : List UInt8, Lib.compareBytes a b = 0 ↔ a = b
  | [], [] => by simp [Lib.compareBytes]
  | [], _ :: _ => by simp [Lib.compareBytes]
  | _ :: _, [] => by simp [Lib.compareBytes]
  | a :: x, b :: y => by
    unfold Lib.compareBytes
    by_cases h1 : a < b
    · have : a ≠ b := fun e => by subst e; exact UInt8.lt_irrefl a h1
      simp [h1, this]
    · by_cases h2 : b < a
      · have : a ≠ b := fun e => by subst e; exact UInt8.lt_irrefl a h2
        simp [h1, h2, this]
      · have e : a = b := UInt8.le_antisymm (UInt8.not_lt.1 h2) (UInt8.not_lt.1 h1)
        subst e
        simp [h1, cmpB_zero x y]
theorem cmpB_neg : ∀ a b : List UInt8, Lib.compareBytes a b < 0 ↔ a < b
  | [], [] => by simp [Lib.compareBytes]
  | [], _ :: _ => by simp [Lib.compareBytes]
  | _ :: _, [] => by simp [Lib.compareBytes]
  | a :: x, b :: y => by
    unfold Lib.compareBytes
    rw [List.cons_lt_cons_iff]
    by_cases h1 : a < b
    · simp [h1]
    · by_cases h2 : b < a
      · have : a ≠ b := fun e => by subst e; exact UInt8.lt_irrefl a h2
        simp [h1, h2, this]
      · have e : a = b := UInt8.le_antisymm (UInt8.not_lt.1 h2) (UInt8.not_lt.1 h1)
        subst e
        simp [h1, cmpB_neg x y]
def cmpS (a b : ByteArray) : Int := Lib.compareBytes a.data.toList b.data.toList
def ltS (a b : ByteArray) : Prop := a.data.toList < b.data.toList
theorem data_inj {a b : ByteArray} (h : a.data.toList = b.data.toList) : a = b := by
  obtain ⟨⟨a⟩⟩ := a
  obtain ⟨⟨b⟩⟩ := b
  simp at h
  rw [h]
theorem cmpS_zero {a b : ByteArray} : cmpS a b = 0 ↔ a = b := by
  unfold cmpS
  rw [cmpB_zero]
  exact ⟨data_inj, fun h => by rw [h]⟩
theorem cmpS_neg {a b : ByteArray} : cmpS a b < 0 ↔ ltS a b := cmpB_neg _ _
theorem ltS_trans {a b c : ByteArray} (h : ltS a b) (h' : ltS b c) : ltS a c := List.lt_trans h h'
theorem ltS_irrefl (a : ByteArray) : ¬ ltS a a := List.lt_irrefl _
theorem ltS_tri (a b : ByteArray) (h : ¬ ltS a b) (h' : ¬ ltS b a) : a = b := data_inj (List.le_antisymm (List.not_lt.1 h') (List.not_lt.1 h))

def dueC (a b : Due) : Int := cmpS a.key b.key
theorem due_lt {a b : Due} : ltOf dueC a b = true ↔ ltS a.key b.key := by
  unfold ltOf dueC
  rw [decide_eq_true_eq, cmpS_neg]
theorem due_nlt {a b : Due} : ltOf dueC a b = false ↔ ¬ ltS a.key b.key := by
  rw [← due_lt]; simp
theorem swoDue : SWO (ltOf dueC) where
  irrefl x := due_nlt.2 (ltS_irrefl _)
  trans x y z h1 h2 := due_lt.2 (ltS_trans (due_lt.1 h1) (due_lt.1 h2))
  ntrans x y z h1 h2 := due_nlt.2 (fun h => by
    have h1 := due_nlt.1 h1
    have h2 := due_nlt.1 h2
    unfold ltS at *
    rw [List.not_lt] at h1 h2
    exact absurd h (List.not_lt.2 (List.le_trans h2 h1)))

/-- ys: the sums by key that are there and are not shut out by 'zero', sorted by key. -/
def DuesOf (f : ByteArray → Option Int) (zero : Bool) (ys : List Due) : Prop :=
  ys.Pairwise (fun a b => ltS a.key b.key) ∧ ∀ d : Due, d ∈ ys ↔ f d.key = some d.cents ∧ (d.cents ≠ 0 ∨ zero = true)
theorem sorted_eq : ∀ {xs ys : List Due}, xs.Pairwise (fun a b => ltS a.key b.key) → ys.Pairwise (fun a b => ltS a.key b.key) → (∀ d, d ∈ xs ↔ d ∈ ys) → xs = ys
  | [], [], _, _, _ => rfl
  | [], y :: ys, _, _, h => by have := (h y).2 (by simp); cases this
  | x :: xs, [], _, _, h => by have := (h x).1 (by simp); cases this
  | x :: xs, y :: ys, h1, h2, h => by
    rw [List.pairwise_cons] at h1 h2
    have e : x = y := by
      rcases List.mem_cons.1 ((h x).1 (by simp)) with e | hx
      · exact e
      · rcases List.mem_cons.1 ((h y).2 (by simp)) with e | hy
        · exact e.symm
        · exact absurd (ltS_trans (h1.1 y hy) (h2.1 x hx)) (ltS_irrefl _)
    subst e
    congr 1
    refine sorted_eq h1.2 h2.2 fun d => ?_
    have hd := h d
    simp only [List.mem_cons] at hd
    constructor
    · intro hx
      rcases hd.1 (.inr hx) with e | h3
      · subst e; exact absurd (h1.1 d hx) (ltS_irrefl _)
      · exact h3
    · intro hy
      rcases hd.2 (.inr hy) with e | h3
      · subst e; exact absurd (h2.1 d hy) (ltS_irrefl _)
      · exact h3
theorem DuesOf.unique {f : ByteArray → Option Int} {zero : Bool} {xs ys : List Due} (h : DuesOf f zero xs) (h' : DuesOf f zero ys) : xs = ys :=
  sorted_eq h.1 h'.1 fun d => (h.2 d).trans (h'.2 d).symm

/-- v more at key k. -/
def addK (f : ByteArray → Option Int) (k : ByteArray) (v : Int) : ByteArray → Option Int := fun k' => if k' = k then some ((f k).getD 0 + v) else f k'
theorem addK_at (f : ByteArray → Option Int) (k : ByteArray) (v : Int) : addK f k v k = some ((f k).getD 0 + v) := by simp [addK]
theorem addK_two (f : ByteArray → Option Int) (k : ByteArray) (a b : Int) : addK (addK f k a) k b = addK f k (a + b) := by
  funext k'
  unfold addK
  by_cases h : k' = k
  · subst h; simp; omega
  · simp [h]
/-- Nothing is below 0, nor above B. -/
def BndK (f : ByteArray → Option Int) (B : Int) : Prop := ∀ k, 0 ≤ (f k).getD 0 ∧ (f k).getD 0 ≤ B
theorem BndK.none (B : Int) (h : 0 ≤ B) : BndK (fun _ => none) B := fun _ => ⟨Int.le_refl _, h⟩
theorem BndK.add {f : ByteArray → Option Int} {B v V : Int} (h : BndK f B) (k : ByteArray) (h0 : 0 ≤ v) (h1 : v ≤ V) : BndK (addK f k v) (B + V) := by
  intro k'
  unfold addK
  have h2 := h k
  by_cases e : k' = k
  · subst e; simp; omega
  · have := h k'
    simp [e]; omega
/-- What ride i of n pays of a leg's cents. -/
def legI (cents : Int) (n i : Nat) : Int := cents / n + if (i : Int) < cents % n then 1 else 0
theorem legI_bd {cents : Int} {n i : Nat} (hn : 0 < n) (h0 : 0 ≤ cents) (h1 : cents ≤ maxCt) : 0 ≤ legI cents n i ∧ legI cents n i ≤ maxCt := by
  have e1 : 0 ≤ cents / (n : Int) := Int.ediv_nonneg h0 (by omega)
  have e2 : cents / (n : Int) * (n : Int) ≤ cents := Int.ediv_mul_le _ (by omega)
  have e3 : cents / (n : Int) * 1 ≤ cents / (n : Int) * (n : Int) := Int.mul_le_mul_of_nonneg_left (by omega) e1
  have e4 := Int.emod_nonneg cents (show (n : Int) ≠ 0 by omega)
  have e5 := Int.mul_ediv_add_emod cents n
  have e6 : (n : Int) * (cents / (n : Int)) = cents / (n : Int) * (n : Int) := Int.mul_comm _ _
  unfold legI
  unfold maxCt at *
  split <;> omega
/-- The first k rides of a leg have paid. -/
def rideK (rides : List ByteArray) (cents : Int) (f : ByteArray → Option Int) : Nat → ByteArray → Option Int
  | 0 => f
  | k + 1 => addK (rideK rides cents f k) (rides.getD k default) (legI cents rides.length k)
theorem rideK_bd {rides : List ByteArray} {cents : Int} {f : ByteArray → Option Int} {B : Int} (h : BndK f B) (hn : 0 < rides.length) (h0 : 0 ≤ cents) (h1 : cents ≤ maxCt) : ∀ k : Nat, BndK (rideK rides cents f k) (B + maxCt * k)
  | 0 => by simpa [rideK] using h
  | k + 1 => by
    have := (rideK_bd h hn h0 h1 k).add (rides.getD k default) (legI_bd (i := k) hn h0 h1).1 (legI_bd hn h0 h1).2
    have e : B + maxCt * ((k + 1 : Nat) : Int) = B + maxCt * k + maxCt := by unfold maxCt; omega
    rw [e]; exact this
theorem sumL_rep (n : Nat) (x : Int) : sumL (List.replicate n x) = n * x := by
  induction n with
  | zero => simp [sumL]
  | succ n ih => rw [List.replicate_succ, sumL, ih, Int.natCast_succ, Int.add_mul]; omega
theorem getD_rep (n : Nat) (x : Int) (i : Nat) (hi : i < n) : (List.replicate n x).getD i 0 = x := by
  rw [List.getD_eq_getElem?_getD, List.getElem?_eq_getElem (by simpa using hi)]; simp
/-- Equal parts: the first ones get one more. -/
theorem divided_ones {cents : Int} {n : Nat} (hn : 0 < n) {zs : List Int} (h : Divided cents (List.replicate n 1) zs) : zs.length = n ∧ ∀ i, i < n → zs.getD i 0 = legI cents n i := by
  have e1 : numsD cents (List.replicate n 1) = List.replicate n cents := by simp [numsD]
  have e2 : sumL (List.replicate n 1) = (n : Int) := by rw [sumL_rep]; omega
  have hm := Int.emod_nonneg cents (show (n : Int) ≠ 0 by omega)
  have hm2 := Int.emod_lt_of_pos cents (show (0 : Int) < n by omega)
  have e3 := Int.mul_ediv_add_emod cents n
  have hH : Divided cents (List.replicate n 1) (bump (List.replicate n (cents / n)) (List.range (cents % n).toNat)) := by
    unfold Divided Handed
    rw [e1, e2]
    refine ⟨List.range (cents % n).toNat, ⟨List.nodup_range, fun i hi => ?_, fun i hi j hj hn => ?_⟩, ?_, ?_⟩
    · rw [List.mem_range] at hi
      rw [rsN_len, List.length_replicate]; omega
    · rw [List.mem_range] at hi hn
      rw [rsN_len, List.length_replicate] at hj
      refine .inr ⟨?_, by omega⟩
      unfold rsN
      rw [List.map_replicate, getD_rep _ _ _ (by omega), getD_rep _ _ _ hj]
    · rw [List.length_range]
      unfold leftN qsN
      rw [List.map_replicate, sumL_rep]
      congr 1; omega
    · unfold qsN
      rw [List.map_replicate]
  have hz : zs = bump (List.replicate n (cents / n)) (List.range (cents % n).toNat) := Handed.unique h hH
  subst hz
  refine ⟨by rw [bump_len, List.length_replicate], fun i hi => ?_⟩
  rw [List.getD_eq_getElem?_getD, List.getElem?_eq_getElem (by rw [bump_len, List.length_replicate]; exact hi), Option.getD_some, bump_get]
  unfold legI
  rw [List.getElem_replicate]
  by_cases hlt : (i : Int) < cents % n
  · rw [if_pos (List.mem_range.2 (by omega)), if_pos hlt]
  · rw [if_neg (fun hc => hlt (by have := List.mem_range.1 hc; omega)), if_neg hlt]; omega
end Go.Proofs.YtbhlldpmklkeoaaGreatDoor
