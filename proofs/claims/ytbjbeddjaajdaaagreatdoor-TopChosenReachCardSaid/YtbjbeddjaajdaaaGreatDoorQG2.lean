/- Plain: sums by key; the list of them that is sorted by key; legs split by keys. -/
import Derived.Test.YtbjbeddjaajdaaaGreatDoorQG0
import Derived.Lib.Bytealg
import Derived.Sort.LotA
import Derived.Shelf.SlSortCmp.Insertion
import Derived.Test.YtbjbeddjaajdaaaGreatDoorQShelfC
import Derived.Shelf.Small.Strs
import Derived.Lib.SlicesCompact
import Derived.Lib.Strings
import Derived.Deep.RegionHeld3
namespace Go.Proofs.YtbjbeddjaajdaaaGreatDoor
open Go.Sort Go.Proofs Go.Shelf

theorem cmpB_zero : ∀ a b : List UInt8, Lib.compareBytes a b = 0 ↔ a = b
  | [], [] => by simp [Lib.compareBytes]
  | [], _ :: _ => by simp [Lib.compareBytes]
  | _ :: _, [] => by simp [Lib.compareBytes]
  | a :: x, b :: y => by
    unfold Lib.compareBytes
    by_cases h1 : a < b
    · have : a ≠ b := fun e => by subst e; exact UInt8.lt_irrefl a h1
      simp [h1, this]
    · by_cases h2 : b < a
      · have : a ≠ b := fun e => by subst e; exact UInt8.lt_irrefl a h2
        simp [h1, h2, this]
      · have e : a = b := UInt8.le_antisymm (UInt8.not_lt.1 h2) (UInt8.not_lt.1 h1)
        subst e
        simp [h1, cmpB_zero x y]
theorem cmpB_neg : ∀ a b : List UInt8, Lib.compareBytes a b < 0 ↔ a < b
  | [], [] => by simp [Lib.compareBytes]
  | [], _ :: _ => by simp [Lib.compareBytes]
  | _ :: _, [] => by simp [Lib.compareBytes]
  | a :: x, b :: y => by
    unfold Lib.compareBytes
    rw [List.cons_lt_cons_iff]
    by_cases h1 : a < b
    · simp [h1]
    · by_cases h2 : b < a
      · have : a ≠ b := fun e => by subst e; exact UInt8.lt_irrefl a h2
        simp [h1, h2, this]
      · have e : a = b := UInt8.le_antisymm (UInt8.not_lt.1 h2) (UInt8.not_lt.1 h1)
        subst e
        simp [h1, cmpB_neg x y]
def cmpS (a b : ByteArray) : Int := Lib.compareBytes a.data.toList b.data.toList
def ltS (a b : ByteArray) : Prop := a.data.toList < b.data.toList
theorem data_inj {a b : ByteArray} (h : a.data.toList = b.data.toList) : a = b := by
  obtain ⟨⟨a⟩⟩ := a
  obtain ⟨⟨b⟩⟩ := b
  simp at h
  rw [h]
theorem cmpS_zero {a b : ByteArray} : cmpS a b = 0 ↔ a = b := by
  unfold cmpS
  rw [cmpB_zero]
  exact ⟨data_inj, fun h => by rw [h]⟩
theorem cmpS_neg {a b : ByteArray} : cmpS a b < 0 ↔ ltS a b := cmpB_neg _ _
theorem ltS_trans {a b c : ByteArray} (h : ltS a b) (h' : ltS b c) : ltS a c := List.lt_trans h h'
theorem ltS_irrefl (a : ByteArray) : ¬ ltS a a := List.lt_irrefl _
theorem ltS_tri (a b : ByteArray) (h : ¬ ltS a b) (h' : ¬ ltS b a) : a = b := data_inj (List.le_antisymm (List.not_lt.1 h') (List.not_lt.1 h))

def dueC (a b : Due) : Int := cmpS a.key b.key
theorem due_lt {a b : Due} : ltOf dueC a b = true ↔ ltS a.key b.key := by
  unfold ltOf dueC
  rw [decide_eq_true_eq, cmpS_neg]
theorem due_nlt {a b : Due} : ltOf dueC a b = false ↔ ¬ ltS a.key b.key := by
  rw [← due_lt]; simp
theorem swoDue : SWO (ltOf dueC) where
  irrefl x := due_nlt.2 (ltS_irrefl _)
  trans x y z h1 h2 := due_lt.2 (ltS_trans (due_lt.1 h1) (due_lt.1 h2))
  ntrans x y z h1 h2 := due_nlt.2 (fun h => by
    have h1 := due_nlt.1 h1
    have h2 := due_nlt.1 h2
    unfold ltS at *
    rw [List.not_lt] at h1 h2
    exact absurd h (List.not_lt.2 (List.le_trans h2 h1)))

/-- ys: the sums by key that are there and are not shut out by 'zero', sorted by key. -/
def DuesOf (f : ByteArray → Option Int) (zero : Bool) (ys : List Due) : Prop :=
  ys.Pairwise (fun a b => ltS a.key b.key) ∧ ∀ d : Due, d ∈ ys ↔ f d.key = some d.cents ∧ (d.cents ≠ 0 ∨ zero = true)
theorem sorted_eq : ∀ {xs ys : List Due}, xs.Pairwise (fun a b => ltS a.key b.key) → ys.Pairwise (fun a b => ltS a.key b.key) → (∀ d, d ∈ xs ↔ d ∈ ys) → xs = ys
  | [], [], _, _, _ => rfl
  | [], y :: ys, _, _, h => by have := (h y).2 (by simp); cases this
  | x :: xs, [], _, _, h => by have := (h x).1 (by simp); cases this
  | x :: xs, y :: ys, h1, h2, h => by
    rw [List.pairwise_cons] at h1 h2
    have e : x = y := by
      rcases List.mem_cons.1 ((h x).1 (by simp)) with e | hx
      · exact e
      · rcases List.mem_cons.1 ((h y).2 (by simp)) with e | hy
        · exact e.symm
        · exact absurd (ltS_trans (h1.1 y hy) (h2.1 x hx)) (ltS_irrefl _)
    subst e
    congr 1
    refine sorted_eq h1.2 h2.2 fun d => ?_
    have hd := h d
    simp only [List.mem_cons] at hd
    constructor
    · intro hx
      rcases hd.1 (.inr hx) with e | h3
      · subst e; exact absurd (h1.1 d hx) (ltS_irrefl _)
      · exact h3
    · intro hy
      rcases hd.2 (.inr hy) with e | h3
      · subst e; exact absurd (h2.1 d hy) (ltS_irrefl _)
      · exact h3
theorem DuesOf.unique {f : ByteArray → Option Int} {zero : Bool} {xs ys : List Due} (h : DuesOf f zero xs) (h' : DuesOf f zero ys) : xs = ys :=
  sorted_eq h.1 h'.1 fun d => (h.2 d).trans (h'.2 d).symm

/-- v more at key k. -/
def addK (f : ByteArray → Option Int) (k : ByteArray) (v : Int) : ByteArray → Option Int := fun k' => if k' = k then some ((f k).getD 0 + v) else f k'
theorem addK_at (f : ByteArray → Option Int) (k : ByteArray) (v : Int) : addK f k v k = some ((f k).getD 0 + v) := by simp [addK]
theorem addK_two (f : ByteArray → Option Int) (k : ByteArray) (a b : Int) : addK (addK f k a) k b = addK f k (a + b) := by
  funext k'
  unfold addK
  by_cases h : k' = k
  · subst h; simp; omega
  · simp [h]
/-- Nothing is below 0, nor above B. -/
def BndK (f : ByteArray → Option Int) (B : Int) : Prop := ∀ k, 0 ≤ (f k).getD 0 ∧ (f k).getD 0 ≤ B
theorem BndK.none (B : Int) (h : 0 ≤ B) : BndK (fun _ => none) B := fun _ => ⟨Int.le_refl _, h⟩
theorem BndK.add {f : ByteArray → Option Int} {B v V : Int} (h : BndK f B) (k : ByteArray) (h0 : 0 ≤ v) (h1 : v ≤ V) : BndK (addK f k v) (B + V) := by
  intro k'
  unfold addK
  have h2 := h k
  by_cases e : k' = k
  · subst e; simp; omega
  · have := h k'
    simp [e]; omega
/-- What ride i of n pays of a leg's cents. -/
def legI (cents : Int) (n i : Nat) : Int := cents / n + if (i : Int) < cents % n then 1 else 0
theorem legI_bd {cents : Int} {n i : Nat} (hn : 0 < n) (h0 : 0 ≤ cents) (h1 : cents ≤ maxCt) : 0 ≤ legI cents n i ∧ legI cents n i ≤ maxCt := by
  have e1 : 0 ≤ cents / (n : Int) := Int.ediv_nonneg h0 (by omega)
  have e2 : cents / (n : Int) * (n : Int) ≤ cents := Int.ediv_mul_le _ (by omega)
  have e3 : cents / (n : Int) * 1 ≤ cents / (n : Int) * (n : Int) := Int.mul_le_mul_of_nonneg_left (by omega) e1
  have e4 := Int.emod_nonneg cents (show (n : Int) ≠ 0 by omega)
  have e5 := Int.mul_ediv_add_emod cents n
  have e6 : (n : Int) * (cents / (n : Int)) = cents / (n : Int) * (n : Int) := Int.mul_comm _ _
  unfold legI
  unfold maxCt at *
  split <;> omega
/-- The first k rides of a leg have paid. -/
def rideK (rides : List ByteArray) (cents : Int) (f : ByteArray → Option Int) : Nat → ByteArray → Option Int
  | 0 => f
  | k + 1 => addK (rideK rides cents f k) (rides.getD k default) (legI cents rides.length k)
theorem rideK_bd {rides : List ByteArray} {cents : Int} {f : ByteArray → Option Int} {B : Int} (h : BndK f B) (hn : 0 < rides.length) (h0 : 0 ≤ cents) (h1 : cents ≤ maxCt) : ∀ k : Nat, BndK (rideK rides cents f k) (B + maxCt * k)
  | 0 => by simpa [rideK] using h
  | k + 1 => by
    have := (rideK_bd h hn h0 h1 k).add (rides.getD k default) (legI_bd (i := k) hn h0 h1).1 (legI_bd hn h0 h1).2
    have e : B + maxCt * ((k + 1 : Nat) : Int) = B + maxCt * k + maxCt := by unfold maxCt; omega
    rw [e]; exact this
theorem sumL_rep (n : Nat) (x : Int) : sumL (List.replicate n x) = n * x := by
  induction n with
  | zero => simp [sumL]
  | succ n ih => rw [List.replicate_succ, sumL, ih, Int.natCast_succ, Int.add_mul]; omega
theorem getD_rep (n : Nat) (x : Int) (i : Nat) (hi : i < n) : (List.replicate n x).getD i 0 = x := by
  rw [List.getD_eq_getElem?_getD, List.getElem?_eq_getElem (by simpa using hi)]; simp
/-- Equal parts: the first ones get one more. -/
theorem divided_ones {cents : Int} {n : Nat} (hn : 0 < n) {zs : List Int} (h : Divided cents (List.replicate n 1) zs) : zs.length = n ∧ ∀ i, i < n → zs.getD i 0 = legI cents n i := by
  have e1 : numsD cents (List.replicate n 1) = List.replicate n cents := by simp [numsD]
  have e2 : sumL (List.replicate n 1) = (n : Int) := by rw [sumL_rep]; omega
  have hm := Int.emod_nonneg cents (show (n : Int) ≠ 0 by omega)
  have hm2 := Int.emod_lt_of_pos cents (show (0 : Int) < n by omega)
  have e3 := Int.mul_ediv_add_emod cents n
  have hH : Divided cents (List.replicate n 1) (bump (List.replicate n (cents / n)) (List.range (cents % n).toNat)) := by
    unfold Divided Handed
    rw [e1, e2]
    refine ⟨List.range (cents % n).toNat, ⟨List.nodup_range, fun i hi => ?_, fun i hi j hj hn => ?_⟩, ?_, ?_⟩
    · rw [List.mem_range] at hi
      rw [rsN_len, List.length_replicate]; omega
    · rw [List.mem_range] at hi hn
      rw [rsN_len, List.length_replicate] at hj
      refine .inr ⟨?_, by omega⟩
      unfold rsN
      rw [List.map_replicate, getD_rep _ _ _ (by omega), getD_rep _ _ _ hj]
    · rw [List.length_range]
      unfold leftN qsN
      rw [List.map_replicate, sumL_rep]
      congr 1; omega
    · unfold qsN
      rw [List.map_replicate]
  have hz : zs = bump (List.replicate n (cents / n)) (List.range (cents % n).toNat) := Handed.unique h hH
  subst hz
  refine ⟨by rw [bump_len, List.length_replicate], fun i hi => ?_⟩
  rw [List.getD_eq_getElem?_getD, List.getElem?_eq_getElem (by rw [bump_len, List.length_replicate]; exact hi), Option.getD_some, bump_get]
  unfold legI
  rw [List.getElem_replicate]
  by_cases hlt : (i : Int) < cents % n
  · rw [if_pos (List.mem_range.2 (by omega)), if_pos hlt]
  · rw [if_neg (fun hc => hlt (by have := List.mem_range.1 hc; omega)), if_neg hlt]; omega
end Go.Proofs.YtbjbeddjaajdaaaGreatDoor
/- strings.Compare. -/
namespace Go.Proofs.YtbjbeddjaajdaaaGreatDoor
open Go.RowKit Go.Shelf Go.Proofs

theorem w_CompareS (a b : ByteArray) (w : World) : Calls Tryz.prog 101 #[.string a, .string b] w fun e w' => e = .returned (.int .i64 (cmpS a b)) ∧ w = w' :=
  (Any.strings_Compare Tryz.compareStr a b w).mono fun _ _ ⟨h1, h2⟩ => ⟨h1, h2.symm⟩
end Go.Proofs.YtbjbeddjaajdaaaGreatDoor
/- slices.ContainsFunc over numbers and dues, slices.EqualFunc of keys and dues: each for every function value that answers plainly. -/
namespace Go.Proofs.YtbjbeddjaajdaaaGreatDoor
open Go.RowKit

def Enters (g : Nat) : Prop := ∀ args w, (callFunc g args).run Tryz.prog w = .ok (.enter g args) w

theorem eqS_iff (s t : ByteArray) : (s.toList == t.toList) = decide (s = t) := by
  rw [Bool.eq_iff_iff, beq_iff_eq, decide_eq_true_eq, Lib.toList_data, Lib.toList_data]
  constructor
  · intro h
    rcases s with ⟨⟨s⟩⟩
    rcases t with ⟨⟨t⟩⟩
    simp at h
    rw [h]
  · rintro rfl; rfl

/-- Cents told of a due. -/
def badD (d : Due) : Bool := outB d.cents (-maxCt) maxCt
theorem keys_step {l : List ByteArray} {ds : List Due} {k : Nat} (hl : l.length = ds.length) (hk : k < l.length) (h : l.take k = (ds.take k).map (·.key)) (he : l[k] = (ds[k]'(by omega)).key) : l.take (k + 1) = (ds.take (k + 1)).map (·.key) := by
  rw [List.take_succ_eq_append_getElem hk, List.take_succ_eq_append_getElem (by omega), List.map_append, h, he]; rfl
theorem keys_not {l : List ByteArray} {ds : List Due} {k : Nat} (hl : l.length = ds.length) (hk : k < l.length) (he : ¬ l[k] = (ds[k]'(by omega)).key) : ¬ l = ds.map (·.key) := by
  intro h
  apply he
  have : l[k]? = (ds.map (·.key))[k]? := by rw [← h]
  rw [List.getElem?_eq_getElem hk, List.getElem?_map, List.getElem?_eq_getElem (by omega)] at this
  simpa using this
end Go.Proofs.YtbjbeddjaajdaaaGreatDoor
/- A node's number: the program's search. -/
namespace Go.Proofs.YtbjbeddjaajdaaaGreatDoor
open Go.RowKit

theorem w_node1 (x : Node) (s : ByteArray) (w : World) : Calls Tryz.prog 100 #[.agg #[.string x.key, .int .i64 x.x, .int .i64 x.y], .string s] w fun e w' => e = .returned (.int .i64 (cmpS x.key s)) ∧ Nx w w' := by
  go_enter Tryz.func100, Tryz.ntmps100
  go_wp2_with (go_at_call 101; refine (w_CompareS _ _ _).mono ?_; rintro e w' ⟨rfl, rfl⟩)
  go_ret
  exact ⟨rfl, (Nx.refl _).alloc _⟩

/-- Where a search ends. -/
structure Found (f : Nat → Int) (n r : Nat) (is : Bool) : Prop where
  le : r ≤ n
  lo : ∀ i, i < r → f i < 0
  hi : ∀ i, r ≤ i → i < n → 0 ≤ f i
  is_ : is = (decide (r < n) && decide (f r = 0))
set_option maxRecDepth 100000 in
set_option maxHeartbeats 2000000 in
theorem w_BsfNode (g : Nat) (f : Node → Int) (x : ByteArray) (eg : Enters g) (hcl : ∀ (y : Node) W, Calls Tryz.prog g #[.agg #[.string y.key, .int .i64 y.x, .int .i64 y.y], .string x] W fun e w' => e = .returned (.int .i64 (f y)) ∧ Nx W w')
    (lo : Nat) (A : Option Addr) (c : Nat) (l : List Node) (w : World) (hR : Rd w lo A 3 encNode l) (hl : l.length ≤ 65536)
    (hm : ∀ i j, i ≤ j → j < l.length → f (l.getD j default) < 0 → f (l.getD i default) < 0) :
    Calls Tryz.prog 99 #[.slice A l.length c, .string x, .func (.func g) #[] #[]] w fun e w' => ∃ (r : Nat) (is : Bool), e = .returned (.tuple #[.int .i64 (r : Int), .bool is]) ∧ Found (fun i => f (l.getD i default)) l.length r is ∧ Nx w w' := by
  generalize hn : l.length = n at *
  have HR := hide hR
  have HN := hide hn
  have HC0 := hide hcl
  have HM := hide hm
  clear hR hn hcl hm
  unfold Enters at eg
  have HG := hide (fun i (hi : i < l.length) => (show l.getD i default = l[i] by rw [List.getD_eq_getElem?_getD, List.getElem?_eq_getElem hi]; rfl))
  go_enter Tryz.func99, Tryz.ntmps99
  go_wp2
  go_loopw [9, 10, 11] (fun vi vj _ wr => ∃ i j : Nat, i ≤ j ∧ j ≤ n ∧ vi = .int .i64 i ∧ vj = .int .i64 j ∧ Nx w wr ∧ (∀ m, m < i → f (l.getD m default) < 0) ∧ (∀ m, j ≤ m → m < n → 0 ≤ f (l.getD m default))) (fun vi vj _ _ => (intOf vj).toNat - (intOf vi).toNat)
  case atStart => exact ⟨0, n, Nat.zero_le _, Nat.le_refl _, rfl, rfl, Nx.refl _, fun m hm => by omega, fun m h1 h2 => by omega⟩
  case round =>
    obtain ⟨i, j, hij, hj, rfl, rfl, hbw, hlo, hhi⟩ := hrel
    have HLO := hide hlo
    have HHI := hide hhi
    clear hlo hhi
    by_cases hlt : i < j
    · obtain ⟨h, hh⟩ : ∃ h, h = (i + j) / 2 := ⟨_, rfl⟩
      have qh : ((i : Int) + (j : Int)) / 2 = (h : Int) := by omega
      have hih : i ≤ h := by omega
      have hhj : h < j := by omega
      have hh' : h < l.length := by have := HN.out; omega
      clear hh
      obtain ⟨b, off, rfl, _, hb, hbr, hc⟩ := HR.out.open_ hbw (by omega)
      have c0 : wr.cell? ⟨b, off + h * 3, none⟩ = some (.string l[h].key) := hc h hh' 0 _ rfl
      have c1 : wr.cell? ⟨b, off + h * 3 + 1, none⟩ = some (.int .i64 l[h].x) := hc h hh' 1 _ rfl
      have c2 : wr.cell? ⟨b, off + h * 3 + 2, none⟩ = some (.int .i64 l[h].y) := hc h hh' 2 _ rfl
      clear hc
      have HE := hide (HG.out h hh')
      have HCY := hide (HC0.out l[h])
      by_cases hneg : f l[h] < 0
      · have t1 : decide (f l[h] < 0) = true := by simpa using hneg
        have HNG := hide hneg
        clear hneg
        generalize l[h] = y at *
        go_wp2_with (go_at_fn g; refine (HCY.out _).mono ?_; rintro e w2 ⟨rfl, hn2⟩)
        go_roundw
        case rel => exact ⟨h + 1, j, by omega, by omega, by go_num, rfl, hbw.trans hn2, fun m hm => HM.out m h (by omega) (by omega) (by rw [HE.out]; exact HNG.out), HHI.out⟩
        case measure => simp [intOf]; omega
      · have t1 : decide (f l[h] < 0) = false := by simpa using hneg
        have HNG := hide hneg
        clear hneg
        generalize l[h] = y at *
        go_wp2_with (go_at_fn g; refine (HCY.out _).mono ?_; rintro e w2 ⟨rfl, hn2⟩)
        go_roundw
        case rel => exact ⟨i, h, by omega, by omega, rfl, rfl, hbw.trans hn2, HLO.out, fun m h1 h2 => by
          refine Int.not_lt.1 fun hc => ?_
          have h3 := HM.out h m h1 h2 hc
          rw [HE.out] at h3
          have := HNG.out
          omega⟩
        case measure => simp [intOf]; omega
    · have hij' : i = j := by omega
      subst hij'
      clear hlt hij
      by_cases hin : i < n
      · have hi' : i < l.length := by have := HN.out; omega
        obtain ⟨b, off, rfl, _, hb, hbr, hc⟩ := HR.out.open_ hbw (by omega)
        have c0 : wr.cell? ⟨b, off + i * 3, none⟩ = some (.string l[i].key) := hc i hi' 0 _ rfl
        have c1 : wr.cell? ⟨b, off + i * 3 + 1, none⟩ = some (.int .i64 l[i].x) := hc i hi' 1 _ rfl
        have c2 : wr.cell? ⟨b, off + i * 3 + 2, none⟩ = some (.int .i64 l[i].y) := hc i hi' 2 _ rfl
        clear hc
        have HE := hide (HG.out i hi')
        have HCY := hide (HC0.out l[i])
        generalize l[i] = y at *
        go_wp2_with (go_at_fn g; refine (HCY.out _).mono ?_; rintro e w2 ⟨rfl, hn2⟩)
        go_ret2
        exact ⟨i, _, rfl, ⟨hj, HLO.out, HHI.out, by show _ = (decide (i < n) && decide (f (l.getD i default) = 0)); rw [HE.out, decide_eq_true hin]; rfl⟩, hbw.trans hn2⟩
      · go_wp2
        go_ret2
        exact ⟨i, _, rfl, ⟨hj, HLO.out, HHI.out, by rw [decide_eq_false hin]; rfl⟩, hbw⟩

theorem found_at {f : Nat → Int} {n r : Nat} {is : Bool} (h : Found f n r is) (k : Nat) (hk : k < n) (h0 : f k = 0) (hlo : ∀ i, i < k → f i < 0) : r = k ∧ is = true := by
  have e : r = k := by
    rcases Nat.lt_trichotomy r k with h1 | h1 | h1
    · have := h.hi r (Nat.le_refl _) (by omega); have := hlo r h1; omega
    · exact h1
    · have := h.lo k h1; omega
  subst e
  exact ⟨rfl, by rw [h.is_, decide_eq_true hk, h0]; rfl⟩
theorem found_no {f : Nat → Int} {n r : Nat} {is : Bool} (h : Found f n r is) (hno : ∀ k, k < n → f k ≠ 0) : is = false := by
  rw [h.is_]
  by_cases hr : r < n
  · rw [decide_eq_false (hno r hr)]; simp
  · rw [decide_eq_false hr]; rfl
end Go.Proofs.YtbjbeddjaajdaaaGreatDoor
/- Plain: how long an arc takes at a moment. -/
namespace Go.Proofs.YtbjbeddjaajdaaaGreatDoor

/-- The line between two knots. -/
def lineI (k y : Knot) (t : Int) : Int := (k.time * (y.at_ - t) + y.time * (t - k.at_)) / (y.at_ - k.at_)
def segI (l : List Knot) (t : Int) : Nat := (l.takeWhile (fun k => decide (k.at_ ≤ t))).length - 1
def timeI (l : List Knot) (at_ : Int) : Int := lineI (l.getD (segI l (at_ % dayMs)) default) (afterK l (segI l (at_ % dayMs))) (at_ % dayMs)
theorem takeWhile_len {α : Type} {p : α → Bool} : ∀ (l : List α) (k : Nat), k ≤ l.length → (∀ m (h : m < l.length), m < k → p l[m] = true) → (∀ h : k < l.length, p l[k] = false) → (l.takeWhile p).length = k
  | [], k, hk, _, _ => by simp at hk; subst hk; rfl
  | a :: l, 0, _, _, h2 => by
    have h0 : p a = false := h2 (by simp)
    rw [List.takeWhile_cons]; simp [h0]
  | a :: l, k + 1, hk, h1, h2 => by
    have h0 : p a = true := h1 0 (by simp) (by omega)
    rw [List.takeWhile_cons]; simp only [h0, if_true, List.length_cons]
    rw [takeWhile_len l k (by simpa using hk) (fun m h hm => h1 (m + 1) (by simpa using h) (by omega)) (fun h => h2 (by simpa using h))]
/-- Knots that are right. -/
structure KOk (l : List Knot) : Prop where
  pos : 0 < l.length
  le : l.length ≤ 48
  first : (l.getD 0 default).at_ = 0
  bd : ∀ i, i < l.length → (0 ≤ (l.getD i default).at_ ∧ (l.getD i default).at_ ≤ 86399999) ∧ (1 ≤ (l.getD i default).time ∧ (l.getD i default).time ≤ 3600000)
  up : ∀ i, i + 1 < l.length → (l.getD i default).at_ < (l.getD (i + 1) default).at_
theorem KOk.lt {l : List Knot} (h : KOk l) : ∀ (i j : Nat), i < j → j < l.length → (l.getD i default).at_ < (l.getD j default).at_
  | i, 0, h1, _ => absurd h1 (by omega)
  | i, j + 1, h1, h2 => by
    have h3 := h.up j h2
    rcases Nat.lt_or_ge i j with h4 | h4
    · have := KOk.lt h i j h4 (by omega); omega
    · have : i = j := by omega
      subst this; exact h3
theorem chkK_ok : ∀ (l : List Knot) (p : Option Knot), chk knotF p l = 0 → (∀ i, i < l.length → (0 ≤ (l.getD i default).at_ ∧ (l.getD i default).at_ ≤ 86399999) ∧ (1 ≤ (l.getD i default).time ∧ (l.getD i default).time ≤ 3600000)) ∧ (∀ i, i + 1 < l.length → (l.getD i default).at_ < (l.getD (i + 1) default).at_) ∧ (0 < l.length → (p = none → (l.getD 0 default).at_ = 0) ∧ ∀ q, p = some q → q.at_ < (l.getD 0 default).at_)
  | [], _, _ => ⟨fun i hi => absurd hi (by simp), fun i hi => absurd hi (by simp), fun h => absurd h (by simp)⟩
  | k :: l, p, h => by
    unfold chk at h
    by_cases h0 : knotF p k = 0
    · rw [if_pos h0] at h
      have ih := chkK_ok l (some k) h
      unfold knotF at h0
      cases h1 : (outB k.at_ 0 (dayMs - 1) || outB k.time 1 3600000) with
      | true => rw [h1, if_pos rfl] at h0; exact absurd h0 (by decide)
      | false =>
        rw [h1] at h0
        rw [if_neg (by simp)] at h0
        rw [Bool.or_eq_false_iff] at h1
        have b1 := outB_false.1 h1.1
        have b2 := outB_false.1 h1.2
        unfold dayMs at b1
        refine ⟨fun i hi => ?_, fun i hi => ?_, fun _ => ⟨fun hp => ?_, fun q hq => ?_⟩⟩
        · cases i with
          | zero => exact ⟨by show 0 ≤ k.at_ ∧ k.at_ ≤ _; omega, b2⟩
          | succ i => exact ih.1 i (by simpa using hi)
        · cases i with
          | zero => exact (ih.2.2 (by simpa using hi)).2 k rfl
          | succ i => exact ih.2.1 i (by simpa using hi)
        · subst hp
          show k.at_ = 0
          by_cases hz : k.at_ = 0
          · exact hz
          · simp [hz] at h0
        · subst hq
          show q.at_ < k.at_
          by_cases hz : k.at_ ≤ q.at_
          · simp [hz] at h0
          · omega
    · rw [if_neg h0] at h; exact absurd h h0
theorem knotsF_chk {l : List Knot} (h : knotsF l = 0) : KOk l := by
  unfold knotsF at h
  by_cases h0 : l.length = 0
  · rw [if_pos h0] at h; exact absurd h (by decide)
  rw [if_neg h0] at h
  by_cases h1 : 48 < l.length
  · rw [if_pos h1] at h; exact absurd h (by decide)
  rw [if_neg h1] at h
  by_cases h2 : chk knotF none l = 0
  · obtain ⟨a, b, c⟩ := chkK_ok l none h2
    exact ⟨by omega, by omega, (c (by omega)).1 rfl, a, b⟩
  · rw [if_neg h2] at h; exact absurd h h2
/-- i is the last knot that is not behind t. -/
theorem seg_of {l : List Knot} (h : KOk l) {t : Int} {i : Nat} (hi : i < l.length) (h1 : (l.getD i default).at_ ≤ t) (h2 : i + 1 < l.length → t < (l.getD (i + 1) default).at_) : segI l t = i := by
  unfold segI
  rw [takeWhile_len l (i + 1) hi (fun m hm hmi => ?_) (fun hk => ?_)]
  · rfl
  · have e : l[m] = l.getD m default := by rw [List.getD_eq_getElem?_getD, List.getElem?_eq_getElem hm]; rfl
    rw [e, decide_eq_true_eq]
    rcases Nat.lt_or_ge m i with h4 | h4
    · have := h.lt m i h4 hi; omega
    · have : m = i := by omega
      subst this; exact h1
  · have e : l[i + 1] = l.getD (i + 1) default := by rw [List.getD_eq_getElem?_getD, List.getElem?_eq_getElem hk]; rfl
    rw [e, decide_eq_false_iff_not]
    have := h2 hk; omega
theorem after_bd {l : List Knot} (h : KOk l) {i : Nat} (hi : i < l.length) : ((l.getD i default).at_ < (afterK l i).at_ ∧ (afterK l i).at_ ≤ 86400000) ∧ (1 ≤ (afterK l i).time ∧ (afterK l i).time ≤ 3600000) := by
  unfold afterK
  by_cases h1 : i + 1 < l.length
  · rw [if_pos h1]
    have a := h.bd (i + 1) h1
    have b := h.up i h1
    omega
  · rw [if_neg h1]
    have a := h.bd i hi
    have b := h.bd 0 h.pos
    simp only [dayMs]
    omega
theorem time_one {l : List Knot} (h : l.length = 1) (hk : KOk l) (at_ : Int) : timeI l at_ = (l.getD 0 default).time := by
  have hs : segI l (at_ % dayMs) = 0 := seg_of hk (by omega) (by
    rw [hk.first]
    have := Int.emod_nonneg at_ (show dayMs ≠ 0 by decide)
    omega) (fun h1 => by omega)
  unfold timeI
  rw [hs]
  have e : afterK l 0 = ⟨dayMs, (l.getD 0 default).time⟩ := by unfold afterK; rw [if_neg (by omega)]
  rw [e]
  unfold lineI
  rw [hk.first]
  simp only [Int.sub_zero]
  rw [← Int.mul_add, show dayMs - at_ % dayMs + at_ % dayMs = dayMs by omega]
  exact Int.mul_ediv_cancel _ (by decide)
end Go.Proofs.YtbjbeddjaajdaaaGreatDoor
/- Plain: zones, what is wrong with them; the zone of a node; the zones to which nodes come. -/
namespace Go.Proofs.YtbjbeddjaajdaaaGreatDoor

structure Zone where
  key : ByteArray
  a : Option Addr
  cap : Nat
  nodes : List ByteArray
instance : Inhabited Zone := ⟨⟨default, none, 0, []⟩⟩
def encZone (z : Zone) : List Value := [.string z.key, .slice z.a z.nodes.length z.cap]
def memB (l : List ByteArray) (s : ByteArray) : Bool := l.any (fun x => decide (x = s))
theorem memB_iff {l : List ByteArray} {s : ByteArray} : memB l s = true ↔ s ∈ l := by
  unfold memB
  rw [List.any_eq_true]
  constructor
  · rintro ⟨x, hx, h⟩
    rw [decide_eq_true_eq] at h; subst h; exact hx
  · intro h
    exact ⟨s, h, by simp⟩
/-- A node: its name, its order, whether it was seen. -/
def nodeE (seen : List ByteArray) (p : Option ByteArray) (s : ByteArray) : Int := if strF p s = 0 then (if memB seen s = true then 6 else 0) else strF p s
def chkN : List ByteArray → Option ByteArray → List ByteArray → Int
  | _, _, [] => 0
  | seen, p, s :: l => if nodeE seen p s = 0 then chkN (seen ++ [s]) (some s) l else nodeE seen p s
def zoneE (p : Option ByteArray) (z : Zone) : Int := if strF p z.key = 0 then (if 500 < z.nodes.length then 2 else 0) else strF p z.key
def chkZ : List ByteArray → Option ByteArray → List Zone → Int
  | _, _, [] => 0
  | seen, p, z :: l => if zoneE p z = 0 then (if chkN seen none z.nodes = 0 then chkZ (seen ++ z.nodes) (some z.key) l else chkN seen none z.nodes) else zoneE p z
def zonesF (zs : List Zone) : Int := if 100 < zs.length then 2 else chkZ [] none zs
def zoneO : List Zone → ByteArray → ByteArray
  | [], _ => ByteArray.empty
  | z :: l, s => if memB z.nodes s = true then z.key else zoneO l s
def namesF (l : List ByteArray) (most : Nat) : Int := if most < l.length then 2 else if l.all keyB then 0 else 5
def namF (s : ByteArray) : Int := if keyB s then 0 else 5

theorem strLe_lt {s q : ByteArray} (h : strLe s q = false) : ltS q s := by
  unfold strLe at h
  rw [Bool.or_eq_false_iff, Proofs.bytesLess_eq, Lib.toList_data, Lib.toList_data] at h
  unfold ltS
  have h1 : ¬ s.data.toList < q.data.toList := by simpa using h.1
  have h2 : s.data.toList ≠ q.data.toList := by simpa using h.2
  have h3 : q.data.toList ≤ s.data.toList := List.not_lt.1 h1
  refine Classical.byContradiction fun hc => h2 (List.le_antisymm (List.not_lt.1 hc) h3)
theorem strF_lt {q s : ByteArray} (h : strF (some q) s = 0) : ltS q s := by
  unfold strF at h
  cases hk : keyB s with
  | false => simp [hk] at h
  | true =>
    rw [hk, if_pos rfl] at h
    cases hl : strLe s q with
    | false => exact strLe_lt hl
    | true => simp [hl] at h
theorem chkN_sorted : ∀ (seen : List ByteArray) (p : Option ByteArray) (l : List ByteArray), chkN seen p l = 0 → l.Pairwise ltS ∧ ∀ q, p = some q → ∀ s ∈ l, ltS q s
  | _, _, [], _ => by simp
  | seen, p, s :: l, h => by
    unfold chkN at h
    split at h
    · rename_i he
      obtain ⟨h1, h2⟩ := chkN_sorted _ _ l h
      have hp : strF p s = 0 := by
        unfold nodeE at he
        split at he
        · assumption
        · assumption
      have h3 : ∀ q, p = some q → ltS q s := fun q e => by subst e; exact strF_lt hp
      refine ⟨List.pairwise_cons.2 ⟨fun y hy => h2 s rfl y hy, h1⟩, fun q e y hy => ?_⟩
      rcases List.mem_cons.1 hy with rfl | hy
      · exact h3 q e
      · exact ltS_trans (h3 q e) (h2 s rfl y hy)
    · rename_i he
      exact absurd h he
theorem chkZ_sorted : ∀ (seen : List ByteArray) (p : Option ByteArray) (l : List Zone), chkZ seen p l = 0 → ∀ z ∈ l, z.nodes.Pairwise ltS
  | _, _, [], _ => by simp
  | seen, p, z :: l, h => by
    unfold chkZ at h
    split at h
    · split at h
      · rename_i hn
        have ih := chkZ_sorted _ _ l h
        intro y hy
        rcases List.mem_cons.1 hy with rfl | hy
        · exact (chkN_sorted _ _ _ hn).1
        · exact ih y hy
      · rename_i hn; exact absurd h hn
    · rename_i hn; exact absurd h hn
theorem zonesF_sorted {zs : List Zone} (h : zonesF zs = 0) : ∀ z ∈ zs, z.nodes.Pairwise ltS := by
  unfold zonesF at h
  split at h
  · exact absurd h (by decide)
  · exact chkZ_sorted _ _ _ h
theorem chkN_drop (seen : List ByteArray) (l : List ByteArray) (k : Nat) (hk : k < l.length) : chkN (seen ++ l.take k) (prevOf l k) (l.drop k) = if nodeE (seen ++ l.take k) (prevOf l k) l[k] = 0 then chkN (seen ++ l.take (k + 1)) (prevOf l (k + 1)) (l.drop (k + 1)) else nodeE (seen ++ l.take k) (prevOf l k) l[k] := by
  rw [List.drop_eq_getElem_cons hk]
  have e1 : prevOf l (k + 1) = some l[k] := prevOf_pos l (k + 1) (by omega) (by omega)
  rw [e1, List.take_succ_eq_append_getElem hk, ← List.append_assoc]
  rfl

/-- The nodes of the first k zones. -/
def seenZ (zs : List Zone) (k : Nat) : List ByteArray := (zs.take k).flatMap Zone.nodes
theorem seenZ_succ (zs : List Zone) (k : Nat) (hk : k < zs.length) : seenZ zs (k + 1) = seenZ zs k ++ zs[k].nodes := by
  unfold seenZ
  rw [List.take_succ_eq_append_getElem hk, List.flatMap_append]; simp
def prevZ (zs : List Zone) (k : Nat) : Option ByteArray := prevOf (zs.map Zone.key) k
theorem chkZ_drop (zs : List Zone) (k : Nat) (hk : k < zs.length) : chkZ (seenZ zs k) (prevZ zs k) (zs.drop k) = if zoneE (prevZ zs k) zs[k] = 0 then (if chkN (seenZ zs k) none zs[k].nodes = 0 then chkZ (seenZ zs (k + 1)) (prevZ zs (k + 1)) (zs.drop (k + 1)) else chkN (seenZ zs k) none zs[k].nodes) else zoneE (prevZ zs k) zs[k] := by
  rw [List.drop_eq_getElem_cons hk]
  have e1 : prevZ zs (k + 1) = some zs[k].key := by
    unfold prevZ
    rw [prevOf_pos _ (k + 1) (by omega) (by rw [List.length_map]; omega)]
    simp
  rw [e1, seenZ_succ zs k hk]
  rfl
theorem zoneO_drop (zs : List Zone) (s : ByteArray) (k : Nat) (hk : k < zs.length) : zoneO (zs.drop k) s = if memB zs[k].nodes s = true then zs[k].key else zoneO (zs.drop (k + 1)) s := by
  rw [List.drop_eq_getElem_cons hk]; rfl

/-- The zones of some nodes, those that have one. -/
def filtO (zs : List Zone) (l : List ByteArray) : List ByteArray := (l.map (zoneO zs)).filter (fun z => !decide (z = ByteArray.empty))
theorem filtO_take (zs : List Zone) (l : List ByteArray) (k : Nat) (hk : k < l.length) : filtO zs (l.take (k + 1)) = if zoneO zs l[k] = ByteArray.empty then filtO zs (l.take k) else filtO zs (l.take k) ++ [zoneO zs l[k]] := by
  unfold filtO
  rw [List.take_succ_eq_append_getElem hk, List.map_append, List.filter_append]
  by_cases h : zoneO zs l[k] = ByteArray.empty
  · rw [if_pos h]; simp [h]
  · rw [if_neg h]; simp [h]

section
variable {α β : Type} [Inhabited α] [DecidableEq α] [Inhabited β] [DecidableEq β]
theorem compact_snoc (zs : List α) (x : α) : Lib.compact (zs ++ [x]) = Lib.compact zs ++ (if zs ≠ [] ∧ zs.getLast? = some x then [] else [x]) := by
  unfold Lib.compact
  rw [show (zs ++ [x]).length = zs.length + 1 by simp, Lib.compactUpTo_succ]
  have e0 : ∀ j, j < zs.length → (zs ++ [x]).toArray[j]! = zs.toArray[j]! := fun j hj => by
    rw [getElem!_pos _ j (by simp; omega), getElem!_pos _ j (by simpa using hj)]
    simp [List.getElem_append_left hj]
  have e1 : Lib.compactUpTo (zs ++ [x]).toArray zs.length = Lib.compactUpTo zs.toArray zs.length := by
    unfold Lib.compactUpTo
    have e2 : (List.range zs.length).filter (Lib.keeps (zs ++ [x]).toArray) = (List.range zs.length).filter (Lib.keeps zs.toArray) := by
      apply List.filter_congr
      intro j hj
      rw [List.mem_range] at hj
      unfold Lib.keeps
      rw [e0 j hj, e0 (j - 1) (by omega)]
    rw [e2]
    apply List.map_congr_left
    intro j hj
    exact e0 j (List.mem_range.1 (List.mem_filter.1 hj).1)
  rw [e1]
  congr 1
  have e3 : (zs ++ [x]).toArray[zs.length]! = x := by
    rw [getElem!_pos _ _ (by simp)]; simp
  rw [e3]
  rcases List.eq_nil_or_concat zs with rfl | ⟨ys, y, rfl⟩
  · simp [Lib.keeps]
  · have e4 : (ys.concat y ++ [x]).toArray[(ys.concat y).length - 1]! = y := by
      rw [e0 _ (by simp), getElem!_pos _ _ (by simp)]; simp
    unfold Lib.keeps
    rw [e3, e4]
    by_cases h : x = y
    · subst h; simp
    · have : ¬ y = x := fun e => h e.symm
      simp [h, this]
theorem compact_last (zs : List α) : (Lib.compact zs).getLast? = zs.getLast? := by
  rcases List.eq_nil_or_concat zs with rfl | ⟨ys, y, rfl⟩
  · rfl
  · rw [List.concat_eq_append, compact_snoc]
    split
    · rename_i h
      rw [List.append_nil, compact_last ys, List.getLast?_append]; simp [h.2]
    · simp
termination_by zs.length
theorem compact_map (f : α → β) (hf : ∀ a b, f a = f b → a = b) (zs : List α) : Lib.compact (zs.map f) = (Lib.compact zs).map f := by
  rcases List.eq_nil_or_concat zs with rfl | ⟨ys, y, rfl⟩
  · rfl
  · rw [List.concat_eq_append, List.map_append, List.map_cons, List.map_nil, compact_snoc, compact_snoc, compact_map f hf ys, List.map_append]
    congr 1
    have e : (ys.map f ≠ [] ∧ (ys.map f).getLast? = some (f y)) ↔ (ys ≠ [] ∧ ys.getLast? = some y) := by
      rw [List.getLast?_map]
      constructor
      · rintro ⟨h1, h2⟩
        refine ⟨fun e => h1 (by rw [e]; rfl), ?_⟩
        cases hl : ys.getLast? with
        | none => rw [hl] at h2; cases h2
        | some z => rw [hl] at h2; simp at h2; rw [hf _ _ h2]
      · rintro ⟨h1, h2⟩
        exact ⟨fun e => h1 (by simpa using e), by rw [h2]; rfl⟩
    by_cases h : ys ≠ [] ∧ ys.getLast? = some y
    · rw [if_pos h, if_pos (e.2 h)]; rfl
    · rw [if_neg h, if_neg (fun hc => h (e.1 hc))]; rfl
termination_by zs.length
end
/-- The zones to which nodes come. -/
def crossO (zs : List Zone) (l : List ByteArray) : List ByteArray := Lib.compact (filtO zs l)
theorem crossO_take (zs : List Zone) (l : List ByteArray) (k : Nat) (hk : k < l.length) : crossO zs (l.take (k + 1)) = if zoneO zs l[k] = ByteArray.empty ∨ (crossO zs (l.take k) ≠ [] ∧ (crossO zs (l.take k)).getLast? = some (zoneO zs l[k])) then crossO zs (l.take k) else crossO zs (l.take k) ++ [zoneO zs l[k]] := by
  unfold crossO
  rw [filtO_take zs l k hk]
  by_cases h : zoneO zs l[k] = ByteArray.empty
  · rw [if_pos h, if_pos (.inl h)]
  · rw [if_neg h, compact_snoc, compact_last]
    have e : Lib.compact (filtO zs (l.take k)) = [] ↔ filtO zs (l.take k) = [] := by
      constructor
      · intro hc
        have := compact_last (filtO zs (l.take k))
        rw [hc] at this
        exact List.getLast?_eq_none_iff.1 this.symm
      · intro hc; rw [hc]; rfl
    by_cases h2 : filtO zs (l.take k) ≠ [] ∧ (filtO zs (l.take k)).getLast? = some (zoneO zs l[k])
    · rw [if_pos h2, if_pos (.inr ⟨fun hc => h2.1 (e.1 hc), h2.2⟩), List.append_nil]
    · rw [if_neg h2, if_neg (fun hc => by
        rcases hc with hc | hc
        · exact h hc
        · exact h2 ⟨fun hd => hc.1 (e.2 hd), hc.2⟩)]
end Go.Proofs.YtbjbeddjaajdaaaGreatDoor
/- Plain: arcs and bans checked. -/
namespace Go.Proofs.YtbjbeddjaajdaaaGreatDoor

structure Arc where
  key : ByteArray
  from_ : ByteArray
  to_ : ByteArray
  long : Int
  ka : Option Addr
  kc : Nat
  knots : List Knot
instance : Inhabited Arc := ⟨⟨default, default, default, 0, none, 0, []⟩⟩
def encArc (a : Arc) : List Value := [.string a.key, .string a.from_, .string a.to_, .int .i64 a.long, .slice a.ka a.knots.length a.kc]
theorem encArc_len (a : Arc) : (encArc a).length = 5 := rfl
theorem encArc_one (x : Arc) : ∀ v ∈ encArc x, v.oneCell' = true := by
  intro v hv; simp [encArc] at hv; rcases hv with rfl | rfl | rfl | rfl | rfl <;> rfl
structure Ban where
  from_ : ByteArray
  to_ : ByteArray
instance : Inhabited Ban := ⟨⟨default, default⟩⟩
def encBan (b : Ban) : List Value := [.string b.from_, .string b.to_]
theorem encBan_len (a : Ban) : (encBan a).length = 2 := rfl
theorem encBan_one (x : Ban) : ∀ v ∈ encBan x, v.oneCell' = true := by
  intro v hv; simp [encBan] at hv; rcases hv with rfl | rfl <;> rfl

section
variable {α : Type}
/-- The first place at which something is so. -/
def idxP (p : α → Bool) : List α → Nat → Int
  | [], _ => -1
  | n :: l, i => if p n then (i : Int) else idxP p l (i + 1)
def findI (p : α → Bool) (l : List α) : Int := idxP p l 0
theorem idxP_at [Inhabited α] (p : α → Bool) : ∀ (l : List α) (j k : Nat), k < l.length → p (l.getD k default) = true → (∀ i, i < k → p (l.getD i default) = false) → idxP p l j = ((j + k : Nat) : Int)
  | [], _, k, hk, _, _ => absurd hk (by simp)
  | n :: l, j, 0, _, h, _ => by
    have h' : p n = true := h
    simp [idxP, h']
  | n :: l, j, k + 1, hk, h, hlo => by
    have h0 : p n = false := hlo 0 (by omega)
    rw [idxP, h0, if_neg (by simp), idxP_at p l (j + 1) k (by simpa using hk) h (fun i hi => hlo (i + 1) (by omega))]
    omega
theorem idxP_no [Inhabited α] (p : α → Bool) : ∀ (l : List α) (j : Nat), (∀ k, k < l.length → p (l.getD k default) = false) → idxP p l j = -1
  | [], _, _ => rfl
  | n :: l, j, h => by
    have h0 : p n = false := h 0 (by simp)
    rw [idxP, h0, if_neg (by simp)]
    exact idxP_no p l (j + 1) (fun k hk => h (k + 1) (by simpa using hk))
theorem idxP_bd (p : α → Bool) : ∀ (l : List α) (j : Nat), idxP p l j = -1 ∨ ∃ k : Nat, k < l.length ∧ idxP p l j = ((j + k : Nat) : Int)
  | [], _ => .inl rfl
  | n :: l, j => by
    unfold idxP
    cases hp : p n with
    | true => exact .inr ⟨0, by simp, by simp⟩
    | false =>
      rw [if_neg (by simp)]
      rcases idxP_bd p l (j + 1) with h | ⟨k, hk, e⟩
      · exact .inl h
      · exact .inr ⟨k + 1, by simpa using hk, by rw [e]; omega⟩
theorem findI_bd (p : α → Bool) (l : List α) : findI p l = -1 ∨ ∃ k : Nat, k < l.length ∧ findI p l = (k : Int) := by
  rcases idxP_bd p l 0 with h | ⟨k, hk, e⟩
  · exact .inl h
  · exact .inr ⟨k, hk, by unfold findI; rw [e, Nat.zero_add]⟩
theorem idxP_drop (p : α → Bool) (l : List α) (k : Nat) (hk : k < l.length) : idxP p (l.drop k) k = if p l[k] then (k : Int) else idxP p (l.drop (k + 1)) (k + 1) := by
  rw [List.drop_eq_getElem_cons hk, idxP]
end

def nodeI (l : List Node) (s : ByteArray) : Int := findI (fun n => decide (n.key = s)) l
def arcI (l : List Arc) (s : ByteArray) : Int := findI (fun n => decide (n.key = s)) l
def arcAt (l : List Arc) (s : ByteArray) : Arc := l.getD (arcI l s).toNat default
def arcG (ns : List Node) (a : Arc) : Int :=
  if nodeI ns a.from_ < 0 ∨ nodeI ns a.to_ < 0 then 8 else if a.from_ = a.to_ then 6 else if outB a.long 1 1000000 then 1 else knotsF a.knots
def arcF (ns : List Node) (p : Option Arc) (a : Arc) : Int :=
  if keyB a.key then (match p with | some q => if strLe a.key q.key then 7 else arcG ns a | none => arcG ns a) else 5
def banG (rs : List Arc) (b : Ban) : Int :=
  if arcI rs b.from_ < 0 ∨ arcI rs b.to_ < 0 then 8 else if (arcAt rs b.from_).to_ = (arcAt rs b.to_).from_ then 0 else 3
def banC (b q : Ban) : Int := if cmpS b.from_ q.from_ = 0 then cmpS b.to_ q.to_ else cmpS b.from_ q.from_
def banF (rs : List Arc) (p : Option Ban) (b : Ban) : Int :=
  if banG rs b = 0 then (match p with | some q => if banC b q ≤ 0 then 7 else 0 | none => 0) else banG rs b
/-- What is wrong with roads (whose lists are not too long). -/
def roadsF (ns : List Node) (rs : List Arc) (bs : List Ban) : Int :=
  if nodesF ns = 0 then (if chk (arcF ns) none rs = 0 then chk (banF rs) none bs else chk (arcF ns) none rs) else nodesF ns

theorem cmpS_pos {a b : ByteArray} : 0 < cmpS a b ↔ ltS b a := by
  constructor
  · intro h
    refine Classical.byContradiction fun hc => ?_
    have h1 : ¬ ltS a b := fun e => by have := cmpS_neg.2 e; omega
    have := ltS_tri a b h1 hc
    have := cmpS_zero.2 this
    omega
  · intro h
    have h1 : ¬ ltS a b := fun e => ltS_irrefl a (ltS_trans e h)
    have h2 : a ≠ b := fun e => by subst e; exact ltS_irrefl a h
    have h3 : ¬ cmpS a b < 0 := fun e => h1 (cmpS_neg.1 e)
    have h4 : cmpS a b ≠ 0 := fun e => h2 (cmpS_zero.1 e)
    omega
theorem banC_anti (b q : Ban) : banC b q ≤ 0 ↔ 0 ≤ banC q b := by
  unfold banC
  by_cases h : cmpS b.from_ q.from_ = 0
  · have h2 : cmpS q.from_ b.from_ = 0 := cmpS_zero.2 (cmpS_zero.1 h).symm
    rw [if_pos h, if_pos h2]
    have h3 : 0 < cmpS b.to_ q.to_ ↔ cmpS q.to_ b.to_ < 0 := cmpS_pos.trans cmpS_neg.symm
    omega
  · have h2 : cmpS q.from_ b.from_ ≠ 0 := fun e => h (cmpS_zero.2 (cmpS_zero.1 e).symm)
    rw [if_neg h, if_neg h2]
    have h3 : 0 < cmpS b.from_ q.from_ ↔ cmpS q.from_ b.from_ < 0 := cmpS_pos.trans cmpS_neg.symm
    omega
theorem chk_sorted {α : Type} {F : Option α → α → Int} (key : α → ByteArray) (hF : ∀ q x, F (some q) x = 0 → strLe (key x) (key q) = false) : ∀ (l : List α) (p : Option α), chk F p l = 0 → (l.Pairwise fun a b => ltS (key a) (key b)) ∧ ∀ q, p = some q → ∀ x ∈ l, ltS (key q) (key x)
  | [], _, _ => ⟨List.Pairwise.nil, fun _ _ _ h => absurd h (by simp)⟩
  | s :: l, p, h => by
    unfold chk at h
    by_cases h0 : F p s = 0
    · rw [if_pos h0] at h
      obtain ⟨h1, h2⟩ := chk_sorted key hF l _ h
      have h3 : ∀ q, p = some q → ltS (key q) (key s) := fun q e => by subst e; exact strLe_lt (hF q s h0)
      refine ⟨List.pairwise_cons.2 ⟨fun y hy => h2 s rfl y hy, h1⟩, fun q e y hy => ?_⟩
      rcases List.mem_cons.1 hy with rfl | hy
      · exact h3 q e
      · exact ltS_trans (h3 q e) (h2 s rfl y hy)
    · rw [if_neg h0] at h; exact absurd h h0
/-- Sorted by key. -/
def SortN (l : List Node) : Prop := l.Pairwise fun a b => ltS a.key b.key
def SortA (l : List Arc) : Prop := l.Pairwise fun a b => ltS a.key b.key
theorem sortN_of {l : List Node} (h : nodesF l = 0) : SortN l := by
  unfold nodesF at h
  by_cases h0 : 500 < l.length
  · rw [if_pos h0] at h; exact absurd h (by decide)
  · rw [if_neg h0] at h
    refine (chk_sorted (F := nodeF) (·.key) (fun q x hq => ?_) l none h).1
    unfold nodeF at hq
    cases hk : keyB x.key with
    | false => simp [hk] at hq
    | true =>
      rw [hk, if_pos rfl] at hq
      cases hl : strLe x.key q.key with
      | false => rfl
      | true => simp [hl] at hq
theorem sortA_of {ns : List Node} {l : List Arc} (h : chk (arcF ns) none l = 0) : SortA l := by
  refine (chk_sorted (F := arcF ns) (·.key) (fun q x hq => ?_) l none h).1
  unfold arcF at hq
  cases hk : keyB x.key with
  | false => simp [hk] at hq
  | true =>
    rw [hk, if_pos rfl] at hq
    cases hl : strLe x.key q.key with
    | false => rfl
    | true => simp [hl] at hq
theorem chk_all {α : Type} {F : Option α → α → Int} {Q : α → Prop} (hF : ∀ p x, F p x = 0 → Q x) : ∀ (l : List α) (p : Option α), chk F p l = 0 → ∀ x ∈ l, Q x
  | [], _, _ => fun _ h => absurd h (by simp)
  | s :: l, p, h => by
    unfold chk at h
    by_cases h0 : F p s = 0
    · rw [if_pos h0] at h
      intro x hx
      rcases List.mem_cons.1 hx with rfl | hx
      · exact hF p _ h0
      · exact chk_all hF l _ h x hx
    · rw [if_neg h0] at h; exact absurd h h0
theorem arcF_ok {ns : List Node} {p : Option Arc} {a : Arc} (h : arcF ns p a = 0) : keyB a.key = true ∧ arcG ns a = 0 := by
  unfold arcF at h
  cases hk : keyB a.key with
  | false => simp [hk] at h
  | true =>
    rw [hk, if_pos rfl] at h
    refine ⟨rfl, ?_⟩
    cases p with
    | none => exact h
    | some q =>
      cases hl : strLe a.key q.key with
      | true => simp [hl] at h
      | false => simpa [hl] using h
theorem arcG_ok {ns : List Node} {a : Arc} (h : arcG ns a = 0) : 0 ≤ nodeI ns a.from_ ∧ 0 ≤ nodeI ns a.to_ ∧ a.from_ ≠ a.to_ ∧ outB a.long 1 1000000 = false ∧ knotsF a.knots = 0 := by
  unfold arcG at h
  split at h
  · exact absurd h (by decide)
  rename_i h1
  split at h
  · exact absurd h (by decide)
  rename_i h2
  split at h
  · exact absurd h (by decide)
  rename_i h3
  exact ⟨by omega, by omega, h2, by simpa using h3, h⟩
end Go.Proofs.YtbjbeddjaajdaaaGreatDoor
/- The number of a node. -/
namespace Go.Proofs.YtbjbeddjaajdaaaGreatDoor
open Go.RowKit

theorem SortN.at {l : List Node} (h : SortN l) {i j : Nat} (hij : i < j) (hj : j < l.length) : ltS (l.getD i default).key (l.getD j default).key := by
  unfold SortN at h
  rw [List.pairwise_iff_getElem] at h
  have := h i j (by omega) hj hij
  rw [List.getD_eq_getElem?_getD, List.getD_eq_getElem?_getD, List.getElem?_eq_getElem (by omega), List.getElem?_eq_getElem hj]
  exact this
theorem SortN.mono {l : List Node} (h : SortN l) (s : ByteArray) (i j : Nat) (hij : i ≤ j) (hj : j < l.length) (hn : cmpS (l.getD j default).key s < 0) : cmpS (l.getD i default).key s < 0 := by
  rcases Nat.lt_or_ge i j with h1 | h1
  · exact cmpS_neg.2 (ltS_trans (h.at h1 hj) (cmpS_neg.1 hn))
  · have : i = j := by omega
    subst this; exact hn
set_option maxRecDepth 100000 in
set_option maxHeartbeats 1000000 in
theorem w_nodeR (g lo : Nat) (A : Option Addr) (c : Nat) (l : List Node) (s : ByteArray) (w : World) (hg : w.cell? ⟨g, 0, none⟩ = some (.slice A l.length c)) (hR : Rd w lo A 3 encNode l) (hl : l.length ≤ 65536) (hs : SortN l) :
    Calls Tryz.prog 44 #[.pointer (some ⟨g, 0, none⟩), .string s] w fun e w' => e = .returned (.int .i64 (nodeI l s)) ∧ Nx w w' := by
  have hB := w_BsfNode 100 (fun n => cmpS n.key s) s (enters_of Tryz.func100 (by kernel_rfl) rfl) (fun y W => w_node1 y s W) lo A c l w hR hl (fun i j => hs.mono s i j)
  by_cases hex : ∃ k, k < l.length ∧ (l.getD k default).key = s
  · obtain ⟨k, hk, hks⟩ := hex
    have hlo : ∀ i, i < k → cmpS (l.getD i default).key s < 0 := fun i hi => cmpS_neg.2 (by rw [← hks]; exact hs.at hi hk)
    have HI := hide (show nodeI l s = (k : Int) by
      have := idxP_at (fun n : Node => decide (n.key = s)) l 0 k hk (decide_eq_true hks) (fun i hi => decide_eq_false (fun e => by have := hlo i hi; rw [cmpS_zero.2 e] at this; omega))
      rw [Nat.zero_add] at this; exact this)
    have hB2 : Calls Tryz.prog 99 #[.slice A l.length c, .string s, .func (.func 100) #[] #[]] w fun e w' => e = .returned (.tuple #[.int .i64 (k : Int), .bool true]) ∧ Nx w w' := by
      refine hB.mono ?_
      rintro e w' ⟨r, is, rfl, hF, hn⟩
      obtain ⟨rfl, rfl⟩ := found_at hF k hk (cmpS_zero.2 hks) hlo
      exact ⟨rfl, hn⟩
    have HB := hide hB2
    clear hB hB2 hR hs hlo hks hk
    generalize l.length = n at *
    generalize nodeI l s = z at *
    go_enter Tryz.func44, Tryz.ntmps44
    go_wp2_with (go_at_call 99; refine HB.out.mono ?_; rintro e w2 ⟨rfl, hn2⟩)
    go_ret
    exact ⟨ret_int HI.out.symm, hn2⟩
  · have hno : ∀ k, k < l.length → (l.getD k default).key ≠ s := fun k hk e => hex ⟨k, hk, e⟩
    have HI := hide (show nodeI l s = -1 from idxP_no _ l 0 (fun k hk => decide_eq_false (hno k hk)))
    have hB2 : Calls Tryz.prog 99 #[.slice A l.length c, .string s, .func (.func 100) #[] #[]] w fun e w' => ∃ r : Nat, e = .returned (.tuple #[.int .i64 (r : Int), .bool false]) ∧ Nx w w' := by
      refine hB.mono ?_
      rintro e w' ⟨r, is, rfl, hF, hn⟩
      obtain rfl := found_no hF (fun k hk e => hno k hk (cmpS_zero.1 e))
      exact ⟨r, rfl, hn⟩
    have HB := hide hB2
    clear hB hB2 hR hs hno hex
    generalize l.length = n at *
    generalize nodeI l s = z at *
    go_enter Tryz.func44, Tryz.ntmps44
    go_wp2_with (go_at_call 99; refine HB.out.mono ?_; rintro e w2 ⟨r, rfl, hn2⟩)
    go_ret
    exact ⟨ret_int HI.out.symm, hn2⟩
end Go.Proofs.YtbjbeddjaajdaaaGreatDoor
/- An arc's number: the program's search. -/
namespace Go.Proofs.YtbjbeddjaajdaaaGreatDoor
open Go.RowKit

theorem w_arc1 (x : Arc) (s : ByteArray) (w : World) : Calls Tryz.prog 112 #[.agg #[.string x.key, .string x.from_, .string x.to_, .int .i64 x.long, .slice x.ka x.knots.length x.kc], .string s] w fun e w' => e = .returned (.int .i64 (cmpS x.key s)) ∧ Nx w w' := by
  go_enter Tryz.func112, Tryz.ntmps112
  go_wp2_with (go_at_call 101; refine (w_CompareS _ _ _).mono ?_; rintro e w' ⟨rfl, rfl⟩)
  go_ret
  exact ⟨rfl, (Nx.refl _).alloc _⟩

set_option maxRecDepth 100000 in
set_option maxHeartbeats 2000000 in
theorem w_BsfArc (g : Nat) (f : Arc → Int) (x : ByteArray) (eg : Enters g) (hcl : ∀ (y : Arc) W, Calls Tryz.prog g #[.agg #[.string y.key, .string y.from_, .string y.to_, .int .i64 y.long, .slice y.ka y.knots.length y.kc], .string x] W fun e w' => e = .returned (.int .i64 (f y)) ∧ Nx W w')
    (lo : Nat) (A : Option Addr) (c : Nat) (l : List Arc) (w : World) (hR : Rd w lo A 5 encArc l) (hl : l.length ≤ 65536)
    (hm : ∀ i j, i ≤ j → j < l.length → f (l.getD j default) < 0 → f (l.getD i default) < 0) :
    Calls Tryz.prog 111 #[.slice A l.length c, .string x, .func (.func g) #[] #[]] w fun e w' => ∃ (r : Nat) (is : Bool), e = .returned (.tuple #[.int .i64 (r : Int), .bool is]) ∧ Found (fun i => f (l.getD i default)) l.length r is ∧ Nx w w' := by
  generalize hn : l.length = n at *
  have HR := hide hR
  have HN := hide hn
  have HC0 := hide hcl
  have HM := hide hm
  clear hR hn hcl hm
  unfold Enters at eg
  have HG := hide (fun i (hi : i < l.length) => (show l.getD i default = l[i] by rw [List.getD_eq_getElem?_getD, List.getElem?_eq_getElem hi]; rfl))
  go_enter Tryz.func111, Tryz.ntmps111
  go_wp2
  go_loopw [9, 10, 11] (fun vi vj _ wr => ∃ i j : Nat, i ≤ j ∧ j ≤ n ∧ vi = .int .i64 i ∧ vj = .int .i64 j ∧ Nx w wr ∧ (∀ m, m < i → f (l.getD m default) < 0) ∧ (∀ m, j ≤ m → m < n → 0 ≤ f (l.getD m default))) (fun vi vj _ _ => (intOf vj).toNat - (intOf vi).toNat)
  case atStart => exact ⟨0, n, Nat.zero_le _, Nat.le_refl _, rfl, rfl, Nx.refl _, fun m hm => by omega, fun m h1 h2 => by omega⟩
  case round =>
    obtain ⟨i, j, hij, hj, rfl, rfl, hbw, hlo, hhi⟩ := hrel
    have HLO := hide hlo
    have HHI := hide hhi
    clear hlo hhi
    by_cases hlt : i < j
    · obtain ⟨h, hh⟩ : ∃ h, h = (i + j) / 2 := ⟨_, rfl⟩
      have qh : ((i : Int) + (j : Int)) / 2 = (h : Int) := by omega
      have hih : i ≤ h := by omega
      have hhj : h < j := by omega
      have hh' : h < l.length := by have := HN.out; omega
      clear hh
      obtain ⟨b, off, rfl, _, hb, hbr, hc⟩ := HR.out.open_ hbw (by omega)
      have c0 : wr.cell? ⟨b, off + h * 5, none⟩ = some (.string l[h].key) := hc h hh' 0 _ rfl
      have c1 : wr.cell? ⟨b, off + h * 5 + 1, none⟩ = some (.string l[h].from_) := hc h hh' 1 _ rfl
      have c2 : wr.cell? ⟨b, off + h * 5 + 2, none⟩ = some (.string l[h].to_) := hc h hh' 2 _ rfl
      have c3 : wr.cell? ⟨b, off + h * 5 + 3, none⟩ = some (.int .i64 l[h].long) := hc h hh' 3 _ rfl
      have c4 : wr.cell? ⟨b, off + h * 5 + 4, none⟩ = some (.slice l[h].ka l[h].knots.length l[h].kc) := hc h hh' 4 _ rfl
      clear hc
      have HE := hide (HG.out h hh')
      have HCY := hide (HC0.out l[h])
      by_cases hneg : f l[h] < 0
      · have t1 : decide (f l[h] < 0) = true := by simpa using hneg
        have HNG := hide hneg
        clear hneg
        generalize l[h] = y at *
        go_wp2_with (go_at_fn g; refine (HCY.out _).mono ?_; rintro e w2 ⟨rfl, hn2⟩)
        go_roundw
        case rel => exact ⟨h + 1, j, by omega, by omega, by go_num, rfl, hbw.trans hn2, fun m hm => HM.out m h (by omega) (by omega) (by rw [HE.out]; exact HNG.out), HHI.out⟩
        case measure => simp [intOf]; omega
      · have t1 : decide (f l[h] < 0) = false := by simpa using hneg
        have HNG := hide hneg
        clear hneg
        generalize l[h] = y at *
        go_wp2_with (go_at_fn g; refine (HCY.out _).mono ?_; rintro e w2 ⟨rfl, hn2⟩)
        go_roundw
        case rel => exact ⟨i, h, by omega, by omega, rfl, rfl, hbw.trans hn2, HLO.out, fun m h1 h2 => by
          refine Int.not_lt.1 fun hc => ?_
          have h3 := HM.out h m h1 h2 hc
          rw [HE.out] at h3
          have := HNG.out
          omega⟩
        case measure => simp [intOf]; omega
    · have hij' : i = j := by omega
      subst hij'
      clear hlt hij
      by_cases hin : i < n
      · have hi' : i < l.length := by have := HN.out; omega
        obtain ⟨b, off, rfl, _, hb, hbr, hc⟩ := HR.out.open_ hbw (by omega)
        have c0 : wr.cell? ⟨b, off + i * 5, none⟩ = some (.string l[i].key) := hc i hi' 0 _ rfl
        have c1 : wr.cell? ⟨b, off + i * 5 + 1, none⟩ = some (.string l[i].from_) := hc i hi' 1 _ rfl
        have c2 : wr.cell? ⟨b, off + i * 5 + 2, none⟩ = some (.string l[i].to_) := hc i hi' 2 _ rfl
        have c3 : wr.cell? ⟨b, off + i * 5 + 3, none⟩ = some (.int .i64 l[i].long) := hc i hi' 3 _ rfl
        have c4 : wr.cell? ⟨b, off + i * 5 + 4, none⟩ = some (.slice l[i].ka l[i].knots.length l[i].kc) := hc i hi' 4 _ rfl
        clear hc
        have HE := hide (HG.out i hi')
        have HCY := hide (HC0.out l[i])
        generalize l[i] = y at *
        go_wp2_with (go_at_fn g; refine (HCY.out _).mono ?_; rintro e w2 ⟨rfl, hn2⟩)
        go_ret2
        exact ⟨i, _, rfl, ⟨hj, HLO.out, HHI.out, by show _ = (decide (i < n) && decide (f (l.getD i default) = 0)); rw [HE.out, decide_eq_true hin]; rfl⟩, hbw.trans hn2⟩
      · go_wp2
        go_ret2
        exact ⟨i, _, rfl, ⟨hj, HLO.out, HHI.out, by rw [decide_eq_false hin]; rfl⟩, hbw⟩

theorem SortA.at {l : List Arc} (h : SortA l) {i j : Nat} (hij : i < j) (hj : j < l.length) : ltS (l.getD i default).key (l.getD j default).key := by
  unfold SortA at h
  rw [List.pairwise_iff_getElem] at h
  have := h i j (by omega) hj hij
  rw [List.getD_eq_getElem?_getD, List.getD_eq_getElem?_getD, List.getElem?_eq_getElem (by omega), List.getElem?_eq_getElem hj]
  exact this
theorem SortA.mono {l : List Arc} (h : SortA l) (s : ByteArray) (i j : Nat) (hij : i ≤ j) (hj : j < l.length) (hn : cmpS (l.getD j default).key s < 0) : cmpS (l.getD i default).key s < 0 := by
  rcases Nat.lt_or_ge i j with h1 | h1
  · exact cmpS_neg.2 (ltS_trans (h.at h1 hj) (cmpS_neg.1 hn))
  · have : i = j := by omega
    subst this; exact hn
set_option maxRecDepth 100000 in
set_option maxHeartbeats 1000000 in
theorem w_arcR (g lo : Nat) (A : Option Addr) (c : Nat) (l : List Arc) (s : ByteArray) (w : World) (hg : w.cell? ⟨g, 1, none⟩ = some (.slice A l.length c)) (hR : Rd w lo A 5 encArc l) (hl : l.length ≤ 65536) (hs : SortA l) :
    Calls Tryz.prog 52 #[.pointer (some ⟨g, 0, none⟩), .string s] w fun e w' => e = .returned (.int .i64 (arcI l s)) ∧ Nx w w' := by
  have hB := w_BsfArc 112 (fun n => cmpS n.key s) s (enters_of Tryz.func112 (by kernel_rfl) rfl) (fun y W => w_arc1 y s W) lo A c l w hR hl (fun i j => hs.mono s i j)
  by_cases hex : ∃ k, k < l.length ∧ (l.getD k default).key = s
  · obtain ⟨k, hk, hks⟩ := hex
    have hlo : ∀ i, i < k → cmpS (l.getD i default).key s < 0 := fun i hi => cmpS_neg.2 (by rw [← hks]; exact hs.at hi hk)
    have HI := hide (show arcI l s = (k : Int) by
      have := idxP_at (fun n : Arc => decide (n.key = s)) l 0 k hk (decide_eq_true hks) (fun i hi => decide_eq_false (fun e => by have := hlo i hi; rw [cmpS_zero.2 e] at this; omega))
      rw [Nat.zero_add] at this; exact this)
    have hB2 : Calls Tryz.prog 111 #[.slice A l.length c, .string s, .func (.func 112) #[] #[]] w fun e w' => e = .returned (.tuple #[.int .i64 (k : Int), .bool true]) ∧ Nx w w' := by
      refine hB.mono ?_
      rintro e w' ⟨r, is, rfl, hF, hn⟩
      obtain ⟨rfl, rfl⟩ := found_at hF k hk (cmpS_zero.2 hks) hlo
      exact ⟨rfl, hn⟩
    have HB := hide hB2
    clear hB hB2 hR hs hlo hks hk
    generalize l.length = n at *
    generalize arcI l s = z at *
    go_enter Tryz.func52, Tryz.ntmps52
    go_wp2_with (go_at_call 111; refine HB.out.mono ?_; rintro e w2 ⟨rfl, hn2⟩)
    go_ret
    exact ⟨ret_int HI.out.symm, hn2⟩
  · have hno : ∀ k, k < l.length → (l.getD k default).key ≠ s := fun k hk e => hex ⟨k, hk, e⟩
    have HI := hide (show arcI l s = -1 from idxP_no _ l 0 (fun k hk => decide_eq_false (hno k hk)))
    have hB2 : Calls Tryz.prog 111 #[.slice A l.length c, .string s, .func (.func 112) #[] #[]] w fun e w' => ∃ r : Nat, e = .returned (.tuple #[.int .i64 (r : Int), .bool false]) ∧ Nx w w' := by
      refine hB.mono ?_
      rintro e w' ⟨r, is, rfl, hF, hn⟩
      obtain rfl := found_no hF (fun k hk e => hno k hk (cmpS_zero.1 e))
      exact ⟨r, rfl, hn⟩
    have HB := hide hB2
    clear hB hB2 hR hs hno hex
    generalize l.length = n at *
    generalize arcI l s = z at *
    go_enter Tryz.func52, Tryz.ntmps52
    go_wp2_with (go_at_call 111; refine HB.out.mono ?_; rintro e w2 ⟨r, rfl, hn2⟩)
    go_ret
    exact ⟨ret_int HI.out.symm, hn2⟩
end Go.Proofs.YtbjbeddjaajdaaaGreatDoor
/- Cells behind calls that make memory alone. Of no program. -/
namespace Go.Proofs.YtbjbeddjaajdaaaGreatDoor
open Go.RowKit

theorem nx_cell {w w' : World} {b o : Nat} {v : Value} (hn : Nx w w') (hb : b < w.heap.size) (h : w.cell? ⟨b, o, none⟩ = some v) : w'.cell? ⟨b, o, none⟩ = some v := (Below.cell hn (p := ⟨b, _, none⟩) hb).trans h
theorem nx_rules {W w1 : World} (hb : Nx W w1) : (∀ b o, b < W.heap.size → w1.cell? ⟨b, o, none⟩ = W.cell? ⟨b, o, none⟩) ∧ (∀ b o, b < W.heap.size → w1.frozen? ⟨b, o, none⟩ = W.frozen? ⟨b, o, none⟩) :=
  ⟨fun b o h => Below.cell hb (p := ⟨b, o, none⟩) h, fun b o h => Below.frozen hb (p := ⟨b, o, none⟩) h⟩
end Go.Proofs.YtbjbeddjaajdaaaGreatDoor
/- Bans in their order. -/
namespace Go.Proofs.YtbjbeddjaajdaaaGreatDoor
open Go.RowKit

set_option maxHeartbeats 400000 in
theorem w_OrI (lo : Nat) (A : Option Addr) (c : Nat) (zs : List Int) (w : World) (hR : Rd w lo A 1 encI zs) (hl : zs.length ≤ 65536) :
    Calls Tryz.prog 119 #[.slice A zs.length c] w fun e w' => e = .returned (.int .i64 (orI zs)) ∧ w = w' := by
  generalize hn : zs.length = n at *
  have HR := hide hR
  have HN := hide hn
  clear hR hn
  go_enter Tryz.func119, Tryz.ntmps119
  go_wp2
  go_loop [2, 5, 8] (fun _ _ i => ∃ k : Nat, k ≤ n ∧ i = .int .i64 k ∧ orI zs = orI (zs.drop k)) (fun _ _ i => n - (intOf i).toNat)
  case atStart => exact ⟨0, Nat.zero_le _, rfl, rfl⟩
  case round =>
    obtain ⟨k, hk, rfl, hq⟩ := hrel
    have HQ := hide hq
    clear hq
    by_cases hlt : k < n
    · have hlt' : k < zs.length := by have := HN.out; omega
      obtain ⟨b, off, rfl, _, hb, _, hc⟩ := HR.out.open_ (Nx.refl w) (by omega)
      have c0 : w.cell? ⟨b, off + k, none⟩ = some (.int .i64 zs[k]) := by have := hc k hlt' 0 _ rfl; simpa using this
      clear hc
      have HD := hide (orI_drop zs k hlt')
      by_cases hz : zs[k] = 0
      · have hz' : (zs[k] != 0) = false := by simpa using hz
        have HZ := hide hz
        clear hz
        generalize zs[k] = z at *
        go_wp2
        go_round
        case rel => exact ⟨k + 1, by omega, by go_num, by rw [HQ.out, HD.out, if_pos HZ.out]⟩
        case measure => simp [intOf]; omega
      · have hz' : (zs[k] != 0) = true := by simpa using hz
        have HZ := hide hz
        clear hz
        generalize zs[k] = z at *
        go_wp2
        go_ret
        exact ⟨ret_int (by rw [HQ.out, HD.out, if_neg HZ.out]), rfl⟩
    · have ek : k = n := by omega
      subst ek
      clear hlt
      go_wp2
      go_ret
      exact ⟨ret_int (by rw [HQ.out, List.drop_of_length_le (by have := HN.out; omega)]; rfl), rfl⟩

theorem w_OrI2 (a b : Int) (g c : Nat) (w : World) (hg : w.heap[g]? = some (.cells #[.int .i64 a, .int .i64 b] 3 (0, 0))) :
    Calls Tryz.prog 119 #[.slice (some ⟨g, 0, none⟩) 2 c] w fun e w' => e = .returned (.int .i64 (if a = 0 then b else a)) ∧ w = w' := by
  have h := w_OrI 0 _ c [a, b] w (Rd.lit hg (Nat.zero_le _) (fun _ => rfl) rfl) (by simp)
  rw [orI_two] at h
  exact h
set_option maxRecDepth 100000 in
set_option maxHeartbeats 1000000 in
theorem w_byBan (x y : Ban) (w : World) : Calls Tryz.prog 98 #[.agg #[.string x.from_, .string x.to_], .agg #[.string y.from_, .string y.to_]] w fun e w' => e = .returned (.int .i64 (banC x y)) ∧ Nx w w' := by
  have HOR := hide (fun g c W (hg : W.heap[g]? = some (.cells #[.int .i64 (cmpS x.from_ y.from_), .int .i64 (cmpS x.to_ y.to_)] 3 (0, 0))) => w_OrI2 _ _ g c W hg)
  rw [show (if cmpS x.from_ y.from_ = 0 then cmpS x.to_ y.to_ else cmpS x.from_ y.from_) = banC x y from rfl] at HOR
  obtain ⟨x1, x2⟩ := x
  obtain ⟨y1, y2⟩ := y
  generalize banC _ _ = z at *
  obtain ⟨wa, hwa⟩ : ∃ wa, wa = (w.alloc (.cells #[.string x1, .string x2] 98)).alloc (.cells #[.string y1, .string y2] 98) := ⟨_, rfl⟩
  have hna : Nx w wa := hwa ▸ ((Nx.refl w).alloc _).alloc _
  have hsz : wa.heap.size = w.heap.size + 1 + 1 := by rw [hwa]; simp
  have c0 : wa.cell? ⟨w.heap.size, 0, none⟩ = some (.string x1) := by rw [hwa]; go_simp
  have c1 : wa.cell? ⟨w.heap.size, 1, none⟩ = some (.string x2) := by rw [hwa]; go_simp
  have c2 : wa.cell? ⟨w.heap.size + 1, 0, none⟩ = some (.string y1) := by rw [hwa]; go_simp
  have c3 : wa.cell? ⟨w.heap.size + 1, 1, none⟩ = some (.string y2) := by rw [hwa]; go_simp
  go_enter Tryz.func98, Tryz.ntmps98
  go_wp2_with fail
  rw [← hwa]
  have HWA := hide hwa
  clear hwa
  go_region_held3 (fun w' => w'.cell? ⟨w.heap.size, 0, none⟩ = some (.string x1) ∧ w'.cell? ⟨w.heap.size, 1, none⟩ = some (.string x2) ∧ w'.cell? ⟨w.heap.size + 1, 0, none⟩ = some (.string y1) ∧ w'.cell? ⟨w.heap.size + 1, 1, none⟩ = some (.string y2))
    (go_keep)
    (first
      | (go_at_call 101; refine (w_CompareS _ _ _).mono ?_; rintro e w' ⟨rfl, rfl⟩)
      | (go_at_call 119; refine (HOR.out _ _ _ (hnew_drew hsz.symm)).mono ?_; rintro e w' ⟨rfl, rfl⟩))
  go_wp2_with fail
  go_ret
  exact ⟨rfl, by repeat (first | exact hna | refine Nx.drew ?_ | refine Nx.alloc ?_ _)⟩
end Go.Proofs.YtbjbeddjaajdaaaGreatDoor
/- Knots: what comes behind one; the program's check. -/
namespace Go.Proofs.YtbjbeddjaajdaaaGreatDoor
open Go.RowKit

theorem knot_at {l : List Knot} {k : Nat} (hk : k < l.length) : l.getD k default = l[k] := by rw [List.getD_eq_getElem?_getD, List.getElem?_eq_getElem hk]; rfl
set_option maxRecDepth 100000 in
set_option maxHeartbeats 1000000 in
theorem w_After (lo : Nat) (A : Option Addr) (c : Nat) (l : List Knot) (i : Nat) (w : World) (hR : Rd w lo A 2 encKnot l) (hl : l.length ≤ 65536) (hi : i < l.length) :
    Calls Tryz.prog 147 #[.slice A l.length c, .int .i64 (i : Int)] w fun e w' => e = .returned (.agg #[.int .i64 (afterK l i).at_, .int .i64 (afterK l i).time]) ∧ Nx w w' := by
  obtain ⟨b, off, rfl, _, hb, _, hc⟩ := hR.open_ (Nx.refl w) (by omega)
  by_cases hlt : i + 1 < l.length
  · have c0 : w.cell? ⟨b, off + (i + 1) * 2, none⟩ = some (.int .i64 l[i + 1].at_) := hc (i + 1) hlt 0 _ rfl
    have c1 : w.cell? ⟨b, off + (i + 1) * 2 + 1, none⟩ = some (.int .i64 l[i + 1].time) := hc (i + 1) hlt 1 _ rfl
    have HA := hide (show afterK l i = l[i + 1] by unfold afterK; rw [if_pos hlt, knot_at hlt])
    rw [HA.out]
    clear hc hR
    generalize l[i + 1] = y at *
    generalize l.length = n at *
    clear HA
    have q1 : IntKind.i64.wrap ((i : Int) + 1) = ((i + 1 : Nat) : Int) := by rw [IntWalk.i64_in _ (by omega)]; rfl
    have q2 : decide (((i + 1 : Nat) : Int) < (n : Int)) = true := by simp; omega
    have q3 : ((i + 1 : Nat) : Int).toNat = i + 1 := by omega
    go_enter Tryz.func147, Tryz.ntmps147
    go_wp2
    exact bodyPost_ret (v := .agg #[.int .i64 y.at_, .int .i64 y.time]) (by simp [results, Tryz.results147, go_sem]) rfl ⟨rfl, ((Nx.refl _).alloc _)⟩
  · have c1 : w.cell? ⟨b, off + 1, none⟩ = some (.int .i64 (l[0]'(by omega)).time) := by have := hc 0 (by omega) 1 _ rfl; simpa using this
    have HA := hide (show afterK l i = ⟨dayMs, (l[0]'(by omega)).time⟩ by unfold afterK; rw [if_neg hlt, knot_at (by omega)])
    rw [HA.out]
    clear hc hR
    generalize (l[0]'(by omega)).time = y at *
    generalize l.length = n at *
    clear HA
    go_enter Tryz.func147, Tryz.ntmps147
    go_wp2
    exact bodyPost_ret (v := .agg #[.int .i64 dayMs, .int .i64 y]) (by simp [results, Tryz.results147, go_sem, dayMs]) rfl ⟨rfl, ((Nx.refl _).alloc _)⟩
end Go.Proofs.YtbjbeddjaajdaaaGreatDoor
