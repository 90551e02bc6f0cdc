/- Plain: sums by key; the list of them that is sorted by key; legs split by keys. -/
import Derived.Test.YtmpnilliichpfaaGreatDoorQG1
import Derived.Lib.Bytealg
import Derived.Sort.LotA
import Derived.Shelf.SlSortCmp.Insertion
import Derived.Test.YtmpnilliichpfaaGreatDoorQShelfC
import Derived.Shelf.Small.Strs
import Derived.Sort.WalkA
import Derived.Maps.Own
import Derived.Maps.OwnOps
import Derived.Maps.Views
import Derived.Maps.RangeWalk
namespace Go.Proofs.YtmpnilliichpfaaGreatDoor
open Go.Sort Go.Proofs Go.Shelf

theorem cmpB_zero : ∀ a b : List UInt8, Lib.compareBytes a b = 0 ↔ a = b
  | [], [] => by simp [Lib.compareBytes]
  | [], _ :: _ => by simp [Lib.compareBytes]
  | _ :: _, [] => by simp [Lib.compareBytes]
  | a :: x, b :: y => by
    unfold Lib.compareBytes
    by_cases h1 : a < b
    · have : a ≠ b := fun e => by subst e; exact UInt8.lt_irrefl a h1
      simp [h1, this]
    · by_cases h2 : b < a
      · have : a ≠ b := fun e => by subst e; exact UInt8.lt_irrefl a h2
        simp [h1, h2, this]
      · have e : a = b := UInt8.le_antisymm (UInt8.not_lt.1 h2) (UInt8.not_lt.1 h1)
        subst e
        simp [h1, cmpB_zero x y]
theorem cmpB_neg : ∀ a b : List UInt8, Lib.compareBytes a b < 0 ↔ a < b
  | [], [] => by simp [Lib.compareBytes]
  | [], _ :: _ => by simp [Lib.compareBytes]
  | _ :: _, [] => by simp [Lib.compareBytes]
  | a :: x, b :: y => by
    unfold Lib.compareBytes
    rw [List.cons_lt_cons_iff]
    by_cases h1 : a < b
    · simp [h1]
    · by_cases h2 : b < a
      · have : a ≠ b := fun e => by subst e; exact UInt8.lt_irrefl a h2
        simp [h1, h2, this]
      · have e : a = b := UInt8.le_antisymm (UInt8.not_lt.1 h2) (UInt8.not_lt.1 h1)
        subst e
        simp [h1, cmpB_neg x y]
def cmpS (a b : ByteArray) : Int := Lib.compareBytes a.data.toList b.data.toList
def ltS (a b : ByteArray) : Prop := a.data.toList < b.data.toList
theorem data_inj {a b : ByteArray} (h : a.data.toList = b.data.toList) : a = b := by
  obtain ⟨⟨a⟩⟩ := a
  obtain ⟨⟨b⟩⟩ := b
  simp at h
  rw [h]
theorem cmpS_zero {a b : ByteArray} : cmpS a b = 0 ↔ a = b := by
  unfold cmpS
  rw [cmpB_zero]
  exact ⟨data_inj, fun h => by rw [h]⟩
theorem cmpS_neg {a b : ByteArray} : cmpS a b < 0 ↔ ltS a b := cmpB_neg _ _
theorem ltS_trans {a b c : ByteArray} (h : ltS a b) (h' : ltS b c) : ltS a c := List.lt_trans h h'
theorem ltS_irrefl (a : ByteArray) : ¬ ltS a a := List.lt_irrefl _
theorem ltS_tri (a b : ByteArray) (h : ¬ ltS a b) (h' : ¬ ltS b a) : a = b := data_inj (List.le_antisymm (List.not_lt.1 h') (List.not_lt.1 h))

def dueC (a b : Due) : Int := cmpS a.key b.key
theorem due_lt {a b : Due} : ltOf dueC a b = true ↔ ltS a.key b.key := by
  unfold ltOf dueC
  rw [decide_eq_true_eq, cmpS_neg]
theorem due_nlt {a b : Due} : ltOf dueC a b = false ↔ ¬ ltS a.key b.key := by
  rw [← due_lt]; simp
theorem swoDue : SWO (ltOf dueC) where
  irrefl x := due_nlt.2 (ltS_irrefl _)
  trans x y z h1 h2 := due_lt.2 (ltS_trans (due_lt.1 h1) (due_lt.1 h2))
  ntrans x y z h1 h2 := due_nlt.2 (fun h => by
    have h1 := due_nlt.1 h1
    have h2 := due_nlt.1 h2
    unfold ltS at *
    rw [List.not_lt] at h1 h2
    exact absurd h (List.not_lt.2 (List.le_trans h2 h1)))

/-- ys: the sums by key that are there and are not shut out by 'zero', sorted by key. -/
def DuesOf (f : ByteArray → Option Int) (zero : Bool) (ys : List Due) : Prop :=
  ys.Pairwise (fun a b => ltS a.key b.key) ∧ ∀ d : Due, d ∈ ys ↔ f d.key = some d.cents ∧ (d.cents ≠ 0 ∨ zero = true)
theorem sorted_eq : ∀ {xs ys : List Due}, xs.Pairwise (fun a b => ltS a.key b.key) → ys.Pairwise (fun a b => ltS a.key b.key) → (∀ d, d ∈ xs ↔ d ∈ ys) → xs = ys
  | [], [], _, _, _ => rfl
  | [], y :: ys, _, _, h => by have := (h y).2 (by simp); cases this
  | x :: xs, [], _, _, h => by have := (h x).1 (by simp); cases this
  | x :: xs, y :: ys, h1, h2, h => by
    rw [List.pairwise_cons] at h1 h2
    have e : x = y := by
      rcases List.mem_cons.1 ((h x).1 (by simp)) with e | hx
      · exact e
      · rcases List.mem_cons.1 ((h y).2 (by simp)) with e | hy
        · exact e.symm
        · exact absurd (ltS_trans (h1.1 y hy) (h2.1 x hx)) (ltS_irrefl _)
    subst e
    congr 1
    refine sorted_eq h1.2 h2.2 fun d => ?_
    have hd := h d
    simp only [List.mem_cons] at hd
    constructor
    · intro hx
      rcases hd.1 (.inr hx) with e | h3
      · subst e; exact absurd (h1.1 d hx) (ltS_irrefl _)
      · exact h3
    · intro hy
      rcases hd.2 (.inr hy) with e | h3
      · subst e; exact absurd (h2.1 d hy) (ltS_irrefl _)
      · exact h3
theorem DuesOf.unique {f : ByteArray → Option Int} {zero : Bool} {xs ys : List Due} (h : DuesOf f zero xs) (h' : DuesOf f zero ys) : xs = ys :=
  sorted_eq h.1 h'.1 fun d => (h.2 d).trans (h'.2 d).symm

/-- v more at key k. -/
def addK (f : ByteArray → Option Int) (k : ByteArray) (v : Int) : ByteArray → Option Int := fun k' => if k' = k then some ((f k).getD 0 + v) else f k'
theorem addK_at (f : ByteArray → Option Int) (k : ByteArray) (v : Int) : addK f k v k = some ((f k).getD 0 + v) := by simp [addK]
theorem addK_two (f : ByteArray → Option Int) (k : ByteArray) (a b : Int) : addK (addK f k a) k b = addK f k (a + b) := by
  funext k'
  unfold addK
  by_cases h : k' = k
  · subst h; simp; omega
  · simp [h]
/-- Nothing is below 0, nor above B. -/
def BndK (f : ByteArray → Option Int) (B : Int) : Prop := ∀ k, 0 ≤ (f k).getD 0 ∧ (f k).getD 0 ≤ B
theorem BndK.none (B : Int) (h : 0 ≤ B) : BndK (fun _ => none) B := fun _ => ⟨Int.le_refl _, h⟩
theorem BndK.add {f : ByteArray → Option Int} {B v V : Int} (h : BndK f B) (k : ByteArray) (h0 : 0 ≤ v) (h1 : v ≤ V) : BndK (addK f k v) (B + V) := by
  intro k'
  unfold addK
  have h2 := h k
  by_cases e : k' = k
  · subst e; simp; omega
  · have := h k'
    simp [e]; omega
/-- What ride i of n pays of a leg's cents. -/
def legI (cents : Int) (n i : Nat) : Int := cents / n + if (i : Int) < cents % n then 1 else 0
theorem legI_bd {cents : Int} {n i : Nat} (hn : 0 < n) (h0 : 0 ≤ cents) (h1 : cents ≤ maxCt) : 0 ≤ legI cents n i ∧ legI cents n i ≤ maxCt := by
  have e1 : 0 ≤ cents / (n : Int) := Int.ediv_nonneg h0 (by omega)
  have e2 : cents / (n : Int) * (n : Int) ≤ cents := Int.ediv_mul_le _ (by omega)
  have e3 : cents / (n : Int) * 1 ≤ cents / (n : Int) * (n : Int) := Int.mul_le_mul_of_nonneg_left (by omega) e1
  have e4 := Int.emod_nonneg cents (show (n : Int) ≠ 0 by omega)
  have e5 := Int.mul_ediv_add_emod cents n
  have e6 : (n : Int) * (cents / (n : Int)) = cents / (n : Int) * (n : Int) := Int.mul_comm _ _
  unfold legI
  unfold maxCt at *
  split <;> omega
/-- The first k rides of a leg have paid. -/
def rideK (rides : List ByteArray) (cents : Int) (f : ByteArray → Option Int) : Nat → ByteArray → Option Int
  | 0 => f
  | k + 1 => addK (rideK rides cents f k) (rides.getD k default) (legI cents rides.length k)
theorem rideK_bd {rides : List ByteArray} {cents : Int} {f : ByteArray → Option Int} {B : Int} (h : BndK f B) (hn : 0 < rides.length) (h0 : 0 ≤ cents) (h1 : cents ≤ maxCt) : ∀ k : Nat, BndK (rideK rides cents f k) (B + maxCt * k)
  | 0 => by simpa [rideK] using h
  | k + 1 => by
    have := (rideK_bd h hn h0 h1 k).add (rides.getD k default) (legI_bd (i := k) hn h0 h1).1 (legI_bd hn h0 h1).2
    have e : B + maxCt * ((k + 1 : Nat) : Int) = B + maxCt * k + maxCt := by unfold maxCt; omega
    rw [e]; exact this
theorem sumL_rep (n : Nat) (x : Int) : sumL (List.replicate n x) = n * x := by
  induction n with
  | zero => simp [sumL]
  | succ n ih => rw [List.replicate_succ, sumL, ih, Int.natCast_succ, Int.add_mul]; omega
theorem getD_rep (n : Nat) (x : Int) (i : Nat) (hi : i < n) : (List.replicate n x).getD i 0 = x := by
  rw [List.getD_eq_getElem?_getD, List.getElem?_eq_getElem (by simpa using hi)]; simp
/-- Equal parts: the first ones get one more. -/
theorem divided_ones {cents : Int} {n : Nat} (hn : 0 < n) {zs : List Int} (h : Divided cents (List.replicate n 1) zs) : zs.length = n ∧ ∀ i, i < n → zs.getD i 0 = legI cents n i := by
  have e1 : numsD cents (List.replicate n 1) = List.replicate n cents := by simp [numsD]
  have e2 : sumL (List.replicate n 1) = (n : Int) := by rw [sumL_rep]; omega
  have hm := Int.emod_nonneg cents (show (n : Int) ≠ 0 by omega)
  have hm2 := Int.emod_lt_of_pos cents (show (0 : Int) < n by omega)
  have e3 := Int.mul_ediv_add_emod cents n
  have hH : Divided cents (List.replicate n 1) (bump (List.replicate n (cents / n)) (List.range (cents % n).toNat)) := by
    unfold Divided Handed
    rw [e1, e2]
    refine ⟨List.range (cents % n).toNat, ⟨List.nodup_range, fun i hi => ?_, fun i hi j hj hn => ?_⟩, ?_, ?_⟩
    · rw [List.mem_range] at hi
      rw [rsN_len, List.length_replicate]; omega
    · rw [List.mem_range] at hi hn
      rw [rsN_len, List.length_replicate] at hj
      refine .inr ⟨?_, by omega⟩
      unfold rsN
      rw [List.map_replicate, getD_rep _ _ _ (by omega), getD_rep _ _ _ hj]
    · rw [List.length_range]
      unfold leftN qsN
      rw [List.map_replicate, sumL_rep]
      congr 1; omega
    · unfold qsN
      rw [List.map_replicate]
  have hz : zs = bump (List.replicate n (cents / n)) (List.range (cents % n).toNat) := Handed.unique h hH
  subst hz
  refine ⟨by rw [bump_len, List.length_replicate], fun i hi => ?_⟩
  rw [List.getD_eq_getElem?_getD, List.getElem?_eq_getElem (by rw [bump_len, List.length_replicate]; exact hi), Option.getD_some, bump_get]
  unfold legI
  rw [List.getElem_replicate]
  by_cases hlt : (i : Int) < cents % n
  · rw [if_pos (List.mem_range.2 (by omega)), if_pos hlt]
  · rw [if_neg (fun hc => hlt (by have := List.mem_range.1 hc; omega)), if_neg hlt]; omega
end Go.Proofs.YtmpnilliichpfaaGreatDoor
/- strings.Compare. -/
namespace Go.Proofs.YtmpnilliichpfaaGreatDoor
open Go.RowKit Go.Shelf Go.Proofs

theorem w_CompareS (a b : ByteArray) (w : World) : Calls Tryz.prog 150 #[.string a, .string b] w fun e w' => e = .returned (.int .i64 (cmpS a b)) ∧ w = w' :=
  (Any.strings_Compare Tryz.compareStr a b w).mono fun _ _ ⟨h1, h2⟩ => ⟨h1, h2.symm⟩
end Go.Proofs.YtmpnilliichpfaaGreatDoor
/- slices.ContainsFunc over numbers and dues, slices.EqualFunc of keys and dues: each for every function value that answers plainly. -/
namespace Go.Proofs.YtmpnilliichpfaaGreatDoor
open Go.RowKit

def Enters (g : Nat) : Prop := ∀ args w, (callFunc g args).run Tryz.prog w = .ok (.enter g args) w

theorem eqS_iff (s t : ByteArray) : (s.toList == t.toList) = decide (s = t) := by
  rw [Bool.eq_iff_iff, beq_iff_eq, decide_eq_true_eq, Lib.toList_data, Lib.toList_data]
  constructor
  · intro h
    rcases s with ⟨⟨s⟩⟩
    rcases t with ⟨⟨t⟩⟩
    simp at h
    rw [h]
  · rintro rfl; rfl

/-- Cents told of a due. -/
def badD (d : Due) : Bool := outB d.cents (-maxCt) maxCt
theorem keys_step {l : List ByteArray} {ds : List Due} {k : Nat} (hl : l.length = ds.length) (hk : k < l.length) (h : l.take k = (ds.take k).map (·.key)) (he : l[k] = (ds[k]'(by omega)).key) : l.take (k + 1) = (ds.take (k + 1)).map (·.key) := by
  rw [List.take_succ_eq_append_getElem hk, List.take_succ_eq_append_getElem (by omega), List.map_append, h, he]; rfl
theorem keys_not {l : List ByteArray} {ds : List Due} {k : Nat} (hl : l.length = ds.length) (hk : k < l.length) (he : ¬ l[k] = (ds[k]'(by omega)).key) : ¬ l = ds.map (·.key) := by
  intro h
  apply he
  have : l[k]? = (ds.map (·.key))[k]? := by rw [← h]
  rw [List.getElem?_eq_getElem hk, List.getElem?_map, List.getElem?_eq_getElem (by omega)] at this
  simpa using this
end Go.Proofs.YtmpnilliichpfaaGreatDoor
/- A node's number: the program's search. -/
namespace Go.Proofs.YtmpnilliichpfaaGreatDoor
open Go.RowKit

theorem w_node1 (x : Node) (s : ByteArray) (w : World) : Calls Tryz.prog 157 #[.agg #[.string x.key, .int .i64 x.x, .int .i64 x.y], .string s] w fun e w' => e = .returned (.int .i64 (cmpS x.key s)) ∧ Nx w w' := by
  go_enter Tryz.func157, Tryz.ntmps157
  go_wp2_with (go_at_call 150; refine (w_CompareS _ _ _).mono ?_; rintro e w' ⟨rfl, rfl⟩)
  go_ret
  exact ⟨rfl, (Nx.refl _).alloc _⟩

/-- Where a search ends. -/
structure Found (f : Nat → Int) (n r : Nat) (is : Bool) : Prop where
  le : r ≤ n
  lo : ∀ i, i < r → f i < 0
  hi : ∀ i, r ≤ i → i < n → 0 ≤ f i
  is_ : is = (decide (r < n) && decide (f r = 0))
set_option maxRecDepth 100000 in
set_option maxHeartbeats 2000000 in
theorem w_BsfNode (g : Nat) (f : Node → Int) (x : ByteArray) (eg : Enters g) (hcl : ∀ (y : Node) W, Calls Tryz.prog g #[.agg #[.string y.key, .int .i64 y.x, .int .i64 y.y], .string x] W fun e w' => e = .returned (.int .i64 (f y)) ∧ Nx W w')
    (lo : Nat) (A : Option Addr) (c : Nat) (l : List Node) (w : World) (hR : Rd w lo A 3 encNode l) (hl : l.length ≤ 65536)
    (hm : ∀ i j, i ≤ j → j < l.length → f (l.getD j default) < 0 → f (l.getD i default) < 0) :
    Calls Tryz.prog 156 #[.slice A l.length c, .string x, .func (.func g) #[] #[]] w fun e w' => ∃ (r : Nat) (is : Bool), e = .returned (.tuple #[.int .i64 (r : Int), .bool is]) ∧ Found (fun i => f (l.getD i default)) l.length r is ∧ Nx w w' := by
  generalize hn : l.length = n at *
  have HR := hide hR
  have HN := hide hn
  have HC0 := hide hcl
  have HM := hide hm
  clear hR hn hcl hm
  unfold Enters at eg
  have HG := hide (fun i (hi : i < l.length) => (show l.getD i default = l[i] by rw [List.getD_eq_getElem?_getD, List.getElem?_eq_getElem hi]; rfl))
  go_enter Tryz.func156, Tryz.ntmps156
  go_wp2
  go_loopw [9, 10, 11] (fun vi vj _ wr => ∃ i j : Nat, i ≤ j ∧ j ≤ n ∧ vi = .int .i64 i ∧ vj = .int .i64 j ∧ Nx w wr ∧ (∀ m, m < i → f (l.getD m default) < 0) ∧ (∀ m, j ≤ m → m < n → 0 ≤ f (l.getD m default))) (fun vi vj _ _ => (intOf vj).toNat - (intOf vi).toNat)
  case atStart => exact ⟨0, n, Nat.zero_le _, Nat.le_refl _, rfl, rfl, Nx.refl _, fun m hm => by omega, fun m h1 h2 => by omega⟩
  case round =>
    obtain ⟨i, j, hij, hj, rfl, rfl, hbw, hlo, hhi⟩ := hrel
    have HLO := hide hlo
    have HHI := hide hhi
    clear hlo hhi
    by_cases hlt : i < j
    · obtain ⟨h, hh⟩ : ∃ h, h = (i + j) / 2 := ⟨_, rfl⟩
      have qh : ((i : Int) + (j : Int)) / 2 = (h : Int) := by omega
      have hih : i ≤ h := by omega
      have hhj : h < j := by omega
      have hh' : h < l.length := by have := HN.out; omega
      clear hh
      obtain ⟨b, off, rfl, _, hb, hbr, hc⟩ := HR.out.open_ hbw (by omega)
      have c0 : wr.cell? ⟨b, off + h * 3, none⟩ = some (.string l[h].key) := hc h hh' 0 _ rfl
      have c1 : wr.cell? ⟨b, off + h * 3 + 1, none⟩ = some (.int .i64 l[h].x) := hc h hh' 1 _ rfl
      have c2 : wr.cell? ⟨b, off + h * 3 + 2, none⟩ = some (.int .i64 l[h].y) := hc h hh' 2 _ rfl
      clear hc
      have HE := hide (HG.out h hh')
      have HCY := hide (HC0.out l[h])
      by_cases hneg : f l[h] < 0
      · have t1 : decide (f l[h] < 0) = true := by simpa using hneg
        have HNG := hide hneg
        clear hneg
        generalize l[h] = y at *
        go_wp2_with (go_at_fn g; refine (HCY.out _).mono ?_; rintro e w2 ⟨rfl, hn2⟩)
        go_roundw
        case rel => exact ⟨h + 1, j, by omega, by omega, by go_num, rfl, hbw.trans hn2, fun m hm => HM.out m h (by omega) (by omega) (by rw [HE.out]; exact HNG.out), HHI.out⟩
        case measure => simp [intOf]; omega
      · have t1 : decide (f l[h] < 0) = false := by simpa using hneg
        have HNG := hide hneg
        clear hneg
        generalize l[h] = y at *
        go_wp2_with (go_at_fn g; refine (HCY.out _).mono ?_; rintro e w2 ⟨rfl, hn2⟩)
        go_roundw
        case rel => exact ⟨i, h, by omega, by omega, rfl, rfl, hbw.trans hn2, HLO.out, fun m h1 h2 => by
          refine Int.not_lt.1 fun hc => ?_
          have h3 := HM.out h m h1 h2 hc
          rw [HE.out] at h3
          have := HNG.out
          omega⟩
        case measure => simp [intOf]; omega
    · have hij' : i = j := by omega
      subst hij'
      clear hlt hij
      by_cases hin : i < n
      · have hi' : i < l.length := by have := HN.out; omega
        obtain ⟨b, off, rfl, _, hb, hbr, hc⟩ := HR.out.open_ hbw (by omega)
        have c0 : wr.cell? ⟨b, off + i * 3, none⟩ = some (.string l[i].key) := hc i hi' 0 _ rfl
        have c1 : wr.cell? ⟨b, off + i * 3 + 1, none⟩ = some (.int .i64 l[i].x) := hc i hi' 1 _ rfl
        have c2 : wr.cell? ⟨b, off + i * 3 + 2, none⟩ = some (.int .i64 l[i].y) := hc i hi' 2 _ rfl
        clear hc
        have HE := hide (HG.out i hi')
        have HCY := hide (HC0.out l[i])
        generalize l[i] = y at *
        go_wp2_with (go_at_fn g; refine (HCY.out _).mono ?_; rintro e w2 ⟨rfl, hn2⟩)
        go_ret2
        exact ⟨i, _, rfl, ⟨hj, HLO.out, HHI.out, by show _ = (decide (i < n) && decide (f (l.getD i default) = 0)); rw [HE.out, decide_eq_true hin]; rfl⟩, hbw.trans hn2⟩
      · go_wp2
        go_ret2
        exact ⟨i, _, rfl, ⟨hj, HLO.out, HHI.out, by rw [decide_eq_false hin]; rfl⟩, hbw⟩

theorem found_at {f : Nat → Int} {n r : Nat} {is : Bool} (h : Found f n r is) (k : Nat) (hk : k < n) (h0 : f k = 0) (hlo : ∀ i, i < k → f i < 0) : r = k ∧ is = true := by
  have e : r = k := by
    rcases Nat.lt_trichotomy r k with h1 | h1 | h1
    · have := h.hi r (Nat.le_refl _) (by omega); have := hlo r h1; omega
    · exact h1
    · have := h.lo k h1; omega
  subst e
  exact ⟨rfl, by rw [h.is_, decide_eq_true hk, h0]; rfl⟩
theorem found_no {f : Nat → Int} {n r : Nat} {is : Bool} (h : Found f n r is) (hno : ∀ k, k < n → f k ≠ 0) : is = false := by
  rw [h.is_]
  by_cases hr : r < n
  · rw [decide_eq_false (hno r hr)]; simp
  · rw [decide_eq_false hr]; rfl
end Go.Proofs.YtmpnilliichpfaaGreatDoor
/- Knots: what comes behind one; the program's check. -/
namespace Go.Proofs.YtmpnilliichpfaaGreatDoor
open Go.RowKit

theorem knot_at {l : List Knot} {k : Nat} (hk : k < l.length) : l.getD k default = l[k] := by rw [List.getD_eq_getElem?_getD, List.getElem?_eq_getElem hk]; rfl
set_option maxRecDepth 100000 in
set_option maxHeartbeats 1000000 in
theorem w_After (lo : Nat) (A : Option Addr) (c : Nat) (l : List Knot) (i : Nat) (w : World) (hR : Rd w lo A 2 encKnot l) (hl : l.length ≤ 65536) (hi : i < l.length) :
    Calls Tryz.prog 187 #[.slice A l.length c, .int .i64 (i : Int)] w fun e w' => e = .returned (.agg #[.int .i64 (afterK l i).at_, .int .i64 (afterK l i).time]) ∧ Nx w w' := by
  obtain ⟨b, off, rfl, _, hb, _, hc⟩ := hR.open_ (Nx.refl w) (by omega)
  by_cases hlt : i + 1 < l.length
  · have c0 : w.cell? ⟨b, off + (i + 1) * 2, none⟩ = some (.int .i64 l[i + 1].at_) := hc (i + 1) hlt 0 _ rfl
    have c1 : w.cell? ⟨b, off + (i + 1) * 2 + 1, none⟩ = some (.int .i64 l[i + 1].time) := hc (i + 1) hlt 1 _ rfl
    have HA := hide (show afterK l i = l[i + 1] by unfold afterK; rw [if_pos hlt, knot_at hlt])
    rw [HA.out]
    clear hc hR
    generalize l[i + 1] = y at *
    generalize l.length = n at *
    clear HA
    have q1 : IntKind.i64.wrap ((i : Int) + 1) = ((i + 1 : Nat) : Int) := by rw [IntWalk.i64_in _ (by omega)]; rfl
    have q2 : decide (((i + 1 : Nat) : Int) < (n : Int)) = true := by simp; omega
    have q3 : ((i + 1 : Nat) : Int).toNat = i + 1 := by omega
    go_enter Tryz.func187, Tryz.ntmps187
    go_wp2
    exact bodyPost_ret (v := .agg #[.int .i64 y.at_, .int .i64 y.time]) (by simp [results, Tryz.results187, go_sem]) rfl ⟨rfl, ((Nx.refl _).alloc _)⟩
  · have c1 : w.cell? ⟨b, off + 1, none⟩ = some (.int .i64 (l[0]'(by omega)).time) := by have := hc 0 (by omega) 1 _ rfl; simpa using this
    have HA := hide (show afterK l i = ⟨dayMs, (l[0]'(by omega)).time⟩ by unfold afterK; rw [if_neg hlt, knot_at (by omega)])
    rw [HA.out]
    clear hc hR
    generalize (l[0]'(by omega)).time = y at *
    generalize l.length = n at *
    clear HA
    go_enter Tryz.func187, Tryz.ntmps187
    go_wp2
    exact bodyPost_ret (v := .agg #[.int .i64 dayMs, .int .i64 y]) (by simp [results, Tryz.results187, go_sem, dayMs]) rfl ⟨rfl, ((Nx.refl _).alloc _)⟩
end Go.Proofs.YtmpnilliichpfaaGreatDoor
/- cmp.Compare of numbers. -/
namespace Go.Proofs.YtmpnilliichpfaaGreatDoor
open Go.RowKit

theorem w_isNaN (a : Int) (w : World) : Calls Tryz.prog 239 #[.int .i64 a] w fun e w' => e = .returned (.bool false) ∧ w = w' := by
  go_enter Tryz.func239, Tryz.ntmps239
  go_wp2
  go_ret
  exact ⟨rfl, rfl⟩

theorem w_Compare (a b : Int) (w : World) : Calls Tryz.prog 186 #[.int .i64 a, .int .i64 b] w fun e w' => e = .returned (.int .i64 (cmpI a b)) ∧ w = w' := by
  by_cases h1 : a < b
  · go_enter Tryz.func186, Tryz.ntmps186
    go_wp2_with (go_at_call 239; refine (w_isNaN _ _).mono ?_; rintro e w' ⟨rfl, rfl⟩)
    go_ret
    exact ⟨ret_int (by unfold cmpI; simp [h1]), rfl⟩
  · by_cases h2 : b < a
    · go_enter Tryz.func186, Tryz.ntmps186
      go_wp2_with (go_at_call 239; refine (w_isNaN _ _).mono ?_; rintro e w' ⟨rfl, rfl⟩)
      go_ret
      exact ⟨ret_int (by unfold cmpI; simp [h1, h2]), rfl⟩
    · go_enter Tryz.func186, Tryz.ntmps186
      go_wp2_with (go_at_call 239; refine (w_isNaN _ _).mono ?_; rintro e w' ⟨rfl, rfl⟩)
      go_ret
      exact ⟨ret_int (by unfold cmpI; rw [if_neg (by omega), if_neg (by omega)]), rfl⟩

end Go.Proofs.YtmpnilliichpfaaGreatDoor
/- The knot at a moment: the program's search. -/
namespace Go.Proofs.YtmpnilliichpfaaGreatDoor
open Go.RowKit

theorem w_time1 (x : Knot) (t : Int) (w : World) : Calls Tryz.prog 185 #[.agg #[.int .i64 x.at_, .int .i64 x.time], .int .i64 t] w fun e w' => e = .returned (.int .i64 (cmpI x.at_ t)) ∧ Nx w w' := by
  go_enter Tryz.func185, Tryz.ntmps185
  go_wp2_with (go_at_call 186; refine (w_Compare _ _ _).mono ?_; rintro e w' ⟨rfl, rfl⟩)
  go_ret
  exact ⟨rfl, (Nx.refl _).alloc _⟩

set_option maxRecDepth 100000 in
set_option maxHeartbeats 2000000 in
theorem w_BsfKnot (g : Nat) (f : Knot → Int) (x : Int) (eg : Enters g) (hcl : ∀ (y : Knot) W, Calls Tryz.prog g #[.agg #[.int .i64 y.at_, .int .i64 y.time], .int .i64 x] W fun e w' => e = .returned (.int .i64 (f y)) ∧ Nx W w')
    (lo : Nat) (A : Option Addr) (c : Nat) (l : List Knot) (w : World) (hR : Rd w lo A 2 encKnot l) (hl : l.length ≤ 65536)
    (hm : ∀ i j, i ≤ j → j < l.length → f (l.getD j default) < 0 → f (l.getD i default) < 0) :
    Calls Tryz.prog 184 #[.slice A l.length c, .int .i64 x, .func (.func g) #[] #[]] w fun e w' => ∃ (r : Nat) (is : Bool), e = .returned (.tuple #[.int .i64 (r : Int), .bool is]) ∧ Found (fun i => f (l.getD i default)) l.length r is ∧ Nx w w' := by
  generalize hn : l.length = n at *
  have HR := hide hR
  have HN := hide hn
  have HC0 := hide hcl
  have HM := hide hm
  clear hR hn hcl hm
  unfold Enters at eg
  have HG := hide (fun i (hi : i < l.length) => (show l.getD i default = l[i] by rw [List.getD_eq_getElem?_getD, List.getElem?_eq_getElem hi]; rfl))
  go_enter Tryz.func184, Tryz.ntmps184
  go_wp2
  go_loopw [9, 10, 11] (fun vi vj _ wr => ∃ i j : Nat, i ≤ j ∧ j ≤ n ∧ vi = .int .i64 i ∧ vj = .int .i64 j ∧ Nx w wr ∧ (∀ m, m < i → f (l.getD m default) < 0) ∧ (∀ m, j ≤ m → m < n → 0 ≤ f (l.getD m default))) (fun vi vj _ _ => (intOf vj).toNat - (intOf vi).toNat)
  case atStart => exact ⟨0, n, Nat.zero_le _, Nat.le_refl _, rfl, rfl, Nx.refl _, fun m hm => by omega, fun m h1 h2 => by omega⟩
  case round =>
    obtain ⟨i, j, hij, hj, rfl, rfl, hbw, hlo, hhi⟩ := hrel
    have HLO := hide hlo
    have HHI := hide hhi
    clear hlo hhi
    by_cases hlt : i < j
    · obtain ⟨h, hh⟩ : ∃ h, h = (i + j) / 2 := ⟨_, rfl⟩
      have qh : ((i : Int) + (j : Int)) / 2 = (h : Int) := by omega
      have hih : i ≤ h := by omega
      have hhj : h < j := by omega
      have hh' : h < l.length := by have := HN.out; omega
      clear hh
      obtain ⟨b, off, rfl, _, hb, hbr, hc⟩ := HR.out.open_ hbw (by omega)
      have c0 : wr.cell? ⟨b, off + h * 2, none⟩ = some (.int .i64 l[h].at_) := hc h hh' 0 _ rfl
      have c1 : wr.cell? ⟨b, off + h * 2 + 1, none⟩ = some (.int .i64 l[h].time) := hc h hh' 1 _ rfl
      clear hc
      have HE := hide (HG.out h hh')
      have HCY := hide (HC0.out l[h])
      by_cases hneg : f l[h] < 0
      · have t1 : decide (f l[h] < 0) = true := by simpa using hneg
        have HNG := hide hneg
        clear hneg
        generalize l[h] = y at *
        go_wp2_with (go_at_fn g; refine (HCY.out _).mono ?_; rintro e w2 ⟨rfl, hn2⟩)
        go_roundw
        case rel => exact ⟨h + 1, j, by omega, by omega, by go_num, rfl, hbw.trans hn2, fun m hm => HM.out m h (by omega) (by omega) (by rw [HE.out]; exact HNG.out), HHI.out⟩
        case measure => simp [intOf]; omega
      · have t1 : decide (f l[h] < 0) = false := by simpa using hneg
        have HNG := hide hneg
        clear hneg
        generalize l[h] = y at *
        go_wp2_with (go_at_fn g; refine (HCY.out _).mono ?_; rintro e w2 ⟨rfl, hn2⟩)
        go_roundw
        case rel => exact ⟨i, h, by omega, by omega, rfl, rfl, hbw.trans hn2, HLO.out, fun m h1 h2 => by
          refine Int.not_lt.1 fun hc => ?_
          have h3 := HM.out h m h1 h2 hc
          rw [HE.out] at h3
          have := HNG.out
          omega⟩
        case measure => simp [intOf]; omega
    · have hij' : i = j := by omega
      subst hij'
      clear hlt hij
      by_cases hin : i < n
      · have hi' : i < l.length := by have := HN.out; omega
        obtain ⟨b, off, rfl, _, hb, hbr, hc⟩ := HR.out.open_ hbw (by omega)
        have c0 : wr.cell? ⟨b, off + i * 2, none⟩ = some (.int .i64 l[i].at_) := hc i hi' 0 _ rfl
        have c1 : wr.cell? ⟨b, off + i * 2 + 1, none⟩ = some (.int .i64 l[i].time) := hc i hi' 1 _ rfl
        clear hc
        have HE := hide (HG.out i hi')
        have HCY := hide (HC0.out l[i])
        generalize l[i] = y at *
        go_wp2_with (go_at_fn g; refine (HCY.out _).mono ?_; rintro e w2 ⟨rfl, hn2⟩)
        go_ret2
        exact ⟨i, _, rfl, ⟨hj, HLO.out, HHI.out, by show _ = (decide (i < n) && decide (f (l.getD i default) = 0)); rw [HE.out, decide_eq_true hin]; rfl⟩, hbw.trans hn2⟩
      · go_wp2
        go_ret2
        exact ⟨i, _, rfl, ⟨hj, HLO.out, HHI.out, by rw [decide_eq_false hin]; rfl⟩, hbw⟩

end Go.Proofs.YtmpnilliichpfaaGreatDoor
/- Cells behind calls that make memory alone. Of no program. -/
namespace Go.Proofs.YtmpnilliichpfaaGreatDoor
open Go.RowKit

theorem nx_cell {w w' : World} {b o : Nat} {v : Value} (hn : Nx w w') (hb : b < w.heap.size) (h : w.cell? ⟨b, o, none⟩ = some v) : w'.cell? ⟨b, o, none⟩ = some v := (Below.cell hn (p := ⟨b, _, none⟩) hb).trans h
theorem nx_rules {W w1 : World} (hb : Nx W w1) : (∀ b o, b < W.heap.size → w1.cell? ⟨b, o, none⟩ = W.cell? ⟨b, o, none⟩) ∧ (∀ b o, b < W.heap.size → w1.frozen? ⟨b, o, none⟩ = W.frozen? ⟨b, o, none⟩) :=
  ⟨fun b o h => Below.cell hb (p := ⟨b, o, none⟩) h, fun b o h => Below.frozen hb (p := ⟨b, o, none⟩) h⟩
end Go.Proofs.YtmpnilliichpfaaGreatDoor
/- Plain: sorting by insertion is stable. -/
namespace Go.Proofs.YtmpnilliichpfaaGreatDoor
open Go.Sort Go.Proofs
variable {α : Type} [Inhabited α]
theorem get_bang {d : Array α} {pre suf : List α} {x : α} (h : d.toList = pre ++ x :: suf) : d[pre.length]! = x := by
  have h1 : d[pre.length]? = some x := by rw [← Array.getElem?_toList, h, List.getElem?_append_right (Nat.le_refl _)]; simp
  rw [getElem!_def, h1]
theorem swp_list {d : Array α} {q suf : List α} {x y : α} (h : d.toList = q ++ y :: x :: suf) : (swp d (q.length + 1) q.length).toList = q ++ x :: y :: suf := by
  have h1 : d[q.length]! = y := get_bang h
  have h2 : d[q.length + 1]! = x := by
    have : d.toList = (q ++ [y]) ++ x :: suf := by rw [h]; simp
    have := get_bang this
    simpa using this
  unfold swp
  rw [h1, h2]
  simp only [Array.toList_setIfInBounds, h]
  rw [List.set_append_right _ _ (by omega), show q.length + 1 - q.length = 1 by omega, List.set_cons_succ, List.set_cons_zero, List.set_append_right _ _ (by omega), Nat.sub_self, List.set_cons_zero]
theorem inner_list (lt : α → α → Bool) : ∀ (n : Nat) (pre suf : List α) (x : α) (d : Array α), pre.length = n → d.toList = pre ++ x :: suf → ∃ p1 p2, pre = p1 ++ p2 ∧ (insInner lt 0 n d).toList = p1 ++ x :: (p2 ++ suf) ∧ (∀ y ∈ p2, lt x y = true) ∧ (∀ q y, p1 = q ++ [y] → lt x y = false)
  | 0, pre, suf, x, d, hn, hd => by
    have : pre = [] := List.eq_nil_of_length_eq_zero hn
    subst this
    exact ⟨[], [], rfl, by simpa [insInner] using hd, by simp, by simp⟩
  | n + 1, pre, suf, x, d, hn, hd => by
    have hne : pre ≠ [] := by intro e; subst e; simp at hn
    obtain ⟨q, y, rfl⟩ : ∃ q y, pre = q ++ [y] := ⟨pre.dropLast, pre.getLast hne, (List.dropLast_concat_getLast hne).symm⟩
    have hq : q.length = n := by simpa using hn
    have hx : d[n + 1]! = x := by rw [← hn]; exact get_bang hd
    have hy : d[n]! = y := by rw [← hq]; exact get_bang (suf := x :: suf) (by rw [hd]; simp)
    unfold insInner
    rw [hx, hy]
    by_cases hl : lt x y = true
    · rw [if_pos (by simp [hl])]
      obtain ⟨p1, p2, e1, e2, e3, e4⟩ := inner_list lt n q (y :: suf) x (swp d (n + 1) n) hq (by rw [← hq]; exact swp_list (by rw [hd]; simp))
      refine ⟨p1, p2 ++ [y], by rw [e1]; simp, by rw [e2]; simp, fun z hz => ?_, e4⟩
      rcases List.mem_append.1 hz with hz | hz
      · exact e3 z hz
      · simp at hz; subst hz; exact hl
    · rw [if_neg (by simp [hl])]
      refine ⟨q ++ [y], [], by simp, by simpa using hd, by simp, fun q' y' e => ?_⟩
      have := List.append_inj' e rfl
      simp at this
      rw [← this.2]
      simpa using hl
/-- Sorting by insertion is stable: S is the order at first, R the order behind it. -/
theorem outer_list (lt : α → α → Bool) {R S : α → α → Prop} (h1 : ∀ x y, lt x y = true → R x y) (h2 : ∀ x y, S y x → lt x y = false → R y x) (htr : ∀ x y z, R x y → R y z → R x z) :
    ∀ (m : Nat) (b i : Nat) (d : Array α) (pre suf : List α), b - i = m → i ≤ b → pre.length = i → d.toList = pre ++ suf → b = (pre ++ suf).length → pre.Pairwise R → (∀ y ∈ pre, ∀ x ∈ suf, S y x) → suf.Pairwise S → ((insOuter lt 0 b i d).toList.Perm (pre ++ suf) ∧ (insOuter lt 0 b i d).toList.Pairwise R)
  | 0, b, i, d, pre, suf, hm, hib, hp, hd, hb, hR, hS, hs => by
    have : suf = [] := List.eq_nil_of_length_eq_zero (by simp at hb; omega)
    subst this
    rw [insOuter_stop lt 0 b i d (by omega), hd]
    exact ⟨List.Perm.refl _, by simpa using hR⟩
  | m + 1, b, i, d, pre, suf, hm, hib, hp, hd, hb, hR, hS, hs => by
    cases suf with
    | nil => simp at hb; omega
    | cons x suf =>
      rw [insOuter_go lt 0 b i d (by omega)]
      obtain ⟨p1, p2, e1, e2, e3, e4⟩ := inner_list lt i pre suf x d hp hd
      have hsx := List.pairwise_cons.1 hs
      have hR' : (p1 ++ x :: p2).Pairwise R := by
        subst e1
        rw [List.pairwise_append] at hR ⊢
        have hlast : ∀ y ∈ p1, R y x := by
          intro y hy
          have hne : p1 ≠ [] := List.ne_nil_of_mem hy
          obtain ⟨q, z, e⟩ : ∃ q z, p1 = q ++ [z] := ⟨p1.dropLast, p1.getLast hne, (List.dropLast_concat_getLast hne).symm⟩
          have hz : R z x := h2 x z (hS z (by simp [e]) x (by simp)) (e4 q z e)
          rw [e] at hy
          rcases List.mem_append.1 hy with hy | hy
          · have hp := hR.1
            rw [e, List.pairwise_append] at hp
            exact htr y z x (hp.2.2 y hy z (by simp)) hz
          · simp at hy; subst hy; exact hz
        refine ⟨hR.1, List.pairwise_cons.2 ⟨fun y hy => h1 x y (e3 y hy), hR.2.1⟩, fun y hy z hz => ?_⟩
        rcases List.mem_cons.1 hz with rfl | hz
        · exact hlast y hy
        · exact hR.2.2 y hy z hz
      have hperm : (p1 ++ x :: p2).Perm (pre ++ [x]) := by
        subst e1
        exact (List.perm_middle).trans (List.perm_append_singleton x (p1 ++ p2)).symm
      have hl : (p1 ++ x :: p2).length = i + 1 := by have := hperm.length_eq; simp at this ⊢; omega
      have ih := outer_list lt h1 h2 htr m b (i + 1) (insInner lt 0 i d) (p1 ++ x :: p2) suf (by omega) (by simp at hb; omega) hl (by rw [e2]; simp) (by simp at hb hl ⊢; omega) hR'
        (fun y hy z hz => by
          have hy' := hperm.mem_iff.1 hy
          rcases List.mem_append.1 hy' with hy' | hy'
          · exact hS y hy' z (by simp [hz])
          · simp at hy'; subst hy'; exact hsx.1 z hz) hsx.2
      refine ⟨ih.1.trans ?_, ih.2⟩
      have := hperm.append_right suf
      simpa using this
theorem ins_stable (lt : α → α → Bool) {R S : α → α → Prop} (h1 : ∀ x y, lt x y = true → R x y) (h2 : ∀ x y, S y x → lt x y = false → R y x) (htr : ∀ x y z, R x y → R y z → R x z) (d : Array α) (hS : d.toList.Pairwise S) :
    (insertionSort lt d 0 d.size).toList.Perm d.toList ∧ (insertionSort lt d 0 d.size).toList.Pairwise R := by
  unfold insertionSort
  cases hd : d.toList with
  | nil =>
    have : d.size = 0 := by rw [← Array.length_toList, hd]; rfl
    rw [insOuter_stop lt 0 _ _ d (by omega), hd]
    exact ⟨List.Perm.refl _, List.Pairwise.nil⟩
  | cons x l =>
    rw [hd] at hS
    have hx := List.pairwise_cons.1 hS
    have hsz : d.size = l.length + 1 := by rw [← Array.length_toList, hd]; rfl
    exact outer_list lt h1 h2 htr _ d.size 1 d [x] l rfl (by omega) rfl hd (by rw [hsz]; simp) (by simp) (fun y hy z hz => by simp at hy; subst hy; exact hx.1 z hz) hx.2
end Go.Proofs.YtmpnilliichpfaaGreatDoor
/- A map of integers in which it counts whether a key is there, said of a plain function. Of no program. -/
namespace Go.Proofs.YtmpnilliichpfaaGreatDoor
open Go.RowKit Go.Maps

section
variable {κ : Type} {P : Program} {K E : TypeId} {ek : κ → Value} {dom : κ → Prop}

/-- The map's datum D holds f k at key k, if it has the key at all; its keys lie in dom. -/
structure MoD (P : Program) (K : TypeId) (ek : κ → Value) (dom : κ → Prop) (D : DataW Unit) (f : κ → Option Int) : Prop where
  isMap : IsMap D
  at_ : ∀ k l, dom k → keyOf P K (ek k) = some l → ∀ z, D.atKey l z = (match f k with | some v => .lit (.int .i64 v) | none => z)
  keys : ∀ l, has D l = true → ∃ k, dom k ∧ keyOf P K (ek k) = some l
  dm : ∀ k, (f k).isSome = true → dom k

/-- Block b is such a map. -/
def MoI (P : Program) (K E : TypeId) (ek : κ → Value) (dom : κ → Prop) (w : World) (b n : Nat) (f : κ → Option Int) : Prop :=
  ∃ D : DataW Unit, w.ownsMap P K (plainElem P E) b n D ∧ MoD P K ek dom D f

theorem MoI.lt {w : World} {b n : Nat} {f : κ → Option Int} (h : MoI P K E ek dom w b n f) : b < w.heap.size := by
  obtain ⟨D, h1, _⟩ := h; exact h1.lt
theorem MoI.nx {w w' : World} {b n : Nat} {f : κ → Option Int} (h : MoI P K E ek dom w b n f) (hn : Nx w w') : MoI P K E ek dom w' b n f := by
  obtain ⟨D, h1, h2⟩ := h
  exact ⟨D, h1.kept (hn.gr none) (by simp), h2⟩
theorem MoI.gr {w w' : World} {b n s : Nat} {f : κ → Option Int} (h : MoI P K E ek dom w b n f) (hn : Gr s w w') (hs : b ≠ s) : MoI P K E ek dom w' b n f := by
  obtain ⟨D, h1, h2⟩ := h
  exact ⟨D, h1.kept (row := some s) hn (by simpa using hs), h2⟩
theorem MoI.mono {w : World} {b n n' : Nat} {f : κ → Option Int} (h : MoI P K E ek dom w b n f) (hn : n ≤ n') : MoI P K E ek dom w b n' f := by
  obtain ⟨D, h1, h2⟩ := h; exact ⟨D, h1.mono hn, h2⟩
theorem MoI.made (w : World) : MoI P K E ek dom (w.alloc (.map #[] 0)) w.heap.size 0 (fun _ => none) :=
  ⟨.map [], World.ownsMap_made w P K _, isMap_empty, fun _ _ _ _ _ => rfl, fun l h => (by simp [has_eq] at h), fun k h => by cases h⟩
theorem wf_i64o {n : Int} : (Lit.int .i64 n).wf = true ↔ -9223372036854775808 ≤ n ∧ n ≤ 9223372036854775807 := by
  simp [Lit.wf, IntKind.min, IntKind.max, IntKind.signed, IntKind.bits]
theorem MoD.has_ {D : DataW Unit} {f : κ → Option Int} (h : MoD P K ek dom D f) {k : κ} (hd : dom k) {l : Lit} (hkey : keyOf P K (ek k) = some l) : has D l = (f k).isSome := by
  have e := h.at_ k l hd hkey
  cases hf : f k with
  | none => rw [hf] at e; exact has_false_of_atKey e
  | some v => rw [hf] at e; exact has_true_of_atKey e

theorem MoI.look {w : World} {b n : Nat} {f : κ → Option Int} {t : TypeId} (h : MoI P K E ek dom w b n f) (KL : Keyed P K) (ht : P.underlying t = some (.map K E)) (he : P.underlying E = some (.int .i64)) (hz : (zeroValue E).run P w = .ok (.int .i64 0) w)
    {k : κ} (hd : dom k) {l : Lit} (hkey : keyOf P K (ek k) = some l) : (Instr.lookup t (.map (some b)) (ek k) false).run P w = .ok (.int .i64 ((f k).getD 0)) w ∧ (Lit.int .i64 ((f k).getD 0)).wf = true := by
  obtain ⟨D, h1, h2⟩ := h
  obtain ⟨c, hrun, hat, hwf⟩ := h1.lookup_int KL ht he hz hkey
  have e := h2.at_ k l hd hkey (.lit (.int .i64 0))
  rw [hat] at e
  have e' : c = (f k).getD 0 := by
    cases hf : f k with
    | none => rw [hf] at e; injection e with e; injection e
    | some v => rw [hf] at e; injection e with e; injection e
  subst e'
  exact ⟨hrun, hwf⟩

theorem MoD.put {D : DataW Unit} {f : κ → Option Int} [DecidableEq κ] (h : MoD P K ek dom D f) (KL : Keyed P K) (hinj : ∀ a b : κ, ek a = ek b → a = b) {k : κ} (hd : dom k) {l : Lit} (hkey : keyOf P K (ek k) = some l) (v : Int) :
    MoD P K ek dom (D.put l (.lit (.int .i64 v))) (fun k' => if k' = k then some v else f k') where
  isMap := h.isMap.put _ _
  at_ k' l' hd' hk' z := by
    by_cases e : k' = k
    · subst e
      rw [hkey] at hk'; injection hk' with hk'; subst hk'
      rw [if_pos rfl]
      exact atKey_put_same h.isMap (KL.key hkey) _ _
    · rw [if_neg e]
      have hne : l' ≠ l := fun e1 => by subst e1; exact e (hinj _ _ (KL.inj hk' hkey))
      rw [atKey_put_other hne]
      exact h.at_ k' l' hd' hk' z
  keys l' hl' := by
    by_cases e : l' = l
    · subst e; exact ⟨k, hd, hkey⟩
    · rw [has_put_other e] at hl'; exact h.keys l' hl'
  dm k' hk' := by
    by_cases e : k' = k
    · subst e; exact hd
    · rw [if_neg e] at hk'; exact h.dm k' hk'

/-- 'm[k] = v'. -/
theorem MoI.upd {w : World} {b n : Nat} {f : κ → Option Int} [DecidableEq κ] {t : TypeId} (h : MoI P K E ek dom w b n f) (KL : Keyed P K) (hinj : ∀ a b : κ, ek a = ek b → a = b) (ht : P.underlying t = some (.map K E)) (he : P.underlying E = some (.int .i64)) (hn : n < maxLen)
    {k : κ} (hd : dom k) {l : Lit} (hkey : keyOf P K (ek k) = some l) (v : Int) (hv : (Lit.int .i64 v).wf = true) :
    ∃ w', (Instr.mapUpdate t (.map (some b)) (ek k) (.int .i64 v)).run P w = .ok () w' ∧ MoI P K E ek dom w' b (n + 1) (fun k' => if k' = k then some v else f k') ∧ Gr b w w' := by
  obtain ⟨D, h1, h2⟩ := h
  obtain ⟨w', hr, ho, hg⟩ := h1.update KL ht hn hkey (plainElem_int (H := Unit) he hv)
  exact ⟨w', hr, ⟨_, ho, h2.put KL hinj hd hkey v⟩, hg⟩

/-- 'm[k]' at the operation. -/
theorem wpMoLook (w : World) {ops : Array Oper} {rest : List Oper} {o : Oper} {a : Act} {Q : Exit → Act → World → Prop}
    (hg : o.guard = none) (m x : Operand) (t : TypeId) (hop : o.op = Op.lookup t m x false)
    (KL : Keyed P K) (ht : P.underlying t = some (.map K E)) (he : P.underlying E = some (.int .i64)) (hz : (zeroValue E).run P w = .ok (.int .i64 0) w) (b n : Nat) (f : κ → Option Int)
    (hm : a.eval m = .map (some b)) (hown : MoI P K E ek dom w b n f) (k : κ) (hx : a.eval x = ek k) (hd : dom k) (l : Lit) (hkey : keyOf P K (ek k) = some l)
    (hK : (Lit.int .i64 ((f k).getD 0)).wf = true → wpList P ops Q rest (a.put o.dst (.int .i64 ((f k).getD 0))) w) :
    wpList P ops Q (o :: rest) a w := by
  refine wpList_plain hg fun K' hK' => ?_
  obtain ⟨hrun, hwf⟩ := hown.look KL ht he hz hd hkey
  unfold Oper.wp
  simp [execOp, hop, hm, hx, hrun, Result.andThen]
  exact hK' _ _ (hK hwf)

/-- 'm[k] = v' at the operation. -/
theorem wpMoPut [DecidableEq κ] (w : World) {ops : Array Oper} {rest : List Oper} {o : Oper} {a : Act} {Q : Exit → Act → World → Prop}
    (hg : o.guard = none) (m x v : Operand) (t : TypeId) (hop : o.op = Op.mapUpdate t m x v)
    (KL : Keyed P K) (hinj : ∀ a b : κ, ek a = ek b → a = b) (ht : P.underlying t = some (.map K E)) (he : P.underlying E = some (.int .i64)) (b n : Nat) (f : κ → Option Int)
    (hm : a.eval m = .map (some b)) (hown : MoI P K E ek dom w b n f) (hn : n < maxLen) (k : κ) (hx : a.eval x = ek k) (hd : dom k) (l : Lit) (hkey : keyOf P K (ek k) = some l)
    (z : Int) (hz : a.eval v = .int .i64 z) (hwf : (Lit.int .i64 z).wf = true)
    (hK : ∀ w', MoI P K E ek dom w' b (n + 1) (fun k' => if k' = k then some z else f k') → Gr b w w' → wpList P ops Q rest (a.put o.dst undef) w') :
    wpList P ops Q (o :: rest) a w := by
  refine wpList_plain hg fun K' hK' => ?_
  obtain ⟨w', hrun, r1, r2⟩ := hown.upd KL hinj ht he hn hd hkey z hwf
  unfold Oper.wp
  simp [execOp, hop, hm, hx, hz, hrun, Result.andThen]
  exact hK' _ _ (hK w' r1 r2)
end
end Go.Proofs.YtmpnilliichpfaaGreatDoor
