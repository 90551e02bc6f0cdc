/- demand.Read: what it takes is the text of what it hands back. -/
import Derived.Test.YtifkbfidihfghaaGreatDoorQTalR
import Derived.Deep.DeepCutAuto
import Derived.Test.YtifkbfidihfghaaGreatDoorQG3
import Derived.Lib.Bytealg
import Derived.Sort.LotA
import Derived.Shelf.SlSortCmp.Insertion
import Derived.Test.YtifkbfidihfghaaGreatDoorQG0
import Derived.Test.YtifkbfidihfghaaGreatDoorQShelfC
import Derived.Shelf.Small.Strs
import Derived.Lib.SlicesCompact
import Derived.Lib.Strings
namespace Go.Proofs.YtifkbfidihfghaaGreatDoor
open Go.RowKit

/-- demand.Read of a string. -/
def ReadTR (text : ByteArray) (w : World) (e : Ending) (w' : World) : Prop :=
  Nx w w' ∧ ((∃ (L : List Tally) (B : Option Addr) (c : Nat), e = .returned (.tuple #[.slice B L.length c, .int .i64 0, .int .i64 0]) ∧ Rd w' w.heap.size B 4 encTally L ∧ L.length ≤ 400 ∧ tallyText L = text.data.toList ∧ talliesF L = 0) ∨
    (∃ i F : Int, F ≠ 0 ∧ e = .returned (.tuple #[.slice none 0 0, .int .i64 i, .int .i64 F]) ∧ ∀ L, talliesF L = 0 → tallyText L ≠ text.data.toList))
theorem eg_read1 : Enters 18 := enters_of Tryz.func18 (by kernel_rfl) rfl
theorem all_read {ls : List ByteArray} {L : List Tally} (h : dataL ls = L.map tallyLine) (hL : talliesF L = 0) : ls.all okT = true := by
  rw [List.all_eq_true]
  intro s hs
  have h1 : s.data.toList ∈ dataL ls := List.mem_map.2 ⟨s, hs, rfl⟩
  rw [h] at h1
  obtain ⟨t, ht, e⟩ := List.mem_map.1 h1
  unfold okT
  rw [← e, readT_line (tallies_digs hL t ht)]; rfl
set_option maxRecDepth 100000 in
set_option maxHeartbeats 4000000 in
theorem w_ReadT (text : ByteArray) (hs : text.size ≤ 3200) (w : World) (hM : MaxI w) : Calls Tryz.prog 6 #[.string text] w (ReadTR text w) := by
  obtain ⟨b, hb⟩ : ∃ b, b = w.heap.size := ⟨_, rfl⟩
  obtain ⟨w0, hw0⟩ : ∃ w0, w0 = w.alloc (.cells #[.slice none 0 0] 26 (0, 0)) := ⟨_, rfl⟩
  have HB0 := hide (show w0.heap[b]? = some (.cells #[.slice none 0 0] 26 (0, 0)) by rw [hw0, hb]; exact heap_alloc_new w _)
  have HN0 := hide (show Nx w w0 from hw0 ▸ (Nx.refl w).alloc _)
  have hb0 : b < w0.heap.size := (Array.getElem?_eq_some_iff.1 HB0.out).1
  have hbw : w.heap.size ≤ b := by omega
  have HE := hide (w_Each text (by omega) 18 (.pointer (some ⟨b, 0, none⟩)) eg_read1 b okT (IT b) w0 (hM.nx HN0.out) hb0
    (fun w1 hn => ⟨[], .slice none 0 0, rfl, (fun t ht => by cases ht), (hn.block b hb0).trans HB0.out, World.ownsRow_nil _ _ _ _, Nat.lt_of_lt_of_le hb0 hn.sz⟩)
    (fun w1 hn d line W hg hls hdl h => w_Read1 b w1 d line W (hM.grb hbw (HN0.out.trans hn) hg) (by omega) (by omega) hg h))
  have hsz : ¬ (200000 : Int) < (text.size : Int) := by omega
  have HS := hide hs
  clear hM hs
  go_enter Tryz.func6, Tryz.ntmps6
  go_upto_region 4 with fail
  rw [← hw0, ← hb]
  clear hw0 hb
  go_upto_region 5 with (go_at_call 17; refine HE.out.mono ?_; rintro e w3 ⟨ls, ends, hll, hle, hg3, hcase⟩; rcases hcase with ⟨rfl, hall, rfl, w1, hn1, hg1, hI⟩ | ⟨hbad, i, rfl⟩)
  · obtain ⟨L, v, hdl, hdg, hbox, hown, hbw1⟩ := hI
    have htx : tallyText L = text.data.toList := by unfold tallyText; rw [← hdl]; exact linesL_inv hll
    have hlen : L.length ≤ 400 := by
      have h1 := text_len L
      rw [htx, len_data] at h1
      have := HS.out
      omega
    obtain ⟨A1, c1, ev, hR, _⟩ := Rd.of_own encTally_len rfl hown
    obtain rfl := ev
    have c0 : w3.cell? ⟨b, 0, none⟩ = some (.slice A1 L.length c1) := cell_of_row w3 b 0 _ _ _ hbox
    have hbl3 : b < w3.heap.size := (Array.getElem?_eq_some_iff.1 hbox).1
    have HR := hide hR
    have HTX := hide htx
    have HDG := hide hdg
    have HLEN := hide hlen
    have HG3 := hide (Nx.of_gr ((Gr.of_nx HN0.out).trans hg3) hbw)
    have HCT := hide (w_CheckTallies w1.heap.size A1 c1 L w3 hR hlen)
    have hw1 : w.heap.size ≤ w1.heap.size := Nat.le_trans HN0.out.sz hn1.sz
    obtain ⟨F, hF⟩ : ∃ F, F = talliesF L := ⟨_, rfl⟩
    rw [← hF] at HCT
    have HFE := hide hF
    clear hF hdl hdg hbox hown hR htx hlen hll hall hg1 hg3 hn1 HE
    by_cases h0 : F = 0
    · have t1 : (F != 0) = false := by simp [h0]
      have H0 := hide h0
      clear h0
      go_wp2_with (go_at_call 12; refine HCT.out.mono ?_; rintro e w5 ⟨rfl, hn5⟩; (have c5 := nx_cell hn5 hbl3 c0))
      go_ret3
      exact ⟨HG3.out.trans hn5, .inl ⟨L, A1, c1, rfl, (HR.out.nx hn5).low hw1, HLEN.out, HTX.out, by rw [← HFE.out]; exact H0.out⟩⟩
    · have t1 : (F != 0) = true := by simpa using h0
      have H0 := hide h0
      clear h0
      go_wp2_with (go_at_call 12; refine HCT.out.mono ?_; rintro e w5 ⟨rfl, hn5⟩; (have c5 := nx_cell hn5 hbl3 c0))
      go_ret3
      refine ⟨HG3.out.trans hn5, .inr ⟨0, F, H0.out, rfl, fun M hM he => ?_⟩⟩
      have h1 := text_lines M
      rw [he, ← HTX.out, text_lines L] at h1
      injection h1 with h1 _
      have h2 := line_inj HDG.out (tallies_digs hM) h1
      subst h2
      exact H0.out (HFE.out.trans hM)
  · have HG3 := hide (Nx.of_gr ((Gr.of_nx HN0.out).trans hg3) hbw)
    have HLL := hide hll
    have HBAD := hide hbad
    clear hll hbad hg3 HE
    go_wp2_with fail
    go_ret3
    refine ⟨HG3.out, .inr ⟨i, 9, by decide, rfl, fun M hM he => ?_⟩⟩
    have h1 := text_lines M
    rw [he, HLL.out] at h1
    injection h1 with h1 h2
    rcases HBAD.out with h3 | h3
    · rw [h3] at h2; cases h2
    · rw [all_read h1 hM] at h3; cases h3
end Go.Proofs.YtifkbfidihfghaaGreatDoor
/- Plain functions: nodes and knots checked; how long an arc takes. -/
namespace Go.Proofs.YtifkbfidihfghaaGreatDoor

structure Node where
  key : ByteArray
  x : Int
  y : Int
instance : Inhabited Node := ⟨⟨default, 0, 0⟩⟩
def encNode (n : Node) : List Value := [.string n.key, .int .i64 n.x, .int .i64 n.y]
theorem encNode_len (n : Node) : (encNode n).length = 3 := rfl
theorem encNode_one (x : Node) : ∀ v ∈ encNode x, v.oneCell' = true := by
  intro v hv; simp [encNode] at hv; rcases hv with rfl | rfl | rfl <;> rfl
structure Knot where
  at_ : Int
  time : Int
instance : Inhabited Knot := ⟨⟨0, 0⟩⟩
def encKnot (n : Knot) : List Value := [.int .i64 n.at_, .int .i64 n.time]
theorem encKnot_len (n : Knot) : (encKnot n).length = 2 := rfl
/-- A node that stands behind another one. -/
def nodeF (p : Option Node) (n : Node) : Int :=
  if keyB n.key then (match p with | some q => if strLe n.key q.key then 7 else ptF n.x n.y | none => ptF n.x n.y) else 5
def nodesF (l : List Node) : Int := if 500 < l.length then 2 else chk nodeF none l
def dayMs : Int := 86400000
def knotF (p : Option Knot) (k : Knot) : Int :=
  if outB k.at_ 0 (dayMs - 1) || outB k.time 1 3600000 then 1 else (match p with | some q => if k.at_ ≤ q.at_ then 7 else 0 | none => if k.at_ = 0 then 0 else 7)
/-- What comes behind knot i. -/
def afterK (l : List Knot) (i : Nat) : Knot := if i + 1 < l.length then l.getD (i + 1) default else ⟨dayMs, (l.getD 0 default).time⟩
def fallsB (l : List Knot) (i : Nat) : Bool := decide ((afterK l i).at_ - (l.getD i default).at_ < (l.getD i default).time - (afterK l i).time)
def fallF (l : List Knot) : Nat → Int
  | 0 => 0
  | k + 1 => if fallsB l (l.length - (k + 1)) then 16 else fallF l k
def knotsF (l : List Knot) : Int :=
  if l.length = 0 then 8 else if 48 < l.length then 2 else if chk knotF none l = 0 then fallF l l.length else chk knotF none l
theorem fallF_at (l : List Knot) (k : Nat) (hk : k < l.length) : fallF l (l.length - k) = if fallsB l k then 16 else fallF l (l.length - (k + 1)) := by
  have e : l.length - k = (l.length - (k + 1)) + 1 := by omega
  rw [e, fallF, ← e]
  have e2 : l.length - (l.length - k) = k := by omega
  rw [e2]
end Go.Proofs.YtifkbfidihfghaaGreatDoor
/- Plain: the order of strings by their bytes. -/
namespace Go.Proofs.YtifkbfidihfghaaGreatDoor
open Go.Proofs

theorem cmpB_zero : ∀ a b : List UInt8, Lib.compareBytes a b = 0 ↔ a = b
  | [], [] => by simp [Lib.compareBytes]
  | [], _ :: _ => by simp [Lib.compareBytes]
  | _ :: _, [] => by simp [Lib.compareBytes]
  | a :: x, b :: y => by
    unfold Lib.compareBytes
    by_cases h1 : a < b
    · have : a ≠ b := fun e => by subst e; exact UInt8.lt_irrefl a h1
      simp [h1, this]
    · by_cases h2 : b < a
      · have : a ≠ b := fun e => by subst e; exact UInt8.lt_irrefl a h2
        simp [h1, h2, this]
      · have e : a = b := UInt8.le_antisymm (UInt8.not_lt.1 h2) (UInt8.not_lt.1 h1)
        subst e
        simp [h1, cmpB_zero x y]
theorem cmpB_neg : ∀ a b : List UInt8, Lib.compareBytes a b < 0 ↔ a < b
  | [], [] => by simp [Lib.compareBytes]
  | [], _ :: _ => by simp [Lib.compareBytes]
  | _ :: _, [] => by simp [Lib.compareBytes]
  | a :: x, b :: y => by
    unfold Lib.compareBytes
    rw [List.cons_lt_cons_iff]
    by_cases h1 : a < b
    · simp [h1]
    · by_cases h2 : b < a
      · have : a ≠ b := fun e => by subst e; exact UInt8.lt_irrefl a h2
        simp [h1, h2, this]
      · have e : a = b := UInt8.le_antisymm (UInt8.not_lt.1 h2) (UInt8.not_lt.1 h1)
        subst e
        simp [h1, cmpB_neg x y]
def cmpS (a b : ByteArray) : Int := Lib.compareBytes a.data.toList b.data.toList
def ltS (a b : ByteArray) : Prop := a.data.toList < b.data.toList
theorem data_inj {a b : ByteArray} (h : a.data.toList = b.data.toList) : a = b := by
  obtain ⟨⟨a⟩⟩ := a
  obtain ⟨⟨b⟩⟩ := b
  simp at h
  rw [h]
theorem cmpS_zero {a b : ByteArray} : cmpS a b = 0 ↔ a = b := by
  unfold cmpS
  rw [cmpB_zero]
  exact ⟨data_inj, fun h => by rw [h]⟩
theorem cmpS_neg {a b : ByteArray} : cmpS a b < 0 ↔ ltS a b := cmpB_neg _ _
theorem ltS_trans {a b c : ByteArray} (h : ltS a b) (h' : ltS b c) : ltS a c := List.lt_trans h h'
theorem ltS_irrefl (a : ByteArray) : ¬ ltS a a := List.lt_irrefl _
end Go.Proofs.YtifkbfidihfghaaGreatDoor
/- Plain: sums by key; the list of them that is sorted by key; legs split by keys. -/
namespace Go.Proofs.YtifkbfidihfghaaGreatDoor
open Go.Sort Go.Proofs Go.Shelf

/-- ys: the sums by key that are there and are not shut out by 'zero', sorted by key. -/
def DuesOf (f : ByteArray → Option Int) (zero : Bool) (ys : List Due) : Prop :=
  ys.Pairwise (fun a b => ltS a.key b.key) ∧ ∀ d : Due, d ∈ ys ↔ f d.key = some d.cents ∧ (d.cents ≠ 0 ∨ zero = true)
theorem sorted_eq : ∀ {xs ys : List Due}, xs.Pairwise (fun a b => ltS a.key b.key) → ys.Pairwise (fun a b => ltS a.key b.key) → (∀ d, d ∈ xs ↔ d ∈ ys) → xs = ys
  | [], [], _, _, _ => rfl
  | [], y :: ys, _, _, h => by have := (h y).2 (by simp); cases this
  | x :: xs, [], _, _, h => by have := (h x).1 (by simp); cases this
  | x :: xs, y :: ys, h1, h2, h => by
    rw [List.pairwise_cons] at h1 h2
    have e : x = y := by
      rcases List.mem_cons.1 ((h x).1 (by simp)) with e | hx
      · exact e
      · rcases List.mem_cons.1 ((h y).2 (by simp)) with e | hy
        · exact e.symm
        · exact absurd (ltS_trans (h1.1 y hy) (h2.1 x hx)) (ltS_irrefl _)
    subst e
    congr 1
    refine sorted_eq h1.2 h2.2 fun d => ?_
    have hd := h d
    simp only [List.mem_cons] at hd
    constructor
    · intro hx
      rcases hd.1 (.inr hx) with e | h3
      · subst e; exact absurd (h1.1 d hx) (ltS_irrefl _)
      · exact h3
    · intro hy
      rcases hd.2 (.inr hy) with e | h3
      · subst e; exact absurd (h2.1 d hy) (ltS_irrefl _)
      · exact h3
theorem DuesOf.unique {f : ByteArray → Option Int} {zero : Bool} {xs ys : List Due} (h : DuesOf f zero xs) (h' : DuesOf f zero ys) : xs = ys :=
  sorted_eq h.1 h'.1 fun d => (h.2 d).trans (h'.2 d).symm

/-- v more at key k. -/
def addK (f : ByteArray → Option Int) (k : ByteArray) (v : Int) : ByteArray → Option Int := fun k' => if k' = k then some ((f k).getD 0 + v) else f k'
/-- Nothing is below 0, nor above B. -/
def BndK (f : ByteArray → Option Int) (B : Int) : Prop := ∀ k, 0 ≤ (f k).getD 0 ∧ (f k).getD 0 ≤ B
theorem BndK.add {f : ByteArray → Option Int} {B v V : Int} (h : BndK f B) (k : ByteArray) (h0 : 0 ≤ v) (h1 : v ≤ V) : BndK (addK f k v) (B + V) := by
  intro k'
  unfold addK
  have h2 := h k
  by_cases e : k' = k
  · subst e; simp; omega
  · have := h k'
    simp [e]; omega
end Go.Proofs.YtifkbfidihfghaaGreatDoor
/- strings.Compare. -/
namespace Go.Proofs.YtifkbfidihfghaaGreatDoor
open Go.RowKit Go.Shelf Go.Proofs

theorem w_CompareS (a b : ByteArray) (w : World) : Calls Tryz.prog 53 #[.string a, .string b] w fun e w' => e = .returned (.int .i64 (cmpS a b)) ∧ w = w' :=
  (Any.strings_Compare Tryz.compareStr a b w).mono fun _ _ ⟨h1, h2⟩ => ⟨h1, h2.symm⟩
end Go.Proofs.YtifkbfidihfghaaGreatDoor
/- Plain: how long an arc takes at a moment. -/
namespace Go.Proofs.YtifkbfidihfghaaGreatDoor

/-- The line between two knots. -/
def lineI (k y : Knot) (t : Int) : Int := (k.time * (y.at_ - t) + y.time * (t - k.at_)) / (y.at_ - k.at_)
def segI (l : List Knot) (t : Int) : Nat := (l.takeWhile (fun k => decide (k.at_ ≤ t))).length - 1
def timeI (l : List Knot) (at_ : Int) : Int := lineI (l.getD (segI l (at_ % dayMs)) default) (afterK l (segI l (at_ % dayMs))) (at_ % dayMs)
theorem takeWhile_len {α : Type} {p : α → Bool} : ∀ (l : List α) (k : Nat), k ≤ l.length → (∀ m (h : m < l.length), m < k → p l[m] = true) → (∀ h : k < l.length, p l[k] = false) → (l.takeWhile p).length = k
  | [], k, hk, _, _ => by simp at hk; subst hk; rfl
  | a :: l, 0, _, _, h2 => by
    have h0 : p a = false := h2 (by simp)
    rw [List.takeWhile_cons]; simp [h0]
  | a :: l, k + 1, hk, h1, h2 => by
    have h0 : p a = true := h1 0 (by simp) (by omega)
    rw [List.takeWhile_cons]; simp only [h0, if_true, List.length_cons]
    rw [takeWhile_len l k (by simpa using hk) (fun m h hm => h1 (m + 1) (by simpa using h) (by omega)) (fun h => h2 (by simpa using h))]
/-- Knots that are right. -/
structure KOk (l : List Knot) : Prop where
  pos : 0 < l.length
  le : l.length ≤ 48
  first : (l.getD 0 default).at_ = 0
  bd : ∀ i, i < l.length → (0 ≤ (l.getD i default).at_ ∧ (l.getD i default).at_ ≤ 86399999) ∧ (1 ≤ (l.getD i default).time ∧ (l.getD i default).time ≤ 3600000)
  up : ∀ i, i + 1 < l.length → (l.getD i default).at_ < (l.getD (i + 1) default).at_
theorem KOk.lt {l : List Knot} (h : KOk l) : ∀ (i j : Nat), i < j → j < l.length → (l.getD i default).at_ < (l.getD j default).at_
  | i, 0, h1, _ => absurd h1 (by omega)
  | i, j + 1, h1, h2 => by
    have h3 := h.up j h2
    rcases Nat.lt_or_ge i j with h4 | h4
    · have := KOk.lt h i j h4 (by omega); omega
    · have : i = j := by omega
      subst this; exact h3
theorem chkK_ok : ∀ (l : List Knot) (p : Option Knot), chk knotF p l = 0 → (∀ i, i < l.length → (0 ≤ (l.getD i default).at_ ∧ (l.getD i default).at_ ≤ 86399999) ∧ (1 ≤ (l.getD i default).time ∧ (l.getD i default).time ≤ 3600000)) ∧ (∀ i, i + 1 < l.length → (l.getD i default).at_ < (l.getD (i + 1) default).at_) ∧ (0 < l.length → (p = none → (l.getD 0 default).at_ = 0) ∧ ∀ q, p = some q → q.at_ < (l.getD 0 default).at_)
  | [], _, _ => ⟨fun i hi => absurd hi (by simp), fun i hi => absurd hi (by simp), fun h => absurd h (by simp)⟩
  | k :: l, p, h => by
    unfold chk at h
    by_cases h0 : knotF p k = 0
    · rw [if_pos h0] at h
      have ih := chkK_ok l (some k) h
      unfold knotF at h0
      cases h1 : (outB k.at_ 0 (dayMs - 1) || outB k.time 1 3600000) with
      | true => rw [h1, if_pos rfl] at h0; exact absurd h0 (by decide)
      | false =>
        rw [h1] at h0
        rw [if_neg (by simp)] at h0
        rw [Bool.or_eq_false_iff] at h1
        have b1 := outB_false.1 h1.1
        have b2 := outB_false.1 h1.2
        unfold dayMs at b1
        refine ⟨fun i hi => ?_, fun i hi => ?_, fun _ => ⟨fun hp => ?_, fun q hq => ?_⟩⟩
        · cases i with
          | zero => exact ⟨by show 0 ≤ k.at_ ∧ k.at_ ≤ _; omega, b2⟩
          | succ i => exact ih.1 i (by simpa using hi)
        · cases i with
          | zero => exact (ih.2.2 (by simpa using hi)).2 k rfl
          | succ i => exact ih.2.1 i (by simpa using hi)
        · subst hp
          show k.at_ = 0
          by_cases hz : k.at_ = 0
          · exact hz
          · simp [hz] at h0
        · subst hq
          show q.at_ < k.at_
          by_cases hz : k.at_ ≤ q.at_
          · simp [hz] at h0
          · omega
    · rw [if_neg h0] at h; exact absurd h h0
theorem knotsF_chk {l : List Knot} (h : knotsF l = 0) : KOk l := by
  unfold knotsF at h
  by_cases h0 : l.length = 0
  · rw [if_pos h0] at h; exact absurd h (by decide)
  rw [if_neg h0] at h
  by_cases h1 : 48 < l.length
  · rw [if_pos h1] at h; exact absurd h (by decide)
  rw [if_neg h1] at h
  by_cases h2 : chk knotF none l = 0
  · obtain ⟨a, b, c⟩ := chkK_ok l none h2
    exact ⟨by omega, by omega, (c (by omega)).1 rfl, a, b⟩
  · rw [if_neg h2] at h; exact absurd h h2
/-- i is the last knot that is not behind t. -/
theorem seg_of {l : List Knot} (h : KOk l) {t : Int} {i : Nat} (hi : i < l.length) (h1 : (l.getD i default).at_ ≤ t) (h2 : i + 1 < l.length → t < (l.getD (i + 1) default).at_) : segI l t = i := by
  unfold segI
  rw [takeWhile_len l (i + 1) hi (fun m hm hmi => ?_) (fun hk => ?_)]
  · rfl
  · have e : l[m] = l.getD m default := by rw [List.getD_eq_getElem?_getD, List.getElem?_eq_getElem hm]; rfl
    rw [e, decide_eq_true_eq]
    rcases Nat.lt_or_ge m i with h4 | h4
    · have := h.lt m i h4 hi; omega
    · have : m = i := by omega
      subst this; exact h1
  · have e : l[i + 1] = l.getD (i + 1) default := by rw [List.getD_eq_getElem?_getD, List.getElem?_eq_getElem hk]; rfl
    rw [e, decide_eq_false_iff_not]
    have := h2 hk; omega
theorem after_bd {l : List Knot} (h : KOk l) {i : Nat} (hi : i < l.length) : ((l.getD i default).at_ < (afterK l i).at_ ∧ (afterK l i).at_ ≤ 86400000) ∧ (1 ≤ (afterK l i).time ∧ (afterK l i).time ≤ 3600000) := by
  unfold afterK
  by_cases h1 : i + 1 < l.length
  · rw [if_pos h1]
    have a := h.bd (i + 1) h1
    have b := h.up i h1
    omega
  · rw [if_neg h1]
    have a := h.bd i hi
    have b := h.bd 0 h.pos
    simp only [dayMs]
    omega
theorem time_one {l : List Knot} (h : l.length = 1) (hk : KOk l) (at_ : Int) : timeI l at_ = (l.getD 0 default).time := by
  have hs : segI l (at_ % dayMs) = 0 := seg_of hk (by omega) (by
    rw [hk.first]
    have := Int.emod_nonneg at_ (show dayMs ≠ 0 by decide)
    omega) (fun h1 => by omega)
  unfold timeI
  rw [hs]
  have e : afterK l 0 = ⟨dayMs, (l.getD 0 default).time⟩ := by unfold afterK; rw [if_neg (by omega)]
  rw [e]
  unfold lineI
  rw [hk.first]
  simp only [Int.sub_zero]
  rw [← Int.mul_add, show dayMs - at_ % dayMs + at_ % dayMs = dayMs by omega]
  exact Int.mul_ediv_cancel _ (by decide)
end Go.Proofs.YtifkbfidihfghaaGreatDoor
/- Plain: zones, what is wrong with them; the zone of a node; the zones to which nodes come. -/
namespace Go.Proofs.YtifkbfidihfghaaGreatDoor

structure Zone where
  key : ByteArray
  a : Option Addr
  cap : Nat
  nodes : List ByteArray
instance : Inhabited Zone := ⟨⟨default, none, 0, []⟩⟩
end Go.Proofs.YtifkbfidihfghaaGreatDoor
/- Plain: arcs and bans checked. -/
namespace Go.Proofs.YtifkbfidihfghaaGreatDoor

structure Arc where
  key : ByteArray
  from_ : ByteArray
  to_ : ByteArray
  long : Int
  ka : Option Addr
  kc : Nat
  knots : List Knot
instance : Inhabited Arc := ⟨⟨default, default, default, 0, none, 0, []⟩⟩
structure Ban where
  from_ : ByteArray
  to_ : ByteArray
instance : Inhabited Ban := ⟨⟨default, default⟩⟩
section
variable {α : Type}
/-- The first place at which something is so. -/
def idxP (p : α → Bool) : List α → Nat → Int
  | [], _ => -1
  | n :: l, i => if p n then (i : Int) else idxP p l (i + 1)
def findI (p : α → Bool) (l : List α) : Int := idxP p l 0
theorem idxP_at [Inhabited α] (p : α → Bool) : ∀ (l : List α) (j k : Nat), k < l.length → p (l.getD k default) = true → (∀ i, i < k → p (l.getD i default) = false) → idxP p l j = ((j + k : Nat) : Int)
  | [], _, k, hk, _, _ => absurd hk (by simp)
  | n :: l, j, 0, _, h, _ => by
    have h' : p n = true := h
    simp [idxP, h']
  | n :: l, j, k + 1, hk, h, hlo => by
    have h0 : p n = false := hlo 0 (by omega)
    rw [idxP, h0, if_neg (by simp), idxP_at p l (j + 1) k (by simpa using hk) h (fun i hi => hlo (i + 1) (by omega))]
    omega
theorem idxP_no [Inhabited α] (p : α → Bool) : ∀ (l : List α) (j : Nat), (∀ k, k < l.length → p (l.getD k default) = false) → idxP p l j = -1
  | [], _, _ => rfl
  | n :: l, j, h => by
    have h0 : p n = false := h 0 (by simp)
    rw [idxP, h0, if_neg (by simp)]
    exact idxP_no p l (j + 1) (fun k hk => h (k + 1) (by simpa using hk))
end

def nodeI (l : List Node) (s : ByteArray) : Int := findI (fun n => decide (n.key = s)) l
/-- Sorted by key. -/
def SortN (l : List Node) : Prop := l.Pairwise fun a b => ltS a.key b.key
end Go.Proofs.YtifkbfidihfghaaGreatDoor
