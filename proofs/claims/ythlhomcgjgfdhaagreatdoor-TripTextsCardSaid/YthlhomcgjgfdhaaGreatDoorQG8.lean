/- Sorted keys: the program's check and the reference's. -/
import Derived.Test.YthlhomcgjgfdhaaGreatDoorQKey
import Derived.Test.YthlhomcgjgfdhaaGreatDoorQG3
import Derived.Test.YthlhomcgjgfdhaaGreatDoorQG0
import Derived.Test.YthlhomcgjgfdhaaGreatDoorQNumW
import Derived.Deep.DeepCutAuto
import Derived.Lib.Bytealg
import Derived.Sort.LotA
import Derived.Shelf.SlSortCmp.Insertion
import Derived.Lib.SlicesCompact
import Derived.Lib.Strings
import Derived.Test.YthlhomcgjgfdhaaGreatDoorQShelfZ
import Derived.Shelf.Spec.SearchS
import Derived.Shelf.Slices.Turned
import Derived.Maps.Own
import Derived.Maps.OwnOps
import Derived.Maps.Views
import Derived.Maps.RangeWalk
import Derived.Orders
import Derived.KernelRfl
namespace Go.Proofs.YthlhomcgjgfdhaaGreatDoor
open Go.RowKit

def Small (l : List ByteArray) : Prop := ∀ s ∈ l, s.size ≤ 1000000
theorem Small.at {l : List ByteArray} (h : Small l) (k : Nat) (hk : k < l.length) : l[k].size ≤ 1000000 := h _ (List.getElem_mem hk)

end Go.Proofs.YthlhomcgjgfdhaaGreatDoor
/- slices.ContainsFunc over numbers and dues, slices.EqualFunc of keys and dues: each for every function value that answers plainly. -/
namespace Go.Proofs.YthlhomcgjgfdhaaGreatDoor
open Go.RowKit

def Enters (g : Nat) : Prop := ∀ args w, (callFunc g args).run Tryz.prog w = .ok (.enter g args) w

theorem eqS_iff (s t : ByteArray) : (s.toList == t.toList) = decide (s = t) := by
  rw [Bool.eq_iff_iff, beq_iff_eq, decide_eq_true_eq, Lib.toList_data, Lib.toList_data]
  constructor
  · intro h
    rcases s with ⟨⟨s⟩⟩
    rcases t with ⟨⟨t⟩⟩
    simp at h
    rw [h]
  · rintro rfl; rfl

end Go.Proofs.YthlhomcgjgfdhaaGreatDoor
/- Cells behind calls that make memory alone. Of no program. -/
namespace Go.Proofs.YthlhomcgjgfdhaaGreatDoor
open Go.RowKit

theorem nx_cell {w w' : World} {b o : Nat} {v : Value} (hn : Nx w w') (hb : b < w.heap.size) (h : w.cell? ⟨b, o, none⟩ = some v) : w'.cell? ⟨b, o, none⟩ = some v := (Below.cell hn (p := ⟨b, _, none⟩) hb).trans h
end Go.Proofs.YthlhomcgjgfdhaaGreatDoor
/- strings.Split; base.Words, base.Lines, base.Each. -/
namespace Go.Proofs.YthlhomcgjgfdhaaGreatDoor
open Go.RowKit

/-- internal/bytealg.MaxLen holds some int. -/
def MaxI (w : World) : Prop := ∃ m : Int, w.cell? ⟨Tryz.splitStr_ren.g 1, 0, none⟩ = some (.int .i64 m)
theorem MaxI.nx {w w' : World} (h : MaxI w) (hn : Nx w w') : MaxI w' := by
  obtain ⟨m, hm⟩ := h
  exact ⟨m, nx_cell hn (World.block_lt_of_cell? _ _ hm) hm⟩
theorem MaxI.gr {s : Nat} {w w' : World} (h : MaxI w) (hn : Gr s w w') (hs : w.heap.size ≤ s) : MaxI w' := h.nx (Nx.of_gr hn hs)
def dataL (l : List ByteArray) : List (List UInt8) := l.map (fun s => s.data.toList)
theorem dataL_len (l : List ByteArray) : (dataL l).length = l.length := by simp [dataL]
theorem piece_le (c : UInt8) : ∀ (ws : List (List UInt8)), ∀ w ∈ ws, w.length ≤ (joinC c ws).length
  | [], w, h => by cases h
  | [v], w, h => by rw [List.mem_singleton.1 h]; exact Nat.le_refl _
  | v :: u :: ws, w, h => by
    show w.length ≤ (v ++ c :: joinC c (u :: ws)).length
    rw [List.length_append, List.length_cons]
    rcases List.mem_cons.1 h with rfl | h
    · omega
    · have := piece_le c (u :: ws) w h
      omega
theorem split_count (c : UInt8) : ∀ (n : Nat) (s : List UInt8), s.length ≤ n → (Lib.split s [c]).length ≤ s.length + 1 := by
  intro n
  induction n with
  | zero =>
    intro s hs
    have : s = [] := List.eq_nil_of_length_eq_zero (by omega)
    subst this
    rw [split_no (by simp)]; simp
  | succ n ih =>
    intro s hs
    by_cases h : c ∈ s
    · obtain ⟨a, r, rfl, ha⟩ := List.eq_append_cons_of_mem h
      rw [split_at ha]
      have := ih r (by simp at hs; omega)
      simp; omega
    · rw [split_no h]; simp
theorem w_Split (s : ByteArray) (c : UInt8) (hs : s.size ≤ 1000000) (w : World) (hM : MaxI w) :
    Calls Tryz.prog 70 #[.string s, .string ⟨#[c]⟩] w fun e w' => ∃ (ws : List ByteArray) (B : Option Addr), dataL ws = Lib.split s.data.toList [c] ∧ e = .returned (.slice B ws.length ws.length) ∧ Rd w' w.heap.size B 1 encS ws ∧ ws.length ≤ s.size + 1 ∧ (∀ x ∈ ws, x.size ≤ s.size) ∧ Nx w w' := by
  obtain ⟨m, hm⟩ := hM
  have hcon := Any.strings_Split Tryz.splitStr (by kernel_rfl) s ⟨#[c]⟩ m w (by omega) hm (Nat.le_refl 1)
  change Calls Tryz.prog 70 _ _ _ at hcon
  refine hcon.mono ?_
  rintro e w' ⟨rfl, rfl⟩
  obtain ⟨ws, hws⟩ : ∃ ws, ws = Lib.splitB ⟨#[c]⟩ 0 (Lib.countB s ⟨#[c]⟩) s := ⟨_, rfl⟩
  have hd : dataL ws = Lib.split s.data.toList [c] := by
    rw [hws]
    unfold dataL
    rw [Lib.splitB_data]
    rfl
  have hl : ws.length = Lib.countB s ⟨#[c]⟩ + 1 := by rw [hws]; exact Lib.splitB_all ⟨#[c]⟩ (Nat.le_refl 1) 0 _ s rfl
  have hle : ws.length ≤ s.size + 1 := by
    rw [← dataL_len, hd, ← len_data s]; exact split_count c _ _ (Nat.le_refl _)
  rw [← hws, ← hl]
  refine ⟨ws, _, hd, rfl, ?_, hle, fun x hx => ?_, (Nx.refl w).alloc _⟩
  · refine Rd.lit (hnew rfl) (Nat.le_refl _) (fun _ => rfl) ?_
    have e : ∀ l : List ByteArray, l.map Value.string = l.flatMap encS := fun l => by
      induction l with
      | nil => rfl
      | cons x l ih => rw [List.map_cons, List.flatMap_cons, ih]; rfl
    simpa using e ws
  · have h1 := (join_split c _ s.data.toList (Nat.le_refl _)).1
    have h2 := piece_le c (Lib.split s.data.toList [c]) x.data.toList (by rw [← hd]; exact List.mem_map.2 ⟨x, hx, rfl⟩)
    rw [h1, len_data, len_data] at h2
    exact h2

/-- base.Words of a string. -/
def WordsR (many : Nat) (s : ByteArray) (w : World) (e : Ending) (w' : World) : Prop :=
  ((wordsL many s.data.toList = none ∧ e = .returned (.tuple #[.slice none 0 0, .bool false])) ∨ ∃ (ws : List ByteArray) (B : Option Addr), wordsL many s.data.toList = some (dataL ws) ∧ ws.length = many ∧ e = .returned (.tuple #[.slice B many many, .bool true]) ∧ Rd w' w.heap.size B 1 encS ws ∧ (∀ x ∈ ws, x.size ≤ s.size)) ∧ Nx w w'
set_option maxRecDepth 100000 in
set_option maxHeartbeats 2000000 in
theorem w_Words (s : ByteArray) (many : Nat) (hm : many ≤ 1000) (hs : s.size ≤ 1000000) (w : World) (hM : MaxI w) :
    Calls Tryz.prog 65 #[.string s, .int .i64 (many : Int)] w (WordsR many s w) := by
  have HSP := hide (w_Split s 32 hs w hM)
  clear hM
  go_enter Tryz.func65, Tryz.ntmps65
  go_upto_region 2 with (go_at_call 70; refine HSP.out.mono ?_; rintro e w1 ⟨ws, B, hd, rfl, hR, hle, hsz, hn1⟩)
  have HD := hide (show wordsL many s.data.toList = if ws.length = many ∧ [] ∉ dataL ws then some (dataL ws) else none by
    unfold wordsL
    simp only [← hd, dataL_len])
  obtain ⟨n, hn⟩ : ∃ n, n = ws.length := ⟨_, rfl⟩
  rw [← hn] at hle HD ⊢
  have HN := hide hn
  have HR := hide hR
  have HN1 := hide hn1
  have HSZ := hide hsz
  clear hd hR hn1 hn hsz HSP
  by_cases hnm : n = many
  · have t1 : ((n : Int) != (many : Int)) = false := by rw [hnm]; simp
    have HNM := hide hnm
    have hn6 : n ≤ 1000 := by omega
    clear hnm
    go_upto_region 5 with fail
    go_loopw [8, 17] (fun _ i wr => ∃ j : Nat, j ≤ n ∧ i = .int .i64 j ∧ (∀ x ∈ ws.take j, x.data.toList ≠ []) ∧ w1 = wr) (fun _ i _ => n - (intOf i).toNat)
    case atStart => exact ⟨0, Nat.zero_le _, rfl, by simp, rfl⟩
    case round =>
      obtain ⟨j, hj, rfl, hq, rfl⟩ := hrel
      have HQ := hide hq
      clear hq
      by_cases hlt : j < n
      · have hjl : j < ws.length := by have := HN.out; omega
        obtain ⟨b, off, rfl, _, hb, hbr, hc⟩ := HR.out.open_ (Nx.refl w1) (by omega)
        have c0 : w1.cell? ⟨b, off + j, none⟩ = some (.string ws[j]) := by have h := hc j hjl 0 _ rfl; simpa using h
        have HTK := hide (show ws.take (j + 1) = ws.take j ++ [ws[j]] from List.take_succ_eq_append_getElem hjl)
        have HME := hide (show ws[j] ∈ ws from List.getElem_mem hjl)
        generalize ws[j] = x at *
        have i1 : (0 : Int) ≤ (j : Int) := by omega
        have i2 : (j : Int) < (n : Int) := by omega
        clear hc
        by_cases hx : x.data.toList = []
        · have te : x.toList = [] := by rw [Lib.toList_data]; exact hx
          have teb : x.toList.isEmpty = true := by rw [te]; rfl
          have HF := hide (show wordsL many s.data.toList = none by
            rw [HD.out, if_neg]
            rintro ⟨_, h⟩
            exact h (hx ▸ List.mem_map.2 ⟨x, HME.out, rfl⟩))
          clear hx
          go_wp2_with fail
          go_ret2
          exact ⟨.inl ⟨HF.out, rfl⟩, HN1.out⟩
        · have te : ¬ x.toList = [] := by rw [Lib.toList_data]; exact hx
          have teb : x.toList.isEmpty = false := by
            cases h : x.toList with
            | nil => exact absurd h te
            | cons _ _ => rfl
          have HX := hide hx
          clear hx
          go_wp2_with fail
          go_roundw
          case rel => exact ⟨j + 1, by omega, by go_num, (fun y hy => by
            rw [HTK.out] at hy
            rcases List.mem_append.1 hy with hy | hy
            · exact HQ.out y hy
            · rw [List.mem_singleton.1 hy]; exact HX.out), trivial⟩
          case measure => simp [intOf]; omega
      · have HF := hide (show wordsL many s.data.toList = some (dataL ws) by
          rw [HD.out, if_pos]
          refine ⟨HNM.out, fun h => ?_⟩
          obtain ⟨x, hx, he⟩ := List.mem_map.1 h
          refine HQ.out x ?_ he
          rw [List.take_of_length_le (by have := HN.out; omega)]; exact hx)
        go_wp2_with fail
        go_ret2
        exact ⟨.inr ⟨ws, B, HF.out, by have := HN.out; have := HNM.out; omega, by rw [← HNM.out]; rfl, HR.out, HSZ.out⟩, HN1.out⟩
  · have t1 : ((n : Int) != (many : Int)) = true := by simp; omega
    have HF := hide (show wordsL many s.data.toList = none by rw [HD.out, if_neg (fun h => hnm h.1)])
    clear hnm
    go_wp2_with fail
    go_ret2
    exact ⟨.inl ⟨HF.out, rfl⟩, HN1.out⟩
end Go.Proofs.YthlhomcgjgfdhaaGreatDoor
/- Plain: the order of strings by their bytes. -/
namespace Go.Proofs.YthlhomcgjgfdhaaGreatDoor
open Go.Proofs

def ltS (a b : ByteArray) : Prop := a.data.toList < b.data.toList
theorem ltS_trans {a b c : ByteArray} (h : ltS a b) (h' : ltS b c) : ltS a c := List.lt_trans h h'
theorem ltS_irrefl (a : ByteArray) : ¬ ltS a a := List.lt_irrefl _
end Go.Proofs.YthlhomcgjgfdhaaGreatDoor
/- Plain: sums by key; the list of them that is sorted by key; legs split by keys. -/
namespace Go.Proofs.YthlhomcgjgfdhaaGreatDoor
open Go.Sort Go.Proofs Go.Shelf

/-- ys: the sums by key that are there and are not shut out by 'zero', sorted by key. -/
def DuesOf (f : ByteArray → Option Int) (zero : Bool) (ys : List Due) : Prop :=
  ys.Pairwise (fun a b => ltS a.key b.key) ∧ ∀ d : Due, d ∈ ys ↔ f d.key = some d.cents ∧ (d.cents ≠ 0 ∨ zero = true)
theorem sorted_eq : ∀ {xs ys : List Due}, xs.Pairwise (fun a b => ltS a.key b.key) → ys.Pairwise (fun a b => ltS a.key b.key) → (∀ d, d ∈ xs ↔ d ∈ ys) → xs = ys
  | [], [], _, _, _ => rfl
  | [], y :: ys, _, _, h => by have := (h y).2 (by simp); cases this
  | x :: xs, [], _, _, h => by have := (h x).1 (by simp); cases this
  | x :: xs, y :: ys, h1, h2, h => by
    rw [List.pairwise_cons] at h1 h2
    have e : x = y := by
      rcases List.mem_cons.1 ((h x).1 (by simp)) with e | hx
      · exact e
      · rcases List.mem_cons.1 ((h y).2 (by simp)) with e | hy
        · exact e.symm
        · exact absurd (ltS_trans (h1.1 y hy) (h2.1 x hx)) (ltS_irrefl _)
    subst e
    congr 1
    refine sorted_eq h1.2 h2.2 fun d => ?_
    have hd := h d
    simp only [List.mem_cons] at hd
    constructor
    · intro hx
      rcases hd.1 (.inr hx) with e | h3
      · subst e; exact absurd (h1.1 d hx) (ltS_irrefl _)
      · exact h3
    · intro hy
      rcases hd.2 (.inr hy) with e | h3
      · subst e; exact absurd (h2.1 d hy) (ltS_irrefl _)
      · exact h3
theorem DuesOf.unique {f : ByteArray → Option Int} {zero : Bool} {xs ys : List Due} (h : DuesOf f zero xs) (h' : DuesOf f zero ys) : xs = ys :=
  sorted_eq h.1 h'.1 fun d => (h.2 d).trans (h'.2 d).symm

/-- v more at key k. -/
def addK (f : ByteArray → Option Int) (k : ByteArray) (v : Int) : ByteArray → Option Int := fun k' => if k' = k then some ((f k).getD 0 + v) else f k'
/-- Nothing is below 0, nor above B. -/
def BndK (f : ByteArray → Option Int) (B : Int) : Prop := ∀ k, 0 ≤ (f k).getD 0 ∧ (f k).getD 0 ≤ B
theorem BndK.add {f : ByteArray → Option Int} {B v V : Int} (h : BndK f B) (k : ByteArray) (h0 : 0 ≤ v) (h1 : v ≤ V) : BndK (addK f k v) (B + V) := by
  intro k'
  unfold addK
  have h2 := h k
  by_cases e : k' = k
  · subst e; simp; omega
  · have := h k'
    simp [e]; omega
end Go.Proofs.YthlhomcgjgfdhaaGreatDoor
/- Plain: zones, what is wrong with them; the zone of a node; the zones to which nodes come. -/
namespace Go.Proofs.YthlhomcgjgfdhaaGreatDoor

structure Zone where
  key : ByteArray
  a : Option Addr
  cap : Nat
  nodes : List ByteArray
instance : Inhabited Zone := ⟨⟨default, none, 0, []⟩⟩
def encZone (z : Zone) : List Value := [.string z.key, .slice z.a z.nodes.length z.cap]
def memB (l : List ByteArray) (s : ByteArray) : Bool := l.any (fun x => decide (x = s))
theorem memB_iff {l : List ByteArray} {s : ByteArray} : memB l s = true ↔ s ∈ l := by
  unfold memB
  rw [List.any_eq_true]
  constructor
  · rintro ⟨x, hx, h⟩
    rw [decide_eq_true_eq] at h; subst h; exact hx
  · intro h
    exact ⟨s, h, by simp⟩
def namesF (l : List ByteArray) (most : Nat) : Int := if most < l.length then 2 else if l.all keyB then 0 else 5
end Go.Proofs.YthlhomcgjgfdhaaGreatDoor
/- Plain: prices and trips, what is wrong with them; what a trip costs. -/
namespace Go.Proofs.YthlhomcgjgfdhaaGreatDoor

structure Price where
  key : ByteArray
  base : Int
  metre : Int
  minute : Int
  cross : Int
  from_ : Int
  to_ : Int
  peak : Int
  least : Int
  most : Int
instance : Inhabited Price := ⟨⟨default, 0, 0, 0, 0, 0, 0, 0, 0, 0⟩⟩
def encP (p : Price) : List Value := [.string p.key, .int .i64 p.base, .int .i64 p.metre, .int .i64 p.minute, .int .i64 p.cross, .int .i64 p.from_, .int .i64 p.to_, .int .i64 p.peak, .int .i64 p.least, .int .i64 p.most]
structure Jour where
  ride : ByteArray
  rider : ByteArray
  a : Option Addr
  cap : Nat
  nodes : List ByteArray
  metres : Int
  from_ : Int
  to_ : Int
instance : Inhabited Jour := ⟨⟨default, default, none, 0, [], 0, 0, 0⟩⟩
def encJ (t : Jour) : List Value := [.string t.ride, .string t.rider, .slice t.a t.nodes.length t.cap, .int .i64 t.metres, .int .i64 t.from_, .int .i64 t.to_]
def timeJ (t : Jour) : Bool := outB t.metres 0 100000000 || outB t.from_ 0 t.to_ || decide (345686399999 < t.to_)
def afterJ (q : Option Jour) (t : Jour) : Bool := match q with | some q => strLe t.ride q.ride | none => false
/-- A trip behind another one. -/
def jourE (q : Option Jour) (t : Jour) : Int :=
  if keyB t.ride && keyB t.rider then
    (if afterJ q t then 7 else
      if t.nodes.length = 0 then 8 else if namesF t.nodes 2000 = 0 then (if timeJ t then 1 else 0) else namesF t.nodes 2000)
  else 5
def joursF (ts : List Jour) : Int := if 1000 < ts.length then 2 else chk jourE none ts

end Go.Proofs.YthlhomcgjgfdhaaGreatDoor
/- Plain: bounds of what a trip costs; the cheapest price. -/
namespace Go.Proofs.YthlhomcgjgfdhaaGreatDoor

structure JourOk (t : Jour) : Prop where
  len : 0 < t.nodes.length ∧ t.nodes.length ≤ 2000
  metres : 0 ≤ t.metres ∧ t.metres ≤ 100000000
  time : 0 ≤ t.from_ ∧ t.from_ ≤ t.to_ ∧ t.to_ ≤ 345686399999
theorem outB_no {n lo hi : Int} (h : outB n lo hi = false) : lo ≤ n ∧ n ≤ hi := by
  unfold outB at h; simp at h; omega
theorem chk_allq {α : Type} {f : Option α → α → Int} : ∀ {p : Option α} {l : List α}, chk f p l = 0 → ∀ x ∈ l, ∃ q, f q x = 0
  | _, [], _, x, hx => by cases hx
  | p, y :: l, h, x, hx => by
    unfold chk at h
    by_cases hy : f p y = 0
    · rw [if_pos hy] at h
      rcases List.mem_cons.1 hx with rfl | hx
      · exact ⟨p, hy⟩
      · exact chk_allq h x hx
    · rw [if_neg hy] at h; exact absurd h hy
theorem jourE_ok {q : Option Jour} {t : Jour} (h : jourE q t = 0) : JourOk t := by
  unfold jourE at h
  cases hk : (keyB t.ride && keyB t.rider) with
  | false => simp [hk] at h
  | true =>
    rw [hk, if_pos rfl] at h
    cases ha : afterJ q t with
    | true => simp [ha] at h
    | false =>
      simp only [ha, Bool.false_eq_true, if_false] at h
      by_cases h0 : t.nodes.length = 0
      · rw [if_pos h0] at h; exact absurd h (by decide)
      rw [if_neg h0] at h
      by_cases hn : namesF t.nodes 2000 = 0
      · rw [if_pos hn] at h
        cases ht : timeJ t with
        | true => simp [ht] at h
        | false =>
          unfold timeJ at ht
          simp only [Bool.or_eq_false_iff, decide_eq_false_iff_not] at ht
          have e1 := outB_no ht.1.1
          have e2 := outB_no ht.1.2
          have hl : t.nodes.length ≤ 2000 := by
            unfold namesF at hn
            split at hn
            · exact absurd hn (by decide)
            · omega
          exact ⟨⟨by omega, hl⟩, e1, ⟨e2.1, e2.2, by omega⟩⟩
      · rw [if_neg hn] at h; exact absurd h hn
theorem joursF_ok {ts : List Jour} (h : joursF ts = 0) : ∀ t ∈ ts, JourOk t := fun t ht => by
  unfold joursF at h
  split at h
  · exact absurd h (by decide)
  · obtain ⟨q, hq⟩ := chk_allq h t ht
    exact jourE_ok hq
end Go.Proofs.YthlhomcgjgfdhaaGreatDoor
/- Plain: trips as text. -/
namespace Go.Proofs.YthlhomcgjgfdhaaGreatDoor
open Go.Lib

/-- A trip, wherever its nodes lie. -/
structure TripC where
  ride : List UInt8
  rider : List UInt8
  nodes : List (List UInt8)
  metres : Int
  from_ : Int
  to_ : Int
def coreJ (x : Jour) : TripC := ⟨x.ride.data.toList, x.rider.data.toList, x.nodes.map (fun s => s.data.toList), x.metres, x.from_, x.to_⟩
def tripW (t : TripC) : List (List UInt8) := [t.ride, t.rider, itoa t.metres, itoa t.from_, itoa t.to_, joinC 44 t.nodes]
def tripLine (t : TripC) : List UInt8 := joinC 32 (tripW t)
def tripText (L : List TripC) : List UInt8 := textL (L.map tripLine)
/-- A line that is read. -/
def readJ (s : List UInt8) : Option TripC := match wordsL 6 s with
  | some [a, b, c, d, e, f] => match numsL 12 [c, d, e] with
    | some [m, x, y] => if [] ∈ split f [44] then none else some ⟨a, b, split f [44], m, x, y⟩
    | _ => none
  | _ => none
/-- A name without a blank, a comma, a line feed. -/
def Plain (s : List UInt8) : Prop := s ≠ [] ∧ 10 ∉ s ∧ 32 ∉ s ∧ 44 ∉ s
structure GoodC (t : TripC) : Prop where
  ride : Plain t.ride
  rider : Plain t.rider
  some : t.nodes ≠ []
  nodes : ∀ s ∈ t.nodes, Plain s
  digs : ∀ n ∈ [t.metres, t.from_, t.to_], nDigits n.natAbs ≤ 12
theorem readJ_inv {s : List UInt8} {t : TripC} (h : readJ s = some t) : tripLine t = s := by
  unfold readJ at h
  cases h1 : wordsL 6 s with
  | none => rw [h1] at h; cases h
  | some ws =>
    rw [h1] at h
    obtain ⟨w1, w2⟩ := wordsL_inv h1
    match ws, w2 with
    | [a, b, c, d, e, f], _ =>
      simp only at h
      cases h2 : numsL 12 [c, d, e] with
      | none => rw [h2] at h; cases h
      | some ns =>
        rw [h2] at h
        obtain ⟨n1, n2⟩ := numsL_inv h2
        have hl : ns.length = 3 := by have := congrArg List.length n1; simpa using this
        match ns, hl with
        | [m, x, y], _ =>
          simp only at h
          split at h
          · cases h
          · simp only [Option.some.injEq] at h
            subst h
            simp only [List.map_cons, List.map_nil, List.cons.injEq, and_true] at n1
            obtain ⟨rfl, rfl, rfl⟩ := n1
            rw [← w1]
            unfold tripLine tripW
            simp only
            rw [(join_split 44 _ f (Nat.le_refl _)).1]
theorem trip_take (L : List TripC) (k : Nat) (hk : k < L.length) : tripText (L.take (k + 1)) = tripText (L.take k) ++ (tripLine L[k] ++ [10]) := by
  unfold tripText textL
  rw [List.take_succ_eq_append_getElem hk, List.map_append, List.flatMap_append]; simp
theorem trip_drop (L : List TripC) (k : Nat) : (tripText (L.take k)).length ≤ (tripText L).length := by
  have h : tripText L = tripText (L.take k) ++ tripText (L.drop k) := by
    unfold tripText textL
    rw [← List.flatMap_append, ← List.map_append, List.take_append_drop]
  rw [h, List.length_append]; omega
theorem keyC_not {c : UInt8} (h : keyC c = true) : c ≠ 10 ∧ c ≠ 32 ∧ c ≠ 44 := by
  refine ⟨?_, ?_, ?_⟩ <;> (rintro rfl; exact absurd h (by decide))
theorem key_plain {s : ByteArray} (h : keyB s = true) : Plain s.data.toList ∧ s.size ≤ 40 := by
  unfold keyB at h
  have e : s.data.toList.length = s.size := by simp
  rw [← e]
  cases hs : s.data.toList with
  | nil => rw [hs] at h; cases h
  | cons c l =>
    rw [hs] at h
    unfold keyL at h
    simp only [Bool.and_eq_true, decide_eq_true_eq] at h
    have ha := List.all_eq_true.1 h.2
    exact ⟨⟨by simp, fun hc => (keyC_not (ha _ hc)).1 rfl, fun hc => (keyC_not (ha _ hc)).2.1 rfl, fun hc => (keyC_not (ha _ hc)).2.2 rfl⟩, h.1.1⟩
theorem nDigits_lt : ∀ (k u : Nat), 1 ≤ k → u < 10 ^ k → nDigits u ≤ k := by
  intro k
  induction k with
  | zero => intro u h; omega
  | succ k ih =>
    intro u _ hu
    by_cases h : u < 10
    · rw [nDigits_small h]; omega
    · rw [nDigits_big h]
      rw [Nat.pow_succ] at hu
      have hk : 1 ≤ k := by
        rcases Nat.eq_zero_or_pos k with h0 | h0
        · subst h0; simp at hu; omega
        · exact h0
      have := ih (u / 10) hk (by omega)
      omega
theorem digs12 {n : Int} (h0 : 0 ≤ n) (h1 : n ≤ 345686399999) : nDigits n.natAbs ≤ 12 := nDigits_lt 12 _ (by decide) (by omega)
structure KeysJ (t : Jour) : Prop where
  ride : keyB t.ride = true
  rider : keyB t.rider = true
  nodes : ∀ s ∈ t.nodes, keyB s = true
theorem jourE_keys {q : Option Jour} {t : Jour} (h : jourE q t = 0) : KeysJ t := by
  unfold jourE at h
  cases hk : (keyB t.ride && keyB t.rider) with
  | false => simp [hk] at h
  | true =>
    have hk2 := hk
    rw [Bool.and_eq_true] at hk2
    rw [hk, if_pos rfl] at h
    cases ha : afterJ q t with
    | true => simp [ha] at h
    | false =>
      simp only [ha, Bool.false_eq_true, if_false] at h
      by_cases h0 : t.nodes.length = 0
      · rw [if_pos h0] at h; exact absurd h (by decide)
      rw [if_neg h0] at h
      by_cases hn : namesF t.nodes 2000 = 0
      · refine ⟨hk2.1, hk2.2, ?_⟩
        unfold namesF at hn
        split at hn
        · exact absurd hn (by decide)
        · split at hn
          · rename_i h2; exact fun s hs => List.all_eq_true.1 h2 s hs
          · exact absurd hn (by decide)
      · rw [if_neg hn] at h; exact absurd h hn
theorem joursF_keys {ts : List Jour} (h : joursF ts = 0) : ∀ t ∈ ts, KeysJ t := fun t ht => by
  unfold joursF at h
  split at h
  · exact absurd h (by decide)
  · obtain ⟨q, hq⟩ := chk_allq h t ht
    exact jourE_keys hq
theorem joursF_good {ts : List Jour} (h : joursF ts = 0) : ∀ t ∈ ts, GoodC (coreJ t) := fun t ht => by
  have h1 := joursF_ok h t ht
  have h2 := joursF_keys h t ht
  refine ⟨(key_plain h2.ride).1, (key_plain h2.rider).1, ?_, ?_, ?_⟩
  · intro hc
    have e : (coreJ t).nodes.length = t.nodes.length := by simp [coreJ]
    rw [hc] at e
    have := h1.len.1
    simp at e; omega
  · intro s hs
    obtain ⟨u, hu, rfl⟩ := List.mem_map.1 hs
    exact (key_plain (h2.nodes u hu)).1
  · intro n hn
    have hm := h1.metres
    have ht := h1.time
    simp only [coreJ, List.mem_cons, List.not_mem_nil, or_false] at hn
    rcases hn with rfl | rfl | rfl
    · exact digs12 hm.1 (by omega)
    · exact digs12 ht.1 (by omega)
    · exact digs12 (by omega) (by omega)
/-- Trips of one core have one fault. -/
theorem ba_eq {a b : ByteArray} (h : a.data.toList = b.data.toList) : a = b := by
  cases a; cases b; simpa using h
theorem bas_eq : ∀ {l m : List ByteArray}, l.map (fun s => s.data.toList) = m.map (fun s => s.data.toList) → l = m
  | [], [], _ => rfl
  | [], _ :: _, h => by cases h
  | _ :: _, [], h => by cases h
  | a :: l, b :: m, h => by
    simp only [List.map_cons, List.cons.injEq] at h
    rw [ba_eq h.1, bas_eq h.2]
theorem coreJ_eq {x y : Jour} (h : coreJ x = coreJ y) : x.ride = y.ride ∧ x.rider = y.rider ∧ x.nodes = y.nodes ∧ x.metres = y.metres ∧ x.from_ = y.from_ ∧ x.to_ = y.to_ := by
  unfold coreJ at h
  injection h with h1 h2 h3 h4 h5 h6
  exact ⟨ba_eq h1, ba_eq h2, bas_eq h3, h4, h5, h6⟩
theorem jourE_core {q r : Option Jour} {x y : Jour} (hq : q.map coreJ = r.map coreJ) (h : coreJ x = coreJ y) : jourE q x = jourE r y := by
  obtain ⟨h1, h2, h3, h4, h5, h6⟩ := coreJ_eq h
  have ha : afterJ q x = afterJ r y := by
    cases q with
    | none => cases r with
      | none => rfl
      | some b => cases hq
    | some a => cases r with
      | none => cases hq
      | some b =>
        have hab : coreJ a = coreJ b := by simpa using hq
        show strLe x.ride a.ride = strLe y.ride b.ride
        rw [h1, (coreJ_eq hab).1]
  have ht : timeJ x = timeJ y := by unfold timeJ; rw [h4, h5, h6]
  unfold jourE
  rw [ha, ht, h1, h2, h3]
theorem joursF_core {ts us : List Jour} (h : ts.map coreJ = us.map coreJ) : joursF ts = joursF us := by
  have hl : ts.length = us.length := by have := congrArg List.length h; simpa using this
  unfold joursF
  rw [hl]
  congr 1
  have key : ∀ (l m : List Jour) (q r : Option Jour), q.map coreJ = r.map coreJ → l.map coreJ = m.map coreJ → chk jourE q l = chk jourE r m := by
    intro l
    induction l with
    | nil => intro m q r _ h; cases m with
      | nil => rfl
      | cons _ _ => cases h
    | cons x l ih => intro m q r hq h; cases m with
      | nil => cases h
      | cons y m =>
        simp only [List.map_cons, List.cons.injEq] at h
        unfold chk
        rw [jourE_core hq h.1, ih m (some x) (some y) (by simp [h.1]) h.2]
  exact key ts us none none rfl h
/-- How long a line is. -/
theorem line_size (x : Jour) : (tripLine (coreJ x)).length = x.ride.size + x.rider.size + (itoa x.metres).length + (itoa x.from_).length + (itoa x.to_).length + (joinC 44 (coreJ x).nodes).length + 5 := by
  have h1 : tripLine (coreJ x) = x.ride.data.toList ++ 32 :: (x.rider.data.toList ++ 32 :: (itoa x.metres ++ 32 :: (itoa x.from_ ++ 32 :: (itoa x.to_ ++ 32 :: joinC 44 (coreJ x).nodes)))) := rfl
  have e1 : x.ride.data.toList.length = x.ride.size := by simp
  have e2 : x.rider.data.toList.length = x.rider.size := by simp
  rw [h1]
  simp only [List.length_append, List.length_cons, e1, e2]
  omega
theorem joinC_len (k : UInt8) (b : Nat) : ∀ (ws : List (List UInt8)), (∀ w ∈ ws, w.length ≤ b) → (joinC k ws).length ≤ (b + 1) * ws.length
  | [], _ => by simp [joinC]
  | [w], h => by
    have := h w (by simp)
    show w.length ≤ _
    simp; omega
  | w :: v :: ws, h => by
    have h1 := h w (by simp)
    have h2 := joinC_len k b (v :: ws) (fun u hu => h u (List.mem_cons_of_mem _ hu))
    show (w ++ k :: joinC k (v :: ws)).length ≤ _
    rw [List.length_append, List.length_cons]
    rw [List.length_cons (a := w), Nat.mul_add]
    omega
theorem itoa12 {n : Int} (h : nDigits n.natAbs ≤ 12) : (itoa n).length ≤ 13 := by
  unfold itoa
  by_cases hn : n < 0
  · rw [if_pos hn, List.length_cons, decDigits_length]; omega
  · rw [if_neg hn, decDigits_length, show n.toNat = n.natAbs by omega]; omega
/-- A right trip of few nodes is short. -/
theorem line_few {ts : List Jour} (h : joursF ts = 0) {x : Jour} (hx : x ∈ ts) (hn : x.nodes.length ≤ 4) : (tripLine (coreJ x)).length ≤ 300 := by
  have hk := joursF_keys h x hx
  have hg := joursF_good h x hx
  have k1 := (key_plain hk.ride).2
  have k2 := (key_plain hk.rider).2
  have i1 := itoa12 (hg.digs x.metres (by simp [coreJ]))
  have i2 := itoa12 (hg.digs x.from_ (by simp [coreJ]))
  have i3 := itoa12 (hg.digs x.to_ (by simp [coreJ]))
  have j := joinC_len 44 40 (coreJ x).nodes (fun w hw => by
    obtain ⟨u, hu, rfl⟩ := List.mem_map.1 hw
    have := (key_plain (hk.nodes u hu)).2
    simpa using this)
  have e : (coreJ x).nodes.length = x.nodes.length := by simp [coreJ]
  rw [e] at j
  rw [line_size]
  omega
theorem text_few {ts : List Jour} (h : joursF ts = 0) (hn : ∀ x ∈ ts, x.nodes.length ≤ 4) : (tripText (ts.map coreJ)).length ≤ 301 * ts.length := by
  have key : ∀ l : List Jour, (∀ x ∈ l, x ∈ ts) → (tripText (l.map coreJ)).length ≤ 301 * l.length := by
    intro l
    induction l with
    | nil => intro _; simp [tripText, textL]
    | cons x l ih =>
      intro hl
      have e : tripText ((x :: l).map coreJ) = (tripLine (coreJ x) ++ [10]) ++ tripText (l.map coreJ) := rfl
      have h1 := line_few h (hl x (by simp)) (hn x (hl x (by simp)))
      have h2 := ih (fun y hy => hl y (List.mem_cons_of_mem _ hy))
      rw [e]
      simp only [List.length_append, List.length_cons, List.length_nil]
      omega
  exact key ts (fun _ h => h)
end Go.Proofs.YthlhomcgjgfdhaaGreatDoor
/- Strings in a list: by halving a sorted one, by looking at all. -/
namespace Go.Proofs.YthlhomcgjgfdhaaGreatDoor
open Go.RowKit Go.Proofs Go.Shelf

/-- Where x would stand in a sorted list. -/
theorem place (x : ByteArray) : ∀ l : List ByteArray, l.Pairwise ltS → ∃ k, k ≤ l.length ∧ (∀ t (h : t < l.length), t < k → ltS l[t] x) ∧ (∀ t (h : t < l.length), k ≤ t → ¬ ltS l[t] x)
  | [], _ => ⟨0, by simp, fun t h => absurd h (by simp), fun t h => absurd h (by simp)⟩
  | a :: l, hs => by
    rw [List.pairwise_cons] at hs
    obtain ⟨k, h1, h2, h3⟩ := place x l hs.2
    by_cases ha : ltS a x
    · refine ⟨k + 1, by simp; omega, fun t h ht => ?_, fun t h ht => ?_⟩
      · rcases t with _ | t
        · exact ha
        · exact h2 t (by simpa using h) (by omega)
      · rcases t with _ | t
        · omega
        · exact h3 t (by simpa using h) (by omega)
    · refine ⟨0, by simp, fun t h ht => by omega, fun t h ht hl => ?_⟩
      rcases t with _ | t
      · exact ha hl
      · have hm : l[t]'(by simpa using h) ∈ l := List.getElem_mem _
        exact ha (ltS_trans (hs.1 _ hm) hl)
theorem w_ContS (lo : Nat) (A : Option Addr) (c : Nat) (l : List ByteArray) (x : ByteArray) (w : World) (hR : Rd w lo A 1 encS l) (hl : l.length ≤ 65536) :
    Calls Tryz.prog 78 #[.slice A l.length c, .string x] w fun e w' => e = .returned (.bool (memB l x)) ∧ Nx w w' := by
  by_cases h0 : l.length = 0
  · have e : l = [] := List.eq_nil_of_length_eq_zero h0
    subst e
    have hcon := Any.slices_Contains_string_empty Tryz.containsStr A c x w
    change Calls Tryz.prog 78 _ _ _ at hcon
    exact hcon.mono fun _ _ ⟨h1, h2⟩ => ⟨h1, h2 ▸ Nx.refl _⟩
  · obtain ⟨b, off, rfl, _, hb, _, hc⟩ := hR.open_ (Nx.refl w) (by omega)
    have hcell : ∀ j, j < l.length → w.cell? ⟨b, off + j, none⟩ = some (.string (l.getD j ByteArray.empty)) := fun j hj => by
      have := hc j hj 0 _ rfl
      rw [List.getD_eq_getElem?_getD, List.getElem?_eq_getElem hj]
      simpa using this
    have hcon := Any.slices_Contains_string Tryz.containsStr b off l.length c l x w (Nat.le_refl _) (by omega) hcell
    change Calls Tryz.prog 78 _ _ _ at hcon
    have e : Lib.containsS (l.take l.length) x = memB l x := by
      rw [List.take_length, Bool.eq_iff_iff, Lib.containsS_iff, memB_iff]
    rw [e] at hcon
    exact hcon.mono fun _ _ ⟨h1, h2⟩ => ⟨h1, h2 ▸ Nx.refl _⟩
end Go.Proofs.YthlhomcgjgfdhaaGreatDoor
/- Plain: what is wrong with one price, with one trip, case by case; the cheapest price so far. -/
namespace Go.Proofs.YthlhomcgjgfdhaaGreatDoor

theorem jourE_key {q : Option Jour} {t : Jour} (h : (keyB t.ride && keyB t.rider) = false) : jourE q t = 5 := by unfold jourE; rw [h]; rfl
theorem jourE_after {q : Option Jour} {t : Jour} (h : (keyB t.ride && keyB t.rider) = true) (h2 : afterJ q t = true) : jourE q t = 7 := by unfold jourE; rw [h, h2]; rfl
theorem jourE_none {q : Option Jour} {t : Jour} (h : (keyB t.ride && keyB t.rider) = true) (h2 : afterJ q t = false) (h3 : t.nodes.length = 0) : jourE q t = 8 := by unfold jourE; rw [h, h2, if_pos h3]; rfl
theorem jourE_names {q : Option Jour} {t : Jour} {V : Int} (h : (keyB t.ride && keyB t.rider) = true) (h2 : afterJ q t = false) (h3 : t.nodes.length ≠ 0) (h4 : namesF t.nodes 2000 = V) (hv : V ≠ 0) : jourE q t = V := by
  unfold jourE; rw [h, h2, if_neg h3, h4, if_neg hv]; rfl
theorem jourE_time {q : Option Jour} {t : Jour} (h : (keyB t.ride && keyB t.rider) = true) (h2 : afterJ q t = false) (h3 : t.nodes.length ≠ 0) (h4 : namesF t.nodes 2000 = 0) (h5 : timeJ t = true) : jourE q t = 1 := by
  unfold jourE; rw [h, h2, if_neg h3, if_pos h4, h5]; rfl
theorem jourE_zero {q : Option Jour} {t : Jour} (h : (keyB t.ride && keyB t.rider) = true) (h2 : afterJ q t = false) (h3 : t.nodes.length ≠ 0) (h4 : namesF t.nodes 2000 = 0) (h5 : timeJ t = false) : jourE q t = 0 := by
  unfold jourE; rw [h, h2, if_neg h3, if_pos h4, h5]; rfl

end Go.Proofs.YthlhomcgjgfdhaaGreatDoor
/- A map of integers in which it counts whether a key is there, said of a plain function. Of no program. -/
namespace Go.Proofs.YthlhomcgjgfdhaaGreatDoor
open Go.RowKit Go.Maps

section
variable {κ : Type} {P : Program} {K E : TypeId} {ek : κ → Value} {dom : κ → Prop}

/-- The map's datum D holds f k at key k, if it has the key at all; its keys lie in dom. -/
structure MoD (P : Program) (K : TypeId) (ek : κ → Value) (dom : κ → Prop) (D : DataW Unit) (f : κ → Option Int) : Prop where
  isMap : IsMap D
  at_ : ∀ k l, dom k → keyOf P K (ek k) = some l → ∀ z, D.atKey l z = (match f k with | some v => .lit (.int .i64 v) | none => z)
  keys : ∀ l, has D l = true → ∃ k, dom k ∧ keyOf P K (ek k) = some l
  dm : ∀ k, (f k).isSome = true → dom k

/-- Block b is such a map. -/
def MoI (P : Program) (K E : TypeId) (ek : κ → Value) (dom : κ → Prop) (w : World) (b n : Nat) (f : κ → Option Int) : Prop :=
  ∃ D : DataW Unit, w.ownsMap P K (plainElem P E) b n D ∧ MoD P K ek dom D f

theorem MoI.lt {w : World} {b n : Nat} {f : κ → Option Int} (h : MoI P K E ek dom w b n f) : b < w.heap.size := by
  obtain ⟨D, h1, _⟩ := h; exact h1.lt
theorem MoI.nx {w w' : World} {b n : Nat} {f : κ → Option Int} (h : MoI P K E ek dom w b n f) (hn : Nx w w') : MoI P K E ek dom w' b n f := by
  obtain ⟨D, h1, h2⟩ := h
  exact ⟨D, h1.kept (hn.gr none) (by simp), h2⟩
theorem MoI.gr {w w' : World} {b n s : Nat} {f : κ → Option Int} (h : MoI P K E ek dom w b n f) (hn : Gr s w w') (hs : b ≠ s) : MoI P K E ek dom w' b n f := by
  obtain ⟨D, h1, h2⟩ := h
  exact ⟨D, h1.kept (row := some s) hn (by simpa using hs), h2⟩
theorem MoI.mono {w : World} {b n n' : Nat} {f : κ → Option Int} (h : MoI P K E ek dom w b n f) (hn : n ≤ n') : MoI P K E ek dom w b n' f := by
  obtain ⟨D, h1, h2⟩ := h; exact ⟨D, h1.mono hn, h2⟩
theorem MoD.put {D : DataW Unit} {f : κ → Option Int} [DecidableEq κ] (h : MoD P K ek dom D f) (KL : Keyed P K) (hinj : ∀ a b : κ, ek a = ek b → a = b) {k : κ} (hd : dom k) {l : Lit} (hkey : keyOf P K (ek k) = some l) (v : Int) :
    MoD P K ek dom (D.put l (.lit (.int .i64 v))) (fun k' => if k' = k then some v else f k') where
  isMap := h.isMap.put _ _
  at_ k' l' hd' hk' z := by
    by_cases e : k' = k
    · subst e
      rw [hkey] at hk'; injection hk' with hk'; subst hk'
      rw [if_pos rfl]
      exact atKey_put_same h.isMap (KL.key hkey) _ _
    · rw [if_neg e]
      have hne : l' ≠ l := fun e1 => by subst e1; exact e (hinj _ _ (KL.inj hk' hkey))
      rw [atKey_put_other hne]
      exact h.at_ k' l' hd' hk' z
  keys l' hl' := by
    by_cases e : l' = l
    · subst e; exact ⟨k, hd, hkey⟩
    · rw [has_put_other e] at hl'; exact h.keys l' hl'
  dm k' hk' := by
    by_cases e : k' = k
    · subst e; exact hd
    · rw [if_neg e] at hk'; exact h.dm k' hk'

end
end Go.Proofs.YthlhomcgjgfdhaaGreatDoor
/- A map to bools that is a set. Of no program. -/
namespace Go.Proofs.YthlhomcgjgfdhaaGreatDoor
open Go.RowKit Go.Maps

section
variable {κ : Type} {P : Program} {K E : TypeId} {ek : κ → Value} {dom : κ → Prop}
/-- The map's datum D says of each key whether it is in the set. -/
structure MbD (P : Program) (K : TypeId) (ek : κ → Value) (dom : κ → Prop) (D : DataW Unit) (f : κ → Bool) : Prop where
  isMap : IsMap D
  at_ : ∀ k l, dom k → keyOf P K (ek k) = some l → D.atKey l (.lit (.bool false)) = .lit (.bool (f k))
def MbI (P : Program) (K E : TypeId) (ek : κ → Value) (dom : κ → Prop) (w : World) (b n : Nat) (f : κ → Bool) : Prop :=
  ∃ D : DataW Unit, w.ownsMap P K (plainElem P E) b n D ∧ MbD P K ek dom D f
theorem MbI.lt {w : World} {b n : Nat} {f : κ → Bool} (h : MbI P K E ek dom w b n f) : b < w.heap.size := by
  obtain ⟨D, h1, _⟩ := h; exact h1.lt
theorem MbI.nx {w w' : World} {b n : Nat} {f : κ → Bool} (h : MbI P K E ek dom w b n f) (hn : Nx w w') : MbI P K E ek dom w' b n f := by
  obtain ⟨D, h1, h2⟩ := h
  exact ⟨D, h1.kept (hn.gr none) (by simp), h2⟩
theorem MbI.gr {w w' : World} {b n s : Nat} {f : κ → Bool} (h : MbI P K E ek dom w b n f) (hn : Gr s w w') (hs : b ≠ s) : MbI P K E ek dom w' b n f := by
  obtain ⟨D, h1, h2⟩ := h
  exact ⟨D, h1.kept (row := some s) hn (by simpa using hs), h2⟩
theorem MbI.mono {w : World} {b n n' : Nat} {f : κ → Bool} (h : MbI P K E ek dom w b n f) (hn : n ≤ n') : MbI P K E ek dom w b n' f := by
  obtain ⟨D, h1, h2⟩ := h; exact ⟨D, h1.mono hn, h2⟩
end
end Go.Proofs.YthlhomcgjgfdhaaGreatDoor
/- Zones: the program's check and the reference's. -/
namespace Go.Proofs.YthlhomcgjgfdhaaGreatDoor
open Go.RowKit Go.Maps

/-- Zones, their nodes each in a row of its own. -/
def RdZones (w : World) (lo : Nat) (A : Option Addr) (zs : List Zone) : Prop :=
  Rd w lo A 2 encZone zs ∧ ∀ x ∈ zs, Rd w lo x.a 1 encS x.nodes ∧ Small x.nodes ∧ x.nodes.length ≤ 400 ∧ x.key.size ≤ 1000000
theorem RdZones.nx {w w' : World} {lo : Nat} {A : Option Addr} {zs : List Zone} (h : RdZones w lo A zs) (hn : Nx w w') : RdZones w' lo A zs :=
  ⟨h.1.nx hn, fun x hx => ⟨(h.2 x hx).1.nx hn, (h.2 x hx).2⟩⟩
theorem w_KeyN (s : ByteArray) (w : World) (hs : s.size ≤ 1000000) : Calls Tryz.prog 104 #[.string s] w fun e w' => e = .returned (.bool (keyB s)) ∧ Nx w w' :=
  (w_Key s w hs).mono fun _ _ ⟨a, b⟩ => ⟨a, b ▸ Nx.refl _⟩
end Go.Proofs.YthlhomcgjgfdhaaGreatDoor
/- Lists of names: the program's check and the reference's. -/
namespace Go.Proofs.YthlhomcgjgfdhaaGreatDoor
open Go.RowKit

set_option maxHeartbeats 1000000 in
theorem w_IndexFS (g : Nat) (p : ByteArray → Bool) (eg : Enters g) (hcl : ∀ (s : ByteArray) W, s.size ≤ 1000000 → Calls Tryz.prog g #[.string s] W fun e w' => e = .returned (.bool (p s)) ∧ Nx W w')
    (lo : Nat) (A : Option Addr) (c : Nat) (l : List ByteArray) (w : World) (hR : Rd w lo A 1 encS l) (hS : Small l) (hl : l.length ≤ 65536) :
    Calls Tryz.prog 146 #[.slice A l.length c, .func (.func g) #[] #[]] w fun e w' => ∃ r : Int, e = .returned (.int .i64 r) ∧ decide (0 ≤ r) = l.any p ∧ Nx w w' := by
  generalize hn : l.length = n at *
  have HR := hide hR
  have HN := hide hn
  have HC0 := hide hcl
  have HS := hide hS
  clear hR hn hcl hS
  unfold Enters at eg
  go_enter Tryz.func146, Tryz.ntmps146
  go_wp2
  go_loopw [5, 8] (fun _ i wr => ∃ k : Nat, k ≤ n ∧ i = .int .i64 k ∧ Nx w wr ∧ (l.take k).any p = false) (fun _ i _ => n - (intOf i).toNat)
  case atStart => exact ⟨0, Nat.zero_le _, rfl, Nx.refl _, rfl⟩
  case round =>
    obtain ⟨k, hk, rfl, hbw, hq⟩ := hrel
    have HQ := hide hq
    clear hq
    by_cases hlt : k < n
    · have hlt' : k < l.length := by have := HN.out; omega
      obtain ⟨b, off, rfl, _, hb, hbr, hc⟩ := HR.out.open_ hbw (by omega)
      have c0 : wr.cell? ⟨b, off + k, none⟩ = some (.string l[k]) := by have := hc k hlt' 0 _ rfl; simpa using this
      have hsz := HS.out.at k hlt'
      clear hc
      cases hbig : p l[k]
      · have HB := hide hbig
        have hcl := fun W => HC0.out l[k] W hsz
        rw [hbig] at hcl
        have HCL := hide hcl
        clear hbig hcl
        go_wp2_with (go_at_fn g; refine (HCL.out _).mono ?_; rintro e w2 ⟨rfl, hn2⟩)
        go_roundw
        case rel => exact ⟨k + 1, by omega, by go_num, hbw.trans hn2, by rw [List.take_succ_eq_append_getElem hlt', List.any_append, HQ.out]; simp [HB.out]⟩
        case measure => simp [intOf]; omega
      · have HB := hide hbig
        have hcl := fun W => HC0.out l[k] W hsz
        rw [hbig] at hcl
        have HCL := hide hcl
        clear hbig hcl
        go_wp2_with (go_at_fn g; refine (HCL.out _).mono ?_; rintro e w2 ⟨rfl, hn2⟩)
        go_ret
        refine ⟨_, rfl, ?_, hbw.trans hn2⟩
        rw [show l.any p = true from List.any_eq_true.2 ⟨l[k], List.getElem_mem hlt', HB.out⟩]
        simp
    · go_wp2
      go_ret
      refine ⟨_, rfl, ?_, hbw⟩
      have := HQ.out
      rw [List.take_of_length_le (by have := HN.out; omega)] at this
      rw [this]; rfl
theorem w_ContFS (g : Nat) (p : ByteArray → Bool) (eg : Enters g) (hcl : ∀ (s : ByteArray) W, s.size ≤ 1000000 → Calls Tryz.prog g #[.string s] W fun e w' => e = .returned (.bool (p s)) ∧ Nx W w')
    (lo : Nat) (A : Option Addr) (c : Nat) (l : List ByteArray) (w : World) (hR : Rd w lo A 1 encS l) (hS : Small l) (hl : l.length ≤ 65536) :
    Calls Tryz.prog 108 #[.slice A l.length c, .func (.func g) #[] #[]] w fun e w' => e = .returned (.bool (l.any p)) ∧ Nx w w' := by
  have hcon := fun W => w_IndexFS g p eg hcl lo A c l W
  clear hcl eg
  go_enter Tryz.func108, Tryz.ntmps108
  go_wp2_with (go_at_call 146; refine (hcon _ hR hS hl).mono ?_; rintro e w2 ⟨r, rfl, hr, hn2⟩)
  go_ret
  exact ⟨rfl, hn2⟩
def notKey (s : ByteArray) : Bool := !keyB s
theorem w_nodesF1 (s : ByteArray) (w : World) (hs : s.size ≤ 1000000) : Calls Tryz.prog 137 #[.string s] w fun e w' => e = .returned (.bool (notKey s)) ∧ Nx w w' := by
  unfold notKey
  go_enter Tryz.func137, Tryz.ntmps137
  go_wp2_with (go_at_call 104; refine (w_Key _ _ hs).mono ?_; rintro e w' ⟨rfl, rfl⟩)
  go_ret
  exact ⟨rfl, Nx.refl _⟩
theorem w_NamesF1 (s : ByteArray) (w : World) (hs : s.size ≤ 1000000) : Calls Tryz.prog 109 #[.string s] w fun e w' => e = .returned (.bool (notKey s)) ∧ Nx w w' := by
  unfold notKey
  go_enter Tryz.func109, Tryz.ntmps109
  go_wp2_with (go_at_call 75; refine (w_KeyR _ _ hs).mono ?_; rintro e w1 ⟨rfl, hn1⟩)
  go_ret
  exact ⟨rfl, hn1⟩
theorem any_notKey (l : List ByteArray) : l.any notKey = !l.all keyB := by
  induction l with
  | nil => rfl
  | cons x l ih => rw [List.any_cons, List.all_cons, ih]; unfold notKey; cases keyB x <;> simp
theorem w_nodesFault (lo : Nat) (A : Option Addr) (c : Nat) (l : List ByteArray) (w : World) (hR : Rd w lo A 1 encS l) (hS : Small l) (hl : l.length ≤ 65536) :
    Calls Tryz.prog 105 #[.slice A l.length c] w fun e w' => e = .returned (.int .i64 (namesF l 2000)) ∧ Nx w w' := by
  have hcon := w_ContFS 137 notKey (enters_of Tryz.func137 (by kernel_rfl) rfl) (fun s W hs => w_nodesF1 s W hs) lo A c l w hR hS hl
  rw [any_notKey] at hcon
  unfold namesF
  by_cases hb : 2000 < l.length
  · rw [if_pos hb]
    clear hcon
    go_enter Tryz.func105, Tryz.ntmps105
    go_wp2
    go_ret
    exact ⟨rfl, Nx.refl _⟩
  · rw [if_neg hb]
    cases hk : l.all keyB
    all_goals
      rw [hk] at hcon
      go_enter Tryz.func105, Tryz.ntmps105
      go_wp2_with (go_at_call 108; refine hcon.mono ?_; rintro e w2 ⟨rfl, hn2⟩)
      go_ret
      exact ⟨rfl, hn2⟩
theorem w_NamesFault (lo : Nat) (A : Option Addr) (c most : Nat) (l : List ByteArray) (w : World) (hR : Rd w lo A 1 encS l) (hS : Small l) (hl : l.length ≤ 65536) :
    Calls Tryz.prog 76 #[.slice A l.length c, .int .i64 (most : Int)] w fun e w' => e = .returned (.int .i64 (namesF l most)) ∧ Nx w w' := by
  have hcon := w_ContFS 109 notKey (enters_of Tryz.func109 (by kernel_rfl) rfl) (fun s W hs => w_NamesF1 s W hs) lo A c l w hR hS hl
  rw [any_notKey] at hcon
  unfold namesF
  by_cases hb : most < l.length
  · rw [if_pos hb]
    have t1 : decide ((l.length : Int) > (most : Int)) = true := decide_eq_true (by omega)
    clear hcon
    go_enter Tryz.func76, Tryz.ntmps76
    go_wp2
    go_ret
    exact ⟨rfl, Nx.refl _⟩
  · rw [if_neg hb]
    have t1 : decide ((l.length : Int) > (most : Int)) = false := decide_eq_false (by omega)
    cases hk : l.all keyB
    all_goals
      rw [hk] at hcon
      go_enter Tryz.func76, Tryz.ntmps76
      go_wp2_with (go_at_call 108; refine hcon.mono ?_; rintro e w2 ⟨rfl, hn2⟩)
      go_ret
      exact ⟨rfl, hn2⟩
end Go.Proofs.YthlhomcgjgfdhaaGreatDoor
/- A statement whose operations come up in whatever order: what each slot holds is said per operation, what the world holds by the number of operations that have come up. Of no program. -/
namespace Go.Proofs.YthlhomcgjgfdhaaGreatDoor
open Go

section
variable {P : Program} {ops : Array Oper} {Q : Exit → Act → World → Prop}

theorem wpOp_val {i : Nat} {o : Oper} {a : Act} {w w' : World} {v : Value} {K : Act → World → Prop} (hi : ops[i]? = some o) (hg : o.guard = none) (hrun : (execOp a.eval o).run P w = .ok (.value v) w') (hK : K (a.put o.dst v) w') : wpOp P ops Q i K a w := by
  unfold wpOp
  simp only [hi]
  have hw : Region.wanted o (yielded ops a.tmps) = true := by simp [Region.wanted, hg]
  rw [if_pos hw]
  refine .inl ?_
  unfold Oper.wp
  rw [hrun]
  exact hK
theorem wpOp_skip {i : Nat} {o : Oper} {a : Act} {w w' : World} {K : Act → World → Prop} (hi : ops[i]? = some o) (hg : o.guard = none) (hrun : (execOp a.eval o).run P w = .ok .skip w') (hK : K (a.put o.dst undef) w') : wpOp P ops Q i K a w := by
  unfold wpOp
  simp only [hi]
  have hw : Region.wanted o (yielded ops a.tmps) = true := by simp [Region.wanted, hg]
  rw [if_pos hw]
  refine .inl ?_
  unfold Oper.wp
  rw [hrun]
  exact hK
theorem wpOp_call {i : Nat} {o : Oper} {a : Act} {w : World} {K : Act → World → Prop} {f : FuncId} {args : Array Value} {R : Ending → World → Prop} (hi : ops[i]? = some o) (hg : o.guard = none) (hrun : (execOp a.eval o).run P w = .ok (.enter f args) w) (hC : Calls P f args w R) (hR : ∀ e w', R e w' → ∃ v, e = .returned v ∧ K (a.put o.dst v) w') : wpOp P ops Q i K a w := by
  unfold wpOp
  simp only [hi]
  have hw : Region.wanted o (yielded ops a.tmps) = true := by simp [Region.wanted, hg]
  rw [if_pos hw]
  refine .inl ?_
  unfold Oper.wp
  rw [hrun]
  refine Calls.mono hC fun e w' he => ?_
  obtain ⟨v, rfl, hK⟩ := hR e w' he
  exact hK

def cntB (l : Array Bool) : Nat := (l.toList.filter id).length
theorem cnt_list : ∀ (l : List Bool) (i : Nat), l[i]? = some false → ((l.set i true).filter id).length = (l.filter id).length + 1
  | [], i, h => by simp at h
  | b :: l, 0, h => by simp at h; subst h; simp
  | b :: l, i + 1, h => by
    have := cnt_list l i (by simpa using h)
    cases b <;> simp [this]
theorem cntB_set {l : Array Bool} {i : Nat} (h : l.getD i true = false) : cntB (l.setIfInBounds i true) = cntB l + 1 := by
  unfold cntB
  rw [Array.toList_setIfInBounds]
  refine cnt_list _ _ ?_
  rw [Array.getElem?_toList]
  rcases Nat.lt_or_ge i l.size with h' | h'
  · simp [h'] at h ⊢; exact h
  · simp [Array.getElem?_eq_none h'] at h
theorem cnt_all : ∀ (l : List Bool), (l.filter id).length = l.length → ∀ (i : Nat), i < l.length → l[i]? = some true
  | [], _, i, h => by simp at h
  | b :: l, h, i, hi => by
    cases b with
    | false =>
      simp at h
      have := List.length_filter_le id l
      omega
    | true =>
      rcases i with _ | i
      · rfl
      · simpa using cnt_all l (by simpa using h) i (by simpa using hi)

/-- The slots that the statement's operations write. -/
def dstsOf (ops : Array Oper) : List Tmp := ops.toList.filterMap (·.dst)
def dstsB (ops : Array Oper) (n : Nat) : Bool := (dstsOf ops).all (fun d => Nat.blt d n) && decide (dstsOf ops).Nodup
theorem nodup_dst : ∀ {l : List Oper}, (l.filterMap (·.dst)).Nodup → ∀ {i j : Nat} {oi oj : Oper} {d : Tmp}, l[i]? = some oi → l[j]? = some oj → oi.dst = some d → oj.dst = some d → i = j
  | [], _, i, j, oi, oj, d, h, _, _, _ => by simp at h
  | o :: l, hn, 0, 0, _, _, _, _, _, _, _ => rfl
  | o :: l, hn, 0, j + 1, oi, oj, d, hi, hj, hdi, hdj => by
    simp at hi; subst hi
    rw [List.filterMap_cons_some hdi, List.nodup_cons] at hn
    exact absurd (List.mem_filterMap.2 ⟨oj, List.mem_of_getElem? (by simpa using hj), hdj⟩) hn.1
  | o :: l, hn, i + 1, 0, oi, oj, d, hi, hj, hdi, hdj => by
    simp at hj; subst hj
    rw [List.filterMap_cons_some hdj, List.nodup_cons] at hn
    exact absurd (List.mem_filterMap.2 ⟨oi, List.mem_of_getElem? (by simpa using hi), hdi⟩) hn.1
  | o :: l, hn, i + 1, j + 1, oi, oj, d, hi, hj, hdi, hdj => by
    have hn' : (l.filterMap (·.dst)).Nodup := by
      cases ho : o.dst with
      | none => rwa [List.filterMap_cons_none ho] at hn
      | some x => rw [List.filterMap_cons_some ho, List.nodup_cons] at hn; exact hn.2
    have h1 : l[i]? = some oi := by simpa using hi
    have h2 : l[j]? = some oj := by simpa using hj
    have := nodup_dst hn' h1 h2 hdi hdj
    omega

/-- What is known when some operations have come up. -/
structure Known (ops : Array Oper) (W : Nat → World → Prop) (Sh : Nat → Value → World → Prop) (a0 : Act) (listed : Array Bool) (a : Act) (w : World) : Prop where
  size : listed.size = ops.size
  world : W (cntB listed) w
  slot : ∀ i o d, ops[i]? = some o → listed.getD i false = true → o.dst = some d → Sh i (a.tmps.getD d undef) w
  old : ∀ t, t ∉ dstsOf ops → a.tmps.getD t undef = a0.tmps.getD t undef
  frame : a.tmps.size = a0.tmps.size ∧ a.defers = a0.defers

def downB (ops : Array Oper) : Bool := (List.range ops.size).all fun i => match ops[i]? with | some o => o.after.toList.all (fun e => !Region.binds .any e || Nat.blt e.on i) | none => true
theorem wpAny_known (W : Nat → World → Prop) (Sh : Nat → Value → World → Prop) (Kp : World → World → Prop) (a0 : Act) (hdst : dstsB ops a0.tmps.size = true) (hdown : downB ops = true)
    (hkeep : ∀ i v w w', Sh i v w → Kp w w' → Sh i v w')
    (hstep : ∀ i o, ops[i]? = some o → ∀ m a w, m < ops.size → W m w → (∀ t, t ∉ dstsOf ops → a.tmps.getD t undef = a0.tmps.getD t undef) →
      (∀ j oj d, ops[j]? = some oj → (∃ e ∈ o.after, Region.binds .any e = true ∧ e.on = j) → oj.dst = some d → Sh j (a.tmps.getD d undef) w) →
      wpOp P ops Q i (fun a' w' => ∃ v, a' = a.put o.dst v ∧ W (m + 1) w' ∧ Kp w w' ∧ ∀ d, o.dst = some d → Sh i v w') a w)
    (hend : ∀ listed a w, Known ops W Sh a0 listed a w → W ops.size w → (∀ i o d, ops[i]? = some o → o.dst = some d → Sh i (a.tmps.getD d undef) w) → Q .normal a w) :
    ∀ (fuel : Nat) (listed : Array Bool) (a : Act) (w : World), Known ops W Sh a0 listed a w → cntB listed + fuel = ops.size → wpAny P .any ops Q fuel listed a w := by
  simp only [dstsB, Bool.and_eq_true, decide_eq_true_eq] at hdst
  have fin : ∀ (listed : Array Bool) (a : Act) (w : World), Known ops W Sh a0 listed a w → (∀ i, i < ops.size → listed.getD i false = true) → cntB listed = ops.size → Q .normal a w := fun listed a w hI hall hc => by
    have hw := hI.world
    rw [hc] at hw
    exact hend listed a w hI hw fun i o d ho hd => hI.slot i o d ho (hall i (Array.getElem?_eq_some_iff.1 ho).1) hd
  intro fuel
  induction fuel with
  | zero =>
    intro listed a w hI hc
    have hlen : (listed.toList.filter id).length = listed.toList.length := by
      have : cntB listed = (listed.toList.filter id).length := rfl
      rw [← this, Array.length_toList, hI.size]; omega
    have hall : ∀ i, i < ops.size → listed.getD i false = true := fun i hi => by
      have h1 := cnt_all _ hlen i (by rw [Array.length_toList, hI.size]; exact hi)
      rw [Array.getElem?_toList] at h1
      simp [h1]
    refine ⟨?_, fin listed a w hI hall (by omega)⟩
    cases hr : Region.ready .any ops listed with
    | nil => rfl
    | cons i l =>
      have hi : i ∈ Region.ready .any ops listed := by rw [hr]; simp
      obtain ⟨h1, o, ho, _⟩ := mem_ready.1 hi
      have h2 := hall i (Array.getElem?_eq_some_iff.1 ho).1
      have hlt : i < listed.size := by rw [hI.size]; exact (Array.getElem?_eq_some_iff.1 ho).1
      simp [hlt] at h1 h2
      rw [h1] at h2; cases h2
  | succ fuel ih =>
    intro listed a w hI hc
    refine ⟨fun hr => ?_, fun i hi => ?_⟩
    · have hall : ∀ i, i < ops.size → listed.getD i false = true := by
        intro i
        induction i using Nat.strongRecOn with
        | _ i ihi =>
          intro hlt
          cases hl : listed.getD i false with
          | true => rfl
          | false =>
            exfalso
            have hi : i ∈ Region.ready .any ops listed := by
              refine mem_ready.2 ⟨?_, ops[i], Array.getElem?_eq_getElem hlt, fun e he hb => ?_⟩
              · have hlt' : i < listed.size := by rw [hI.size]; exact hlt
                simp [hlt'] at hl ⊢; exact hl
              · have h1 := List.all_eq_true.1 hdown i (List.mem_range.2 hlt)
                rw [Array.getElem?_eq_getElem hlt] at h1
                have h2 := List.all_eq_true.1 h1 e (by simpa using he)
                rw [hb] at h2
                have h3 : e.on < i := by simpa using h2
                exact ihi e.on h3 (by omega)
            rw [hr] at hi; cases hi
      have hcnt : cntB listed = ops.size := by
        have e0 : listed.toList.filter id = listed.toList := List.filter_eq_self.2 (fun b hb => by
          obtain ⟨i, hi, e⟩ := List.mem_iff_getElem.1 hb
          have hi' : i < listed.size := by simpa using hi
          have := hall i (by rw [← hI.size]; exact hi')
          simp [hi'] at this
          rw [← e]
          simpa using this)
        unfold cntB
        rw [e0, Array.length_toList, hI.size]
      exact fin listed a w hI hall hcnt
    · obtain ⟨h1, o, ho, hall⟩ := mem_ready.1 hi
      have hlt : i < ops.size := (Array.getElem?_eq_some_iff.1 ho).1
      refine wpOp_mono (fun a' w' h => ?_) (hstep i o ho _ a w (by omega) hI.world hI.old (fun j oj d hj ⟨e, he, hb, hon⟩ hd => hI.slot j oj d hj (by rw [← hon]; exact hall e he hb) hd))
      obtain ⟨v, rfl, hW, hKp, hSh⟩ := h
      refine ih _ _ _ ⟨by simp [hI.size], by rw [cntB_set h1]; exact hW, fun j oj d hj hl hd => ?_, fun t ht => ?_, ?_⟩ (by rw [cntB_set h1]; omega)
      · by_cases hij : i = j
        · subst hij
          have e : oj = o := Option.some.inj (hj.symm.trans ho)
          subst e
          have hdn : d < a.tmps.size := by
            rw [hI.frame.1]
            have := List.all_eq_true.1 hdst.1 d (List.mem_filterMap.2 ⟨oj, List.mem_of_getElem? (by rw [Array.getElem?_toList]; exact hj), hd⟩)
            simpa using this
          have e2 : (a.put oj.dst v).tmps.getD d undef = v := by simp [Act.put, hd, hdn]
          rw [e2]
          exact hSh d hd
        · have hlj : listed.getD j false = true := by rw [getD_set_ne false hij] at hl; exact hl
          have e2 : (a.put o.dst v).tmps.getD d undef = a.tmps.getD d undef := by
            cases hod : o.dst with
            | none => rfl
            | some x =>
              have hne : x ≠ d := fun e => hij (by subst e; exact nodup_dst hdst.2 (by rw [Array.getElem?_toList]; exact ho) (by rw [Array.getElem?_toList]; exact hj) hod hd)
              simp [Act.put, Array.getElem?_setIfInBounds_ne hne]
          rw [e2]
          exact hkeep j _ w w' (hI.slot j oj d hj hlj hd) hKp
      · have e2 : (a.put o.dst v).tmps.getD t undef = a.tmps.getD t undef := by
          cases hod : o.dst with
          | none => rfl
          | some x =>
            have hne : x ≠ t := fun e => ht (by subst e; exact List.mem_filterMap.2 ⟨o, List.mem_of_getElem? (by rw [Array.getElem?_toList]; exact ho), hod⟩)
            simp [Act.put, Array.getElem?_setIfInBounds_ne hne]
        rw [e2]; exact hI.old t ht
      · cases hod : o.dst with
        | none => exact hI.frame
        | some x => exact ⟨by simp [Act.put, hI.frame.1], hI.frame.2⟩
/-- At a region that draws its order. -/
theorem wp_region_known {id : Nat} {w : World} (hm : P.follows .mixedOrders = true) (W : Nat → World → Prop) (Sh : Nat → Value → World → Prop) (Kp : World → World → Prop) (a0 : Act) (hdst : dstsB ops a0.tmps.size = true) (hdown : downB ops = true)
    (hkeep : ∀ i v w w', Sh i v w → Kp w w' → Sh i v w')
    (hstep : ∀ i o, ops[i]? = some o → ∀ m a w, m < ops.size → W m w → (∀ t, t ∉ dstsOf ops → a.tmps.getD t undef = a0.tmps.getD t undef) →
      (∀ j oj d, ops[j]? = some oj → (∃ e ∈ o.after, Region.binds .any e = true ∧ e.on = j) → oj.dst = some d → Sh j (a.tmps.getD d undef) w) →
      wpOp P ops Q i (fun a' w' => ∃ v, a' = a.put o.dst v ∧ W (m + 1) w' ∧ Kp w w' ∧ ∀ d, o.dst = some d → Sh i v w') a w)
    (hend : ∀ listed a w, Known ops W Sh a0 listed a w → W ops.size w → (∀ i o d, ops[i]? = some o → o.dst = some d → Sh i (a.tmps.getD d undef) w) → Q .normal a w)
    (h0 : W 0 { w with drawn := w.drawn + 1 }) : (Code.region id ops true).wp P Q a0 w := by
  refine wp_region_any hm (wpAny_known W Sh Kp a0 hdst hdown hkeep hstep hend _ _ _ _ ⟨by simp, ?_, fun i o d _ hl => ?_, fun _ _ => rfl, rfl, rfl⟩ ?_)
  · have : cntB (Array.replicate ops.size false) = 0 := by
      unfold cntB
      rw [Array.toList_replicate]
      simp
    rw [this]; exact h0
  · have : (Array.replicate ops.size false).getD i false = false := by
      rcases Nat.lt_or_ge i ops.size with h | h
      · simp [h]
      · simp [h]
    rw [this] at hl; cases hl
  · unfold cntB
    rw [Array.toList_replicate]
    simp
end
end Go.Proofs.YthlhomcgjgfdhaaGreatDoor
/- What is wrong with costs and dues: the program's and the reference's words. -/
namespace Go.Proofs.YthlhomcgjgfdhaaGreatDoor
open Go.RowKit

theorem centB_bd {n : Int} (h : centB n = false) : 0 ≤ n ∧ n ≤ 1000000000 := by have := outB_false.1 h; unfold maxCt at this; exact this
end Go.Proofs.YthlhomcgjgfdhaaGreatDoor
