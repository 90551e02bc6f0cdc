/- What RidesPriced leans on: Full and Cheapest for all arguments, what stands fast. -/
import Derived.Test.YtncnmadiiaidfaaGreatDoorQG14
import Derived.Deep.DeepCutAuto
import Derived.Test.YtncnmadiiaidfaaGreatDoorQG7
import Derived.Test.YtncnmadiiaidfaaGreatDoorQFullA
import Derived.Test.YtncnmadiiaidfaaGreatDoorQPriR
import Derived.Test.YtncnmadiiaidfaaGreatDoorQJouR
import Derived.Test.YtncnmadiiaidfaaGreatDoorQStJO
import Derived.Test.YtncnmadiiaidfaaGreatDoorQZonesS
import Derived.Test.YtncnmadiiaidfaaGreatDoorQG2
import Derived.Test.YtncnmadiiaidfaaGreatDoorQG24
import Derived.Test.YtncnmadiiaidfaaGreatDoorQG1
import Derived.Test.YtncnmadiiaidfaaGreatDoorQG0
namespace Go.Proofs.YtncnmadiiaidfaaGreatDoor
open Go.RowKit

theorem RdZones.gr {s : Nat} {w w' : World} {lo : Nat} {A : Option Addr} {zs : List Zone} (h : RdZones w lo A zs) (hn : Gr s w w') (hs : s < lo) : RdZones w' lo A zs :=
  ⟨h.1.gr hn hs, fun x hx => ⟨(h.2 x hx).1.gr hn hs, (h.2 x hx).2⟩⟩
theorem RdZones.low {w : World} {lo lo' : Nat} {A : Option Addr} {zs : List Zone} (h : RdZones w lo A zs) (hl : lo' ≤ lo) : RdZones w lo' A zs :=
  ⟨h.1.low hl, fun x hx => ⟨(h.2 x hx).1.low hl, (h.2 x hx).2⟩⟩
theorem RdPrices.gr {s : Nat} {w w' : World} {lo : Nat} {A : Option Addr} {ps : List Price} (h : RdPrices w lo A ps) (hn : Gr s w w') (hs : s < lo) : RdPrices w' lo A ps := ⟨h.1.gr hn hs, h.2⟩
theorem RdPrices.low {w : World} {lo lo' : Nat} {A : Option Addr} {ps : List Price} (h : RdPrices w lo A ps) (hl : lo' ≤ lo) : RdPrices w lo' A ps := ⟨h.1.low hl, h.2⟩
theorem RdJours.gr {s : Nat} {w w' : World} {lo : Nat} {A : Option Addr} {ts : List Jour} (h : RdJours w lo A ts) (hn : Gr s w w') (hs : s < lo) : RdJours w' lo A ts :=
  ⟨h.1.gr hn hs, fun x hx => ⟨(h.2 x hx).1.gr hn hs, (h.2 x hx).2⟩⟩
theorem RdJours.low {w : World} {lo lo' : Nat} {A : Option Addr} {ts : List Jour} (h : RdJours w lo A ts) (hl : lo' ≤ lo) : RdJours w lo' A ts :=
  ⟨h.1.low hl, fun x hx => ⟨(h.2 x hx).1.low hl, (h.2 x hx).2⟩⟩
/-- What stands fast once all is drawn. -/
structure RpB (w wb : World) (D B : Option Addr) (bt ot b8 : Nat) (zs : List Zone) (ps : List Price) (t : Jour) (x : Price) : Prop where
  z : RdZones wb 0 D zs
  zl : zs.length ≤ 100
  p : RdPrices wb 0 B ps
  pl : ps.length ≤ 50
  tr : Rd wb 0 t.a 1 encS t.nodes
  ts : Small t.nodes
  tn : t.nodes.length ≤ 2000
  tk1 : t.ride.size ≤ 1000000
  tk2 : t.rider.size ≤ 1000000
  tb : bt < wb.heap.size
  tc : ∀ j u, (encJ t)[j]? = some u → wb.cell? ⟨bt, ot + j, none⟩ = some u
  one : Rd wb 0 (some ⟨bt, ot, none⟩) 6 encJ [t]
  xk : x.key.size ≤ 1000000
  xb : wb.heap[b8]? = some (.cells (encP x).toArray 29 (0, 0))
  nx : Nx w wb
theorem RpB.then {w wb wc : World} {D B : Option Addr} {bt ot b8 : Nat} {zs : List Zone} {ps : List Price} {t : Jour} {x : Price} (h : RpB w wb D B bt ot b8 zs ps t x) (hn : Nx wb wc) : RpB w wc D B bt ot b8 zs ps t x :=
  ⟨h.z.nx hn, h.zl, h.p.nx hn, h.pl, h.tr.nx hn, h.ts, h.tn, h.tk1, h.tk2, Nat.lt_of_lt_of_le h.tb hn.sz, fun j u hu => nx_cell hn h.tb (h.tc j u hu), h.one.nx hn, h.xk, (hn.block b8 (Array.getElem?_eq_some_iff.1 h.xb).1).trans h.xb, h.nx.trans hn⟩
end Go.Proofs.YtncnmadiiaidfaaGreatDoor
/- Plain: with passes nobody pays more; with one pass alone nobody pays more in a day than its cap. -/
namespace Go.Proofs.YtncnmadiiaidfaaGreatDoor
open Go.Sort Go.Proofs Go.Shelf

/-- Whatever holds of everything that one trip pays holds of all that is paid. -/
theorem payAll_all {zs : List Zone} {p : Price} {xs : List Pass} {Q : Paid → Prop} : ∀ (l : List Jour) (done : List Paid), (∀ d ∈ done, Q d) → (∀ done', ∀ t ∈ l, Q (payOne zs p xs done' t)) → ∀ d ∈ payAll zs p xs done l, Q d
  | [], _, h, _, d, hd => h d hd
  | t :: l, done, h, hq, d, hd => by
    refine payAll_all l _ (fun e he => ?_) (fun done' u hu => hq done' u (List.mem_cons_of_mem _ hu)) d hd
    rcases List.mem_append.1 he with he | he
    · exact h e he
    · rw [List.mem_singleton.1 he]; exact hq done t (List.mem_cons_self ..)
theorem payOne_nil {zs : List Zone} {p : Price} {done : List Paid} {t : Jour} : (payOne zs p [] done t).cents = fullI zs p t := rfl
/-- The one who paid for a trip is there. -/
theorem paid_has {zs : List Zone} {p : Price} {xs : List Pass} {l O : List Jour} (hO : IsOrd l O) {t : Jour} (ht : t ∈ l) : ∃ d ∈ payAll zs p xs [] O, d.t = t := by
  have h1 : t ∈ (payAll zs p xs [] O).map Paid.t := by rw [payAll_t]; simpa using hO.1.mem_iff.2 ht
  obtain ⟨d, hd, e⟩ := List.mem_map.1 h1
  exact ⟨d, hd, e⟩
theorem paid_ne {zs : List Zone} {p : Price} {xs : List Pass} {l O : List Jour} (hO : IsOrd l O) (hs : SortR l) : ((payAll zs p xs [] O).map Paid.t).Pairwise (fun a b => a.ride ≠ b.ride) := by
  rw [payAll_t]; exact ord_ne hO hs
/-- With passes nobody pays more than without. -/
theorem cost_le {zs : List Zone} {p : Price} {xs : List Pass} {l O : List Jour} (hp : PriceOk p) (hx : ∀ x ∈ xs, PassOk x) (hO : IsOrd l O) (hs : SortR l) {t : Jour} (ht : t ∈ l) :
    0 ≤ costOf (payAll zs p xs [] O) t.ride ∧ costOf (payAll zs p xs [] O) t.ride ≤ costOf (payAll zs p [] [] O) t.ride := by
  obtain ⟨d, hd, e⟩ := paid_has (zs := zs) (p := p) (xs := xs) hO ht
  obtain ⟨d', hd', e'⟩ := paid_has (zs := zs) (p := p) (xs := []) hO ht
  have h1 := costOf_at (paid_ne hO hs) hd
  have h2 := costOf_at (paid_ne hO hs) hd'
  rw [e] at h1
  rw [e'] at h2
  have h3 := payAll_all (Q := fun d => 0 ≤ d.cents ∧ d.cents ≤ fullI zs p d.t) O [] (fun d hd => by cases hd) (fun done t _ => payOne_bd (zs := zs) (done := done) (t := t) hp hx) d hd
  have h4 := payAll_all (Q := fun d => d.cents = fullI zs p d.t) O [] (fun d hd => by cases hd) (fun done t _ => payOne_nil) d' hd'
  rw [e] at h3
  rw [e'] at h4
  rw [h1, h2, h4]
  exact h3
/-- The only pass. -/
def annP (cap : Int) : Pass := ⟨⟨#[112, 122]⟩, ⟨#[97, 110, 110]⟩, 0, 345686400000, none, 0, [], 100, cap⟩
theorem ann_counts {cap : Int} {t : Jour} (ht : JourOk t) (cr : List ByteArray) : countsZ (annP cap) t cr = decide (t.rider = ⟨#[97, 110, 110]⟩) := by
  have h := ht.time
  unfold countsZ annP
  have h1 : ¬ t.from_ < 0 := by omega
  have h2 : ¬ 345686400000 ≤ t.from_ := by omega
  by_cases e : t.rider = ⟨#[97, 110, 110]⟩
  · simp [e, h1, h2]
  · have e' : ¬ (⟨#[97, 110, 110]⟩ : ByteArray) = t.rider := fun h => e h.symm
    simp [e, e']
theorem beg_whole (n : Int) : begI (n * 100) 100 = n := by unfold begI; omega
theorem payOne_ann {zs : List Zone} {p : Price} {cap : Int} {done : List Paid} {t : Jour} (hc : 0 < cap) (ht : JourOk t) : (payOne zs p [annP cap] done t).by_ = (if t.rider = ⟨#[97, 110, 110]⟩ then some 0 else none) ∧
    (t.rider = ⟨#[97, 110, 110]⟩ → (payOne zs p [annP cap] done t).cents = min (fullI zs p t) (max 0 (cap - spentD done 0 (dayJ t)))) := by
  have h1 := ann_counts (cap := cap) ht (crossO zs t.nodes)
  unfold payOne
  simp only [bestX, h1]
  by_cases e : t.rider = ⟨#[97, 110, 110]⟩
  · have h2 : capN (fullI zs p t) (annP cap) (spentD done 0 (dayJ t)) = min (fullI zs p t) (max 0 (cap - spentD done 0 (dayJ t))) := by
      unfold capN
      have e1 : (annP cap).most = cap := rfl
      have e2 : (annP cap).pay = 100 := rfl
      rw [e1, e2, if_pos hc, beg_whole]
    simp [e, h2]
  · simp [e]
/-- What was paid with the only pass on a day stays within its cap. -/
theorem ann_spent {zs : List Zone} {p : Price} {cap : Int} (hc : 0 < cap) (hp : PriceOk p) (day : Int) : ∀ (l : List Jour) (done : List Paid), (∀ t ∈ l, JourOk t) → spentD done 0 day ≤ cap → spentD (payAll zs p [annP cap] done l) 0 day ≤ cap
  | [], _, _, h => h
  | t :: l, done, hl, h => by
    refine ann_spent hc hp day l _ (fun u hu => hl u (List.mem_cons_of_mem _ hu)) ?_
    obtain ⟨h1, h2⟩ := payOne_ann (zs := zs) (p := p) (done := done) hc (hl t (List.mem_cons_self ..))
    rw [spentD_snoc]
    split
    · rename_i hh
      obtain ⟨hb, hd⟩ := hh
      have hr : t.rider = ⟨#[97, 110, 110]⟩ := by
        rw [h1] at hb
        by_cases e : t.rider = ⟨#[97, 110, 110]⟩
        · exact e
        · rw [if_neg e] at hb; cases hb
      have h3 := h2 hr
      have hd' : dayJ t = day := hd
      rw [hd'] at h3
      omega
    · omega
theorem sum_filter_le : ∀ (P : List Paid) (f g : Paid → Bool), (∀ d ∈ P, f d = g d) → ((P.filter f).map Paid.cents).sum = ((P.filter g).map Paid.cents).sum := by
  intro P f g h
  rw [List.filter_congr h]
/-- What ann pays for a day. -/
theorem ann_bill {zs : List Zone} {p : Price} {cap : Int} {l O : List Jour} (hc : 0 < cap) (hp : PriceOk p) (hx : PassOk (annP cap)) (hl : ∀ t ∈ l, JourOk t) (hO : IsOrd l O) (hs : SortR l) (day : Int) {ys : List Due} (hy : DuesOf (billK (billP (payAll zs p [annP cap] [] O) day l)) true ys) :
    ∀ d ∈ ys, d.key = ⟨#[97, 110, 110]⟩ → d.cents ≤ cap := by
  intro d hd hk
  have h1 := ((hy.2 d).1 hd).1
  rw [billK_at, hk] at h1
  have hO' : ∀ t ∈ O, JourOk t := fun t ht => hl t (hO.1.mem_iff.1 ht)
  have h0 : ∀ d ∈ payAll zs p [annP cap] [] O, 0 ≤ d.cents := fun d hd => (payAll_bd hp (fun x hx' => by rw [List.mem_singleton.1 hx']; exact hx) O [] (fun d hd => by cases hd) d hd).1
  have hperm := bill_perm zs p [annP cap] hO hs day
  have hsp := ann_spent (zs := zs) (p := p) hc hp day O [] hO' (by simp [spentD]; omega)
  have hby := payAll_all (Q := fun d => d.by_ = (if d.t.rider = ⟨#[97, 110, 110]⟩ then some 0 else none)) (zs := zs) (p := p) (xs := [annP cap]) O [] (fun d hd => by cases hd) (fun done t ht => (payOne_ann hc (hO' t ht)).1)
  generalize payAll zs p [annP cap] [] O = P at *
  have hq : ∀ x ∈ billR P day, 0 ≤ x.2 := by
    intro x hx
    obtain ⟨d, hd, rfl⟩ := List.mem_map.1 hx
    exact h0 d ((List.mem_filter.1 hd).1)
  have e1 : sumK (billP P day l) ⟨#[97, 110, 110]⟩ = sumK (billR P day) ⟨#[97, 110, 110]⟩ := by
    rw [sumK_perm hperm]; exact (sumK_pos (billR P day) hq _).1
  have e2 : sumK (billR P day) ⟨#[97, 110, 110]⟩ = spentD P 0 day := by
    unfold sumK billR spentD
    rw [List.filter_map, List.map_map, List.filter_filter]
    show ((P.filter _).map Paid.cents).sum = _
    refine sum_filter_le P _ _ (fun d hd => ?_)
    have hb := hby d hd
    simp only [Function.comp]
    by_cases e : d.t.rider = ⟨#[97, 110, 110]⟩
    · rw [hb, if_pos e]; simp [e]
    · rw [hb, if_neg e]; simp [e]
  split at h1
  · injection h1 with h1
    rw [e1, e2] at h1
    omega
  · cases h1
theorem ann_ok {zs : List Zone} {cap : Int} (hc : 0 < cap ∧ cap ≤ 1000000000) : passesF zs [annP cap] = 0 := by
  have k1 : (keyB (annP cap).key && keyB (annP cap).rider) = true := by
    show (keyB ⟨#[112, 122]⟩ && keyB ⟨#[97, 110, 110]⟩) = true
    decide
  have k2 : winB (annP cap).from_ (annP cap).to_ = true := by show winB 0 345686400000 = true; decide
  have k3 : payB (annP cap) = false := by
    show (outB 100 0 100 || outB cap 0 maxCt) = false
    unfold outB maxCt
    have h1 : ¬ cap < 0 := by omega
    have h2 : ¬ (1000000000 : Int) < cap := by omega
    simp [h1, h2]
  unfold passesF
  rw [if_neg (by simp)]
  have h := passE_zero (zs := zs) (q := none) (p := annP cap) k1 rfl k2 rfl k3
  show chk (passE zs) none [annP cap] = 0
  unfold chk
  rw [h]
  rfl
theorem ann_small (cap : Int) : Small (annP cap).zones := fun s hs => by cases hs
end Go.Proofs.YtncnmadiiaidfaaGreatDoor
/- Plain functions: nodes and knots checked; how long an arc takes. -/
namespace Go.Proofs.YtncnmadiiaidfaaGreatDoor

structure Node where
  key : ByteArray
  x : Int
  y : Int
instance : Inhabited Node := ⟨⟨default, 0, 0⟩⟩
def encNode (n : Node) : List Value := [.string n.key, .int .i64 n.x, .int .i64 n.y]
theorem encNode_len (n : Node) : (encNode n).length = 3 := rfl
theorem encNode_one (x : Node) : ∀ v ∈ encNode x, v.oneCell' = true := by
  intro v hv; simp [encNode] at hv; rcases hv with rfl | rfl | rfl <;> rfl
structure Knot where
  at_ : Int
  time : Int
instance : Inhabited Knot := ⟨⟨0, 0⟩⟩
def encKnot (n : Knot) : List Value := [.int .i64 n.at_, .int .i64 n.time]
theorem encKnot_len (n : Knot) : (encKnot n).length = 2 := rfl
/-- A node that stands behind another one. -/
def nodeF (p : Option Node) (n : Node) : Int :=
  if keyB n.key then (match p with | some q => if strLe n.key q.key then 7 else ptF n.x n.y | none => ptF n.x n.y) else 5
def nodesF (l : List Node) : Int := if 500 < l.length then 2 else chk nodeF none l
def dayMs : Int := 86400000
def knotF (p : Option Knot) (k : Knot) : Int :=
  if outB k.at_ 0 (dayMs - 1) || outB k.time 1 3600000 then 1 else (match p with | some q => if k.at_ ≤ q.at_ then 7 else 0 | none => if k.at_ = 0 then 0 else 7)
/-- What comes behind knot i. -/
def afterK (l : List Knot) (i : Nat) : Knot := if i + 1 < l.length then l.getD (i + 1) default else ⟨dayMs, (l.getD 0 default).time⟩
def fallsB (l : List Knot) (i : Nat) : Bool := decide ((afterK l i).at_ - (l.getD i default).at_ < (l.getD i default).time - (afterK l i).time)
def fallF (l : List Knot) : Nat → Int
  | 0 => 0
  | k + 1 => if fallsB l (l.length - (k + 1)) then 16 else fallF l k
def knotsF (l : List Knot) : Int :=
  if l.length = 0 then 8 else if 48 < l.length then 2 else if chk knotF none l = 0 then fallF l l.length else chk knotF none l
theorem fallF_at (l : List Knot) (k : Nat) (hk : k < l.length) : fallF l (l.length - k) = if fallsB l k then 16 else fallF l (l.length - (k + 1)) := by
  have e : l.length - k = (l.length - (k + 1)) + 1 := by omega
  rw [e, fallF, ← e]
  have e2 : l.length - (l.length - k) = k := by omega
  rw [e2]
end Go.Proofs.YtncnmadiiaidfaaGreatDoor
/- Plain: how long an arc takes at a moment. -/
namespace Go.Proofs.YtncnmadiiaidfaaGreatDoor

/-- The line between two knots. -/
def lineI (k y : Knot) (t : Int) : Int := (k.time * (y.at_ - t) + y.time * (t - k.at_)) / (y.at_ - k.at_)
def segI (l : List Knot) (t : Int) : Nat := (l.takeWhile (fun k => decide (k.at_ ≤ t))).length - 1
def timeI (l : List Knot) (at_ : Int) : Int := lineI (l.getD (segI l (at_ % dayMs)) default) (afterK l (segI l (at_ % dayMs))) (at_ % dayMs)
theorem takeWhile_len {α : Type} {p : α → Bool} : ∀ (l : List α) (k : Nat), k ≤ l.length → (∀ m (h : m < l.length), m < k → p l[m] = true) → (∀ h : k < l.length, p l[k] = false) → (l.takeWhile p).length = k
  | [], k, hk, _, _ => by simp at hk; subst hk; rfl
  | a :: l, 0, _, _, h2 => by
    have h0 : p a = false := h2 (by simp)
    rw [List.takeWhile_cons]; simp [h0]
  | a :: l, k + 1, hk, h1, h2 => by
    have h0 : p a = true := h1 0 (by simp) (by omega)
    rw [List.takeWhile_cons]; simp only [h0, if_true, List.length_cons]
    rw [takeWhile_len l k (by simpa using hk) (fun m h hm => h1 (m + 1) (by simpa using h) (by omega)) (fun h => h2 (by simpa using h))]
/-- Knots that are right. -/
structure KOk (l : List Knot) : Prop where
  pos : 0 < l.length
  le : l.length ≤ 48
  first : (l.getD 0 default).at_ = 0
  bd : ∀ i, i < l.length → (0 ≤ (l.getD i default).at_ ∧ (l.getD i default).at_ ≤ 86399999) ∧ (1 ≤ (l.getD i default).time ∧ (l.getD i default).time ≤ 3600000)
  up : ∀ i, i + 1 < l.length → (l.getD i default).at_ < (l.getD (i + 1) default).at_
theorem KOk.lt {l : List Knot} (h : KOk l) : ∀ (i j : Nat), i < j → j < l.length → (l.getD i default).at_ < (l.getD j default).at_
  | i, 0, h1, _ => absurd h1 (by omega)
  | i, j + 1, h1, h2 => by
    have h3 := h.up j h2
    rcases Nat.lt_or_ge i j with h4 | h4
    · have := KOk.lt h i j h4 (by omega); omega
    · have : i = j := by omega
      subst this; exact h3
theorem chkK_ok : ∀ (l : List Knot) (p : Option Knot), chk knotF p l = 0 → (∀ i, i < l.length → (0 ≤ (l.getD i default).at_ ∧ (l.getD i default).at_ ≤ 86399999) ∧ (1 ≤ (l.getD i default).time ∧ (l.getD i default).time ≤ 3600000)) ∧ (∀ i, i + 1 < l.length → (l.getD i default).at_ < (l.getD (i + 1) default).at_) ∧ (0 < l.length → (p = none → (l.getD 0 default).at_ = 0) ∧ ∀ q, p = some q → q.at_ < (l.getD 0 default).at_)
  | [], _, _ => ⟨fun i hi => absurd hi (by simp), fun i hi => absurd hi (by simp), fun h => absurd h (by simp)⟩
  | k :: l, p, h => by
    unfold chk at h
    by_cases h0 : knotF p k = 0
    · rw [if_pos h0] at h
      have ih := chkK_ok l (some k) h
      unfold knotF at h0
      cases h1 : (outB k.at_ 0 (dayMs - 1) || outB k.time 1 3600000) with
      | true => rw [h1, if_pos rfl] at h0; exact absurd h0 (by decide)
      | false =>
        rw [h1] at h0
        rw [if_neg (by simp)] at h0
        rw [Bool.or_eq_false_iff] at h1
        have b1 := outB_false.1 h1.1
        have b2 := outB_false.1 h1.2
        unfold dayMs at b1
        refine ⟨fun i hi => ?_, fun i hi => ?_, fun _ => ⟨fun hp => ?_, fun q hq => ?_⟩⟩
        · cases i with
          | zero => exact ⟨by show 0 ≤ k.at_ ∧ k.at_ ≤ _; omega, b2⟩
          | succ i => exact ih.1 i (by simpa using hi)
        · cases i with
          | zero => exact (ih.2.2 (by simpa using hi)).2 k rfl
          | succ i => exact ih.2.1 i (by simpa using hi)
        · subst hp
          show k.at_ = 0
          by_cases hz : k.at_ = 0
          · exact hz
          · simp [hz] at h0
        · subst hq
          show q.at_ < k.at_
          by_cases hz : k.at_ ≤ q.at_
          · simp [hz] at h0
          · omega
    · rw [if_neg h0] at h; exact absurd h h0
theorem knotsF_chk {l : List Knot} (h : knotsF l = 0) : KOk l := by
  unfold knotsF at h
  by_cases h0 : l.length = 0
  · rw [if_pos h0] at h; exact absurd h (by decide)
  rw [if_neg h0] at h
  by_cases h1 : 48 < l.length
  · rw [if_pos h1] at h; exact absurd h (by decide)
  rw [if_neg h1] at h
  by_cases h2 : chk knotF none l = 0
  · obtain ⟨a, b, c⟩ := chkK_ok l none h2
    exact ⟨by omega, by omega, (c (by omega)).1 rfl, a, b⟩
  · rw [if_neg h2] at h; exact absurd h h2
/-- i is the last knot that is not behind t. -/
theorem seg_of {l : List Knot} (h : KOk l) {t : Int} {i : Nat} (hi : i < l.length) (h1 : (l.getD i default).at_ ≤ t) (h2 : i + 1 < l.length → t < (l.getD (i + 1) default).at_) : segI l t = i := by
  unfold segI
  rw [takeWhile_len l (i + 1) hi (fun m hm hmi => ?_) (fun hk => ?_)]
  · rfl
  · have e : l[m] = l.getD m default := by rw [List.getD_eq_getElem?_getD, List.getElem?_eq_getElem hm]; rfl
    rw [e, decide_eq_true_eq]
    rcases Nat.lt_or_ge m i with h4 | h4
    · have := h.lt m i h4 hi; omega
    · have : m = i := by omega
      subst this; exact h1
  · have e : l[i + 1] = l.getD (i + 1) default := by rw [List.getD_eq_getElem?_getD, List.getElem?_eq_getElem hk]; rfl
    rw [e, decide_eq_false_iff_not]
    have := h2 hk; omega
theorem after_bd {l : List Knot} (h : KOk l) {i : Nat} (hi : i < l.length) : ((l.getD i default).at_ < (afterK l i).at_ ∧ (afterK l i).at_ ≤ 86400000) ∧ (1 ≤ (afterK l i).time ∧ (afterK l i).time ≤ 3600000) := by
  unfold afterK
  by_cases h1 : i + 1 < l.length
  · rw [if_pos h1]
    have a := h.bd (i + 1) h1
    have b := h.up i h1
    omega
  · rw [if_neg h1]
    have a := h.bd i hi
    have b := h.bd 0 h.pos
    simp only [dayMs]
    omega
theorem time_one {l : List Knot} (h : l.length = 1) (hk : KOk l) (at_ : Int) : timeI l at_ = (l.getD 0 default).time := by
  have hs : segI l (at_ % dayMs) = 0 := seg_of hk (by omega) (by
    rw [hk.first]
    have := Int.emod_nonneg at_ (show dayMs ≠ 0 by decide)
    omega) (fun h1 => by omega)
  unfold timeI
  rw [hs]
  have e : afterK l 0 = ⟨dayMs, (l.getD 0 default).time⟩ := by unfold afterK; rw [if_neg (by omega)]
  rw [e]
  unfold lineI
  rw [hk.first]
  simp only [Int.sub_zero]
  rw [← Int.mul_add, show dayMs - at_ % dayMs + at_ % dayMs = dayMs by omega]
  exact Int.mul_ediv_cancel _ (by decide)
end Go.Proofs.YtncnmadiiaidfaaGreatDoor
/- Plain: arcs and bans checked. -/
namespace Go.Proofs.YtncnmadiiaidfaaGreatDoor

structure Arc where
  key : ByteArray
  from_ : ByteArray
  to_ : ByteArray
  long : Int
  ka : Option Addr
  kc : Nat
  knots : List Knot
instance : Inhabited Arc := ⟨⟨default, default, default, 0, none, 0, []⟩⟩
structure Ban where
  from_ : ByteArray
  to_ : ByteArray
instance : Inhabited Ban := ⟨⟨default, default⟩⟩
section
variable {α : Type}
/-- The first place at which something is so. -/
def idxP (p : α → Bool) : List α → Nat → Int
  | [], _ => -1
  | n :: l, i => if p n then (i : Int) else idxP p l (i + 1)
def findI (p : α → Bool) (l : List α) : Int := idxP p l 0
theorem idxP_at [Inhabited α] (p : α → Bool) : ∀ (l : List α) (j k : Nat), k < l.length → p (l.getD k default) = true → (∀ i, i < k → p (l.getD i default) = false) → idxP p l j = ((j + k : Nat) : Int)
  | [], _, k, hk, _, _ => absurd hk (by simp)
  | n :: l, j, 0, _, h, _ => by
    have h' : p n = true := h
    simp [idxP, h']
  | n :: l, j, k + 1, hk, h, hlo => by
    have h0 : p n = false := hlo 0 (by omega)
    rw [idxP, h0, if_neg (by simp), idxP_at p l (j + 1) k (by simpa using hk) h (fun i hi => hlo (i + 1) (by omega))]
    omega
theorem idxP_no [Inhabited α] (p : α → Bool) : ∀ (l : List α) (j : Nat), (∀ k, k < l.length → p (l.getD k default) = false) → idxP p l j = -1
  | [], _, _ => rfl
  | n :: l, j, h => by
    have h0 : p n = false := h 0 (by simp)
    rw [idxP, h0, if_neg (by simp)]
    exact idxP_no p l (j + 1) (fun k hk => h (k + 1) (by simpa using hk))
end

def nodeI (l : List Node) (s : ByteArray) : Int := findI (fun n => decide (n.key = s)) l
/-- Sorted by key. -/
def SortN (l : List Node) : Prop := l.Pairwise fun a b => ltS a.key b.key
end Go.Proofs.YtncnmadiiaidfaaGreatDoor
