/- What RidesPriced leans on: Full and Cheapest for all arguments, what stands fast. -/
import Derived.Test.YtemaiikgnogfhaaGreatDoorQFullB
import Derived.Deep.DeepCutAuto
import Derived.Test.YtemaiikgnogfhaaGreatDoorQG11
import Derived.Test.YtemaiikgnogfhaaGreatDoorQFullR
import Derived.Test.YtemaiikgnogfhaaGreatDoorQPriR
import Derived.Test.YtemaiikgnogfhaaGreatDoorQJouR
import Derived.Test.YtemaiikgnogfhaaGreatDoorQStJO
import Derived.Test.YtemaiikgnogfhaaGreatDoorQZonesS
import Derived.Test.YtemaiikgnogfhaaGreatDoorQG1
import Derived.Test.YtemaiikgnogfhaaGreatDoorQG17
import Derived.Test.YtemaiikgnogfhaaGreatDoorQG0
import Derived.Sort.Statements
import Derived.Test.YtemaiikgnogfhaaGreatDoorQG4
import Derived.Test.YtemaiikgnogfhaaGreatDoorQDivB
import Derived.Test.YtemaiikgnogfhaaGreatDoorQShelfC
import Derived.Shelf.Small.Strs
import Derived.Test.YtemaiikgnogfhaaGreatDoorQShelfP
import Derived.Test.YtemaiikgnogfhaaGreatDoorQFullA
import Derived.Shelf.SlSortCmp.NoneTotal
import Derived.Maps.Keyed
import Derived.DeepKeys4
import Derived.KernelRfl
namespace Go.Proofs.YtemaiikgnogfhaaGreatDoor
open Go.RowKit

theorem RdZones.gr {s : Nat} {w w' : World} {lo : Nat} {A : Option Addr} {zs : List Zone} (h : RdZones w lo A zs) (hn : Gr s w w') (hs : s < lo) : RdZones w' lo A zs :=
  ⟨h.1.gr hn hs, fun x hx => ⟨(h.2 x hx).1.gr hn hs, (h.2 x hx).2⟩⟩
theorem RdZones.low {w : World} {lo lo' : Nat} {A : Option Addr} {zs : List Zone} (h : RdZones w lo A zs) (hl : lo' ≤ lo) : RdZones w lo' A zs :=
  ⟨h.1.low hl, fun x hx => ⟨(h.2 x hx).1.low hl, (h.2 x hx).2⟩⟩
theorem RdPrices.gr {s : Nat} {w w' : World} {lo : Nat} {A : Option Addr} {ps : List Price} (h : RdPrices w lo A ps) (hn : Gr s w w') (hs : s < lo) : RdPrices w' lo A ps := ⟨h.1.gr hn hs, h.2⟩
theorem RdPrices.low {w : World} {lo lo' : Nat} {A : Option Addr} {ps : List Price} (h : RdPrices w lo A ps) (hl : lo' ≤ lo) : RdPrices w lo' A ps := ⟨h.1.low hl, h.2⟩
theorem RdJours.gr {s : Nat} {w w' : World} {lo : Nat} {A : Option Addr} {ts : List Jour} (h : RdJours w lo A ts) (hn : Gr s w w') (hs : s < lo) : RdJours w' lo A ts :=
  ⟨h.1.gr hn hs, fun x hx => ⟨(h.2 x hx).1.gr hn hs, (h.2 x hx).2⟩⟩
theorem RdJours.low {w : World} {lo lo' : Nat} {A : Option Addr} {ts : List Jour} (h : RdJours w lo A ts) (hl : lo' ≤ lo) : RdJours w lo' A ts :=
  ⟨h.1.low hl, fun x hx => ⟨(h.2 x hx).1.low hl, (h.2 x hx).2⟩⟩
theorem w_Or3R (a b d : Int) (g : Nat) (w : World) (hg : w.heap[g]? = some (.cells #[.int .i64 a, .int .i64 b, .int .i64 d] 37 (0, 0))) :
    Calls Tryz.prog 14 #[.slice (some ⟨g, 0, none⟩) 3 3] w fun e w' => e = .returned (.int .i64 (orI [a, b, d])) ∧ w = w' := by
  have hR : Rd w 0 (some ⟨g, 0, none⟩) 1 encI [a, b, d] := Rd.lit hg (Nat.zero_le _) (fun _ => rfl) rfl
  exact w_OrE 0 _ 3 [a, b, d] w hR (by simp)
/-- What stands fast once all is drawn. -/
structure RpB (w wb : World) (D B : Option Addr) (bt ot b8 : Nat) (zs : List Zone) (ps : List Price) (t : Jour) (x : Price) : Prop where
  z : RdZones wb 0 D zs
  zl : zs.length ≤ 100
  p : RdPrices wb 0 B ps
  pl : ps.length ≤ 50
  tr : Rd wb 0 t.a 1 encS t.nodes
  ts : Small t.nodes
  tn : t.nodes.length ≤ 2000
  tk1 : t.ride.size ≤ 1000000
  tk2 : t.rider.size ≤ 1000000
  tb : bt < wb.heap.size
  tc : ∀ j u, (encJ t)[j]? = some u → wb.cell? ⟨bt, ot + j, none⟩ = some u
  one : Rd wb 0 (some ⟨bt, ot, none⟩) 6 encJ [t]
  xk : x.key.size ≤ 1000000
  xb : wb.heap[b8]? = some (.cells (encP x).toArray 29 (0, 0))
  nx : Nx w wb
theorem RpB.then {w wb wc : World} {D B : Option Addr} {bt ot b8 : Nat} {zs : List Zone} {ps : List Price} {t : Jour} {x : Price} (h : RpB w wb D B bt ot b8 zs ps t x) (hn : Nx wb wc) : RpB w wc D B bt ot b8 zs ps t x :=
  ⟨h.z.nx hn, h.zl, h.p.nx hn, h.pl, h.tr.nx hn, h.ts, h.tn, h.tk1, h.tk2, Nat.lt_of_lt_of_le h.tb hn.sz, fun j u hu => nx_cell hn h.tb (h.tc j u hu), h.one.nx hn, h.xk, (hn.block b8 (Array.getElem?_eq_some_iff.1 h.xb).1).trans h.xb, h.nx.trans hn⟩
end Go.Proofs.YtemaiikgnogfhaaGreatDoor
/- Plain: passes, what is wrong with them, for which trips they count; what trips cost. -/
namespace Go.Proofs.YtemaiikgnogfhaaGreatDoor

structure Pass where
  key : ByteArray
  rider : ByteArray
  from_ : Int
  to_ : Int
  a : Option Addr
  sc : Nat
  zones : List ByteArray
  pay : Int
  most : Int
instance : Inhabited Pass := ⟨⟨default, default, 0, 0, none, 0, [], 0, 0⟩⟩
def encX (p : Pass) : List Value := [.string p.key, .string p.rider, .int .i64 p.from_, .int .i64 p.to_, .slice p.a p.zones.length p.sc, .int .i64 p.pay, .int .i64 p.most]
def winB (f t : Int) : Bool := !outB f 0 t && decide (t ≤ 345686400000)
def winF (f t : Int) : Int := if winB f t then 0 else 1
def hasK (zs : List Zone) (s : ByteArray) : Bool := zs.any (fun z => decide (z.key = s))
def behB (q : Option ByteArray) (s : ByteArray) : Bool := match q with | some r => strLe s r | none => false
/-- A zone of a pass: it is there, it stands behind the one before. -/
def zoneK (zs : List Zone) (q : Option ByteArray) (s : ByteArray) : Int := if hasK zs s then (if behB q s then 7 else 0) else 8
def zonesK (zs : List Zone) (l : List ByteArray) : Int := chk (zoneK zs) none l
def afterX (q : Option Pass) (p : Pass) : Bool := match q with | some q => strLe p.key q.key | none => false
def payB (p : Pass) : Bool := outB p.pay 0 100 || outB p.most 0 maxCt
def passE (zs : List Zone) (q : Option Pass) (p : Pass) : Int :=
  if keyB p.key && keyB p.rider then
    (if afterX q p then 7 else
      if winB p.from_ p.to_ then (if zonesK zs p.zones = 0 then (if payB p then 1 else 0) else zonesK zs p.zones) else 1)
  else 5
def passesF (zs : List Zone) (ps : List Pass) : Int := if 300 < ps.length then 2 else chk (passE zs) none ps
def passF (zs : List Zone) (ps : List Pass) : Int := if zonesF zs = 0 then passesF zs ps else zonesF zs

theorem passE_key {zs : List Zone} {q : Option Pass} {p : Pass} (h : (keyB p.key && keyB p.rider) = false) : passE zs q p = 5 := by unfold passE; rw [h]; rfl
theorem passE_after {zs : List Zone} {q : Option Pass} {p : Pass} (h : (keyB p.key && keyB p.rider) = true) (h2 : afterX q p = true) : passE zs q p = 7 := by unfold passE; rw [h, h2]; rfl
theorem passE_win {zs : List Zone} {q : Option Pass} {p : Pass} (h : (keyB p.key && keyB p.rider) = true) (h2 : afterX q p = false) (h3 : winB p.from_ p.to_ = false) : passE zs q p = 1 := by unfold passE; rw [h, h2, h3]; rfl
theorem passE_zone {zs : List Zone} {q : Option Pass} {p : Pass} (h : (keyB p.key && keyB p.rider) = true) (h2 : afterX q p = false) (h3 : winB p.from_ p.to_ = true) (h4 : zonesK zs p.zones ≠ 0) : passE zs q p = zonesK zs p.zones := by unfold passE; rw [h, h2, h3]; simp [h4]
theorem passE_pay {zs : List Zone} {q : Option Pass} {p : Pass} (h : (keyB p.key && keyB p.rider) = true) (h2 : afterX q p = false) (h3 : winB p.from_ p.to_ = true) (h4 : zonesK zs p.zones = 0) (h5 : payB p = true) : passE zs q p = 1 := by unfold passE; rw [h, h2, h3, h5]; simp [h4]
theorem passE_zero {zs : List Zone} {q : Option Pass} {p : Pass} (h : (keyB p.key && keyB p.rider) = true) (h2 : afterX q p = false) (h3 : winB p.from_ p.to_ = true) (h4 : zonesK zs p.zones = 0) (h5 : payB p = false) : passE zs q p = 0 := by unfold passE; rw [h, h2, h3, h5]; simp [h4]
structure PassOk (p : Pass) : Prop where
  pay : 0 ≤ p.pay ∧ p.pay ≤ 100
  most : 0 ≤ p.most ∧ p.most ≤ 1000000000
theorem passE_ok {zs : List Zone} {q : Option Pass} {p : Pass} (h : passE zs q p = 0) : PassOk p ∧ afterX q p = false := by
  cases hk : (keyB p.key && keyB p.rider) with
  | false => rw [passE_key hk] at h; exact absurd h (by decide)
  | true =>
    cases ha : afterX q p with
    | true => rw [passE_after hk ha] at h; exact absurd h (by decide)
    | false =>
      cases hw : winB p.from_ p.to_ with
      | false => rw [passE_win hk ha hw] at h; exact absurd h (by decide)
      | true =>
        by_cases hz : zonesK zs p.zones = 0
        · cases hp : payB p with
          | true => rw [passE_pay hk ha hw hz hp] at h; exact absurd h (by decide)
          | false =>
            unfold payB at hp
            rw [Bool.or_eq_false_iff] at hp
            have e1 := outB_no hp.1
            have e2 := outB_no hp.2
            exact ⟨⟨e1, e2.1, e2.2⟩, rfl⟩
        · rw [passE_zone hk ha hw hz] at h; exact absurd h hz
theorem passesF_ok {zs : List Zone} {ps : List Pass} (h : passesF zs ps = 0) : ∀ p ∈ ps, PassOk p := fun p hp => by
  unfold passesF at h
  split at h
  · exact absurd h (by decide)
  · obtain ⟨q, hq⟩ := chk_allq h p hp
    exact (passE_ok hq).1
/-- Whether a pass counts for a trip that comes to these zones. -/
def countsZ (p : Pass) (t : Jour) (cr : List ByteArray) : Bool :=
  !(!decide (p.rider = t.rider) || decide (t.from_ < p.from_) || decide (p.to_ ≤ t.from_)) && (decide (p.zones.length = 0) || cr.all (memB p.zones))
/-- What is paid with a pass: n of 'whole', a part, no more than what the cap leaves. -/
def capN (whole : Int) (x : Pass) (spent : Int) : Int := if 0 < x.most then min (begI (whole * x.pay) 100) (max 0 (x.most - spent)) else begI (whole * x.pay) 100
/-- The best pass from the k-th on. -/
def bestX (cnt : Pass → Bool) (n : Nat → Pass → Int) : Nat → List Pass → Int × Option Nat → Int × Option Nat
  | _, [], b => b
  | k, x :: xs, b => bestX cnt n (k + 1) xs (if cnt x then (if b.2 = none ∨ n k x < b.1 then (n k x, some k) else b) else b)
structure Paid where
  t : Jour
  cents : Int
  by_ : Option Nat
def dayJ (t : Jour) : Int := t.from_ / 86400000
def spentD (done : List Paid) (k : Nat) (day : Int) : Int := ((done.filter (fun d => decide (d.by_ = some k) && decide (dayJ d.t = day))).map Paid.cents).sum
def payOne (zs : List Zone) (p : Price) (xs : List Pass) (done : List Paid) (t : Jour) : Paid :=
  let r := bestX (fun x => countsZ x t (crossO zs t.nodes)) (fun k x => capN (fullI zs p t) x (spentD done k (dayJ t))) 0 xs (fullI zs p t, none)
  ⟨t, r.1, r.2⟩
def payAll (zs : List Zone) (p : Price) (xs : List Pass) : List Paid → List Jour → List Paid
  | done, [] => done
  | done, t :: l => payAll zs p xs (done ++ [payOne zs p xs done t]) l
theorem payAll_snoc (zs : List Zone) (p : Price) (xs : List Pass) : ∀ (done : List Paid) (l : List Jour) (t : Jour), payAll zs p xs done (l ++ [t]) = payAll zs p xs done l ++ [payOne zs p xs (payAll zs p xs done l) t]
  | done, [], t => rfl
  | done, y :: l, t => by
    show payAll zs p xs (done ++ [payOne zs p xs done y]) (l ++ [t]) = _
    rw [payAll_snoc zs p xs _ l t]; rfl
theorem payAll_len (zs : List Zone) (p : Price) (xs : List Pass) : ∀ (done : List Paid) (l : List Jour), (payAll zs p xs done l).length = done.length + l.length
  | done, [] => rfl
  | done, y :: l => by
    show (payAll zs p xs (done ++ [payOne zs p xs done y]) l).length = _
    rw [payAll_len zs p xs _ l]; simp; omega
theorem bestX_snoc (cnt : Pass → Bool) (n : Nat → Pass → Int) : ∀ (k : Nat) (xs : List Pass) (b : Int × Option Nat) (x : Pass), bestX cnt n k (xs ++ [x]) b = (let b' := bestX cnt n k xs b; if cnt x then (if b'.2 = none ∨ n (k + xs.length) x < b'.1 then (n (k + xs.length) x, some (k + xs.length)) else b') else b')
  | k, [], b, x => rfl
  | k, y :: xs, b, x => by
    show bestX cnt n (k + 1) (xs ++ [x]) _ = _
    rw [bestX_snoc cnt n (k + 1) xs _ x, show k + 1 + xs.length = k + (y :: xs).length by simp; omega]
    rfl
/-- What is paid lies between 0 and the whole. -/
theorem capN_bd {whole spent : Int} {x : Pass} (hx : PassOk x) (h0 : 0 ≤ whole) : 0 ≤ capN whole x spent ∧ capN whole x spent ≤ whole := by
  have hm : 0 ≤ whole * x.pay := Int.mul_nonneg h0 hx.pay.1
  have hM : whole * x.pay ≤ whole * 100 := Int.mul_le_mul_of_nonneg_left hx.pay.2 h0
  have hb := begI_bd (n := whole * x.pay) (part := 100) (B := whole) (by decide) hm hM
  unfold capN
  split
  · omega
  · exact hb
theorem bestX_bd {cnt : Pass → Bool} {n : Nat → Pass → Int} {B : Int} : ∀ (k : Nat) (xs : List Pass) (b : Int × Option Nat), (∀ j x, x ∈ xs → 0 ≤ n j x ∧ n j x ≤ B) → 0 ≤ b.1 ∧ b.1 ≤ B → 0 ≤ (bestX cnt n k xs b).1 ∧ (bestX cnt n k xs b).1 ≤ B
  | _, [], b, _, hb => hb
  | k, x :: xs, b, h, hb => by
    refine bestX_bd (k + 1) xs _ (fun j y hy => h j y (List.mem_cons_of_mem _ hy)) ?_
    split
    · split
      · exact h k x (List.mem_cons_self ..)
      · exact hb
    · exact hb
/-- Whoever is chosen stands in the list. -/
theorem bestX_by {cnt : Pass → Bool} {n : Nat → Pass → Int} : ∀ (k : Nat) (xs : List Pass) (b : Int × Option Nat) (j : Nat), (bestX cnt n k xs b).2 = some j → b.2 = some j ∨ (k ≤ j ∧ j < k + xs.length)
  | _, [], b, j, h => .inl h
  | k, x :: xs, b, j, h => by
    rcases bestX_by (k + 1) xs _ j h with h | h
    · split at h
      · split at h
        · right; injection h with h; subst h; simp
        · exact .inl h
      · exact .inl h
    · right; simp; omega
theorem fullI_bd {zs : List Zone} {p : Price} {t : Jour} (hp : PriceOk p) : 0 ≤ fullI zs p t ∧ fullI zs p t ≤ 1000000000 := by
  unfold fullI
  have h1 := hp.least
  have h2 := hp.most
  have h3 := hp.lm
  generalize costH p t _ = c
  omega
theorem payOne_bd {zs : List Zone} {p : Price} {xs : List Pass} {done : List Paid} {t : Jour} (hp : PriceOk p) (hx : ∀ x ∈ xs, PassOk x) : 0 ≤ (payOne zs p xs done t).cents ∧ (payOne zs p xs done t).cents ≤ fullI zs p t := by
  have hf := fullI_bd (zs := zs) (t := t) hp
  exact bestX_bd 0 xs _ (fun j x hx' => capN_bd (hx x hx') hf.1) ⟨hf.1, Int.le_refl _⟩
theorem payAll_bd {zs : List Zone} {p : Price} {xs : List Pass} (hp : PriceOk p) (hx : ∀ x ∈ xs, PassOk x) : ∀ (l : List Jour) (done : List Paid), (∀ d ∈ done, 0 ≤ d.cents ∧ d.cents ≤ 1000000000) → ∀ d ∈ payAll zs p xs done l, 0 ≤ d.cents ∧ d.cents ≤ 1000000000
  | [], done, h, d, hd => h d hd
  | t :: l, done, h, d, hd => by
    refine payAll_bd hp hx l _ (fun e he => ?_) d hd
    rcases List.mem_append.1 he with he | he
    · exact h e he
    · rw [List.mem_singleton.1 he]
      have h1 := payOne_bd (zs := zs) (done := done) (t := t) hp hx
      have h2 := (fullI_bd (zs := zs) (t := t) hp).2
      omega
theorem sum_bd : ∀ (l : List Int) (B : Int), (∀ n ∈ l, 0 ≤ n ∧ n ≤ B) → 0 ≤ l.sum ∧ l.sum ≤ B * l.length
  | [], B, _ => by simp
  | n :: l, B, h => by
    have h1 := h n (List.mem_cons_self ..)
    have h2 := sum_bd l B (fun m hm => h m (List.mem_cons_of_mem _ hm))
    simp only [List.sum_cons, List.length_cons]
    have : B * ((l.length + 1 : Nat) : Int) = B * l.length + B := by rw [Int.natCast_add, Int.mul_add]; omega
    omega
theorem spentD_bd {done : List Paid} (h : ∀ d ∈ done, 0 ≤ d.cents ∧ d.cents ≤ 1000000000) (k : Nat) (day : Int) : 0 ≤ spentD done k day ∧ spentD done k day ≤ 1000000000 * done.length := by
  unfold spentD
  have h1 := sum_bd ((done.filter (fun d => decide (d.by_ = some k) && decide (dayJ d.t = day))).map Paid.cents) 1000000000 (fun n hn => by
    obtain ⟨d, hd, rfl⟩ := List.mem_map.1 hn
    exact h d (List.mem_filter.1 hd).1)
  rw [List.length_map] at h1
  have h2 := List.length_filter_le (fun d => decide (d.by_ = some k) && decide (dayJ d.t = day)) done
  omega
theorem spentD_snoc (done : List Paid) (d : Paid) (k : Nat) (day : Int) : spentD (done ++ [d]) k day = spentD done k day + (if d.by_ = some k ∧ dayJ d.t = day then d.cents else 0) := by
  unfold spentD
  rw [List.filter_append, List.map_append, List.sum_append]
  congr 1
  by_cases h : d.by_ = some k ∧ dayJ d.t = day
  · rw [if_pos h]; simp [h.1, h.2]
  · rw [if_neg h]
    have : (decide (d.by_ = some k) && decide (dayJ d.t = day)) = false := by
      cases h1 : decide (d.by_ = some k) <;> cases h2 : decide (dayJ d.t = day) <;> simp_all
    simp [this]
end Go.Proofs.YtemaiikgnogfhaaGreatDoor
/- Plain: trips in the order in which they began; the one list of them; what each costs; what each pays. -/
namespace Go.Proofs.YtemaiikgnogfhaaGreatDoor
open Go.Sort

/-- One trip began before another. -/
def lexJ (a b : Jour) : Prop := a.from_ < b.from_ ∨ (a.from_ = b.from_ ∧ ltS a.ride b.ride)
theorem lexJ_irrefl (a : Jour) : ¬ lexJ a a := fun h => by
  rcases h with h | ⟨_, h⟩
  · omega
  · exact ltS_irrefl _ h
theorem lexJ_trans {a b c : Jour} (h : lexJ a b) (k : lexJ b c) : lexJ a c := by
  rcases h with h | ⟨h1, h2⟩ <;> rcases k with k | ⟨k1, k2⟩
  · exact .inl (by omega)
  · exact .inl (by omega)
  · exact .inl (by omega)
  · exact .inr ⟨by omega, ltS_trans h2 k2⟩
/-- The one list in which they began. -/
def IsOrd (l O : List Jour) : Prop := O.Perm l ∧ O.Pairwise lexJ
theorem ord_uniq : ∀ {a b : List Jour}, a.Perm b → a.Pairwise lexJ → b.Pairwise lexJ → a = b
  | [], b, h, _, _ => (List.nil_perm.1 h).symm
  | x :: a, [], h, _, _ => by have := h.length_eq; simp at this
  | x :: a, y :: b, h, h1, h2 => by
    rw [List.pairwise_cons] at h1 h2
    have e : x = y := by
      have hx : x ∈ y :: b := h.subset (List.mem_cons_self ..)
      have hy : y ∈ x :: a := h.symm.subset (List.mem_cons_self ..)
      rcases List.mem_cons.1 hx with hx | hx
      · exact hx
      · rcases List.mem_cons.1 hy with hy | hy
        · exact hy.symm
        · exact absurd (lexJ_trans (h1.1 y hy) (h2.1 x hx)) (lexJ_irrefl _)
    subst e
    rw [ord_uniq (List.perm_cons x |>.1 h) h1.2 h2.2]
def SortR (l : List Jour) : Prop := l.Pairwise (fun a b => ltS a.ride b.ride)
theorem afterJ_lt {q t : Jour} (h : afterJ (some q) t = false) : ltS q.ride t.ride := strLe_lt h
theorem jourE_after_no {q : Option Jour} {t : Jour} (h : jourE q t = 0) : afterJ q t = false := by
  unfold jourE at h
  cases hk : (keyB t.ride && keyB t.rider) with
  | false => rw [hk] at h; simp at h
  | true =>
    rw [hk, if_pos rfl] at h
    cases ha : afterJ q t with
    | false => rfl
    | true => rw [ha] at h; simp at h
theorem chkJ_sorted : ∀ (q : Option Jour) (l : List Jour), chk jourE q l = 0 → SortR l ∧ ∀ y, q = some y → ∀ t ∈ l, ltS y.ride t.ride
  | _, [], _ => ⟨List.Pairwise.nil, fun _ _ t ht => by cases ht⟩
  | q, x :: l, h => by
    unfold chk at h
    by_cases hx : jourE q x = 0
    · rw [if_pos hx] at h
      obtain ⟨h1, h2⟩ := chkJ_sorted (some x) l h
      have ha := jourE_after_no hx
      refine ⟨List.pairwise_cons.2 ⟨fun t ht => h2 x rfl t ht, h1⟩, fun y hy t ht => ?_⟩
      subst hy
      have h3 := afterJ_lt ha
      rcases List.mem_cons.1 ht with rfl | ht
      · exact h3
      · exact ltS_trans h3 (h2 x rfl t ht)
    · rw [if_neg hx] at h; exact absurd h hx
theorem joursF_sorted {l : List Jour} (h : joursF l = 0) : SortR l := by
  unfold joursF at h
  split at h
  · exact absurd h (by decide)
  · exact (chkJ_sorted none l h).1
/-- What a trip of this name pays. -/
def costOf (P : List Paid) (r : ByteArray) : Int := ((P.find? (fun d => decide (d.t.ride = r))).map Paid.cents).getD 0
theorem payAll_t (zs : List Zone) (p : Price) (xs : List Pass) : ∀ (l : List Jour) (done : List Paid), (payAll zs p xs done l).map Paid.t = done.map Paid.t ++ l
  | [], done => by simp [payAll]
  | t :: l, done => by
    show (payAll zs p xs (done ++ [payOne zs p xs done t]) l).map Paid.t = _
    rw [payAll_t zs p xs l]
    simp [payOne]
/-- In a list of distinct names each one is found. -/
theorem costOf_at {P : List Paid} (h : (P.map Paid.t).Pairwise (fun a b => a.ride ≠ b.ride)) {d : Paid} (hd : d ∈ P) : costOf P d.t.ride = d.cents := by
  induction P with
  | nil => cases hd
  | cons x P ih =>
    rw [List.map_cons, List.pairwise_cons] at h
    unfold costOf
    rw [List.find?_cons]
    rcases List.mem_cons.1 hd with rfl | hd'
    · simp
    · have hne : x.t.ride ≠ d.t.ride := h.1 d.t (List.mem_map_of_mem hd')
      rw [show decide (x.t.ride = d.t.ride) = false from decide_eq_false hne]
      exact ih h.2 hd'
theorem sortR_ne {l : List Jour} (h : SortR l) : l.Pairwise (fun a b => a.ride ≠ b.ride) := h.imp (fun hab e => by rw [e] at hab; exact ltS_irrefl _ hab)
theorem ord_ne {l O : List Jour} (h : IsOrd l O) (hs : SortR l) : O.Pairwise (fun a b => a.ride ≠ b.ride) :=
  (List.Perm.pairwise_iff (fun {_ _} h => fun e => h e.symm) h.1).2 (sortR_ne hs)
/-- What the trips cost, in the list's order. -/
def costL (zs : List Zone) (p : Price) (xs : List Pass) (O l : List Jour) : List Int := l.map (fun t => costOf (payAll zs p xs [] O) t.ride)
end Go.Proofs.YtemaiikgnogfhaaGreatDoor
/- cmp.Compare of numbers. -/
namespace Go.Proofs.YtemaiikgnogfhaaGreatDoor
open Go.RowKit

theorem w_isNaN (a : Int) (w : World) : Calls Tryz.prog 104 #[.int .i64 a] w fun e w' => e = .returned (.bool false) ∧ w = w' := by
  go_enter Tryz.func104, Tryz.ntmps104
  go_wp2
  go_ret
  exact ⟨rfl, rfl⟩

theorem w_Compare (a b : Int) (w : World) : Calls Tryz.prog 78 #[.int .i64 a, .int .i64 b] w fun e w' => e = .returned (.int .i64 (cmpI a b)) ∧ w = w' := by
  by_cases h1 : a < b
  · go_enter Tryz.func78, Tryz.ntmps78
    go_wp2_with (go_at_call 104; refine (w_isNaN _ _).mono ?_; rintro e w' ⟨rfl, rfl⟩)
    go_ret
    exact ⟨ret_int (by unfold cmpI; simp [h1]), rfl⟩
  · by_cases h2 : b < a
    · go_enter Tryz.func78, Tryz.ntmps78
      go_wp2_with (go_at_call 104; refine (w_isNaN _ _).mono ?_; rintro e w' ⟨rfl, rfl⟩)
      go_ret
      exact ⟨ret_int (by unfold cmpI; simp [h1, h2]), rfl⟩
    · go_enter Tryz.func78, Tryz.ntmps78
      go_wp2_with (go_at_call 104; refine (w_isNaN _ _).mono ?_; rintro e w' ⟨rfl, rfl⟩)
      go_ret
      exact ⟨ret_int (by unfold cmpI; rw [if_neg (by omega), if_neg (by omega)]), rfl⟩

end Go.Proofs.YtemaiikgnogfhaaGreatDoor
/- The stable sort of places by what is left of each. -/
namespace Go.Proofs.YtemaiikgnogfhaaGreatDoor
open Go.RowKit Go.Sort Go.Proofs Go.Shelf

section
variable {α : Type} [Inhabited α] {enc : α → Value}
theorem holds_one {w : World} {base g cap n : Nat} {e : TypeId} {xs : List α} (hn : xs.length = n) (h : w.ownsRow base e 1 (.slice (some ⟨g, 0, none⟩) n cap) n (xs.map enc)) : Holds enc w g 0 xs.toArray := by
  intro j hj
  have hj' : j < n := by rw [← hn]; simpa using hj
  refine ⟨?_, by rw [Nat.zero_add]; exact h.frozenAt j⟩
  rw [Nat.zero_add, h.cellAt j (by omega), List.getElem?_map]
  rw [List.getElem?_eq_getElem (by omega)]
  rw [getElem!_pos xs.toArray j hj]
  simp
theorem own_put {w : World} {base g cap n : Nat} {e : TypeId} {xs : List Value} (h : w.ownsRow base e 1 (.slice (some ⟨g, 0, none⟩) n cap) n xs) (ys : List α) (hy : ys.length = n) (m : Nat) :
    ((putRow enc w g 0 ys.toArray).drewN m).ownsRow base e 1 (.slice (some ⟨g, 0, none⟩) n cap) n (ys.map enc) ∧ Gr g w ((putRow enc w g 0 ys.toArray).drewN m) := by
  have hlt := (h.lt g rfl)
  constructor
  · rcases h.2 with ⟨h0, _⟩ | ⟨g', cap', cur, hv, hg, hh, hnc, hcm, hcs, ht⟩
    · cases h0
    · cases hv
      refine ⟨by simp [hy], .inr ⟨g, cap, putCells enc 0 ys.toArray cur, rfl, hlt.1, ?_, hnc, hcm, by simp [putCells, hcs], ?_⟩⟩
      · show (putRow enc w g 0 ys.toArray).heap[g]? = _
        simp [putRow, mapBlock, Array.getElem?_modify, hh, onCells]
      · apply List.ext_getElem?
        intro j
        by_cases hj : j < n
        · rw [List.getElem?_take_of_lt (by omega), Array.getElem?_toList]
          have hjc : j < cur.size := by omega
          have hjy : j < ys.length := by omega
          rw [List.getElem?_map, List.getElem?_eq_getElem hjy]
          simp [putCells, hjc, hy, hj]
        · rw [List.getElem?_take_eq_none (by omega), List.getElem?_eq_none (by simp; omega)]
  · refine ⟨rfl, rfl, rfl, by simp [putRow, mapBlock], fun k hkk hne => ?_⟩
    have : g ≠ k := fun e => hne (by rw [e])
    show (putRow enc w g 0 ys.toArray).heap[k]? = _
    simp [putRow, mapBlock, Array.getElem?_modify, this]
end

theorem gr_sortWorld {α : Type} [Inhabited α] {enc : α → Value} {w : World} {g m : Nat} {d : Array α} {os : Array Obj} : w.grownBy (sortWorld enc w g 0 m d os) (some g) := by
  refine ⟨rfl, rfl, rfl, by simp [sortWorld, putRow, mapBlock, Sort.ahead, grow], fun k hkk hne => ?_⟩
  unfold sortWorld
  rw [heap_grow_old _ _ (by simpa [putRow, mapBlock, Sort.ahead] using hkk)]
  have : g ≠ k := fun e => hne (by rw [e])
  simp [putRow, mapBlock, Sort.ahead, Array.getElem?_modify, this]

def encF {n : Nat} (x : Fin n) : Value := .int .i64 (x.val : Int)
end Go.Proofs.YtemaiikgnogfhaaGreatDoor
/- strings.Compare. -/
namespace Go.Proofs.YtemaiikgnogfhaaGreatDoor
open Go.RowKit Go.Shelf Go.Proofs

theorem w_CompareS (a b : ByteArray) (w : World) : Calls Tryz.prog 79 #[.string a, .string b] w fun e w' => e = .returned (.int .i64 (cmpS a b)) ∧ w = w' :=
  (Any.strings_Compare Tryz.compareStr a b w).mono fun _ _ ⟨h1, h2⟩ => ⟨h1, h2.symm⟩
end Go.Proofs.YtemaiikgnogfhaaGreatDoor
/- cmp.Or of numbers. -/
namespace Go.Proofs.YtemaiikgnogfhaaGreatDoor
open Go.RowKit

set_option maxHeartbeats 400000 in
theorem w_OrI (lo : Nat) (A : Option Addr) (c : Nat) (zs : List Int) (w : World) (hR : Rd w lo A 1 encI zs) (hl : zs.length ≤ 65536) :
    Calls Tryz.prog 77 #[.slice A zs.length c] w fun e w' => e = .returned (.int .i64 (orI zs)) ∧ w = w' := by
  generalize hn : zs.length = n at *
  have HR := hide hR
  have HN := hide hn
  clear hR hn
  go_enter Tryz.func77, Tryz.ntmps77
  go_wp2
  go_loop [2, 5, 8] (fun _ _ i => ∃ k : Nat, k ≤ n ∧ i = .int .i64 k ∧ orI zs = orI (zs.drop k)) (fun _ _ i => n - (intOf i).toNat)
  case atStart => exact ⟨0, Nat.zero_le _, rfl, rfl⟩
  case round =>
    obtain ⟨k, hk, rfl, hq⟩ := hrel
    have HQ := hide hq
    clear hq
    by_cases hlt : k < n
    · have hlt' : k < zs.length := by have := HN.out; omega
      obtain ⟨b, off, rfl, _, hb, _, hc⟩ := HR.out.open_ (Nx.refl w) (by omega)
      have c0 : w.cell? ⟨b, off + k, none⟩ = some (.int .i64 zs[k]) := by have := hc k hlt' 0 _ rfl; simpa using this
      clear hc
      have HD := hide (orI_drop zs k hlt')
      by_cases hz : zs[k] = 0
      · have hz' : (zs[k] != 0) = false := by simpa using hz
        have HZ := hide hz
        clear hz
        generalize zs[k] = z at *
        go_wp2
        go_round
        case rel => exact ⟨k + 1, by omega, by go_num, by rw [HQ.out, HD.out, if_pos HZ.out]⟩
        case measure => simp [intOf]; omega
      · have hz' : (zs[k] != 0) = true := by simpa using hz
        have HZ := hide hz
        clear hz
        generalize zs[k] = z at *
        go_wp2
        go_ret
        exact ⟨ret_int (by rw [HQ.out, HD.out, if_neg HZ.out]), rfl⟩
    · have ek : k = n := by omega
      subst ek
      clear hlt
      go_wp2
      go_ret
      exact ⟨ret_int (by rw [HQ.out, List.drop_of_length_le (by have := HN.out; omega)]; rfl), rfl⟩
end Go.Proofs.YtemaiikgnogfhaaGreatDoor
/- Trips in the order in which they began: the program's sort of their places, the reference's stable sort of a copy. -/
namespace Go.Proofs.YtemaiikgnogfhaaGreatDoor
open Go.RowKit Go.Sort Go.Proofs Go.Shelf

/-- The comparison of two trips by their places. -/
def cfJ (l : List Jour) (i j : Nat) : Int := orI [cmpI (l.getD i default).from_ (l.getD j default).from_, cmpS (l.getD i default).ride (l.getD j default).ride]
set_option maxRecDepth 100000 in
set_option maxHeartbeats 2000000 in
theorem w_fr1 (lo : Nat) (A : Option Addr) (c : Nat) (l : List Jour) (b7 i j : Nat) (hi : i < l.length) (hj : j < l.length) (hl : l.length ≤ 1000) (W : World) (hb : W.cell? ⟨b7, 0, none⟩ = some (.slice A l.length c)) (hR : Rd W lo A 6 encJ l) :
    Calls Tryz.prog 76 #[.int .i64 (i : Int), .int .i64 (j : Int), .pointer (some ⟨b7, 0, none⟩)] W fun e w' => e = .returned (.int .i64 (cfJ l i j)) ∧ Lays W w' := by
  have hl0 : 0 < l.length := by omega
  obtain ⟨b, off, rfl, _, hbb, _, hc⟩ := hR.open_ (Nx.refl W) hl0
  have HE := hide (show cfJ l i j = orI [cmpI l[i].from_ l[j].from_, cmpS l[i].ride l[j].ride] by unfold cfJ; simp [List.getD, hi, hj])
  have c0 : W.cell? ⟨b, off + i * 6, none⟩ = some (.string l[i].ride) := hc i hi 0 _ rfl
  have c1 : W.cell? ⟨b, off + i * 6 + 4, none⟩ = some (.int .i64 l[i].from_) := hc i hi 4 _ rfl
  have c2 : W.cell? ⟨b, off + j * 6, none⟩ = some (.string l[j].ride) := hc j hj 0 _ rfl
  have c3 : W.cell? ⟨b, off + j * 6 + 4, none⟩ = some (.int .i64 l[j].from_) := hc j hj 4 _ rfl
  clear hc hR
  generalize l[i].ride = r1 at *
  generalize l[j].ride = r2 at *
  generalize l[i].from_ = f1 at *
  generalize l[j].from_ = f2 at *
  generalize cfJ l i j = V at *
  have i1 : (0 : Int) ≤ (i : Int) := by omega
  have i2 : (i : Int) < (l.length : Int) := by omega
  have j1 : (0 : Int) ≤ (j : Int) := by omega
  have j2 : (j : Int) < (l.length : Int) := by omega
  generalize l.length = n at *
  go_enter Tryz.func76, Tryz.ntmps76
  go_upto_region 1 with fail
  refine wp_region_still_tail 24 (by kernel_rfl) (by kernel_rfl) ?_
  simp only [List.take_succ_cons, List.take_zero, List.drop_succ_cons, List.drop_zero]
  still_step; still_step; still_step; still_step; still_step; still_step
  still_step; still_step; still_step; still_step; still_step; still_step
  still_call (flipc (w_Compare _ _ _))
  still_step; still_step; still_step; still_step; still_step
  still_step; still_step; still_step; still_step; still_step
  still_call (flipc (w_CompareS _ _ _))
  refine wpStill_nil ?_
  go_wp2_with (go_at_call 77; refine (w_OrI 0 (some ⟨W.heap.size, 0, none⟩) 2 [cmpI f1 f2, cmpS r1 r2] _ (Rd.lit (hnew_drew (by simp)) (Nat.zero_le _) (fun _ => rfl) rfl) (by simp)).mono ?_; rintro e w' ⟨rfl, rfl⟩)
  go_ret
  exact ⟨ret_int (by rw [HE.out]), ((Lays.refl W).alloc _).drew⟩

theorem orI_neg {a b : Int} : orI [a, b] < 0 ↔ a < 0 ∨ (a = 0 ∧ b < 0) := by
  unfold orI
  by_cases ha : a = 0
  · rw [if_pos ha]
    unfold orI
    by_cases hb : b = 0
    · rw [if_pos hb]; unfold orI; omega
    · rw [if_neg hb]; omega
  · rw [if_neg ha]; omega
theorem lexC {a b : Jour} : orI [cmpI a.from_ b.from_, cmpS a.ride b.ride] < 0 ↔ lexJ a b := by
  rw [orI_neg, cmpI_neg, cmpI_zero, cmpS_neg]; rfl
theorem lexJ_tri {a b : Jour} (h : ¬ lexJ a b) (k : ¬ lexJ b a) : a.from_ = b.from_ ∧ a.ride = b.ride := by
  unfold lexJ at h k
  have h1 : a.from_ = b.from_ := by
    have : ¬ a.from_ < b.from_ := fun e => h (.inl e)
    have : ¬ b.from_ < a.from_ := fun e => k (.inl e)
    omega
  exact ⟨h1, ltS_tri _ _ (fun e => h (.inr ⟨h1, e⟩)) (fun e => k (.inr ⟨h1.symm, e⟩))⟩
def cfF (l : List Jour) {n : Nat} (x y : Fin n) : Int := cfJ l x.val y.val
theorem cfF_lt (l : List Jour) {n : Nat} (x y : Fin n) : ltOf (cfF l) x y = true ↔ lexJ (l.getD x.val default) (l.getD y.val default) := by
  unfold ltOf cfF cfJ; rw [decide_eq_true_eq]; exact lexC
theorem cfF_nlt (l : List Jour) {n : Nat} (x y : Fin n) : ltOf (cfF l) x y = false ↔ ¬ lexJ (l.getD x.val default) (l.getD y.val default) := by rw [← cfF_lt]; simp
theorem swoF (l : List Jour) (n : Nat) : SWO (ltOf (cfF l (n := n))) where
  irrefl x := (cfF_nlt l x x).2 (lexJ_irrefl _)
  trans x y z h1 h2 := (cfF_lt l x z).2 (lexJ_trans ((cfF_lt l x y).1 h1) ((cfF_lt l y z).1 h2))
  ntrans x y z h1 h2 := (cfF_nlt l x z).2 (fun h => by
    have h1 := (cfF_nlt l x y).1 h1
    have h2 := (cfF_nlt l y z).1 h2
    generalize l.getD x.val default = a at *
    generalize l.getD y.val default = b at *
    generalize l.getD z.val default = c at *
    by_cases hba : lexJ b a
    · exact h2 (lexJ_trans hba h)
    · obtain ⟨e1, e2⟩ := lexJ_tri h1 hba
      refine h2 ?_
      unfold lexJ at h ⊢
      rw [← e1, ← e2]; exact h)
theorem totF {l : List Jour} (hs : SortR l) (x y : Fin l.length) (h1 : ltOf (cfF l) x y = false) (h2 : ltOf (cfF l) y x = false) : x = y := by
  have h1 := (cfF_nlt l x y).1 h1
  have h2 := (cfF_nlt l y x).1 h2
  have he := (lexJ_tri h1 h2).2
  refine Classical.byContradiction fun hne => ?_
  have hv : x.val ≠ y.val := fun e => hne (Fin.ext e)
  have hx := x.isLt
  have hy := y.isLt
  have key : ∀ i j (hi : i < l.length) (hj : j < l.length), i < j → (l.getD i default).ride ≠ (l.getD j default).ride := fun i j hi hj hij e => by
    have := List.pairwise_iff_getElem.1 hs i j hi hj hij
    simp [List.getD, hi, hj] at e
    rw [e] at this
    exact ltS_irrefl _ this
  rcases Nat.lt_or_gt_of_ne hv with h | h
  · exact key _ _ hx hy h he
  · exact key _ _ hy hx h he.symm
theorem own_sortW {α : Type} [Inhabited α] {enc : α → Value} {w : World} {base g cap n : Nat} {e : TypeId} {xs : List Value} (h : w.ownsRow base e 1 (.slice (some ⟨g, 0, none⟩) n cap) n xs) (ys : List α) (hy : ys.length = n) (m : Nat) (os : Array Obj) :
    (sortWorld enc w g 0 m ys.toArray os).ownsRow base e 1 (.slice (some ⟨g, 0, none⟩) n cap) n (ys.map enc) := by
  have h1 := (own_put (enc := enc) h ys hy m).1
  have h2 : Lays ((putRow enc w g 0 ys.toArray).drewN m) (sortWorld enc w g 0 m ys.toArray os) := ⟨0, os, rfl⟩
  exact own_nx h1 h2.nx
set_option maxHeartbeats 1000000 in
/-- The places of the trips, in the order in which these began. -/
theorem w_SortPl {w : World} {base g b7 lo c : Nat} {A : Option Addr} (l : List Jour) (hl0 : 0 < l.length) (hl : l.length ≤ 1000) (hs : SortR l) (h : w.ownsRow base 3 1 (.slice (some ⟨g, 0, none⟩) l.length l.length) l.length ((List.range l.length).map (fun (i : Nat) => Value.int .i64 (i : Int))))
    (hbox : ∀ W, Gr g w W → W.cell? ⟨b7, 0, none⟩ = some (.slice A l.length c)) (hR : ∀ W, Gr g w W → Rd W lo A 6 encJ l) :
    Calls Tryz.prog 75 #[.slice (some ⟨g, 0, none⟩) l.length l.length, .func (.func 76) #[] #[.pointer (some ⟨b7, 0, none⟩)]] w fun en w' => en = .returned (.tuple #[]) ∧
      ∃ ys : List Nat, ys.Perm (List.range l.length) ∧ ys.Pairwise (fun a b => lexJ (l.getD a default) (l.getD b default)) ∧ w'.ownsRow base 3 1 (.slice (some ⟨g, 0, none⟩) l.length l.length) l.length (ys.map (fun (i : Nat) => Value.int .i64 (i : Int))) ∧ Gr g w w' := by
  have hlt := (h.lt g rfl)
  haveI : Inhabited (Fin l.length) := ⟨⟨0, hl0⟩⟩
  obtain ⟨xs, hxs⟩ : ∃ xs, xs = List.finRange l.length := ⟨_, rfl⟩
  have hxl : xs.length = l.length := by rw [hxs]; simp
  have hxv : xs.map (fun x => x.val) = List.range l.length := by
    rw [hxs]
    apply List.ext_getElem
    · simp
    · intro i h1 h2; simp
  have hxe : (List.range l.length).map (fun (i : Nat) => Value.int .i64 (i : Int)) = xs.map encF := by
    rw [← hxv, List.map_map]; rfl
  have h0 := h
  rw [hxe] at h0
  have hH := holds_one hxl h0
  have e1 : xs.toArray.size = l.length := by simpa using hxl
  have hO : OneCell (encF (n := l.length)) := fun x => by rfl
  have hc : CmpLays1 Tryz.prog 76 #[.pointer (some ⟨b7, 0, none⟩)] encF (cfF l) g 0 xs.toArray.size w := fun m os dk hdk x y => by
    have hg := gr_sortWorld (enc := encF (n := l.length)) (w := w) (g := g) (m := m) (d := dk) (os := os)
    rw [show #[encF x, encF y] ++ #[Value.pointer (some ⟨b7, 0, none⟩)] = #[encF x, encF y, Value.pointer (some ⟨b7, 0, none⟩)] from rfl]
    exact w_fr1 lo A c l b7 x.val y.val x.isLt y.isLt hl _ (hbox _ hg) (hR _ hg)
  have hsr := Any.slices_SortFunc_total Tryz.sortIntF encF hO (cfF l) (swoF l l.length) 76 #[.pointer (some ⟨b7, 0, none⟩)] g 0 l.length xs.toArray w (enters_of Tryz.func76 (by kernel_rfl) rfl) hc hH hlt.2 (by omega) (totF hs)
  change Calls Tryz.prog 75 _ _ _ at hsr
  rw [e1] at hsr
  refine hsr.mono fun en w' ⟨he, n, os, hw⟩ => ⟨he, ?_⟩
  have htot : ∀ x y : Fin l.length, (!ltOf (cfF l) y x || !ltOf (cfF l) x y) = true := fun x y => by
    cases h1 : ltOf (cfF l) y x with
    | false => rfl
    | true =>
      cases h2 : ltOf (cfF l) x y with
      | false => rfl
      | true => exact absurd (lexJ_trans ((cfF_lt l y x).1 h1) ((cfF_lt l x y).1 h2)) (lexJ_irrefl _)
  have hperm := List.mergeSort_perm xs.toArray.toList (fun x y => !ltOf (cfF l) y x)
  have hsort := List.pairwise_mergeSort (le := fun x y => !ltOf (cfF l) y x) (fun a b c h1 h2 => by
    simp only [Bool.not_eq_true'] at h1 h2 ⊢
    exact (swoF l l.length).ntrans _ _ _ h2 h1) (fun a b => htot a b) xs.toArray.toList
  generalize xs.toArray.toList.mergeSort (fun x y => !ltOf (cfF l) y x) = D at *
  have hD : D.Perm xs := by simpa using hperm
  have hp : (D.map (fun x => x.val)).Perm (List.range l.length) := by rw [← hxv]; exact hD.map _
  have hDl : D.length = l.length := by rw [hD.length_eq, hxl]
  refine ⟨D.map (fun x => x.val), hp, ?_, ?_, ?_⟩
  · rw [List.pairwise_map]
    have hnd : D.Nodup := by
      have : (D.map (fun x => x.val)).Nodup := hp.nodup_iff.2 List.nodup_range
      exact (List.pairwise_map.1 this).imp (fun h e => h (by rw [e]))
    refine List.Pairwise.imp₂ (fun a b h1 h2 => ?_) hsort hnd
    simp only [Bool.not_eq_true'] at h1
    refine Classical.byContradiction fun hc => h2 ?_
    exact totF hs a b ((cfF_nlt l a b).2 hc) h1
  · rw [hw, List.map_map]
    exact own_sortW h D hDl n os
  · rw [hw]; exact gr_sortWorld
end Go.Proofs.YtemaiikgnogfhaaGreatDoor
/- A copy of the trips, and its stable sort by their beginnings. -/
namespace Go.Proofs.YtemaiikgnogfhaaGreatDoor
open Go.RowKit Go.Sort Go.Proofs Go.Shelf

set_option maxRecDepth 100000 in
set_option maxHeartbeats 400000 in
theorem w_CloneJ (lo : Nat) (A : Option Addr) (c : Nat) (l : List Jour) (w : World) (hR : Rd w lo A 6 encJ l) (hl : l.length ≤ 100000) :
    Calls Tryz.prog 83 #[.slice A l.length c] w fun e w' => ∃ v, e = .returned v ∧ w'.ownsRow w.heap.size 48 6 v l.length (l.flatMap encJ) ∧ Nx w w' := by
  have q22 : ∀ (w : World) (a : Option Addr) (n c n' c' : Nat), (binOp .eql 33 (.slice a n c) (.slice none n' c')).run Tryz.prog w = .ok (.bool a.isNone) w := fun w a n c n' c' => Lib.run_eql_slice_nil w _ _ a n c n' c' Tryz.underlying33
  cases A with
  | none =>
    have hy : l = [] := by
      rcases l with _ | ⟨y, l⟩
      · rfl
      · obtain ⟨b, off, e, _⟩ := hR (by simp); cases e
    subst hy
    go_enter Tryz.func83, Tryz.ntmps83
    go_wp2
    go_ret
    exact ⟨_, rfl, World.ownsRow_nil _ _ _ _, Nx.refl _⟩
  | some a =>
    have hst := own_lit (w := w.alloc (.cells #[] 48)) (e := 48) (g := w.heap.size) (n := 0) (m := 0) (base := w.heap.size) (xs := ([] : List Jour)) encJ_len (hnew rfl) (Nat.le_refl _) rfl rfl (Nat.le_refl _) (by unfold maxLen; omega)
    have HST := hide hst
    have HR := hide hR
    clear hst hR
    generalize hn : l.length = n at *
    have HN := hide hn
    clear hn
    go_enter Tryz.func83, Tryz.ntmps83
    go_wp2_with (at_builtin; refine wpAppL rfl _ _ _ rfl el_JourS encJ encJ_len encJ_one (by omega) (by omega) w.heap.size _ [] rfl HST.out (some a) c l (by rw [HN.out]; rfl) (HR.out.nx ((Nx.refl _).alloc _)) (by have := HN.out; simp; omega) (by simp) ?_; intro v2 w2 hown2 hg2)
    go_ret
    rw [List.nil_append, HN.out] at hown2
    refine ⟨_, rfl, hown2, ?_⟩
    exact ((Nx.refl w).alloc _).grown hg2 (own_blk_lt HST.out)
theorem w_pf1 (x y : Jour) (w : World) : Calls Tryz.prog 85 #[.agg (encJ x).toArray, .agg (encJ y).toArray] w fun e w' => e = .returned (.int .i64 (cmpI x.from_ y.from_)) ∧ Lays w w' := by
  unfold encJ
  go_enter Tryz.func85, Tryz.ntmps85
  go_wp2_with (go_at_call 78; refine (w_Compare _ _ _).mono ?_; rintro e w' ⟨rfl, rfl⟩)
  go_ret
  exact ⟨rfl, ((Lays.refl _).alloc _).alloc _⟩
def begC (x y : Jour) : Int := cmpI x.from_ y.from_
theorem begC_lt (x y : Jour) : ltOf begC x y = true ↔ x.from_ < y.from_ := by unfold ltOf begC; rw [decide_eq_true_eq, cmpI_neg]
theorem beg_stable (d : Array Jour) (hS : SortR d.toList) : (insertionSort (ltOf begC) d 0 d.size).toList.Perm d.toList ∧ (insertionSort (ltOf begC) d 0 d.size).toList.Pairwise lexJ :=
  ins_stable (ltOf begC) (R := lexJ) (S := fun a b => ltS a.ride b.ride) (fun x y h => .inl ((begC_lt x y).1 h)) (fun x y h1 h2 => by
    have h3 : ¬ x.from_ < y.from_ := fun h => by rw [(begC_lt x y).2 h] at h2; cases h2
    unfold lexJ
    by_cases e : y.from_ = x.from_
    · exact .inr ⟨e, h1⟩
    · exact .inl (by omega)) (fun x y z h1 h2 => lexJ_trans h1 h2) d hS
set_option maxHeartbeats 1000000 in
theorem w_SortStJ {w : World} {base b cap n : Nat} (xs : List Jour) (hn : xs.length = n) (hsz : n < 20) (hS : SortR xs) (h : w.ownsRow base 48 6 (.slice (some ⟨b, 0, none⟩) n cap) n (xs.flatMap encJ)) :
    Calls Tryz.prog 84 #[.slice (some ⟨b, 0, none⟩) n cap, .func (.func 85) #[] #[]] w fun en w' => en = .returned (.tuple #[]) ∧
      ∃ ys : List Jour, IsOrd xs ys ∧ w'.ownsRow base 48 6 (.slice (some ⟨b, 0, none⟩) n cap) n (ys.flatMap encJ) ∧ Gr b w w' := by
  have hlt := (h.lt b rfl)
  have e1 : xs.toArray.size = n := by simpa using hn
  have hH := holds_of_own encJ_len (by omega) hn h
  have hc : CmpLays Tryz.prog 85 #[] encJ 6 begC b 0 xs.toArray.size w := fun m os dk _ x y => by
    rw [Array.append_empty]
    exact w_pf1 x y _
  have hs := AnyQ.insertionSortCmpFunc Tryz.insJour 6 Tryz.isAgg48 Tryz.sizeOf48 encJ encJ_len encJ_one begC 85 #[] b 0 cap 0 xs.toArray.size xs.toArray w (enters_of Tryz.func85 (by kernel_rfl) rfl) hc hH hlt.2 (Nat.zero_le _) (Nat.le_refl _) (by omega)
  change Calls Tryz.prog 142 _ _ _ at hs
  rw [e1] at hs
  have HS := hide (hs.mono fun en w' ⟨he, m, os, hw⟩ => (show en = Ending.returned (.tuple #[]) ∧ ∃ ys : List Jour, IsOrd xs ys ∧ w'.ownsRow base 48 6 (.slice (some ⟨b, 0, none⟩) n cap) n (ys.flatMap encJ) ∧ Gr b w w' from by
    have hst := beg_stable xs.toArray (by simpa using hS)
    rw [e1] at hst
    refine ⟨he, (insertionSort (ltOf begC) xs.toArray 0 n).toList, ⟨by simpa using hst.1, hst.2⟩, ?_⟩
    have := own_of_sorted encJ_len (by omega) h (insertionSort (ltOf begC) xs.toArray 0 n).toList (by rw [hst.1.length_eq]; simpa using hn) m os
    rw [hw]
    simpa using this))
  clear hs hc hH h hlt e1 hn hS
  have HT := hide (show Calls Tryz.prog 106 #[.slice (some ⟨b, 0, none⟩) n cap, .int .i64 n, .func (.func 85) #[] #[]] w fun en w' => en = .returned (.tuple #[]) ∧
      ∃ ys : List Jour, IsOrd xs ys ∧ w'.ownsRow base 48 6 (.slice (some ⟨b, 0, none⟩) n cap) n (ys.flatMap encJ) ∧ Gr b w w' from by
    have t1 : decide ((20 : Int) ≤ (n : Int)) = false := decide_eq_false (by omega)
    have t2 : decide ((20 : Int) < (n : Int)) = false := decide_eq_false (by omega)
    go_enter Tryz.func106, Tryz.ntmps106
    go_wp2_with fail
    refine wp_loop_rounds 1 ?_
    rw [rounds_succ]
    go_wp2_with (go_at_call 142; refine (HS.out).mono ?_; rintro e w1 ⟨rfl, hw1⟩)
    refine wp_loop_rounds 1 ?_
    rw [rounds_succ]
    go_wp2_with fail
    go_end0
    exact ⟨rfl, hw1⟩)
  go_enter Tryz.func84, Tryz.ntmps84
  go_wp2_with (go_at_call 106; refine (HT.out).mono ?_; rintro e w1 ⟨rfl, hw1⟩)
  go_end0
  exact ⟨rfl, hw1⟩
end Go.Proofs.YtemaiikgnogfhaaGreatDoor
/- The reference's stable sort of trips: of an own row, empty or not. -/
namespace Go.Proofs.YtemaiikgnogfhaaGreatDoor
open Go.RowKit Go.Sort Go.Shelf

set_option maxRecDepth 100000 in
set_option maxHeartbeats 2000000 in
theorem w_SortSt0 (B : Option Addr) (cap : Nat) (f : Value) (w : World) :
    Calls Tryz.prog 84 #[.slice B 0 cap, f] w fun en w' => en = .returned (.tuple #[]) ∧ w' = w := by
  have HI := hide (fun (W : World) => (show Calls Tryz.prog 142 #[.slice B 0 cap, .int .i64 0, .int .i64 0, f] W fun en w' => en = .returned (.tuple #[]) ∧ w' = W from by
    go_enter Tryz.func142, Tryz.ntmps142
    go_wp2_with fail
    refine wp_loop_rounds 1 ?_
    rw [rounds_succ]
    go_wp2_with fail
    go_end0
    exact ⟨rfl, rfl⟩))
  have HT := hide (show Calls Tryz.prog 106 #[.slice B 0 cap, .int .i64 0, f] w fun en w' => en = .returned (.tuple #[]) ∧ w' = w from by
    go_enter Tryz.func106, Tryz.ntmps106
    go_wp2_with fail
    refine wp_loop_rounds 1 ?_
    rw [rounds_succ]
    go_wp2_with (go_at_call 142; refine (HI.out _).mono ?_; rintro e w1 ⟨rfl, rfl⟩)
    refine wp_loop_rounds 1 ?_
    rw [rounds_succ]
    go_wp2_with fail
    go_end0
    exact ⟨rfl, rfl⟩)
  go_enter Tryz.func84, Tryz.ntmps84
  go_wp2_with (go_at_call 106; refine (HT.out).mono ?_; rintro e w1 ⟨rfl, rfl⟩)
  go_end0
  exact ⟨rfl, rfl⟩

theorem w_SortStV {w : World} {base : Nat} {v : Value} (xs : List Jour) (hsz : xs.length < 20) (hS : SortR xs) (h : w.ownsRow base 48 6 v xs.length (xs.flatMap encJ)) :
    Calls Tryz.prog 84 #[v, .func (.func 85) #[] #[]] w fun en w' => en = .returned (.tuple #[]) ∧
      ∃ ys : List Jour, IsOrd xs ys ∧ w'.ownsRow base 48 6 v xs.length (ys.flatMap encJ) ∧ w.grownBy w' v.ownBlock := by
  have h0 := h
  rcases h.2 with ⟨rfl, hn⟩ | ⟨g, cap, cur, rfl, _⟩
  · rw [hn]
    have hx : xs = [] := List.eq_nil_of_length_eq_zero hn
    subst hx
    exact (w_SortSt0 none 0 _ w).mono fun en w' ⟨he, hw⟩ => ⟨he, [], ⟨List.Perm.refl _, List.Pairwise.nil⟩, hw ▸ h0, hw ▸ World.grownBy.refl w _⟩
  · exact (w_SortStJ xs rfl hsz hS h0).mono fun en w' ⟨he, ys, h1, h2, h3⟩ => ⟨he, ys, h1, h2, h3⟩
end Go.Proofs.YtemaiikgnogfhaaGreatDoor
/- Plain: the costs as they are filled in, one trip after the other. -/
namespace Go.Proofs.YtemaiikgnogfhaaGreatDoor

/-- What was paid so far with a pass on a day. -/
def daySp (done : List Paid) (k : Int × Int) : Int := if 0 ≤ k.1 then spentD done k.1.toNat k.2 else 0
theorem daySp_at (done : List Paid) (k : Nat) (d : Int) : daySp done ((k : Int), d) = spentD done k d := by unfold daySp; rw [if_pos (by simp)]; simp
theorem daySp_nil : daySp [] = fun _ => 0 := by funext k; unfold daySp spentD; simp
theorem daySp_some {done : List Paid} {d : Paid} {k : Nat} (h : d.by_ = some k) : daySp (done ++ [d]) = fun k' => if k' = ((k : Int), dayJ d.t) then daySp done ((k : Int), dayJ d.t) + d.cents else daySp done k' := by
  funext k'
  obtain ⟨a, b⟩ := k'
  by_cases e : (a, b) = ((k : Int), dayJ d.t)
  · rw [if_pos e, e, daySp_at, daySp_at, spentD_snoc, if_pos ⟨h, rfl⟩]
  · rw [if_neg e]
    unfold daySp
    by_cases h0 : 0 ≤ a
    · rw [if_pos h0, if_pos h0, spentD_snoc, if_neg, Int.add_zero]
      rintro ⟨h1, h2⟩
      rw [h] at h1
      injection h1 with h1
      simp only at h1 h2
      exact e (by rw [h2, h1]; congr 1; omega)
    · rw [if_neg h0, if_neg h0]
theorem daySp_none {done : List Paid} {d : Paid} (h : d.by_ = none) : daySp (done ++ [d]) = daySp done := by
  funext k'
  unfold daySp
  split
  · rw [spentD_snoc, if_neg, Int.add_zero]
    rw [h]
    rintro ⟨h1, _⟩
    cases h1
  · rfl
theorem payAll_app (zs : List Zone) (p : Price) (xs : List Pass) : ∀ (a b : List Jour) (done : List Paid), payAll zs p xs done (a ++ b) = payAll zs p xs (payAll zs p xs done a) b
  | [], _, _ => rfl
  | _ :: a, b, _ => payAll_app zs p xs a b _
theorem payAll_pre (zs : List Zone) (p : Price) (xs : List Pass) : ∀ (l : List Jour) (done : List Paid), ∃ r, payAll zs p xs done l = done ++ r
  | [], done => ⟨[], by simp [payAll]⟩
  | t :: l, done => by
    obtain ⟨r, hr⟩ := payAll_pre zs p xs l (done ++ [payOne zs p xs done t])
    exact ⟨[payOne zs p xs done t] ++ r, by show payAll zs p xs (done ++ [payOne zs p xs done t]) l = _; rw [hr, List.append_assoc]⟩
theorem payAll_step (zs : List Zone) (p : Price) (xs : List Pass) (O : List Jour) (j : Nat) (hj : j < O.length) : payAll zs p xs [] (O.take (j + 1)) = payAll zs p xs [] (O.take j) ++ [payOne zs p xs (payAll zs p xs [] (O.take j)) O[j]] := by
  rw [List.take_succ_eq_append_getElem hj, payAll_snoc]
theorem payAll_mem (zs : List Zone) (p : Price) (xs : List Pass) (O : List Jour) (j : Nat) (hj : j < O.length) : payOne zs p xs (payAll zs p xs [] (O.take j)) O[j] ∈ payAll zs p xs [] O := by
  have h1 : O = O.take (j + 1) ++ O.drop (j + 1) := (List.take_append_drop _ _).symm
  have h2 : payAll zs p xs [] O = payAll zs p xs (payAll zs p xs [] (O.take (j + 1))) (O.drop (j + 1)) := by
    conv => lhs; rw [h1]
    rw [payAll_app]
  obtain ⟨r, hr⟩ := payAll_pre zs p xs (O.drop (j + 1)) (payAll zs p xs [] (O.take (j + 1)))
  rw [h2, hr, payAll_step zs p xs O j hj]
  simp
/-- The costs, filled in for the first j of the order. -/
def outF (P : List Paid) (l : List Jour) (ys : List Nat) (j : Nat) : List Int := (List.range l.length).map (fun i => if i ∈ ys.take j then costOf P (l.getD i default).ride else 0)
theorem outF_len (P : List Paid) (l : List Jour) (ys : List Nat) (j : Nat) : (outF P l ys j).length = l.length := by simp [outF]
theorem outF_zero (P : List Paid) (l : List Jour) (ys : List Nat) : outF P l ys 0 = List.replicate l.length 0 := by
  apply List.ext_getElem
  · simp [outF]
  · intro i h1 h2; simp [outF]
theorem outF_set (P : List Paid) (l : List Jour) (ys : List Nat) (j : Nat) (hj : j < ys.length) (v : Int) (hv : v = costOf P (l.getD ys[j] default).ride) : (outF P l ys j).set ys[j] v = outF P l ys (j + 1) := by
  apply List.ext_getElem
  · simp [outF]
  · intro i h1 h2
    rw [List.getElem_set]
    simp only [outF, List.getElem_map, List.getElem_range]
    rw [List.take_succ_eq_append_getElem hj]
    by_cases e : ys[j] = i
    · rw [if_pos e, if_pos (List.mem_append_right _ (by rw [e]; exact List.mem_singleton.2 rfl)), hv, e]
    · rw [if_neg e]
      by_cases hm : i ∈ ys.take j
      · rw [if_pos hm, if_pos (List.mem_append_left _ hm)]
      · rw [if_neg hm, if_neg]
        intro hc
        rcases List.mem_append.1 hc with hc | hc
        · exact hm hc
        · exact e (List.mem_singleton.1 hc).symm
theorem outF_all (zs : List Zone) (p : Price) (xs : List Pass) (O l : List Jour) (ys : List Nat) (hp : ys.Perm (List.range l.length)) (j : Nat) (hj : ys.length ≤ j) : outF (payAll zs p xs [] O) l ys j = costL zs p xs O l := by
  apply List.ext_getElem
  · simp [outF, costL]
  · intro i h1 h2
    have hi : i < l.length := by simpa [outF] using h1
    simp only [outF, costL, List.getElem_map, List.getElem_range]
    rw [List.take_of_length_le hj, if_pos (hp.mem_iff.2 (List.mem_range.2 hi))]
    simp [List.getD, hi]
/-- The trips in the order of their places. -/
def ordOf (l : List Jour) (ys : List Nat) : List Jour := ys.map (fun i => l.getD i default)
theorem ordOf_is {l : List Jour} {ys : List Nat} (hp : ys.Perm (List.range l.length)) (hs : ys.Pairwise (fun a b => lexJ (l.getD a default) (l.getD b default))) : IsOrd l (ordOf l ys) := by
  constructor
  · have h1 : (ordOf l ys).Perm ((List.range l.length).map (fun i => l.getD i default)) := hp.map _
    have h2 : (List.range l.length).map (fun i => l.getD i default) = l := by
      apply List.ext_getElem
      · simp
      · intro i h1 h2
        simp [List.getD, h2]
    rw [h2] at h1
    exact h1
  · unfold ordOf
    rw [List.pairwise_map]; exact hs
theorem ordOf_at {l : List Jour} {ys : List Nat} {j : Nat} (hj : j < ys.length) : (ordOf l ys)[j]'(by simpa [ordOf] using hj) = l.getD ys[j] default := by simp [ordOf]
/-- What the j-th of the order pays stands in the list of all. -/
theorem cost_step (zs : List Zone) (p : Price) (xs : List Pass) {l O : List Jour} (hO : IsOrd l O) (hs : SortR l) (j : Nat) (hj : j < O.length) : (payOne zs p xs (payAll zs p xs [] (O.take j)) O[j]).cents = costOf (payAll zs p xs [] O) O[j].ride := by
  have h1 := payAll_mem zs p xs O j hj
  have h2 : ((payAll zs p xs [] O).map Paid.t).Pairwise (fun a b => a.ride ≠ b.ride) := by
    rw [payAll_t]; simpa using ord_ne hO hs
  exact (costOf_at h2 h1).symm
end Go.Proofs.YtemaiikgnogfhaaGreatDoor
/- Plain: what was paid, as the reference writes it: the pass by its key. -/
namespace Go.Proofs.YtemaiikgnogfhaaGreatDoor

/-- The passes' keys rise, and none is empty. -/
def SortX (xs : List Pass) : Prop := xs.Pairwise (fun a b => ltS a.key b.key)
theorem afterX_lt {q x : Pass} (h : afterX (some q) x = false) : ltS q.key x.key := strLe_lt h
theorem passE_keyB {zs : List Zone} {q : Option Pass} {p : Pass} (h : passE zs q p = 0) : keyB p.key = true := by
  cases hk : (keyB p.key && keyB p.rider) with
  | false => rw [passE_key hk] at h; exact absurd h (by decide)
  | true => rw [Bool.and_eq_true] at hk; exact hk.1
theorem chkX_sorted (zs : List Zone) : ∀ (q : Option Pass) (l : List Pass), chk (passE zs) q l = 0 → SortX l ∧ (∀ x ∈ l, keyB x.key = true) ∧ ∀ y, q = some y → ∀ t ∈ l, ltS y.key t.key
  | _, [], _ => ⟨List.Pairwise.nil, fun t ht => (by cases ht), fun _ _ t ht => by cases ht⟩
  | q, x :: l, h => by
    unfold chk at h
    by_cases hx : passE zs q x = 0
    · rw [if_pos hx] at h
      obtain ⟨h1, h0, h2⟩ := chkX_sorted zs (some x) l h
      have ha := (passE_ok hx).2
      refine ⟨List.pairwise_cons.2 ⟨fun t ht => h2 x rfl t ht, h1⟩, fun t ht => ?_, fun y hy t ht => ?_⟩
      · rcases List.mem_cons.1 ht with rfl | ht
        · exact passE_keyB hx
        · exact h0 t ht
      · subst hy
        have h3 := afterX_lt ha
        rcases List.mem_cons.1 ht with rfl | ht
        · exact h3
        · exact ltS_trans h3 (h2 x rfl t ht)
    · rw [if_neg hx] at h; exact absurd h hx
theorem passesF_sorted {zs : List Zone} {xs : List Pass} (h : passesF zs xs = 0) : SortX xs ∧ ∀ x ∈ xs, x.key.toList.isEmpty = false := by
  unfold passesF at h
  split at h
  · exact absurd h (by decide)
  · obtain ⟨h1, h2, _⟩ := chkX_sorted zs none xs h
    exact ⟨h1, fun x hx => keyB_ne (h2 x hx)⟩
theorem sortX_inj {xs : List Pass} (h : SortX xs) {i j : Nat} (hi : i < xs.length) (hj : j < xs.length) (he : xs[i].key = xs[j].key) : i = j := by
  rcases Nat.lt_trichotomy i j with hl | hl | hl
  · exact absurd (List.pairwise_iff_getElem.1 h i j hi hj hl) (by rw [he]; exact ltS_irrefl _)
  · exact hl
  · exact absurd (List.pairwise_iff_getElem.1 h j i hj hi hl) (by rw [he]; exact ltS_irrefl _)
/-- A pass by its key. -/
def nameP (xs : List Pass) : Option Nat → ByteArray
  | none => ByteArray.empty
  | some k => (xs.getD k default).key
def encPd (xs : List Pass) (d : Paid) : List Value := encJ d.t ++ [.int .i64 d.cents, .string (nameP xs d.by_)]
theorem encPd_len (xs : List Pass) (d : Paid) : (encPd xs d).length = 8 := rfl
/-- Whoever paid stands among the passes. -/
def ByOk (n : Nat) (P : List Paid) : Prop := ∀ d ∈ P, ∀ k, d.by_ = some k → k < n
theorem byOk_one (zs : List Zone) (p : Price) (xs : List Pass) (done : List Paid) (t : Jour) : ∀ k, (payOne zs p xs done t).by_ = some k → k < xs.length := by
  intro k h
  rcases bestX_by 0 xs _ k h with h | h
  · cases h
  · omega
theorem byOk_all (zs : List Zone) (p : Price) (xs : List Pass) : ∀ (l : List Jour) (done : List Paid), ByOk xs.length done → ByOk xs.length (payAll zs p xs done l)
  | [], done, h => h
  | t :: l, done, h => byOk_all zs p xs l _ (fun d hd => by
    rcases List.mem_append.1 hd with hd | hd
    · exact h d hd
    · rw [List.mem_singleton.1 hd]; exact byOk_one zs p xs done t)
theorem name_eq {xs : List Pass} (hs : SortX xs) (he : ∀ x ∈ xs, x.key.toList.isEmpty = false) {b : Option Nat} (hb : ∀ k, b = some k → k < xs.length) {q : Nat} (hq : q < xs.length) : nameP xs b = xs[q].key ↔ b = some q := by
  cases b with
  | none =>
    constructor
    · intro h
      have h2 := he _ (List.getElem_mem hq)
      have h3 : xs[q].key = ByteArray.empty := h.symm
      rw [h3] at h2
      rw [Lib.toList_data] at h2; exact absurd h2 (by decide)
    · intro h; cases h
  | some k =>
    have hk := hb k rfl
    have e : nameP xs (some k) = xs[k].key := by unfold nameP; simp [List.getD, hk]
    rw [e]
    constructor
    · intro h; rw [sortX_inj hs hk hq h]
    · intro h; injection h with h; subst h; rfl
/-- One more of what was paid, in the sum of a pass and a day. -/
theorem spent_take (done : List Paid) (q : Nat) (day : Int) (m : Nat) (hm : m < done.length) : spentD (done.take (m + 1)) q day = spentD (done.take m) q day + (if done[m].by_ = some q ∧ dayJ done[m].t = day then done[m].cents else 0) := by
  rw [List.take_succ_eq_append_getElem hm, spentD_snoc]
end Go.Proofs.YtemaiikgnogfhaaGreatDoor
/- The keys of the fares' map: a pass and a day. -/
namespace Go.Proofs.YtemaiikgnogfhaaGreatDoor
open Go.RowKit Go.Maps

theorem tySizeU : Tryz.prog.types.size = 223 := by kernel_rfl
theorem laidOutU : laidOutB Tryz.prog = true := by kernel_rfl
theorem klaw_use : WideMaps.KeyLaw Tryz.prog 117 := deep_law_laid laidOutU (m := 5) (by omega) (k := 117) (by rw [tySizeU]; decide) (by kernel_rfl) (by kernel_rfl)
theorem law_use : Keyed Tryz.prog 117 := Keyed.of_law klaw_use
theorem kt_use : Tryz.prog.keyType 117 = true := by kernel_rfl
theorem cells_use : Tryz.prog.cellsOf 117 = 2 := by kernel_rfl
theorem cells_intU : Tryz.prog.cellsOf 3 = 1 := by kernel_rfl
theorem lits_intU (d : Nat) (x : Int) (hx : (Lit.int .i64 x).wf = true) : Tryz.prog.keyLits (d + 1) 3 [.int .i64 x] = some [.int .i64 x] := by
  unfold Program.keyLits; rw [Tryz.underlying3]; simp [hx]
theorem lits_use (d : Nat) (x y : Int) (hx : (Lit.int .i64 x).wf = true) (hy : (Lit.int .i64 y).wf = true) : Tryz.prog.keyLits (d + 2) 117 [.int .i64 x, .int .i64 y] = some [.int .i64 x, .int .i64 y] := by
  unfold Program.keyLits; rw [Tryz.underlying117]; simp [cells_use, cells_intU, lits_intU _ _ hx, lits_intU _ _ hy]
/-- A pass's number and a day, as a key. -/
def ekU (p : Int × Int) : Value := .agg #[.int .i64 p.1, .int .i64 p.2]
theorem ekU_inj (a b : Int × Int) (h : ekU a = ekU b) : a = b := by
  cases a; cases b; simp [ekU] at h; simp [h]
def domU (p : Int × Int) : Prop := (Lit.int .i64 p.1).wf = true ∧ (Lit.int .i64 p.2).wf = true
theorem key_use (p : Int × Int) (h : domU p) : ∃ l, keyOf Tryz.prog 117 (ekU p) = some l := by
  refine ⟨.string (keyBytes [.int .i64 p.1, .int .i64 p.2]), ?_⟩
  unfold keyOf ekU
  rw [Tryz.underlying117, kt_use, tySizeU]
  have e := lits_use 222 p.1 p.2 h.1 h.2
  simp [Value.formed, Tryz.underlying117, cells_use, Value.cells, e]
theorem zeroIntU (w : World) : (zeroValue 3).run Tryz.prog w = .ok (.int .i64 0) w := by kernel_rfl
abbrev MpU (w : World) (b n : Nat) (f : Int × Int → Int) : Prop := MpI Tryz.prog 117 3 ekU domU w b n f
end Go.Proofs.YtemaiikgnogfhaaGreatDoor
