/- slices.Equal of two rows of strings that are the same. -/
import Derived.Test.YtfkmbeppckelfaaGreatDoorQG5
import Derived.Test.YtfkmbeppckelfaaGreatDoorQG4
import Derived.Test.YtfkmbeppckelfaaGreatDoorQG1
import Derived.Test.YtfkmbeppckelfaaGreatDoorQG21
import Derived.Test.YtfkmbeppckelfaaGreatDoorQRfN
import Derived.Test.YtfkmbeppckelfaaGreatDoorQG0
import Derived.Shelf.SlSortCmp.NoneTotal
import Derived.Test.YtfkmbeppckelfaaGreatDoorQShelfE
import Derived.Test.YtfkmbeppckelfaaGreatDoorQG36
import Derived.Shelf.Small.Strs
import Derived.Test.YtfkmbeppckelfaaGreatDoorQG39
import Derived.Deep.AppendLies
namespace Go.Proofs.YtfkmbeppckelfaaGreatDoor
open Go.RowKit

set_option maxRecDepth 100000 in
set_option maxHeartbeats 1000000 in
theorem w_EqualSS (lo lo' : Nat) (A B : Option Addr) (c d : Nat) (l : List ByteArray) (w : World) (hA : Rd w lo A 1 encS l) (hB : Rd w lo' B 1 encS l) (hl : l.length ≤ 65536) :
    Calls Tryz.prog 73 #[.slice A l.length c, .slice B l.length d] w fun e w' => e = .returned (.bool true) ∧ Nx w w' := by
  generalize hn : l.length = n at *
  have HA := hide hA
  have HB := hide hB
  have HN := hide hn
  clear hA hB hn
  go_enter Tryz.func73, Tryz.ntmps73
  go_wp2
  go_loopw [5, 13] (fun _ i wr => ∃ k : Nat, k ≤ n ∧ i = .int .i64 k ∧ Nx w wr) (fun _ i _ => n - (intOf i).toNat)
  case atStart => exact ⟨0, Nat.zero_le _, rfl, Nx.refl _⟩
  case round =>
    obtain ⟨k, hk, rfl, hbw⟩ := hrel
    by_cases hlt : k < n
    · have hlt' : k < l.length := by have := HN.out; omega
      obtain ⟨b, off, rfl, _, hb, hbr, hc⟩ := HA.out.open_ hbw (by omega)
      obtain ⟨b', off', rfl, _, hb', hbr', hc'⟩ := HB.out.open_ hbw (by omega)
      have c0 : wr.cell? ⟨b, off + k, none⟩ = some (.string l[k]) := by have := hc k hlt' 0 _ rfl; simpa using this
      have d0 : wr.cell? ⟨b', off' + k, none⟩ = some (.string l[k]) := by have := hc' k hlt' 0 _ rfl; simpa using this
      clear hc hc'
      generalize l[k] = s at *
      have te : (s.toList == s.toList) = true := by rw [eqS_iff]; exact decide_eq_true rfl
      have q1 : (0 : Int) ≤ (k : Int) := by omega
      have q2 : (k : Int) < (n : Int) := by omega
      go_wp2_with fail
      go_quiet (fail)
      go_wp2
      go_roundw
      case rel => exact ⟨k + 1, by omega, by go_num, hbw.drewN _⟩
      case measure => simp [intOf]; omega
    · go_wp2
      go_ret
      exact ⟨rfl, hbw⟩
end Go.Proofs.YtfkmbeppckelfaaGreatDoor
/- Where cars are, in memory; two lists of them compared. -/
namespace Go.Proofs.YtfkmbeppckelfaaGreatDoor
open Go.RowKit Go.Maps

/-- Where a car is, and where its row of rides lies. -/
structure WrS where
  core : Wr
  ra : Option Addr
  rc : Nat
def encWr (x : WrS) : List Value := [.string x.core.car, .string x.core.node, .int .i64 x.core.at_, .bool x.core.broken, .slice x.ra x.core.rides.length x.rc]
theorem encWr_len (x : WrS) : (encWr x).length = 5 := rfl
theorem encWr_one (x : WrS) : ∀ v ∈ encWr x, v.oneCell' = true := by
  intro v hv; simp [encWr] at hv
  rcases hv with rfl | rfl | rfl | rfl | rfl <;> rfl
theorem el_Wr : ElemOf Tryz.prog 51 57 5 72 := ElemOf.mk' (z := .agg #[.string ⟨#[]⟩, .string ⟨#[]⟩, .int .i64 0, .bool false, .slice none 0 0]) Tryz.underlying51 (by kernel_rfl) rfl
/-- Each car's rides are a row of its own. -/
def RowsIn (w : World) (lo : Nat) (L : List WrS) : Prop := ∀ x ∈ L, w.ownsRow lo 9 1 (.slice x.ra x.core.rides.length x.rc) x.core.rides.length (x.core.rides.flatMap encS)
theorem rows_apart {w : World} {b1 b2 : Nat} {e1 e2 : TypeId} {K1 K2 n1 n2 : Nat} {v1 v2 : Value} {xs1 xs2 : List Value} (h1 : w.ownsRow b1 e1 K1 v1 n1 xs1) (h2 : w.ownsRow b2 e2 K2 v2 n2 xs2) (hne : e1 ≠ e2) : v1.ownBlock = none ∨ v1.ownBlock ≠ v2.ownBlock := by
  rcases h1.2 with ⟨rfl, _⟩ | ⟨g, cap, cur, rfl, _, hg, _⟩
  · exact .inl rfl
  · right
    intro e
    rcases h2.2 with ⟨rfl, _⟩ | ⟨g2, cap2, cur2, rfl, _, hg2, _⟩
    · cases e
    · have e3 : g = g2 := by injection e
      subst e3
      rw [hg] at hg2
      injection hg2 with hg2; injection hg2 with _ hg2
      exact hne hg2
theorem RowsIn.nx {w w' : World} {lo : Nat} {L : List WrS} (h : RowsIn w lo L) (hn : Nx w w') : RowsIn w' lo L := fun x hx => own_nx (h x hx) hn
/-- The row of cars turns. -/
theorem RowsIn.turn {w w' : World} {lo lo2 n : Nat} {v : Value} {xs : List Value} {L : List WrS} (h : RowsIn w lo L) (hv : w.ownsRow lo2 57 5 v n xs) (hg : w.grownBy w' v.ownBlock) : RowsIn w' lo L := fun x hx =>
  (h x hx).kept hg (rows_apart (h x hx) hv (by decide))
/-- Cars, read. -/
def RdWrs (w : World) (lo : Nat) (A : Option Addr) (L : List WrS) : Prop := Rd w lo A 5 encWr L ∧ ∀ x ∈ L, Rd w lo x.ra 1 encS x.core.rides
theorem RdWrs.nx {w w' : World} {lo : Nat} {A : Option Addr} {L : List WrS} (h : RdWrs w lo A L) (hn : Nx w w') : RdWrs w' lo A L := ⟨h.1.nx hn, fun r hr => (h.2 r hr).nx hn⟩
theorem RdWrs.low {w : World} {lo lo' : Nat} {A : Option Addr} {L : List WrS} (h : RdWrs w lo A L) (hn : lo' ≤ lo) : RdWrs w lo' A L := ⟨h.1.low hn, fun r hr => (h.2 r hr).low hn⟩
theorem RowsIn.rd {w : World} {lo : Nat} {L : List WrS} (h : RowsIn w lo L) : ∀ x ∈ L, Rd w lo x.ra 1 encS x.core.rides := fun x hx => by
  obtain ⟨A, c, e, hR, _⟩ := Rd.of_own encS_len rfl (h x hx)
  injection e with e1 e2 e3
  rw [e1]; exact hR
set_option maxRecDepth 100000 in
set_option maxHeartbeats 1000000 in
theorem w_SameWhere (lo lo' : Nat) (x y : WrS) (w : World) (h : x.core = y.core) (hx : Rd w lo x.ra 1 encS x.core.rides) (hy : Rd w lo' y.ra 1 encS y.core.rides) (hl : x.core.rides.length ≤ 65536) :
    Calls Tryz.prog 35 #[.agg #[.string x.core.car, .string x.core.node, .int .i64 x.core.at_, .bool x.core.broken, .slice x.ra x.core.rides.length x.rc], .agg #[.string y.core.car, .string y.core.node, .int .i64 y.core.at_, .bool y.core.broken, .slice y.ra y.core.rides.length y.rc]] w fun e w' => e = .returned (.bool true) ∧ Nx w w' := by
  rw [← h] at hy ⊢
  have HE := hide (fun W (hn : Nx w W) => w_EqualSS lo lo' x.ra y.ra x.rc y.rc x.core.rides W (hx.nx hn) (hy.nx hn) hl)
  clear hx hy h
  obtain ⟨⟨car, node, at_, broken, rides⟩, ra, rc⟩ := x
  obtain ⟨_, ya, yc⟩ := y
  simp only at HE hl ⊢
  generalize rides.length = n at *
  have t1 : (car.toList == car.toList) = true := by simp
  have t2 : (node.toList == node.toList) = true := by simp
  have t3 : (at_ == at_) = true := by simp
  have t4 : (broken == broken) = true := by simp
  go_enter Tryz.func35, Tryz.ntmps35
  go_wp2_with (go_at_call 73; refine (HE.out _ (((Nx.refl _).alloc _).alloc _)).mono ?_; rintro e w2 ⟨rfl, hn2⟩)
  go_ret
  exact ⟨rfl, (((Nx.refl _).alloc _).alloc _).trans hn2⟩
theorem eg_sameW : Enters 35 := enters_of Tryz.func35 (by kernel_rfl) rfl
set_option maxRecDepth 100000 in
set_option maxHeartbeats 2000000 in
theorem w_EqualFW (g : Nat) (eg : Enters g) (hg : ∀ (lo lo' : Nat) (x y : WrS) (w : World), x.core = y.core → Rd w lo x.ra 1 encS x.core.rides → Rd w lo' y.ra 1 encS y.core.rides → x.core.rides.length ≤ 65536 → Calls Tryz.prog g #[.agg #[.string x.core.car, .string x.core.node, .int .i64 x.core.at_, .bool x.core.broken, .slice x.ra x.core.rides.length x.rc], .agg #[.string y.core.car, .string y.core.node, .int .i64 y.core.at_, .bool y.core.broken, .slice y.ra y.core.rides.length y.rc]] w fun e w' => e = .returned (.bool true) ∧ Nx w w')
    (lo lo' : Nat) (A B : Option Addr) (c d : Nat) (l m : List WrS) (w : World) (hA : RdWrs w lo A l) (hB : RdWrs w lo' B m) (hl : l.length ≤ 65536) (hr : ∀ x ∈ l, x.core.rides.length ≤ 65536) (hc : l.map (·.core) = m.map (·.core)) :
    Calls Tryz.prog 34 #[.slice A l.length c, .slice B m.length d, .func (.func g) #[] #[]] w fun e w' => e = .returned (.bool true) ∧ Nx w w' := by
  have hlm : m.length = l.length := by have := congrArg List.length hc; simpa using this.symm
  have HC := hide (fun k (hk : k < l.length) (hk' : k < m.length) => (show l[k].core = m[k].core from by
    have h1 : (l.map (·.core))[k]? = (m.map (·.core))[k]? := by rw [hc]
    rw [List.getElem?_map, List.getElem?_map, List.getElem?_eq_getElem hk, List.getElem?_eq_getElem hk'] at h1
    simpa using h1))
  rw [hlm]
  unfold Enters at eg
  obtain ⟨n, hn⟩ : ∃ n, n = l.length := ⟨_, rfl⟩
  rw [← hn] at hl hlm
  rw [← hn]
  have HA := hide hA
  have HB := hide hB
  have HN := hide hn
  have HM := hide hlm
  have HRL := hide hr
  have HGG := hide hg
  clear hA hB hn hc hlm hr hg
  go_enter Tryz.func34, Tryz.ntmps34
  go_wp2
  go_loopw [17] (fun i wr => ∃ k : Nat, k ≤ n ∧ i = .int .i64 k ∧ Nx w wr) (fun i _ => n - (intOf i).toNat)
  case atStart => exact ⟨0, Nat.zero_le _, rfl, Nx.refl _⟩
  case round =>
    obtain ⟨k, hk, rfl, hbw⟩ := hrel
    by_cases hlt : k < n
    · have hl1 : k < l.length := by have := HN.out; omega
      have hl2 : k < m.length := by have := HM.out; omega
      obtain ⟨b, off, rfl, _, hb, hbr, hc⟩ := (HA.out.nx hbw).1.open_ (Nx.refl _) (by omega)
      obtain ⟨b', off', rfl, _, hb', hbr', hc'⟩ := (HB.out.nx hbw).1.open_ (Nx.refl _) (by omega)
      have c0 : wr.cell? ⟨b, off + k * 5, none⟩ = some (.string l[k].core.car) := hc k hl1 0 _ rfl
      have c1 : wr.cell? ⟨b, off + k * 5 + 1, none⟩ = some (.string l[k].core.node) := hc k hl1 1 _ rfl
      have c2 : wr.cell? ⟨b, off + k * 5 + 2, none⟩ = some (.int .i64 l[k].core.at_) := hc k hl1 2 _ rfl
      have c3 : wr.cell? ⟨b, off + k * 5 + 3, none⟩ = some (.bool l[k].core.broken) := hc k hl1 3 _ rfl
      have c4 : wr.cell? ⟨b, off + k * 5 + 4, none⟩ = some (.slice l[k].ra l[k].core.rides.length l[k].rc) := hc k hl1 4 _ rfl
      have d0 : wr.cell? ⟨b', off' + k * 5, none⟩ = some (.string m[k].core.car) := hc' k hl2 0 _ rfl
      have d1 : wr.cell? ⟨b', off' + k * 5 + 1, none⟩ = some (.string m[k].core.node) := hc' k hl2 1 _ rfl
      have d2 : wr.cell? ⟨b', off' + k * 5 + 2, none⟩ = some (.int .i64 m[k].core.at_) := hc' k hl2 2 _ rfl
      have d3 : wr.cell? ⟨b', off' + k * 5 + 3, none⟩ = some (.bool m[k].core.broken) := hc' k hl2 3 _ rfl
      have d4 : wr.cell? ⟨b', off' + k * 5 + 4, none⟩ = some (.slice m[k].ra m[k].core.rides.length m[k].rc) := hc' k hl2 4 _ rfl
      have ra := (HA.out.nx hbw).2 l[k] (List.getElem_mem hl1)
      have rb := (HB.out.nx hbw).2 m[k] (List.getElem_mem hl2)
      have hco := HC.out k hl1 hl2
      have hrl := HRL.out l[k] (List.getElem_mem hl1)
      have HS := hide (fun W (hx : Nx wr W) => HGG.out lo lo' l[k] m[k] W hco (ra.nx hx) (rb.nx hx) hrl)
      clear hc hc' ra rb hco hrl
      generalize l[k] = x at *
      generalize m[k] = y at *
      have e0 : ∀ o1, (wr.alloc o1).cell? ⟨b', off' + k * 5, none⟩ = some (.string y.core.car) := fun o1 => nx_cell ((Nx.refl _).alloc o1) hbr' d0
      have e1 : ∀ o1, (wr.alloc o1).cell? ⟨b', off' + k * 5 + 1, none⟩ = some (.string y.core.node) := fun o1 => nx_cell ((Nx.refl _).alloc o1) hbr' d1
      have e2 : ∀ o1, (wr.alloc o1).cell? ⟨b', off' + k * 5 + 2, none⟩ = some (.int .i64 y.core.at_) := fun o1 => nx_cell ((Nx.refl _).alloc o1) hbr' d2
      have e3 : ∀ o1, (wr.alloc o1).cell? ⟨b', off' + k * 5 + 3, none⟩ = some (.bool y.core.broken) := fun o1 => nx_cell ((Nx.refl _).alloc o1) hbr' d3
      have e4 : ∀ o1, (wr.alloc o1).cell? ⟨b', off' + k * 5 + 4, none⟩ = some (.slice y.ra y.core.rides.length y.rc) := fun o1 => nx_cell ((Nx.refl _).alloc o1) hbr' d4
      have q1 : (0 : Int) ≤ (k : Int) := by omega
      have q2 : (k : Int) < (n : Int) := by omega
      go_wp2_with (go_at_fn g; refine (HS.out _ (((Nx.refl _).alloc _).alloc _)).mono ?_; rintro e w2 ⟨rfl, hn2⟩)
      go_roundw
      case rel => exact ⟨k + 1, by omega, by go_num, hbw.trans ((((Nx.refl _).alloc _).alloc _).trans hn2)⟩
      case measure => simp [intOf]; omega
    · go_wp2
      go_ret
      exact ⟨rfl, hbw⟩
end Go.Proofs.YtfkmbeppckelfaaGreatDoor
/- slices.SortFunc over a row of the call's own, elements of K cells: what the row holds behind it. Of no program. -/
namespace Go.Proofs.YtfkmbeppckelfaaGreatDoor
open Go.RowKit Go.Sort Go.Proofs Go.Shelf

/-- slices.SortFunc, a comparison that parts whatever two that are not one: the sorted list. -/
theorem sortFunc {α : Type} [Inhabited α] {P : Program} {ρ : Ren} (L : SlLaysF0.n6 P ρ) (K : Nat) (hK : 0 < K) (aE : ∀ w, (isAgg (ρ.t 24)).run P w = .ok true w) (zE : ∀ w, (Go.sizeOf (ρ.t 24)).run P w = .ok K w) (enc : α → List Value) (hk : ∀ x, (enc x).length = K) (h1 : ∀ x, ∀ v ∈ enc x, v.oneCell' = true)
    (cf : α → α → Int) (hO : SWO (ltOf cf)) (g : Nat) (eg : ∀ args w, (callFunc g args).run P w = .ok (.enter g args) w)
    (hcmp : ∀ x y W, Calls P g #[.agg (enc x).toArray, .agg (enc y).toArray] W fun e w' => e = .returned (.int .i64 (cf x y)) ∧ Lays W w')
    {w : World} {base b cap n : Nat} {e : TypeId} {xs : List α} (hn : xs.length = n) (hsz : n < 4611686018427387904) (h : w.ownsRow base e K (.slice (some ⟨b, 0, none⟩) n cap) n (xs.flatMap enc)) :
    Calls P (ρ.f 6) #[.slice (some ⟨b, 0, none⟩) n cap, .func (.func g) #[] #[]] w fun en w' => en = .returned (.tuple #[]) ∧
      ∃ ys : List α, ys.Perm xs ∧ (∀ i j (hi : i < j) (hj : j < ys.length), ltOf cf ys[j] (ys[i]'(by omega)) = false) ∧ w'.ownsRow base e K (.slice (some ⟨b, 0, none⟩) n cap) n (ys.flatMap enc) ∧ Gr b w w' := by
  have hlt := (h.lt b rfl)
  have hH := holds_of_own hk hK hn h
  have hc : CmpLays P g #[] enc K cf b 0 xs.toArray.size w := fun m os dk _ x y => by
    rw [Array.append_empty]
    exact hcmp x y _
  have hs := AnyQ.slices_SortFunc L K aE zE enc hk h1 cf hO g #[] b 0 cap xs.toArray w eg hc hH hlt.2 (by simpa [hn] using hsz)
  have e1 : xs.toArray.size = n := by simpa using hn
  rw [e1] at hs
  refine hs.mono fun en w' ⟨he, d', m, os, hp, hso, hw⟩ => ⟨he, d'.toList, ?_, ?_, ?_⟩
  · have h3 := hp.2.2
    have h4 := hp.1
    rw [e1] at h4
    have e2 : d'.extract 0 n = d' := by rw [← h4]; simp
    have e3 : xs.toArray.extract 0 n = xs.toArray := by rw [← e1]; simp
    rw [e2, e3] at h3
    simpa using h3
  · intro i j hi hj
    have hj' : j < d'.size := by simpa using hj
    have h4 := hp.1
    rw [e1] at h4
    have := hso i j (Nat.zero_le _) hi (by omega)
    rw [getElem!_pos d' j hj', getElem!_pos d' i (by omega)] at this
    simpa using this
  · have h4 := hp.1
    rw [e1] at h4
    have := own_of_sorted hk hK h d'.toList (by simpa using h4) m os
    rw [hw]
    simpa using this
end Go.Proofs.YtfkmbeppckelfaaGreatDoor
/- Rides and cars sorted by their keys. -/
namespace Go.Proofs.YtfkmbeppckelfaaGreatDoor
open Go.RowKit Go.Sort Go.Shelf Go.Maps Go.Proofs

def cmpBy {α : Type} (key : α → ByteArray) (a b : α) : Int := cmpS (key a) (key b)
section
variable {α : Type} {key : α → ByteArray}
theorem by_lt {a b : α} : ltOf (cmpBy key) a b = true ↔ ltS (key a) (key b) := by
  unfold ltOf cmpBy
  rw [decide_eq_true_eq, cmpS_neg]
theorem by_nlt {a b : α} : ltOf (cmpBy key) a b = false ↔ ¬ ltS (key a) (key b) := by
  rw [← by_lt]; simp
theorem swoBy : SWO (ltOf (cmpBy key)) where
  irrefl x := by_nlt.2 (ltS_irrefl _)
  trans x y z h1 h2 := by_lt.2 (ltS_trans (by_lt.1 h1) (by_lt.1 h2))
  ntrans x y z h1 h2 := by_nlt.2 (fun h => by
    have h1 := by_nlt.1 h1
    have h2 := by_nlt.1 h2
    unfold ltS at *
    rw [List.not_lt] at h1 h2
    exact absurd h (List.not_lt.2 (List.le_trans h2 h1)))
/-- What has been collected while some entries are still to come. -/
structure CollG (key : α → ByteArray) (is_ : ByteArray → Bool) (Q : ByteArray → α → Prop) (left : Lit → Bool) (L : List α) : Prop where
  val : ∀ x ∈ L, Q (key x) x
  gone : ∀ x ∈ L, left (litS (key x)) = false
  all_ : ∀ k, is_ k = true → left (litS k) = false → ∃ x ∈ L, key x = k
  nodup : (L.map key).Nodup
variable {is_ : ByteArray → Bool} {Q : ByteArray → α → Prop} {left : Lit → Bool} {L : List α}
theorem collG_start (h : ∀ k, is_ k = true → left (litS k) = true) : CollG key is_ Q left [] :=
  ⟨by simp, by simp, fun k h1 h2 => (by rw [h k h1] at h2; cases h2), by simp⟩
theorem collG_step (h : CollG key is_ Q left L) {k : ByteArray} {x : α} (hx : key x = k) (hq : Q k x) (hl : left (litS k) = true) : CollG key is_ Q (fun z => left z && !z.sameKey (litS k)) (L ++ [x]) := by
  have hself := sameS_self k
  refine ⟨?_, ?_, ?_, ?_⟩
  · intro t ht
    rcases List.mem_append.1 ht with ht | ht
    · exact h.val t ht
    · rw [List.mem_singleton.1 ht, hx]; exact hq
  · intro t ht
    rcases List.mem_append.1 ht with ht | ht
    · show (left _ && _) = false
      rw [h.gone t ht]; rfl
    · rw [List.mem_singleton.1 ht, hx]
      show (left (litS k) && !(litS k).sameKey (litS k)) = false
      rw [hself]; simp
  · intro k' hk' hlf
    by_cases e : k' = k
    · exact ⟨x, by simp, by rw [hx, e]⟩
    · have hs : (litS k').sameKey (litS k) = false := sameKey_ne (fun e1 => e (litS_inj e1))
      have hlf : (left (litS k') && !(litS k').sameKey (litS k)) = false := hlf
      rw [hs] at hlf
      obtain ⟨y, hy, e2⟩ := h.all_ k' hk' (by simpa using hlf)
      exact ⟨y, List.mem_append_left _ hy, e2⟩
  · rw [List.map_append, List.nodup_append]
    refine ⟨h.nodup, by simp, fun a ha b hb e => ?_⟩
    have hb : b = key x := by simpa using hb
    rw [hb, hx] at e; subst e
    obtain ⟨t, ht, e2⟩ := List.mem_map.1 ha
    have := h.gone t ht
    rw [e2, hl] at this; cases this
theorem collG_end (h : CollG key is_ Q left L) (hl : ∀ kl, left kl = false) {ys : List α} (hp : ys.Perm L) (hs : ∀ i j (hi : i < j) (hj : j < ys.length), ltOf (cmpBy key) ys[j] (ys[i]'(by omega)) = false) :
    ys.Pairwise (fun a b => ltS (key a) (key b)) ∧ (∀ x ∈ ys, Q (key x) x) ∧ ∀ k, is_ k = true → ∃ x ∈ ys, key x = k := by
  refine ⟨?_, fun x hx => h.val x (hp.subset hx), fun k hk => ?_⟩
  · have hnd : (ys.map key).Nodup := (hp.map key).nodup_iff.2 h.nodup
    rw [List.pairwise_iff_getElem]
    intro i j hi hj hij
    have h1 := hs i j hij hj
    have h2 : key ys[i] ≠ key ys[j] := fun e => by
      have := (List.nodup_iff_pairwise_ne.1 hnd)
      rw [List.pairwise_iff_getElem] at this
      exact this i j (by simpa using hi) (by simpa using hj) hij (by simpa using e)
    rw [by_nlt] at h1
    refine Classical.byContradiction fun hn => h2 (ltS_tri _ _ hn h1)
  · obtain ⟨x, hx, e⟩ := h.all_ k hk (hl _)
    exact ⟨x, hp.symm.subset hx, e⟩
end
instance : Inhabited St := ⟨st0⟩
instance : Inhabited Wr := ⟨⟨eB, eB, 0, false, []⟩⟩
instance : Inhabited WrS := ⟨⟨default, none, 0⟩⟩
theorem w_Rides1 (x y : St) (W : World) : Calls Tryz.prog 60 #[.agg (encSta x).toArray, .agg (encSta y).toArray] W fun e w' => e = .returned (.int .i64 (cmpBy St.ride x y)) ∧ Lays W w' := by
  have h : Calls Tryz.prog 60 #[.agg #[.string x.ride, .string x.car, .int .i64 x.how, .int .i64 x.up, .int .i64 x.down, .int .i64 x.on, .int .i64 x.off], .agg #[.string y.ride, .string y.car, .int .i64 y.how, .int .i64 y.up, .int .i64 y.down, .int .i64 y.on, .int .i64 y.off]] W fun e w' => e = .returned (.int .i64 (cmpBy St.ride x y)) ∧ Lays W w' := by
    go_enter Tryz.func60, Tryz.ntmps60
    go_wp2_with (go_at_call 61; refine (w_CompareS _ _ _).mono ?_; rintro e w' ⟨rfl, rfl⟩)
    go_ret
    exact ⟨rfl, ((Lays.refl _).alloc _).alloc _⟩
  exact h
theorem w_Cars1 (x y : WrS) (W : World) : Calls Tryz.prog 65 #[.agg (encWr x).toArray, .agg (encWr y).toArray] W fun e w' => e = .returned (.int .i64 (cmpBy (fun x : WrS => x.core.car) x y)) ∧ Lays W w' := by
  have h : Calls Tryz.prog 65 #[.agg #[.string x.core.car, .string x.core.node, .int .i64 x.core.at_, .bool x.core.broken, .slice x.ra x.core.rides.length x.rc], .agg #[.string y.core.car, .string y.core.node, .int .i64 y.core.at_, .bool y.core.broken, .slice y.ra y.core.rides.length y.rc]] W fun e w' => e = .returned (.int .i64 (cmpBy (fun x : WrS => x.core.car) x y)) ∧ Lays W w' := by
    generalize x.core.rides.length = n1
    generalize y.core.rides.length = n2
    go_enter Tryz.func65, Tryz.ntmps65
    go_wp2_with (go_at_call 61; refine (w_CompareS _ _ _).mono ?_; rintro e w' ⟨rfl, rfl⟩)
    go_ret
    exact ⟨rfl, ((Lays.refl _).alloc _).alloc _⟩
  exact h
theorem enters_Rides1 : ∀ args w, (callFunc 60 args).run Tryz.prog w = .ok (.enter 60 args) w := enters_of Tryz.func60 (by kernel_rfl) rfl
theorem enters_Cars1 : ∀ args w, (callFunc 65 args).run Tryz.prog w = .ok (.enter 65 args) w := enters_of Tryz.func65 (by kernel_rfl) rfl
/-- slices.SortFunc of rides, on a row of the call's own. -/
theorem w_SortSta {base n : Nat} {v : Value} {L : List St} (w : World) (hn : L.length = n) (hl : n ≤ 100000) (h : w.ownsRow base 59 7 v n (L.flatMap encSta)) :
    Calls Tryz.prog 59 #[v, .func (.func 60) #[] #[]] w fun e w' => e = .returned (.tuple #[]) ∧ ∃ ys : List St, ys.Perm L ∧ (∀ i j (hi : i < j) (hj : j < ys.length), ltOf (cmpBy St.ride) ys[j] (ys[i]'(by omega)) = false) ∧ w'.ownsRow base 59 7 v n (ys.flatMap encSta) ∧ w.grownBy w' v.ownBlock := by
  have h0 := h
  rcases h.2 with ⟨rfl, h1⟩ | ⟨g, cap, cur, rfl, hg, _⟩
  · obtain rfl : n = 0 := h1
    have hL : L = [] := List.eq_nil_of_length_eq_zero hn
    subst hL
    refine (AnyF.slices_SortFunc_none (P := Tryz.prog) { Tryz.sortSta with } none 0 (.func (.func 60) #[] #[]) w).mono ?_
    rintro e w' ⟨rfl, rfl⟩
    exact ⟨rfl, [], List.Perm.refl _, by simp, h0, World.grownBy.refl _ _⟩
  · refine (sortFunc Tryz.sortSta 7 (by omega) Tryz.isAgg59 Tryz.sizeOf59 encSta encSta_len encSta_one (cmpBy St.ride) swoBy 60 enters_Rides1 (fun x y W => w_Rides1 x y W) (base := base) (b := g) (cap := cap) (xs := L) hn (by omega) h).mono ?_
    rintro e w' ⟨rfl, ys, hp, hs, ho, hgr⟩
    exact ⟨rfl, ys, hp, hs, ho, hgr⟩
/-- slices.SortFunc of cars, on a row of the call's own. -/
theorem w_SortWr {base n : Nat} {v : Value} {L : List WrS} (w : World) (hn : L.length = n) (hl : n ≤ 100000) (h : w.ownsRow base 57 5 v n (L.flatMap encWr)) :
    Calls Tryz.prog 64 #[v, .func (.func 65) #[] #[]] w fun e w' => e = .returned (.tuple #[]) ∧ ∃ ys : List WrS, ys.Perm L ∧ (∀ i j (hi : i < j) (hj : j < ys.length), ltOf (cmpBy (fun x : WrS => x.core.car)) ys[j] (ys[i]'(by omega)) = false) ∧ w'.ownsRow base 57 5 v n (ys.flatMap encWr) ∧ w.grownBy w' v.ownBlock := by
  have h0 := h
  rcases h.2 with ⟨rfl, h1⟩ | ⟨g, cap, cur, rfl, hg, _⟩
  · obtain rfl : n = 0 := h1
    have hL : L = [] := List.eq_nil_of_length_eq_zero hn
    subst hL
    refine (AnyF.slices_SortFunc_none (P := Tryz.prog) { Tryz.sortWh with } none 0 (.func (.func 65) #[] #[]) w).mono ?_
    rintro e w' ⟨rfl, rfl⟩
    exact ⟨rfl, [], List.Perm.refl _, by simp, h0, World.grownBy.refl _ _⟩
  · refine (sortFunc Tryz.sortWh 5 (by omega) Tryz.isAgg57 Tryz.sizeOf57 encWr encWr_len encWr_one (cmpBy (fun x : WrS => x.core.car)) swoBy 65 enters_Cars1 (fun x y W => w_Cars1 x y W) (base := base) (b := g) (cap := cap) (xs := L) hn (by omega) h).mono ?_
    rintro e w' ⟨rfl, ys, hp, hs, ho, hgr⟩
    exact ⟨rfl, ys, hp, hs, ho, hgr⟩
end Go.Proofs.YtfkmbeppckelfaaGreatDoor
/- All rides, by the program. -/
namespace Go.Proofs.YtfkmbeppckelfaaGreatDoor
open Go.RowKit Go.Sort Go.Shelf Go.Maps Go.Proofs

/-- What Rides answers. -/
def RidesEnd (l : List Ev) (at_ : Int) (w : World) (e : Ending) (w' : World) : Prop :=
  (∃ (B : Option Addr) (m cb : Nat), e = .returned (.tuple #[.slice B m cb, .int .i64 (momentF l at_)]) ∧ (momentF l at_ ≠ 0 → m = 0) ∧ (momentF l at_ = 0 → ∃ L : List St, m = L.length ∧ Rd w' w.heap.size B 7 encSta L ∧ StsOf (runP l at_ l.length).rides L ∧ L.length ≤ 4 * l.length)) ∧ Nx w w'
theorem momentF_zero {l : List Ev} {at_ : Int} (h : momentF l at_ = 0) : evsF l = 0 ∧ momB at_ = true := by
  unfold momentF at h
  by_cases h1 : evsF l = 0
  · rw [if_pos h1] at h
    refine ⟨h1, ?_⟩
    cases hm : momB at_ with
    | true => rfl
    | false => rw [hm] at h; simp at h
  · rw [if_neg h1] at h; exact absurd h h1
set_option maxRecDepth 100000 in
set_option maxHeartbeats 2000000 in
theorem w_Rides (lo : Nat) (A : Option Addr) (c : Nat) (l : List Ev) (at_ : Int) (w : World) (hR : Rd w lo A 11 encEvt l) (hl : l.length ≤ 50) (hok : ∀ x ∈ l, okEv x) :
    Calls Tryz.prog 28 #[.slice A l.length c, .int .i64 at_] w (RidesEnd l at_ w) := by
  have HC := hide (w_momentFault lo A c l at_ w hR hl hok)
  have HFO := hide (fun (h : momentF l at_ = 0) (W : World) (hn : Nx w W) => w_follow lo A c l at_ W (hR.nx hn) (by omega) (momentF_zero h).1)
  unfold RidesEnd
  have hq : momentF l at_ = 0 ∨ (momentF l at_ != 0) = true := by simp; omega
  rcases hq with hq | hq
  · have HQ := hide hq
    have hsim := run_sim (momentF_zero hq).1 at_ l.length
    rw [hq] at HC ⊢
    have HFO2 := hide (HFO.out hq)
    obtain ⟨D, hD⟩ : ∃ D, D = runP l at_ l.length := ⟨_, rfl⟩
    rw [← hD] at hsim ⊢
    have HD := hide hD
    have HKEY := hide (show ∀ k s, D.rides k = some s → s.ride = k from fun k s h => hsim.key k s (by rw [← hsim.rides k]; exact h))
    obtain ⟨n, hn⟩ : ∃ n, n = l.length := ⟨_, rfl⟩
    have hnl : n ≤ 50 := by omega
    rw [← hn] at HC HFO2 ⊢
    have HN := hide hn
    clear hR hl hok hq hn HFO hD hsim
    go_enter Tryz.func28, Tryz.ntmps28
    go_wp2_with fail
    refine HC.out.mono ?_
    rintro e w2 ⟨rfl, hn2⟩
    have HFO3 := hide (HFO2.out w2 hn2)
    have HN2 := hide hn2
    clear hn2
    go_wp2_with fail
    refine HFO3.out.mono ?_
    rintro e w3 ⟨lo3, d, rb, cb, gb, bb, rv, fr, fc, fm, rfl, hDW, hblk, hrow, hG, h1, h2, h3, h4, h5, hnx⟩
    have d1 := (day_cells hblk).2.1
    rw [← HD.out, ← HN.out] at hDW
    obtain ⟨Dt, hown, hMD⟩ := hDW.rides.map
    have hnt : Maps.size Dt ≤ 4 * n := by
      obtain ⟨es, clock, _, _, h1, rfl⟩ := hown
      rw [size_eq, length_sorted]; simpa using h1
    have HDW := hide hDW
    have HMD := hide hMD
    have HN3 := hide (HN2.out.trans hnx)
    have hzz : w.heap.size ≤ w3.heap.size := HN3.out.sz
    clear hblk hrow hG hnx hDW hMD
    go_wp2_with (first
      | (at_range; refine wpList_range_own _ rfl _ _ rfl 9 105 law_strE Tryz.underlying86 _ rb (4 * n) _ rfl hown ?_; intro w4 hrg4 hg4 hs4))
    try go_frame
    have hgn : ∀ k, (D.rides k).isSome = true → Maps.has Dt (litS k) = true := by
      intro k hk'
      cases hs : D.rides k with
      | none => rw [hs] at hk'; cases hk'
      | some s =>
        obtain ⟨q, hq, _⟩ := HDW.out.rides.at_ k s hs
        have hdk := HMD.out.dm k (by rw [hq]; rfl)
        rw [HMD.out.has_ hdk (keyS_mk Tryz.underlying9 hdk), hq]; rfl
    have HGN := hide hgn
    clear hgn
    go_loopw [7, 9] (fun v _ wr => ∃ (left : Lit → Bool) (cnt : Nat) (L : List St), wr.ranges Tryz.prog 9 ptrElem rb w3.heap.size (4 * n) Dt left cnt ∧ L.length + cnt ≤ 4 * n ∧ wr.ownsRow (w3.heap.size + 1) 59 7 v L.length (L.flatMap encSta) ∧ CollG St.ride (fun k => (D.rides k).isSome) (fun k s => D.rides k = some s) left L ∧ Nx w3 wr)
      (fun _ _ wr => wr.rangeLeft rb w3.heap.size)
    case atStart =>
      exact ⟨_, _, [], hrg4, by simpa using hnt, World.ownsRow_nil _ _ _ _, collG_start HGN.out, (Nx.refl _).grown hg4 (fun j hj => by cases hj)⟩
    case round =>
      obtain ⟨left, cnt, L, hrg, hcs, hown1, hC, hnx⟩ := hrel
      have HCC := hide hC
      have HNX := hide hnx
      have HRG := hide hrg
      have HOW := hide hown1
      clear hC hnx hown1
      go_wp2_with (first
        | (at_next; refine wpList_next_ranges _ rfl _ rfl 9 law_strE ptrElem Value.string ptrV (fun key kl hkey => (by obtain ⟨x, rfl, _⟩ := keyS_inv Tryz.underlying9 hkey; exact ⟨x, rfl⟩)) (fun v y hv => (by obtain ⟨q, _, h, _⟩ := elemPtr.inv v y.1 y.2 hv; exact ⟨q, h⟩)) rb w3.heap.size (4 * n) _ _ _ rfl hrg ?_ ?_))
      · intro hc0 hl0
        have HL0 := hide hl0
        obtain ⟨m, hm⟩ : ∃ m, m = L.length := ⟨_, rfl⟩
        have HM := hide hm
        have HSO := hide (w_SortSta wr rfl (by omega) HOW.out)
        clear hl0 hm hrg
        go_wp2_with (go_at_call 59; refine HSO.out.mono ?_; rintro e w6 ⟨rfl, ys, hp, hs, ho, hg6⟩; (have HP := hide hp); (have HS := hide hs); (have HO := hide ho); (have HG6 := hide hg6); clear hp hs ho hg6)
        go_ret2
        obtain ⟨h1, h2, h3⟩ := collG_end HCC.out HL0.out HP.out HS.out
        have hyl : ys.length = L.length := HP.out.length_eq
        have ho := HO.out
        rw [← hyl] at ho
        obtain ⟨B, cb', ev, hRB, _⟩ := Rd.of_own encSta_len rfl ho
        refine ⟨⟨B, ys.length, cb', by rw [← ev]; rfl, fun h => absurd rfl h, fun _ => ⟨ys, rfl, hRB.low (by omega), ⟨h1, fun s => ⟨fun hs => ?_, fun hs => ?_⟩⟩, by omega⟩⟩, (HN3.out.trans HNX.out).grown HG6.out (fun p hp => by have := own_blk_lt HOW.out p hp; omega)⟩
        · exact h2 s hs
        · obtain ⟨x, hx, e⟩ := h3 s.ride (by rw [hs]; rfl)
          have := h2 x hx
          rw [e, hs] at this
          injection this with this
          rw [this]; exact hx
      · intro k c kl y ps w5 cnt5 hkey hlk hRv hat hrg5 hlt5 hg5 hs5 hen
        obtain ⟨k0, ek, hdk, rfl⟩ := keyS_inv Tryz.underlying9 hkey
        obtain rfl := strV_inj _ _ ek
        have hfk := range_ptr HMD.out hdk (keyS_mk Tryz.underlying9 hdk) hRv hat
        obtain ⟨s, hs⟩ : ∃ s, D.rides k = some s := by
          cases hs : D.rides k with
          | none => have := HDW.out.rides.non k hs; rw [hfk] at this; cases this
          | some s => exact ⟨s, rfl⟩
        obtain ⟨q, hq, hlq, hqo⟩ := HDW.out.rides.at_ k s hs
        rw [hfk] at hq; injection hq with hq; subst hq
        have hn5 : Nx w3 w5 := HNX.out.grown hg5 (fun p hp => by injection hp with hp; omega)
        have hqo5 := (hn5.block _ (Array.getElem?_eq_some_iff.1 hqo).1).trans hqo
        obtain ⟨b0, b1, b2, b3, b4, b5, b6⟩ := sta_cells hqo5
        have hql := (Array.getElem?_eq_some_iff.1 hqo5).1
        have hstp := hide (collG_step HCC.out (x := s) (HKEY.out k s hs) hs hlk)
        have hown5 := own_gr HOW.out hg5 (by omega)
        have hsz5 : w3.heap.size < w5.heap.size := hrg5.lt
        have hrb3 : rb < w3.heap.size := HDW.out.rides.map.lt
        obtain ⟨rid, car, how, sup, sdn, son, soff⟩ := s
        simp only at b0 b1 b2 b3 b4 b5 b6
        simp only [ptrV] at hen
        have HR5 := hide hrg5
        have HO5 := hide hown5
        have HN5 := hide hn5
        clear hRv hat hlk hg5 hrg5 hs5 hs hfk hqo hqo5 hown5 hn5 hrg
        go_wp2_with (first
            | (at_builtin; refine wpApp rfl _ _ _ rfl el_Sta encSta encSta_len encSta_one (by omega) (by omega) (w3.heap.size + 1) _ L rfl (HO5.out.alloc _) _ ⟨rid, car, how, sup, sdn, son, soff⟩ _ rfl (hnew (by simp)) rfl (by omega) (by simp; omega) ?_; intro v8 w8 hown8 hg8; (have HO8 := hide hown8); (have HG8 := hide hg8); clear hown8 hg8))
        have hrg8 := (HR5.out.alloc _).kept HG8.out (fun e => by have := own_blk_lt HO5.out rb e.symm; omega) (fun e => by have := own_blk_lt HO5.out _ e.symm; omega)
        go_roundw
        case rel => exact ⟨_, cnt5, _, hrg8, by simp; omega, HO8.out, hstp.out, (HN5.out.alloc _).grown HG8.out (fun p hp => by have := own_blk_lt HO5.out p hp; omega)⟩
        case measure => rw [hrg8.left_eq, HRG.out.left_eq]; exact hlt5
  · have HQ := hide (show momentF l at_ ≠ 0 by simpa using hq)
    generalize momentF l at_ = f at *
    generalize l.length = n at *
    clear hR hl hok HFO
    go_enter Tryz.func28, Tryz.ntmps28
    go_wp2_with fail
    refine HC.out.mono ?_
    rintro e w2 ⟨rfl, hn2⟩
    go_wp2_with fail
    go_ret2
    exact ⟨⟨_, _, _, rfl, fun _ => rfl, fun h => absurd h HQ.out⟩, hn2⟩
end Go.Proofs.YtfkmbeppckelfaaGreatDoor
/- 'out = append(out, y)' at a step of a region that draws. Of no program. -/
namespace Go.Proofs.YtfkmbeppckelfaaGreatDoor
open Go.RowKit
theorem step_app {α : Type} {P : Program} {w : World} {ops : Array Oper} {o : Oper} {a : Act} {K' : Act → World → Prop} {Q : Exit → Act → World → Prop} {E' : Prop} (hgd : o.guard = none) (s x : Operand) (t : TypeId)
    (ho : o.op = .call { callee := .builtin .append, args := #[s, x], argTypes := #[t, t] })
    {e : TypeId} {K bytes : Nat} (E : ElemOf P t e K bytes) (enc : α → List Value) (hk : ∀ x, (enc x).length = K) (h1c : ∀ x, ∀ v ∈ enc x, v.oneCell' = true) (hK : 0 < K) (hB : bytes ≤ 1000)
    (base : Nat) (v : Value) (L : List α) (hs : a.eval s = v) (hown : w.ownsRow base e K v L.length (L.flatMap enc)) (g : Nat) (y : α) (cs : Array Value) (hx : a.eval x = .slice (some ⟨g, 0, none⟩) 1 1)
    (hblk : w.heap[g]? = some (.cells cs e (0, 0))) (hcs : cs.toList = enc y) (hlen : L.length ≤ 10000000) (hbase : base ≤ w.heap.size)
    (h : ∀ v' w', w'.ownsRow base e K v' (L ++ [y]).length ((L ++ [y]).flatMap enc) → w.grownBy w' v.ownBlock → (∀ b, v'.ownBlock = some b → v.ownBlock = some b ∨ b = w.heap.size) → K' (a.put o.dst v') w') :
    if Region.wanted o (yielded ops a.tmps) = true then Oper.wp P o a w K' Q else E' := by
  obtain ⟨i, z, h1, h2, h3, h4, h5⟩ := E.hi
  refine step_append_lies w hgd s x t ho base e i z K bytes E.ht h1 h2 h3 h4 h5 hK v L.length _ hs hown ⟨g, 0, none⟩ 1 1 (enc y) hx (by rw [hk]; omega) (news_of hblk hcs) (h1c y) (by omega) (by unfold maxLen; omega) ?_ hbase _ rfl ?_
  · have : (L.length + 1) * bytes ≤ 10000001 * 1000 := Nat.mul_le_mul (by omega) hB
    omega
  · intro g' cap w' ho' hg' hat _
    have e1 : (L ++ [y]).length = L.length + 1 := by simp
    refine h _ w' (by rw [e1, List.flatMap_append]; simpa using ho') hg' (fun b hb => ?_)
    have : g' = b := by simpa [Value.ownBlock] using hb
    subst this
    exact hat
/-- .. at an operation of a region that does not draw. -/
theorem wpApp2 {α : Type} {P : Program} {w : World} {ops : Array Oper} {rest : List Oper} {o : Oper} {a : Act} {Q : Exit → Act → World → Prop} (hgd : o.guard = none) (s x : Operand) (t : TypeId)
    (ho : o.op = .call { callee := .builtin .append, args := #[s, x], argTypes := #[t, t] })
    {e : TypeId} {K bytes : Nat} (E : ElemOf P t e K bytes) (enc : α → List Value) (hk : ∀ x, (enc x).length = K) (h1c : ∀ x, ∀ v ∈ enc x, v.oneCell' = true) (hK : 0 < K) (hB : bytes ≤ 1000)
    (base : Nat) (v : Value) (L : List α) (hs : a.eval s = v) (hown : w.ownsRow base e K v L.length (L.flatMap enc)) (g : Nat) (y : α) (cs : Array Value) (hx : a.eval x = .slice (some ⟨g, 0, none⟩) 1 1)
    (hblk : w.heap[g]? = some (.cells cs e (0, 0))) (hcs : cs.toList = enc y) (hlen : L.length ≤ 10000000) (hbase : base ≤ w.heap.size)
    (h : ∀ v' w', w'.ownsRow base e K v' (L ++ [y]).length ((L ++ [y]).flatMap enc) → w.grownBy w' v.ownBlock → (∀ b, v'.ownBlock = some b → v.ownBlock = some b ∨ b = w.heap.size) → wpList P ops Q rest (a.put o.dst v') w') : wpList P ops Q (o :: rest) a w := by
  obtain ⟨i, z, h1, h2, h3, h4, h5⟩ := E.hi
  refine wpList_append_lies w hgd s x t ho base e i z K bytes E.ht h1 h2 h3 h4 h5 hK v L.length _ hs hown ⟨g, 0, none⟩ 1 1 (enc y) hx (by rw [hk]; omega) (news_of hblk hcs) (h1c y) (by omega) (by unfold maxLen; omega) ?_ hbase _ rfl ?_
  · have : (L.length + 1) * bytes ≤ 10000001 * 1000 := Nat.mul_le_mul (by omega) hB
    omega
  · intro g' cap w' ho' hg' hat _
    have e1 : (L ++ [y]).length = L.length + 1 := by simp
    refine h _ w' (by rw [e1, List.flatMap_append]; simpa using ho') hg' (fun b hb => ?_)
    have : g' = b := by simpa [Value.ownBlock] using hb
    subst this
    exact hat
end Go.Proofs.YtfkmbeppckelfaaGreatDoor
