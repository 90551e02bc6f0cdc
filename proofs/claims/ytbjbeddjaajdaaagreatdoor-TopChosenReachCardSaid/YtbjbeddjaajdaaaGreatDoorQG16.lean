/- Both ends of a way asked for. -/
import Derived.Test.YtbjbeddjaajdaaaGreatDoorQNewW
import Derived.Test.YtbjbeddjaajdaaaGreatDoorQG14
import Derived.Test.YtbjbeddjaajdaaaGreatDoorQCheckR
import Derived.Deep.DeepCutAuto
import Derived.Test.YtbjbeddjaajdaaaGreatDoorQG13
import Derived.Test.YtbjbeddjaajdaaaGreatDoorQG10
import Derived.Test.YtbjbeddjaajdaaaGreatDoorQG2
import Derived.Deep.RegionWith
import Derived.Deep.RegionHeld3
import Derived.Deep.AppendLies
namespace Go.Proofs.YtbjbeddjaajdaaaGreatDoor
open Go.RowKit
set_option maxRecDepth 100000 in
set_option maxHeartbeats 4000000 in
theorem w_Ends (g0 lo : Nat) (A B C : Option Addr) (ca cb cc : Nat) (ns : List Node) (rs : List Arc) (bs : List Ban) (f t : ByteArray) (ad : Int) (i j : Nat) (w : World) (hBox : BoxR w g0 lo A B C ca cb cc ns rs bs) (hS : SmallN ns) (hF : roadsF ns rs bs = 0) (hOK : NewOk ns rs bs) (hi : nodeI ns f = (i : Int)) (hj : nodeI ns t = (j : Int)) (ha : momB ad = true) :
    Calls Tryz.prog 48 #[.pointer (some ⟨g0, 0, none⟩), .string f, .string t, .int .i64 ad] w fun e w' => ∃ (bm : Nat) (M : MapA), e = .returned (.tuple #[.pointer (some ⟨bm, 0, none⟩), .int .i64 (i : Int), .int .i64 (j : Int), .int .i64 0]) ∧ w.heap.size ≤ bm ∧ MapR w' bm g0 lo A B C ca cb cc M ns rs bs ∧ Nx w w' := by
  have b0 := hBox.g0
  have b1 := hBox.g1
  have b2 := hBox.g2
  have HC := hide (w_CheckRoads lo lo lo A B C ca cb cc ns rs bs w hBox.hN hS hBox.nl hBox.hA hBox.al hBox.hB hBox.bl)
  have HB := hide hBox
  have HF := hide hF
  have HOK := hide hOK
  have HI := hide hi
  have HJ := hide hj
  have ti : decide ((i : Int) < 0) = false := decide_eq_false (by omega)
  have tj : decide ((j : Int) < 0) = false := decide_eq_false (by omega)
  clear hBox hF hOK hi hj
  go_enter Tryz.func48, Tryz.ntmps48
  go_wp2_with fail
  refine (HC.out).mono ?_
  rintro e w1 ⟨rfl, hn1⟩
  rw [HF.out]
  clear b0 b1 b2
  have HN1 := hide hn1
  clear hn1
  go_wp2_with fail
  have hb1 := HB.out.nx HN1.out
  have hA := w_nodeR g0 lo A ca ns f w1 hb1.g0 hb1.hN (by have := hb1.nl; omega) HOK.out.sn
  rw [HI.out] at hA
  refine hA.mono ?_
  rintro e w2 ⟨rfl, hn2⟩
  have HN2 := hide (HN1.out.trans hn2)
  clear hn2 hA hb1
  go_wp2_with fail
  have hb1 := HB.out.nx HN2.out
  have hA := w_nodeR g0 lo A ca ns t w2 hb1.g0 hb1.hN (by have := hb1.nl; omega) HOK.out.sn
  rw [HJ.out] at hA
  refine hA.mono ?_
  rintro e w3 ⟨rfl, hn3⟩
  have HN3 := hide (HN2.out.trans hn3)
  clear hn3 hA hb1
  go_wp2_with fail
  refine (w_Moment _ _).mono ?_
  rintro e w4 ⟨rfl, rfl⟩
  rw [ha]
  go_wp2_with fail
  refine (w_New g0 lo A B C ca cb cc ns rs bs w3 (HB.out.nx HN3.out) HOK.out).mono ?_
  rintro e w5 ⟨bm, M, rfl, hbm, hM, hn5⟩
  have HM := hide hM
  have HN5 := hide (HN3.out.trans hn5)
  have HBM := hide (Nat.le_trans HN3.out.sz hbm)
  clear hM hn5 hbm
  go_wp2_with fail
  exact bodyPost_ret (v := .tuple #[.pointer (some ⟨bm, 0, none⟩), .int .i64 (i : Int), .int .i64 (j : Int), .int .i64 0]) (by simp [results, Tryz.results48, go_sem]) rfl ⟨bm, M, rfl, HBM.out, HM.out, HN5.out⟩
end Go.Proofs.YtbjbeddjaajdaaaGreatDoor
/- Plain: the reference's out times, asked until nothing gets better; when one can leave at the latest. -/
namespace Go.Proofs.YtbjbeddjaajdaaaGreatDoor

def betB (g : Gph) (o : List Int) (i : Nat) (t : Int) : Bool := decide (t < endT) && decide (g.out i t < gi o i)
def betO (g : Gph) (o : List Int) (i : Nat) (t : Int) : List Int := if betB g o i t then o.set i (g.out i t) else o
def sumO : List Int → Nat
  | [] => 0
  | x :: l => x.toNat + sumO l
theorem sumO_set : ∀ (l : List Int) (i : Nat) (v : Int), i < l.length → 0 ≤ v → v < gi l i → sumO (l.set i v) < sumO l
  | [], i, v, h, _, _ => absurd h (by simp)
  | x :: l, 0, v, _, h0, h1 => by
    have h1 : v < x := h1
    show v.toNat + sumO l < x.toNat + sumO l
    omega
  | x :: l, i + 1, v, h, h0, h1 => by
    have := sumO_set l i v (by simpa using h) h0 h1
    show x.toNat + sumO (l.set i v) < x.toNat + sumO l
    omega
theorem sumO_rep (n : Nat) : sumO (List.replicate n endT) = n * endT.toNat := by
  induction n with
  | zero => rw [Nat.zero_mul]; rfl
  | succ n ih => rw [List.replicate_succ, Nat.succ_mul]; show endT.toNat + sumO _ = _; omega
section
variable {g : Gph} {a : Nat} {at_ : Int}
structure OutInv (g : Gph) (a : Nat) (at_ : Int) (o : List Int) : Prop where
  len : o.length = g.m
  sound : ∀ k, k < g.m → gi o k = endT ∨ Rch g a at_ k (gi o k)
theorem OutInv.bd (hg : GOk g) (h0 : 0 ≤ at_) {o : List Int} (h : OutInv g a at_ o) {k : Nat} (hk : k < g.m) : 0 ≤ gi o k ∧ gi o k ≤ endT := by
  rcases h.sound k hk with e | e
  · rw [e]; decide
  · have := e.ge hg h0; omega
theorem outInv_new : OutInv g a at_ (List.replicate g.m endT) :=
  ⟨by simp, fun k hk => .inl (by unfold gi; simp [hk])⟩
theorem OutInv.bet (hg : GOk g) (_h0 : 0 ≤ at_) {o : List Int} (h : OutInv g a at_ o) {i : Nat} {t : Int} (hi : i < g.m) (hR : t < endT → g.out i t < endT → Rch g a at_ i (g.out i t)) : OutInv g a at_ (betO g o i t) := by
  unfold betO
  cases hb : betB g o i t with
  | false => rw [if_neg (by simp)]; exact h
  | true =>
    rw [if_pos rfl]
    unfold betB at hb
    simp only [Bool.and_eq_true, decide_eq_true_eq] at hb
    have hbd := h.bd hg _h0 hi
    refine ⟨by simpa using h.len, fun k hk => ?_⟩
    rw [gi_set _ _ _ _ (by rw [h.len]; exact hi)]
    split
    · rename_i e; subst e
      exact .inr (hR hb.1 (by omega))
    · exact h.sound k hk
theorem OutInv.low (hg : GOk g) (_h0 : 0 ≤ at_) {o : List Int} (h : OutInv g a at_ o) {i : Nat} {t : Int} (hi : i < g.m) (ht : 0 ≤ t) (hb : betB g o i t = true) : sumO (betO g o i t) < sumO o := by
  unfold betO
  rw [hb, if_pos rfl]
  unfold betB at hb
  simp only [Bool.and_eq_true, decide_eq_true_eq] at hb
  have := hg.gt i t hi ht
  exact sumO_set o i _ (by rw [h.len]; exact hi) (by omega) hb.2
/-- In a round: o0 is what it began with; ag: something got better. -/
structure RInv (g : Gph) (a : Nat) (at_ : Int) (o0 o : List Int) (ag : Bool) (D0 : Nat → Prop) (D1 : Nat → Nat → Prop) : Prop where
  inv : OutInv g a at_ o
  same : ag = false → o = o0 ∧ (∀ i, i < g.m → D0 i → g.from_ i = a → g.out i at_ < endT → gi o i ≤ g.out i at_) ∧
    ∀ k i, k < g.m → i < g.m → D1 k i → g.from_ i = g.to_ k → g.ban k i = false → gi o k < endT → gi o i ≤ g.out i (gi o k)
  less : ag = true → sumO o < sumO o0
theorem RInv.start {o : List Int} (h : OutInv g a at_ o) : RInv g a at_ o o false (fun _ => False) (fun _ _ => False) :=
  ⟨h, fun _ => ⟨rfl, fun _ _ hf => hf.elim, fun _ _ _ _ hf => hf.elim⟩, fun h => by cases h⟩
theorem RInv.mono {o0 o : List Int} {ag : Bool} {D0 D0' : Nat → Prop} {D1 D1' : Nat → Nat → Prop} (h : RInv g a at_ o0 o ag D0 D1)
    (h0 : ∀ i, i < g.m → g.from_ i = a → D0' i → D0 i) (h1 : ∀ k i, k < g.m → i < g.m → g.from_ i = g.to_ k → g.ban k i = false → D1' k i → D1 k i) : RInv g a at_ o0 o ag D0' D1' :=
  ⟨h.inv, fun e => ⟨(h.same e).1, fun i hi hd hf => (h.same e).2.1 i hi (h0 i hi hf hd) hf, fun k i hk hi hd hf hb => (h.same e).2.2 k i hk hi (h1 k i hk hi hf hb hd) hf hb⟩, h.less⟩
theorem RInv.step (hg : GOk g) (h0 : 0 ≤ at_) {o0 o : List Int} {ag : Bool} {D0 : Nat → Prop} {D1 : Nat → Nat → Prop} (h : RInv g a at_ o0 o ag D0 D1) {i : Nat} {t : Int} (hi : i < g.m) (ht : 0 ≤ t)
    (hR : t < endT → g.out i t < endT → Rch g a at_ i (g.out i t)) {D0' : Nat → Prop} {D1' : Nat → Nat → Prop}
    (hd : betB g o i t = false → (∀ j, j < g.m → g.from_ j = a → D0' j → D0 j ∨ (j = i ∧ t = at_ ∧ at_ < endT)) ∧ (∀ k j, k < g.m → j < g.m → g.from_ j = g.to_ k → g.ban k j = false → D1' k j → D1 k j ∨ (j = i ∧ t = gi o k))) :
    RInv g a at_ o0 (betO g o i t) (ag || betB g o i t) D0' D1' := by
  refine ⟨h.inv.bet hg h0 hi hR, fun e => ?_, fun e => ?_⟩
  · rw [Bool.or_eq_false_iff] at e
    obtain ⟨h1, h2, h3⟩ := h.same e.1
    obtain ⟨d0, d1⟩ := hd e.2
    have eo : betO g o i t = o := by unfold betO; rw [e.2, if_neg (by simp)]
    have hnb : t < endT → gi o i ≤ g.out i t := by
      intro h4
      have h5 := e.2
      unfold betB at h5
      rw [decide_eq_true h4, Bool.true_and] at h5
      have := of_decide_eq_false h5
      omega
    rw [eo]
    refine ⟨h1, fun j hj hdj hf he => ?_, fun k j hk hj hdj hf hb he => ?_⟩
    · rcases d0 j hj hf hdj with hx | ⟨rfl, rfl, hx⟩
      · exact h2 j hj hx hf he
      · exact hnb hx
    · rcases d1 k j hk hj hf hb hdj with hx | ⟨rfl, rfl⟩
      · exact h3 k j hk hj hx hf hb he
      · exact hnb he
  · cases hb : betB g o i t with
    | true =>
      have h1 := h.inv.low hg h0 hi ht hb
      cases hag : ag with
      | true => have := h.less hag; omega
      | false => rw [(h.same hag).1] at h1 ⊢; exact h1
    | false =>
      have eo : betO g o i t = o := by unfold betO; rw [hb, if_neg (by simp)]
      rw [eo]
      rw [hb, Bool.or_false] at e
      exact h.less e
theorem RInv.sol {o0 o : List Int} {D0 : Nat → Prop} {D1 : Nat → Nat → Prop} (h : RInv g a at_ o0 o false D0 D1) (h0 : ∀ i, i < g.m → D0 i) (h1 : ∀ k i, k < g.m → i < g.m → D1 k i) : OutSol g a at_ o :=
  ⟨h.inv.len, h.inv.sound, fun i hi hf he => (h.same rfl).2.1 i hi (h0 i hi) hf he, fun k i hk hi hf hb he => (h.same rfl).2.2 k i hk hi (h1 k i hk hi) hf hb he⟩
end
/-- When one is at a node at the earliest (endT: never). -/
def arrG (g : Gph) (a b : Nat) (at_ : Int) : Int := firstV (searchG g a at_) b
section
variable {g : Gph}
theorem arrG_ok (hg : GOk g) {a b : Nat} {at_ : Int} (h0 : 0 ≤ at_) (ha : a < g.nn) (hb : b < g.nn) : Arrives g a at_ b (arrG g a b at_) := (search_found hg h0 ha).arr h0 hb
theorem arrG_self (hg : GOk g) {a : Nat} {at_ : Int} (h0 : 0 ≤ at_) (ha : a < g.nn) : arrG g a a at_ = at_ := (arrG_ok hg h0 ha ha).uniq (.inl ⟨rfl, rfl⟩)
theorem arrG_bd (hg : GOk g) {a b : Nat} {at_ : Int} (h0 : 0 ≤ at_) (he : at_ < endT) (ha : a < g.nn) (hb : b < g.nn) : at_ ≤ arrG g a b at_ ∧ arrG g a b at_ ≤ endT := by
  rcases arrG_ok hg h0 ha hb with ⟨_, e⟩ | ⟨_, ⟨e, _⟩ | ⟨k, _, hr, _⟩⟩
  · rw [e]; omega
  · rw [e]; omega
  · have := hr.ge hg h0; omega
theorem arrG_mono (hg : GOk g) {a b : Nat} {t t' : Int} (h0 : 0 ≤ t) (h : t ≤ t') (he : t' < endT) (ha : a < g.nn) (hb : b < g.nn) : arrG g a b t ≤ arrG g a b t' :=
  (arrG_ok hg h0 ha hb).later hg h0 h he (arrG_ok hg (by omega) ha hb)
theorem arrG_sol (hg : GOk g) {a b : Nat} {at_ : Int} (h0 : 0 ≤ at_) (ha : a < g.nn) (hb : b < g.nn) {o : List Int} (h : OutSol g a at_ o) (hab : a ≠ b) : leastTo g o b g.m = arrG g a b at_ := (h.arr hg h0 hab).uniq (arrG_ok hg h0 ha hb)
/-- When one can leave at the latest; -1: never. -/
structure LeaveOk (g : Gph) (a b : Nat) (by_ L : Int) : Prop where
  low : -1 ≤ L
  high : L ≤ by_
  ok : 0 ≤ L → arrG g a b L ≤ by_
  last : L < by_ → ¬ arrG g a b (L + 1) ≤ by_
theorem LeaveOk.uniq (hg : GOk g) {a b : Nat} {by_ L L' : Int} (ha : a < g.nn) (hb : b < g.nn) (he : by_ < endT) (h : LeaveOk g a b by_ L) (h' : LeaveOk g a b by_ L') : L = L' := by
  have key : ∀ {L L' : Int}, LeaveOk g a b by_ L → LeaveOk g a b by_ L' → ¬ L < L' := by
    intro L L' h h' hlt
    have h1 := h.low
    have h2 := h'.high
    refine h.last (by omega) (Int.le_trans (arrG_mono hg (t := L + 1) (t' := L') (by omega) (by omega) (by omega) ha hb) (h'.ok (by omega)))
  have := key h h'
  have := key h' h
  omega
end
end Go.Proofs.YtbjbeddjaajdaaaGreatDoor
/- Plain: what Fastest and Latest answer; a way that is right. -/
namespace Go.Proofs.YtbjbeddjaajdaaaGreatDoor

/-- What is wrong with right roads' ends and a moment. -/
def endsF (ns : List Node) (rs : List Arc) (bs : List Ban) (f t : ByteArray) (ad : Int) : Int :=
  if roadsF ns rs bs = 0 then (if nodeI ns f < 0 ∨ nodeI ns t < 0 then 8 else if momB ad then 0 else 1) else roadsF ns rs bs
theorem endsF_ok {ns : List Node} {rs : List Arc} {bs : List Ban} {f t : ByteArray} {ad : Int} (h : endsF ns rs bs f t ad = 0) : roadsF ns rs bs = 0 ∧ 0 ≤ nodeI ns f ∧ 0 ≤ nodeI ns t ∧ momB ad = true := by
  unfold endsF at h
  split at h
  · rename_i h0
    split at h
    · exact absurd h (by decide)
    · split at h
      · rename_i h2
        exact ⟨h0, by omega, by omega, h2⟩
      · exact absurd h (by decide)
  · rename_i h0; exact absurd h h0
structure WayA where
  keys : List ByteArray
  lv : Int
  ar : Int
  is : Bool
  fault : Int
/-- A way that is right. -/
structure WayOk (ns : List Node) (rs : List Arc) (bs : List Ban) (f t : ByteArray) (keys : List ByteArray) (lv ar : Int) : Prop where
  chain : chainF rs bs f none keys = 0
  len : keys.length ≤ 400
  here : (stOf rs f none keys).1 = t
  walk : ∃ ts, walkO rs lv keys = some ts ∧ (lv :: ts).getLastD lv = ar
inductive FastIs (ns : List Node) (rs : List Arc) (bs : List Ban) (f t : ByteArray) (ad : Int) : WayA → Prop
  | bad (h : endsF ns rs bs f t ad ≠ 0) : FastIs ns rs bs f t ad ⟨[], 0, 0, false, endsF ns rs bs f t ad⟩
  | none (h : endsF ns rs bs f t ad = 0) (h1 : gi (searchG (gphOf ns rs bs) (nodeN ns f) ad).first (nodeN ns t) < 0) : FastIs ns rs bs f t ad ⟨[], 0, 0, false, 0⟩
  | way (h : endsF ns rs bs f t ad = 0) (h1 : 0 ≤ gi (searchG (gphOf ns rs bs) (nodeN ns f) ad).first (nodeN ns t)) (l : List Nat)
      (hc : Chain rs.length (searchG (gphOf ns rs bs) (nodeN ns f) ad).prev (gi (searchG (gphOf ns rs bs) (nodeN ns f) ad).last (nodeN ns t)) l) (hl : l.length ≤ rs.length) :
      FastIs ns rs bs f t ad ⟨keysOf rs l.reverse, ad, gi (searchG (gphOf ns rs bs) (nodeN ns f) ad).first (nodeN ns t), true, 0⟩
inductive LateIs (ns : List Node) (rs : List Arc) (bs : List Ban) (f t : ByteArray) (by_ : Int) : WayA → Prop
  | bad (h : endsF ns rs bs f t by_ ≠ 0) : LateIs ns rs bs f t by_ ⟨[], 0, 0, false, endsF ns rs bs f t by_⟩
  | none (h : endsF ns rs bs f t by_ = 0) (h1 : ¬ arrG (gphOf ns rs bs) (nodeN ns f) (nodeN ns t) 0 ≤ by_) : LateIs ns rs bs f t by_ ⟨[], 0, 0, false, 0⟩
  | way (h : endsF ns rs bs f t by_ = 0) (L : Int) (h0 : 0 ≤ L) (hL : LeaveOk (gphOf ns rs bs) (nodeN ns f) (nodeN ns t) by_ L) (l : List Nat)
      (hc : Chain rs.length (searchG (gphOf ns rs bs) (nodeN ns f) L).prev (gi (searchG (gphOf ns rs bs) (nodeN ns f) L).last (nodeN ns t)) l) (hl : l.length ≤ rs.length) :
      LateIs ns rs bs f t by_ ⟨keysOf rs l.reverse, L, gi (searchG (gphOf ns rs bs) (nodeN ns f) L).first (nodeN ns t), true, 0⟩
section
variable {ns : List Node} {rs : List Arc} {bs : List Ban} {f t : ByteArray} {ad : Int}
theorem firstV_lt {g : Gph} {a b : Nat} {at_ : Int} : firstV (searchG g a at_) b = arrG g a b at_ := rfl
/-- There is a way back for every node that is reached, and it is right. -/
theorem way_of (h2 : chk (arcF ns) none rs = 0) (hal : rs.length ≤ 400) (hf : 0 ≤ nodeI ns f) (ht : 0 ≤ nodeI ns t) (h0 : 0 ≤ ad) (hz : 0 ≤ gi (searchG (gphOf ns rs bs) (nodeN ns f) ad).first (nodeN ns t)) :
    ∃ l, Chain rs.length (searchG (gphOf ns rs bs) (nodeN ns f) ad).prev (gi (searchG (gphOf ns rs bs) (nodeN ns f) ad).last (nodeN ns t)) l ∧ l.length ≤ rs.length ∧ WayOk ns rs bs f t (keysOf rs l.reverse) ad (gi (searchG (gphOf ns rs bs) (nodeN ns f) ad).first (nodeN ns t)) := by
  have hg := gph_ok (bs := bs) h2
  have hF := search_found hg h0 (show nodeN ns f < (gphOf ns rs bs).nn from nodeN_lt hf)
  obtain ⟨l, w1, w2, w3, w4⟩ := hF.wayTo hg h0 (b := nodeN ns t) (nodeN_lt ht) hz
  refine ⟨l, w1, w2, ?_⟩
  have hll : (keysOf rs l.reverse).length ≤ 400 := by
    unfold keysOf
    rw [List.length_map, List.length_reverse]
    have : l.length ≤ rs.length := w2
    omega
  rcases w4 with ⟨rfl, e1, e2⟩ | ⟨k, l', rfl, e1, e2⟩
  · refine ⟨rfl, hll, (node_iff hf ht).1 e1, [], rfl, ?_⟩
    rw [e2]; rfl
  · obtain ⟨c1, ts, c2, _, c4, c5⟩ := trail_keys h2 hf e2
    have hk : k < rs.length := w3 k (by simp)
    refine ⟨c1, hll, ?_, ts, c2, c4⟩
    rw [c5 k l' rfl]
    exact (node_iff (arc_right h2 hk).2.1 ht).1 e1
theorem chain_uniq_keys {x y : WayA} (h : FastIs ns rs bs f t ad x) (h' : FastIs ns rs bs f t ad y) : x = y := by
  cases h with
  | bad h =>
    cases h' with
    | bad h' => rfl
    | none h' _ => exact absurd h' h
    | way h' _ => exact absurd h' h
  | none h h1 =>
    cases h' with
    | bad h' => exact absurd h h'
    | none h' _ => rfl
    | way h' h2 => exact absurd h1 (Int.not_lt.2 h2)
  | way h h1 l hc hl =>
    cases h' with
    | bad h' => exact absurd h h'
    | none h' h2 => exact absurd h2 (Int.not_lt.2 h1)
    | way h' h2 l' hc' hl' => rw [hc.uniq hc']
theorem arr_le (h2 : chk (arcF ns) none rs = 0) (hf : 0 ≤ nodeI ns f) (ht : 0 ≤ nodeI ns t) (h0 : 0 ≤ ad) (he : ad < endT) :
    (gi (searchG (gphOf ns rs bs) (nodeN ns f) ad).first (nodeN ns t) < 0 ∧ arrG (gphOf ns rs bs) (nodeN ns f) (nodeN ns t) ad = endT) ∨
    (0 ≤ gi (searchG (gphOf ns rs bs) (nodeN ns f) ad).first (nodeN ns t) ∧ arrG (gphOf ns rs bs) (nodeN ns f) (nodeN ns t) ad = gi (searchG (gphOf ns rs bs) (nodeN ns f) ad).first (nodeN ns t) ∧ gi (searchG (gphOf ns rs bs) (nodeN ns f) ad).first (nodeN ns t) < endT) := by
  have hg := gph_ok (bs := bs) h2
  have hF := search_found hg h0 (show nodeN ns f < (gphOf ns rs bs).nn from nodeN_lt hf)
  by_cases hz : gi (searchG (gphOf ns rs bs) (nodeN ns f) ad).first (nodeN ns t) < 0
  · exact .inl ⟨hz, if_pos hz⟩
  · refine .inr ⟨by omega, if_neg hz, ?_⟩
    by_cases e : nodeN ns t = nodeN ns f
    · rw [e, hF.f0.1]; exact he
    · rcases hF.f1 (nodeN ns t) (nodeN_lt ht) e with ⟨h1, _⟩ | ⟨k, h1, h2, h3, h4, h5, h6⟩
      · omega
      · rw [h5]
        exact ((hF.rch k h1 h2).ge hg h0).2
/-- What the law asks of a fastest way. -/
theorem FastIs.law {x : WayA} (h : FastIs ns rs bs f t ad x) (hal : rs.length ≤ 400) :
    x.fault = endsF ns rs bs f t ad ∧ (endsF ns rs bs f t ad ≠ 0 → x.is = false ∧ x.keys = []) ∧
    (endsF ns rs bs f t ad = 0 → x.is = decide (arrG (gphOf ns rs bs) (nodeN ns f) (nodeN ns t) ad < endT) ∧ (x.is = true → x.lv = ad ∧ x.ar = arrG (gphOf ns rs bs) (nodeN ns f) (nodeN ns t) ad ∧ WayOk ns rs bs f t x.keys ad x.ar)) := by
  cases h with
  | bad h => exact ⟨rfl, fun _ => ⟨rfl, rfl⟩, fun h' => absurd h' h⟩
  | none h h1 =>
    refine ⟨h.symm, fun h' => absurd h h', fun _ => ⟨?_, fun e => by cases e⟩⟩
    obtain ⟨o1, o2, o3, o4⟩ := endsF_ok h
    have hb := momB_true.1 o4
    rcases arr_le (bs := bs) (roads_ok o1).2.1 o2 o3 hb.1 (by unfold endT; omega) with ⟨_, e⟩ | ⟨e, _⟩
    · rw [e]; exact (decide_eq_false (by omega)).symm
    · omega
  | way h h1 l hc hl =>
    refine ⟨h.symm, fun h' => absurd h h', fun _ => ?_⟩
    obtain ⟨o1, o2, o3, o4⟩ := endsF_ok h
    have hb := momB_true.1 o4
    obtain ⟨l', w1, w2, w3⟩ := way_of (bs := bs) (roads_ok o1).2.1 hal o2 o3 hb.1 h1
    have el := hc.uniq w1
    subst el
    rcases arr_le (bs := bs) (roads_ok o1).2.1 o2 o3 hb.1 (by unfold endT; omega) with ⟨e, _⟩ | ⟨_, e, e2⟩
    · omega
    · exact ⟨(decide_eq_true (by rw [e]; exact e2)).symm, fun _ => ⟨rfl, e.symm, w3⟩⟩
theorem LateIs.law {x : WayA} (h : LateIs ns rs bs f t ad x) (hal : rs.length ≤ 400) (L : Int) (hL : endsF ns rs bs f t ad = 0 → LeaveOk (gphOf ns rs bs) (nodeN ns f) (nodeN ns t) ad L) :
    x.fault = endsF ns rs bs f t ad ∧ (endsF ns rs bs f t ad ≠ 0 → x.is = false ∧ x.keys = []) ∧
    (endsF ns rs bs f t ad = 0 → x.is = decide (0 ≤ L) ∧ (x.is = true → x.lv = L ∧ 0 ≤ L ∧ L ≤ ad ∧ x.ar = arrG (gphOf ns rs bs) (nodeN ns f) (nodeN ns t) L ∧ WayOk ns rs bs f t x.keys L x.ar)) := by
  cases h with
  | bad h => exact ⟨rfl, fun _ => ⟨rfl, rfl⟩, fun h' => absurd h' h⟩
  | none h h1 =>
    refine ⟨h.symm, fun h' => absurd h h', fun _ => ⟨?_, fun e => by cases e⟩⟩
    obtain ⟨o1, o2, o3, o4⟩ := endsF_ok h
    have hb := momB_true.1 o4
    have hK := hL h
    refine (decide_eq_false fun h0 => h1 ?_).symm
    have h3 := hK.high
    exact Int.le_trans (arrG_mono (gph_ok (bs := bs) (roads_ok o1).2.1) (Int.le_refl 0) h0 (by unfold endT; omega) (nodeN_lt o2) (nodeN_lt o3)) (hK.ok h0)
  | way h L' h0 hL' l hc hl =>
    refine ⟨h.symm, fun h' => absurd h h', fun _ => ?_⟩
    obtain ⟨o1, o2, o3, o4⟩ := endsF_ok h
    have hb := momB_true.1 o4
    have hK := hL h
    have hg := gph_ok (bs := bs) (roads_ok o1).2.1
    have hbb : ad < endT := by unfold endT; omega
    have e : L' = L := hL'.uniq hg (nodeN_lt o2) (nodeN_lt o3) hbb hK
    subst e
    have h3 := hK.high
    rcases arr_le (bs := bs) (roads_ok o1).2.1 o2 o3 h0 (show L' < endT by omega) with ⟨_, e⟩ | ⟨e1, e, e2⟩
    · have := hK.ok h0; omega
    · obtain ⟨l', w1, w2, w3⟩ := way_of (bs := bs) (roads_ok o1).2.1 hal o2 o3 h0 e1
      have el := hc.uniq w1
      subst el
      exact ⟨(decide_eq_true h0).symm, fun _ => ⟨rfl, h0, h3, e.symm, w3⟩⟩
end
end Go.Proofs.YtbjbeddjaajdaaaGreatDoor
/- The queue's methods, and how an interface finds them. -/
namespace Go.Proofs.YtbjbeddjaajdaaaGreatDoor
open Go.RowKit

theorem m_Push (a : Addr) (w : World) : (method 474 232 (.pointer (some a)) "Push").run Tryz.prog w = .ok (285, .pointer (some a)) w := by kernel_rfl
theorem m_Pop (a : Addr) (w : World) : (method 474 232 (.pointer (some a)) "Pop").run Tryz.prog w = .ok (284, .pointer (some a)) w := by kernel_rfl
theorem m_Len0 (a : Addr) (w : World) : (method 474 232 (.pointer (some a)) "Len").run Tryz.prog w = (do let v ← loadVar 230 a; pure (281, v) : Sem (FuncId × Value)).run Tryz.prog w := by kernel_rfl
theorem m_Less0 (a : Addr) (w : World) : (method 474 232 (.pointer (some a)) "Less").run Tryz.prog w = (do let v ← loadVar 230 a; pure (282, v) : Sem (FuncId × Value)).run Tryz.prog w := by kernel_rfl
theorem m_Swap0 (a : Addr) (w : World) : (method 474 232 (.pointer (some a)) "Swap").run Tryz.prog w = (do let v ← loadVar 230 a; pure (283, v) : Sem (FuncId × Value)).run Tryz.prog w := by kernel_rfl
section
variable (g : Nat) (A : Option Addr) (n c : Nat) (w : World) (h : w.cell? ⟨g, 0, none⟩ = some (.slice A n c))
include h
theorem m_Len : (method 474 232 (.pointer (some ⟨g, 0, none⟩)) "Len").run Tryz.prog w = .ok (281, .slice A n c) w := by
  rw [m_Len0]
  simp only [Sem.run_bind, Sem.run_pure]
  go_simp
theorem m_Less : (method 474 232 (.pointer (some ⟨g, 0, none⟩)) "Less").run Tryz.prog w = .ok (282, .slice A n c) w := by
  rw [m_Less0]
  simp only [Sem.run_bind, Sem.run_pure]
  go_simp
theorem m_Swap : (method 474 232 (.pointer (some ⟨g, 0, none⟩)) "Swap").run Tryz.prog w = .ok (283, .slice A n c) w := by
  rw [m_Swap0]
  simp only [Sem.run_bind, Sem.run_pure]
  go_simp
end
def encExt (x : Ext) : List Value := [.int .i64 x.at_, .int .i64 (x.arc : Int)]
theorem encExt_len (x : Ext) : (encExt x).length = 2 := rfl
theorem encExt_one (x : Ext) : ∀ v ∈ encExt x, v.oneCell' = true := by
  intro v hv; simp [encExt] at hv; rcases hv with rfl | rfl <;> rfl
theorem el_Ext : ElemOf Tryz.prog 230 234 2 16 := ElemOf.mk' (z := .agg #[.int .i64 0, .int .i64 0]) Tryz.underlying230 (by kernel_rfl) rfl
/-- A row of exits, owned. -/
def ORow (base : Nat) (w : World) (v : Value) (l : List Ext) : Prop := w.ownsRow base 234 2 v l.length (l.flatMap encExt)
theorem ext_put {base g cap n : Nat} {w : World} {l : List Ext} (hn : l.length = n) (h : w.ownsRow base 234 2 (.slice (some ⟨g, 0, none⟩) n cap) n (l.flatMap encExt)) (i : Nat) (hi : i < l.length) (y : Ext) :
    ((w.setCell ⟨g, i * 2, none⟩ (.int .i64 y.at_)).setCell ⟨g, i * 2 + 1, none⟩ (.int .i64 (y.arc : Int))).ownsRow base 234 2 (.slice (some ⟨g, 0, none⟩) n cap) n ((l.set i y).flatMap encExt) := by
  have h1 := own_set encExt_len hn h i hi 0 (by omega) (.int .i64 y.at_) ⟨y.at_, l[i].arc⟩ rfl (i * 2) (by omega)
  have h2 := own_set encExt_len (by simpa using hn) h1 i (by simpa using hi) 1 (by omega) (.int .i64 (y.arc : Int)) y (by simp [encExt]) (i * 2 + 1) rfl
  rw [List.set_set] at h2
  exact h2
set_option maxRecDepth 100000 in
theorem w_QLen (A : Option Addr) (n c : Nat) (w : World) : Calls Tryz.prog 281 #[.slice A n c] w fun e w' => e = .returned (.int .i64 (n : Int)) ∧ w = w' := by
  go_enter Tryz.func281, Tryz.ntmps281
  go_wp2
  go_ret
  exact ⟨rfl, rfl⟩
def extC (a b : Ext) : Int := if cmpI a.at_ b.at_ = 0 then cmpI (a.arc : Int) (b.arc : Int) else cmpI a.at_ b.at_
theorem extC_neg (a b : Ext) : decide (extC a b < 0) = extLt a b := by
  unfold extC extLt cmpI
  have e : (a.at_ < b.at_) ∨ (a.at_ = b.at_) ∨ (b.at_ < a.at_) := by omega
  rcases e with h | h | h
  · have : ¬ b.at_ < a.at_ := by omega
    simp [h]
  · by_cases h1 : a.arc < b.arc
    · simp [h, h1]
    · by_cases h2 : b.arc < a.arc
      · simp [h, h1, h2]
      · simp [h, h1, h2]
  · have h1 : ¬ a.at_ < b.at_ := by omega
    have h2 : a.at_ ≠ b.at_ := by omega
    simp [h, h1, h2]
set_option maxRecDepth 100000 in
set_option maxHeartbeats 2000000 in
theorem w_QLess (base g cap : Nat) (l : List Ext) (i j : Nat) (w : World) (hO : ORow base w (.slice (some ⟨g, 0, none⟩) l.length cap) l) (hi : i < l.length) (hj : j < l.length) :
    Calls Tryz.prog 282 #[.slice (some ⟨g, 0, none⟩) l.length cap, .int .i64 (i : Int), .int .i64 (j : Int)] w fun e w' => e = .returned (.bool (extLt (gx l i) (gx l j))) ∧ Nx w w' := by
  have hlt : g < w.heap.size := (hO.lt g rfl).2
  have c0 : w.cell? ⟨g, i * 2, none⟩ = some (.int .i64 l[i].at_) := by have := own_cell encExt_len rfl hO i hi 0 _ rfl; simpa using this
  have c1 : w.cell? ⟨g, i * 2 + 1, none⟩ = some (.int .i64 (l[i].arc : Int)) := own_cell encExt_len rfl hO i hi 1 _ rfl
  have c2 : w.cell? ⟨g, j * 2, none⟩ = some (.int .i64 l[j].at_) := by have := own_cell encExt_len rfl hO j hj 0 _ rfl; simpa using this
  have c3 : w.cell? ⟨g, j * 2 + 1, none⟩ = some (.int .i64 (l[j].arc : Int)) := own_cell encExt_len rfl hO j hj 1 _ rfl
  rw [gx_lt hi, gx_lt hj, ← extC_neg]
  have hi2 : (i : Int) < (l.length : Int) := by omega
  have hj2 : (j : Int) < (l.length : Int) := by omega
  have hi0 : (0 : Int) ≤ (i : Int) := by omega
  have hj0 : (0 : Int) ≤ (j : Int) := by omega
  have hE : extC l[i] l[j] = if cmpI l[i].at_ l[j].at_ = 0 then cmpI (l[i].arc : Int) (l[j].arc : Int) else cmpI l[i].at_ l[j].at_ := rfl
  generalize extC l[i] l[j] = E at *
  have HOR := hide (fun g c W (hg : W.heap[g]? = some (.cells #[.int .i64 (cmpI l[i].at_ l[j].at_), .int .i64 (cmpI (l[i].arc : Int) (l[j].arc : Int))] 3 (0, 0))) => w_OrI2 (cmpI l[i].at_ l[j].at_) (cmpI (l[i].arc : Int) (l[j].arc : Int)) g c W hg)
  rw [← hE] at HOR
  clear hO hE
  generalize l[i].at_ = z0 at *
  generalize (l[i].arc : Int) = z1 at *
  generalize l[j].at_ = z2 at *
  generalize (l[j].arc : Int) = z3 at *
  generalize l.length = n at *
  go_enter Tryz.func282, Tryz.ntmps282
  go_wp2_with fail
  go_region_held3 (fun w' => w'.cell? ⟨g, i * 2, none⟩ = some (.int .i64 z0) ∧ w'.cell? ⟨g, i * 2 + 1, none⟩ = some (.int .i64 z1) ∧ w'.cell? ⟨g, j * 2, none⟩ = some (.int .i64 z2) ∧ w'.cell? ⟨g, j * 2 + 1, none⟩ = some (.int .i64 z3))
    (go_keep)
    (first
      | (go_at_call 173; refine (w_Compare _ _ _).mono ?_; rintro e w' ⟨rfl, rfl⟩)
      | (go_at_call 119; refine (HOR.out w.heap.size _ _ (hnew_drew rfl)).mono ?_; rintro e w' ⟨rfl, rfl⟩))
  go_wp2
  go_ret
  exact ⟨rfl, by repeat (first | with_reducible exact Nx.refl _ | with_reducible refine Nx.drew ?_ | with_reducible refine Nx.alloc ?_ _)⟩
end Go.Proofs.YtbjbeddjaajdaaaGreatDoor
