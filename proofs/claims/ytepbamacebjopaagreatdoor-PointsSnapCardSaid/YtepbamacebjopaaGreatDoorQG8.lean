/- Plain: when one arrives; the way back; the reference's out times. -/
import Derived.Test.YtepbamacebjopaaGreatDoorQG7
import Derived.Test.YtepbamacebjopaaGreatDoorQG2
import Derived.Test.YtepbamacebjopaaGreatDoorQG0
import Derived.Test.YtepbamacebjopaaGreatDoorQG5
import Derived.Deep.RegionHeld3
import Derived.Deep.RegionWith
import Derived.Deep.AppendLies
import Derived.Deep.DeepCutAuto
namespace Go.Proofs.YtepbamacebjopaaGreatDoor
section
variable {g : Gph} {a : Nat} {at_ : Int}
/-- v is when one is at a node at the earliest (endT: never). -/
def Arrives (g : Gph) (a : Nat) (at_ : Int) (b : Nat) (v : Int) : Prop :=
  (a = b ∧ v = at_) ∨ (a ≠ b ∧ ((v = endT ∧ ∀ k t, Rch g a at_ k t → g.to_ k ≠ b) ∨ ∃ k, g.to_ k = b ∧ Rch g a at_ k v ∧ ∀ k' t, Rch g a at_ k' t → g.to_ k' = b → v ≤ t))
theorem Arrives.uniq {b : Nat} {v v' : Int} (h : Arrives g a at_ b v) (h' : Arrives g a at_ b v') : v = v' := by
  rcases h with ⟨e, rfl⟩ | ⟨e, h⟩
  · rcases h' with ⟨_, rfl⟩ | ⟨e', _⟩
    · rfl
    · exact absurd e e'
  · rcases h' with ⟨e', _⟩ | ⟨_, h'⟩
    · exact absurd e' e
    · rcases h with ⟨rfl, h1⟩ | ⟨k, h1, h2, h3⟩
      · rcases h' with ⟨rfl, _⟩ | ⟨k', h1', h2', _⟩
        · rfl
        · exact absurd h1' (h1 k' _ h2')
      · rcases h' with ⟨rfl, h1'⟩ | ⟨k', h1', h2', h3'⟩
        · exact absurd h1 (h1' k _ h2)
        · exact Int.le_antisymm (h3 _ _ h2' h1') (h3' _ _ h2 h1)
def firstV (s : Sr) (b : Nat) : Int := if gi s.first b < 0 then endT else gi s.first b
theorem FoundG.arr (h0 : 0 ≤ at_) {s : Sr} (h : FoundG g a at_ s) {b : Nat} (hb : b < g.nn) : Arrives g a at_ b (firstV s b) := by
  unfold firstV
  by_cases e : b = a
  · subst e
    rw [h.f0.1, if_neg (by omega)]
    exact .inl ⟨rfl, rfl⟩
  · refine .inr ⟨Ne.symm e, ?_⟩
    rcases h.f1 b hb e with ⟨h1, _, h3⟩ | ⟨k, h1, h2, h3, h4, h5, h6⟩
    · rw [h1, if_pos (by decide)]
      exact .inl ⟨rfl, h3⟩
    · rw [h5, if_neg (by omega)]
      exact .inr ⟨k, h3, h.rch k h1 h2, h6⟩
/-- The reference's out times: endT is never. -/
structure OutSol (g : Gph) (a : Nat) (at_ : Int) (o : List Int) : Prop where
  len : o.length = g.m
  sound : ∀ k, k < g.m → gi o k = endT ∨ Rch g a at_ k (gi o k)
  c0 : ∀ i, i < g.m → g.from_ i = a → g.out i at_ < endT → gi o i ≤ g.out i at_
  c1 : ∀ k i, k < g.m → i < g.m → g.from_ i = g.to_ k → g.ban k i = false → gi o k < endT → gi o i ≤ g.out i (gi o k)
theorem OutSol.min_ (hg : GOk g) (h0 : 0 ≤ at_) {o : List Int} (h : OutSol g a at_ o) : ∀ k t, Rch g a at_ k t → gi o k ≤ t := by
  intro k t hr
  induction hr with
  | start k hk hf he => exact h.c0 k hk hf he
  | step k i t hr hi hf hb he ih =>
    have h1 := hr.ge hg h0
    have h2 : 0 ≤ gi o k := by
      rcases h.sound k hr.lt with e | e
      · rw [e]; decide
      · have := e.ge hg h0; omega
    have := h.c1 k i hr.lt hi hf hb (by omega)
    have := hg.mono i _ _ hi h2 ih
    omega
/-- The least of the out times of the first arcs that end at a node. -/
def leastTo (g : Gph) (o : List Int) (b : Nat) : Nat → Int
  | 0 => endT
  | k + 1 => if g.to_ k = b then (if gi o k < leastTo g o b k then gi o k else leastTo g o b k) else leastTo g o b k
theorem leastTo_le (o : List Int) (b : Nat) : ∀ (n : Nat), leastTo g o b n ≤ endT ∧ (∀ k, k < n → g.to_ k = b → leastTo g o b n ≤ gi o k) ∧ (leastTo g o b n = endT ∨ ∃ k, k < n ∧ g.to_ k = b ∧ leastTo g o b n = gi o k)
  | 0 => ⟨Int.le_refl _, fun k hk => absurd hk (by omega), .inl rfl⟩
  | n + 1 => by
    obtain ⟨h1, h2, h3⟩ := leastTo_le o b n
    unfold leastTo
    by_cases e : g.to_ n = b
    · rw [if_pos e]
      by_cases hl : gi o n < leastTo g o b n
      · rw [if_pos hl]
        refine ⟨by omega, fun k hk he => ?_, .inr ⟨n, by omega, e, rfl⟩⟩
        by_cases ek : k = n
        · rw [ek]; exact Int.le_refl _
        · have := h2 k (by omega) he; omega
      · rw [if_neg hl]
        refine ⟨h1, fun k hk he => ?_, h3.imp id (fun ⟨k, hk, hh⟩ => ⟨k, by omega, hh⟩)⟩
        by_cases ek : k = n
        · rw [ek]; omega
        · exact h2 k (by omega) he
    · rw [if_neg e]
      refine ⟨h1, fun k hk he => ?_, h3.imp id (fun ⟨k, hk, hh⟩ => ⟨k, by omega, hh⟩)⟩
      by_cases ek : k = n
      · rw [ek] at he; exact absurd he e
      · exact h2 k (by omega) he
theorem OutSol.arr (hg : GOk g) (h0 : 0 ≤ at_) {o : List Int} (h : OutSol g a at_ o) {b : Nat} (hab : a ≠ b) : Arrives g a at_ b (leastTo g o b g.m) := by
  obtain ⟨h1, h2, h3⟩ := leastTo_le (g := g) o b g.m
  have hm := h.min_ hg h0
  refine .inr ⟨hab, ?_⟩
  by_cases e : leastTo g o b g.m = endT
  · refine .inl ⟨e, fun k t hr ht => ?_⟩
    have := h2 k hr.lt ht
    have := hm k t hr
    have := (hr.ge hg h0).2
    omega
  · rcases h3 with h3 | ⟨k, hk, hb, h4⟩
    · exact absurd h3 e
    · refine .inr ⟨k, hb, ?_, fun k' t hr ht => ?_⟩
      · rcases h.sound k hk with h5 | h5
        · rw [h4] at e; exact absurd h5 e
        · rw [h4]; exact h5
      · have := h2 k' hr.lt ht
        have := hm k' t hr
        omega
/-- Who leaves later does not arrive earlier. -/
theorem Rch.later (hg : GOk g) {at' : Int} (h0 : 0 ≤ at_) (hl : at_ ≤ at') {k : Nat} {t : Int} (h : Rch g a at' k t) : ∃ t', t' ≤ t ∧ Rch g a at_ k t' := by
  induction h with
  | start k hk hf he =>
    have := hg.mono k _ _ hk h0 hl
    exact ⟨_, this, .start k hk hf (by omega)⟩
  | step k i t hr hi hf hb he ih =>
    obtain ⟨t', h1, h2⟩ := ih
    have h3 := h2.ge hg h0
    have := hg.mono i _ _ hi (show 0 ≤ t' by omega) h1
    exact ⟨_, this, .step k i t' h2 hi hf hb (by omega)⟩
theorem Arrives.later (hg : GOk g) {at' : Int} (h0 : 0 ≤ at_) (hl : at_ ≤ at') (he : at' < endT) {b : Nat} {v v' : Int} (h : Arrives g a at_ b v) (h' : Arrives g a at' b v') : v ≤ v' := by
  rcases h with ⟨e, rfl⟩ | ⟨e, h⟩
  · rcases h' with ⟨_, rfl⟩ | ⟨e', _⟩
    · exact hl
    · exact absurd e e'
  · rcases h' with ⟨e', _⟩ | ⟨_, h'⟩
    · exact absurd e' e
    · have hv : v ≤ endT := by
        rcases h with ⟨rfl, _⟩ | ⟨k, _, h2, _⟩
        · exact Int.le_refl _
        · have := (h2.ge hg h0).2; omega
      rcases h' with ⟨rfl, _⟩ | ⟨k', h1', h2', _⟩
      · exact hv
      · obtain ⟨t', h3, h4⟩ := h2'.later hg h0 hl
        rcases h with ⟨rfl, h1⟩ | ⟨k, h1, h2, h5⟩
        · exact absurd h1' (h1 k' t' h4)
        · have := h5 k' t' h4 h1'; omega
/-- Arcs one after the other, the last one first; one comes out of the last one at a moment. -/
inductive Trail (g : Gph) (a : Nat) (at_ : Int) : List Nat → Int → Prop
  | one (k : Nat) : k < g.m → g.from_ k = a → g.out k at_ < endT → Trail g a at_ [k] (g.out k at_)
  | cons (k i : Nat) (l : List Nat) (t : Int) : Trail g a at_ (k :: l) t → i < g.m → g.from_ i = g.to_ k → g.ban k i = false → g.out i t < endT → Trail g a at_ (i :: k :: l) (g.out i t)
/-- The way back by the arcs before. -/
inductive Chain (m : Nat) (prev : List Int) : Int → List Nat → Prop
  | nil : Chain m prev (-1) []
  | cons (k : Nat) (l : List Nat) : k < m → Chain m prev (gi prev k) l → Chain m prev (k : Int) (k :: l)
theorem Chain.uniq {m : Nat} {prev : List Int} {k : Int} {l l' : List Nat} (h : Chain m prev k l) (h' : Chain m prev k l') : l = l' := by
  induction h generalizing l' with
  | nil => cases h' with | nil => rfl
  | cons k l hk h ih =>
    generalize e : (k : Int) = kk at h'
    cases h' with
    | nil => omega
    | cons k' l2 hk' h2 =>
      have : k = k' := by omega
      subst this
      rw [ih h2]
theorem FoundG.way (hg : GOk g) (h0 : 0 ≤ at_) {s : Sr} (h : FoundG g a at_ s) : ∀ (n : Nat) (k : Nat), k < g.m → 0 ≤ gi s.best k → gi s.best k ≤ n →
    ∃ l, Chain g.m s.prev (k : Int) (k :: l) ∧ Trail g a at_ (k :: l) (gi s.best k) ∧ (k :: l).Nodup ∧ (∀ x ∈ k :: l, x < g.m ∧ gi s.best x ≤ gi s.best k)
  | n, k, hk, hb, hn => by
    have hr := h.rch k hk hb
    rcases h.prev k hk hb with ⟨h1, h2, h3⟩ | ⟨p, h1, h2, h3, h4, h5, h6⟩
    · refine ⟨[], .cons k [] hk (by rw [h1]; exact .nil), ?_, by simp, fun x hx => ?_⟩
      · have he := (hr.ge hg h0).2
        rw [h3] at he ⊢
        exact .one k hk h2 he
      · simp at hx; subst hx; exact ⟨hk, Int.le_refl _⟩
    · have hlt := hg.gt k (gi s.best p) hk h3
      match n, hn with
      | 0, hn => omega
      | n + 1, hn =>
        obtain ⟨l, w1, w2, w3, w4⟩ := FoundG.way hg h0 h n p h1 h3 (by omega)
        refine ⟨p :: l, .cons k _ hk (by rw [h2]; exact w1), ?_, List.nodup_cons.2 ⟨fun hx => ?_, w3⟩, fun x hx => ?_⟩
        · have he := (hr.ge hg h0).2
          rw [h6] at he ⊢
          exact .cons p k l _ w2 hk h4 h5 he
        · have := (w4 k hx).2; omega
        · rcases List.mem_cons.1 hx with rfl | hx
          · exact ⟨hk, Int.le_refl _⟩
          · have := w4 x hx; exact ⟨this.1, by omega⟩
end
end Go.Proofs.YtepbamacebjopaaGreatDoor
/- Plain: right roads as a graph; ways as arcs one after the other. -/
namespace Go.Proofs.YtepbamacebjopaaGreatDoor

section
variable {α : Type} [Inhabited α]
theorem idxP_sat (p : α → Bool) : ∀ (l : List α) (j k : Nat), idxP p l j = ((j + k : Nat) : Int) → k < l.length ∧ p (l.getD k default) = true
  | [], j, k, h => by unfold idxP at h; omega
  | n :: l, j, k, h => by
    unfold idxP at h
    cases hp : p n with
    | true =>
      rw [hp, if_pos rfl] at h
      obtain rfl : k = 0 := by omega
      exact ⟨by simp, hp⟩
    | false =>
      rw [hp, if_neg (by simp)] at h
      rcases idxP_bd p l (j + 1) with e | ⟨k', hk', e⟩
      · rw [e] at h; omega
      · rw [e] at h
        obtain rfl : k = k' + 1 := by omega
        obtain ⟨h1, h2⟩ := idxP_sat p l (j + 1) k' e
        exact ⟨by simpa using h1, by simpa using h2⟩
theorem findI_sat (p : α → Bool) (l : List α) {k : Nat} (h : findI p l = (k : Int)) : k < l.length ∧ p (l.getD k default) = true :=
  idxP_sat p l 0 k (by rw [Nat.zero_add]; exact h)
end
theorem node_found {ns : List Node} {s : ByteArray} (h : 0 ≤ nodeI ns s) : ∃ i : Nat, i < ns.length ∧ nodeI ns s = (i : Int) ∧ (ns.getD i default).key = s := by
  rcases findI_bd (fun n : Node => decide (n.key = s)) ns with h1 | ⟨i, hi, e⟩
  · exact absurd h (by unfold nodeI; omega)
  · exact ⟨i, hi, e, by simpa using (findI_sat _ ns e).2⟩
theorem node_inj {ns : List Node} {s t : ByteArray} (h : 0 ≤ nodeI ns s) (e : nodeI ns s = nodeI ns t) : s = t := by
  obtain ⟨i, _, e1, h1⟩ := node_found h
  obtain ⟨j, _, e2, h2⟩ := node_found (show 0 ≤ nodeI ns t by omega)
  obtain rfl : i = j := by omega
  rw [← h1, h2]
theorem node_iff {ns : List Node} {s t : ByteArray} (h : 0 ≤ nodeI ns s) (h' : 0 ≤ nodeI ns t) : (nodeI ns s).toNat = (nodeI ns t).toNat ↔ s = t :=
  ⟨fun e => node_inj h (by omega), fun e => by rw [e]⟩
theorem ltS_ne {a b : ByteArray} (h : ltS a b) : a ≠ b := fun e => by subst e; exact ltS_irrefl a h
theorem arc_at {rs : List Arc} (h : SortA rs) {k : Nat} (hk : k < rs.length) : arcI rs (rs.getD k default).key = (k : Int) := by
  have := idxP_at (fun n : Arc => decide (n.key = (rs.getD k default).key)) rs 0 k hk (by simp) (fun i hi => by
    have h1 := List.pairwise_iff_getElem.1 h i k (by omega) hk hi
    rw [List.getD_eq_getElem?_getD, List.getD_eq_getElem?_getD, List.getElem?_eq_getElem (by omega), List.getElem?_eq_getElem hk]
    exact decide_eq_false (ltS_ne h1))
  rw [Nat.zero_add] at this
  exact this
theorem node_at {ns : List Node} (h : SortN ns) {k : Nat} (hk : k < ns.length) : nodeI ns (ns.getD k default).key = (k : Int) := by
  have := idxP_at (fun n : Node => decide (n.key = (ns.getD k default).key)) ns 0 k hk (by simp) (fun i hi => by
    have h1 := List.pairwise_iff_getElem.1 h i k (by omega) hk hi
    rw [List.getD_eq_getElem?_getD, List.getD_eq_getElem?_getD, List.getElem?_eq_getElem (by omega), List.getElem?_eq_getElem hk]
    exact decide_eq_false (ltS_ne h1))
  rw [Nat.zero_add] at this
  exact this
def nodeN (ns : List Node) (s : ByteArray) : Nat := (nodeI ns s).toNat
def arcX (rs : List Arc) (k : Nat) : Arc := rs.getD k default
/-- Roads as a graph. -/
def gphOf (ns : List Node) (rs : List Arc) (bs : List Ban) : Gph where
  m := rs.length
  nn := ns.length
  to_ k := nodeN ns (arcX rs k).to_
  from_ k := nodeN ns (arcX rs k).from_
  outs n := (List.range rs.length).filter (fun k => nodeN ns (arcX rs k).from_ == n)
  ban k j := bannedB bs (arcX rs k).key (arcX rs j).key
  out k t := t + timeI (arcX rs k).knots t
theorem arcX_mem {rs : List Arc} {k : Nat} (h : k < rs.length) : arcX rs k ∈ rs := by
  unfold arcX
  rw [List.getD_eq_getElem?_getD, List.getElem?_eq_getElem h]
  exact List.getElem_mem h
theorem arcX_get {rs : List Arc} {k : Nat} (h : k < rs.length) : arcX rs k = rs[k] := by
  unfold arcX
  rw [List.getD_eq_getElem?_getD, List.getElem?_eq_getElem h]; rfl
theorem arc_right {ns : List Node} {rs : List Arc} (h : chk (arcF ns) none rs = 0) {k : Nat} (hk : k < rs.length) : 0 ≤ nodeI ns (arcX rs k).from_ ∧ 0 ≤ nodeI ns (arcX rs k).to_ ∧ (arcX rs k).from_ ≠ (arcX rs k).to_ ∧ knotsF (arcX rs k).knots = 0 := by
  have := chk_all (F := arcF ns) (Q := fun a => arcG ns a = 0) (fun p x hx => (arcF_ok hx).2) rs none h _ (arcX_mem hk)
  obtain ⟨h1, h2, h3, _, h5⟩ := arcG_ok this
  exact ⟨h1, h2, h3, h5⟩
theorem nodeN_lt {ns : List Node} {s : ByteArray} (h : 0 ≤ nodeI ns s) : nodeN ns s < ns.length := by
  obtain ⟨i, hi, e, _⟩ := node_found h
  unfold nodeN
  rw [e]
  exact hi
theorem gph_ok {ns : List Node} {rs : List Arc} {bs : List Ban} (h : chk (arcF ns) none rs = 0) : GOk (gphOf ns rs bs) where
  to_lt k hk := nodeN_lt (arc_right h hk).2.1
  outs_lt n k hk := by
    have := (List.mem_filter.1 hk).1
    exact List.mem_range.1 this
  outs_iff n k hn hk := by
    show k ∈ (List.range rs.length).filter _ ↔ nodeN ns (arcX rs k).from_ = n
    rw [List.mem_filter, List.mem_range]
    constructor
    · intro hh; simpa using hh.2
    · intro hh; exact ⟨hk, by simpa using hh⟩
  outs_len n := by
    show ((List.range rs.length).filter _).length ≤ rs.length
    exact Nat.le_trans (List.length_filter_le _ _) (by simp)
  gt k t hk ht := by
    have := time_ge (knotsF_chk (arc_right h hk).2.2.2) t
    show t < t + timeI (arcX rs k).knots t
    omega
  mono k t t' hk h0 ht := time_fifo (arc_right h hk).2.2.2 ht

end Go.Proofs.YtepbamacebjopaaGreatDoor
/- Bans in their order. -/
namespace Go.Proofs.YtepbamacebjopaaGreatDoor
open Go.RowKit

set_option maxHeartbeats 400000 in
theorem w_OrI (lo : Nat) (A : Option Addr) (c : Nat) (zs : List Int) (w : World) (hR : Rd w lo A 1 encI zs) (hl : zs.length ≤ 65536) :
    Calls Tryz.prog 96 #[.slice A zs.length c] w fun e w' => e = .returned (.int .i64 (orI zs)) ∧ w = w' := by
  generalize hn : zs.length = n at *
  have HR := hide hR
  have HN := hide hn
  clear hR hn
  go_enter Tryz.func96, Tryz.ntmps96
  go_wp2
  go_loop [2, 5, 8] (fun _ _ i => ∃ k : Nat, k ≤ n ∧ i = .int .i64 k ∧ orI zs = orI (zs.drop k)) (fun _ _ i => n - (intOf i).toNat)
  case atStart => exact ⟨0, Nat.zero_le _, rfl, rfl⟩
  case round =>
    obtain ⟨k, hk, rfl, hq⟩ := hrel
    have HQ := hide hq
    clear hq
    by_cases hlt : k < n
    · have hlt' : k < zs.length := by have := HN.out; omega
      obtain ⟨b, off, rfl, _, hb, _, hc⟩ := HR.out.open_ (Nx.refl w) (by omega)
      have c0 : w.cell? ⟨b, off + k, none⟩ = some (.int .i64 zs[k]) := by have := hc k hlt' 0 _ rfl; simpa using this
      clear hc
      have HD := hide (orI_drop zs k hlt')
      by_cases hz : zs[k] = 0
      · have hz' : (zs[k] != 0) = false := by simpa using hz
        have HZ := hide hz
        clear hz
        generalize zs[k] = z at *
        go_wp2
        go_round
        case rel => exact ⟨k + 1, by omega, by go_num, by rw [HQ.out, HD.out, if_pos HZ.out]⟩
        case measure => simp [intOf]; omega
      · have hz' : (zs[k] != 0) = true := by simpa using hz
        have HZ := hide hz
        clear hz
        generalize zs[k] = z at *
        go_wp2
        go_ret
        exact ⟨ret_int (by rw [HQ.out, HD.out, if_neg HZ.out]), rfl⟩
    · have ek : k = n := by omega
      subst ek
      clear hlt
      go_wp2
      go_ret
      exact ⟨ret_int (by rw [HQ.out, List.drop_of_length_le (by have := HN.out; omega)]; rfl), rfl⟩

theorem w_OrI2 (a b : Int) (g c : Nat) (w : World) (hg : w.heap[g]? = some (.cells #[.int .i64 a, .int .i64 b] 3 (0, 0))) :
    Calls Tryz.prog 96 #[.slice (some ⟨g, 0, none⟩) 2 c] w fun e w' => e = .returned (.int .i64 (if a = 0 then b else a)) ∧ w = w' := by
  have h := w_OrI 0 _ c [a, b] w (Rd.lit hg (Nat.zero_le _) (fun _ => rfl) rfl) (by simp)
  rw [orI_two] at h
  exact h
set_option maxRecDepth 100000 in
set_option maxHeartbeats 1000000 in
theorem w_byBan (x y : Ban) (w : World) : Calls Tryz.prog 74 #[.agg #[.string x.from_, .string x.to_], .agg #[.string y.from_, .string y.to_]] w fun e w' => e = .returned (.int .i64 (banC x y)) ∧ Nx w w' := by
  have HOR := hide (fun g c W (hg : W.heap[g]? = some (.cells #[.int .i64 (cmpS x.from_ y.from_), .int .i64 (cmpS x.to_ y.to_)] 3 (0, 0))) => w_OrI2 _ _ g c W hg)
  rw [show (if cmpS x.from_ y.from_ = 0 then cmpS x.to_ y.to_ else cmpS x.from_ y.from_) = banC x y from rfl] at HOR
  obtain ⟨x1, x2⟩ := x
  obtain ⟨y1, y2⟩ := y
  generalize banC _ _ = z at *
  obtain ⟨wa, hwa⟩ : ∃ wa, wa = (w.alloc (.cells #[.string x1, .string x2] 80)).alloc (.cells #[.string y1, .string y2] 80) := ⟨_, rfl⟩
  have hna : Nx w wa := hwa ▸ ((Nx.refl w).alloc _).alloc _
  have hsz : wa.heap.size = w.heap.size + 1 + 1 := by rw [hwa]; simp
  have c0 : wa.cell? ⟨w.heap.size, 0, none⟩ = some (.string x1) := by rw [hwa]; go_simp
  have c1 : wa.cell? ⟨w.heap.size, 1, none⟩ = some (.string x2) := by rw [hwa]; go_simp
  have c2 : wa.cell? ⟨w.heap.size + 1, 0, none⟩ = some (.string y1) := by rw [hwa]; go_simp
  have c3 : wa.cell? ⟨w.heap.size + 1, 1, none⟩ = some (.string y2) := by rw [hwa]; go_simp
  go_enter Tryz.func74, Tryz.ntmps74
  go_wp2_with fail
  rw [← hwa]
  have HWA := hide hwa
  clear hwa
  go_region_held3 (fun w' => w'.cell? ⟨w.heap.size, 0, none⟩ = some (.string x1) ∧ w'.cell? ⟨w.heap.size, 1, none⟩ = some (.string x2) ∧ w'.cell? ⟨w.heap.size + 1, 0, none⟩ = some (.string y1) ∧ w'.cell? ⟨w.heap.size + 1, 1, none⟩ = some (.string y2))
    (go_keep)
    (first
      | (go_at_call 77; refine (w_CompareS _ _ _).mono ?_; rintro e w' ⟨rfl, rfl⟩)
      | (go_at_call 96; refine (HOR.out _ _ _ (hnew_drew hsz.symm)).mono ?_; rintro e w' ⟨rfl, rfl⟩))
  go_wp2_with fail
  go_ret
  exact ⟨rfl, by repeat (first | exact hna | refine Nx.drew ?_ | refine Nx.alloc ?_ _)⟩
end Go.Proofs.YtepbamacebjopaaGreatDoor
/- The queue: what is in it; Push and Pop of its own. -/
namespace Go.Proofs.YtepbamacebjopaaGreatDoor
open Go.RowKit

section
variable {base gq : Nat} {w w' w'' : World} {v : Value} {l : List Ext}
theorem lt_of_heap {w : World} {k : Nat} {o : Obj} (h : w.heap[k]? = some o) : k < w.heap.size := (Array.getElem?_eq_some_iff.1 h).1
end
end Go.Proofs.YtepbamacebjopaaGreatDoor
/- An arc's number: the program's search. -/
namespace Go.Proofs.YtepbamacebjopaaGreatDoor
open Go.RowKit

theorem w_arc1 (x : Arc) (s : ByteArray) (w : World) : Calls Tryz.prog 89 #[.agg #[.string x.key, .string x.from_, .string x.to_, .int .i64 x.long, .slice x.ka x.knots.length x.kc], .string s] w fun e w' => e = .returned (.int .i64 (cmpS x.key s)) ∧ Nx w w' := by
  go_enter Tryz.func89, Tryz.ntmps89
  go_wp2_with (go_at_call 77; refine (w_CompareS _ _ _).mono ?_; rintro e w' ⟨rfl, rfl⟩)
  go_ret
  exact ⟨rfl, (Nx.refl _).alloc _⟩

set_option maxRecDepth 100000 in
set_option maxHeartbeats 2000000 in
theorem w_BsfArc (g : Nat) (f : Arc → Int) (x : ByteArray) (eg : Enters g) (hcl : ∀ (y : Arc) W, Calls Tryz.prog g #[.agg #[.string y.key, .string y.from_, .string y.to_, .int .i64 y.long, .slice y.ka y.knots.length y.kc], .string x] W fun e w' => e = .returned (.int .i64 (f y)) ∧ Nx W w')
    (lo : Nat) (A : Option Addr) (c : Nat) (l : List Arc) (w : World) (hR : Rd w lo A 5 encArc l) (hl : l.length ≤ 65536)
    (hm : ∀ i j, i ≤ j → j < l.length → f (l.getD j default) < 0 → f (l.getD i default) < 0) :
    Calls Tryz.prog 88 #[.slice A l.length c, .string x, .func (.func g) #[] #[]] w fun e w' => ∃ (r : Nat) (is : Bool), e = .returned (.tuple #[.int .i64 (r : Int), .bool is]) ∧ Found (fun i => f (l.getD i default)) l.length r is ∧ Nx w w' := by
  generalize hn : l.length = n at *
  have HR := hide hR
  have HN := hide hn
  have HC0 := hide hcl
  have HM := hide hm
  clear hR hn hcl hm
  unfold Enters at eg
  have HG := hide (fun i (hi : i < l.length) => (show l.getD i default = l[i] by rw [List.getD_eq_getElem?_getD, List.getElem?_eq_getElem hi]; rfl))
  go_enter Tryz.func88, Tryz.ntmps88
  go_wp2
  go_loopw [9, 10, 11] (fun vi vj _ wr => ∃ i j : Nat, i ≤ j ∧ j ≤ n ∧ vi = .int .i64 i ∧ vj = .int .i64 j ∧ Nx w wr ∧ (∀ m, m < i → f (l.getD m default) < 0) ∧ (∀ m, j ≤ m → m < n → 0 ≤ f (l.getD m default))) (fun vi vj _ _ => (intOf vj).toNat - (intOf vi).toNat)
  case atStart => exact ⟨0, n, Nat.zero_le _, Nat.le_refl _, rfl, rfl, Nx.refl _, fun m hm => by omega, fun m h1 h2 => by omega⟩
  case round =>
    obtain ⟨i, j, hij, hj, rfl, rfl, hbw, hlo, hhi⟩ := hrel
    have HLO := hide hlo
    have HHI := hide hhi
    clear hlo hhi
    by_cases hlt : i < j
    · obtain ⟨h, hh⟩ : ∃ h, h = (i + j) / 2 := ⟨_, rfl⟩
      have qh : ((i : Int) + (j : Int)) / 2 = (h : Int) := by omega
      have hih : i ≤ h := by omega
      have hhj : h < j := by omega
      have hh' : h < l.length := by have := HN.out; omega
      clear hh
      obtain ⟨b, off, rfl, _, hb, hbr, hc⟩ := HR.out.open_ hbw (by omega)
      have c0 : wr.cell? ⟨b, off + h * 5, none⟩ = some (.string l[h].key) := hc h hh' 0 _ rfl
      have c1 : wr.cell? ⟨b, off + h * 5 + 1, none⟩ = some (.string l[h].from_) := hc h hh' 1 _ rfl
      have c2 : wr.cell? ⟨b, off + h * 5 + 2, none⟩ = some (.string l[h].to_) := hc h hh' 2 _ rfl
      have c3 : wr.cell? ⟨b, off + h * 5 + 3, none⟩ = some (.int .i64 l[h].long) := hc h hh' 3 _ rfl
      have c4 : wr.cell? ⟨b, off + h * 5 + 4, none⟩ = some (.slice l[h].ka l[h].knots.length l[h].kc) := hc h hh' 4 _ rfl
      clear hc
      have HE := hide (HG.out h hh')
      have HCY := hide (HC0.out l[h])
      by_cases hneg : f l[h] < 0
      · have t1 : decide (f l[h] < 0) = true := by simpa using hneg
        have HNG := hide hneg
        clear hneg
        generalize l[h] = y at *
        go_wp2_with (go_at_fn g; refine (HCY.out _).mono ?_; rintro e w2 ⟨rfl, hn2⟩)
        go_roundw
        case rel => exact ⟨h + 1, j, by omega, by omega, by go_num, rfl, hbw.trans hn2, fun m hm => HM.out m h (by omega) (by omega) (by rw [HE.out]; exact HNG.out), HHI.out⟩
        case measure => simp [intOf]; omega
      · have t1 : decide (f l[h] < 0) = false := by simpa using hneg
        have HNG := hide hneg
        clear hneg
        generalize l[h] = y at *
        go_wp2_with (go_at_fn g; refine (HCY.out _).mono ?_; rintro e w2 ⟨rfl, hn2⟩)
        go_roundw
        case rel => exact ⟨i, h, by omega, by omega, rfl, rfl, hbw.trans hn2, HLO.out, fun m h1 h2 => by
          refine Int.not_lt.1 fun hc => ?_
          have h3 := HM.out h m h1 h2 hc
          rw [HE.out] at h3
          have := HNG.out
          omega⟩
        case measure => simp [intOf]; omega
    · have hij' : i = j := by omega
      subst hij'
      clear hlt hij
      by_cases hin : i < n
      · have hi' : i < l.length := by have := HN.out; omega
        obtain ⟨b, off, rfl, _, hb, hbr, hc⟩ := HR.out.open_ hbw (by omega)
        have c0 : wr.cell? ⟨b, off + i * 5, none⟩ = some (.string l[i].key) := hc i hi' 0 _ rfl
        have c1 : wr.cell? ⟨b, off + i * 5 + 1, none⟩ = some (.string l[i].from_) := hc i hi' 1 _ rfl
        have c2 : wr.cell? ⟨b, off + i * 5 + 2, none⟩ = some (.string l[i].to_) := hc i hi' 2 _ rfl
        have c3 : wr.cell? ⟨b, off + i * 5 + 3, none⟩ = some (.int .i64 l[i].long) := hc i hi' 3 _ rfl
        have c4 : wr.cell? ⟨b, off + i * 5 + 4, none⟩ = some (.slice l[i].ka l[i].knots.length l[i].kc) := hc i hi' 4 _ rfl
        clear hc
        have HE := hide (HG.out i hi')
        have HCY := hide (HC0.out l[i])
        generalize l[i] = y at *
        go_wp2_with (go_at_fn g; refine (HCY.out _).mono ?_; rintro e w2 ⟨rfl, hn2⟩)
        go_ret2
        exact ⟨i, _, rfl, ⟨hj, HLO.out, HHI.out, by show _ = (decide (i < n) && decide (f (l.getD i default) = 0)); rw [HE.out, decide_eq_true hin]; rfl⟩, hbw.trans hn2⟩
      · go_wp2
        go_ret2
        exact ⟨i, _, rfl, ⟨hj, HLO.out, HHI.out, by rw [decide_eq_false hin]; rfl⟩, hbw⟩

theorem SortA.at {l : List Arc} (h : SortA l) {i j : Nat} (hij : i < j) (hj : j < l.length) : ltS (l.getD i default).key (l.getD j default).key := by
  unfold SortA at h
  rw [List.pairwise_iff_getElem] at h
  have := h i j (by omega) hj hij
  rw [List.getD_eq_getElem?_getD, List.getD_eq_getElem?_getD, List.getElem?_eq_getElem (by omega), List.getElem?_eq_getElem hj]
  exact this
theorem SortA.mono {l : List Arc} (h : SortA l) (s : ByteArray) (i j : Nat) (hij : i ≤ j) (hj : j < l.length) (hn : cmpS (l.getD j default).key s < 0) : cmpS (l.getD i default).key s < 0 := by
  rcases Nat.lt_or_ge i j with h1 | h1
  · exact cmpS_neg.2 (ltS_trans (h.at h1 hj) (cmpS_neg.1 hn))
  · have : i = j := by omega
    subst this; exact hn
set_option maxRecDepth 100000 in
set_option maxHeartbeats 1000000 in
theorem w_arcR (g lo : Nat) (A : Option Addr) (c : Nat) (l : List Arc) (s : ByteArray) (w : World) (hg : w.cell? ⟨g, 1, none⟩ = some (.slice A l.length c)) (hR : Rd w lo A 5 encArc l) (hl : l.length ≤ 65536) (hs : SortA l) :
    Calls Tryz.prog 42 #[.pointer (some ⟨g, 0, none⟩), .string s] w fun e w' => e = .returned (.int .i64 (arcI l s)) ∧ Nx w w' := by
  have hB := w_BsfArc 89 (fun n => cmpS n.key s) s (enters_of Tryz.func89 (by kernel_rfl) rfl) (fun y W => w_arc1 y s W) lo A c l w hR hl (fun i j => hs.mono s i j)
  by_cases hex : ∃ k, k < l.length ∧ (l.getD k default).key = s
  · obtain ⟨k, hk, hks⟩ := hex
    have hlo : ∀ i, i < k → cmpS (l.getD i default).key s < 0 := fun i hi => cmpS_neg.2 (by rw [← hks]; exact hs.at hi hk)
    have HI := hide (show arcI l s = (k : Int) by
      have := idxP_at (fun n : Arc => decide (n.key = s)) l 0 k hk (decide_eq_true hks) (fun i hi => decide_eq_false (fun e => by have := hlo i hi; rw [cmpS_zero.2 e] at this; omega))
      rw [Nat.zero_add] at this; exact this)
    have hB2 : Calls Tryz.prog 88 #[.slice A l.length c, .string s, .func (.func 89) #[] #[]] w fun e w' => e = .returned (.tuple #[.int .i64 (k : Int), .bool true]) ∧ Nx w w' := by
      refine hB.mono ?_
      rintro e w' ⟨r, is, rfl, hF, hn⟩
      obtain ⟨rfl, rfl⟩ := found_at hF k hk (cmpS_zero.2 hks) hlo
      exact ⟨rfl, hn⟩
    have HB := hide hB2
    clear hB hB2 hR hs hlo hks hk
    generalize l.length = n at *
    generalize arcI l s = z at *
    go_enter Tryz.func42, Tryz.ntmps42
    go_wp2_with (go_at_call 88; refine HB.out.mono ?_; rintro e w2 ⟨rfl, hn2⟩)
    go_ret
    exact ⟨ret_int HI.out.symm, hn2⟩
  · have hno : ∀ k, k < l.length → (l.getD k default).key ≠ s := fun k hk e => hex ⟨k, hk, e⟩
    have HI := hide (show arcI l s = -1 from idxP_no _ l 0 (fun k hk => decide_eq_false (hno k hk)))
    have hB2 : Calls Tryz.prog 88 #[.slice A l.length c, .string s, .func (.func 89) #[] #[]] w fun e w' => ∃ r : Nat, e = .returned (.tuple #[.int .i64 (r : Int), .bool false]) ∧ Nx w w' := by
      refine hB.mono ?_
      rintro e w' ⟨r, is, rfl, hF, hn⟩
      obtain rfl := found_no hF (fun k hk e => hno k hk (cmpS_zero.1 e))
      exact ⟨r, rfl, hn⟩
    have HB := hide hB2
    clear hB hB2 hR hs hno hex
    generalize l.length = n at *
    generalize arcI l s = z at *
    go_enter Tryz.func42, Tryz.ntmps42
    go_wp2_with (go_at_call 88; refine HB.out.mono ?_; rintro e w2 ⟨r, rfl, hn2⟩)
    go_ret
    exact ⟨ret_int HI.out.symm, hn2⟩
end Go.Proofs.YtepbamacebjopaaGreatDoor
/- What is wrong with knots. -/
namespace Go.Proofs.YtepbamacebjopaaGreatDoor
open Go.RowKit

set_option maxRecDepth 100000 in
set_option maxHeartbeats 2000000 in
theorem w_knotsFaultR (lo : Nat) (A : Option Addr) (c : Nat) (l : List Knot) (w : World) (hR : Rd w lo A 2 encKnot l) (hl : l.length ≤ 65536) :
    Calls Tryz.prog 73 #[.slice A l.length c] w fun e w' => e = .returned (.int .i64 (knotsF l)) ∧ Nx w w' := by
  have HA := hide (fun i W h1 h2 => w_After lo A c l i W h1 hl h2)
  generalize hn : l.length = n at *
  have HR := hide hR
  have HN := hide hn
  clear hR hn
  by_cases h0 : n = 0
  · have t0 : ((n : Int) == 0) = true := by simpa using h0
    have H0 := hide h0
    clear h0
    go_enter Tryz.func73, Tryz.ntmps73
    go_wp2
    go_ret
    exact ⟨ret_int (by unfold knotsF; rw [if_pos (by rw [HN.out]; exact H0.out)]), Nx.refl _⟩
  have t0 : ((n : Int) == 0) = false := by simpa using h0
  have h0' : 0 < n := by omega
  by_cases hbig : 48 < n
  · go_enter Tryz.func73, Tryz.ntmps73
    go_wp2
    go_ret
    exact ⟨ret_int (by unfold knotsF; rw [if_neg (by rw [HN.out]; exact h0), if_pos (by rw [HN.out]; exact hbig)]), Nx.refl _⟩
  · have HF := hide (show knotsF l = if chk knotF none l = 0 then fallF l l.length else chk knotF none l by unfold knotsF; rw [if_neg (by rw [HN.out]; exact h0), if_neg (by rw [HN.out]; exact hbig)])
    clear h0
    go_enter Tryz.func73, Tryz.ntmps73
    go_wp2
    go_loopw [2, 3, 4, 18] (fun _ _ _ i wr => ∃ k : Nat, k ≤ n ∧ i = .int .i64 k ∧ Nx w wr ∧ chk knotF none l = chk knotF (prevOf l k) (l.drop k) ∧ (∀ j, j < k → (0 ≤ (l.getD j default).at_ ∧ (l.getD j default).at_ ≤ 86399999) ∧ (1 ≤ (l.getD j default).time ∧ (l.getD j default).time ≤ 3600000))) (fun _ _ _ i _ => n - (intOf i).toNat)
    case atStart => exact ⟨0, Nat.zero_le _, rfl, Nx.refl _, rfl, fun j hj => by omega⟩
    case round =>
      obtain ⟨k, hk, rfl, hbw, hq, hbd⟩ := hrel
      have HQ := hide hq
      have HBD := hide hbd
      clear hq hbd
      by_cases hlt : k < n
      · have hlt' : k < l.length := by have := HN.out; omega
        obtain ⟨b, off, rfl, _, hb, hbr, hc⟩ := HR.out.open_ hbw (by omega)
        have c0 : wr.cell? ⟨b, off + k * 2, none⟩ = some (.int .i64 l[k].at_) := hc k hlt' 0 _ rfl
        have c1 : wr.cell? ⟨b, off + k * 2 + 1, none⟩ = some (.int .i64 l[k].time) := hc k hlt' 1 _ rfl
        have HC := hide hc
        clear hc
        have HD := hide (chk_drop knotF l k hlt')
        have HE := hide (knot_at hlt')
        cases ho1 : outB l[k].at_ 0 86399999
        · cases ho2 : outB l[k].time 1 3600000
          · have hb1 := outB_false.1 ho1
            have hb2 := outB_false.1 ho2
            have HX := hide (And.intro hb1 hb2)
            by_cases hk0 : 0 < k
            · have c4 : wr.cell? ⟨b, off + (k - 1) * 2, none⟩ = some (.int .i64 (l[k - 1]'(by omega)).at_) := HC.out (k - 1) (by omega) 0 _ rfl
              have HV := hide (show knotF (prevOf l k) l[k] = if l[k].at_ ≤ (l[k - 1]'(by omega)).at_ then 7 else 0 by rw [prevOf_pos l k hk0 (by omega)]; unfold knotF dayMs; rw [show (86400000 : Int) - 1 = 86399999 from rfl, ho1, ho2]; rfl)
              generalize (l[k - 1]'(by omega)).at_ = p0 at *
              have q0 : decide ((0 : Int) < (k : Int)) = true := by simpa using hk0
              have q00 : ((k : Int) == 0) = false := by simp; omega
              have q1 : IntKind.i64.wrap ((k : Int) - 1) = (k : Int) - 1 := IntWalk.i64_in _ (by omega)
              have q2 : (1 : Int) ≤ (k : Int) := by omega
              have q3 : ((k : Int) - 1).toNat = k - 1 := by omega
              have q4 : (k : Int) - 1 < (n : Int) := by omega
              by_cases hle : l[k].at_ ≤ p0
              · have t1 : decide (l[k].at_ ≤ p0) = true := by simpa using hle
                have HLE := hide hle
                clear hle
                go_wp2_with (go_at_call 72; refine (w_Out _ _ _ _).mono ?_; rintro e w' ⟨rfl, rfl⟩)
                go_quiet (fail)
                go_wp2
                go_ret
                exact ⟨ret_int (by rw [HF.out, HQ.out, HD.out, HV.out, if_pos HLE.out]; rfl), (hbw.alloc _).drewN _⟩
              · have t1 : decide (l[k].at_ ≤ p0) = false := by simpa using hle
                have HLE := hide hle
                clear hle
                go_wp2_with (go_at_call 72; refine (w_Out _ _ _ _).mono ?_; rintro e w' ⟨rfl, rfl⟩)
                go_quiet (fail)
                go_wp2
                go_roundw
                case rel => exact ⟨k + 1, by omega, by go_num, (hbw.alloc _).drewN _, by rw [HQ.out, HD.out, HV.out, if_neg (Int.not_le.2 HLE.out), if_pos rfl], fun j hj => by
                  rcases Nat.lt_or_ge j k with h1 | h1
                  · exact HBD.out j h1
                  · have : j = k := by omega
                    subst this; rw [HE.out]; exact HX.out⟩
                case measure => simp [intOf]; omega
            · have hk1 : k = 0 := by omega
              have HV := hide (show knotF (prevOf l k) l[k] = if l[k].at_ = 0 then 0 else 7 by subst hk1; rw [prevOf_zero]; unfold knotF dayMs; rw [show (86400000 : Int) - 1 = 86399999 from rfl, ho1, ho2]; rfl)
              clear hk1
              have q0 : decide ((0 : Int) < (k : Int)) = false := by simpa using hk0
              by_cases hz : l[k].at_ = 0
              · have t1 : (l[k].at_ != 0) = false := by simpa using hz
                have HZ := hide hz
                clear hz
                go_wp2_with (go_at_call 72; refine (w_Out _ _ _ _).mono ?_; rintro e w' ⟨rfl, rfl⟩)
                have q00 : ((k : Int) == 0) = true := by simp; omega
                go_quiet (fail)
                clear q00
                go_wp2
                go_roundw
                case rel => exact ⟨k + 1, by omega, by go_num, (hbw.alloc _).drewN _, by rw [HQ.out, HD.out, HV.out, if_pos HZ.out, if_pos rfl], fun j hj => by
                  have : j = k := by omega
                  subst this; rw [HE.out]; exact HX.out⟩
                case measure => simp [intOf]; omega
              · have t1 : (l[k].at_ != 0) = true := by simpa using hz
                have HZ := hide hz
                clear hz
                go_wp2_with (go_at_call 72; refine (w_Out _ _ _ _).mono ?_; rintro e w' ⟨rfl, rfl⟩)
                have q00 : ((k : Int) == 0) = true := by simp; omega
                go_quiet (fail)
                clear q00
                go_wp2
                go_ret
                exact ⟨ret_int (by rw [HF.out, HQ.out, HD.out, HV.out, if_neg HZ.out]; rfl), (hbw.alloc _).drewN _⟩
          · have HV := hide (show knotF (prevOf l k) l[k] = 1 by unfold knotF dayMs; rw [show (86400000 : Int) - 1 = 86399999 from rfl, ho1, ho2]; rfl)
            go_wp2_with (go_at_call 72; refine (w_Out _ _ _ _).mono ?_; rintro e w' ⟨rfl, rfl⟩)
            go_ret
            exact ⟨ret_int (by rw [HF.out, HQ.out, HD.out, HV.out]; rfl), hbw.alloc _⟩
        · have HV := hide (show knotF (prevOf l k) l[k] = 1 by unfold knotF dayMs; rw [show (86400000 : Int) - 1 = 86399999 from rfl, ho1]; rfl)
          go_wp2_with (go_at_call 72; refine (w_Out _ _ _ _).mono ?_; rintro e w' ⟨rfl, rfl⟩)
          go_ret
          exact ⟨ret_int (by rw [HF.out, HQ.out, HD.out, HV.out]; rfl), hbw.alloc _⟩
      · have hkn : k = n := by omega
        subst hkn
        have H0 := hide (show chk knotF none l = 0 by rw [HQ.out, List.drop_of_length_le (by have := HN.out; omega)]; rfl)
        clear HQ hlt
        go_wp2_with fail
        go_loopw [2, 5, 6, 7, 58] (fun _ _ _ _ i wr => ∃ j : Nat, j ≤ k ∧ i = .int .i64 j ∧ Nx w wr ∧ fallF l l.length = fallF l (l.length - j)) (fun _ _ _ _ i _ => k - (intOf i).toNat)
        case atStart => exact ⟨0, Nat.zero_le _, rfl, hbw, rfl⟩
        case round =>
          clear hbw
          obtain ⟨j, hj, rfl, hbw, hq⟩ := hrel
          have HQ := hide hq
          clear hq
          by_cases hlt : j < k
          · have hlt' : j < l.length := by have := HN.out; omega
            have HFA := hide (fallF_at l j hlt')
            obtain ⟨b, off, rfl, _, hb, hbr, hc⟩ := HR.out.open_ hbw (by omega)
            have c0 : wr.cell? ⟨b, off + j * 2, none⟩ = some (.int .i64 l[j].at_) := hc j hlt' 0 _ rfl
            have c1 : wr.cell? ⟨b, off + j * 2 + 1, none⟩ = some (.int .i64 l[j].time) := hc j hlt' 1 _ rfl
            clear hc
            have hx := HBD.out j hlt
            have hy : ((1 ≤ (afterK l j).at_ ∨ 0 ≤ (afterK l j).at_) ∧ (afterK l j).at_ ≤ 86400000) ∧ (1 ≤ (afterK l j).time ∧ (afterK l j).time ≤ 3600000) := by
              unfold afterK
              by_cases h1 : j + 1 < l.length
              · rw [if_pos h1]
                have := HBD.out (j + 1) (by have := HN.out; omega)
                omega
              · rw [if_neg h1]
                have := HBD.out 0 (by omega)
                simp only [dayMs]; omega
            have HB := hide (show fallsB l j = decide ((afterK l j).at_ - l[j].at_ < l[j].time - (afterK l j).time) by unfold fallsB; rw [knot_at hlt'])
            rw [knot_at hlt'] at hx
            have HCA := hide (fun W h1 => HA.out j W h1 hlt)
            generalize afterK l j = y at *
            generalize l[j] = x at *
            obtain ⟨⟨hx1, hx2⟩, hx3, hx4⟩ := hx
            obtain ⟨⟨hy1, hy2⟩, hy3, hy4⟩ := hy
            have hy1' : 0 ≤ y.at_ := by omega
            clear hy1
            by_cases hfall : y.at_ - x.at_ < x.time - y.time
            · have t1 : decide (y.at_ - x.at_ < x.time - y.time) = true := by simpa using hfall
              have HFL := hide hfall
              clear hfall
              go_wp2_with (go_at_call 108; refine (HCA.out _ (HR.out.nx (hbw.alloc _))).mono ?_; rintro e w2 ⟨rfl, hn2⟩; (have e0 : (w2.alloc (.cells #[.int .i64 y.at_, .int .i64 y.time] 78)).cell? ⟨wr.heap.size, 0, none⟩ = some (.int .i64 x.at_) := World.grownBy.cell ((hn2.alloc _).gr none) (show (wr.alloc (.cells #[.int .i64 x.at_, .int .i64 x.time] 78)).cell? ⟨wr.heap.size, 0, none⟩ = some (.int .i64 x.at_) by go_simp) (by simp)); (have e1 : (w2.alloc (.cells #[.int .i64 y.at_, .int .i64 y.time] 78)).cell? ⟨wr.heap.size, 1, none⟩ = some (.int .i64 x.time) := World.grownBy.cell ((hn2.alloc _).gr none) (show (wr.alloc (.cells #[.int .i64 x.at_, .int .i64 x.time] 78)).cell? ⟨wr.heap.size, 1, none⟩ = some (.int .i64 x.time) by go_simp) (by simp)); (have hz2 : wr.heap.size + 1 ≤ w2.heap.size := by have := hn2.sz; simpa using this))
              go_ret
              exact ⟨ret_int (by rw [HF.out, if_pos H0.out, HQ.out, HFA.out, HB.out, decide_eq_true HFL.out]; rfl), ((hbw.alloc _).trans hn2).alloc _⟩
            · have t1 : decide (y.at_ - x.at_ < x.time - y.time) = false := by simpa using hfall
              have HFL := hide hfall
              clear hfall
              go_wp2_with (go_at_call 108; refine (HCA.out _ (HR.out.nx (hbw.alloc _))).mono ?_; rintro e w2 ⟨rfl, hn2⟩; (have e0 : (w2.alloc (.cells #[.int .i64 y.at_, .int .i64 y.time] 78)).cell? ⟨wr.heap.size, 0, none⟩ = some (.int .i64 x.at_) := World.grownBy.cell ((hn2.alloc _).gr none) (show (wr.alloc (.cells #[.int .i64 x.at_, .int .i64 x.time] 78)).cell? ⟨wr.heap.size, 0, none⟩ = some (.int .i64 x.at_) by go_simp) (by simp)); (have e1 : (w2.alloc (.cells #[.int .i64 y.at_, .int .i64 y.time] 78)).cell? ⟨wr.heap.size, 1, none⟩ = some (.int .i64 x.time) := World.grownBy.cell ((hn2.alloc _).gr none) (show (wr.alloc (.cells #[.int .i64 x.at_, .int .i64 x.time] 78)).cell? ⟨wr.heap.size, 1, none⟩ = some (.int .i64 x.time) by go_simp) (by simp)); (have hz2 : wr.heap.size + 1 ≤ w2.heap.size := by have := hn2.sz; simpa using this))
              go_roundw
              case rel => exact ⟨j + 1, by omega, by go_num, ((hbw.alloc _).trans hn2).alloc _, by rw [HQ.out, HFA.out, HB.out, decide_eq_false (Int.not_lt.2 HFL.out)]; rfl⟩
              case measure => simp [intOf]; omega
          · go_wp2
            go_ret
            exact ⟨ret_int (by rw [HF.out, if_pos H0.out, HQ.out, show l.length - j = 0 by have := HN.out; omega]; rfl), hbw⟩
end Go.Proofs.YtepbamacebjopaaGreatDoor
