/- Plain: who enters an arc later does not come out earlier. -/
import Derived.Test.YtklgknepamebdaaGreatDoorQRoadT
import Derived.Test.YtklgknepamebdaaGreatDoorQG4
import Derived.Test.YtklgknepamebdaaGreatDoorQG20
import Derived.Deep.RegionHeld3
import Derived.Deep.DeepCutAuto
import Derived.Test.YtklgknepamebdaaGreatDoorQCheckR
import Derived.Test.YtklgknepamebdaaGreatDoorQG0
import Derived.Maps.Own
import Derived.Maps.OwnOps
import Derived.Maps.OwnSet
import Derived.Maps.Views
import Derived.Maps.RangeWalk
import Derived.Test.YtklgknepamebdaaGreatDoorQG2
import Derived.Maps.Keyed
import Derived.DeepKeys4
import Derived.KernelRfl
import Derived.Test.YtklgknepamebdaaGreatDoorQG8
import Derived.Test.YtklgknepamebdaaGreatDoorQShelfS
import Derived.Laws.OwnMore
import Derived.Laws.CopyOwn
namespace Go.Proofs.YtklgknepamebdaaGreatDoor

theorem fall_all {l : List Knot} : ∀ (k : Nat), k ≤ l.length → fallF l k = 0 → ∀ i, l.length - k ≤ i → i < l.length → fallsB l i = false
  | 0, _, _, i, h1, h2 => absurd h1 (by omega)
  | k + 1, hk, h, i, h1, h2 => by
    unfold fallF at h
    cases hb : fallsB l (l.length - (k + 1)) with
    | true => rw [hb, if_pos rfl] at h; exact absurd h (by decide)
    | false =>
      rw [hb, if_neg (by simp)] at h
      by_cases e : i = l.length - (k + 1)
      · rw [e]; exact hb
      · exact fall_all k (by omega) h i (by omega) h2
theorem knotsF_fall {l : List Knot} (h : knotsF l = 0) : ∀ i, i < l.length → (l.getD i default).time - (afterK l i).time ≤ (afterK l i).at_ - (l.getD i default).at_ := by
  have hk := knotsF_chk h
  intro i hi
  have h3 : fallF l l.length = 0 := by
    unfold knotsF at h
    have := hk.pos
    have := hk.le
    rw [if_neg (by omega), if_neg (by omega)] at h
    by_cases h2 : chk knotF none l = 0
    · rw [if_pos h2] at h; exact h
    · rw [if_neg h2] at h; exact absurd h h2
  have := fall_all l.length (Nat.le_refl _) h3 i (by omega) hi
  unfold fallsB at this
  have := of_decide_eq_false this
  omega
theorem line_num (x y : Knot) (d : Int) : x.time * (y.at_ - (d + 1)) + y.time * ((d + 1) - x.at_) = (x.time * (y.at_ - d) + y.time * (d - x.at_)) + (y.time - x.time) := by
  have e1 : y.at_ - (d + 1) = (y.at_ - d) - 1 := by omega
  have e2 : (d + 1) - x.at_ = (d - x.at_) + 1 := by omega
  rw [e1, e2, Int.mul_sub, Int.mul_add, Int.mul_one, Int.mul_one]
  omega
theorem line_end (x y : Knot) : x.time * (y.at_ - y.at_) + y.time * (y.at_ - x.at_) = y.time * (y.at_ - x.at_) := by
  rw [Int.sub_self, Int.mul_zero, Int.zero_add]
theorem time_ge {l : List Knot} (h : KOk l) (at_ : Int) : 1 ≤ timeI l at_ := by
  unfold timeI
  generalize ht : at_ % dayMs = t
  have htb : 0 ≤ t ∧ t ≤ 86399999 := by unfold dayMs at ht; omega
  obtain ⟨i, hi, h1, h2⟩ := seg_ex h htb.1
  rw [seg_of h hi h1 h2]
  have hab := after_bd h hi
  have hkb := h.bd i hi
  have haf : t < (afterK l i).at_ := by
    unfold afterK
    by_cases h3 : i + 1 < l.length
    · rw [if_pos h3]; exact h2 h3
    · rw [if_neg h3]; show t < dayMs; unfold dayMs; omega
  generalize afterK l i = y at *
  generalize l.getD i default = x at *
  unfold lineI
  have m1 : 1 * (y.at_ - t) ≤ x.time * (y.at_ - t) := Int.mul_le_mul_of_nonneg_right (by omega) (by omega)
  have m2 : 1 * (t - x.at_) ≤ y.time * (t - x.at_) := Int.mul_le_mul_of_nonneg_right (by omega) (by omega)
  rw [Int.le_ediv_iff_mul_le (by omega)]
  omega
theorem time_step {l : List Knot} (h : knotsF l = 0) (at_ : Int) : timeI l at_ ≤ timeI l (at_ + 1) + 1 := by
  have hk := knotsF_chk h
  have hfl := knotsF_fall h
  have e1 : timeI l at_ = lineI (l.getD (segI l (at_ % dayMs)) default) (afterK l (segI l (at_ % dayMs))) (at_ % dayMs) := rfl
  have e2 : timeI l (at_ + 1) = lineI (l.getD (segI l ((at_ + 1) % dayMs)) default) (afterK l (segI l ((at_ + 1) % dayMs))) ((at_ + 1) % dayMs) := rfl
  rw [e1, e2]
  clear e1 e2
  generalize ht : at_ % dayMs = t
  have htb : 0 ≤ t ∧ t ≤ 86399999 := by unfold dayMs at ht; omega
  obtain ⟨i, hi, h1, h2⟩ := seg_ex hk htb.1
  rw [seg_of hk hi h1 h2]
  have hab := after_bd hk hi
  have hkb := hk.bd i hi
  have hfi := hfl i hi
  have haf : t < (afterK l i).at_ := by
    unfold afterK
    by_cases h3 : i + 1 < l.length
    · rw [if_pos h3]; exact h2 h3
    · rw [if_neg h3]; show t < dayMs; unfold dayMs; omega
  by_cases hc : t + 1 < (afterK l i).at_
  · have et : (at_ + 1) % dayMs = t + 1 := by unfold dayMs at *; omega
    rw [et]
    have hs : segI l (t + 1) = i := seg_of hk hi (by omega) (fun h3 => by unfold afterK at hc; rw [if_pos h3] at hc; exact hc)
    rw [hs]
    generalize afterK l i = y at *
    generalize l.getD i default = x at *
    unfold lineI
    have hn := line_num x y t
    generalize x.time * (y.at_ - t) + y.time * (t - x.at_) = N at *
    rw [hn]
    have e4 : (N + (y.time - x.time) + 1 * (y.at_ - x.at_)) / (y.at_ - x.at_) = (N + (y.time - x.time)) / (y.at_ - x.at_) + 1 := Int.add_mul_ediv_right _ _ (by omega)
    rw [← e4]
    exact Int.ediv_le_ediv (by omega) (by omega)
  · have ey : (afterK l i).at_ = t + 1 := by omega
    have hval : lineI (l.getD i default) (afterK l i) t ≤ (afterK l i).time + 1 := by
      generalize afterK l i = y at *
      generalize l.getD i default = x at *
      unfold lineI
      have hn := line_num x y t
      rw [← ey, line_end x y] at hn
      have e4 : (y.time * (y.at_ - x.at_) + 1 * (y.at_ - x.at_)) / (y.at_ - x.at_) = y.time + 1 := by
        rw [← Int.add_mul]; exact Int.mul_ediv_cancel _ (by omega)
      rw [← e4]
      exact Int.ediv_le_ediv (by omega) (by omega)
    refine Int.le_trans hval ?_
    have h0 : ∀ j, j < l.length → lineI (l.getD j default) (afterK l j) (l.getD j default).at_ = (l.getD j default).time := by
      intro j hj
      have := (after_bd hk hj).1.1
      unfold lineI
      rw [Int.sub_self, Int.mul_zero, Int.add_zero]
      exact Int.mul_ediv_cancel _ (by omega)
    have hend : lineI (l.getD (segI l ((at_ + 1) % dayMs)) default) (afterK l (segI l ((at_ + 1) % dayMs))) ((at_ + 1) % dayMs) = (afterK l i).time := by
      by_cases h3 : i + 1 < l.length
      · have ea : afterK l i = l.getD (i + 1) default := by unfold afterK; rw [if_pos h3]
        rw [ea] at ey ⊢
        have hb1 := hk.bd (i + 1) h3
        have et : (at_ + 1) % dayMs = (l.getD (i + 1) default).at_ := by unfold dayMs at *; omega
        rw [et, seg_of hk h3 (Int.le_refl _) (fun h4 => hk.up (i + 1) h4)]
        exact h0 (i + 1) h3
      · have ea : afterK l i = ⟨dayMs, (l.getD 0 default).time⟩ := by unfold afterK; rw [if_neg h3]
        rw [ea] at ey ⊢
        have ey : dayMs = t + 1 := ey
        have et : (at_ + 1) % dayMs = (l.getD 0 default).at_ := by rw [hk.first]; unfold dayMs at *; omega
        rw [et, seg_of hk hk.pos (Int.le_refl _) (fun h4 => hk.up 0 h4)]
        exact h0 0 hk.pos
    rw [hend]
    exact Int.le_refl _
theorem time_mono {l : List Knot} (h : knotsF l = 0) (t : Int) : ∀ n : Nat, t + timeI l t ≤ (t + n) + timeI l (t + n)
  | 0 => by rw [show t + ((0 : Nat) : Int) = t by omega]; exact Int.le_refl _
  | n + 1 => by
    have h1 := time_mono h t n
    have h2 := time_step h (t + n)
    rw [show t + ((n + 1 : Nat) : Int) = t + n + 1 by omega]
    omega
theorem time_fifo {l : List Knot} (h : knotsF l = 0) {t t' : Int} (ht : t ≤ t') : t + timeI l t ≤ t' + timeI l t' := by
  have := time_mono h t (t' - t).toNat
  rw [show t + ((t' - t).toNat : Int) = t' by omega] at this
  exact this
end Go.Proofs.YtklgknepamebdaaGreatDoor
/- Plain: arcs one after the other; how long they are; when one comes out of each. -/
namespace Go.Proofs.YtklgknepamebdaaGreatDoor

/-- May nobody drive from an arc on to another one? -/
def bannedB (bs : List Ban) (f t : ByteArray) : Bool := bs.any fun b => decide (b.from_ = f) && decide (b.to_ = t)
def prevBan (bs : List Ban) (p : Option ByteArray) (k : ByteArray) : Bool := match p with | some q => bannedB bs q k | none => false
/-- What is wrong with arcs one after the other. -/
def chainF (rs : List Arc) (bs : List Ban) : ByteArray → Option ByteArray → List ByteArray → Int
  | _, _, [] => 0
  | fr, p, k :: l => if arcI rs k < 0 then 8 else if fr ≠ ByteArray.empty ∧ (arcAt rs k).from_ ≠ fr then 3 else if prevBan bs p k then 16 else chainF rs bs (arcAt rs k).to_ (some k) l
def lengthI (rs : List Arc) : List ByteArray → Int
  | [] => 0
  | k :: l => (arcAt rs k).long + lengthI rs l
def outAt (rs : List Arc) (at_ : Int) (k : ByteArray) : Int := at_ + timeI (arcAt rs k).knots at_
/-- When one comes out of each of some arcs; none: not ahead of the end. -/
def walkO (rs : List Arc) : Int → List ByteArray → Option (List Int)
  | _, [] => some []
  | at_, k :: l => if 345686400000 ≤ outAt rs at_ k then none else (walkO rs (outAt rs at_ k) l).map (outAt rs at_ k :: ·)
theorem banC_zero {a b : Ban} : banC a b = 0 ↔ a = b := by
  obtain ⟨a1, a2⟩ := a
  obtain ⟨b1, b2⟩ := b
  unfold banC
  constructor
  · intro h
    by_cases h1 : cmpS a1 b1 = 0
    · have h' : cmpS a2 b2 = 0 := by simpa [h1] using h
      rw [cmpS_zero.1 h1, cmpS_zero.1 h']
    · simp [h1] at h
  · intro h
    injection h with h1 h2
    have e1 := cmpS_zero.2 h1
    have e2 := cmpS_zero.2 h2
    simp [e1, e2]
theorem banC_pos {a b : Ban} : 0 < banC a b ↔ banC b a < 0 := by
  have h := banC_anti a b
  omega
/-- The order of bans goes on. -/
theorem banC_neg {a b : Ban} : banC a b < 0 ↔ ltS a.from_ b.from_ ∨ (a.from_ = b.from_ ∧ ltS a.to_ b.to_) := by
  unfold banC
  by_cases h1 : cmpS a.from_ b.from_ = 0
  · rw [if_pos h1]
    have e := cmpS_zero.1 h1
    constructor
    · intro h; exact .inr ⟨e, cmpS_neg.1 h⟩
    · rintro (h | ⟨_, h⟩)
      · rw [e] at h; exact absurd h (ltS_irrefl _)
      · exact cmpS_neg.2 h
  · rw [if_neg h1]
    constructor
    · intro h; exact .inl (cmpS_neg.1 h)
    · rintro (h | ⟨h, _⟩)
      · exact cmpS_neg.2 h
      · exact absurd (cmpS_zero.2 h) h1
theorem banC_trans {a b c : Ban} (h : banC a b < 0) (h' : banC b c < 0) : banC a c < 0 := by
  rw [banC_neg] at *
  rcases h with h | ⟨h1, h2⟩
  · rcases h' with h' | ⟨h1', _⟩
    · exact .inl (ltS_trans h h')
    · exact .inl (h1' ▸ h)
  · rcases h' with h' | ⟨h1', h2'⟩
    · exact .inl (h1 ▸ h')
    · exact .inr ⟨h1.trans h1', ltS_trans h2 h2'⟩
theorem chkB_sorted (rs : List Arc) : ∀ (l : List Ban) (p : Option Ban), chk (banF rs) p l = 0 → (l.Pairwise fun a b => banC a b < 0) ∧ ∀ q, p = some q → ∀ x ∈ l, banC q x < 0
  | [], _, _ => ⟨List.Pairwise.nil, fun _ _ _ h => absurd h (by simp)⟩
  | s :: l, p, h => by
    unfold chk at h
    by_cases h0 : banF rs p s = 0
    · rw [if_pos h0] at h
      obtain ⟨h1, h2⟩ := chkB_sorted rs l _ h
      have h3 : ∀ q, p = some q → banC q s < 0 := fun q e => by
        subst e
        unfold banF at h0
        by_cases hg : banG rs s = 0
        · rw [if_pos hg] at h0
          by_cases hc : banC s q ≤ 0
          · simp [hc] at h0
          · exact banC_pos.1 (by omega)
        · rw [if_neg hg] at h0; exact absurd h0 hg
      refine ⟨List.pairwise_cons.2 ⟨fun y hy => h2 s rfl y hy, h1⟩, fun q e y hy => ?_⟩
      rcases List.mem_cons.1 hy with rfl | hy
      · exact h3 q e
      · exact banC_trans (h3 q e) (h2 s rfl y hy)
    · rw [if_neg h0] at h; exact absurd h h0
theorem banB_at {l : List Ban} (h : l.Pairwise fun a b => banC a b < 0) {i j : Nat} (hij : i < j) (hj : j < l.length) : banC (l.getD i default) (l.getD j default) < 0 := by
  rw [List.pairwise_iff_getElem] at h
  have := h i j (by omega) hj hij
  rw [List.getD_eq_getElem?_getD, List.getD_eq_getElem?_getD, List.getElem?_eq_getElem (by omega), List.getElem?_eq_getElem hj]
  exact this
theorem bannedB_iff {bs : List Ban} {f t : ByteArray} : bannedB bs f t = true ↔ ∃ k, k < bs.length ∧ bs.getD k default = ⟨f, t⟩ := by
  unfold bannedB
  rw [List.any_eq_true]
  constructor
  · rintro ⟨b, hb, hx⟩
    obtain ⟨k, hk, e⟩ := List.mem_iff_getElem.1 hb
    refine ⟨k, hk, ?_⟩
    rw [List.getD_eq_getElem?_getD, List.getElem?_eq_getElem hk]
    simp at hx
    obtain ⟨b1, b2⟩ := b
    simp at hx
    rw [← hx.1, ← hx.2]
    exact e
  · rintro ⟨k, hk, e⟩
    refine ⟨bs.getD k default, ?_, by rw [e]; simp⟩
    rw [List.getD_eq_getElem?_getD, List.getElem?_eq_getElem hk]
    exact List.getElem_mem hk
end Go.Proofs.YtklgknepamebdaaGreatDoor
/- Plain: right roads as a graph; ways as arcs one after the other. -/
namespace Go.Proofs.YtklgknepamebdaaGreatDoor

section
variable {α : Type} [Inhabited α]
theorem idxP_sat (p : α → Bool) : ∀ (l : List α) (j k : Nat), idxP p l j = ((j + k : Nat) : Int) → k < l.length ∧ p (l.getD k default) = true
  | [], j, k, h => by unfold idxP at h; omega
  | n :: l, j, k, h => by
    unfold idxP at h
    cases hp : p n with
    | true =>
      rw [hp, if_pos rfl] at h
      obtain rfl : k = 0 := by omega
      exact ⟨by simp, hp⟩
    | false =>
      rw [hp, if_neg (by simp)] at h
      rcases idxP_bd p l (j + 1) with e | ⟨k', hk', e⟩
      · rw [e] at h; omega
      · rw [e] at h
        obtain rfl : k = k' + 1 := by omega
        obtain ⟨h1, h2⟩ := idxP_sat p l (j + 1) k' e
        exact ⟨by simpa using h1, by simpa using h2⟩
theorem findI_sat (p : α → Bool) (l : List α) {k : Nat} (h : findI p l = (k : Int)) : k < l.length ∧ p (l.getD k default) = true :=
  idxP_sat p l 0 k (by rw [Nat.zero_add]; exact h)
end
theorem node_found {ns : List Node} {s : ByteArray} (h : 0 ≤ nodeI ns s) : ∃ i : Nat, i < ns.length ∧ nodeI ns s = (i : Int) ∧ (ns.getD i default).key = s := by
  rcases findI_bd (fun n : Node => decide (n.key = s)) ns with h1 | ⟨i, hi, e⟩
  · exact absurd h (by unfold nodeI; omega)
  · exact ⟨i, hi, e, by simpa using (findI_sat _ ns e).2⟩
theorem node_inj {ns : List Node} {s t : ByteArray} (h : 0 ≤ nodeI ns s) (e : nodeI ns s = nodeI ns t) : s = t := by
  obtain ⟨i, _, e1, h1⟩ := node_found h
  obtain ⟨j, _, e2, h2⟩ := node_found (show 0 ≤ nodeI ns t by omega)
  obtain rfl : i = j := by omega
  rw [← h1, h2]
theorem node_iff {ns : List Node} {s t : ByteArray} (h : 0 ≤ nodeI ns s) (h' : 0 ≤ nodeI ns t) : (nodeI ns s).toNat = (nodeI ns t).toNat ↔ s = t :=
  ⟨fun e => node_inj h (by omega), fun e => by rw [e]⟩
theorem ltS_ne {a b : ByteArray} (h : ltS a b) : a ≠ b := fun e => by subst e; exact ltS_irrefl a h
theorem arc_at {rs : List Arc} (h : SortA rs) {k : Nat} (hk : k < rs.length) : arcI rs (rs.getD k default).key = (k : Int) := by
  have := idxP_at (fun n : Arc => decide (n.key = (rs.getD k default).key)) rs 0 k hk (by simp) (fun i hi => by
    have h1 := List.pairwise_iff_getElem.1 h i k (by omega) hk hi
    rw [List.getD_eq_getElem?_getD, List.getD_eq_getElem?_getD, List.getElem?_eq_getElem (by omega), List.getElem?_eq_getElem hk]
    exact decide_eq_false (ltS_ne h1))
  rw [Nat.zero_add] at this
  exact this
theorem node_at {ns : List Node} (h : SortN ns) {k : Nat} (hk : k < ns.length) : nodeI ns (ns.getD k default).key = (k : Int) := by
  have := idxP_at (fun n : Node => decide (n.key = (ns.getD k default).key)) ns 0 k hk (by simp) (fun i hi => by
    have h1 := List.pairwise_iff_getElem.1 h i k (by omega) hk hi
    rw [List.getD_eq_getElem?_getD, List.getD_eq_getElem?_getD, List.getElem?_eq_getElem (by omega), List.getElem?_eq_getElem hk]
    exact decide_eq_false (ltS_ne h1))
  rw [Nat.zero_add] at this
  exact this
theorem arcAt_at {rs : List Arc} (h : SortA rs) {k : Nat} (hk : k < rs.length) : arcAt rs (rs.getD k default).key = rs.getD k default := by
  unfold arcAt
  rw [arc_at h hk]
  rfl
def nodeN (ns : List Node) (s : ByteArray) : Nat := (nodeI ns s).toNat
def arcX (rs : List Arc) (k : Nat) : Arc := rs.getD k default
/-- Roads as a graph. -/
def gphOf (ns : List Node) (rs : List Arc) (bs : List Ban) : Gph where
  m := rs.length
  nn := ns.length
  to_ k := nodeN ns (arcX rs k).to_
  from_ k := nodeN ns (arcX rs k).from_
  outs n := (List.range rs.length).filter (fun k => nodeN ns (arcX rs k).from_ == n)
  ban k j := bannedB bs (arcX rs k).key (arcX rs j).key
  out k t := t + timeI (arcX rs k).knots t
theorem arcX_mem {rs : List Arc} {k : Nat} (h : k < rs.length) : arcX rs k ∈ rs := by
  unfold arcX
  rw [List.getD_eq_getElem?_getD, List.getElem?_eq_getElem h]
  exact List.getElem_mem h
theorem arcX_get {rs : List Arc} {k : Nat} (h : k < rs.length) : arcX rs k = rs[k] := by
  unfold arcX
  rw [List.getD_eq_getElem?_getD, List.getElem?_eq_getElem h]; rfl
theorem arc_right {ns : List Node} {rs : List Arc} (h : chk (arcF ns) none rs = 0) {k : Nat} (hk : k < rs.length) : 0 ≤ nodeI ns (arcX rs k).from_ ∧ 0 ≤ nodeI ns (arcX rs k).to_ ∧ (arcX rs k).from_ ≠ (arcX rs k).to_ ∧ knotsF (arcX rs k).knots = 0 := by
  have := chk_all (F := arcF ns) (Q := fun a => arcG ns a = 0) (fun p x hx => (arcF_ok hx).2) rs none h _ (arcX_mem hk)
  obtain ⟨h1, h2, h3, _, h5⟩ := arcG_ok this
  exact ⟨h1, h2, h3, h5⟩
theorem nodeN_lt {ns : List Node} {s : ByteArray} (h : 0 ≤ nodeI ns s) : nodeN ns s < ns.length := by
  obtain ⟨i, hi, e, _⟩ := node_found h
  unfold nodeN
  rw [e]
  exact hi
theorem gph_ok {ns : List Node} {rs : List Arc} {bs : List Ban} (h : chk (arcF ns) none rs = 0) : GOk (gphOf ns rs bs) where
  to_lt k hk := nodeN_lt (arc_right h hk).2.1
  outs_lt n k hk := by
    have := (List.mem_filter.1 hk).1
    exact List.mem_range.1 this
  outs_iff n k hn hk := by
    show k ∈ (List.range rs.length).filter _ ↔ nodeN ns (arcX rs k).from_ = n
    rw [List.mem_filter, List.mem_range]
    constructor
    · intro hh; simpa using hh.2
    · intro hh; exact ⟨hk, by simpa using hh⟩
  outs_len n := by
    show ((List.range rs.length).filter _).length ≤ rs.length
    exact Nat.le_trans (List.length_filter_le _ _) (by simp)
  gt k t hk ht := by
    have := time_ge (knotsF_chk (arc_right h hk).2.2.2) t
    show t < t + timeI (arcX rs k).knots t
    omega
  mono k t t' hk h0 ht := time_fifo (arc_right h hk).2.2.2 ht

/-- The keys of arcs. -/
def keysOf (rs : List Arc) (l : List Nat) : List ByteArray := l.map fun k => (arcX rs k).key
/-- Where one is behind arcs, and behind which one. -/
def stOf (rs : List Arc) : ByteArray → Option ByteArray → List ByteArray → ByteArray × Option ByteArray
  | fr, p, [] => (fr, p)
  | _, _, k :: l => stOf rs (arcAt rs k).to_ (some k) l
theorem chainF_app (rs : List Arc) (bs : List Ban) : ∀ (l l2 : List ByteArray) (fr : ByteArray) (p : Option ByteArray), chainF rs bs fr p l = 0 → chainF rs bs fr p (l ++ l2) = chainF rs bs (stOf rs fr p l).1 (stOf rs fr p l).2 l2
  | [], _, _, _, _ => rfl
  | k :: l, l2, fr, p, h => by
    rw [List.cons_append]
    unfold chainF at h
    conv => lhs; unfold chainF
    split at h
    · exact absurd h (by decide)
    rename_i h1
    split at h
    · exact absurd h (by decide)
    rename_i h2
    split at h
    · exact absurd h (by decide)
    rename_i h3
    rw [if_neg h1, if_neg h2, if_neg h3]
    exact chainF_app rs bs l l2 _ _ h
theorem stOf_app (rs : List Arc) : ∀ (l : List ByteArray) (k : ByteArray) (fr : ByteArray) (p : Option ByteArray), stOf rs fr p (l ++ [k]) = ((arcAt rs k).to_, some k)
  | [], _, _, _ => rfl
  | j :: l, k, fr, p => by rw [List.cons_append]; unfold stOf; exact stOf_app rs l k _ _
theorem walkO_app (rs : List Arc) : ∀ (l : List ByteArray) (k : ByteArray) (a t : Int) (ts : List Int), walkO rs a l = some ts → (a :: ts).getLastD a = t → walkO rs a (l ++ [k]) = if 345686400000 ≤ outAt rs t k then none else some (ts ++ [outAt rs t k])
  | [], k, a, t, ts, h, ht => by
    injection h with h
    subst h
    have ht : a = t := ht
    subst ht
    rw [List.nil_append]
    unfold walkO
    split
    · rfl
    · rfl
  | j :: l, k, a, t, ts, h, ht => by
    rw [List.cons_append]
    unfold walkO at h ⊢
    by_cases h1 : 345686400000 ≤ outAt rs a j
    · rw [if_pos h1] at h; cases h
    · rw [if_neg h1] at h ⊢
      cases h2 : walkO rs (outAt rs a j) l with
      | none => rw [h2] at h; cases h
      | some ts2 =>
        rw [h2] at h
        have h : outAt rs a j :: ts2 = ts := by injection h
        subst h
        rw [walkO_app rs l k (outAt rs a j) t ts2 h2 (by rw [List.getLastD_cons, List.getLastD_cons] at ht; rw [List.getLastD_cons]; exact ht)]
        split <;> rfl
/-- A trail, as keys: right, with its times. -/
theorem trail_keys {ns : List Node} {rs : List Arc} {bs : List Ban} (h : chk (arcF ns) none rs = 0) {fr : ByteArray} (hfr : 0 ≤ nodeI ns fr) {at_ t : Int} {l : List Nat} (hT : Trail (gphOf ns rs bs) (nodeN ns fr) at_ l t) :
    chainF rs bs fr none (keysOf rs l.reverse) = 0 ∧ ∃ ts, walkO rs at_ (keysOf rs l.reverse) = some ts ∧ ts.length = l.length ∧ (at_ :: ts).getLastD at_ = t ∧ ∀ k l', l = k :: l' → stOf rs fr none (keysOf rs l.reverse) = ((arcX rs k).to_, some (arcX rs k).key) := by
  have hS := sortA_of h
  induction hT with
  | one k hk hf he =>
    have hk : k < rs.length := hk
    have hr := arc_right h hk
    have e1 : (arcX rs k).from_ = fr := (node_iff hr.1 hfr).1 hf
    have e2 : arcAt rs (arcX rs k).key = arcX rs k := arcAt_at hS hk
    have e3 : arcI rs (arcX rs k).key = (k : Int) := arc_at hS hk
    refine ⟨?_, [outAt rs at_ (arcX rs k).key], ?_, rfl, ?_, ?_⟩
    · show chainF rs bs fr none [(arcX rs k).key] = 0
      unfold chainF
      rw [if_neg (by rw [e3]; omega), if_neg (by rw [e2, e1]; simp), if_neg (by simp [prevBan])]
      rfl
    · show walkO rs at_ [(arcX rs k).key] = _
      unfold walkO
      have he : at_ + timeI (arcX rs k).knots at_ < endT := he
      unfold outAt
      rw [e2, if_neg (by unfold endT at he; omega)]
      rfl
    · show outAt rs at_ (arcX rs k).key = at_ + timeI (arcX rs k).knots at_
      unfold outAt
      rw [e2]
    · intro j l' e
      injection e with e _
      subst e
      show stOf rs fr none [(arcX rs k).key] = _
      unfold stOf
      rw [e2]
      rfl
  | cons k i l t hT hi hf hb he ih =>
    obtain ⟨h1, ts, h2, h3, h4, h5⟩ := ih
    have hi : i < rs.length := hi
    have hr := arc_right h hi
    have e2 : arcAt rs (arcX rs i).key = arcX rs i := arcAt_at hS hi
    have e3 : arcI rs (arcX rs i).key = (i : Int) := arc_at hS hi
    have hk : k < rs.length := by cases hT <;> assumption
    have hrk := arc_right h hk
    have e1 : (arcX rs i).from_ = (arcX rs k).to_ := (node_iff hr.1 hrk.2.1).1 hf
    have hl : keysOf rs (i :: k :: l).reverse = keysOf rs (k :: l).reverse ++ [(arcX rs i).key] := by
      unfold keysOf
      rw [List.reverse_cons, List.map_append]
      rfl
    have hst := h5 k l rfl
    have hb : bannedB bs (arcX rs k).key (arcX rs i).key = false := hb
    have he : t + timeI (arcX rs i).knots t < endT := he
    have hout : outAt rs t (arcX rs i).key = t + timeI (arcX rs i).knots t := by unfold outAt; rw [e2]
    rw [hl]
    refine ⟨?_, ts ++ [outAt rs t (arcX rs i).key], ?_, by simp [h3], ?_, ?_⟩
    · rw [chainF_app _ _ _ _ _ _ h1, hst]
      unfold chainF
      rw [if_neg (by rw [e3]; omega), if_neg (by rw [e2, e1]; simp), if_neg (by show ¬ bannedB bs _ _ = true; rw [hb]; simp)]
      rfl
    · rw [walkO_app rs _ _ _ _ _ h2 h4, if_neg (by rw [hout]; unfold endT at he; omega)]
    · rw [← List.cons_append, List.getLastD_concat]
      exact hout
    · intro j l' e
      injection e with e _
      subst e
      rw [stOf_app, e2]
end Go.Proofs.YtklgknepamebdaaGreatDoor
/- A ban: the program's search. -/
namespace Go.Proofs.YtklgknepamebdaaGreatDoor
open Go.RowKit

end Go.Proofs.YtklgknepamebdaaGreatDoor
/- Arcs one after the other: the program. -/
namespace Go.Proofs.YtklgknepamebdaaGreatDoor
open Go.RowKit

/-- Roads in a box, read. -/
structure BoxR (w : World) (g lo : Nat) (A B C : Option Addr) (ca cb cc : Nat) (ns : List Node) (rs : List Arc) (bs : List Ban) : Prop where
  g0 : w.cell? ⟨g, 0, none⟩ = some (.slice A ns.length ca)
  g1 : w.cell? ⟨g, 1, none⟩ = some (.slice B rs.length cb)
  g2 : w.cell? ⟨g, 2, none⟩ = some (.slice C bs.length cc)
  gl : g < w.heap.size
  hN : Rd w lo A 3 encNode ns
  hA : RdArcs w lo B rs
  hB : Rd w lo C 2 encBan bs
  nl : ns.length ≤ 400
  al : rs.length ≤ 400
  bl : bs.length ≤ 400
theorem BoxR.nx {w w' : World} {g lo : Nat} {A B C : Option Addr} {ca cb cc : Nat} {ns : List Node} {rs : List Arc} {bs : List Ban} (h : BoxR w g lo A B C ca cb cc ns rs bs) (hn : Nx w w') : BoxR w' g lo A B C ca cb cc ns rs bs :=
  ⟨nx_cell hn h.gl h.g0, nx_cell hn h.gl h.g1, nx_cell hn h.gl h.g2, Nat.lt_of_lt_of_le h.gl hn.sz, h.hN.nx hn, h.hA.nx hn, h.hB.nx hn, h.nl, h.al, h.bl⟩
theorem roads_ok {ns : List Node} {rs : List Arc} {bs : List Ban} (h : roadsF ns rs bs = 0) : nodesF ns = 0 ∧ chk (arcF ns) none rs = 0 ∧ chk (banF rs) none bs = 0 := by
  unfold roadsF at h
  by_cases h0 : nodesF ns = 0
  · rw [if_pos h0] at h
    by_cases h1 : chk (arcF ns) none rs = 0
    · rw [if_pos h1] at h; exact ⟨h0, h1, h⟩
    · rw [if_neg h1] at h; exact absurd h h1
  · rw [if_neg h0] at h; exact absurd h h0

theorem emptyL (f : ByteArray) : f.toList = [] ↔ f = ByteArray.empty := by
  constructor
  · intro h
    have h2 : (f.toList == ByteArray.empty.toList) = true := by rw [h, Lib.toList_data]; rfl
    rw [eqS_iff] at h2
    exact of_decide_eq_true h2
  · rintro rfl
    rw [Lib.toList_data]; rfl
theorem chain_drop (rs : List Arc) (bs : List Ban) (l : List ByteArray) (fr : ByteArray) (k : Nat) (hk : k < l.length) : chainF rs bs fr (prevOf l k) (l.drop k) = if arcI rs l[k] < 0 then 8 else if fr ≠ ByteArray.empty ∧ (arcAt rs l[k]).from_ ≠ fr then 3 else if prevBan bs (prevOf l k) l[k] then 16 else chainF rs bs (arcAt rs l[k]).to_ (prevOf l (k + 1)) (l.drop (k + 1)) := by
  rw [List.drop_eq_getElem_cons hk, chainF]
  have e : prevOf l (k + 1) = some l[k] := by unfold prevOf; simp [List.getElem?_eq_getElem hk]
  rw [e]
end Go.Proofs.YtklgknepamebdaaGreatDoor
/- A map whose elements are of any kind, said of a plain function; pointers to blocks as elements. Of no program. -/
namespace Go.Proofs.YtklgknepamebdaaGreatDoor
open Go.RowKit Go.Maps

/-- R reads the values 'ev v', and no others as what they read as. -/
structure ElemR {V : Type} (R : Value → Option (DataW Unit × List MemPlace)) (ev : V → Value) (dv : V → DataW Unit) (okv : V → Prop) : Prop where
  make : ∀ v, okv v → ∃ ps, R (ev v) = some (dv v, ps)
  inv : ∀ x d ps, R x = some (d, ps) → ∃ v, okv v ∧ x = ev v ∧ d = dv v
  inj : ∀ a b, dv a = dv b → a = b

theorem elemInt {P : Program} {E : TypeId} (he : P.underlying E = some (.int .i64)) : ElemR (plainElem P E) (Value.int .i64) (fun z => .lit (.int .i64 z)) (fun z => (Lit.int .i64 z).wf = true) where
  make z h := ⟨[], plainElem_int he h⟩
  inv x d ps h := by
    obtain ⟨a, rfl, e, hw⟩ := plainElem_int_inv he h
    injection e with e1 e2
    exact ⟨a, hw, rfl, e1⟩
  inj a b h := by injection h with h; injection h
theorem elemBool {P : Program} {E : TypeId} (he : P.underlying E = some .bool) : ElemR (plainElem P E) Value.bool (fun z => .lit (.bool z)) (fun _ => True) where
  make z _ := ⟨[], plainElem_bool he z⟩
  inv x d ps h := by
    unfold plainElem at h
    rw [he] at h
    cases x <;> simp at h
    obtain ⟨rfl, _⟩ := h
    exact ⟨_, trivial, rfl, rfl⟩
  inj a b h := by injection h with h; injection h

/-- A pointer to a block's head, or nil. -/
def ptrV : Option Nat → Value
  | none => .pointer none
  | some b => .pointer (some ⟨b, 0, none⟩)
def ptrD : Option Nat → DataW Unit
  | none => .lit (.bool false)
  | some b => .lit (.int .i64 (b : Int))
def ptrElem : Value → Option (DataW Unit × List MemPlace)
  | .pointer none => some (.lit (.bool false), [])
  | .pointer (some ⟨b, 0, none⟩) => some (.lit (.int .i64 (b : Int)), [])
  | _ => none
theorem elemPtr : ElemR ptrElem ptrV ptrD (fun _ => True) where
  make v _ := by cases v <;> exact ⟨[], rfl⟩
  inv x d ps h := by
    unfold ptrElem at h
    split at h
    · injection h with h; injection h with h1 h2; exact ⟨none, trivial, rfl, h1.symm⟩
    · rename_i b
      injection h with h; injection h with h1 h2; exact ⟨some b, trivial, rfl, h1.symm⟩
    · cases h
  inj a b h := by
    cases a <;> cases b <;> simp [ptrD] at h <;> first | rfl | (congr 1; omega)

section
variable {κ V : Type} {P : Program} {K : TypeId} {ek : κ → Value} {dom : κ → Prop} {R : Value → Option (DataW Unit × List MemPlace)} {ev : V → Value} {dv : V → DataW Unit} {okv : V → Prop}

structure MgD (P : Program) (K : TypeId) (ek : κ → Value) (dom : κ → Prop) (dv : V → DataW Unit) (D : DataW Unit) (f : κ → Option V) : Prop where
  isMap : IsMap D
  at_ : ∀ k l, dom k → keyOf P K (ek k) = some l → ∀ z, D.atKey l z = (match f k with | some v => dv v | none => z)
  keys : ∀ l, has D l = true → ∃ k, dom k ∧ keyOf P K (ek k) = some l
  dm : ∀ k, (f k).isSome = true → dom k
/-- Block b is a map that holds f k at key k, if it has the key at all. -/
def MgI (P : Program) (K : TypeId) (ek : κ → Value) (dom : κ → Prop) (R : Value → Option (DataW Unit × List MemPlace)) (dv : V → DataW Unit) (w : World) (b n : Nat) (f : κ → Option V) : Prop :=
  ∃ D : DataW Unit, w.ownsMap P K R b n D ∧ MgD P K ek dom dv D f
theorem MgI.lt {w : World} {b n : Nat} {f : κ → Option V} (h : MgI P K ek dom R dv w b n f) : b < w.heap.size := by
  obtain ⟨D, h1, _⟩ := h; exact h1.lt
theorem MgI.grown {w w' : World} {b n : Nat} {row : Option Nat} {f : κ → Option V} (h : MgI P K ek dom R dv w b n f) (hg : w.grownBy w' row) (hne : some b ≠ row) : MgI P K ek dom R dv w' b n f := by
  obtain ⟨D, h1, h2⟩ := h
  exact ⟨D, h1.kept hg hne, h2⟩
theorem MgI.nx {w w' : World} {b n : Nat} {f : κ → Option V} (h : MgI P K ek dom R dv w b n f) (hn : Nx w w') : MgI P K ek dom R dv w' b n f := h.grown (hn.gr none) (by simp)
theorem MgI.gr {w w' : World} {b n s : Nat} {f : κ → Option V} (h : MgI P K ek dom R dv w b n f) (hn : Gr s w w') (hs : b ≠ s) : MgI P K ek dom R dv w' b n f := h.grown (row := some s) hn (by simpa using hs)
theorem MgI.mono {w : World} {b n n' : Nat} {f : κ → Option V} (h : MgI P K ek dom R dv w b n f) (hn : n ≤ n') : MgI P K ek dom R dv w b n' f := by
  obtain ⟨D, h1, h2⟩ := h; exact ⟨D, h1.mono hn, h2⟩
theorem MgI.made (w : World) : MgI P K ek dom R dv (w.alloc (.map #[] 0)) w.heap.size 0 (fun _ : κ => (none : Option V)) :=
  ⟨.map [], World.ownsMap_made w P K _, isMap_empty, fun _ _ _ _ _ => rfl, fun l h => (by simp [has_eq] at h), fun k h => by cases h⟩
/-- A new map, wherever it came. -/
theorem MgI.fresh {w : World} {b : Nat} (hb : w.heap[b]? = some (.map #[] 0)) : MgI P K ek dom R dv w b 0 (fun _ : κ => (none : Option V)) :=
  ⟨.map [], ⟨#[], 0, hb, by
    obtain ⟨es, clock, h1, h2, _⟩ := World.ownsMap_made w P K R
    have e : (w.alloc (.map #[] 0)).heap[w.heap.size]? = some (.map #[] 0) := heap_alloc_new w _
    rw [e] at h1
    injection h1 with h1; injection h1 with h3 h4
    subst h3 h4
    exact h2, Nat.le_refl _, rfl⟩, isMap_empty, fun _ _ _ _ _ => rfl, fun l h => (by simp [has_eq] at h), fun k h => by cases h⟩
theorem MgD.has_ {D : DataW Unit} {f : κ → Option V} (h : MgD P K ek dom dv D f) {k : κ} (hd : dom k) {l : Lit} (hkey : keyOf P K (ek k) = some l) : has D l = (f k).isSome := by
  have e := h.at_ k l hd hkey
  cases hf : f k with
  | none => rw [hf] at e; exact has_false_of_atKey e
  | some v => rw [hf] at e; exact has_true_of_atKey e
/-- 'm[k]'. -/
theorem MgI.look (ER : ElemR R ev dv okv) {w : World} {b n : Nat} {f : κ → Option V} {t E : TypeId} (h : MgI P K ek dom R dv w b n f) (KL : Keyed P K) (ht : P.underlying t = some (.map K E)) {z : V} (hzo : okv z) (hz : (zeroValue E).run P w = .ok (ev z) w)
    {k : κ} (hd : dom k) {l : Lit} (hkey : keyOf P K (ek k) = some l) : (Instr.lookup t (.map (some b)) (ek k) false).run P w = .ok (ev ((f k).getD z)) w ∧ okv ((f k).getD z) := by
  obtain ⟨D, h1, h2⟩ := h
  obtain ⟨ps0, hzd⟩ := ER.make z hzo
  obtain ⟨v, ps, hrun, hv⟩ := h1.lookup KL ht hz hzd hkey
  obtain ⟨v', ho, rfl, e1⟩ := ER.inv _ _ _ hv
  have e := h2.at_ k l hd hkey (dv z)
  have e2 : v' = (f k).getD z := by
    rw [e1] at e
    cases hf : f k with
    | none => rw [hf] at e; exact ER.inj _ _ e
    | some u => rw [hf] at e; exact ER.inj _ _ e
  subst e2
  exact ⟨hrun, ho⟩
/-- 'v, is := m[k]'. -/
theorem MgI.look_ok (ER : ElemR R ev dv okv) {w : World} {b n : Nat} {f : κ → Option V} {t E : TypeId} (h : MgI P K ek dom R dv w b n f) (KL : Keyed P K) (ht : P.underlying t = some (.map K E)) {z : V} (hzo : okv z) (hz : (zeroValue E).run P w = .ok (ev z) w)
    {k : κ} (hd : dom k) {l : Lit} (hkey : keyOf P K (ek k) = some l) : (Instr.lookup t (.map (some b)) (ek k) true).run P w = .ok (.tuple #[ev ((f k).getD z), .bool (f k).isSome]) w ∧ okv ((f k).getD z) := by
  obtain ⟨D, h1, h2⟩ := h
  obtain ⟨ps0, hzd⟩ := ER.make z hzo
  obtain ⟨v, ps, hrun, hv⟩ := h1.look_ok KL ht hz hzd hkey
  obtain ⟨v', ho, rfl, e1⟩ := ER.inv _ _ _ hv
  have e := h2.at_ k l hd hkey (dv z)
  have e2 : v' = (f k).getD z := by
    rw [e1] at e
    cases hf : f k with
    | none => rw [hf] at e; exact ER.inj _ _ e
    | some u => rw [hf] at e; exact ER.inj _ _ e
  subst e2
  rw [h2.has_ hd hkey] at hrun
  exact ⟨hrun, ho⟩
theorem MgD.put [DecidableEq κ] {D : DataW Unit} {f : κ → Option V} (h : MgD P K ek dom dv D f) (KL : Keyed P K) (hinj : ∀ a b : κ, ek a = ek b → a = b) {k : κ} (hd : dom k) {l : Lit} (hkey : keyOf P K (ek k) = some l) (v : V) :
    MgD P K ek dom dv (D.put l (dv v)) (fun k' => if k' = k then some v else f k') where
  isMap := h.isMap.put _ _
  at_ k' l' hd' hk' z := by
    by_cases e : k' = k
    · subst e
      rw [hkey] at hk'; injection hk' with hk'; subst hk'
      rw [if_pos rfl]
      exact atKey_put_same h.isMap (KL.key hkey) _ _
    · rw [if_neg e]
      have hne : l' ≠ l := fun e1 => by subst e1; exact e (hinj _ _ (KL.inj hk' hkey))
      rw [atKey_put_other hne]
      exact h.at_ k' l' hd' hk' z
  keys l' hl' := by
    by_cases e : l' = l
    · subst e; exact ⟨k, hd, hkey⟩
    · rw [has_put_other e] at hl'; exact h.keys l' hl'
  dm k' hk' := by
    by_cases e : k' = k
    · subst e; exact hd
    · rw [if_neg e] at hk'; exact h.dm k' hk'
/-- 'm[k] = v'. -/
theorem MgI.upd [DecidableEq κ] (ER : ElemR R ev dv okv) {w : World} {b n : Nat} {f : κ → Option V} {t E : TypeId} (h : MgI P K ek dom R dv w b n f) (KL : Keyed P K) (hinj : ∀ a b : κ, ek a = ek b → a = b) (ht : P.underlying t = some (.map K E)) (hn : n < maxLen)
    {k : κ} (hd : dom k) {l : Lit} (hkey : keyOf P K (ek k) = some l) (v : V) (hv : okv v) :
    ∃ w', (Instr.mapUpdate t (.map (some b)) (ek k) (ev v)).run P w = .ok () w' ∧ MgI P K ek dom R dv w' b (n + 1) (fun k' => if k' = k then some v else f k') ∧ Gr b w w' := by
  obtain ⟨D, h1, h2⟩ := h
  obtain ⟨ps, hR⟩ := ER.make v hv
  obtain ⟨w', hr, ho, hg⟩ := h1.update KL ht hn hkey hR
  exact ⟨w', hr, ⟨_, ho, h2.put KL hinj hd hkey v⟩, hg⟩
/-- 'm[k]' at the operation. -/
theorem wpMgLook (w : World) {ops : Array Oper} {rest : List Oper} {o : Oper} {a : Act} {Q : Exit → Act → World → Prop}
    (hg : o.guard = none) (m x : Operand) (t : TypeId) (hop : o.op = Op.lookup t m x false) (ER : ElemR R ev dv okv) {E : TypeId}
    (KL : Keyed P K) (ht : P.underlying t = some (.map K E)) {z : V} (hzo : okv z) (hz : (zeroValue E).run P w = .ok (ev z) w) (b n : Nat) (f : κ → Option V)
    (hm : a.eval m = .map (some b)) (hown : MgI P K ek dom R dv w b n f) (k : κ) (hx : a.eval x = ek k) (hd : dom k) (l : Lit) (hkey : keyOf P K (ek k) = some l)
    (hK : wpList P ops Q rest (a.put o.dst (ev ((f k).getD z))) w) :
    wpList P ops Q (o :: rest) a w := by
  refine wpList_plain hg fun K' hK' => ?_
  obtain ⟨hrun, hwf⟩ := hown.look ER KL ht hzo hz hd hkey
  unfold Oper.wp
  simp [execOp, hop, hm, hx, hrun, Result.andThen]
  exact hK' _ _ hK
/-- 'v, is := m[k]' at the operation. -/
theorem wpMgLookOk (w : World) {ops : Array Oper} {rest : List Oper} {o : Oper} {a : Act} {Q : Exit → Act → World → Prop}
    (hg : o.guard = none) (m x : Operand) (t : TypeId) (hop : o.op = Op.lookup t m x true) (ER : ElemR R ev dv okv) {E : TypeId}
    (KL : Keyed P K) (ht : P.underlying t = some (.map K E)) {z : V} (hzo : okv z) (hz : (zeroValue E).run P w = .ok (ev z) w) (b n : Nat) (f : κ → Option V)
    (hm : a.eval m = .map (some b)) (hown : MgI P K ek dom R dv w b n f) (k : κ) (hx : a.eval x = ek k) (hd : dom k) (l : Lit) (hkey : keyOf P K (ek k) = some l)
    (hK : wpList P ops Q rest (a.put o.dst (.tuple #[ev ((f k).getD z), .bool (f k).isSome])) w) :
    wpList P ops Q (o :: rest) a w := by
  refine wpList_plain hg fun K' hK' => ?_
  obtain ⟨hrun, hwf⟩ := hown.look_ok ER KL ht hzo hz hd hkey
  unfold Oper.wp
  simp [execOp, hop, hm, hx, hrun, Result.andThen]
  exact hK' _ _ hK
/-- 'm[k] = v' at the operation. -/
theorem wpMgPut [DecidableEq κ] (w : World) {ops : Array Oper} {rest : List Oper} {o : Oper} {a : Act} {Q : Exit → Act → World → Prop}
    (hg : o.guard = none) (m x v : Operand) (t : TypeId) (hop : o.op = Op.mapUpdate t m x v) (ER : ElemR R ev dv okv) {E : TypeId}
    (KL : Keyed P K) (hinj : ∀ a b : κ, ek a = ek b → a = b) (ht : P.underlying t = some (.map K E)) (b n : Nat) (f : κ → Option V)
    (hm : a.eval m = .map (some b)) (hown : MgI P K ek dom R dv w b n f) (hn : n < maxLen) (k : κ) (hx : a.eval x = ek k) (hd : dom k) (l : Lit) (hkey : keyOf P K (ek k) = some l)
    (z : V) (hz : a.eval v = ev z) (hwf : okv z)
    (hK : ∀ w', MgI P K ek dom R dv w' b (n + 1) (fun k' => if k' = k then some z else f k') → Gr b w w' → wpList P ops Q rest (a.put o.dst undef) w') :
    wpList P ops Q (o :: rest) a w := by
  refine wpList_plain hg fun K' hK' => ?_
  obtain ⟨w', hrun, r1, r2⟩ := hown.upd ER KL hinj ht hn hd hkey z hwf
  unfold Oper.wp
  simp [execOp, hop, hm, hx, hz, hrun, Result.andThen]
  exact hK' _ _ (hK w' r1 r2)
/-- The number of entries: no more than n. -/
theorem MgI.size {w : World} {b n : Nat} {f : κ → Option V} (h : MgI P K ek dom R dv w b n f) {t E : TypeId} (ht : P.underlying t = some (.map K E)) (ty : TypeId) : ∃ m : Nat, m ≤ n ∧ (Builtin.len_ #[t] ty #[.map (some b)]).run P w = .ok (.int .i64 (m : Int)) w := by
  obtain ⟨D, h1, h2⟩ := h
  refine ⟨Maps.size D, ?_, by simpa using h1.len ht ty⟩
  obtain ⟨es, clock, _, _, h3, rfl⟩ := h1
  rw [size_eq, length_sorted]; simpa using h3
end
end Go.Proofs.YtklgknepamebdaaGreatDoor
/- A map of integers in which it counts whether a key is there, said of a plain function. Of no program. -/
namespace Go.Proofs.YtklgknepamebdaaGreatDoor
open Go.RowKit Go.Maps

section
variable {κ : Type} {P : Program} {K E : TypeId} {ek : κ → Value} {dom : κ → Prop}

/-- The map's datum D holds f k at key k, if it has the key at all; its keys lie in dom. -/
structure MoD (P : Program) (K : TypeId) (ek : κ → Value) (dom : κ → Prop) (D : DataW Unit) (f : κ → Option Int) : Prop where
  isMap : IsMap D
  at_ : ∀ k l, dom k → keyOf P K (ek k) = some l → ∀ z, D.atKey l z = (match f k with | some v => .lit (.int .i64 v) | none => z)
  keys : ∀ l, has D l = true → ∃ k, dom k ∧ keyOf P K (ek k) = some l
  dm : ∀ k, (f k).isSome = true → dom k

/-- Block b is such a map. -/
def MoI (P : Program) (K E : TypeId) (ek : κ → Value) (dom : κ → Prop) (w : World) (b n : Nat) (f : κ → Option Int) : Prop :=
  ∃ D : DataW Unit, w.ownsMap P K (plainElem P E) b n D ∧ MoD P K ek dom D f

theorem MoI.lt {w : World} {b n : Nat} {f : κ → Option Int} (h : MoI P K E ek dom w b n f) : b < w.heap.size := by
  obtain ⟨D, h1, _⟩ := h; exact h1.lt
theorem MoI.nx {w w' : World} {b n : Nat} {f : κ → Option Int} (h : MoI P K E ek dom w b n f) (hn : Nx w w') : MoI P K E ek dom w' b n f := by
  obtain ⟨D, h1, h2⟩ := h
  exact ⟨D, h1.kept (hn.gr none) (by simp), h2⟩
theorem MoI.gr {w w' : World} {b n s : Nat} {f : κ → Option Int} (h : MoI P K E ek dom w b n f) (hn : Gr s w w') (hs : b ≠ s) : MoI P K E ek dom w' b n f := by
  obtain ⟨D, h1, h2⟩ := h
  exact ⟨D, h1.kept (row := some s) hn (by simpa using hs), h2⟩
theorem MoI.mono {w : World} {b n n' : Nat} {f : κ → Option Int} (h : MoI P K E ek dom w b n f) (hn : n ≤ n') : MoI P K E ek dom w b n' f := by
  obtain ⟨D, h1, h2⟩ := h; exact ⟨D, h1.mono hn, h2⟩
theorem MoI.made (w : World) : MoI P K E ek dom (w.alloc (.map #[] 0)) w.heap.size 0 (fun _ => none) :=
  ⟨.map [], World.ownsMap_made w P K _, isMap_empty, fun _ _ _ _ _ => rfl, fun l h => (by simp [has_eq] at h), fun k h => by cases h⟩
theorem wf_i64o {n : Int} : (Lit.int .i64 n).wf = true ↔ -9223372036854775808 ≤ n ∧ n ≤ 9223372036854775807 := by
  simp [Lit.wf, IntKind.min, IntKind.max, IntKind.signed, IntKind.bits]
theorem MoD.has_ {D : DataW Unit} {f : κ → Option Int} (h : MoD P K ek dom D f) {k : κ} (hd : dom k) {l : Lit} (hkey : keyOf P K (ek k) = some l) : has D l = (f k).isSome := by
  have e := h.at_ k l hd hkey
  cases hf : f k with
  | none => rw [hf] at e; exact has_false_of_atKey e
  | some v => rw [hf] at e; exact has_true_of_atKey e

theorem MoI.look {w : World} {b n : Nat} {f : κ → Option Int} {t : TypeId} (h : MoI P K E ek dom w b n f) (KL : Keyed P K) (ht : P.underlying t = some (.map K E)) (he : P.underlying E = some (.int .i64)) (hz : (zeroValue E).run P w = .ok (.int .i64 0) w)
    {k : κ} (hd : dom k) {l : Lit} (hkey : keyOf P K (ek k) = some l) : (Instr.lookup t (.map (some b)) (ek k) false).run P w = .ok (.int .i64 ((f k).getD 0)) w ∧ (Lit.int .i64 ((f k).getD 0)).wf = true := by
  obtain ⟨D, h1, h2⟩ := h
  obtain ⟨c, hrun, hat, hwf⟩ := h1.lookup_int KL ht he hz hkey
  have e := h2.at_ k l hd hkey (.lit (.int .i64 0))
  rw [hat] at e
  have e' : c = (f k).getD 0 := by
    cases hf : f k with
    | none => rw [hf] at e; injection e with e; injection e
    | some v => rw [hf] at e; injection e with e; injection e
  subst e'
  exact ⟨hrun, hwf⟩

theorem MoD.put {D : DataW Unit} {f : κ → Option Int} [DecidableEq κ] (h : MoD P K ek dom D f) (KL : Keyed P K) (hinj : ∀ a b : κ, ek a = ek b → a = b) {k : κ} (hd : dom k) {l : Lit} (hkey : keyOf P K (ek k) = some l) (v : Int) :
    MoD P K ek dom (D.put l (.lit (.int .i64 v))) (fun k' => if k' = k then some v else f k') where
  isMap := h.isMap.put _ _
  at_ k' l' hd' hk' z := by
    by_cases e : k' = k
    · subst e
      rw [hkey] at hk'; injection hk' with hk'; subst hk'
      rw [if_pos rfl]
      exact atKey_put_same h.isMap (KL.key hkey) _ _
    · rw [if_neg e]
      have hne : l' ≠ l := fun e1 => by subst e1; exact e (hinj _ _ (KL.inj hk' hkey))
      rw [atKey_put_other hne]
      exact h.at_ k' l' hd' hk' z
  keys l' hl' := by
    by_cases e : l' = l
    · subst e; exact ⟨k, hd, hkey⟩
    · rw [has_put_other e] at hl'; exact h.keys l' hl'
  dm k' hk' := by
    by_cases e : k' = k
    · subst e; exact hd
    · rw [if_neg e] at hk'; exact h.dm k' hk'

/-- 'm[k] = v'. -/
theorem MoI.upd {w : World} {b n : Nat} {f : κ → Option Int} [DecidableEq κ] {t : TypeId} (h : MoI P K E ek dom w b n f) (KL : Keyed P K) (hinj : ∀ a b : κ, ek a = ek b → a = b) (ht : P.underlying t = some (.map K E)) (he : P.underlying E = some (.int .i64)) (hn : n < maxLen)
    {k : κ} (hd : dom k) {l : Lit} (hkey : keyOf P K (ek k) = some l) (v : Int) (hv : (Lit.int .i64 v).wf = true) :
    ∃ w', (Instr.mapUpdate t (.map (some b)) (ek k) (.int .i64 v)).run P w = .ok () w' ∧ MoI P K E ek dom w' b (n + 1) (fun k' => if k' = k then some v else f k') ∧ Gr b w w' := by
  obtain ⟨D, h1, h2⟩ := h
  obtain ⟨w', hr, ho, hg⟩ := h1.update KL ht hn hkey (plainElem_int (H := Unit) he hv)
  exact ⟨w', hr, ⟨_, ho, h2.put KL hinj hd hkey v⟩, hg⟩

/-- 'm[k]' at the operation. -/
theorem wpMoLook (w : World) {ops : Array Oper} {rest : List Oper} {o : Oper} {a : Act} {Q : Exit → Act → World → Prop}
    (hg : o.guard = none) (m x : Operand) (t : TypeId) (hop : o.op = Op.lookup t m x false)
    (KL : Keyed P K) (ht : P.underlying t = some (.map K E)) (he : P.underlying E = some (.int .i64)) (hz : (zeroValue E).run P w = .ok (.int .i64 0) w) (b n : Nat) (f : κ → Option Int)
    (hm : a.eval m = .map (some b)) (hown : MoI P K E ek dom w b n f) (k : κ) (hx : a.eval x = ek k) (hd : dom k) (l : Lit) (hkey : keyOf P K (ek k) = some l)
    (hK : (Lit.int .i64 ((f k).getD 0)).wf = true → wpList P ops Q rest (a.put o.dst (.int .i64 ((f k).getD 0))) w) :
    wpList P ops Q (o :: rest) a w := by
  refine wpList_plain hg fun K' hK' => ?_
  obtain ⟨hrun, hwf⟩ := hown.look KL ht he hz hd hkey
  unfold Oper.wp
  simp [execOp, hop, hm, hx, hrun, Result.andThen]
  exact hK' _ _ (hK hwf)

/-- 'm[k] = v' at the operation. -/
theorem wpMoPut [DecidableEq κ] (w : World) {ops : Array Oper} {rest : List Oper} {o : Oper} {a : Act} {Q : Exit → Act → World → Prop}
    (hg : o.guard = none) (m x v : Operand) (t : TypeId) (hop : o.op = Op.mapUpdate t m x v)
    (KL : Keyed P K) (hinj : ∀ a b : κ, ek a = ek b → a = b) (ht : P.underlying t = some (.map K E)) (he : P.underlying E = some (.int .i64)) (b n : Nat) (f : κ → Option Int)
    (hm : a.eval m = .map (some b)) (hown : MoI P K E ek dom w b n f) (hn : n < maxLen) (k : κ) (hx : a.eval x = ek k) (hd : dom k) (l : Lit) (hkey : keyOf P K (ek k) = some l)
    (z : Int) (hz : a.eval v = .int .i64 z) (hwf : (Lit.int .i64 z).wf = true)
    (hK : ∀ w', MoI P K E ek dom w' b (n + 1) (fun k' => if k' = k then some z else f k') → Gr b w w' → wpList P ops Q rest (a.put o.dst undef) w') :
    wpList P ops Q (o :: rest) a w := by
  refine wpList_plain hg fun K' hK' => ?_
  obtain ⟨w', hrun, r1, r2⟩ := hown.upd KL hinj ht he hn hd hkey z hwf
  unfold Oper.wp
  simp [execOp, hop, hm, hx, hz, hrun, Result.andThen]
  exact hK' _ _ (hK w' r1 r2)
end
end Go.Proofs.YtklgknepamebdaaGreatDoor
/- Sums by key that a loop over a map collects. Of no program. -/
namespace Go.Proofs.YtklgknepamebdaaGreatDoor
open Go.RowKit Go.Sort Go.Maps Go.Proofs Go.Shelf

def domS (k : ByteArray) : Prop := k.size ≤ maxLen
def litS (k : ByteArray) : Lit := .string k.data.toList
theorem litS_inj {a b : ByteArray} (h : litS a = litS b) : a = b := data_inj (by unfold litS at h; injection h)
theorem keyS_mk {P : Program} {k : TypeId} (hk : P.underlying k = some .string) {s : ByteArray} (hs : domS s) : keyOf P k (.string s) = some (litS s) := by
  unfold domS at hs
  simp [keyOf, hk, mapKey, hs, litS]
theorem keyS_inv {P : Program} {k : TypeId} (hk : P.underlying k = some .string) {key : Value} {kl : Lit} (h : keyOf P k key = some kl) : ∃ s, key = .string s ∧ domS s ∧ kl = litS s := by
  cases key <;> simp [keyOf, hk, mapKey] at h
  obtain ⟨h1, rfl⟩ := h
  exact ⟨_, rfl, h1, rfl⟩
theorem strV_inj (a b : ByteArray) (h : Value.string a = Value.string b) : a = b := by injection h
theorem sameS_self (s : ByteArray) : (litS s).sameKey (litS s) = true := by simp [litS, Lit.sameKey]

/-- What has been collected while some entries are still to come. -/
structure CollK (f : ByteArray → Option Int) (zero : Bool) (left : Lit → Bool) (L : List Due) : Prop where
  val : ∀ d ∈ L, f d.key = some d.cents ∧ (d.cents ≠ 0 ∨ zero = true)
  gone : ∀ d ∈ L, left (litS d.key) = false
  all_ : ∀ k v, f k = some v → (v ≠ 0 ∨ zero = true) → left (litS k) = false → (⟨k, v⟩ : Due) ∈ L
  nodup : (L.map Due.key).Nodup

theorem collK_start {f : ByteArray → Option Int} {zero : Bool} {left : Lit → Bool} (h : ∀ k, (f k).isSome = true → left (litS k) = true) : CollK f zero left [] :=
  ⟨by simp, by simp, fun k v h1 _ h2 => (by rw [h k (by rw [h1]; rfl)] at h2; cases h2), by simp⟩
theorem collK_step {f : ByteArray → Option Int} {zero : Bool} {left : Lit → Bool} {L : List Due} (h : CollK f zero left L) {k : ByteArray} {v : Int} (hv : f k = some v) (hl : left (litS k) = true)
    (L' : List Due) (hL : L' = if v ≠ 0 ∨ zero = true then L ++ [⟨k, v⟩] else L) : CollK f zero (fun z => left z && !z.sameKey (litS k)) L' := by
  have hself := sameS_self k
  refine ⟨?_, ?_, ?_, ?_⟩
  · intro t ht
    rw [hL] at ht
    split at ht
    · rcases List.mem_append.1 ht with ht | ht
      · exact h.val t ht
      · simp at ht; subst ht; exact ⟨hv, by assumption⟩
    · exact h.val t ht
  · intro t ht
    rw [hL] at ht
    have old : t ∈ L → (left (litS t.key) && !(litS t.key).sameKey (litS k)) = false := fun ht => by rw [h.gone t ht]; rfl
    split at ht
    · rcases List.mem_append.1 ht with ht | ht
      · exact old ht
      · simp at ht; subst ht
        show (left (litS k) && !(litS k).sameKey (litS k)) = false
        rw [hself]; simp
    · exact old ht
  · intro k' v' hv' hz hlf
    by_cases e : k' = k
    · subst e
      rw [hv] at hv'; injection hv' with hv'; subst hv'
      rw [hL, if_pos hz]; simp
    · have hs : (litS k').sameKey (litS k) = false := sameKey_ne (fun e1 => e (litS_inj e1))
      rw [hs] at hlf
      have := h.all_ k' v' hv' hz (by simpa using hlf)
      rw [hL]; split
      · exact List.mem_append_left _ this
      · exact this
  · rw [hL]; split
    · rw [List.map_append, List.nodup_append]
      refine ⟨h.nodup, by simp, fun a ha b hb e => ?_⟩
      simp at hb; subst hb; subst e
      obtain ⟨t, ht, e2⟩ := List.mem_map.1 ha
      have := h.gone t ht
      rw [show t.key = a from e2, hl] at this; cases this
    · exact h.nodup
theorem collK_end {f : ByteArray → Option Int} {zero : Bool} {left : Lit → Bool} {L : List Due} (h : CollK f zero left L) (hl : ∀ kl, left kl = false) {ys : List Due} (hp : ys.Perm L)
    (hs : ∀ i j (hi : i < j) (hj : j < ys.length), ltOf dueC ys[j] (ys[i]'(by omega)) = false) : DuesOf f zero ys := by
  refine ⟨?_, fun d => ?_⟩
  · have hnd : (ys.map Due.key).Nodup := (hp.map Due.key).nodup_iff.2 h.nodup
    rw [List.pairwise_iff_getElem]
    intro i j hi hj hij
    have h1 := hs i j hij hj
    have h2 : ys[i].key ≠ ys[j].key := fun e => by
      have := (List.nodup_iff_pairwise_ne.1 hnd)
      rw [List.pairwise_iff_getElem] at this
      exact this i j (by simpa using hi) (by simpa using hj) hij (by simpa using e)
    rw [due_nlt] at h1
    refine Classical.byContradiction fun hn => h2 (ltS_tri _ _ hn h1)
  · rw [hp.mem_iff]
    constructor
    · intro hd; exact h.val d hd
    · rintro ⟨h1, h2⟩
      exact h.all_ d.key d.cents h1 h2 (hl _)
end Go.Proofs.YtklgknepamebdaaGreatDoor
/- A map of roads, read; the keys of its maps. -/
namespace Go.Proofs.YtklgknepamebdaaGreatDoor
open Go.RowKit Go.Maps

theorem tySizeR : Tryz.prog.types.size = 332 := by kernel_rfl
theorem laidOutR : laidOutB Tryz.prog = true := by kernel_rfl
theorem law_strR : Keyed Tryz.prog 9 := string_keyed Tryz.underlying9
theorem law_pair : Keyed Tryz.prog 203 := Keyed.of_law (deep_law_laid laidOutR (m := 5) (by omega) (k := 203) (by rw [tySizeR]; decide) (by kernel_rfl) (by kernel_rfl))
theorem kt_pair : Tryz.prog.keyType 203 = true := by kernel_rfl
theorem cells_pair : Tryz.prog.cellsOf 203 = 2 := by kernel_rfl
theorem cells_intR : Tryz.prog.cellsOf 3 = 1 := by kernel_rfl
theorem lits_intR (d : Nat) (x : Int) (hx : (Lit.int .i64 x).wf = true) : Tryz.prog.keyLits (d + 1) 3 [.int .i64 x] = some [.int .i64 x] := by
  unfold Program.keyLits; rw [Tryz.underlying3]; simp [hx]
theorem lits_pair (d : Nat) (x y : Int) (hx : (Lit.int .i64 x).wf = true) (hy : (Lit.int .i64 y).wf = true) : Tryz.prog.keyLits (d + 2) 203 [.int .i64 x, .int .i64 y] = some [.int .i64 x, .int .i64 y] := by
  unfold Program.keyLits; rw [Tryz.underlying203]; simp [cells_pair, cells_intR, lits_intR _ _ hx, lits_intR _ _ hy, List.range, List.range.loop]
/-- A pair of numbers as a key. -/
def ekP (p : Int × Int) : Value := .agg #[.int .i64 p.1, .int .i64 p.2]
theorem ekP_inj (a b : Int × Int) (h : ekP a = ekP b) : a = b := by
  cases a; cases b; simp [ekP] at h; simp [h]
def domP (p : Int × Int) : Prop := (Lit.int .i64 p.1).wf = true ∧ (Lit.int .i64 p.2).wf = true
theorem key_pair (p : Int × Int) (h : domP p) : ∃ l, keyOf Tryz.prog 203 (ekP p) = some l := by
  refine ⟨.string (keyBytes [.int .i64 p.1, .int .i64 p.2]), ?_⟩
  unfold keyOf ekP
  rw [Tryz.underlying203, kt_pair, tySizeR]
  have e := lits_pair 331 p.1 p.2 h.1 h.2
  simp [Value.formed, Tryz.underlying203, cells_pair, Value.cells, e]
theorem zeroIntR (w : World) : (zeroValue 3).run Tryz.prog w = .ok (.int .i64 0) w := by kernel_rfl
theorem zeroBoolR (w : World) : (zeroValue 4).run Tryz.prog w = .ok (.bool false) w := by kernel_rfl
abbrev intR : ElemR (plainElem Tryz.prog 3) (Value.int .i64) (fun z => .lit (.int .i64 z)) (fun z => (Lit.int .i64 z).wf = true) := elemInt Tryz.underlying3
abbrev boolR : ElemR (plainElem Tryz.prog 4) Value.bool (fun z => .lit (.bool z)) (fun _ => True) := elemBool Tryz.underlying4
/-- A map from strings to numbers; from pairs to bools. -/
abbrev MpRI (w : World) (b n : Nat) (f : ByteArray → Option Int) : Prop := MgI Tryz.prog 9 Value.string domS (plainElem Tryz.prog 3) (fun z : Int => (.lit (.int .i64 z) : DataW Unit)) w b n f
abbrev MpPB (w : World) (b n : Nat) (f : Int × Int → Option Bool) : Prop := MgI Tryz.prog 203 ekP domP (plainElem Tryz.prog 4) (fun z : Bool => (.lit (.bool z) : DataW Unit)) w b n f

/-- The numbers of the first ones by their keys, as a map has them. -/
def mapN (ns : List Node) : Nat → ByteArray → Option Int
  | 0, _ => none
  | j + 1, s => if s = (ns.getD j default).key then some (j : Int) else mapN ns j s
def mapA (rs : List Arc) : Nat → ByteArray → Option Int
  | 0, _ => none
  | j + 1, s => if s = (rs.getD j default).key then some (j : Int) else mapA rs j s
theorem mapN_at {ns : List Node} (h : SortN ns) {i : Nat} (hi : i < ns.length) : ∀ j, i < j → j ≤ ns.length → mapN ns j (ns.getD i default).key = some (i : Int)
  | 0, h1, _ => absurd h1 (by omega)
  | j + 1, h1, h2 => by
    unfold mapN
    by_cases e : i = j
    · subst e; rw [if_pos rfl]
    · rw [if_neg, mapN_at h hi j (by omega) (by omega)]
      intro e1
      have := node_at h hi
      rw [e1, node_at h (show j < ns.length by omega)] at this
      omega
theorem mapA_at {rs : List Arc} (h : SortA rs) {i : Nat} (hi : i < rs.length) : ∀ j, i < j → j ≤ rs.length → mapA rs j (rs.getD i default).key = some (i : Int)
  | 0, h1, _ => absurd h1 (by omega)
  | j + 1, h1, h2 => by
    unfold mapA
    by_cases e : i = j
    · subst e; rw [if_pos rfl]
    · rw [if_neg, mapA_at h hi j (by omega) (by omega)]
      intro e1
      have := arc_at h hi
      rw [e1, arc_at h (show j < rs.length by omega)] at this
      omega
theorem mapN_get {ns : List Node} (h : SortN ns) {s : ByteArray} (hs : 0 ≤ nodeI ns s) : mapN ns ns.length s = some (nodeI ns s) := by
  obtain ⟨i, hi, e, k⟩ := node_found hs
  rw [e, ← k]
  exact mapN_at h hi _ hi (Nat.le_refl _)
theorem arc_foundK {rs : List Arc} {s : ByteArray} (h : 0 ≤ arcI rs s) : ∃ i : Nat, i < rs.length ∧ arcI rs s = (i : Int) ∧ (rs.getD i default).key = s := by
  rcases findI_bd (fun n : Arc => decide (n.key = s)) rs with h1 | ⟨i, hi, e⟩
  · exact absurd h (by unfold arcI; omega)
  · exact ⟨i, hi, e, by simpa using (findI_sat _ rs e).2⟩
theorem mapA_get {rs : List Arc} (h : SortA rs) {s : ByteArray} (hs : 0 ≤ arcI rs s) : mapA rs rs.length s = some (arcI rs s) := by
  obtain ⟨i, hi, e, k⟩ := arc_foundK hs
  rw [e, ← k]
  exact mapA_at h hi _ hi (Nat.le_refl _)
/-- The bans by numbers of arcs, as a map has them. -/
def mapB (rs : List Arc) (bs : List Ban) : Nat → Int × Int → Option Bool
  | 0, _ => none
  | j + 1, p => if p = (arcI rs (bs.getD j default).from_, arcI rs (bs.getD j default).to_) then some true else mapB rs bs j p
theorem mapB_any (rs : List Arc) (bs : List Ban) (p : Int × Int) : ∀ j, j ≤ bs.length → (mapB rs bs j p).getD false = (bs.take j).any (fun b => decide (p = (arcI rs b.from_, arcI rs b.to_)))
  | 0, _ => rfl
  | j + 1, hj => by
    have ht : bs.take (j + 1) = bs.take j ++ [bs.getD j default] := by
      rw [List.take_succ_eq_append_getElem (by omega), List.getD_eq_getElem?_getD, List.getElem?_eq_getElem (by omega)]; rfl
    rw [ht, List.any_append, ← mapB_any rs bs p j (by omega), show mapB rs bs (j + 1) p = if p = (arcI rs (bs.getD j default).from_, arcI rs (bs.getD j default).to_) then some true else mapB rs bs j p from rfl]
    by_cases e : p = (arcI rs (bs.getD j default).from_, arcI rs (bs.getD j default).to_)
    · rw [if_pos e]; simp [e]
    · rw [if_neg e]; simp only [List.any_cons, List.any_nil, decide_eq_false e, Bool.or_false]
theorem arc_key_iff {rs : List Arc} (h : SortA rs) {k : Nat} (hk : k < rs.length) (s : ByteArray) : (k : Int) = arcI rs s ↔ s = (arcX rs k).key := by
  constructor
  · intro e
    obtain ⟨i, hi, e1, e2⟩ := arc_foundK (rs := rs) (s := s) (by omega)
    obtain rfl : i = k := by omega
    exact e2.symm
  · intro e
    rw [e]
    exact (arc_at h hk).symm
theorem mapB_ban {rs : List Arc} {bs : List Ban} (h : SortA rs) {k j : Nat} (hk : k < rs.length) (hj : j < rs.length) : (mapB rs bs bs.length ((k : Int), (j : Int))).getD false = bannedB bs (arcX rs k).key (arcX rs j).key := by
  rw [mapB_any rs bs _ _ (Nat.le_refl _), List.take_of_length_le (Nat.le_refl _)]
  unfold bannedB
  congr 1
  funext b
  rw [Bool.eq_iff_iff]
  simp only [decide_eq_true_eq, Bool.and_eq_true, Prod.mk.injEq]
  rw [arc_key_iff h hk, arc_key_iff h hj]

/-- Where a map's parts lie. -/
structure MapA where
  b1 : Nat
  n1 : Nat
  b4 : Nat
  n4 : Nat
  T : Option Addr
  cT : Nat
  bo : Nat
def intsOf (l : List Nat) : List Int := l.map fun (k : Nat) => (k : Int)
/-- Block bm is the map of the roads in block g0. -/
structure MapR (w : World) (bm g0 lo : Nat) (A B C : Option Addr) (ca cb cc : Nat) (M : MapA) (ns : List Node) (rs : List Arc) (bs : List Ban) : Prop where
  c0 : w.cell? ⟨bm, 0, none⟩ = some (.pointer (some ⟨g0, 0, none⟩))
  c1 : w.cell? ⟨bm, 1, none⟩ = some (.map (some M.b1))
  c2 : w.cell? ⟨bm, 2, none⟩ = some (.slice M.T rs.length M.cT)
  c3 : w.cell? ⟨bm, 3, none⟩ = some (.slice (some ⟨M.bo, 0, none⟩) ns.length ns.length)
  c4 : w.cell? ⟨bm, 4, none⟩ = some (.map (some M.b4))
  lt : bm < w.heap.size
  hT : Rd w 0 M.T 1 encI ((List.range rs.length).map fun k => (nodeN ns (arcX rs k).to_ : Int))
  hO : ∀ i, i < ns.length → ∃ A c, w.cell? ⟨M.bo, i, none⟩ = some (.slice A ((gphOf ns rs bs).outs i).length c) ∧ Rd w 0 A 1 encI (intsOf ((gphOf ns rs bs).outs i))
  bol : M.bo < w.heap.size
  m1 : MpRI w M.b1 M.n1 (mapN ns ns.length)
  m4 : MpPB w M.b4 M.n4 (mapB rs bs bs.length)
  box : BoxR w g0 lo A B C ca cb cc ns rs bs
theorem MapR.nx {w w' : World} {bm g0 lo : Nat} {A B C : Option Addr} {ca cb cc : Nat} {M : MapA} {ns : List Node} {rs : List Arc} {bs : List Ban} (h : MapR w bm g0 lo A B C ca cb cc M ns rs bs) (hn : Nx w w') : MapR w' bm g0 lo A B C ca cb cc M ns rs bs :=
  ⟨nx_cell hn h.lt h.c0, nx_cell hn h.lt h.c1, nx_cell hn h.lt h.c2, nx_cell hn h.lt h.c3, nx_cell hn h.lt h.c4, Nat.lt_of_lt_of_le h.lt hn.sz, h.hT.nx hn,
    fun i hi => by obtain ⟨A, c, h1, h2⟩ := h.hO i hi; exact ⟨A, c, nx_cell hn h.bol h1, h2.nx hn⟩, Nat.lt_of_lt_of_le h.bol hn.sz, h.m1.nx hn, h.m4.nx hn, h.box.nx hn⟩
end Go.Proofs.YtklgknepamebdaaGreatDoor
/- slices.Repeat of one number. -/
namespace Go.Proofs.YtklgknepamebdaaGreatDoor
open Go.RowKit Go.Proofs Go.Shelf

theorem run_make_intsC (n : Nat) (hn : n ≤ 100000) (w : World) : (Instr.makeSlice 22 (.int .i64 (n : Int)) (.int .i64 (n : Int))).run Tryz.prog w = .ok (.slice (some ⟨w.heap.size, 0, none⟩) n n) (w.alloc (.cells (madeCells #[.int .i64 0] n) 3)) := by
  obtain ⟨i, h1, h2, h3, h4⟩ := info_parts (show (Tryz.prog.info? 3).map (fun i => (i.zero, i.size, i.bytes)) = some (some (.int .i64 0), 1, 8) by kernel_rfl)
  have h := run_make (P := Tryz.prog) w 22 3 i (.int .i64 0) Tryz.underlying22 h1 h2 .i64 .i64 (n : Int) (n : Int) (by omega) (by omega) (by rw [h4]; omega) (by omega)
  rw [h]
  simp [h3, Value.cells]
theorem made_intsC (n : Nat) : (madeCells #[.int .i64 0] n).toList = (List.replicate n (0 : Int)).flatMap encI := by
  rw [toList_madeCells_one]
  induction n with
  | zero => rfl
  | succ n ih => rw [List.replicate_succ, List.replicate_succ, List.flatMap_cons, ih]; rfl
theorem own_madeC (w : World) (n base : Nat) (hn : n ≤ 100000) (hb : base ≤ w.heap.size) {Z : Array Value} (hZ : Z.toList = (List.replicate n (0 : Int)).flatMap encI) : (w.alloc (.cells Z 3)).ownsRow base 3 1 (.slice (some ⟨w.heap.size, 0, none⟩) n n) n ((List.replicate n (0 : Int)).flatMap encI) := by
  have := own_lit (w := w.alloc (.cells Z 3)) (e := 3) (g := w.heap.size) (n := n) (m := n) (base := base) (xs := List.replicate n (0 : Int)) encI_len (hnew rfl) hb hZ (by simp) (Nat.le_refl _) (by unfold maxLen; omega)
  rwa [List.take_of_length_le (by simp)] at this
theorem w_Mul64C (x y z : Nat) (w : World) (hx : x ≤ 4294967296) (hy : y ≤ 2147483648) (hz : x * y = z) :
    Calls Tryz.prog 160 #[.int .u64 (x : Int), .int .u64 (y : Int)] w fun e w' => e = .returned (.tuple #[.int .u64 0, .int .u64 (z : Int)]) ∧ w = w' := by
  subst hz
  have hb : x * y ≤ 4294967296 * 2147483648 := Nat.mul_le_mul hx hy
  have hcon := Any.bits_Mul64 Tryz.mul64 x y (by omega) (by omega) w
  change Calls Tryz.prog 160 _ _ _ at hcon
  refine hcon.mono ?_
  rintro e w' ⟨rfl, rfl⟩
  have e1 : x * y / 18446744073709551616 = 0 := Nat.div_eq_of_lt (by omega)
  have e2 : x * y % 18446744073709551616 = x * y := Nat.mod_eq_of_lt (by omega)
  rw [e1, e2]
  exact ⟨rfl, rfl⟩
theorem w_MulUC (x y z : Nat) (w : World) (hx : x ≤ 4294967296) (hy : y ≤ 2147483648) (hz : x * y = z) :
    Calls Tryz.prog 187 #[.int .u64 (x : Int), .int .u64 (y : Int)] w fun e w' => e = .returned (.tuple #[.int .u64 0, .int .u64 (z : Int)]) ∧ w = w' := by
  go_enter Tryz.func187, Tryz.ntmps187
  go_wp2_with (go_at_call 160; refine (w_Mul64C x y z _ hx hy hz).mono ?_; rintro e w' ⟨rfl, rfl⟩)
  go_ret2
  exact ⟨rfl, rfl⟩

def rowC (c : Int) (n m : Nat) : List Int := List.replicate m c ++ List.replicate (n - m) 0
theorem rowC_len (c : Int) (n m : Nat) (_h : m ≤ n) : (rowC c n m).length = n := by unfold rowC; simp; omega
theorem mapIC (l : List Int) : l.flatMap encI = l.map (Value.int .i64) := by
  induction l with
  | nil => rfl
  | cons x l ih => rw [List.flatMap_cons, ih]; rfl
theorem rowC_more (c : Int) (n m q : Nat) (_h : m + q ≤ n) : (rowC c n m).take m ++ List.replicate q c ++ (rowC c n m).drop (m + q) = rowC c n (m + q) := by
  have e1 : (rowC c n m).take m = List.replicate m c := by
    unfold rowC
    rw [List.take_append_of_le_length (by simp)]; simp
  have e2 : (rowC c n m).drop (m + q) = List.replicate (n - (m + q)) 0 := by
    unfold rowC
    rw [List.drop_append]
    simp
    omega
  rw [e1, e2, List.replicate_append_replicate]
  rfl

set_option maxRecDepth 100000 in
set_option maxHeartbeats 2000000 in
theorem w_RepeatC1 (c : Int) (n gl : Nat) (w : World) (hn : 1 ≤ n) (hn2 : n ≤ 1000) (hg : w.heap[gl]? = some (.cells #[.int .i64 c] 3 (0, 0))) :
    Calls Tryz.prog 142 #[.slice (some ⟨gl, 0, none⟩) 1 1, .int .i64 (n : Int)] w fun e w' => ∃ g, e = .returned (.slice (some ⟨g, 0, none⟩) n n) ∧ g = w.heap.size ∧ w'.heap[g]? = some (.cells ((List.replicate n c).map (Value.int .i64)).toArray 3 (0, 0)) ∧ Nx w w' := by
  have hgl : gl < w.heap.size := (Array.getElem?_eq_some_iff.1 hg).1
  have hmk := fun w => run_make_intsC n (by omega) w
  obtain ⟨Z, hZ⟩ : ∃ Z : Array Value, madeCells #[.int .i64 0] n = Z := ⟨_, rfl⟩
  have hZl := made_intsC n
  rw [hZ] at hmk hZl
  have hs1 : (Tryz.prog.info? 3).map (·.size) = some 1 := by kernel_rfl
  have t1 : decide ((n : Int) < 0) = false := decide_eq_false (by omega)
  have t2 : IntKind.u64.wrap (n : Int) = (n : Int) := by rw [IntKind.wrap_u64]; omega
  have t3 : IntKind.i64.wrap (n : Int) = (n : Int) := IntWalk.i64_in _ (by omega)
  have t4 : decide ((n : Int) > 9223372036854775807) = false := decide_eq_false (by omega)
  have t5 : ¬ (9223372036854775807 : Int) < (n : Int) := by omega
  have hl0 : Z.toList = (rowC c n 0).map (Value.int .i64) := by rw [hZl, mapIC]; simp [rowC]
  have hcp : ∀ ty, (Builtin.copy_ #[22, 22] ty #[.slice (some ⟨w.heap.size, 0, none⟩) n n, .slice (some ⟨gl, 0, none⟩) 1 1]).run Tryz.prog (w.alloc (.cells Z 3)) = .ok (goInt 1) ((w.alloc (.cells Z 3)).setRow w.heap.size ((rowC c n 1).map (Value.int .i64)).toArray) := by
    intro ty
    have h := run_copy_row (P := Tryz.prog) (w.alloc (.cells Z 3)) 22 22 ty 3 w.heap.size 0 n n ⟨gl, 0, none⟩ 1 1 Z 3 [.int .i64 c] Tryz.underlying22 hs1 (hnew rfl) (by show 1 = min 1 n; omega) (fun j v hj => by
      rcases j with _ | j
      · simp at hj; subst hj
        exact cell_of_row _ gl 0 _ _ _ ((((Nx.refl w).alloc _).block gl hgl).trans hg)
      · simp at hj) (by rw [← Array.length_toList, hl0]; simp [rowC_len c n 0 (by omega)]; omega) (by intro v hv; simp at hv; subst hv; rfl)
    rw [h]
    congr 2
    have := rowC_more c n 0 1 (by omega)
    rw [Nat.zero_add] at this
    rw [hl0, ← this]
    simp
  go_enter Tryz.func142, Tryz.ntmps142
  go_wp2_with (go_at_call 187; refine (w_MulUC 1 n n _ (by omega) (by omega) (by omega)).mono ?_; rintro e w' ⟨rfl, rfl⟩)
  have hrow1 : ((w.alloc (.cells Z 3)).setRow w.heap.size ((rowC c n 1).map (Value.int .i64)).toArray).heap[w.heap.size]? = some (.cells ((rowC c n 1).map (Value.int .i64)).toArray 3 (0, 0)) := setRow_heap _ _ _ _ _ _ (hnew rfl)
  have hnx1 : Nx w ((w.alloc (.cells Z 3)).setRow w.heap.size ((rowC c n 1).map (Value.int .i64)).toArray) := by
    have h0 := (Nx.refl w).alloc (.cells Z 3)
    refine ⟨h0.os, h0.tape, h0.output, by simp [World.setRow], fun i hi => ?_⟩
    rw [← h0.block i hi]
    simp only [World.setRow]
    rw [Array.getElem?_modify, if_neg (by omega)]
  have HST := hide (And.intro hrow1 hnx1)
  clear hrow1 hnx1 hcp hmk hZ hZl hl0
  go_loopw [8] (fun u wr => ∃ m : Nat, 1 ≤ m ∧ m ≤ n ∧ u = .int .i64 m ∧ wr.heap[w.heap.size]? = some (.cells ((rowC c n m).map (Value.int .i64)).toArray 3 (0, 0)) ∧ Nx w wr) (fun u _ => n - (intOf u).toNat)
  case atStart => exact ⟨1, by omega, hn, rfl, HST.out.1, HST.out.2⟩
  case round =>
    clear HST
    obtain ⟨m, hm1, hmn, rfl, hrow, hnx⟩ := hrel
    by_cases hlt : m < n
    · have q1 : (m : Int) ≤ (n : Int) := by omega
      have q2 : (0 : Int) ≤ (m : Int) := by omega
      obtain ⟨q, hq⟩ : ∃ q, q = min m (n - m) := ⟨_, rfl⟩
      have hq1 : 1 ≤ q ∧ m + q ≤ n := by omega
      have q3 : IntKind.i64.wrap ((m : Int) + (q : Int)) = (m : Int) + (q : Int) := IntWalk.i64_in _ (by omega)
      obtain ⟨C, hC⟩ : ∃ C : List Value, (rowC c n m).map (Value.int .i64) = C := ⟨_, rfl⟩
      obtain ⟨cs, hcs⟩ : ∃ cs : List Value, List.replicate q (Value.int .i64 c) = cs := ⟨_, rfl⟩
      have hcl : cs.length = q := by rw [← hcs, List.length_replicate]
      have hCl : C.length = n := by rw [← hC, List.length_map, rowC_len c n m hmn]
      have HSRC := hide (show ∀ j v, cs[j]? = some v → wr.cell? ((⟨w.heap.size, 0, none⟩ : Addr).add j) = some v from by
        intro j v hj
        have hjq : j < q := by have := (List.getElem?_eq_some_iff.1 hj).1; omega
        have e1 : (⟨w.heap.size, 0, none⟩ : Addr).add j = ⟨w.heap.size, j, none⟩ := by unfold Addr.add; split <;> simp_all
        rw [e1, cell_of_row _ _ j _ _ _ hrow, ← Array.getElem?_toList]
        rw [← hcs, List.getElem?_replicate, if_pos hjq] at hj
        rw [← hj]
        unfold rowC
        rw [List.map_append, List.getElem?_append_left (by simp; omega), List.getElem?_map, List.getElem?_replicate, if_pos (by omega)]; rfl)
      have H1 := hide (show ∀ v ∈ cs, v.oneCell' = true from by
        intro v hv; rw [← hcs] at hv; obtain ⟨_, rfl⟩ := List.mem_replicate.1 hv; rfl)
      have HSP := hide (show splice C m cs = (rowC c n (m + q)).map (Value.int .i64) from by
        unfold splice
        rw [← rowC_more c n m q hq1.2, hcl, ← hC, ← hcs]
        simp)
      rw [hC] at hrow
      have HROW := hide hrow
      have HN := hide hnx
      have HCL := hide (And.intro hcl (And.intro hCl hq))
      clear hC hcs hcl hCl hq hrow hnx
      go_wp2_with fail
      go_region_law (refine step_copy_splice rfl (.tmp 41) (.tmp 44) 22 22 rfl 3 Tryz.underlying22 hs1 (some ⟨w.heap.size, m, none⟩) (some ⟨w.heap.size, 0, none⟩) (n - m) (n - m) m n (by simp [Act.eval, Act.put]; omega) (by simp [Act.eval, Act.put]) w.heap.size m C 3 HROW.out cs (by rw [HCL.out.1, HCL.out.2.2]) (fun _ => ⟨rfl, _, rfl, HSRC.out⟩) (by rw [HCL.out.1, HCL.out.2.1]; exact hq1.2) H1.out w.heap.size w (HN.out.drew) (Nat.le_refl _) ?_; intro w4 hg4 hb4; rw [HCL.out.1])
      have hl4 := hg4.out
      rw [HSP.out] at hl4
      have HL4 := hide hl4
      clear hg4 hl4
      go_wp2_with fail
      go_roundw
      case rel => exact ⟨m + q, by omega, hq1.2, by go_num, HL4.out, hb4⟩
      case measure => simp [intOf]; omega
    · have em : m = n := by omega
      subst em
      go_wp2_with fail
      go_ret
      refine ⟨w.heap.size, rfl, rfl, ?_, hnx⟩
      rw [hrow]
      simp [rowC]
set_option maxRecDepth 100000 in
set_option maxHeartbeats 2000000 in
theorem w_RepeatC0 (c : Int) (gl : Nat) (w : World) (_hg : w.heap[gl]? = some (.cells #[.int .i64 c] 3 (0, 0))) :
    Calls Tryz.prog 142 #[.slice (some ⟨gl, 0, none⟩) 1 1, .int .i64 0] w fun e w' => ∃ g, e = .returned (.slice (some ⟨g, 0, none⟩) 0 0) ∧ g = w.heap.size ∧ w'.heap[g]? = some (.cells #[] 3 (0, 0)) ∧ Nx w w' := by
  have hmk := fun w => (show (Instr.makeSlice 22 (.int .i64 0) (.int .i64 0)).run Tryz.prog w = .ok (.slice (some ⟨w.heap.size, 0, none⟩) 0 0) (w.alloc (.cells (madeCells #[.int .i64 0] 0) 3)) from run_make_intsC 0 (by omega) w)
  rw [show madeCells #[.int .i64 0] 0 = #[] from Array.ext' (by rw [toList_madeCells_one]; rfl)] at hmk
  go_enter Tryz.func142, Tryz.ntmps142
  have hs1 : (Tryz.prog.info? 3).map (·.size) = some 1 := by kernel_rfl
  have hcp : ∀ ty, (Builtin.copy_ #[22, 22] ty #[.slice (some ⟨w.heap.size, 0, none⟩) 0 0, .slice (some ⟨gl, 0, none⟩) 1 1]).run Tryz.prog (w.alloc (.cells #[] 3)) = .ok (goInt 0) ((w.alloc (.cells #[] 3)).setRow w.heap.size #[]) := by
    intro ty
    have h := run_copy_row (P := Tryz.prog) (w.alloc (.cells #[] 3)) 22 22 ty 3 w.heap.size 0 0 0 ⟨gl, 0, none⟩ 1 1 #[] 3 [] Tryz.underlying22 hs1 (hnew rfl) (by simp) (fun j v hj => by simp at hj) (by simp) (by intro v hv; simp at hv)
    rw [h]
    rfl
  go_wp2_with (go_at_call 187; refine (w_MulUC 1 0 0 _ (by omega) (by omega) (by omega)).mono ?_; rintro e w' ⟨rfl, rfl⟩)
  refine wp_loop_rounds 1 ?_
  rw [rounds_succ]
  go_wp2_with fail
  go_ret
  refine ⟨w.heap.size, rfl, rfl, setRow_heap _ _ _ _ _ _ (hnew rfl), ?_⟩
  have h0 := (Nx.refl w).alloc (.cells #[] 3)
  refine ⟨h0.os, h0.tape, h0.output, by simp [World.setRow], fun i hi => ?_⟩
  rw [← h0.block i hi]
  simp only [World.setRow]
  rw [Array.getElem?_modify, if_neg (by omega)]
/-- slices.Repeat of [c]. -/
theorem w_RepeatC (c : Int) (n gl : Nat) (w : World) (hn2 : n ≤ 1000) (hg : w.heap[gl]? = some (.cells #[.int .i64 c] 3 (0, 0))) :
    Calls Tryz.prog 142 #[.slice (some ⟨gl, 0, none⟩) 1 1, .int .i64 (n : Int)] w fun e w' => ∃ g, e = .returned (.slice (some ⟨g, 0, none⟩) n n) ∧ g = w.heap.size ∧ w'.heap[g]? = some (.cells ((List.replicate n c).map (Value.int .i64)).toArray 3 (0, 0)) ∧ Nx w w' := by
  rcases Nat.eq_zero_or_pos n with rfl | h
  · exact w_RepeatC0 c gl w hg
  · exact w_RepeatC1 c n gl w h hn2 hg
end Go.Proofs.YtklgknepamebdaaGreatDoor
