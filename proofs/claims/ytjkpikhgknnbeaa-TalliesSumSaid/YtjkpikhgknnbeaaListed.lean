/- The tallies of a map, sorted. -/
import Derived.Test.YtjkpikhgknnbeaaSort
import Derived.Test.YtjkpikhgknnbeaaShelf
import Derived.Test.YtjkpikhgknnbeaaMap
import Derived.Test.YtjkpikhgknnbeaaMapK
namespace Go.Proofs.Ytjkpikhgknnbeaa
open Go.RowKit Go.Sort Go.Shelf Go.Maps

def dom64 (k : Spot) : Prop := (Lit.int .i64 k.x).wf = true ∧ (Lit.int .i64 k.y).wf = true ∧ (Lit.int .i64 k.h).wf = true
def ekSpot (k : Spot) : Value := .agg #[.int .i64 k.x, .int .i64 k.y, .int .i64 k.h]
theorem ekSpot_inj (a b : Spot) (h : ekSpot a = ekSpot b) : a = b := by
  cases a; cases b; simp [ekSpot] at h; simp [h]
abbrev MpP (w : World) (b n : Nat) (f : Spot → Int) : Prop := MpI Try.prog 92 3 ekSpot dom64 w b n f
abbrev MpS (w : World) (b n : Nat) (f : Spot → Int) : Prop := MpI Try.prog 97 3 ekSpot dom64 w b n f
theorem zeroInt (w : World) : (zeroValue 3).run Try.prog w = .ok (.int .i64 0) w := by kernel_rfl
theorem el_Tally : ElemOf Try.prog 42 47 4 32 := ElemOf.mk' (z := .agg #[.int .i64 0, .int .i64 0, .int .i64 0, .int .i64 0]) Try.underlying42 (by kernel_rfl) rfl
theorem dom_of_key_place {k : Spot} {l : Lit} (h : keyOf Try.prog 92 (ekSpot k) = some l) : dom64 k := by
  obtain ⟨x, y, z, e, hx, hy, hz⟩ := key_place_inv h
  have : k = ⟨x, y, z⟩ := ekSpot_inj _ _ e
  subst this; exact ⟨hx, hy, hz⟩
theorem encTally_len (x : Tally) : (encTally x).length = 4 := rfl
theorem encTally_one (x : Tally) : ∀ v ∈ encTally x, v.oneCell' = true := by
  intro v hv; simp [encTally] at hv; rcases hv with rfl | rfl | rfl | rfl <;> rfl
theorem swoTally : SWO (ltOf tallyC) where
  irrefl x := by have := (@tallyC_zero x x).2 rfl; simp [ltOf]; omega
  trans x y z h1 h2 := by simp [ltOf, tallyC_neg] at *; omega
  ntrans x y z h1 h2 := by simp [ltOf] at *; have a := @tallyC_neg x y; have b := @tallyC_neg y z; have c := @tallyC_neg x z; omega

/-- What has been collected while some entries are still to come. -/
structure Coll (K : TypeId) (D : DataW Unit) (f : Spot → Int) (left : Lit → Bool) (L : List Tally) : Prop where
  val : ∀ t ∈ L, dom64 (keyT t) ∧ f (keyT t) = t.many ∧ 0 < t.many
  gone : ∀ t ∈ L, ∀ l, keyOf Try.prog K (ekSpot (keyT t)) = some l → left l = false
  all_ : ∀ k l, dom64 k → keyOf Try.prog K (ekSpot k) = some l → has D l = true → left l = false → 0 < f k → (⟨k.x, k.y, k.h, f k⟩ : Tally) ∈ L
  nodup : (L.map keyT).Nodup

theorem coll_start_place {D : DataW Unit} {f : Spot → Int} : Coll 92 D f (has D) [] :=
  ⟨by simp, by simp, fun k l _ _ h1 h2 => (by rw [h1] at h2; cases h2), by simp⟩
set_option maxRecDepth 100000 in
theorem coll_step_place {D : DataW Unit} {f : Spot → Int} {left : Lit → Bool} {L : List Tally} (h : Coll 92 D f left L) {k : Spot} {kl : Lit} (hd : dom64 k) (hk : keyOf Try.prog 92 (ekSpot k) = some kl) (hl : left kl = true)
    (L' : List Tally) (hL : L' = if 0 < f k then L ++ [⟨k.x, k.y, k.h, f k⟩] else L) : Coll 92 D f (fun z => left z && !z.sameKey kl) L' := by
  have hself : kl.sameKey kl = true := WideAt.sameKey_self (law_place.key hk)
  refine ⟨?_, ?_, ?_, ?_⟩
  · intro t ht
    rw [hL] at ht
    split at ht
    · rcases List.mem_append.1 ht with ht | ht
      · exact h.val t ht
      · simp at ht; subst ht; exact ⟨hd, rfl, by assumption⟩
    · exact h.val t ht
  · intro t ht l hl2
    rw [hL] at ht
    have old : t ∈ L → (left l && !l.sameKey kl) = false := fun ht => by rw [h.gone t ht l hl2]; rfl
    split at ht
    · rcases List.mem_append.1 ht with ht | ht
      · exact old ht
      · simp at ht; subst ht
        have e : l = kl := by
          have : keyOf Try.prog 92 (ekSpot k) = some l := hl2
          rw [hk] at this; injection this with this; exact this.symm
        subst e; rw [hself]; simp
    · exact old ht
  · intro k' l' hd' hk' hh hlf hpos
    by_cases e : l' = kl
    · subst e
      have ek' : k' = k := ekSpot_inj _ _ (law_place.inj hk' hk)
      subst ek'
      rw [hL, if_pos hpos]; simp
    · have hs : l'.sameKey kl = false := sameKey_ne e
      rw [hs] at hlf
      have := h.all_ k' l' hd' hk' hh (by simpa using hlf) hpos
      rw [hL]; split
      · exact List.mem_append_left _ this
      · exact this
  · rw [hL]; split
    · rw [List.map_append, List.nodup_append]
      refine ⟨h.nodup, by simp, fun a ha b hb e => ?_⟩
      simp at hb; subst hb; subst e
      obtain ⟨t, ht, e2⟩ := List.mem_map.1 ha
      have e3 : keyT t = k := e2
      have := h.gone t ht kl (by rw [e3]; exact hk)
      rw [hl] at this; cases this
    · exact h.nodup
set_option maxRecDepth 100000 in
theorem coll_end_place {D : DataW Unit} {f : Spot → Int} {left : Lit → Bool} {L : List Tally} (h : Coll 92 D f left L) (hM : MpD Try.prog 92 ekSpot dom64 D f) (hl : ∀ kl, left kl = false) (hf : ∀ k, 0 < f k → dom64 k) {ys : List Tally} (hp : ys.Perm L)
    (hs : ∀ i j (hi : i < j) (hj : j < ys.length), ltOf tallyC ys[j] (ys[i]'(by omega)) = false) : Listed f ys := by
  refine ⟨?_, fun t => ?_⟩
  · have hnd : (ys.map keyT).Nodup := (hp.map keyT).nodup_iff.2 h.nodup
    rw [List.pairwise_iff_getElem]
    intro i j hi hj hij
    have h1 := hs i j hij hj
    have h2 : keyT ys[i] ≠ keyT ys[j] := fun e => by
      have := (List.nodup_iff_pairwise_ne.1 hnd)
      rw [List.pairwise_iff_getElem] at this
      exact this i j (by simpa using hi) (by simpa using hj) hij (by simpa using e)
    simp [ltOf] at h1
    have e1 := @tallyC_neg ys[i] ys[j]
    have e2 := @tallyC_neg ys[j] ys[i]
    simp only [keyT, ne_eq, Spot.mk.injEq] at h2
    omega
  · rw [hp.mem_iff]
    constructor
    · intro ht; exact (h.val t ht).2
    · rintro ⟨h1, h2⟩
      have hd := hf (keyT t) (by omega)
      obtain ⟨l, hk⟩ := key_place t.x t.y t.hour hd.1 hd.2.1 hd.2.2
      have hh : has D l = true := by
        cases hc : has D l with
        | true => rfl
        | false =>
          have e1 := hM.at_ (keyT t) l hd hk
          rw [atKey_of_not_has hc] at e1
          injection e1 with e1; injection e1 with _ e1
          omega
      have := h.all_ (keyT t) l hd hk hh (hl l) (by omega)
      have e : (⟨(keyT t).x, (keyT t).y, (keyT t).h, f (keyT t)⟩ : Tally) = t := by rw [h1]; rfl
      rw [e] at this
      exact this

/-- A slice of tallies in new memory. -/
def Talsplace (f : Spot → Int) (w : World) (e : Ending) (w' : World) : Prop :=
  ∃ (A : Option Addr) (c : Nat) (ys : List Tally), e = .returned (.slice A ys.length c) ∧ Listed f ys ∧ Rd w' w.heap.size A 4 encTally ys ∧ Nx w w'

set_option maxRecDepth 100000 in
set_option maxHeartbeats 2000000 in
theorem w_placelisted (b n : Nat) (f : Spot → Int) (w : World) (hm : MpP w b n f) (hn : n ≤ 65536) (hf : ∀ k, 0 < f k → dom64 k) :
    Calls Try.prog 58 #[.map (some b)] w (Talsplace f w) := by
  obtain ⟨D, hown, hM⟩ := hm
  have hbl := hown.lt
  have hsz : Maps.size D ≤ n := by
    obtain ⟨es, clock, _, _, h1, rfl⟩ := hown
    rw [size_eq, length_sorted]; simpa using h1
  have HM := hide hM
  have HF := hide hf
  clear hM hf
  go_enter Try.func58, Try.ntmps58
  go_wp2_with (first
    | (at_range; refine wpList_range_own _ rfl _ _ rfl 92 3 law_place Try.underlying90 _ b n _ rfl hown ?_; intro w0 hrg0 hg0 hs0))
  go_frame
  go_loopw [3, 4, 5] (fun v _ _ wr => ∃ (left : Lit → Bool) (cnt : Nat) (L : List Tally), wr.ranges Try.prog 92 (plainElem Try.prog 3) b w.heap.size n D left cnt ∧ L.length + cnt ≤ n ∧ wr.ownsRow (w.heap.size + 1) 47 4 v L.length (L.flatMap encTally) ∧ Coll 92 D f left L ∧ Nx w wr)
    (fun _ _ _ wr => wr.rangeLeft b w.heap.size)
  case atStart =>
    exact ⟨_, _, [], hrg0, by simpa using hsz, World.ownsRow_nil _ _ _ _, coll_start_place, (Nx.refl _).grown hg0 (fun j hj => by cases hj)⟩
  case round =>
    obtain ⟨left, cnt, L, hrg, hcs, hown1, hC, hnx⟩ := hrel
    go_wp2_with (first
      | (at_next; refine wpList_next_ranges _ rfl _ rfl 92 law_place (plainElem Try.prog 3) ekSpot (Value.int .i64) (fun key kl hkey => (by obtain ⟨x, y, z, rfl, _⟩ := key_place_inv hkey; exact ⟨⟨x, y, z⟩, rfl⟩)) (fun v y hv => (by obtain ⟨c, rfl, _⟩ := plainElem_int_inv Try.underlying3 hv; exact ⟨c, rfl⟩)) b w.heap.size n _ _ _ rfl hrg ?_ ?_))
    · intro hc0 hl0
      have HC := hide hC
      clear hC
      rcases hown1.2 with ⟨rfl, h0⟩ | ⟨g, cap, cur, rfl, hg, _⟩
      · have hL : L = [] := List.eq_nil_of_length_eq_zero h0
        subst hL
        have hcon := fun W => AnyF.slices_SortFunc_none (P := Try.prog) { Try.sortTally with } none 0 (.func (.func 75) #[] #[]) W
        change ∀ W, Calls Try.prog 87 _ _ _ at hcon
        go_wp2_with (go_at_call 87; refine (hcon _).mono ?_; rintro e w' ⟨rfl, rfl⟩)
        go_ret
        exact ⟨none, 0, [], rfl, coll_end_place HC.out HM.out hl0 HF.out (List.Perm.refl _) (by simp), Rd.nil, hnx⟩
      · have hcon := sortFunc Try.sortTally 4 (by omega) Try.isAgg47 Try.sizeOf47 encTally encTally_len encTally_one tallyC swoTally 75 (enters_of Try.func75 (by kernel_rfl) rfl) (fun x y W => w_byTally x y W) (base := w.heap.size + 1) (b := g) (cap := cap) (xs := L) rfl (by omega) hown1
        change Calls Try.prog 87 _ _ _ at hcon
        go_wp2_with (go_at_call 87; refine hcon.mono ?_; rintro e w' ⟨rfl, ys, hp, hs, ho, hgr⟩)
        go_ret
        have hyl : ys.length = L.length := hp.length_eq
        obtain ⟨A, c, ev, hR, _⟩ := Rd.of_own encTally_len hyl.symm ho
        exact ⟨A, c, ys, congrArg Ending.returned ev, coll_end_place HC.out HM.out hl0 HF.out hp hs, hR.low (by omega), hnx.grown hgr (fun j hj => by injection hj with hj; omega)⟩
    · intro k c kl y ps w1 cnt1 hkey hlk hRv hat hrg1 hlt hg1 hs1 hen
      have hd := dom_of_key_place hkey
      have hfk : f k = c := by
        obtain ⟨c', e1, e2, _⟩ := plainElem_int_inv Try.underlying3 hRv
        injection e1 with _ e1; subst e1
        have e3 := HM.out.at_ k kl hd hkey
        rw [hat] at e3
        injection e2 with e2 _
        rw [e2] at e3
        injection e3 with e3; injection e3 with _ e3
        exact e3.symm
      have HFK := hide hfk
      clear hfk hRv hat
      have hown2 := own_gr hown1 hg1 (by omega)
      have hnx1 : Nx w w1 := hnx.grown hg1 (fun j hj => by injection hj with hj; omega)
      have hsz1 : w.heap.size < w1.heap.size := by
        obtain ⟨_, _, _, _, _, _, _, _, _, h, _⟩ := hrg1
        exact (Array.getElem?_eq_some_iff.1 h).1
      clear hs1
      simp only [ekSpot] at hen ⊢
      by_cases hpos : 0 < c
      · go_wp2_with (first | (at_builtin; refine wpApp rfl _ _ _ rfl el_Tally encTally encTally_len encTally_one (by omega) (by omega) (w.heap.size + 1) _ L rfl ((hown2.alloc _).alloc _) _ ⟨k.x, k.y, k.h, c⟩ _ rfl (hnew (by simp)) rfl (by omega) (by simp; omega) ?_; intro v2 w2 hown3 hg2))
        have hrg2 := ((hrg1.alloc _).alloc _).kept hg2 (fun e => by have := own_blk_lt hown2 b e.symm; omega) (fun e => by have := own_blk_lt hown2 _ e.symm; omega)
        go_roundw
        case rel => exact ⟨_, cnt1, _, hrg2, by simp; omega, hown3, coll_step_place hC hd hkey hlk _ (by rw [HFK.out, if_pos hpos]), ((hnx1.alloc _).alloc _).grown hg2 (fun j hj => by have := own_blk_lt hown2 j hj; omega)⟩
        case measure => rw [hrg2.left_eq, hrg.left_eq]; exact hlt
      · go_wp2
        go_roundw
        case rel => exact ⟨_, cnt1, _, hrg1.alloc _, by omega, hown2.alloc _, coll_step_place hC hd hkey hlk _ (by rw [HFK.out, if_neg hpos]), hnx1.alloc _⟩
        case measure => rw [(hrg1.alloc _).left_eq, hrg.left_eq]; exact hlt

theorem dom_of_key_spot {k : Spot} {l : Lit} (h : keyOf Try.prog 97 (ekSpot k) = some l) : dom64 k := by
  obtain ⟨x, y, z, e, hx, hy, hz⟩ := key_spot_inv h
  have : k = ⟨x, y, z⟩ := ekSpot_inj _ _ e
  subst this; exact ⟨hx, hy, hz⟩

theorem coll_start_spot {D : DataW Unit} {f : Spot → Int} : Coll 97 D f (has D) [] :=
  ⟨by simp, by simp, fun k l _ _ h1 h2 => (by rw [h1] at h2; cases h2), by simp⟩
set_option maxRecDepth 100000 in
theorem coll_step_spot {D : DataW Unit} {f : Spot → Int} {left : Lit → Bool} {L : List Tally} (h : Coll 97 D f left L) {k : Spot} {kl : Lit} (hd : dom64 k) (hk : keyOf Try.prog 97 (ekSpot k) = some kl) (hl : left kl = true)
    (L' : List Tally) (hL : L' = if 0 < f k then L ++ [⟨k.x, k.y, k.h, f k⟩] else L) : Coll 97 D f (fun z => left z && !z.sameKey kl) L' := by
  have hself : kl.sameKey kl = true := WideAt.sameKey_self (law_spot.key hk)
  refine ⟨?_, ?_, ?_, ?_⟩
  · intro t ht
    rw [hL] at ht
    split at ht
    · rcases List.mem_append.1 ht with ht | ht
      · exact h.val t ht
      · simp at ht; subst ht; exact ⟨hd, rfl, by assumption⟩
    · exact h.val t ht
  · intro t ht l hl2
    rw [hL] at ht
    have old : t ∈ L → (left l && !l.sameKey kl) = false := fun ht => by rw [h.gone t ht l hl2]; rfl
    split at ht
    · rcases List.mem_append.1 ht with ht | ht
      · exact old ht
      · simp at ht; subst ht
        have e : l = kl := by
          have : keyOf Try.prog 97 (ekSpot k) = some l := hl2
          rw [hk] at this; injection this with this; exact this.symm
        subst e; rw [hself]; simp
    · exact old ht
  · intro k' l' hd' hk' hh hlf hpos
    by_cases e : l' = kl
    · subst e
      have ek' : k' = k := ekSpot_inj _ _ (law_spot.inj hk' hk)
      subst ek'
      rw [hL, if_pos hpos]; simp
    · have hs : l'.sameKey kl = false := sameKey_ne e
      rw [hs] at hlf
      have := h.all_ k' l' hd' hk' hh (by simpa using hlf) hpos
      rw [hL]; split
      · exact List.mem_append_left _ this
      · exact this
  · rw [hL]; split
    · rw [List.map_append, List.nodup_append]
      refine ⟨h.nodup, by simp, fun a ha b hb e => ?_⟩
      simp at hb; subst hb; subst e
      obtain ⟨t, ht, e2⟩ := List.mem_map.1 ha
      have e3 : keyT t = k := e2
      have := h.gone t ht kl (by rw [e3]; exact hk)
      rw [hl] at this; cases this
    · exact h.nodup
set_option maxRecDepth 100000 in
theorem coll_end_spot {D : DataW Unit} {f : Spot → Int} {left : Lit → Bool} {L : List Tally} (h : Coll 97 D f left L) (hM : MpD Try.prog 97 ekSpot dom64 D f) (hl : ∀ kl, left kl = false) (hf : ∀ k, 0 < f k → dom64 k) {ys : List Tally} (hp : ys.Perm L)
    (hs : ∀ i j (hi : i < j) (hj : j < ys.length), ltOf tallyC ys[j] (ys[i]'(by omega)) = false) : Listed f ys := by
  refine ⟨?_, fun t => ?_⟩
  · have hnd : (ys.map keyT).Nodup := (hp.map keyT).nodup_iff.2 h.nodup
    rw [List.pairwise_iff_getElem]
    intro i j hi hj hij
    have h1 := hs i j hij hj
    have h2 : keyT ys[i] ≠ keyT ys[j] := fun e => by
      have := (List.nodup_iff_pairwise_ne.1 hnd)
      rw [List.pairwise_iff_getElem] at this
      exact this i j (by simpa using hi) (by simpa using hj) hij (by simpa using e)
    simp [ltOf] at h1
    have e1 := @tallyC_neg ys[i] ys[j]
    have e2 := @tallyC_neg ys[j] ys[i]
    simp only [keyT, ne_eq, Spot.mk.injEq] at h2
    omega
  · rw [hp.mem_iff]
    constructor
    · intro ht; exact (h.val t ht).2
    · rintro ⟨h1, h2⟩
      have hd := hf (keyT t) (by omega)
      obtain ⟨l, hk⟩ := key_spot t.x t.y t.hour hd.1 hd.2.1 hd.2.2
      have hh : has D l = true := by
        cases hc : has D l with
        | true => rfl
        | false =>
          have e1 := hM.at_ (keyT t) l hd hk
          rw [atKey_of_not_has hc] at e1
          injection e1 with e1; injection e1 with _ e1
          omega
      have := h.all_ (keyT t) l hd hk hh (hl l) (by omega)
      have e : (⟨(keyT t).x, (keyT t).y, (keyT t).h, f (keyT t)⟩ : Tally) = t := by rw [h1]; rfl
      rw [e] at this
      exact this

/-- A slice of tallies in new memory. -/
def Talsspot (f : Spot → Int) (w : World) (e : Ending) (w' : World) : Prop :=
  ∃ (A : Option Addr) (c : Nat) (ys : List Tally), e = .returned (.slice A ys.length c) ∧ Listed f ys ∧ Rd w' w.heap.size A 4 encTally ys ∧ Nx w w'

set_option maxRecDepth 100000 in
set_option maxHeartbeats 2000000 in
theorem w_spotlisted (b n : Nat) (f : Spot → Int) (w : World) (hm : MpS w b n f) (hn : n ≤ 65536) (hf : ∀ k, 0 < f k → dom64 k) (hge : ∀ k, 0 ≤ f k) :
    Calls Try.prog 60 #[.map (some b)] w (Talsspot f w) := by
  obtain ⟨D, hown, hM⟩ := hm
  have hbl := hown.lt
  have hsz : Maps.size D ≤ n := by
    obtain ⟨es, clock, _, _, h1, rfl⟩ := hown
    rw [size_eq, length_sorted]; simpa using h1
  have HM := hide hM
  have HF := hide hf
  have HG := hide hge
  clear hM hf hge
  go_enter Try.func60, Try.ntmps60
  go_wp2_with (first
    | (at_range; refine wpList_range_own _ rfl _ _ rfl 97 3 law_spot Try.underlying95 _ b n _ rfl hown ?_; intro w0 hrg0 hg0 hs0))
  go_frame
  go_loopw [3, 4, 5] (fun v _ _ wr => ∃ (left : Lit → Bool) (cnt : Nat) (L : List Tally), wr.ranges Try.prog 97 (plainElem Try.prog 3) b w.heap.size n D left cnt ∧ L.length + cnt ≤ n ∧ wr.ownsRow (w.heap.size + 1) 47 4 v L.length (L.flatMap encTally) ∧ Coll 97 D f left L ∧ Nx w wr)
    (fun _ _ _ wr => wr.rangeLeft b w.heap.size)
  case atStart =>
    exact ⟨_, _, [], hrg0, by simpa using hsz, World.ownsRow_nil _ _ _ _, coll_start_spot, (Nx.refl _).grown hg0 (fun j hj => by cases hj)⟩
  case round =>
    obtain ⟨left, cnt, L, hrg, hcs, hown1, hC, hnx⟩ := hrel
    go_wp2_with (first
      | (at_next; refine wpList_next_ranges _ rfl _ rfl 97 law_spot (plainElem Try.prog 3) ekSpot (Value.int .i64) (fun key kl hkey => (by obtain ⟨x, y, z, rfl, _⟩ := key_spot_inv hkey; exact ⟨⟨x, y, z⟩, rfl⟩)) (fun v y hv => (by obtain ⟨c, rfl, _⟩ := plainElem_int_inv Try.underlying3 hv; exact ⟨c, rfl⟩)) b w.heap.size n _ _ _ rfl hrg ?_ ?_))
    · intro hc0 hl0
      have HC := hide hC
      clear hC
      rcases hown1.2 with ⟨rfl, h0⟩ | ⟨g, cap, cur, rfl, hg, _⟩
      · have hL : L = [] := List.eq_nil_of_length_eq_zero h0
        subst hL
        have hcon := fun W => AnyF.slices_SortFunc_none (P := Try.prog) { Try.sortTally with } none 0 (.func (.func 88) #[] #[]) W
        change ∀ W, Calls Try.prog 87 _ _ _ at hcon
        go_wp2_with (go_at_call 87; refine (hcon _).mono ?_; rintro e w' ⟨rfl, rfl⟩)
        go_ret
        exact ⟨none, 0, [], rfl, coll_end_spot HC.out HM.out hl0 HF.out (List.Perm.refl _) (by simp), Rd.nil, hnx⟩
      · have hcon := sortFunc Try.sortTally 4 (by omega) Try.isAgg47 Try.sizeOf47 encTally encTally_len encTally_one tallyC swoTally 88 (enters_of Try.func88 (by kernel_rfl) rfl) (fun x y W => w_listed1 x y W) (base := w.heap.size + 1) (b := g) (cap := cap) (xs := L) rfl (by omega) hown1
        change Calls Try.prog 87 _ _ _ at hcon
        go_wp2_with (go_at_call 87; refine hcon.mono ?_; rintro e w' ⟨rfl, ys, hp, hs, ho, hgr⟩)
        go_ret
        have hyl : ys.length = L.length := hp.length_eq
        obtain ⟨A, c, ev, hR, _⟩ := Rd.of_own encTally_len hyl.symm ho
        exact ⟨A, c, ys, congrArg Ending.returned ev, coll_end_spot HC.out HM.out hl0 HF.out hp hs, hR.low (by omega), hnx.grown hgr (fun j hj => by injection hj with hj; omega)⟩
    · intro k c kl y ps w1 cnt1 hkey hlk hRv hat hrg1 hlt hg1 hs1 hen
      have hd := dom_of_key_spot hkey
      have hfk : f k = c := by
        obtain ⟨c', e1, e2, _⟩ := plainElem_int_inv Try.underlying3 hRv
        injection e1 with _ e1; subst e1
        have e3 := HM.out.at_ k kl hd hkey
        rw [hat] at e3
        injection e2 with e2 _
        rw [e2] at e3
        injection e3 with e3; injection e3 with _ e3
        exact e3.symm
      have HFK := hide hfk
      clear hfk hRv hat
      have hown2 := own_gr hown1 hg1 (by omega)
      have hnx1 : Nx w w1 := hnx.grown hg1 (fun j hj => by injection hj with hj; omega)
      have hsz1 : w.heap.size < w1.heap.size := by
        obtain ⟨_, _, _, _, _, _, _, _, _, h, _⟩ := hrg1
        exact (Array.getElem?_eq_some_iff.1 h).1
      clear hs1
      simp only [ekSpot] at hen ⊢
      by_cases hpos : 0 < c
      · have hb : (c != 0) = true := by simp; omega
        go_wp2_with (first | (at_builtin; refine wpApp rfl _ _ _ rfl el_Tally encTally encTally_len encTally_one (by omega) (by omega) (w.heap.size + 1) _ L rfl ((hown2.alloc _).alloc _) _ ⟨k.x, k.y, k.h, c⟩ _ rfl (hnew (by simp)) rfl (by omega) (by simp; omega) ?_; intro v2 w2 hown3 hg2))
        have hrg2 := ((hrg1.alloc _).alloc _).kept hg2 (fun e => by have := own_blk_lt hown2 b e.symm; omega) (fun e => by have := own_blk_lt hown2 _ e.symm; omega)
        go_roundw
        case rel => exact ⟨_, cnt1, _, hrg2, by simp; omega, hown3, coll_step_spot hC hd hkey hlk _ (by rw [HFK.out, if_pos hpos]), ((hnx1.alloc _).alloc _).grown hg2 (fun j hj => by have := own_blk_lt hown2 j hj; omega)⟩
        case measure => rw [hrg2.left_eq, hrg.left_eq]; exact hlt
      · have hb : (c != 0) = false := by simp; have := HG.out k; have := HFK.out; omega
        go_wp2
        go_roundw
        case rel => exact ⟨_, cnt1, _, hrg1.alloc _, by omega, hown2.alloc _, coll_step_spot hC hd hkey hlk _ (by rw [HFK.out, if_neg hpos]), hnx1.alloc _⟩
        case measure => rw [(hrg1.alloc _).left_eq, hrg.left_eq]; exact hlt
end Go.Proofs.Ytjkpikhgknnbeaa
