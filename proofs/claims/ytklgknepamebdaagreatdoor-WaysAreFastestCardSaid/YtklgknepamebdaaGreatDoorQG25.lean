/- Plain: the search comes to an end; what it found. -/
import Derived.Test.YtklgknepamebdaaGreatDoorQG24
import Derived.Test.YtklgknepamebdaaGreatDoorQRoadT
import Derived.Test.YtklgknepamebdaaGreatDoorQG4
import Derived.Deep.RegionHeld3
import Derived.Deep.DeepCutAuto
namespace Go.Proofs.YtklgknepamebdaaGreatDoor
section
variable {g : Gph} {a : Nat} {at_ : Int}
theorem Inv.mono {s : Sr} {T : Int} {cl0 cl0' : Nat → Prop} {cl cl' : Nat → Nat → Prop} (h : Inv g a at_ s T cl0 cl) (h0 : ∀ i, i < g.m → g.from_ i = a → cl0' i → cl0 i)
    (h1 : ∀ k i, k < g.m → i < g.m → gb s.done k = true → g.from_ i = g.to_ k → g.ban k i = false → cl' k i → cl k i) : Inv g a at_ s T cl0' cl' :=
  ⟨h.lf, h.ll, h.lp, h.lb, h.ld, h.t0, h.heap, h.qr, h.b2, h.b3, h.d1, fun i hi hf hc he => h.c0 i hi hf (h0 i hi hf hc) he, fun k i hk hi hd hf hb hc he => h.c1 k i hk hi hd hf hb (h1 k i hk hi hd hf hb hc) he, h.p1, h.f0, h.f1⟩
theorem init_inv (ha : a < g.nn) : Inv g a at_ (initG g a at_) at_ (fun _ => False) (fun _ _ => True) := by
  have hb : ∀ k, k < g.m → gi (initG g a at_).best k = -1 := fun k hk => gi_rep _ _ hk
  have hd : ∀ k, gb (initG g a at_).done k = false := fun k => gb_rep _ k
  refine ⟨by simp [initG], by simp [initG], by simp [initG], by simp [initG], by simp [initG], Int.le_refl _, heap_nil, fun x hx => absurd hx (by simp [initG]), ?_, ?_, ?_, fun _ _ _ h => absurd h id, ?_, ?_, ?_, ?_⟩
  · intro k hk h; rw [hb k hk] at h; omega
  · intro k hk h; rw [hb k hk] at h; omega
  · intro k hk h; rw [hd] at h; cases h
  · intro k i hk hi h; rw [hd] at h; cases h
  · intro k hk h; rw [hb k hk] at h; omega
  · refine ⟨?_, gi_rep _ _ ha⟩
    show gi ((List.replicate g.nn (-1)).set a at_) a = at_
    rw [gi_set _ _ _ _ (by simpa using ha), if_pos rfl]
  · intro n hn hna
    refine .inl ⟨?_, gi_rep _ _ hn, fun k _ h => by rw [hd] at h; cases h⟩
    show gi ((List.replicate g.nn (-1)).set a at_) n = -1
    rw [gi_set _ _ _ _ (by simpa using ha), if_neg hna]
    exact gi_rep _ _ hn
theorem fold_start (hg : GOk g) (h0 : 0 ≤ at_) : ∀ (l : List Nat) (s : Sr) (cl0 : Nat → Prop), Inv g a at_ s at_ cl0 (fun _ _ => True) → (∀ k, gb s.done k = false) → (∀ k ∈ l, k < g.m ∧ g.from_ k = a) →
    Inv g a at_ (l.foldl (fun s k => enterG g s k (-1) at_) s) at_ (fun j => cl0 j ∨ j ∈ l) (fun _ _ => True) ∧ ∀ k, gb (l.foldl (fun s k => enterG g s k (-1) at_) s).done k = false
  | [], s, cl0, h, hd, _ => ⟨h.mono (fun i _ _ hc => hc.elim id (fun h => absurd h (by simp))) (fun _ _ _ _ _ _ _ _ => trivial), hd⟩
  | k :: l, s, cl0, h, hd, hl => by
    rw [List.foldl_cons]
    have hk := hl k (by simp)
    have h1 := enter_inv hg h0 h hk.1 (hd k) (.inl ⟨rfl, hk.2, rfl⟩) (Int.le_refl _)
    have h2 := fold_start hg h0 l _ (fun j => cl0 j ∨ j = k) (h1.mono (fun i _ _ hc => hc.imp id (fun e => ⟨rfl, e⟩)) (fun _ _ _ _ _ _ _ _ => .inl trivial)) (fun j => by rw [enter_done]; exact hd j) (fun j hj => hl j (by simp [hj]))
    refine ⟨h2.1.mono (fun i _ _ hc => ?_) (fun _ _ _ _ _ _ _ _ => trivial), h2.2⟩
    rcases hc with hc | hc
    · exact .inl (.inl hc)
    · rcases List.mem_cons.1 hc with rfl | hc
      · exact .inl (.inr rfl)
      · exact .inr hc
theorem start_inv (hg : GOk g) (h0 : 0 ≤ at_) (ha : a < g.nn) : Inv g a at_ (startG g a at_) at_ (fun _ => True) (fun _ _ => True) :=
  (fold_start hg h0 (g.outs a) _ _ (init_inv ha) (fun k => gb_rep _ k) (fun k hk => ⟨hg.outs_lt a k hk, (hg.outs_iff a k ha (hg.outs_lt a k hk)).1 hk⟩)).1.mono (fun i hi hf _ => .inr ((hg.outs_iff a i ha hi).2 hf)) (fun _ _ _ _ _ _ _ h => h)
theorem mark_inv (h0 : 0 ≤ at_) (hg : GOk g) {s : Sr} {T : Int} (h : Inv g a at_ s T (fun _ => True) (fun _ _ => True)) (hq : s.q ≠ []) (hd : gb s.done (gx s.q 0).arc = false) :
    gi s.best (gx s.q 0).arc = (gx s.q 0).at_ ∧ Inv g a at_ (markG g s (gx s.q 0)) (gx s.q 0).at_ (fun _ => True) (fun k _ => k ≠ (gx s.q 0).arc) := by
  have hp := hrest_perm s.q hq
  have hx : gx s.q 0 ∈ s.q := hp.mem_iff.2 (by simp)
  have hmin := fun y hy => heap_min h.heap (x := y) hy
  generalize gx s.q 0 = x at *
  obtain ⟨q1, q2, q3, q4, q5⟩ := h.qr x hx
  have hb : gi s.best x.arc = x.at_ := by
    have := hmin _ (h.b3 x.arc q1 q3 hd)
    rw [extLt_f] at this
    have this : ¬ (gi s.best x.arc < x.at_) := fun h2 => this (.inl h2)
    omega
  refine ⟨hb, ?_⟩
  have hxd : x.arc < s.done.length := by rw [h.ld]; exact q1
  have hds : ∀ k, gb (s.done.set x.arc true) k = if k = x.arc then true else gb s.done k := fun k => gb_set _ _ _ _ hxd
  have hdk : ∀ k, gb (s.done.set x.arc true) k = true → k = x.arc ∨ gb s.done k = true := by
    intro k hk
    rw [hds] at hk
    by_cases e : k = x.arc
    · exact .inl e
    · rw [if_neg e] at hk; exact .inr hk
  have hne : ∀ k, gb s.done k = true → k ≠ x.arc := fun k hk e => by rw [e, hd] at hk; cases hk
  have hr : ∀ y, y ∈ hrest s.q → y ∈ s.q := fun y hy => hp.mem_iff.2 (by simp [hy])
  -- what does not hang on first and last
  have core : ∀ fi la : List Int, fi.length = g.nn → la.length = g.nn → (gi fi a = at_ ∧ gi la a = -1) →
      (∀ n, n < g.nn → n ≠ a → (gi fi n = -1 ∧ gi la n = -1 ∧ ∀ k, k < g.m → gb (s.done.set x.arc true) k = true → g.to_ k ≠ n) ∨ ∃ k : Nat, k < g.m ∧ gb (s.done.set x.arc true) k = true ∧ g.to_ k = n ∧ gi la n = (k : Int) ∧ gi fi n = gi s.best k ∧ ∀ k', k' < g.m → gb (s.done.set x.arc true) k' = true → g.to_ k' = n → gi s.best k ≤ gi s.best k') →
      Inv g a at_ ⟨fi, la, s.prev, s.best, s.done.set x.arc true, hrest s.q⟩ x.at_ (fun _ => True) (fun k _ => k ≠ x.arc) := by
    intro fi la e1 e2 e3 e4
    refine ⟨e1, e2, h.lp, h.lb, by simpa using h.ld, by have := h.t0; omega, hrest_heap h.heap hq, ?_, h.b2, ?_, ?_, h.c0, ?_, ?_, e3, e4⟩
    · intro y hy
      obtain ⟨r1, r2, r3, r4, r5⟩ := h.qr y (hr y hy)
      have := hmin y (hr y hy)
      rw [extLt_f] at this
      exact ⟨r1, r2, r3, r4, by have : ¬ (y.at_ < x.at_) := fun h2 => this (.inl h2); omega⟩
    · intro k hk hb2 hdk2
      have hkx : k ≠ x.arc := fun e => by rw [hds, if_pos e] at hdk2; cases hdk2
      rw [hds, if_neg hkx] at hdk2
      have := hp.mem_iff.1 (h.b3 k hk hb2 hdk2)
      rcases List.mem_cons.1 this with e | h3
      · exact absurd (by rw [← e]) hkx
      · exact h3
    · intro k hk hk2
      rcases hdk k hk2 with e | hk3
      · subst e; show 0 ≤ gi s.best x.arc ∧ gi s.best x.arc ≤ x.at_; omega
      · have := h.d1 k hk hk3; exact ⟨this.1, Int.le_trans this.2 q5⟩
    · intro k i hk hi hk2 hf hbn hc he
      rcases hdk k hk2 with e | hk3
      · exact absurd e hc
      · exact h.c1 k i hk hi hk3 hf hbn trivial he
    · intro k hk hb2
      rcases h.p1 k hk hb2 with h1 | ⟨p, h1, h2, h3, h4, h5, h6⟩
      · exact .inl h1
      · exact .inr ⟨p, h1, h2, by rw [hds, if_neg (hne p h3)]; exact h3, h4, h5, h6⟩
  have hto := hg.to_lt x.arc q1
  unfold markG
  by_cases hf : gi s.first (g.to_ x.arc) < 0
  · rw [if_pos hf]
    have hna : g.to_ x.arc ≠ a := fun e => by rw [e, h.f0.1] at hf; omega
    have hfl : g.to_ x.arc < s.first.length := by rw [h.lf]; exact hto
    have hll : g.to_ x.arc < s.last.length := by rw [h.ll]; exact hto
    refine core _ _ (by simpa using h.lf) (by simpa using h.ll) ?_ ?_
    · rw [gi_set _ _ _ _ hfl, gi_set _ _ _ _ hll, if_neg (Ne.symm hna), if_neg (Ne.symm hna)]
      exact h.f0
    · intro n hn hna2
      rw [gi_set _ _ _ _ hfl, gi_set _ _ _ _ hll]
      by_cases e : n = g.to_ x.arc
      · rw [if_pos e, if_pos e]
        refine .inr ⟨x.arc, q1, by rw [hds, if_pos rfl], e.symm, rfl, hb.symm, fun k' hk' hd' ht' => ?_⟩
        rcases hdk k' hd' with e2 | hd2
        · rw [e2]; exact Int.le_refl _
        · exfalso
          rcases h.f1 n hn hna2 with ⟨_, _, h3⟩ | ⟨k, h1, h2, h3, h4, h5, h6⟩
          · exact h3 k' hk' hd2 ht'
          · rw [← e, h5] at hf
            have := h.d1 k h1 h2; omega
      · rw [if_neg e, if_neg e]
        rcases h.f1 n hn hna2 with ⟨h1, h2, h3⟩ | ⟨k, h1, h2, h3, h4, h5, h6⟩
        · refine .inl ⟨h1, h2, fun k hk hk2 => ?_⟩
          rcases hdk k hk2 with e2 | hk3
          · rw [e2]; exact Ne.symm e
          · exact h3 k hk hk3
        · refine .inr ⟨k, h1, by rw [hds, if_neg (hne k h2)]; exact h2, h3, h4, h5, fun k' hk' hd' ht' => ?_⟩
          rcases hdk k' hd' with e2 | hd2
          · rw [e2] at ht'; exact absurd ht'.symm e
          · exact h6 k' hk' hd2 ht'
  · rw [if_neg hf]
    refine core _ _ h.lf h.ll h.f0 ?_
    intro n hn hna2
    rcases h.f1 n hn hna2 with ⟨h1, h2, h3⟩ | ⟨k, h1, h2, h3, h4, h5, h6⟩
    · refine .inl ⟨h1, h2, fun k hk hk2 => ?_⟩
      rcases hdk k hk2 with e2 | hk3
      · rw [e2]; intro e; rw [e, h1] at hf; omega
      · exact h3 k hk hk3
    · refine .inr ⟨k, h1, by rw [hds, if_neg (hne k h2)]; exact h2, h3, h4, h5, fun k' hk' hd' ht' => ?_⟩
      rcases hdk k' hd' with e2 | hd2
      · rw [e2, hb]; have := h.d1 k h1 h2; omega
      · exact h6 k' hk' hd2 ht'
theorem on_done (x : Nat) (t : Int) (s : Sr) (k : Nat) : (onG g x t s k).done = s.done := by unfold onG; split; exact enter_done _ _ _ _ _; rfl
theorem fold_on (hg : GOk g) (h0 : 0 ≤ at_) {x : Nat} (hxm : x < g.m) {T : Int} : ∀ (l : List Nat) (s : Sr) (cl : Nat → Nat → Prop), Inv g a at_ s T (fun _ => True) cl → gi s.best x = T → gb s.done x = true → (∀ k ∈ l, k < g.m ∧ g.from_ k = g.to_ x) →
    Inv g a at_ (l.foldl (onG g x T) s) T (fun _ => True) (fun k j => cl k j ∨ (k = x ∧ j ∈ l))
  | [], s, cl, h, _, _, _ => h.mono (fun _ _ _ h => h) (fun _ _ _ _ _ _ _ hc => hc.elim id (fun h => absurd h.2 (by simp)))
  | k :: l, s, cl, h, hb, hd, hl => by
    rw [List.foldl_cons]
    have hk := hl k (by simp)
    have key : Inv g a at_ (onG g x T s k) T (fun _ => True) (fun k' j => cl k' j ∨ (k' = x ∧ j = k)) ∧ gi (onG g x T s k).best x = T := by
      unfold onG
      by_cases hc : gb s.done k = false ∧ g.ban x k = false
      · rw [if_pos hc]
        have h1 := enter_inv hg h0 h hk.1 hc.1 (.inr ⟨x, hxm, rfl, hd, hk.2, hc.2, hb.symm⟩) (Int.le_refl _)
        refine ⟨h1.mono (fun _ _ _ h => .inl h) (fun k' j _ _ _ _ _ hc2 => hc2.imp id (fun e => ⟨by omega, e.2⟩)), ?_⟩
        rw [enter_best _ _ _ _ _ _ (fun e => by rw [e, hc.1] at hd; cases hd) (by rw [h.lb]; exact hk.1)]
        exact hb
      · rw [if_neg hc]
        refine ⟨⟨h.lf, h.ll, h.lp, h.lb, h.ld, h.t0, h.heap, h.qr, h.b2, h.b3, h.d1, h.c0, ?_, h.p1, h.f0, h.f1⟩, hb⟩
        intro k' j hk' hj hdk hf hbn hc2 he
        rcases hc2 with hc2 | ⟨rfl, rfl⟩
        · exact h.c1 k' j hk' hj hdk hf hbn hc2 he
        · have hdj : gb s.done j = true := by
            cases e : gb s.done j with
            | true => rfl
            | false => exact absurd ⟨e, hbn⟩ hc
          have h1 := h.d1 j hj hdj
          have h2 := h.t0
          have h3 := hg.gt j (gi s.best k') hj (by omega)
          omega
    have h2 := fold_on hg h0 hxm l _ _ key.1 key.2 (by rw [on_done]; exact hd) (fun j hj => hl j (by simp [hj]))
    refine h2.mono (fun _ _ _ h => h) (fun k' j _ _ _ _ _ hc => ?_)
    rcases hc with hc | ⟨e1, hc⟩
    · exact .inl (.inl hc)
    · rcases List.mem_cons.1 hc with rfl | hc
      · exact .inl (.inr ⟨e1, rfl⟩)
      · exact .inr ⟨e1, hc⟩
theorem pop_inv (hg : GOk g) (h0 : 0 ≤ at_) {s : Sr} {T : Int} (h : Inv g a at_ s T (fun _ => True) (fun _ _ => True)) (hq : s.q ≠ []) : ∃ T', Inv g a at_ (popG g s) T' (fun _ => True) (fun _ _ => True) := by
  have hp := hrest_perm s.q hq
  have hx : gx s.q 0 ∈ s.q := hp.mem_iff.2 (by simp)
  unfold popG
  cases hd : gb s.done (gx s.q 0).arc with
  | true =>
    rw [if_pos rfl]
    refine ⟨T, h.lf, h.ll, h.lp, h.lb, h.ld, h.t0, hrest_heap h.heap hq, fun y hy => h.qr y (hp.mem_iff.2 (by simp [hy])), h.b2, ?_, h.d1, h.c0, h.c1, h.p1, h.f0, h.f1⟩
    intro k hk hb hdk
    have hdk : gb s.done k = false := hdk
    rcases List.mem_cons.1 (hp.mem_iff.1 (h.b3 k hk hb hdk)) with e | h3
    · rw [← e, hdk] at hd; cases hd
    · exact h3
  | false =>
    rw [if_neg (by simp)]
    obtain ⟨hb, hm⟩ := mark_inv h0 hg h hq hd
    have q1 := (h.qr _ hx).1
    have hto := hg.to_lt _ q1
    have hb2 : gi (markG g s (gx s.q 0)).best (gx s.q 0).arc = (gx s.q 0).at_ := by
      unfold markG; split <;> exact hb
    have hd2 : gb (markG g s (gx s.q 0)).done (gx s.q 0).arc = true := by
      have : (markG g s (gx s.q 0)).done = s.done.set (gx s.q 0).arc true := by unfold markG; split <;> rfl
      rw [this, gb_set _ _ _ _ (by rw [h.ld]; exact q1), if_pos rfl]
    have h2 := fold_on hg h0 q1 (g.outs (g.to_ (gx s.q 0).arc)) _ _ hm hb2 hd2 (fun k hk => ⟨hg.outs_lt _ k hk, (hg.outs_iff _ k hto (hg.outs_lt _ k hk)).1 hk⟩)
    refine ⟨_, h2.mono (fun _ _ _ h => h) (fun k i _ hi _ hf _ _ => ?_)⟩
    by_cases e : k = (gx s.q 0).arc
    · subst e
      exact .inr ⟨rfl, (hg.outs_iff _ i hto hi).2 hf⟩
    · exact .inl e
def meas (g : Gph) (s : Sr) : Nat := s.done.count false * (g.m + 1) + s.q.length
theorem enter_qlen (s : Sr) (i : Nat) (p t : Int) : (enterG g s i p t).q.length ≤ s.q.length + 1 := by
  unfold enterG; split
  · show (hpush s.q _).length ≤ _; rw [hpush_len]; exact Nat.le_refl _
  · exact Nat.le_succ _
theorem fold_qlen (x : Nat) (t : Int) : ∀ (l : List Nat) (s : Sr), (l.foldl (onG g x t) s).q.length ≤ s.q.length + l.length ∧ (l.foldl (onG g x t) s).done = s.done
  | [], s => ⟨Nat.le_refl _, rfl⟩
  | k :: l, s => by
    rw [List.foldl_cons]
    obtain ⟨h1, h2⟩ := fold_qlen x t l (onG g x t s k)
    have h3 : (onG g x t s k).q.length ≤ s.q.length + 1 := by
      unfold onG; split
      · exact enter_qlen _ _ _ _
      · exact Nat.le_succ _
    refine ⟨by rw [List.length_cons]; omega, h2.trans (on_done _ _ _ _)⟩
theorem start_qlen : ∀ (l : List Nat) (s : Sr), (l.foldl (fun s k => enterG g s k (-1) at_) s).q.length ≤ s.q.length + l.length ∧ (l.foldl (fun s k => enterG g s k (-1) at_) s).done = s.done
  | [], s => ⟨Nat.le_refl _, rfl⟩
  | k :: l, s => by
    rw [List.foldl_cons]
    obtain ⟨h1, h2⟩ := start_qlen l (enterG g s k (-1) at_)
    have h3 := enter_qlen (g := g) s k (-1) at_
    exact ⟨by rw [List.length_cons]; omega, h2.trans (enter_done _ _ _ _ _)⟩
theorem pop_meas (hg : GOk g) {s : Sr} (hq : s.q ≠ []) (hx : (gx s.q 0).arc < s.done.length) : meas g (popG g s) < meas g s := by
  have hl := List.length_pos_iff.2 hq
  have hr := hrest_len s.q
  unfold popG meas
  cases hd : gb s.done (gx s.q 0).arc with
  | true => rw [if_pos rfl]; show s.done.count false * (g.m + 1) + (hrest s.q).length < _; omega
  | false =>
    rw [if_neg (by simp)]
    obtain ⟨h1, h2⟩ := fold_qlen (g := g) (gx s.q 0).arc (gx s.q 0).at_ (g.outs (g.to_ (gx s.q 0).arc)) (markG g s (gx s.q 0))
    have h3 := hg.outs_len (g.to_ (gx s.q 0).arc)
    have h4 : (markG g s (gx s.q 0)).done = s.done.set (gx s.q 0).arc true := by unfold markG; split <;> rfl
    have h5 : (markG g s (gx s.q 0)).q = hrest s.q := by unfold markG; split <;> rfl
    rw [h5] at h1
    rw [h2, h4]
    have h6 : s.done[(gx s.q 0).arc] = false := by
      unfold gb at hd
      rw [List.getD_eq_getElem?_getD, List.getElem?_eq_getElem hx] at hd
      exact hd
    have h7 : (s.done.set (gx s.q 0).arc true).count false + 1 = s.done.count false := by
      have hpos : 0 < s.done.count false := List.count_pos_iff.2 (h6 ▸ List.getElem_mem hx)
      rw [List.count_set hx, h6]
      simp
      omega
    have h8 : s.done.count false * (g.m + 1) = (s.done.set (gx s.q 0).arc true).count false * (g.m + 1) + (g.m + 1) := by
      rw [← h7, Nat.succ_mul]
    omega
theorem run_inv (hg : GOk g) (h0 : 0 ≤ at_) : ∀ (f : Nat) (s : Sr) (T : Int), Inv g a at_ s T (fun _ => True) (fun _ _ => True) → meas g s ≤ f → (runG g f s).q = [] ∧ ∃ T', Inv g a at_ (runG g f s) T' (fun _ => True) (fun _ _ => True)
  | 0, s, T, h, hf => by
    refine ⟨List.eq_nil_of_length_eq_zero (by unfold meas at hf; show s.q.length = 0; omega), T, h⟩
  | f + 1, s, T, h, hf => by
    unfold runG
    by_cases hq : s.q = []
    · rw [if_pos hq]; exact ⟨hq, T, h⟩
    · rw [if_neg hq]
      obtain ⟨T', h'⟩ := pop_inv hg h0 h hq
      have hx : gx s.q 0 ∈ s.q := (hrest_perm s.q hq).mem_iff.2 (by simp)
      have := pop_meas (g := g) hg hq (by rw [h.ld]; exact (h.qr _ hx).1)
      exact run_inv hg h0 f _ T' h' (by omega)
def fuelG (g : Gph) : Nat := (g.m + 1) * (g.m + 1)
def searchG (g : Gph) (a : Nat) (at_ : Int) : Sr := runG g (fuelG g) (startG g a at_)
theorem start_meas (hg : GOk g) : meas g (startG g a at_) ≤ fuelG g := by
  obtain ⟨h1, h2⟩ := start_qlen (g := g) (at_ := at_) (g.outs a) (initG g a at_)
  have h3 := hg.outs_len a
  unfold meas startG fuelG
  rw [h2]
  have h4 : (initG g a at_).done.count false = g.m := by show (List.replicate g.m false).count false = _; simp
  have h5 : (initG g a at_).q.length = 0 := rfl
  rw [h4, Nat.succ_mul]
  omega
theorem search_inv (hg : GOk g) (h0 : 0 ≤ at_) (ha : a < g.nn) : (searchG g a at_).q = [] ∧ ∃ T, Inv g a at_ (searchG g a at_) T (fun _ => True) (fun _ _ => True) :=
  run_inv hg h0 _ _ _ (start_inv hg h0 ha) (start_meas hg)
/-- What a search found. -/
structure FoundG (g : Gph) (a : Nat) (at_ : Int) (s : Sr) : Prop where
  lf : s.first.length = g.nn
  ll : s.last.length = g.nn
  lp : s.prev.length = g.m
  rch : ∀ k, k < g.m → 0 ≤ gi s.best k → Rch g a at_ k (gi s.best k)
  min_ : ∀ k t, Rch g a at_ k t → 0 ≤ gi s.best k ∧ gi s.best k ≤ t
  prev : ∀ k, k < g.m → 0 ≤ gi s.best k → (gi s.prev k = -1 ∧ g.from_ k = a ∧ gi s.best k = g.out k at_) ∨ ∃ p : Nat, p < g.m ∧ gi s.prev k = (p : Int) ∧ 0 ≤ gi s.best p ∧ g.from_ k = g.to_ p ∧ g.ban p k = false ∧ gi s.best k = g.out k (gi s.best p)
  f0 : gi s.first a = at_ ∧ gi s.last a = -1
  f1 : ∀ n, n < g.nn → n ≠ a → (gi s.first n = -1 ∧ gi s.last n = -1 ∧ ∀ k t, Rch g a at_ k t → g.to_ k ≠ n) ∨ ∃ k : Nat, k < g.m ∧ 0 ≤ gi s.best k ∧ g.to_ k = n ∧ gi s.last n = (k : Int) ∧ gi s.first n = gi s.best k ∧ ∀ k' t, Rch g a at_ k' t → g.to_ k' = n → gi s.best k ≤ t
theorem search_found (hg : GOk g) (h0 : 0 ≤ at_) (ha : a < g.nn) : FoundG g a at_ (searchG g a at_) := by
  obtain ⟨hq, T, h⟩ := search_inv hg h0 ha
  generalize searchG g a at_ = s at *
  have hdn : ∀ k, k < g.m → 0 ≤ gi s.best k → gb s.done k = true := by
    intro k hk hb
    cases hd : gb s.done k with
    | true => rfl
    | false => have := h.b3 k hk hb hd; rw [hq] at this; exact absurd this (by simp)
  have hmin : ∀ k t, Rch g a at_ k t → 0 ≤ gi s.best k ∧ gi s.best k ≤ t := by
    intro k t hr
    induction hr with
    | start k hk hf he => exact h.c0 k hk hf trivial he
    | step k i t hr hi hf hb he ih =>
      have hk := hr.lt
      have hm := hg.mono i _ _ hi ih.1 ih.2
      have := h.c1 k i hk hi (hdn k hk ih.1) hf hb trivial (by omega)
      exact ⟨this.1, by omega⟩
  refine ⟨h.lf, h.ll, h.lp, h.b2, hmin, ?_, h.f0, ?_⟩
  · intro k hk hb
    rcases h.p1 k hk hb with h1 | ⟨p, h1, h2, h3, h4, h5, h6⟩
    · exact .inl h1
    · exact .inr ⟨p, h1, h2, (h.d1 p h1 h3).1, h4, h5, h6⟩
  · intro n hn hna
    rcases h.f1 n hn hna with ⟨h1, h2, h3⟩ | ⟨k, h1, h2, h3, h4, h5, h6⟩
    · exact .inl ⟨h1, h2, fun k t hr => h3 k hr.lt (hdn k hr.lt (hmin k t hr).1)⟩
    · refine .inr ⟨k, h1, (h.d1 k h1 h2).1, h3, h4, h5, fun k' t hr ht => ?_⟩
      have h7 := hmin k' t hr
      have h8 := h6 k' hr.lt (hdn k' hr.lt h7.1) ht
      omega
end
end Go.Proofs.YtklgknepamebdaaGreatDoor
/- Plain: when one arrives; the way back; the reference's out times. -/
namespace Go.Proofs.YtklgknepamebdaaGreatDoor
section
variable {g : Gph} {a : Nat} {at_ : Int}
/-- v is when one is at a node at the earliest (endT: never). -/
def Arrives (g : Gph) (a : Nat) (at_ : Int) (b : Nat) (v : Int) : Prop :=
  (a = b ∧ v = at_) ∨ (a ≠ b ∧ ((v = endT ∧ ∀ k t, Rch g a at_ k t → g.to_ k ≠ b) ∨ ∃ k, g.to_ k = b ∧ Rch g a at_ k v ∧ ∀ k' t, Rch g a at_ k' t → g.to_ k' = b → v ≤ t))
theorem Arrives.uniq {b : Nat} {v v' : Int} (h : Arrives g a at_ b v) (h' : Arrives g a at_ b v') : v = v' := by
  rcases h with ⟨e, rfl⟩ | ⟨e, h⟩
  · rcases h' with ⟨_, rfl⟩ | ⟨e', _⟩
    · rfl
    · exact absurd e e'
  · rcases h' with ⟨e', _⟩ | ⟨_, h'⟩
    · exact absurd e' e
    · rcases h with ⟨rfl, h1⟩ | ⟨k, h1, h2, h3⟩
      · rcases h' with ⟨rfl, _⟩ | ⟨k', h1', h2', _⟩
        · rfl
        · exact absurd h1' (h1 k' _ h2')
      · rcases h' with ⟨rfl, h1'⟩ | ⟨k', h1', h2', h3'⟩
        · exact absurd h1 (h1' k _ h2)
        · exact Int.le_antisymm (h3 _ _ h2' h1') (h3' _ _ h2 h1)
def firstV (s : Sr) (b : Nat) : Int := if gi s.first b < 0 then endT else gi s.first b
theorem FoundG.arr (h0 : 0 ≤ at_) {s : Sr} (h : FoundG g a at_ s) {b : Nat} (hb : b < g.nn) : Arrives g a at_ b (firstV s b) := by
  unfold firstV
  by_cases e : b = a
  · subst e
    rw [h.f0.1, if_neg (by omega)]
    exact .inl ⟨rfl, rfl⟩
  · refine .inr ⟨Ne.symm e, ?_⟩
    rcases h.f1 b hb e with ⟨h1, _, h3⟩ | ⟨k, h1, h2, h3, h4, h5, h6⟩
    · rw [h1, if_pos (by decide)]
      exact .inl ⟨rfl, h3⟩
    · rw [h5, if_neg (by omega)]
      exact .inr ⟨k, h3, h.rch k h1 h2, h6⟩
/-- The reference's out times: endT is never. -/
structure OutSol (g : Gph) (a : Nat) (at_ : Int) (o : List Int) : Prop where
  len : o.length = g.m
  sound : ∀ k, k < g.m → gi o k = endT ∨ Rch g a at_ k (gi o k)
  c0 : ∀ i, i < g.m → g.from_ i = a → g.out i at_ < endT → gi o i ≤ g.out i at_
  c1 : ∀ k i, k < g.m → i < g.m → g.from_ i = g.to_ k → g.ban k i = false → gi o k < endT → gi o i ≤ g.out i (gi o k)
theorem OutSol.min_ (hg : GOk g) (h0 : 0 ≤ at_) {o : List Int} (h : OutSol g a at_ o) : ∀ k t, Rch g a at_ k t → gi o k ≤ t := by
  intro k t hr
  induction hr with
  | start k hk hf he => exact h.c0 k hk hf he
  | step k i t hr hi hf hb he ih =>
    have h1 := hr.ge hg h0
    have h2 : 0 ≤ gi o k := by
      rcases h.sound k hr.lt with e | e
      · rw [e]; decide
      · have := e.ge hg h0; omega
    have := h.c1 k i hr.lt hi hf hb (by omega)
    have := hg.mono i _ _ hi h2 ih
    omega
/-- The least of the out times of the first arcs that end at a node. -/
def leastTo (g : Gph) (o : List Int) (b : Nat) : Nat → Int
  | 0 => endT
  | k + 1 => if g.to_ k = b then (if gi o k < leastTo g o b k then gi o k else leastTo g o b k) else leastTo g o b k
theorem leastTo_le (o : List Int) (b : Nat) : ∀ (n : Nat), leastTo g o b n ≤ endT ∧ (∀ k, k < n → g.to_ k = b → leastTo g o b n ≤ gi o k) ∧ (leastTo g o b n = endT ∨ ∃ k, k < n ∧ g.to_ k = b ∧ leastTo g o b n = gi o k)
  | 0 => ⟨Int.le_refl _, fun k hk => absurd hk (by omega), .inl rfl⟩
  | n + 1 => by
    obtain ⟨h1, h2, h3⟩ := leastTo_le o b n
    unfold leastTo
    by_cases e : g.to_ n = b
    · rw [if_pos e]
      by_cases hl : gi o n < leastTo g o b n
      · rw [if_pos hl]
        refine ⟨by omega, fun k hk he => ?_, .inr ⟨n, by omega, e, rfl⟩⟩
        by_cases ek : k = n
        · rw [ek]; exact Int.le_refl _
        · have := h2 k (by omega) he; omega
      · rw [if_neg hl]
        refine ⟨h1, fun k hk he => ?_, h3.imp id (fun ⟨k, hk, hh⟩ => ⟨k, by omega, hh⟩)⟩
        by_cases ek : k = n
        · rw [ek]; omega
        · exact h2 k (by omega) he
    · rw [if_neg e]
      refine ⟨h1, fun k hk he => ?_, h3.imp id (fun ⟨k, hk, hh⟩ => ⟨k, by omega, hh⟩)⟩
      by_cases ek : k = n
      · rw [ek] at he; exact absurd he e
      · exact h2 k (by omega) he
theorem OutSol.arr (hg : GOk g) (h0 : 0 ≤ at_) {o : List Int} (h : OutSol g a at_ o) {b : Nat} (hab : a ≠ b) : Arrives g a at_ b (leastTo g o b g.m) := by
  obtain ⟨h1, h2, h3⟩ := leastTo_le (g := g) o b g.m
  have hm := h.min_ hg h0
  refine .inr ⟨hab, ?_⟩
  by_cases e : leastTo g o b g.m = endT
  · refine .inl ⟨e, fun k t hr ht => ?_⟩
    have := h2 k hr.lt ht
    have := hm k t hr
    have := (hr.ge hg h0).2
    omega
  · rcases h3 with h3 | ⟨k, hk, hb, h4⟩
    · exact absurd h3 e
    · refine .inr ⟨k, hb, ?_, fun k' t hr ht => ?_⟩
      · rcases h.sound k hk with h5 | h5
        · rw [h4] at e; exact absurd h5 e
        · rw [h4]; exact h5
      · have := h2 k' hr.lt ht
        have := hm k' t hr
        omega
/-- Who leaves later does not arrive earlier. -/
theorem Rch.later (hg : GOk g) {at' : Int} (h0 : 0 ≤ at_) (hl : at_ ≤ at') {k : Nat} {t : Int} (h : Rch g a at' k t) : ∃ t', t' ≤ t ∧ Rch g a at_ k t' := by
  induction h with
  | start k hk hf he =>
    have := hg.mono k _ _ hk h0 hl
    exact ⟨_, this, .start k hk hf (by omega)⟩
  | step k i t hr hi hf hb he ih =>
    obtain ⟨t', h1, h2⟩ := ih
    have h3 := h2.ge hg h0
    have := hg.mono i _ _ hi (show 0 ≤ t' by omega) h1
    exact ⟨_, this, .step k i t' h2 hi hf hb (by omega)⟩
theorem Arrives.later (hg : GOk g) {at' : Int} (h0 : 0 ≤ at_) (hl : at_ ≤ at') (he : at' < endT) {b : Nat} {v v' : Int} (h : Arrives g a at_ b v) (h' : Arrives g a at' b v') : v ≤ v' := by
  rcases h with ⟨e, rfl⟩ | ⟨e, h⟩
  · rcases h' with ⟨_, rfl⟩ | ⟨e', _⟩
    · exact hl
    · exact absurd e e'
  · rcases h' with ⟨e', _⟩ | ⟨_, h'⟩
    · exact absurd e' e
    · have hv : v ≤ endT := by
        rcases h with ⟨rfl, _⟩ | ⟨k, _, h2, _⟩
        · exact Int.le_refl _
        · have := (h2.ge hg h0).2; omega
      rcases h' with ⟨rfl, _⟩ | ⟨k', h1', h2', _⟩
      · exact hv
      · obtain ⟨t', h3, h4⟩ := h2'.later hg h0 hl
        rcases h with ⟨rfl, h1⟩ | ⟨k, h1, h2, h5⟩
        · exact absurd h1' (h1 k' t' h4)
        · have := h5 k' t' h4 h1'; omega
theorem nodup_lt : ∀ (m : Nat) (l : List Nat), l.Nodup → (∀ x ∈ l, x < m) → l.length ≤ m
  | 0, [], _, _ => Nat.le_refl _
  | 0, x :: l, _, h => absurd (h x (by simp)) (by omega)
  | m + 1, l, hn, h => by
    have h1 := nodup_lt m (l.erase m) (hn.erase m) (fun x hx => by
      have := (List.Nodup.mem_erase_iff hn).1 hx
      have h2 := h x this.2
      have h3 := this.1
      omega)
    have h2 := List.length_erase (a := m) (l := l)
    split at h2 <;> omega
/-- Arcs one after the other, the last one first; one comes out of the last one at a moment. -/
inductive Trail (g : Gph) (a : Nat) (at_ : Int) : List Nat → Int → Prop
  | one (k : Nat) : k < g.m → g.from_ k = a → g.out k at_ < endT → Trail g a at_ [k] (g.out k at_)
  | cons (k i : Nat) (l : List Nat) (t : Int) : Trail g a at_ (k :: l) t → i < g.m → g.from_ i = g.to_ k → g.ban k i = false → g.out i t < endT → Trail g a at_ (i :: k :: l) (g.out i t)
/-- The way back by the arcs before. -/
inductive Chain (m : Nat) (prev : List Int) : Int → List Nat → Prop
  | nil : Chain m prev (-1) []
  | cons (k : Nat) (l : List Nat) : k < m → Chain m prev (gi prev k) l → Chain m prev (k : Int) (k :: l)
theorem Chain.uniq {m : Nat} {prev : List Int} {k : Int} {l l' : List Nat} (h : Chain m prev k l) (h' : Chain m prev k l') : l = l' := by
  induction h generalizing l' with
  | nil => cases h' with | nil => rfl
  | cons k l hk h ih =>
    generalize e : (k : Int) = kk at h'
    cases h' with
    | nil => omega
    | cons k' l2 hk' h2 =>
      have : k = k' := by omega
      subst this
      rw [ih h2]
theorem FoundG.way (hg : GOk g) (h0 : 0 ≤ at_) {s : Sr} (h : FoundG g a at_ s) : ∀ (n : Nat) (k : Nat), k < g.m → 0 ≤ gi s.best k → gi s.best k ≤ n →
    ∃ l, Chain g.m s.prev (k : Int) (k :: l) ∧ Trail g a at_ (k :: l) (gi s.best k) ∧ (k :: l).Nodup ∧ (∀ x ∈ k :: l, x < g.m ∧ gi s.best x ≤ gi s.best k)
  | n, k, hk, hb, hn => by
    have hr := h.rch k hk hb
    rcases h.prev k hk hb with ⟨h1, h2, h3⟩ | ⟨p, h1, h2, h3, h4, h5, h6⟩
    · refine ⟨[], .cons k [] hk (by rw [h1]; exact .nil), ?_, by simp, fun x hx => ?_⟩
      · have he := (hr.ge hg h0).2
        rw [h3] at he ⊢
        exact .one k hk h2 he
      · simp at hx; subst hx; exact ⟨hk, Int.le_refl _⟩
    · have hlt := hg.gt k (gi s.best p) hk h3
      match n, hn with
      | 0, hn => omega
      | n + 1, hn =>
        obtain ⟨l, w1, w2, w3, w4⟩ := FoundG.way hg h0 h n p h1 h3 (by omega)
        refine ⟨p :: l, .cons k _ hk (by rw [h2]; exact w1), ?_, List.nodup_cons.2 ⟨fun hx => ?_, w3⟩, fun x hx => ?_⟩
        · have he := (hr.ge hg h0).2
          rw [h6] at he ⊢
          exact .cons p k l _ w2 hk h4 h5 he
        · have := (w4 k hx).2; omega
        · rcases List.mem_cons.1 hx with rfl | hx
          · exact ⟨hk, Int.le_refl _⟩
          · have := w4 x hx; exact ⟨this.1, by omega⟩
/-- The way to a node that is reached. -/
theorem FoundG.wayTo (hg : GOk g) (h0 : 0 ≤ at_) {s : Sr} (h : FoundG g a at_ s) {b : Nat} (hb : b < g.nn) (hf : 0 ≤ gi s.first b) :
    ∃ l, Chain g.m s.prev (gi s.last b) l ∧ l.length ≤ g.m ∧ (∀ x ∈ l, x < g.m) ∧ ((l = [] ∧ a = b ∧ gi s.first b = at_) ∨ ∃ k l', l = k :: l' ∧ g.to_ k = b ∧ Trail g a at_ l (gi s.first b)) := by
  by_cases e : b = a
  · subst e
    exact ⟨[], by rw [h.f0.2]; exact .nil, Nat.zero_le _, fun x hx => absurd hx (by simp), .inl ⟨rfl, rfl, h.f0.1⟩⟩
  · rcases h.f1 b hb e with ⟨h1, _⟩ | ⟨k, h1, h2, h3, h4, h5, h6⟩
    · omega
    · obtain ⟨l, w1, w2, w3, w4⟩ := FoundG.way hg h0 h (gi s.best k).toNat k h1 h2 (by omega)
      exact ⟨k :: l, by rw [h4]; exact w1, nodup_lt _ _ w3 (fun x hx => (w4 x hx).1), fun x hx => (w4 x hx).1, .inr ⟨k, l, rfl, h3, by rw [h5]; exact w2⟩⟩
end
end Go.Proofs.YtklgknepamebdaaGreatDoor
/- Plain: the reference's out times, asked until nothing gets better; when one can leave at the latest. -/
namespace Go.Proofs.YtklgknepamebdaaGreatDoor

def betB (g : Gph) (o : List Int) (i : Nat) (t : Int) : Bool := decide (t < endT) && decide (g.out i t < gi o i)
def betO (g : Gph) (o : List Int) (i : Nat) (t : Int) : List Int := if betB g o i t then o.set i (g.out i t) else o
def sumO : List Int → Nat
  | [] => 0
  | x :: l => x.toNat + sumO l
theorem sumO_set : ∀ (l : List Int) (i : Nat) (v : Int), i < l.length → 0 ≤ v → v < gi l i → sumO (l.set i v) < sumO l
  | [], i, v, h, _, _ => absurd h (by simp)
  | x :: l, 0, v, _, h0, h1 => by
    have h1 : v < x := h1
    show v.toNat + sumO l < x.toNat + sumO l
    omega
  | x :: l, i + 1, v, h, h0, h1 => by
    have := sumO_set l i v (by simpa using h) h0 h1
    show x.toNat + sumO (l.set i v) < x.toNat + sumO l
    omega
theorem sumO_rep (n : Nat) : sumO (List.replicate n endT) = n * endT.toNat := by
  induction n with
  | zero => rw [Nat.zero_mul]; rfl
  | succ n ih => rw [List.replicate_succ, Nat.succ_mul]; show endT.toNat + sumO _ = _; omega
section
variable {g : Gph} {a : Nat} {at_ : Int}
structure OutInv (g : Gph) (a : Nat) (at_ : Int) (o : List Int) : Prop where
  len : o.length = g.m
  sound : ∀ k, k < g.m → gi o k = endT ∨ Rch g a at_ k (gi o k)
theorem OutInv.bd (hg : GOk g) (h0 : 0 ≤ at_) {o : List Int} (h : OutInv g a at_ o) {k : Nat} (hk : k < g.m) : 0 ≤ gi o k ∧ gi o k ≤ endT := by
  rcases h.sound k hk with e | e
  · rw [e]; decide
  · have := e.ge hg h0; omega
theorem outInv_new : OutInv g a at_ (List.replicate g.m endT) :=
  ⟨by simp, fun k hk => .inl (by unfold gi; simp [hk])⟩
theorem OutInv.bet (hg : GOk g) (_h0 : 0 ≤ at_) {o : List Int} (h : OutInv g a at_ o) {i : Nat} {t : Int} (hi : i < g.m) (hR : t < endT → g.out i t < endT → Rch g a at_ i (g.out i t)) : OutInv g a at_ (betO g o i t) := by
  unfold betO
  cases hb : betB g o i t with
  | false => rw [if_neg (by simp)]; exact h
  | true =>
    rw [if_pos rfl]
    unfold betB at hb
    simp only [Bool.and_eq_true, decide_eq_true_eq] at hb
    have hbd := h.bd hg _h0 hi
    refine ⟨by simpa using h.len, fun k hk => ?_⟩
    rw [gi_set _ _ _ _ (by rw [h.len]; exact hi)]
    split
    · rename_i e; subst e
      exact .inr (hR hb.1 (by omega))
    · exact h.sound k hk
theorem OutInv.low (hg : GOk g) (_h0 : 0 ≤ at_) {o : List Int} (h : OutInv g a at_ o) {i : Nat} {t : Int} (hi : i < g.m) (ht : 0 ≤ t) (hb : betB g o i t = true) : sumO (betO g o i t) < sumO o := by
  unfold betO
  rw [hb, if_pos rfl]
  unfold betB at hb
  simp only [Bool.and_eq_true, decide_eq_true_eq] at hb
  have := hg.gt i t hi ht
  exact sumO_set o i _ (by rw [h.len]; exact hi) (by omega) hb.2
/-- In a round: o0 is what it began with; ag: something got better. -/
structure RInv (g : Gph) (a : Nat) (at_ : Int) (o0 o : List Int) (ag : Bool) (D0 : Nat → Prop) (D1 : Nat → Nat → Prop) : Prop where
  inv : OutInv g a at_ o
  same : ag = false → o = o0 ∧ (∀ i, i < g.m → D0 i → g.from_ i = a → g.out i at_ < endT → gi o i ≤ g.out i at_) ∧
    ∀ k i, k < g.m → i < g.m → D1 k i → g.from_ i = g.to_ k → g.ban k i = false → gi o k < endT → gi o i ≤ g.out i (gi o k)
  less : ag = true → sumO o < sumO o0
theorem RInv.start {o : List Int} (h : OutInv g a at_ o) : RInv g a at_ o o false (fun _ => False) (fun _ _ => False) :=
  ⟨h, fun _ => ⟨rfl, fun _ _ hf => hf.elim, fun _ _ _ _ hf => hf.elim⟩, fun h => by cases h⟩
theorem RInv.mono {o0 o : List Int} {ag : Bool} {D0 D0' : Nat → Prop} {D1 D1' : Nat → Nat → Prop} (h : RInv g a at_ o0 o ag D0 D1)
    (h0 : ∀ i, i < g.m → g.from_ i = a → D0' i → D0 i) (h1 : ∀ k i, k < g.m → i < g.m → g.from_ i = g.to_ k → g.ban k i = false → D1' k i → D1 k i) : RInv g a at_ o0 o ag D0' D1' :=
  ⟨h.inv, fun e => ⟨(h.same e).1, fun i hi hd hf => (h.same e).2.1 i hi (h0 i hi hf hd) hf, fun k i hk hi hd hf hb => (h.same e).2.2 k i hk hi (h1 k i hk hi hf hb hd) hf hb⟩, h.less⟩
theorem RInv.step (hg : GOk g) (h0 : 0 ≤ at_) {o0 o : List Int} {ag : Bool} {D0 : Nat → Prop} {D1 : Nat → Nat → Prop} (h : RInv g a at_ o0 o ag D0 D1) {i : Nat} {t : Int} (hi : i < g.m) (ht : 0 ≤ t)
    (hR : t < endT → g.out i t < endT → Rch g a at_ i (g.out i t)) {D0' : Nat → Prop} {D1' : Nat → Nat → Prop}
    (hd : betB g o i t = false → (∀ j, j < g.m → g.from_ j = a → D0' j → D0 j ∨ (j = i ∧ t = at_ ∧ at_ < endT)) ∧ (∀ k j, k < g.m → j < g.m → g.from_ j = g.to_ k → g.ban k j = false → D1' k j → D1 k j ∨ (j = i ∧ t = gi o k))) :
    RInv g a at_ o0 (betO g o i t) (ag || betB g o i t) D0' D1' := by
  refine ⟨h.inv.bet hg h0 hi hR, fun e => ?_, fun e => ?_⟩
  · rw [Bool.or_eq_false_iff] at e
    obtain ⟨h1, h2, h3⟩ := h.same e.1
    obtain ⟨d0, d1⟩ := hd e.2
    have eo : betO g o i t = o := by unfold betO; rw [e.2, if_neg (by simp)]
    have hnb : t < endT → gi o i ≤ g.out i t := by
      intro h4
      have h5 := e.2
      unfold betB at h5
      rw [decide_eq_true h4, Bool.true_and] at h5
      have := of_decide_eq_false h5
      omega
    rw [eo]
    refine ⟨h1, fun j hj hdj hf he => ?_, fun k j hk hj hdj hf hb he => ?_⟩
    · rcases d0 j hj hf hdj with hx | ⟨rfl, rfl, hx⟩
      · exact h2 j hj hx hf he
      · exact hnb hx
    · rcases d1 k j hk hj hf hb hdj with hx | ⟨rfl, rfl⟩
      · exact h3 k j hk hj hx hf hb he
      · exact hnb he
  · cases hb : betB g o i t with
    | true =>
      have h1 := h.inv.low hg h0 hi ht hb
      cases hag : ag with
      | true => have := h.less hag; omega
      | false => rw [(h.same hag).1] at h1 ⊢; exact h1
    | false =>
      have eo : betO g o i t = o := by unfold betO; rw [hb, if_neg (by simp)]
      rw [eo]
      rw [hb, Bool.or_false] at e
      exact h.less e
theorem RInv.sol {o0 o : List Int} {D0 : Nat → Prop} {D1 : Nat → Nat → Prop} (h : RInv g a at_ o0 o false D0 D1) (h0 : ∀ i, i < g.m → D0 i) (h1 : ∀ k i, k < g.m → i < g.m → D1 k i) : OutSol g a at_ o :=
  ⟨h.inv.len, h.inv.sound, fun i hi hf he => (h.same rfl).2.1 i hi (h0 i hi) hf he, fun k i hk hi hf hb he => (h.same rfl).2.2 k i hk hi (h1 k i hk hi) hf hb he⟩
end
/-- When one is at a node at the earliest (endT: never). -/
def arrG (g : Gph) (a b : Nat) (at_ : Int) : Int := firstV (searchG g a at_) b
section
variable {g : Gph}
theorem arrG_ok (hg : GOk g) {a b : Nat} {at_ : Int} (h0 : 0 ≤ at_) (ha : a < g.nn) (hb : b < g.nn) : Arrives g a at_ b (arrG g a b at_) := (search_found hg h0 ha).arr h0 hb
theorem arrG_self (hg : GOk g) {a : Nat} {at_ : Int} (h0 : 0 ≤ at_) (ha : a < g.nn) : arrG g a a at_ = at_ := (arrG_ok hg h0 ha ha).uniq (.inl ⟨rfl, rfl⟩)
theorem arrG_bd (hg : GOk g) {a b : Nat} {at_ : Int} (h0 : 0 ≤ at_) (he : at_ < endT) (ha : a < g.nn) (hb : b < g.nn) : at_ ≤ arrG g a b at_ ∧ arrG g a b at_ ≤ endT := by
  rcases arrG_ok hg h0 ha hb with ⟨_, e⟩ | ⟨_, ⟨e, _⟩ | ⟨k, _, hr, _⟩⟩
  · rw [e]; omega
  · rw [e]; omega
  · have := hr.ge hg h0; omega
theorem arrG_mono (hg : GOk g) {a b : Nat} {t t' : Int} (h0 : 0 ≤ t) (h : t ≤ t') (he : t' < endT) (ha : a < g.nn) (hb : b < g.nn) : arrG g a b t ≤ arrG g a b t' :=
  (arrG_ok hg h0 ha hb).later hg h0 h he (arrG_ok hg (by omega) ha hb)
theorem arrG_sol (hg : GOk g) {a b : Nat} {at_ : Int} (h0 : 0 ≤ at_) (ha : a < g.nn) (hb : b < g.nn) {o : List Int} (h : OutSol g a at_ o) (hab : a ≠ b) : leastTo g o b g.m = arrG g a b at_ := (h.arr hg h0 hab).uniq (arrG_ok hg h0 ha hb)
/-- When one can leave at the latest; -1: never. -/
structure LeaveOk (g : Gph) (a b : Nat) (by_ L : Int) : Prop where
  low : -1 ≤ L
  high : L ≤ by_
  ok : 0 ≤ L → arrG g a b L ≤ by_
  last : L < by_ → ¬ arrG g a b (L + 1) ≤ by_
theorem LeaveOk.uniq (hg : GOk g) {a b : Nat} {by_ L L' : Int} (ha : a < g.nn) (hb : b < g.nn) (he : by_ < endT) (h : LeaveOk g a b by_ L) (h' : LeaveOk g a b by_ L') : L = L' := by
  have key : ∀ {L L' : Int}, LeaveOk g a b by_ L → LeaveOk g a b by_ L' → ¬ L < L' := by
    intro L L' h h' hlt
    have h1 := h.low
    have h2 := h'.high
    refine h.last (by omega) (Int.le_trans (arrG_mono hg (t := L + 1) (t' := L') (by omega) (by omega) (by omega) ha hb) (h'.ok (by omega)))
  have := key h h'
  have := key h' h
  omega
end
end Go.Proofs.YtklgknepamebdaaGreatDoor
/- Plain: who enters an arc later does not come out earlier. -/
namespace Go.Proofs.YtklgknepamebdaaGreatDoor

theorem fall_all {l : List Knot} : ∀ (k : Nat), k ≤ l.length → fallF l k = 0 → ∀ i, l.length - k ≤ i → i < l.length → fallsB l i = false
  | 0, _, _, i, h1, h2 => absurd h1 (by omega)
  | k + 1, hk, h, i, h1, h2 => by
    unfold fallF at h
    cases hb : fallsB l (l.length - (k + 1)) with
    | true => rw [hb, if_pos rfl] at h; exact absurd h (by decide)
    | false =>
      rw [hb, if_neg (by simp)] at h
      by_cases e : i = l.length - (k + 1)
      · rw [e]; exact hb
      · exact fall_all k (by omega) h i (by omega) h2
theorem knotsF_fall {l : List Knot} (h : knotsF l = 0) : ∀ i, i < l.length → (l.getD i default).time - (afterK l i).time ≤ (afterK l i).at_ - (l.getD i default).at_ := by
  have hk := knotsF_chk h
  intro i hi
  have h3 : fallF l l.length = 0 := by
    unfold knotsF at h
    have := hk.pos
    have := hk.le
    rw [if_neg (by omega), if_neg (by omega)] at h
    by_cases h2 : chk knotF none l = 0
    · rw [if_pos h2] at h; exact h
    · rw [if_neg h2] at h; exact absurd h h2
  have := fall_all l.length (Nat.le_refl _) h3 i (by omega) hi
  unfold fallsB at this
  have := of_decide_eq_false this
  omega
theorem line_num (x y : Knot) (d : Int) : x.time * (y.at_ - (d + 1)) + y.time * ((d + 1) - x.at_) = (x.time * (y.at_ - d) + y.time * (d - x.at_)) + (y.time - x.time) := by
  have e1 : y.at_ - (d + 1) = (y.at_ - d) - 1 := by omega
  have e2 : (d + 1) - x.at_ = (d - x.at_) + 1 := by omega
  rw [e1, e2, Int.mul_sub, Int.mul_add, Int.mul_one, Int.mul_one]
  omega
theorem line_end (x y : Knot) : x.time * (y.at_ - y.at_) + y.time * (y.at_ - x.at_) = y.time * (y.at_ - x.at_) := by
  rw [Int.sub_self, Int.mul_zero, Int.zero_add]
theorem time_ge {l : List Knot} (h : KOk l) (at_ : Int) : 1 ≤ timeI l at_ := by
  unfold timeI
  generalize ht : at_ % dayMs = t
  have htb : 0 ≤ t ∧ t ≤ 86399999 := by unfold dayMs at ht; omega
  obtain ⟨i, hi, h1, h2⟩ := seg_ex h htb.1
  rw [seg_of h hi h1 h2]
  have hab := after_bd h hi
  have hkb := h.bd i hi
  have haf : t < (afterK l i).at_ := by
    unfold afterK
    by_cases h3 : i + 1 < l.length
    · rw [if_pos h3]; exact h2 h3
    · rw [if_neg h3]; show t < dayMs; unfold dayMs; omega
  generalize afterK l i = y at *
  generalize l.getD i default = x at *
  unfold lineI
  have m1 : 1 * (y.at_ - t) ≤ x.time * (y.at_ - t) := Int.mul_le_mul_of_nonneg_right (by omega) (by omega)
  have m2 : 1 * (t - x.at_) ≤ y.time * (t - x.at_) := Int.mul_le_mul_of_nonneg_right (by omega) (by omega)
  rw [Int.le_ediv_iff_mul_le (by omega)]
  omega
theorem time_step {l : List Knot} (h : knotsF l = 0) (at_ : Int) : timeI l at_ ≤ timeI l (at_ + 1) + 1 := by
  have hk := knotsF_chk h
  have hfl := knotsF_fall h
  have e1 : timeI l at_ = lineI (l.getD (segI l (at_ % dayMs)) default) (afterK l (segI l (at_ % dayMs))) (at_ % dayMs) := rfl
  have e2 : timeI l (at_ + 1) = lineI (l.getD (segI l ((at_ + 1) % dayMs)) default) (afterK l (segI l ((at_ + 1) % dayMs))) ((at_ + 1) % dayMs) := rfl
  rw [e1, e2]
  clear e1 e2
  generalize ht : at_ % dayMs = t
  have htb : 0 ≤ t ∧ t ≤ 86399999 := by unfold dayMs at ht; omega
  obtain ⟨i, hi, h1, h2⟩ := seg_ex hk htb.1
  rw [seg_of hk hi h1 h2]
  have hab := after_bd hk hi
  have hkb := hk.bd i hi
  have hfi := hfl i hi
  have haf : t < (afterK l i).at_ := by
    unfold afterK
    by_cases h3 : i + 1 < l.length
    · rw [if_pos h3]; exact h2 h3
    · rw [if_neg h3]; show t < dayMs; unfold dayMs; omega
  by_cases hc : t + 1 < (afterK l i).at_
  · have et : (at_ + 1) % dayMs = t + 1 := by unfold dayMs at *; omega
    rw [et]
    have hs : segI l (t + 1) = i := seg_of hk hi (by omega) (fun h3 => by unfold afterK at hc; rw [if_pos h3] at hc; exact hc)
    rw [hs]
    generalize afterK l i = y at *
    generalize l.getD i default = x at *
    unfold lineI
    have hn := line_num x y t
    generalize x.time * (y.at_ - t) + y.time * (t - x.at_) = N at *
    rw [hn]
    have e4 : (N + (y.time - x.time) + 1 * (y.at_ - x.at_)) / (y.at_ - x.at_) = (N + (y.time - x.time)) / (y.at_ - x.at_) + 1 := Int.add_mul_ediv_right _ _ (by omega)
    rw [← e4]
    exact Int.ediv_le_ediv (by omega) (by omega)
  · have ey : (afterK l i).at_ = t + 1 := by omega
    have hval : lineI (l.getD i default) (afterK l i) t ≤ (afterK l i).time + 1 := by
      generalize afterK l i = y at *
      generalize l.getD i default = x at *
      unfold lineI
      have hn := line_num x y t
      rw [← ey, line_end x y] at hn
      have e4 : (y.time * (y.at_ - x.at_) + 1 * (y.at_ - x.at_)) / (y.at_ - x.at_) = y.time + 1 := by
        rw [← Int.add_mul]; exact Int.mul_ediv_cancel _ (by omega)
      rw [← e4]
      exact Int.ediv_le_ediv (by omega) (by omega)
    refine Int.le_trans hval ?_
    have h0 : ∀ j, j < l.length → lineI (l.getD j default) (afterK l j) (l.getD j default).at_ = (l.getD j default).time := by
      intro j hj
      have := (after_bd hk hj).1.1
      unfold lineI
      rw [Int.sub_self, Int.mul_zero, Int.add_zero]
      exact Int.mul_ediv_cancel _ (by omega)
    have hend : lineI (l.getD (segI l ((at_ + 1) % dayMs)) default) (afterK l (segI l ((at_ + 1) % dayMs))) ((at_ + 1) % dayMs) = (afterK l i).time := by
      by_cases h3 : i + 1 < l.length
      · have ea : afterK l i = l.getD (i + 1) default := by unfold afterK; rw [if_pos h3]
        rw [ea] at ey ⊢
        have hb1 := hk.bd (i + 1) h3
        have et : (at_ + 1) % dayMs = (l.getD (i + 1) default).at_ := by unfold dayMs at *; omega
        rw [et, seg_of hk h3 (Int.le_refl _) (fun h4 => hk.up (i + 1) h4)]
        exact h0 (i + 1) h3
      · have ea : afterK l i = ⟨dayMs, (l.getD 0 default).time⟩ := by unfold afterK; rw [if_neg h3]
        rw [ea] at ey ⊢
        have ey : dayMs = t + 1 := ey
        have et : (at_ + 1) % dayMs = (l.getD 0 default).at_ := by rw [hk.first]; unfold dayMs at *; omega
        rw [et, seg_of hk hk.pos (Int.le_refl _) (fun h4 => hk.up 0 h4)]
        exact h0 0 hk.pos
    rw [hend]
    exact Int.le_refl _
theorem time_mono {l : List Knot} (h : knotsF l = 0) (t : Int) : ∀ n : Nat, t + timeI l t ≤ (t + n) + timeI l (t + n)
  | 0 => by rw [show t + ((0 : Nat) : Int) = t by omega]; exact Int.le_refl _
  | n + 1 => by
    have h1 := time_mono h t n
    have h2 := time_step h (t + n)
    rw [show t + ((n + 1 : Nat) : Int) = t + n + 1 by omega]
    omega
theorem time_fifo {l : List Knot} (h : knotsF l = 0) {t t' : Int} (ht : t ≤ t') : t + timeI l t ≤ t' + timeI l t' := by
  have := time_mono h t (t' - t).toNat
  rw [show t + ((t' - t).toNat : Int) = t' by omega] at this
  exact this
end Go.Proofs.YtklgknepamebdaaGreatDoor
/- Plain: arcs one after the other; how long they are; when one comes out of each. -/
namespace Go.Proofs.YtklgknepamebdaaGreatDoor

/-- May nobody drive from an arc on to another one? -/
def bannedB (bs : List Ban) (f t : ByteArray) : Bool := bs.any fun b => decide (b.from_ = f) && decide (b.to_ = t)
def prevBan (bs : List Ban) (p : Option ByteArray) (k : ByteArray) : Bool := match p with | some q => bannedB bs q k | none => false
/-- What is wrong with arcs one after the other. -/
def chainF (rs : List Arc) (bs : List Ban) : ByteArray → Option ByteArray → List ByteArray → Int
  | _, _, [] => 0
  | fr, p, k :: l => if arcI rs k < 0 then 8 else if fr ≠ ByteArray.empty ∧ (arcAt rs k).from_ ≠ fr then 3 else if prevBan bs p k then 16 else chainF rs bs (arcAt rs k).to_ (some k) l
def lengthI (rs : List Arc) : List ByteArray → Int
  | [] => 0
  | k :: l => (arcAt rs k).long + lengthI rs l
def outAt (rs : List Arc) (at_ : Int) (k : ByteArray) : Int := at_ + timeI (arcAt rs k).knots at_
/-- When one comes out of each of some arcs; none: not ahead of the end. -/
def walkO (rs : List Arc) : Int → List ByteArray → Option (List Int)
  | _, [] => some []
  | at_, k :: l => if 345686400000 ≤ outAt rs at_ k then none else (walkO rs (outAt rs at_ k) l).map (outAt rs at_ k :: ·)
theorem banC_zero {a b : Ban} : banC a b = 0 ↔ a = b := by
  obtain ⟨a1, a2⟩ := a
  obtain ⟨b1, b2⟩ := b
  unfold banC
  constructor
  · intro h
    by_cases h1 : cmpS a1 b1 = 0
    · have h' : cmpS a2 b2 = 0 := by simpa [h1] using h
      rw [cmpS_zero.1 h1, cmpS_zero.1 h']
    · simp [h1] at h
  · intro h
    injection h with h1 h2
    have e1 := cmpS_zero.2 h1
    have e2 := cmpS_zero.2 h2
    simp [e1, e2]
theorem banC_pos {a b : Ban} : 0 < banC a b ↔ banC b a < 0 := by
  have h := banC_anti a b
  omega
/-- The order of bans goes on. -/
theorem banC_neg {a b : Ban} : banC a b < 0 ↔ ltS a.from_ b.from_ ∨ (a.from_ = b.from_ ∧ ltS a.to_ b.to_) := by
  unfold banC
  by_cases h1 : cmpS a.from_ b.from_ = 0
  · rw [if_pos h1]
    have e := cmpS_zero.1 h1
    constructor
    · intro h; exact .inr ⟨e, cmpS_neg.1 h⟩
    · rintro (h | ⟨_, h⟩)
      · rw [e] at h; exact absurd h (ltS_irrefl _)
      · exact cmpS_neg.2 h
  · rw [if_neg h1]
    constructor
    · intro h; exact .inl (cmpS_neg.1 h)
    · rintro (h | ⟨h, _⟩)
      · exact cmpS_neg.2 h
      · exact absurd (cmpS_zero.2 h) h1
theorem banC_trans {a b c : Ban} (h : banC a b < 0) (h' : banC b c < 0) : banC a c < 0 := by
  rw [banC_neg] at *
  rcases h with h | ⟨h1, h2⟩
  · rcases h' with h' | ⟨h1', _⟩
    · exact .inl (ltS_trans h h')
    · exact .inl (h1' ▸ h)
  · rcases h' with h' | ⟨h1', h2'⟩
    · exact .inl (h1 ▸ h')
    · exact .inr ⟨h1.trans h1', ltS_trans h2 h2'⟩
theorem chkB_sorted (rs : List Arc) : ∀ (l : List Ban) (p : Option Ban), chk (banF rs) p l = 0 → (l.Pairwise fun a b => banC a b < 0) ∧ ∀ q, p = some q → ∀ x ∈ l, banC q x < 0
  | [], _, _ => ⟨List.Pairwise.nil, fun _ _ _ h => absurd h (by simp)⟩
  | s :: l, p, h => by
    unfold chk at h
    by_cases h0 : banF rs p s = 0
    · rw [if_pos h0] at h
      obtain ⟨h1, h2⟩ := chkB_sorted rs l _ h
      have h3 : ∀ q, p = some q → banC q s < 0 := fun q e => by
        subst e
        unfold banF at h0
        by_cases hg : banG rs s = 0
        · rw [if_pos hg] at h0
          by_cases hc : banC s q ≤ 0
          · simp [hc] at h0
          · exact banC_pos.1 (by omega)
        · rw [if_neg hg] at h0; exact absurd h0 hg
      refine ⟨List.pairwise_cons.2 ⟨fun y hy => h2 s rfl y hy, h1⟩, fun q e y hy => ?_⟩
      rcases List.mem_cons.1 hy with rfl | hy
      · exact h3 q e
      · exact banC_trans (h3 q e) (h2 s rfl y hy)
    · rw [if_neg h0] at h; exact absurd h h0
theorem banB_at {l : List Ban} (h : l.Pairwise fun a b => banC a b < 0) {i j : Nat} (hij : i < j) (hj : j < l.length) : banC (l.getD i default) (l.getD j default) < 0 := by
  rw [List.pairwise_iff_getElem] at h
  have := h i j (by omega) hj hij
  rw [List.getD_eq_getElem?_getD, List.getD_eq_getElem?_getD, List.getElem?_eq_getElem (by omega), List.getElem?_eq_getElem hj]
  exact this
theorem bannedB_iff {bs : List Ban} {f t : ByteArray} : bannedB bs f t = true ↔ ∃ k, k < bs.length ∧ bs.getD k default = ⟨f, t⟩ := by
  unfold bannedB
  rw [List.any_eq_true]
  constructor
  · rintro ⟨b, hb, hx⟩
    obtain ⟨k, hk, e⟩ := List.mem_iff_getElem.1 hb
    refine ⟨k, hk, ?_⟩
    rw [List.getD_eq_getElem?_getD, List.getElem?_eq_getElem hk]
    simp at hx
    obtain ⟨b1, b2⟩ := b
    simp at hx
    rw [← hx.1, ← hx.2]
    exact e
  · rintro ⟨k, hk, e⟩
    refine ⟨bs.getD k default, ?_, by rw [e]; simp⟩
    rw [List.getD_eq_getElem?_getD, List.getElem?_eq_getElem hk]
    exact List.getElem_mem hk
end Go.Proofs.YtklgknepamebdaaGreatDoor
/- Plain: right roads as a graph; ways as arcs one after the other. -/
namespace Go.Proofs.YtklgknepamebdaaGreatDoor

section
variable {α : Type} [Inhabited α]
theorem idxP_sat (p : α → Bool) : ∀ (l : List α) (j k : Nat), idxP p l j = ((j + k : Nat) : Int) → k < l.length ∧ p (l.getD k default) = true
  | [], j, k, h => by unfold idxP at h; omega
  | n :: l, j, k, h => by
    unfold idxP at h
    cases hp : p n with
    | true =>
      rw [hp, if_pos rfl] at h
      obtain rfl : k = 0 := by omega
      exact ⟨by simp, hp⟩
    | false =>
      rw [hp, if_neg (by simp)] at h
      rcases idxP_bd p l (j + 1) with e | ⟨k', hk', e⟩
      · rw [e] at h; omega
      · rw [e] at h
        obtain rfl : k = k' + 1 := by omega
        obtain ⟨h1, h2⟩ := idxP_sat p l (j + 1) k' e
        exact ⟨by simpa using h1, by simpa using h2⟩
theorem findI_sat (p : α → Bool) (l : List α) {k : Nat} (h : findI p l = (k : Int)) : k < l.length ∧ p (l.getD k default) = true :=
  idxP_sat p l 0 k (by rw [Nat.zero_add]; exact h)
end
theorem node_found {ns : List Node} {s : ByteArray} (h : 0 ≤ nodeI ns s) : ∃ i : Nat, i < ns.length ∧ nodeI ns s = (i : Int) ∧ (ns.getD i default).key = s := by
  rcases findI_bd (fun n : Node => decide (n.key = s)) ns with h1 | ⟨i, hi, e⟩
  · exact absurd h (by unfold nodeI; omega)
  · exact ⟨i, hi, e, by simpa using (findI_sat _ ns e).2⟩
theorem node_inj {ns : List Node} {s t : ByteArray} (h : 0 ≤ nodeI ns s) (e : nodeI ns s = nodeI ns t) : s = t := by
  obtain ⟨i, _, e1, h1⟩ := node_found h
  obtain ⟨j, _, e2, h2⟩ := node_found (show 0 ≤ nodeI ns t by omega)
  obtain rfl : i = j := by omega
  rw [← h1, h2]
theorem node_iff {ns : List Node} {s t : ByteArray} (h : 0 ≤ nodeI ns s) (h' : 0 ≤ nodeI ns t) : (nodeI ns s).toNat = (nodeI ns t).toNat ↔ s = t :=
  ⟨fun e => node_inj h (by omega), fun e => by rw [e]⟩
theorem ltS_ne {a b : ByteArray} (h : ltS a b) : a ≠ b := fun e => by subst e; exact ltS_irrefl a h
theorem arc_at {rs : List Arc} (h : SortA rs) {k : Nat} (hk : k < rs.length) : arcI rs (rs.getD k default).key = (k : Int) := by
  have := idxP_at (fun n : Arc => decide (n.key = (rs.getD k default).key)) rs 0 k hk (by simp) (fun i hi => by
    have h1 := List.pairwise_iff_getElem.1 h i k (by omega) hk hi
    rw [List.getD_eq_getElem?_getD, List.getD_eq_getElem?_getD, List.getElem?_eq_getElem (by omega), List.getElem?_eq_getElem hk]
    exact decide_eq_false (ltS_ne h1))
  rw [Nat.zero_add] at this
  exact this
theorem node_at {ns : List Node} (h : SortN ns) {k : Nat} (hk : k < ns.length) : nodeI ns (ns.getD k default).key = (k : Int) := by
  have := idxP_at (fun n : Node => decide (n.key = (ns.getD k default).key)) ns 0 k hk (by simp) (fun i hi => by
    have h1 := List.pairwise_iff_getElem.1 h i k (by omega) hk hi
    rw [List.getD_eq_getElem?_getD, List.getD_eq_getElem?_getD, List.getElem?_eq_getElem (by omega), List.getElem?_eq_getElem hk]
    exact decide_eq_false (ltS_ne h1))
  rw [Nat.zero_add] at this
  exact this
theorem arcAt_at {rs : List Arc} (h : SortA rs) {k : Nat} (hk : k < rs.length) : arcAt rs (rs.getD k default).key = rs.getD k default := by
  unfold arcAt
  rw [arc_at h hk]
  rfl
def nodeN (ns : List Node) (s : ByteArray) : Nat := (nodeI ns s).toNat
def arcX (rs : List Arc) (k : Nat) : Arc := rs.getD k default
/-- Roads as a graph. -/
def gphOf (ns : List Node) (rs : List Arc) (bs : List Ban) : Gph where
  m := rs.length
  nn := ns.length
  to_ k := nodeN ns (arcX rs k).to_
  from_ k := nodeN ns (arcX rs k).from_
  outs n := (List.range rs.length).filter (fun k => nodeN ns (arcX rs k).from_ == n)
  ban k j := bannedB bs (arcX rs k).key (arcX rs j).key
  out k t := t + timeI (arcX rs k).knots t
theorem arcX_mem {rs : List Arc} {k : Nat} (h : k < rs.length) : arcX rs k ∈ rs := by
  unfold arcX
  rw [List.getD_eq_getElem?_getD, List.getElem?_eq_getElem h]
  exact List.getElem_mem h
theorem arcX_get {rs : List Arc} {k : Nat} (h : k < rs.length) : arcX rs k = rs[k] := by
  unfold arcX
  rw [List.getD_eq_getElem?_getD, List.getElem?_eq_getElem h]; rfl
theorem arc_right {ns : List Node} {rs : List Arc} (h : chk (arcF ns) none rs = 0) {k : Nat} (hk : k < rs.length) : 0 ≤ nodeI ns (arcX rs k).from_ ∧ 0 ≤ nodeI ns (arcX rs k).to_ ∧ (arcX rs k).from_ ≠ (arcX rs k).to_ ∧ knotsF (arcX rs k).knots = 0 := by
  have := chk_all (F := arcF ns) (Q := fun a => arcG ns a = 0) (fun p x hx => (arcF_ok hx).2) rs none h _ (arcX_mem hk)
  obtain ⟨h1, h2, h3, _, h5⟩ := arcG_ok this
  exact ⟨h1, h2, h3, h5⟩
theorem nodeN_lt {ns : List Node} {s : ByteArray} (h : 0 ≤ nodeI ns s) : nodeN ns s < ns.length := by
  obtain ⟨i, hi, e, _⟩ := node_found h
  unfold nodeN
  rw [e]
  exact hi
theorem gph_ok {ns : List Node} {rs : List Arc} {bs : List Ban} (h : chk (arcF ns) none rs = 0) : GOk (gphOf ns rs bs) where
  to_lt k hk := nodeN_lt (arc_right h hk).2.1
  outs_lt n k hk := by
    have := (List.mem_filter.1 hk).1
    exact List.mem_range.1 this
  outs_iff n k hn hk := by
    show k ∈ (List.range rs.length).filter _ ↔ nodeN ns (arcX rs k).from_ = n
    rw [List.mem_filter, List.mem_range]
    constructor
    · intro hh; simpa using hh.2
    · intro hh; exact ⟨hk, by simpa using hh⟩
  outs_len n := by
    show ((List.range rs.length).filter _).length ≤ rs.length
    exact Nat.le_trans (List.length_filter_le _ _) (by simp)
  gt k t hk ht := by
    have := time_ge (knotsF_chk (arc_right h hk).2.2.2) t
    show t < t + timeI (arcX rs k).knots t
    omega
  mono k t t' hk h0 ht := time_fifo (arc_right h hk).2.2.2 ht

/-- The keys of arcs. -/
def keysOf (rs : List Arc) (l : List Nat) : List ByteArray := l.map fun k => (arcX rs k).key
/-- Where one is behind arcs, and behind which one. -/
def stOf (rs : List Arc) : ByteArray → Option ByteArray → List ByteArray → ByteArray × Option ByteArray
  | fr, p, [] => (fr, p)
  | _, _, k :: l => stOf rs (arcAt rs k).to_ (some k) l
theorem chainF_app (rs : List Arc) (bs : List Ban) : ∀ (l l2 : List ByteArray) (fr : ByteArray) (p : Option ByteArray), chainF rs bs fr p l = 0 → chainF rs bs fr p (l ++ l2) = chainF rs bs (stOf rs fr p l).1 (stOf rs fr p l).2 l2
  | [], _, _, _, _ => rfl
  | k :: l, l2, fr, p, h => by
    rw [List.cons_append]
    unfold chainF at h
    conv => lhs; unfold chainF
    split at h
    · exact absurd h (by decide)
    rename_i h1
    split at h
    · exact absurd h (by decide)
    rename_i h2
    split at h
    · exact absurd h (by decide)
    rename_i h3
    rw [if_neg h1, if_neg h2, if_neg h3]
    exact chainF_app rs bs l l2 _ _ h
theorem stOf_app (rs : List Arc) : ∀ (l : List ByteArray) (k : ByteArray) (fr : ByteArray) (p : Option ByteArray), stOf rs fr p (l ++ [k]) = ((arcAt rs k).to_, some k)
  | [], _, _, _ => rfl
  | j :: l, k, fr, p => by rw [List.cons_append]; unfold stOf; exact stOf_app rs l k _ _
theorem walkO_app (rs : List Arc) : ∀ (l : List ByteArray) (k : ByteArray) (a t : Int) (ts : List Int), walkO rs a l = some ts → (a :: ts).getLastD a = t → walkO rs a (l ++ [k]) = if 345686400000 ≤ outAt rs t k then none else some (ts ++ [outAt rs t k])
  | [], k, a, t, ts, h, ht => by
    injection h with h
    subst h
    have ht : a = t := ht
    subst ht
    rw [List.nil_append]
    unfold walkO
    split
    · rfl
    · rfl
  | j :: l, k, a, t, ts, h, ht => by
    rw [List.cons_append]
    unfold walkO at h ⊢
    by_cases h1 : 345686400000 ≤ outAt rs a j
    · rw [if_pos h1] at h; cases h
    · rw [if_neg h1] at h ⊢
      cases h2 : walkO rs (outAt rs a j) l with
      | none => rw [h2] at h; cases h
      | some ts2 =>
        rw [h2] at h
        have h : outAt rs a j :: ts2 = ts := by injection h
        subst h
        rw [walkO_app rs l k (outAt rs a j) t ts2 h2 (by rw [List.getLastD_cons, List.getLastD_cons] at ht; rw [List.getLastD_cons]; exact ht)]
        split <;> rfl
/-- A trail, as keys: right, with its times. -/
theorem trail_keys {ns : List Node} {rs : List Arc} {bs : List Ban} (h : chk (arcF ns) none rs = 0) {fr : ByteArray} (hfr : 0 ≤ nodeI ns fr) {at_ t : Int} {l : List Nat} (hT : Trail (gphOf ns rs bs) (nodeN ns fr) at_ l t) :
    chainF rs bs fr none (keysOf rs l.reverse) = 0 ∧ ∃ ts, walkO rs at_ (keysOf rs l.reverse) = some ts ∧ ts.length = l.length ∧ (at_ :: ts).getLastD at_ = t ∧ ∀ k l', l = k :: l' → stOf rs fr none (keysOf rs l.reverse) = ((arcX rs k).to_, some (arcX rs k).key) := by
  have hS := sortA_of h
  induction hT with
  | one k hk hf he =>
    have hk : k < rs.length := hk
    have hr := arc_right h hk
    have e1 : (arcX rs k).from_ = fr := (node_iff hr.1 hfr).1 hf
    have e2 : arcAt rs (arcX rs k).key = arcX rs k := arcAt_at hS hk
    have e3 : arcI rs (arcX rs k).key = (k : Int) := arc_at hS hk
    refine ⟨?_, [outAt rs at_ (arcX rs k).key], ?_, rfl, ?_, ?_⟩
    · show chainF rs bs fr none [(arcX rs k).key] = 0
      unfold chainF
      rw [if_neg (by rw [e3]; omega), if_neg (by rw [e2, e1]; simp), if_neg (by simp [prevBan])]
      rfl
    · show walkO rs at_ [(arcX rs k).key] = _
      unfold walkO
      have he : at_ + timeI (arcX rs k).knots at_ < endT := he
      unfold outAt
      rw [e2, if_neg (by unfold endT at he; omega)]
      rfl
    · show outAt rs at_ (arcX rs k).key = at_ + timeI (arcX rs k).knots at_
      unfold outAt
      rw [e2]
    · intro j l' e
      injection e with e _
      subst e
      show stOf rs fr none [(arcX rs k).key] = _
      unfold stOf
      rw [e2]
      rfl
  | cons k i l t hT hi hf hb he ih =>
    obtain ⟨h1, ts, h2, h3, h4, h5⟩ := ih
    have hi : i < rs.length := hi
    have hr := arc_right h hi
    have e2 : arcAt rs (arcX rs i).key = arcX rs i := arcAt_at hS hi
    have e3 : arcI rs (arcX rs i).key = (i : Int) := arc_at hS hi
    have hk : k < rs.length := by cases hT <;> assumption
    have hrk := arc_right h hk
    have e1 : (arcX rs i).from_ = (arcX rs k).to_ := (node_iff hr.1 hrk.2.1).1 hf
    have hl : keysOf rs (i :: k :: l).reverse = keysOf rs (k :: l).reverse ++ [(arcX rs i).key] := by
      unfold keysOf
      rw [List.reverse_cons, List.map_append]
      rfl
    have hst := h5 k l rfl
    have hb : bannedB bs (arcX rs k).key (arcX rs i).key = false := hb
    have he : t + timeI (arcX rs i).knots t < endT := he
    have hout : outAt rs t (arcX rs i).key = t + timeI (arcX rs i).knots t := by unfold outAt; rw [e2]
    rw [hl]
    refine ⟨?_, ts ++ [outAt rs t (arcX rs i).key], ?_, by simp [h3], ?_, ?_⟩
    · rw [chainF_app _ _ _ _ _ _ h1, hst]
      unfold chainF
      rw [if_neg (by rw [e3]; omega), if_neg (by rw [e2, e1]; simp), if_neg (by show ¬ bannedB bs _ _ = true; rw [hb]; simp)]
      rfl
    · rw [walkO_app rs _ _ _ _ _ h2 h4, if_neg (by rw [hout]; unfold endT at he; omega)]
    · rw [← List.cons_append, List.getLastD_concat]
      exact hout
    · intro j l' e
      injection e with e _
      subst e
      rw [stOf_app, e2]
end Go.Proofs.YtklgknepamebdaaGreatDoor
/- A ban: the program's search. -/
namespace Go.Proofs.YtklgknepamebdaaGreatDoor
open Go.RowKit

end Go.Proofs.YtklgknepamebdaaGreatDoor
