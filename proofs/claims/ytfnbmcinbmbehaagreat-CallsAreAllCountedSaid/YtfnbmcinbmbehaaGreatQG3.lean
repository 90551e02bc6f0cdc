/- Worlds that only draw and lay blocks. Of no program. -/
import Derived.Test.YtfnbmcinbmbehaaGreatQG0
import Derived.Sort.Grow
import Derived.Deep.RegionHeld3
import Derived.StillTailTactics
import Derived.Test.YtfnbmcinbmbehaaGreatQSeq
import Derived.Shelf.SlSortCmp.InsertionK
import Derived.Shelf.SlSortCmp.NoneTotal
namespace Go.Proofs.YtfnbmcinbmbehaaGreat
open Go.RowKit Go.Sort

/-- Draws, and new blocks that stay as they were laid. -/
def Lays (w w' : World) : Prop := ∃ q os, w' = grow (w.drewN q) os
theorem Lays.refl (w : World) : Lays w w := ⟨0, #[], by simp [grow]; rfl⟩
theorem Lays.trans {a b c : World} (h : Lays a b) (k : Lays b c) : Lays a c := by
  obtain ⟨q, os, rfl⟩ := h
  obtain ⟨q', os', rfl⟩ := k
  refine ⟨q + q', os ++ os', ?_⟩
  have e : (grow (a.drewN q) os).drewN q' = grow ((a.drewN q).drewN q') os := rfl
  rw [e, grow_grow, World.drewN_drewN]
theorem Lays.drew {a w : World} (h : Lays a w) : Lays a w.drew := h.trans ⟨1, #[], by simp [grow]; rfl⟩
theorem Lays.drewN {a w : World} (h : Lays a w) (n : Nat) : Lays a (w.drewN n) := h.trans ⟨n, #[], by simp [grow]; rfl⟩
theorem Lays.alloc {a w : World} (h : Lays a w) (o : Obj) : Lays a (w.alloc o) := h.trans ⟨0, #[o], by rw [alloc_eq_grow]; rfl⟩
theorem Lays.nx {a w : World} (h : Lays a w) : Nx a w := by
  obtain ⟨q, os, rfl⟩ := h
  refine ⟨rfl, rfl, rfl, by simp [grow], fun k hk => ?_⟩
  show ((a.heap ++ os)[k]?) = _
  rw [Array.getElem?_append_left (by exact hk)]
theorem Lays.cell {a w : World} (h : Lays a w) {p : Addr} {v : Value} (hc : a.cell? p = some v) : w.cell? p = some v :=
  (Below.cell h.nx (World.block_lt_of_cell? a _ hc)).trans hc

theorem region_still_tail {P : Program} {id : Nat} {Q : Exit → Act → World → Prop} {a : Act} {w : World} {l : List Oper} (n : Nat) (hm : P.follows .mixedOrders = true) (hB : Region.lexTailB .any l.toArray n = true)
    (h : wpStill P l.toArray w.drew (fun a' => wpList P l.toArray Q (l.drop n) a' w.drew) (l.take n) a) : (Code.region id l.toArray true).wp P Q a w := wp_region_still_tail n hm hB h

end Go.Proofs.YtfnbmcinbmbehaaGreat
/- The comparisons. -/
namespace Go.Proofs.YtfnbmcinbmbehaaGreat
open Go.RowKit Go.Sort

set_option maxHeartbeats 1000000 in
theorem w_OrI2 (a b : Int) (g c : Nat) (w : World) (hg : w.heap[g]? = some (.cells #[.int .i64 a, .int .i64 b] 3 (0, 0))) :
    Calls Tryz.prog 88 #[.slice (some ⟨g, 0, none⟩) 2 c] w fun e w' => e = .returned (.int .i64 (orI [a, b])) ∧ w = w' := by
  have hR : Rd w 0 (some ⟨g, 0, none⟩) 1 encI [a, b] := Rd.lit hg (Nat.zero_le _) (fun _ => rfl) rfl
  exact w_OrI 0 _ c [a, b] w hR (by simp)

set_option maxRecDepth 100000 in
set_option maxHeartbeats 1000000 in
theorem w_byCell (a b : Cell) (w : World) :
    Calls Tryz.prog 89 #[.agg #[.int .i64 a.x, .int .i64 a.y], .agg #[.int .i64 b.x, .int .i64 b.y]] w fun e w' => e = .returned (.int .i64 (cellC a b)) ∧ Lays w w' := by
  go_enter Tryz.func89, Tryz.ntmps89
  go_wp2_with fail
  refine region_still_tail 10 (by kernel_rfl) (by kernel_rfl) ?_
  simp only [List.take_succ_cons, List.take_zero, List.drop_succ_cons, List.drop_zero]
  still_step; still_step; still_step; still_step
  still_call (flipc (w_Compare _ _ _))
  still_step; still_step; still_step; still_step
  still_call (flipc (w_Compare _ _ _))
  refine wpStill_nil ?_
  go_wp2_with (go_at_call 88; refine (w_OrI2 (cmpI a.x b.x) (cmpI a.y b.y) _ _ _ (hnew_drew (by simp))).mono ?_; rintro e w' ⟨rfl, rfl⟩)
  go_ret
  exact ⟨rfl, (((Lays.refl _).alloc _).alloc _).alloc _ |>.drew⟩

set_option maxRecDepth 100000 in
set_option maxHeartbeats 1000000 in
theorem w_byTally (a b : Tally) (w : World) :
    Calls Tryz.prog 59 #[.agg (encTally a).toArray, .agg (encTally b).toArray] w fun e w' => e = .returned (.int .i64 (tallyC a b)) ∧ Lays w w' := by
  unfold encTally
  go_enter Tryz.func59, Tryz.ntmps59
  go_wp2_with fail
  go_region_held3 (fun w' => w'.cell? ⟨w.heap.size, 0, none⟩ = some (.int .i64 a.x) ∧ w'.cell? ⟨w.heap.size, 1, none⟩ = some (.int .i64 a.y) ∧ w'.cell? ⟨w.heap.size, 2, none⟩ = some (.int .i64 a.hour) ∧ w'.cell? ⟨w.heap.size + 1, 0, none⟩ = some (.int .i64 b.x) ∧ w'.cell? ⟨w.heap.size + 1, 1, none⟩ = some (.int .i64 b.y) ∧ w'.cell? ⟨w.heap.size + 1, 2, none⟩ = some (.int .i64 b.hour))
    (first | go_keep | (go_split_ands; exact ⟨hL.cell ‹_›, hL.cell ‹_›, hL.cell ‹_›, hL.cell ‹_›, hL.cell ‹_›, hL.cell ‹_›⟩))
    (first
      | (go_at_call 89; refine (w_byCell ⟨a.x, a.y⟩ ⟨b.x, b.y⟩ _).mono ?_; rintro e w1 ⟨rfl, hL⟩)
      | (go_at_call 19; refine (w_Compare _ _ _).mono ?_; rintro e w' ⟨rfl, rfl⟩)
      | (go_at_call 88; refine (w_OrI2 (cellC ⟨a.x, a.y⟩ ⟨b.x, b.y⟩) (cmpI a.hour b.hour) _ _ _ (hnew (by simp))).mono ?_; rintro e w' ⟨rfl, rfl⟩)
      | (go_at_call 88; refine (w_OrI2 (cellC ⟨a.x, a.y⟩ ⟨b.x, b.y⟩) (cmpI a.hour b.hour) _ _ _ (hnew_drew (by simp))).mono ?_; rintro e w' ⟨rfl, rfl⟩))
  go_wp2
  go_ret
  exact ⟨rfl, by repeat (first | exact Lays.refl _ | refine Lays.trans ?_ hL | refine Lays.drew ?_ | refine Lays.drewN ?_ _ | refine Lays.alloc ?_ _)⟩
end Go.Proofs.YtfnbmcinbmbehaaGreat
/- A row of the call's own, as the sort's contracts read it. Of no program. -/
namespace Go.Proofs.YtfnbmcinbmbehaaGreat
open Go.RowKit Go.Sort Go.Proofs Go.Shelf

section
variable {α : Type} [Inhabited α] {enc : α → List Value} {K : Nat}
theorem flatK_toList (hk : ∀ x, (enc x).length = K) (hK : 0 < K) (d : Array α) : (flatK enc K d).toList = d.toList.flatMap enc := by
  apply List.ext_getElem?
  intro t
  by_cases ht : t < d.size * K
  · have h1 : t / K < d.size := (Nat.div_lt_iff_lt_mul hK).2 ht
    have h2 : t % K < K := Nat.mod_lt _ hK
    have e : t / K * K + t % K = t := by rw [Nat.mul_comm]; exact Nat.div_add_mod t K
    have hx : d.toList[t / K]? = some d[t / K]! := by
      rw [Array.getElem?_toList, getElem!_pos d _ h1, Array.getElem?_eq_getElem h1]
    have hu : (enc d[t / K]!)[t % K]? = some (enc d[t / K]!)[t % K]! := by
      have h5 : t % K < (enc d[t / K]!).length := by rw [hk]; exact h2
      rw [getElem!_pos (enc d[t / K]!) (t % K) h5]
      exact List.getElem?_eq_getElem h5
    have h3 := flat_get (xs := d.toList) hk (t / K) _ hx (t % K) _ hu
    rw [e] at h3
    rw [h3, Array.getElem?_toList]
    have hs : t < (flatK enc K d).size := by rw [size_flatK]; exact ht
    rw [Array.getElem?_eq_getElem hs, ← getElem!_pos (flatK enc K d) t hs, get_flatK _ _ _ _ ht]
  · rw [List.getElem?_eq_none (by rw [Array.length_toList, size_flatK]; omega), List.getElem?_eq_none (by rw [flat_len hk, Array.length_toList]; omega)]

variable {w : World} {base g cap n : Nat} {e : TypeId} {xs : List α}
theorem holds_of_own (hk : ∀ x, (enc x).length = K) (hK : 0 < K) (hn : xs.length = n) (h : w.ownsRow base e K (.slice (some ⟨g, 0, none⟩) n cap) n (xs.flatMap enc)) : HoldsK enc K w g 0 xs.toArray := by
  intro j hj
  rw [size_flatK] at hj
  have hj' : j < n * K := by rw [← hn]; simpa using hj
  have hs : j < (flatK enc K xs.toArray).size := by rw [size_flatK]; exact hj
  refine ⟨?_, by rw [Nat.zero_add]; exact h.frozenAt j⟩
  rw [Nat.zero_add, h.cellAt j hj', ← flatK_toList hk hK xs.toArray, Array.getElem?_toList, Array.getElem?_eq_getElem hs, getElem!_pos (flatK enc K xs.toArray) j hs]
  rfl

theorem own_of_sorted (hk : ∀ x, (enc x).length = K) (hK : 0 < K) (h : w.ownsRow base e K (.slice (some ⟨g, 0, none⟩) n cap) n (xs.flatMap enc)) (ys : List α) (hy : ys.length = n) (m : Nat) (os : Array Obj) :
    (sortWorldK enc K w g 0 m ys.toArray os).ownsRow base e K (.slice (some ⟨g, 0, none⟩) n cap) n (ys.flatMap enc) ∧ Gr g w (sortWorldK enc K w g 0 m ys.toArray os) := by
  have hlt := (h.lt g rfl)
  have hF : (flatK enc K ys.toArray).size = n * K := by rw [size_flatK]; simp [hy]
  constructor
  · rcases h.2 with ⟨h0, _⟩ | ⟨g', cap', cur, hv, hg, hh, hnc, hcm, hcs, ht⟩
    · cases h0
    · cases hv
      refine ⟨by rw [flat_len hk, hy], .inr ⟨g, cap, putCells id 0 (flatK enc K ys.toArray) cur, rfl, hlt.1, ?_, hnc, hcm, by simp [putCells, hcs], ?_⟩⟩
      · unfold sortWorldK
        rw [heap_grow_old _ _ (by simpa [putRowK] using hlt.2)]
        simp [putRowK, putRow, mapBlock, Sort.ahead, Array.getElem?_modify, hh, onCells]
      · have hle : n * K ≤ cur.size := by rw [hcs]; exact Nat.mul_le_mul_right K hnc
        apply List.ext_getElem?
        intro j
        by_cases hj : j < n * K
        · rw [List.getElem?_take_of_lt hj, Array.getElem?_toList]
          have hjc : j < cur.size := by omega
          have hs : j < (flatK enc K ys.toArray).size := by rw [hF]; exact hj
          have e1 := flatK_toList hk hK ys.toArray
          have e2 : (ys.flatMap enc)[j]? = some (flatK enc K ys.toArray)[j]! := by
            show (ys.toArray.toList.flatMap enc)[j]? = _
            rw [← e1, Array.getElem?_toList, Array.getElem?_eq_getElem hs, getElem!_pos (flatK enc K ys.toArray) j hs]
          rw [e2]
          simp [putCells, hjc, hF, hj]
        · rw [List.getElem?_take_eq_none (by omega), List.getElem?_eq_none (by rw [flat_len hk, hy]; omega)]
  · refine ⟨rfl, rfl, rfl, by simp [sortWorldK, putRowK, grow], fun k hkk hne => ?_⟩
    unfold sortWorldK
    rw [heap_grow_old _ _ (by simpa [putRowK] using hkk)]
    have : g ≠ k := fun e => hne (by rw [e])
    simp [putRowK, putRow, mapBlock, Sort.ahead, Array.getElem?_modify, this]
end

end Go.Proofs.YtfnbmcinbmbehaaGreat
/- slices.SortFunc over a row of the call's own, elements of K cells: what the row holds behind it. Of no program. -/
namespace Go.Proofs.YtfnbmcinbmbehaaGreat
open Go.RowKit Go.Sort Go.Proofs Go.Shelf

/-- slices.SortFunc, a comparison that parts whatever two that are not one: the sorted list. -/
theorem sortFunc {α : Type} [Inhabited α] {P : Program} {ρ : Ren} (L : SlLaysF0.n6 P ρ) (K : Nat) (hK : 0 < K) (aE : ∀ w, (isAgg (ρ.t 24)).run P w = .ok true w) (zE : ∀ w, (Go.sizeOf (ρ.t 24)).run P w = .ok K w) (enc : α → List Value) (hk : ∀ x, (enc x).length = K) (h1 : ∀ x, ∀ v ∈ enc x, v.oneCell' = true)
    (cf : α → α → Int) (hO : SWO (ltOf cf)) (g : Nat) (eg : ∀ args w, (callFunc g args).run P w = .ok (.enter g args) w)
    (hcmp : ∀ x y W, Calls P g #[.agg (enc x).toArray, .agg (enc y).toArray] W fun e w' => e = .returned (.int .i64 (cf x y)) ∧ Lays W w')
    {w : World} {base b cap n : Nat} {e : TypeId} {xs : List α} (hn : xs.length = n) (hsz : n < 4611686018427387904) (h : w.ownsRow base e K (.slice (some ⟨b, 0, none⟩) n cap) n (xs.flatMap enc)) :
    Calls P (ρ.f 6) #[.slice (some ⟨b, 0, none⟩) n cap, .func (.func g) #[] #[]] w fun en w' => en = .returned (.tuple #[]) ∧
      ∃ ys : List α, ys.Perm xs ∧ (∀ i j (hi : i < j) (hj : j < ys.length), ltOf cf ys[j] (ys[i]'(by omega)) = false) ∧ w'.ownsRow base e K (.slice (some ⟨b, 0, none⟩) n cap) n (ys.flatMap enc) ∧ Gr b w w' := by
  have hlt := (h.lt b rfl)
  have hH := holds_of_own hk hK hn h
  have hc : CmpLays P g #[] enc K cf b 0 xs.toArray.size w := fun m os dk _ x y => by
    rw [Array.append_empty]
    exact hcmp x y _
  have hs := AnyQ.slices_SortFunc L K aE zE enc hk h1 cf hO g #[] b 0 cap xs.toArray w eg hc hH hlt.2 (by simpa [hn] using hsz)
  have e1 : xs.toArray.size = n := by simpa using hn
  rw [e1] at hs
  refine hs.mono fun en w' ⟨he, d', m, os, hp, hso, hw⟩ => ⟨he, d'.toList, ?_, ?_, ?_⟩
  · have h3 := hp.2.2
    have h4 := hp.1
    rw [e1] at h4
    have e2 : d'.extract 0 n = d' := by rw [← h4]; simp
    have e3 : xs.toArray.extract 0 n = xs.toArray := by rw [← e1]; simp
    rw [e2, e3] at h3
    simpa using h3
  · intro i j hi hj
    have hj' : j < d'.size := by simpa using hj
    have h4 := hp.1
    rw [e1] at h4
    have := hso i j (Nat.zero_le _) hi (by omega)
    rw [getElem!_pos d' j hj', getElem!_pos d' i (by omega)] at this
    simpa using this
  · have h4 := hp.1
    rw [e1] at h4
    have := own_of_sorted hk hK h d'.toList (by simpa using h4) m os
    rw [hw]
    simpa using this
end Go.Proofs.YtfnbmcinbmbehaaGreat
