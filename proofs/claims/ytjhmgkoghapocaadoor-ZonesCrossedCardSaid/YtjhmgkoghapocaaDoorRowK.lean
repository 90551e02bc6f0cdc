/- A row of the call's own, as the sort's contracts read it. Of no program. -/
import Derived.Test.YtjhmgkoghapocaaDoorLays
import Derived.Shelf.SlSortCmp.InsertionK
namespace Go.Proofs.YtjhmgkoghapocaaDoor
open Go.RowKit Go.Sort Go.Proofs Go.Shelf

section
variable {α : Type} [Inhabited α] {enc : α → List Value} {K : Nat}
theorem flatK_toList (hk : ∀ x, (enc x).length = K) (hK : 0 < K) (d : Array α) : (flatK enc K d).toList = d.toList.flatMap enc := by
  apply List.ext_getElem?
  intro t
  by_cases ht : t < d.size * K
  · have h1 : t / K < d.size := (Nat.div_lt_iff_lt_mul hK).2 ht
    have h2 : t % K < K := Nat.mod_lt _ hK
    have e : t / K * K + t % K = t := by rw [Nat.mul_comm]; exact Nat.div_add_mod t K
    have hx : d.toList[t / K]? = some d[t / K]! := by
      rw [Array.getElem?_toList, getElem!_pos d _ h1, Array.getElem?_eq_getElem h1]
    have hu : (enc d[t / K]!)[t % K]? = some (enc d[t / K]!)[t % K]! := by
      have h5 : t % K < (enc d[t / K]!).length := by rw [hk]; exact h2
      rw [getElem!_pos (enc d[t / K]!) (t % K) h5]
      exact List.getElem?_eq_getElem h5
    have h3 := flat_get (xs := d.toList) hk (t / K) _ hx (t % K) _ hu
    rw [e] at h3
    rw [h3, Array.getElem?_toList]
    have hs : t < (flatK enc K d).size := by rw [size_flatK]; exact ht
    rw [Array.getElem?_eq_getElem hs, ← getElem!_pos (flatK enc K d) t hs, get_flatK _ _ _ _ ht]
  · rw [List.getElem?_eq_none (by rw [Array.length_toList, size_flatK]; omega), List.getElem?_eq_none (by rw [flat_len hk, Array.length_toList]; omega)]

variable {w : World} {base g cap n : Nat} {e : TypeId} {xs : List α}
theorem holds_of_own (hk : ∀ x, (enc x).length = K) (hK : 0 < K) (hn : xs.length = n) (h : w.ownsRow base e K (.slice (some ⟨g, 0, none⟩) n cap) n (xs.flatMap enc)) : HoldsK enc K w g 0 xs.toArray := by
  intro j hj
  rw [size_flatK] at hj
  have hj' : j < n * K := by rw [← hn]; simpa using hj
  have hs : j < (flatK enc K xs.toArray).size := by rw [size_flatK]; exact hj
  refine ⟨?_, by rw [Nat.zero_add]; exact h.frozenAt j⟩
  rw [Nat.zero_add, h.cellAt j hj', ← flatK_toList hk hK xs.toArray, Array.getElem?_toList, Array.getElem?_eq_getElem hs, getElem!_pos (flatK enc K xs.toArray) j hs]
  rfl

theorem own_of_sorted (hk : ∀ x, (enc x).length = K) (hK : 0 < K) (h : w.ownsRow base e K (.slice (some ⟨g, 0, none⟩) n cap) n (xs.flatMap enc)) (ys : List α) (hy : ys.length = n) (m : Nat) (os : Array Obj) :
    (sortWorldK enc K w g 0 m ys.toArray os).ownsRow base e K (.slice (some ⟨g, 0, none⟩) n cap) n (ys.flatMap enc) ∧ Gr g w (sortWorldK enc K w g 0 m ys.toArray os) := by
  have hlt := (h.lt g rfl)
  have hF : (flatK enc K ys.toArray).size = n * K := by rw [size_flatK]; simp [hy]
  constructor
  · rcases h.2 with ⟨h0, _⟩ | ⟨g', cap', cur, hv, hg, hh, hnc, hcm, hcs, ht⟩
    · cases h0
    · cases hv
      refine ⟨by rw [flat_len hk, hy], .inr ⟨g, cap, putCells id 0 (flatK enc K ys.toArray) cur, rfl, hlt.1, ?_, hnc, hcm, by simp [putCells, hcs], ?_⟩⟩
      · unfold sortWorldK
        rw [heap_grow_old _ _ (by simpa [putRowK] using hlt.2)]
        simp [putRowK, putRow, mapBlock, Sort.ahead, Array.getElem?_modify, hh, onCells]
      · have hle : n * K ≤ cur.size := by rw [hcs]; exact Nat.mul_le_mul_right K hnc
        apply List.ext_getElem?
        intro j
        by_cases hj : j < n * K
        · rw [List.getElem?_take_of_lt hj, Array.getElem?_toList]
          have hjc : j < cur.size := by omega
          have hs : j < (flatK enc K ys.toArray).size := by rw [hF]; exact hj
          have e1 := flatK_toList hk hK ys.toArray
          have e2 : (ys.flatMap enc)[j]? = some (flatK enc K ys.toArray)[j]! := by
            show (ys.toArray.toList.flatMap enc)[j]? = _
            rw [← e1, Array.getElem?_toList, Array.getElem?_eq_getElem hs, getElem!_pos (flatK enc K ys.toArray) j hs]
          rw [e2]
          simp [putCells, hjc, hF, hj]
        · rw [List.getElem?_take_eq_none (by omega), List.getElem?_eq_none (by rw [flat_len hk, hy]; omega)]
  · refine ⟨rfl, rfl, rfl, by simp [sortWorldK, putRowK, grow], fun k hkk hne => ?_⟩
    unfold sortWorldK
    rw [heap_grow_old _ _ (by simpa [putRowK] using hkk)]
    have : g ≠ k := fun e => hne (by rw [e])
    simp [putRowK, putRow, mapBlock, Sort.ahead, Array.getElem?_modify, this]
end

end Go.Proofs.YtjhmgkoghapocaaDoor
