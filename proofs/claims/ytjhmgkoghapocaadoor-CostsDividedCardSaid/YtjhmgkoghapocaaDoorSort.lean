/- slices.SortFunc over a row of the call's own, elements of K cells: what the row holds behind it. Of no program. -/
import Derived.Test.YtjhmgkoghapocaaDoorRowK
import Derived.Shelf.SlSortCmp.NoneTotal
namespace Go.Proofs.YtjhmgkoghapocaaDoor
open Go.RowKit Go.Sort Go.Proofs Go.Shelf

/-- slices.SortFunc, a comparison that parts whatever two that are not one: the sorted list. -/
theorem sortFunc {α : Type} [Inhabited α] {P : Program} {ρ : Ren} (L : SlLaysF0.n6 P ρ) (K : Nat) (hK : 0 < K) (aE : ∀ w, (isAgg (ρ.t 24)).run P w = .ok true w) (zE : ∀ w, (Go.sizeOf (ρ.t 24)).run P w = .ok K w) (enc : α → List Value) (hk : ∀ x, (enc x).length = K) (h1 : ∀ x, ∀ v ∈ enc x, v.oneCell' = true)
    (cf : α → α → Int) (hO : SWO (ltOf cf)) (g : Nat) (eg : ∀ args w, (callFunc g args).run P w = .ok (.enter g args) w)
    (hcmp : ∀ x y W, Calls P g #[.agg (enc x).toArray, .agg (enc y).toArray] W fun e w' => e = .returned (.int .i64 (cf x y)) ∧ Lays W w')
    {w : World} {base b cap n : Nat} {e : TypeId} {xs : List α} (hn : xs.length = n) (hsz : n < 4611686018427387904) (h : w.ownsRow base e K (.slice (some ⟨b, 0, none⟩) n cap) n (xs.flatMap enc)) :
    Calls P (ρ.f 6) #[.slice (some ⟨b, 0, none⟩) n cap, .func (.func g) #[] #[]] w fun en w' => en = .returned (.tuple #[]) ∧
      ∃ ys : List α, ys.Perm xs ∧ (∀ i j (hi : i < j) (hj : j < ys.length), ltOf cf ys[j] (ys[i]'(by omega)) = false) ∧ w'.ownsRow base e K (.slice (some ⟨b, 0, none⟩) n cap) n (ys.flatMap enc) ∧ Gr b w w' := by
  have hlt := (h.lt b rfl)
  have hH := holds_of_own hk hK hn h
  have hc : CmpLays P g #[] enc K cf b 0 xs.toArray.size w := fun m os dk _ x y => by
    rw [Array.append_empty]
    exact hcmp x y _
  have hs := AnyQ.slices_SortFunc L K aE zE enc hk h1 cf hO g #[] b 0 cap xs.toArray w eg hc hH hlt.2 (by simpa [hn] using hsz)
  have e1 : xs.toArray.size = n := by simpa using hn
  rw [e1] at hs
  refine hs.mono fun en w' ⟨he, d', m, os, hp, hso, hw⟩ => ⟨he, d'.toList, ?_, ?_, ?_⟩
  · have h3 := hp.2.2
    have h4 := hp.1
    rw [e1] at h4
    have e2 : d'.extract 0 n = d' := by rw [← h4]; simp
    have e3 : xs.toArray.extract 0 n = xs.toArray := by rw [← e1]; simp
    rw [e2, e3] at h3
    simpa using h3
  · intro i j hi hj
    have hj' : j < d'.size := by simpa using hj
    have h4 := hp.1
    rw [e1] at h4
    have := hso i j (Nat.zero_le _) hi (by omega)
    rw [getElem!_pos d' j hj', getElem!_pos d' i (by omega)] at this
    simpa using this
  · have h4 := hp.1
    rw [e1] at h4
    have := own_of_sorted hk hK h d'.toList (by simpa using h4) m os
    rw [hw]
    simpa using this
end Go.Proofs.YtjhmgkoghapocaaDoor
