/- Full, of right zones, price and trip. -/
import Derived.Test.YtemaiikgnogfhaaGreatDoorQFullA
import Derived.Test.YtemaiikgnogfhaaGreatDoorQG11
import Derived.Deep.DeepCutAuto
namespace Go.Proofs.YtemaiikgnogfhaaGreatDoor
open Go.RowKit

theorem orI_zero3 {a b c : Int} (h : orI [a, b, c] = 0) : a = 0 ∧ b = 0 ∧ c = 0 := by
  unfold orI at h
  by_cases ha : a = 0
  · subst ha
    simp at h
    unfold orI at h
    by_cases hb : b = 0
    · subst hb
      simp at h
      unfold orI at h
      by_cases hc : c = 0
      · exact ⟨rfl, rfl, hc⟩
      · simp [hc] at h
    · simp [hb] at h
  · simp [ha] at h

end Go.Proofs.YtemaiikgnogfhaaGreatDoor
