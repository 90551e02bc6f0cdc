/- A whole shared fairly: the reference's walk. -/
import Derived.Test.YtfnbmcinbmbehaaGreatQG7
namespace Go.Proofs.YtfnbmcinbmbehaaGreat
open Go.RowKit Go.Sort Go.Proofs Go.Shelf

theorem shl_pow2 {n : Nat} (h : n ≤ 10) : IntKind.i64.wrap ((2 : Int) ^ n) = ((2 ^ n : Nat) : Int) := by
  have h1 := pow_bd h
  have e : ((2 : Int) ^ n) = ((2 ^ n : Nat) : Int) := by rw [Int.natCast_pow]; rfl
  rw [e]
  generalize 2 ^ n = P at *
  exact IntWalk.i64_in _ (by omega)
end Go.Proofs.YtfnbmcinbmbehaaGreat
