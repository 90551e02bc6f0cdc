/- All cars, by the reference. -/
import Derived.Test.YtfkmbeppckelfaaGreatDoorQG21
import Derived.Test.YtfkmbeppckelfaaGreatDoorQG40
namespace Go.Proofs.YtfkmbeppckelfaaGreatDoor
open Go.RowKit Go.Maps

theorem RowsIn.snoc {w w' : World} {o : Obj} {lo lo2 n : Nat} {v : Value} {xs : List Value} {L : List WrS} {y : WrS} (h : RowsIn w lo L) (hy : w.ownsRow lo 9 1 (.slice y.ra y.core.rides.length y.rc) y.core.rides.length (y.core.rides.flatMap encS)) (hv : w.ownsRow lo2 57 5 v n xs) (hg : (w.alloc o).grownBy w' v.ownBlock) : RowsIn w' lo (L ++ [y]) := by
  intro x hx
  rcases List.mem_append.1 hx with hx | hx
  · exact (h.nx ((Nx.refl _).alloc _)).turn (hv.alloc _) hg x hx
  · rw [List.mem_singleton.1 hx]
    exact (hy.alloc _).kept hg (rows_apart (hy.alloc o) (hv.alloc o) (by decide))
end Go.Proofs.YtfkmbeppckelfaaGreatDoor
