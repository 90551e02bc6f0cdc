/- Sums by key in a map; their list in new memory. -/
import Derived.Test.YtjhmgkoghapocaaDoorCollK
import Derived.Test.YtjhmgkoghapocaaDoorFairR
namespace Go.Proofs.YtjhmgkoghapocaaDoor
open Go.RowKit Go.Sort Go.Shelf Go.Maps Go.Proofs

theorem law_str : Keyed Tryd.prog 9 := string_keyed Tryd.underlying9
abbrev MpK (w : World) (b n : Nat) (f : ByteArray → Option Int) : Prop := MoI Tryd.prog 9 3 Value.string domS w b n f
theorem zeroIntK (w : World) : (zeroValue 3).run Tryd.prog w = .ok (.int .i64 0) w := by kernel_rfl

/-- A slice of dues in new memory. -/
def DuesR (f : ByteArray → Option Int) (zero : Bool) (w : World) (e : Ending) (w' : World) : Prop :=
  ∃ (A : Option Addr) (c : Nat) (ys : List Due), e = .returned (.slice A ys.length c) ∧ DuesOf f zero ys ∧ Rd w' w.heap.size A 2 encDue ys ∧ ys.length ≤ 65536 ∧ Nx w w'
theorem coll_startD {D : DataW Unit} {f : ByteArray → Option Int} {zero : Bool} (hM : MoD Tryd.prog 9 Value.string domS D f) : CollK f zero (has D) [] :=
  collK_start fun k hk => by rw [hM.has_ (hM.dm k hk) (keyS_mk Tryd.underlying9 (hM.dm k hk))]; exact hk
end Go.Proofs.YtjhmgkoghapocaaDoor
