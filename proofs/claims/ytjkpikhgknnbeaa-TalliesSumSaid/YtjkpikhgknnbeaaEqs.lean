/- '==' and '!=' on structs. -/
import Derived.Test.YtjkpikhgknnbeaaNum
import Derived.Laws.StructEq
namespace Go.Proofs.Ytjkpikhgknnbeaa
open Go.RowKit

theorem gd_Cell : Try.prog.eqGuardType Try.prog.depth 31 = false := by kernel_rfl
theorem gd_Tally : Try.prog.eqGuardType Try.prog.depth 47 = false := by kernel_rfl
theorem sin_Cell (d : Nat) (x y a b : Int) (w : World) : (Op.equalIn (d + 2) 31 (.agg #[.int .i64 x, .int .i64 y]) (.agg #[.int .i64 a, .int .i64 b])).run Try.prog w = .ok (x == a && y == b) w := by
  have u3 := Try.underlying3
  have a3 := Try.isAgg3
  have z3 := Try.sizeOf3
  have hS : Try.prog.underlying 31 = some (.struct (Try.prog.fieldsOf 31)) := by kernel_rfl
  have hp : Try.prog.stoodInHeld 31 = false := by kernel_rfl
  rw [run_equalIn_agg w (d + 1) 31 _ _ hS hp]
  simp only [Program.fieldsOf, Try.underlying31]
  go_simp
  by_cases h1 : x = a <;> by_cases h2 : y = b <;> simp [h1, h2]
theorem neq_Cell (x y a b : Int) (w : World) : (binOp .neq 31 (.agg #[.int .i64 x, .int .i64 y]) (.agg #[.int .i64 a, .int .i64 b])).run Try.prog w = .ok (.bool (!(x == a && y == b))) w := by
  rw [run_neq_struct, show (10000 : Nat) = 9998 + 2 from rfl, sin_Cell]; rfl
theorem eql_Cell (x y a b : Int) (w : World) : (binOp .eql 31 (.agg #[.int .i64 x, .int .i64 y]) (.agg #[.int .i64 a, .int .i64 b])).run Try.prog w = .ok (.bool (x == a && y == b)) w := by
  rw [run_eql_struct, show (10000 : Nat) = 9998 + 2 from rfl, sin_Cell]; rfl
theorem sin_Tally (d : Nat) (x y h m a b c e : Int) (w : World) : (Op.equalIn (d + 3) 47 (.agg #[.int .i64 x, .int .i64 y, .int .i64 h, .int .i64 m]) (.agg #[.int .i64 a, .int .i64 b, .int .i64 c, .int .i64 e])).run Try.prog w = .ok ((x == a && y == b) && h == c && m == e) w := by
  have u3 := Try.underlying3
  have a3 := Try.isAgg3
  have z3 := Try.sizeOf3
  have a4 := Try.isAgg31
  have z4 := Try.sizeOf31
  have hC := fun w => sin_Cell d x y a b w
  have hS : Try.prog.underlying 47 = some (.struct (Try.prog.fieldsOf 47)) := by kernel_rfl
  have hp : Try.prog.stoodInHeld 47 = false := by kernel_rfl
  rw [run_equalIn_agg w (d + 2) 47 _ _ hS hp]
  simp only [Program.fieldsOf, Try.underlying47]
  go_simp
  by_cases h1 : x = a <;> by_cases h2 : y = b <;> by_cases h3 : h = c <;> by_cases h4 : m = e <;> simp [h1, h2, h3, h4]
theorem neq_Tally (x y h m a b c e : Int) (w : World) : (binOp .neq 47 (.agg #[.int .i64 x, .int .i64 y, .int .i64 h, .int .i64 m]) (.agg #[.int .i64 a, .int .i64 b, .int .i64 c, .int .i64 e])).run Try.prog w = .ok (.bool (!((x == a && y == b) && h == c && m == e))) w := by
  rw [run_neq_struct, show (10000 : Nat) = 9997 + 3 from rfl, sin_Tally]; rfl
end Go.Proofs.Ytjkpikhgknnbeaa
