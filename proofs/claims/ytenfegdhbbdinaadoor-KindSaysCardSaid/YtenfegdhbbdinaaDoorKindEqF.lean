/- A field is equal to itself. -/
import Derived.Test.YtenfegdhbbdinaaDoorKindOne
namespace Go.Proofs.YtenfegdhbbdinaaDoor
open Go.ChangeShapes Go.WideShapes Go.ChangeAt Go.RowKit Go.Nm Go.Mem
set_option linter.unusedVariables false
theorem fld_same (s : ByteArray) (b l : Int) (w : World) : (Op.equalIn 10000 39 (.agg #[.string s, .int .i64 b, .int .i64 l]) (.agg #[.string s, .int .i64 b, .int .i64 l])).run Tryd.prog w = .ok true w := by
  have u3 := Tryd.underlying3
  have u4 := Tryd.underlying9
  have a3 := Tryd.isAgg3
  have z3 := Tryd.sizeOf3
  have a4 := Tryd.isAgg9
  have z4 := Tryd.sizeOf9
  rw [show (10000 : Nat) = 9999 + 1 from rfl, Op.equalIn]
  simp only [Sem.run_bind, run_underlying Tryd.underlying39, Result.andThen_ok]
  go_simp
theorem fld_neq (s : ByteArray) (b l : Int) (w : World) : (binOp .neq 39 (.agg #[.string s, .int .i64 b, .int .i64 l]) (.agg #[.string s, .int .i64 b, .int .i64 l])).run Tryd.prog w = .ok (.bool false) w := by
  have h := fld_same s b l
  simp [binOp, Op.equal, Op.maxDepth, h]
theorem fld_guard (x y : Operand) (s : ByteArray) (b l : Int) (w : World) : (eqGuard .neq 39 x y (.agg #[.string s, .int .i64 b, .int .i64 l]) (.agg #[.string s, .int .i64 b, .int .i64 l])).run Tryd.prog w = .ok () w := by
  have h : Tryd.prog.eqGuardType Tryd.prog.depth 39 = false := by kernel_rfl
  simp [eqGuard, h]
end Go.Proofs.YtenfegdhbbdinaaDoor
