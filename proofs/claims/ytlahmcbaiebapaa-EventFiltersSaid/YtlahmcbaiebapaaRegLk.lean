/- Drawn regions by facts: a look-up in a map whose run is known; a comparison of structs whose run is known. No function of the program is named here. -/
import Derived.Test.YtlahmcbaiebapaaRegAll
namespace Go.Proofs.Ytlahmcbaiebapaa
open Go.ChangeShapes Go.WideShapes Go.ChangeAt Go.RowKit Go.Mem
set_option linter.unusedVariables false
section
variable {P : Program} {ops : Array Oper} {o : Oper} {F : Act} {w : World} {Q : Exit → Act → World → Prop}
theorem rg_lookup (t : TypeId) (m x : Operand) (hgd : o.guard = none) (ho : o.op = .lookup t m x false) (vm vk v : Value) (hm : F.eval m = vm) (hx : F.eval x = vk) (hrun : (Instr.lookup t vm vk false).run P w = .ok v w) (h : Q .normal (F.put o.dst v) w) : wpList P ops Q [o] F w := by
  refine wpList_plain hgd fun K hK => ?_
  unfold Oper.wp
  simp [execOp, ho, hm, hx, hrun, Result.andThen]
  exact hK _ _ h
theorem rg_binrun (b : BinOp) (t tr : TypeId) (x y : Operand) (hgd : o.guard = none) (ho : o.op = .binOp b t x y tr) (vx vy v : Value) (hx : F.eval x = vx) (hy : F.eval y = vy) (hg : (eqGuard b t x y vx vy).run P w = .ok () w) (hrun : (binOp b t vx vy).run P w = .ok v w) (h : Q .normal (F.put o.dst v) w) : wpList P ops Q [o] F w := by
  refine wpList_plain hgd fun K hK => ?_
  unfold Oper.wp execOp
  simp [ho, hx, hy, hg, hrun, Sem.run_bind, Result.andThen, Oper.upon]
  exact hK _ _ h
end
end Go.Proofs.Ytlahmcbaiebapaa
