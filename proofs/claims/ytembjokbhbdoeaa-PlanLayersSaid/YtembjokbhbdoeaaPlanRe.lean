/- Drawn regions by facts: the loading of a system, the address of one. -/
import Derived.Test.YtembjokbhbdoeaaPlanDep
import Derived.Test.YtembjokbhbdoeaaRegGuard
import Derived.Test.YtembjokbhbdoeaaRegTail
namespace Go.Proofs.Ytembjokbhbdoeaa
open Go.ChangeShapes Go.WideShapes Go.ChangeAt Go.RowKit Go.Mem
set_option linter.unusedVariables false
section
variable {P : Program} {ops : Array Oper} {o : Oper} {F : Act} {w : World} {Q : Exit → Act → World → Prop}
theorem one_load7 (ty : TypeId) (x : Operand) (hgd : o.guard = none) (ho : o.op = .load ty x) (b q : Nat) (v0 v1 v2 v3 v4 v5 v6 : Value) (hx : F.eval x = .pointer (some ⟨b, q, none⟩)) (hc : Cells7 w b q v0 v1 v2 v3 v4 v5 v6)
    (d : TypeDesc) (hu : P.underlying ty = some d) (hd : (match d with | .struct _ | .array _ _ => true | _ => false) = true) (hs : (P.info? ty).map (·.size) = some 7) (h : Q .normal (F.put o.dst (.agg #[v0, v1, v2, v3, v4, v5, v6])) w) : wpList P ops Q [o] F w := by
  obtain ⟨c0, c1, c2, c3, c4, c5, c6⟩ := hc
  have hl : (loadCells ⟨b, q, none⟩ 7).run P w = .ok #[v0, v1, v2, v3, v4, v5, v6] w :=
    run_loadCells_list (P := P) w ⟨b, q, none⟩ [v0, v1, v2, v3, v4, v5, v6] (fun j v hv => by
      rw [Addr.add_lit]
      match j with
      | 0 => simpa using hv ▸ c0
      | 1 => simpa using hv ▸ c1
      | 2 => simpa using hv ▸ c2
      | 3 => simpa using hv ▸ c3
      | 4 => simpa using hv ▸ c4
      | 5 => simpa using hv ▸ c5
      | 6 => simpa using hv ▸ c6
      | j + 7 => simp at hv)
  cases hq : P.info? ty with
  | none => simp [hq] at hs
  | some i =>
    have hsz : i.size = 7 := by simpa [hq] using hs
    have hagg : (isAgg ty).run P w = .ok true w := by
      unfold isAgg
      rw [Sem.run_bind, run_underlying hu w]
      cases d <;> simp_all
    refine wpList_plain hgd fun K hK => ?_
    unfold Oper.wp execOp
    simp [ho, hx, Instr.loadAt, Instr.sureAddr, loadVar, Sem.run_bind, hagg, sizeOf, typeInfo, hq, hsz, hl, Oper.upon]
    exact hK _ _ h
end
theorem idx_sys (xb xo n c j : Nat) (hj : j < n) (w : World) : (Instr.indexAt 22 (.slice (some ⟨xb, xo, none⟩) n c) (.int .i64 j)).run Try.prog w = .ok (.pointer (some ⟨xb, xo + j * 7, none⟩)) w := by
  have i1 : (0 : Int) ≤ (j : Int) := by omega
  have i2 : (j : Int) < (n : Int) := by omega
  go_simp
end Go.Proofs.Ytembjokbhbdoeaa
