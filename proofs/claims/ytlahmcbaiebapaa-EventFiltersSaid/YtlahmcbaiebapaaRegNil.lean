/- A nil check in a drawn region by facts. -/
import Derived.Test.YtlahmcbaiebapaaRegAll
namespace Go.Mem
open Go.Proofs Go.RowKit
set_option linter.unusedVariables false
section
variable {P : Program} {ops : Array Oper} {o : Oper} {F : Act} {w : World} {Q : Exit → Act → World → Prop}
theorem one_nilCheck (x : Operand) (hgd : o.guard = none) (ho : o.op = .nilCheck x) (p : Addr) (hx : F.eval x = .pointer (some p)) (h : Q .normal (F.put o.dst (.pointer (some p))) w) : wpList P ops Q [o] F w := by
  refine wpList_plain hgd fun K hK => ?_
  unfold Oper.wp execOp
  simp [ho, hx, Oper.upon]
  exact hK _ _ h
theorem rg_slice_ent (t e : TypeId) (x0 : Operand) (hgd : o.guard = none) (ho : o.op = .buildSlice t 1 #[(0, x0)]) (a b : Int) (h0 : F.eval x0 = .agg #[.int .i64 a, .int .i64 b])
    (hu : P.underlying t = some (.slice e)) (hi : (P.info? e).map (fun i => (i.zero, i.size)) = some (some (.agg #[.int .i64 0, .int .i64 0]), 2)) (h : Q .normal (F.put o.dst (.slice (some ⟨w.heap.size, 0, none⟩) 1 1)) (w.alloc (.cells #[.int .i64 a, .int .i64 b] e (0, 0)))) : wpList P ops Q [o] F w := by
  obtain ⟨i, hi2, hzz⟩ := Option.map_eq_some_iff.1 hi
  simp only [Prod.mk.injEq] at hzz
  refine wpList_plain hgd fun K hK => ?_
  refine wp_buildSlice t e 1 _ ho #[.int .i64 a, .int .i64 b] i (.agg #[.int .i64 0, .int .i64 0]) hu hi2 hzz.1 (by rw [hzz.2]; decide) (by rw [hzz.2]; decide) ?_ (hK _ _ h)
  rw [hzz.2]
  simp only [List.map_toArray, List.map_cons, List.map_nil, h0]
  have hr : Array.range 2 = #[0, 1] := by decide
  simp [Instr.fill, Value.cells, hr]
theorem rg_store_sl (hgd : o.guard = none) (ty : TypeId) (x y : Operand) (ho : o.op = .store ty x y) (b i : Nat) (sa : Option Addr) (sn sc : Nat) (old : Value) (hx : F.eval x = .pointer (some ⟨b, i, none⟩)) (hy : F.eval y = .slice sa sn sc) (hc : w.cell? ⟨b, i, none⟩ = some old) (hf : w.frozen? ⟨b, i, none⟩ = false)
    (hi : (P.info? ty).map (·.size) = some 1) (h : Q .normal (F.put o.dst undef) (w.setCell ⟨b, i, none⟩ (.slice sa sn sc))) : wpList P ops Q [o] F w := by
  have hrun : (storeVar ty ⟨b, i, none⟩ (.slice sa sn sc)).run P w = .ok () (w.setCell ⟨b, i, none⟩ (.slice sa sn sc)) := by
    cases hq : P.info? ty with
    | none => simp [hq] at hi
    | some ie =>
      have hs : ie.size = 1 := by simpa [hq] using hi
      have hst := run_storeCells_cells (P := P) b i [.slice sa sn sc] 0 w (fun j hj => by simp at hj; subst hj; simp [hc]) (fun j hj => by simp at hj; subst hj; exact hf) (by simp [Value.oneCell'])
      simp only [Nat.add_zero] at hst
      have hcl : (Value.slice sa sn sc).cells = #[.slice sa sn sc] := rfl
      simp [storeVar, sizeOf, typeInfo, hq, hs, hcl, hst, World.setCells]
  refine wpList_plain hgd fun K hK => ?_
  unfold Oper.wp execOp
  simp [ho, hx, hy, Instr.storeAt, Instr.sureAddr, hrun, Oper.upon]
  exact hK _ _ h
end
end Go.Mem
