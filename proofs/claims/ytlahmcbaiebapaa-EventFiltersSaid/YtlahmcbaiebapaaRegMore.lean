/- More operations of a region that is walked by facts: a call of a function value, a negation, a slice literal. -/
import Derived.Test.YtlahmcbaiebapaaRegInv
import Derived.Test.YtlahmcbaiebapaaMem2
import Derived.Great.BuildSlice
import Derived.Lib.SliceRun
namespace Go.Mem
open Go.Proofs Go.RowKit
section
variable {P : Program} {ops : Array Oper} {o : Oper} {F : Act} {w : World} {Q : Exit → Act → World → Prop}
theorem one_callv {f : FuncId} (x : Operand) (args : Array Operand) (T : Array TypeId) (hgd : o.guard = none) (ho : o.op = .call { callee := .value x, args := args, argTypes := T }) (hx : F.eval x = .func (.func f) #[] #[]) (hE : ∀ (args : Array Value) (w : World), (callFunc f args).run P w = .ok (.enter f args) w)
    (vals : Array Value) (hv : args.map F.eval = vals) (h : Calls P f vals w fun e w' => ∃ v, e = .returned v ∧ Q .normal (F.put o.dst v) w') : wpList P ops Q [o] F w := by
  refine wpList_plain hgd fun K hK => ?_
  unfold Oper.wp execOp
  simp [ho, resolve, Deferred.ofValue, invoke, hv, hx, hE, Oper.upon]
  exact h.mono (fun e w' ⟨v, he, hq⟩ => by subst he; exact hK _ _ hq)
theorem one_unop (u : UnOp) (ty : TypeId) (x : Operand) (hgd : o.guard = none) (ho : o.op = .unOp u ty x) (v r : Value) (hx : F.eval x = v)
    (hi : ∀ w : World, (Op.unary u v).run P w = .ok r w) (h : Q .normal (F.put o.dst r) w) : wpList P ops Q [o] F w := by
  refine wpList_plain hgd fun K hK => ?_
  unfold Oper.wp execOp
  simp [ho, hx, hi, Oper.upon]
  exact hK _ _ h
theorem one_index (ty : TypeId) (x y : Operand) (hgd : o.guard = none) (ho : o.op = .indexAddr ty x y) (u v r : Value) (hx : F.eval x = u) (hy : F.eval y = v)
    (hi : ∀ w : World, (Instr.indexAt ty u v).run P w = .ok r w) (h : Q .normal (F.put o.dst r) w) : wpList P ops Q [o] F w := by
  refine wpList_plain hgd fun K hK => ?_
  unfold Oper.wp execOp
  simp [ho, hx, hy, hi, Oper.upon]
  exact hK _ _ h
theorem wpList_store_cell {rest : List Oper} {a : Act} (hgd : o.guard = none) (ty : TypeId) (x y : Operand) (ho : o.op = .store ty x y) (b i : Nat) (z : Int) (old : Value) (hx : a.eval x = .pointer (some ⟨b, i, none⟩)) (hy : a.eval y = .int .i64 z) (hc : w.cell? ⟨b, i, none⟩ = some old) (hf : w.frozen? ⟨b, i, none⟩ = false)
    (hi : (P.info? ty).map (·.size) = some 1) (h : wpList P ops Q rest (a.put o.dst undef) (w.setCell ⟨b, i, none⟩ (.int .i64 z))) : wpList P ops Q (o :: rest) a w := by
  have hrun : (storeVar ty ⟨b, i, none⟩ (.int .i64 z)).run P w = .ok () (w.setCell ⟨b, i, none⟩ (.int .i64 z)) := by
    cases hq : P.info? ty with
    | none => simp [hq] at hi
    | some ie =>
      have hs : ie.size = 1 := by simpa [hq] using hi
      have hst := run_storeCells_cells (P := P) b i [.int .i64 z] 0 w (fun j hj => by simp at hj; subst hj; simp [hc]) (fun j hj => by simp at hj; subst hj; exact hf) (by simp [Value.oneCell'])
      simp only [Nat.add_zero] at hst
      have hcl : (Value.int .i64 z).cells = #[.int .i64 z] := rfl
      simp [storeVar, sizeOf, typeInfo, hq, hs, hcl, hst, World.setCells]
  refine wpList_plain hgd fun K hK => ?_
  unfold Oper.wp execOp
  simp [ho, hx, hy, Instr.storeAt, Instr.sureAddr, hrun, Oper.upon]
  exact hK _ _ h
theorem one_slice4 (t e : TypeId) (x0 x1 x2 x3 : Operand) (hgd : o.guard = none) (ho : o.op = .buildSlice t 4 #[(0, x0), (1, x1), (2, x2), (3, x3)]) (a b c d : Int) (h0 : F.eval x0 = .int .i64 a) (h1 : F.eval x1 = .int .i64 b) (h2 : F.eval x2 = .int .i64 c) (h3 : F.eval x3 = .int .i64 d)
    (hu : P.underlying t = some (.slice e)) (hie : (P.info? e).map (fun i => (i.zero, i.size)) = some (some (.int .i64 0), 1))
    (h : Q .normal (F.put o.dst (.slice (some ⟨w.heap.size, 0, none⟩) 4 4)) (w.alloc (.cells #[.int .i64 a, .int .i64 b, .int .i64 c, .int .i64 d] e))) : wpList P ops Q [o] F w := by
  obtain ⟨ie, hi, hzz⟩ := Option.map_eq_some_iff.1 hie
  simp only [Prod.mk.injEq] at hzz
  refine wpList_plain hgd fun K hK => ?_
  refine wp_buildSlice t e 4 _ ho #[.int .i64 a, .int .i64 b, .int .i64 c, .int .i64 d] ie (.int .i64 0) hu hi hzz.1 (by rw [hzz.2]; decide) (by rw [hzz.2]; decide) ?_ (hK _ _ h)
  rw [hzz.2]
  simp only [List.map_toArray, List.map_cons, List.map_nil, h0, h1, h2, h3]
  have hr : Array.range 4 = #[0, 1, 2, 3] := by decide
  simp [Instr.fill, Value.cells, hr]
end
theorem parts3 {F : Act} {i j k : Nat} {x y z : Operand} {u v p : Value} (hx : F.eval x = u) (hy : F.eval y = v) (hz : F.eval z = p) : #[(i, x), (j, y), (k, z)].map (fun p => (p.1, F.eval p.2)) = #[(i, u), (j, v), (k, p)] := by simp [hx, hy, hz]
/-- A slice of the region's own. -/
def NewInts (zs : List Int) (v : Value) (w : World) : Prop := ∃ X, v = .slice (some ⟨X, 0, none⟩) 4 4 ∧ IntsAt .i64 w (some ⟨X, 0, none⟩) zs
theorem NewInts.mono {zs : List Int} {w w' : World} {v : Value} (h : NewInts zs v w) (hb : RowKit.Below w.heap.size w w') : NewInts zs v w' := by
  obtain ⟨X, h1, h2⟩ := h
  exact ⟨X, h1, h2.below hb⟩
end Go.Mem
