/- Drawn regions by facts: a slice of one struct, and what is appended behind it. -/
import Derived.Test.YtenfegdhbbdinaaDoorRegGuard
import Derived.Test.YtenfegdhbbdinaaDoorMem3
import Derived.ArgAppend
import Derived.Great.BuildSlice
namespace Go.Mem
open Go.Proofs Go.ChangeShapes Go.WideShapes Go.ChangeAt Go.RowKit
section
variable {P : Program} {ops : Array Oper} {o : Oper} {F : Act} {w : World} {Q : Exit → Act → World → Prop}
/-- 'append(s, x...)' where s is a row of one element, full. -/
theorem one_append1 (s x : Operand) (t e : TypeId) (hgd : o.guard = none) (ho : o.op = .call { callee := .builtin .append, args := #[s, x], argTypes := #[t, t] })
    (z : Value) (sz bytes : Nat) (ht : P.underlying t = some (.slice e)) (hi : (P.info? e).map (fun i => (i.zero, i.size, i.bytes)) = some (some z, sz, bytes)) (hzs : z.cells.size = sz) (hsz : 0 < sz)
    (G : Nat) (olds : List Value) (hs : F.eval s = .slice (some ⟨G, 0, none⟩) 1 1) (hlo : olds.length = sz) (holds : ∀ j u, olds[j]? = some u → w.cell? ⟨G, j, none⟩ = some u)
    (A : Option Addr) (m c : Nat) (zs : List Value) (hx : F.eval x = .slice A m c) (hm : zs.length = m * sz) (hr : CellsAt w A zs)
    (hn : 1 + m ≤ maxLen) (hbytes : (1 + m) * bytes ≤ 140737488355328)
    (h : ∀ v' w', (∃ a c, v' = .slice a (1 + m) c) → w.grownBy w' none → Q .normal (F.put o.dst v') w') : wpList P ops Q [o] F w := by
  obtain ⟨i, hi1, hi2, hi3, hi4⟩ := info_parts hi
  have key : ∃ v' w', (Builtin.append_ #[t, t] o.type #[.slice (some ⟨G, 0, none⟩) 1 1, .slice A m c]).run P w = .ok v' w' ∧ (∃ a c, v' = .slice a (1 + m) c) ∧ w.grownBy w' none := by
    by_cases h0 : m = 0
    · subst h0
      refine ⟨.slice (some ⟨G, 0, none⟩) 1 1, w, ?_, ⟨_, _, rfl⟩, World.grownBy.refl w _⟩
      cases A <;> simp [Builtin.append_, run_underlying ht, sizeOf, typeInfo, hi1, Builtin.lenOf, Builtin.firstCells, loadCells, loadCellsFrom, storeCells]
    · obtain ⟨ad, rfl, _, hc⟩ := hr (by rw [hm]; exact Nat.mul_pos (by omega) hsz)
      obtain ⟨v', w', hrun, r1, r2⟩ := run_append_arg_grows (P := P) w t o.type e i z sz bytes ht hi1 hi2 hi3 hi4 hzs hsz ⟨G, 0, none⟩ 1 1 olds (by omega) (fun j u hj => by rw [Addr.add_lit, Nat.zero_add]; exact holds j u hj) ad m c zs hm hc (by omega) hn hbytes
      refine ⟨v', w', hrun, ?_, r2⟩
      rcases r1.2 with ⟨_, hz⟩ | ⟨g, cap, cur, hv, _⟩
      · omega
      · exact ⟨_, _, hv⟩
  obtain ⟨v', w', hrun, h2, h3⟩ := key
  refine wpList_plain hgd fun K hK => ?_
  unfold Oper.wp execOp
  simp only [ho, resolve, invoke, builtin, Sem.run_bind, Sem.run_pure, Result.andThen_ok, List.map_toArray, List.map_cons, List.map_nil, hs, hx, hrun]
  exact hK _ _ (h v' w' h2 h3)
/-- '[]T' of one struct of two cells -/
theorem one_slice2c (t e : TypeId) (x0 : Operand) (hgd : o.guard = none) (ho : o.op = .buildSlice t 1 #[(0, x0)]) (u0 u1 z0 z1 : Value) (h0 : F.eval x0 = .agg #[u0, u1])
    (hu : P.underlying t = some (.slice e)) (hie : (P.info? e).map (fun i => (i.zero, i.size)) = some (some (.agg #[z0, z1]), 2))
    (h : Q .normal (F.put o.dst (.slice (some ⟨w.heap.size, 0, none⟩) 1 1)) (w.alloc (.cells #[u0, u1] e))) : wpList P ops Q [o] F w := by
  obtain ⟨ie, hi, hzz⟩ := Option.map_eq_some_iff.1 hie
  simp only [Prod.mk.injEq] at hzz
  refine wpList_plain hgd fun K hK => ?_
  refine wp_buildSlice t e 1 _ ho #[u0, u1] ie (.agg #[z0, z1]) hu hi hzz.1 (by rw [hzz.2]; decide) (by rw [hzz.2]; decide) ?_ (hK _ _ h)
  rw [hzz.2]
  simp only [List.map_toArray, List.map_cons, List.map_nil, h0]
  have hr : Array.range 2 = #[0, 1] := by decide
  simp [Instr.fill, Value.cells, hr]
end
end Go.Mem
