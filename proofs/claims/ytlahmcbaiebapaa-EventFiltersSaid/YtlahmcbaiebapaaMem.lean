/- Laws on memory that the walks of this seat use: appends and makes on rows of the call's own, whole rows stored, draws. No program is named here. -/
import Derived.WalkKit
import Derived.ProofKit
import Derived.Lib.Hide
import Derived.Deep.AppendLies
import Derived.BigQuiet
import Derived.Deep.QuietTactic
namespace Go
open Go.RowKit

namespace Mem
/-- Two calls, one behind the other. -/
theorem bt {w a b : World} (h1 : Below w.heap.size w a) (h2 : Below a.heap.size a b) : Below w.heap.size w b := h1.trans (h2.mono h1.size)
theorem below_drewN {B : Nat} {w w2 : World} (h : Below B w w2) (n : Nat) : Below B w (w2.drewN n) := ⟨h.os, h.tape, h.output, h.size, h.block⟩

/-- 'append(v, x)' of one element, v nil or the call's own: the one element lies in a new block of its own. -/
theorem wpList_append_new {P : Program} {w : World} {ops : Array Oper} {rest : List Oper} {o : Oper} {a : Act} {Q : Exit → Act → World → Prop} (hgd : o.guard = none) (s x : Operand) (t : TypeId)
    (ho : o.op = .call { callee := .builtin .append, args := #[s, x], argTypes := #[t, t] })
    (base : Nat) (e : TypeId) (z : Value) (size bytes : Nat) (ht : P.underlying t = some (.slice e)) (hi : (P.info? e).map (fun i => (i.zero, i.size, i.bytes)) = some (some z, size, bytes))
    (hzs : z.cells.size = size) (hsz : 0 < size)
    (v : Value) (n : Nat) (xs : List Value) (hs : a.eval s = v) (hown : w.ownsRow base e size v n xs)
    (U : Array Value) (T : TypeId) (hx : a.eval x = .slice (some ⟨w.heap.size, 0, none⟩) 1 1) (hU : U.size = size) (h1 : U.toList.all (·.oneCell') = true)
    (hbytes : (n + 1) * bytes ≤ 140737488355328) (hby : 0 < bytes) (hbase : base ≤ w.heap.size)
    (h : ∀ g cap w', w'.ownsRow base e size (.slice (some ⟨g, 0, none⟩) (n + 1) cap) (n + 1) (xs ++ U.toList) → w.grownBy w' v.ownBlock → (v.ownBlock = some g ∨ g = w.heap.size + 1) → g < w'.heap.size → wpList P ops Q rest (a.put o.dst (.slice (some ⟨g, 0, none⟩) (n + 1) cap)) w') :
    wpList P ops Q (o :: rest) a (w.alloc (.cells U T)) := by
  obtain ⟨i, hi1, hi2, hi3, hi4⟩ := info_parts hi
  have hn : n + 1 ≤ 140737488355328 := Nat.le_trans (Nat.le_mul_of_pos_right _ hby) hbytes
  refine wpList_append_lies _ hgd s x t ho base e i z size bytes ht hi1 hi2 hi3 hi4 hzs hsz v n xs hs (hown.alloc _) ⟨w.heap.size, 0, none⟩ 1 1 U.toList hx (by simp [hU]) (World.news_of_block (heap_alloc_new w _)) (fun v hv => List.all_eq_true.1 h1 v hv)
    (by omega) (by unfold maxLen; omega) hbytes (by simp; omega) (w.heap.size + 1) (by simp) ?_
  intro g cap w' hown' hg hor hlt
  exact h g cap w' hown' ((World.grownBy_alloc w _ _).trans hg) hor hlt

/-- 'build' with its cells named. -/
theorem wpList_build_as {P : Program} {ops : Array Oper} {rest : List Oper} {o : Oper} {a : Act} {w : World} {Q : Exit → Act → World → Prop} (hg : o.guard = none) (t : TypeId) (parts : Array (Nat × Operand)) (ho : o.op = .build t parts)
    (cells : Array Value) (hf : P.built t (parts.map fun (i, x) => (i, a.eval x)).toList = some cells)
    (h : wpList P ops Q rest (a.put o.dst (.agg cells)) w) : wpList P ops Q (o :: rest) a w :=
  wpList_build hg t parts ho (by rw [hf]; rfl) (by rw [hf]; exact h)

/-- A whole row stored into a block of the call's own: the world behind it is a name. -/
theorem wpList_store_abs {P : Program} {ops : Array Oper} {rest : List Oper} {o : Oper} {a : Act} {w : World} {Q : Exit → Act → World → Prop} (hgd : o.guard = none) (ty : TypeId) (x y : Operand) (ho : o.op = .store ty x y)
    (g : Nat) (cells : Array Value) (hx : a.eval x = .pointer (some ⟨g, 0, none⟩)) (hy : a.eval y = .agg cells)
    (t : TypeId) (old : Array Value) (hg : w.heap[g]? = some (.cells old t (0, 0))) (hi : (P.info? ty).map (·.size) = some cells.size)
    (hold : old.size = cells.size) (h1 : cells.all (·.oneCell') = true)
    (h : ∀ w2 : World, w2.heap[g]? = some (.cells cells t (0, 0)) → RowKit.Below g w w2 → w2.heap.size = w.heap.size → wpList P ops Q rest (a.put o.dst undef) w2) : wpList P ops Q (o :: rest) a w :=
  wpList_store_row hgd ty x y ho g cells hx hy t old hg hi hold h1
    (h _ (setRow_heap w g old cells t _ hg) ⟨rfl, rfl, rfl, by simp, fun k hk => setRow_other w g k cells (by omega)⟩ (by simp))

/-- Behind a store into a variable of its own block: the block holds the new value, all others are as they were. -/
structure Put (w w2 : World) (g : Nat) (t : TypeId) (v : Value) : Prop where
  here : w2.heap[g]? = some (.cells #[v] t (0, 0))
  else_ : ∀ k, k ≠ g → w2.heap[k]? = w.heap[k]?
  size : w2.heap.size = w.heap.size
  os : w2.os = w.os
  tape : w2.tape = w.tape
  output : w2.output = w.output
theorem Put.below {w w2 : World} {g B : Nat} {t : TypeId} {v : Value} (h : Put w w2 g t v) (hB : B ≤ g) : Below B w w2 := ⟨h.os, h.tape, h.output, by rw [h.size]; exact Nat.le_refl _, fun k hk => h.else_ k (by omega)⟩

theorem Put.drew {w w2 : World} {g : Nat} {t : TypeId} {v : Value} (h : Put w w2 g t v) : Put w w2.drew g t v := ⟨h.here, h.else_, h.size, h.os, h.tape, h.output⟩
theorem put_setCell {w : World} {g : Nat} {t : TypeId} {old v : Value} (hg : w.heap[g]? = some (.cells #[old] t (0, 0))) : Put w (w.setCell ⟨g, 0, none⟩ v) g t v :=
  ⟨by rw [heap_setCell_same w g 0 _ t v hg]; rfl, fun k hk => heap_setCell_other w ⟨g, 0, none⟩ k v hk, by simp, rfl, rfl, rfl⟩

theorem wpList_store_var {P : Program} {ops : Array Oper} {rest : List Oper} {o : Oper} {a : Act} {w : World} {Q : Exit → Act → World → Prop} (hgd : o.guard = none) (ty : TypeId) (x y : Operand) (ho : o.op = .store ty x y)
    (g : Nat) (v : Value) (hx : a.eval x = .pointer (some ⟨g, 0, none⟩)) (hy : a.eval y = v) (hv : v.cells = #[v]) (h1 : v.oneCell' = true)
    (t : TypeId) (old : Value) (hg : w.heap[g]? = some (.cells #[old] t (0, 0))) (hi : (P.info? ty).map (·.size) = some 1)
    (h : ∀ w2 : World, Put w w2 g t v → wpList P ops Q rest (a.put o.dst undef) w2) : wpList P ops Q (o :: rest) a w := by
  have hrun : (storeVar ty ⟨g, 0, none⟩ v).run P w = .ok () (w.setRow g #[v]) := by
    have := run_storeCells_from (P := P) g t [v] 0 #[old] w hg (by simp) (fun u hu => by simp at hu; subst hu; exact h1)
    cases hq : P.info? ty with
    | none => simp [hq] at hi
    | some i =>
      have hs : i.size = 1 := by simpa [hq] using hi
      simp [storeVar, sizeOf, typeInfo, hq, hv, hs, this]
  refine wpList_plain hgd fun K hK => ?_
  unfold Oper.wp execOp
  simp only [ho, hx, hy, Instr.storeAt, Instr.sureAddr, Sem.run_bind, Sem.run_pure, Result.andThen_ok, hrun]
  exact hK _ _ (h _ ⟨setRow_heap w g _ _ t _ hg, fun k hk => setRow_other w g k _ hk, by simp, rfl, rfl, rfl⟩)

/-- A slice of integers that came in: nil, or 'cap' cells, of which the first 'len' are its elements. -/
def IsRow (k : IntKind) (w : World) (a : Option Addr) (len cap : Nat) (zs : List Int) : Prop :=
  (a = none ∧ len = 0 ∧ cap = 0 ∧ zs = []) ∨
  ∃ x, a = some x ∧ len ≤ cap ∧ cap ≤ maxLen ∧ zs.length = cap ∧ (∀ i, i < zs.length → w.cell? (x.add i) = some (.int k (zs.getD i 0))) ∧ ∀ n ∈ zs, (Lit.int k n).wf = true
end Mem
end Go
