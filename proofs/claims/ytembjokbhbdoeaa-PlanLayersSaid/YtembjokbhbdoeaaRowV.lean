/- A block of the call's own that holds a row of bools, known whole. No program is named here. -/
import Derived.Test.YtembjokbhbdoeaaMem2
namespace Go
open Go.RowKit
namespace Mem
def vbools (bs : List Bool) : List Value := bs.map .bool
/-- Block g holds just these bools. -/
def RowL (w : World) (g : Nat) (t : TypeId) (bs : List Bool) : Prop := w.heap[g]? = some (.cells (vbools bs).toArray t (0, 0))
theorem RowL.lt {w : World} {g : Nat} {t : TypeId} {bs : List Bool} (h : RowL w g t bs) : g < w.heap.size := lt_of_heap h
theorem RowL.cell {w : World} {g : Nat} {t : TypeId} {bs : List Bool} (h : RowL w g t bs) (j : Nat) (hj : j < bs.length) : w.cell? ⟨g, j, none⟩ = some (.bool (bs.getD j false)) := by
  rw [cell_of_row w g j _ t (0, 0) h]
  simp [vbools, List.getD_eq_getElem?_getD, hj]
theorem RowL.frozen {w : World} {g : Nat} {t : TypeId} {bs : List Bool} (h : RowL w g t bs) (j : Nat) : w.frozen? ⟨g, j, none⟩ = false := frozen_of_row h j
theorem RowL.set {w : World} {g : Nat} {t : TypeId} {bs : List Bool} (h : RowL w g t bs) (j : Nat) (v : Bool) : RowL (w.setCell ⟨g, j, none⟩ (.bool v)) g t (bs.set j v) := by
  have := heap_set h j (.bool v)
  rw [List.setIfInBounds_toArray] at this
  unfold RowL
  rw [this]
  simp [vbools, List.map_set]
theorem RowL.far {w : World} {g : Nat} {t : TypeId} {bs : List Bool} (h : RowL w g t bs) {p : Addr} (hne : g ≠ p.block) (u : Value) : RowL (w.setCell p u) g t bs := heap_far h hne u
theorem RowL.drew {w : World} {g : Nat} {t : TypeId} {bs : List Bool} (h : RowL w g t bs) : RowL w.drew g t bs := h
theorem RowL.below {w w2 : World} {g : Nat} {t : TypeId} {bs : List Bool} (h : RowL w g t bs) (hb : Below w.heap.size w w2) : RowL w2 g t bs := (hb.block g h.lt).trans h
theorem RowL.grown {w w2 : World} {g : Nat} {t : TypeId} {bs : List Bool} {row : Option Nat} (h : RowL w g t bs) (hg : w.grownBy w2 row) (hne : some g ≠ row) : RowL w2 g t bs := (hg.block g h.lt hne).trans h
/-- 'make([]bool, n)': a block of its own that holds n times false. -/
theorem wpList_make_rowL {P : Program} {ops : Array Oper} {rest : List Oper} {o : Oper} {a : Act} {w : World} {Q : Exit → Act → World → Prop}
    (hg : o.guard = none) (l c : Operand) (t : TypeId) (hop : o.op = Op.makeSlice t l c) (e : TypeId) (bytes : Nat) (h1 : P.underlying t = some (.slice e)) (h2 : (P.info? e).map (fun i => (i.zero, i.size, i.bytes)) = some (some (.bool false), 1, bytes))
    (kl kc : IntKind) (L C : Int) (n : Nat) (hl : a.eval l = .int kl L) (hc : a.eval c = .int kc C) (hL : L = (n : Int)) (hC : C = (n : Int)) (b2 : bytes * n ≤ 281474976710656) (b3 : n ≤ maxLen)
    (hK : ∀ w2, RowL w2 w.heap.size e (List.replicate n false) → Below w.heap.size w w2 → w2.heap.size = w.heap.size + 1 → wpList P ops Q rest (a.put o.dst (.slice (some ⟨w.heap.size, 0, none⟩) n n)) w2) :
    wpList P ops Q (o :: rest) a w := by
  refine wpList_plain hg fun K hK' => ?_
  obtain ⟨i, hi, hz, hs, hby⟩ := info_parts h2
  subst hL
  subst hC
  have hb : (i.bytes : Int) * (n : Int) ≤ 281474976710656 := by
    have h : ((i.bytes * n : Nat) : Int) ≤ 281474976710656 := by rw [hby]; omega
    rwa [Int.natCast_mul] at h
  have hr := run_make (P := P) w t e i (.bool false) h1 hi hz kl kc n n (by omega) (by omega) hb (by unfold maxLen at b3; omega)
  simp only [Int.toNat_natCast] at hr
  unfold Oper.wp
  simp [execOp, hop, hl, hc, hr, Result.andThen, Oper.upon]
  refine hK' _ _ (hK _ ?_ ((Below.refl _ _).alloc (Nat.le_refl _) _) (by simp))
  unfold RowL
  rw [heap_alloc_new, hs]
  congr 1
  have := toList_madeCells_one (Value.bool false) n
  have e2 : vbools (List.replicate n false) = List.replicate n (Value.bool false) := by simp [vbools]
  rw [e2, ← this]
  simp
  rfl
end Mem
end Go
