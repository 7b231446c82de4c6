/- A queue in memory. No program is named here. -/
import Derived.Test.YtlahmcbaiebapaaQueueP2
import Derived.Test.YtlahmcbaiebapaaGrown
import Derived.Laws.OwnMore
namespace Go.Qp
open Go.RowKit Go.Mem
abbrev QItem := It Value
def dI : QItem := ⟨undef, 0, 0⟩
def cellsOf (x : QItem) : List Value := [x.v, .int .i64 x.r, .int .i64 x.c]
def cellsQ (H : List QItem) : List Value := H.flatMap cellsOf
theorem cellsQ_cons (x : QItem) (H : List QItem) : cellsQ (x :: H) = cellsOf x ++ cellsQ H := by simp [cellsQ]
theorem cellsQ_append (H M : List QItem) : cellsQ (H ++ M) = cellsQ H ++ cellsQ M := by simp [cellsQ]
theorem cellsQ_length : ∀ H : List QItem, (cellsQ H).length = H.length * 3
  | [] => rfl
  | x :: H => by rw [cellsQ_cons, List.length_append, cellsQ_length H]; simp [cellsOf]; omega
theorem cellsQ_get : ∀ (H : List QItem) (i j : Nat), i < H.length → j < 3 → (cellsQ H)[i * 3 + j]? = (cellsOf (g dI H i))[j]?
  | x :: H, 0, j, _, hj => by
    rw [cellsQ_cons, List.getElem?_append_left (by simp [cellsOf]; omega), Nat.zero_mul, Nat.zero_add]; rfl
  | x :: H, i + 1, j, hi, hj => by
    rw [cellsQ_cons, List.getElem?_append_right (by simp [cellsOf]; omega), show (i + 1) * 3 + j - (cellsOf x).length = i * 3 + j by simp [cellsOf]; omega, cellsQ_get H i j (by simp at hi; omega) hj]; rfl
theorem cellsQ_take (H : List QItem) : ∀ m, m ≤ H.length → (cellsQ H).take (m * 3) = cellsQ (H.take m) := by
  intro m hm
  have e : cellsQ H = cellsQ (H.take m) ++ cellsQ (H.drop m) := by rw [← cellsQ_append, List.take_append_drop]
  rw [e, List.take_left' (by rw [cellsQ_length, List.length_take]; omega)]
theorem cellsQ_set : ∀ (H : List QItem) (i : Nat) (x : QItem), i < H.length → (((cellsQ H).set (i * 3) x.v).set (i * 3 + 1) (.int .i64 x.r)).set (i * 3 + 2) (.int .i64 x.c) = cellsQ (H.set i x)
  | y :: H, 0, x, _ => by simp [cellsQ_cons, cellsOf]
  | y :: H, i + 1, x, hi => by
    have e1 : (i + 1) * 3 = (cellsOf y).length + i * 3 := by simp [cellsOf]; omega
    rw [cellsQ_cons, List.set_cons_succ, cellsQ_cons, e1, Nat.add_assoc, Nat.add_assoc]
    rw [List.set_append_right _ _ (by omega), List.set_append_right _ _ (by omega), List.set_append_right _ _ (by omega)]
    simp only [Nat.add_sub_cancel_left]
    rw [cellsQ_set H i x (by simp at hi; omega)]
/-- A shorter slice of an owned row. -/
theorem own_take {w : World} {base e size n m cap : Nat} {a : Option Addr} {xs : List Value} (h : w.ownsRow base e size (.slice a n cap) n xs) (hm : m ≤ n) (h0 : 0 < n) : w.ownsRow base e size (.slice a m cap) m (xs.take (m * size)) := by
  rcases h.2 with ⟨_, h2⟩ | ⟨g, cap', cur, h1, h2, h3, h4, h5, h6, h7⟩
  · omega
  · injection h1 with e1 _ e3
    subst e1; subst e3
    have hx := h.1
    refine ⟨?_, .inr ⟨g, cap, cur, rfl, h2, h3, Nat.le_trans hm h4, h5, h6, ?_⟩⟩
    · rw [List.length_take, hx]
      exact Nat.min_eq_left (Nat.mul_le_mul_right _ hm)
    · rw [← h7, List.take_take, Nat.min_eq_left (Nat.mul_le_mul_right _ hm)]
/-- A queue: its block at q, the items in a row of the call's own. -/
structure Qu (P : Value → Prop) (T E : TypeId) (w : World) (D q : Nat) (v : Value) (H : List QItem) (n : Nat) : Prop where
  block : w.heap[q]? = some (.cells #[v, .int .i64 n] T (0, 0))
  own : w.ownsRow D E 3 v H.length (cellsQ H)
  dq : D ≤ q
  vals : ∀ x ∈ H, P x.v
theorem Qu.c0 {P : Value → Prop} {T E : TypeId} {w : World} {D q n : Nat} {v : Value} {H : List QItem} (h : Qu P T E w D q v H n) : w.cell? ⟨q, 0, none⟩ = some v := by rw [cell_of_row w q 0 _ _ _ h.block]; rfl
theorem Qu.c1 {P : Value → Prop} {T E : TypeId} {w : World} {D q n : Nat} {v : Value} {H : List QItem} (h : Qu P T E w D q v H n) : w.cell? ⟨q, 1, none⟩ = some (.int .i64 n) := by rw [cell_of_row w q 1 _ _ _ h.block]; rfl
theorem Qu.f0 {P : Value → Prop} {T E : TypeId} {w : World} {D q n : Nat} {v : Value} {H : List QItem} (h : Qu P T E w D q v H n) : w.frozen? ⟨q, 0, none⟩ = false := Mem.frozen_of_row h.block 0
theorem Qu.f1 {P : Value → Prop} {T E : TypeId} {w : World} {D q n : Nat} {v : Value} {H : List QItem} (h : Qu P T E w D q v H n) : w.frozen? ⟨q, 1, none⟩ = false := Mem.frozen_of_row h.block 1
theorem Qu.below {P : Value → Prop} {T E : TypeId} {w w' : World} {D q n : Nat} {v : Value} {H : List QItem} (h : Qu P T E w D q v H n) (hb : Below w.heap.size w w') : Qu P T E w' D q v H n := ⟨heap_below h.block hb, own_below h.own hb, h.dq, h.vals⟩
theorem Qu.drew {P : Value → Prop} {T E : TypeId} {w : World} {D q n : Nat} {v : Value} {H : List QItem} (h : Qu P T E w D q v H n) : Qu P T E w.drew D q v H n := ⟨h.block, own_keep h.own fun _ _ => rfl, h.dq, h.vals⟩
/-- An item's three cells. -/
theorem Qu.at {P : Value → Prop} {T E : TypeId} {w : World} {D q n gg m cap : Nat} {H : List QItem} (h : Qu P T E w D q (.slice (some ⟨gg, 0, none⟩) m cap) H n) (i : Nat) (hi : i < H.length) :
    w.cell? ⟨gg, i * 3, none⟩ = some (g dI H i).v ∧ w.cell? ⟨gg, i * 3 + 1, none⟩ = some (.int .i64 (g dI H i).r) ∧ w.cell? ⟨gg, i * 3 + 2, none⟩ = some (.int .i64 (g dI H i).c) := by
  have key : ∀ j, j < 3 → w.cell? ⟨gg, i * 3 + j, none⟩ = (cellsOf (g dI H i))[j]? := fun j hj => by
    have hx : ∃ u, (cellsQ H)[i * 3 + j]? = some u := ⟨_, List.getElem?_eq_getElem (by rw [cellsQ_length]; omega)⟩
    obtain ⟨u, hu⟩ := hx
    rw [← cellsQ_get H i j hi hj, hu]
    have ho := h.own.2
    rcases ho with ⟨h1, _⟩ | ⟨g', cap', cur, h1, _, h3, _, _, _, h7⟩
    · cases h1
    · injection h1 with e1 _ _
      injection e1 with e1
      injection e1 with e1
      subst e1
      rw [cell_of_row w gg (i * 3 + j) _ _ _ h3]
      have h8 : (cur.toList.take (H.length * 3))[i * 3 + j]? = some u := by rw [h7]; exact hu
      rw [List.getElem?_take_of_lt (by omega)] at h8
      simpa using h8
  exact ⟨key 0 (by omega), key 1 (by omega), key 2 (by omega)⟩
/-- An item written into its place. -/
theorem Qu.put3 {P : Value → Prop} {T E : TypeId} {w : World} {D q n gg cap m : Nat} {H : List QItem} (h : Qu P T E w D q (.slice (some ⟨gg, 0, none⟩) m cap) H n) (hTE : E ≠ T) (hm : m = H.length) (i : Nat) (hi : i < H.length) (x : QItem) (hx : P x.v) :
    Qu P T E (((w.setCell ⟨gg, i * 3, none⟩ x.v).setCell ⟨gg, i * 3 + 1, none⟩ (.int .i64 x.r)).setCell ⟨gg, i * 3 + 2, none⟩ (.int .i64 x.c)) D q (.slice (some ⟨gg, 0, none⟩) m cap) (H.set i x) n := by
  have hne : q ≠ gg := fun e => own_ne h.own h.block hTE gg rfl (by rw [e])
  subst hm
  have h1 := (((h.own.stored (i * 3) x.v).1.stored (i * 3 + 1) (.int .i64 x.r)).1.stored (i * 3 + 2) (.int .i64 x.c)).1
  rw [cellsQ_set H i x hi] at h1
  refine ⟨heap_far (heap_far (heap_far h.block hne _) hne _) hne _, by rw [List.length_set]; exact h1, h.dq, fun y hy => ?_⟩
  rcases List.mem_or_eq_of_mem_set hy with hy | hy
  · exact h.vals y hy
  · rw [hy]; exact hx
theorem put3_below {w : World} {B gg i : Nat} (hB : B ≤ gg) (a b c : Value) : Below B w (((w.setCell ⟨gg, i, none⟩ a).setCell ⟨gg, i + 1, none⟩ b).setCell ⟨gg, i + 2, none⟩ c) :=
  (((Below.refl B w).setCell hB a).setCell hB b).setCell hB c
end Go.Qp
