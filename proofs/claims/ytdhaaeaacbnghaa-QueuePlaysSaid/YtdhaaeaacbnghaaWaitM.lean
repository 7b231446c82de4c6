/- The reference's list of items in memory, and what is deleted from it. No program is named here. -/
import Derived.Test.YtdhaaeaacbnghaaQueueM
import Derived.Lib.SliceRun
import Derived.Lib.SlicesDelete
namespace Go.Qp
open Go.RowKit Go.Mem
def cellsX (x : QItem) : List Value := [x.v, .int .i64 x.r]
def cellsW (M : List QItem) : List Value := M.flatMap cellsX
theorem cellsW_cons (x : QItem) (M : List QItem) : cellsW (x :: M) = cellsX x ++ cellsW M := by simp [cellsW]
theorem cellsW_append (H M : List QItem) : cellsW (H ++ M) = cellsW H ++ cellsW M := by simp [cellsW]
theorem cellsW_length : ∀ M : List QItem, (cellsW M).length = M.length * 2
  | [] => rfl
  | x :: M => by rw [cellsW_cons, List.length_append, cellsW_length M]; simp [cellsX]; omega
theorem cellsW_get : ∀ (H : List QItem) (i j : Nat), i < H.length → j < 2 → (cellsW H)[i * 2 + j]? = (cellsX (g dI H i))[j]?
  | x :: H, 0, j, _, hj => by
    rw [cellsW_cons, List.getElem?_append_left (by simp [cellsX]; omega), Nat.zero_mul, Nat.zero_add]; rfl
  | x :: H, i + 1, j, hi, hj => by
    rw [cellsW_cons, List.getElem?_append_right (by simp [cellsX]; omega), show (i + 1) * 2 + j - (cellsX x).length = i * 2 + j by simp [cellsX]; omega, cellsW_get H i j (by simp at hi; omega) hj]; rfl
theorem cellsW_take (H : List QItem) (m : Nat) (hm : m ≤ H.length) : (cellsW H).take (m * 2) = cellsW (H.take m) := by
  have e : cellsW H = cellsW (H.take m) ++ cellsW (H.drop m) := by rw [← cellsW_append, List.take_append_drop]
  rw [e, List.take_left' (by rw [cellsW_length, List.length_take]; omega)]
theorem cellsW_drop (H : List QItem) (m : Nat) (hm : m ≤ H.length) : (cellsW H).drop (m * 2) = cellsW (H.drop m) := by
  have e : cellsW H = cellsW (H.take m) ++ cellsW (H.drop m) := by rw [← cellsW_append, List.take_append_drop]
  rw [e, List.drop_left' (by rw [cellsW_length, List.length_take]; omega)]
theorem cellsW_one (M : List QItem) (h : ∀ x ∈ M, x.v.oneCell' = true) : ∀ v ∈ cellsW M, v.oneCell' = true := by
  intro v hv
  obtain ⟨x, hx, h2⟩ := List.mem_flatMap.1 hv
  simp [cellsX] at h2
  rcases h2 with rfl | rfl
  · exact h x hx
  · rfl
/-- Values laid over a list. -/
def setL (xs : List Value) : Nat → List Value → List Value
  | _, [] => xs
  | o, v :: vs => setL (xs.set o v) (o + 1) vs
theorem setL_length : ∀ (vs xs : List Value) (o : Nat), (setL xs o vs).length = xs.length
  | [], _, _ => rfl
  | v :: vs, xs, o => by rw [setL, setL_length vs]; simp
theorem setL_get : ∀ (vs xs : List Value) (o j : Nat), o + vs.length ≤ xs.length → (setL xs o vs)[j]? = if o ≤ j ∧ j < o + vs.length then vs[j - o]? else xs[j]?
  | [], xs, o, j, _ => by rw [setL, if_neg (by simp)]
  | v :: vs, xs, o, j, h => by
    simp only [List.length_cons] at h ⊢
    rw [setL, setL_get vs _ (o + 1) j (by simp; omega)]
    by_cases h1 : o = j
    · subst h1
      rw [if_neg (by omega), if_pos (by omega), List.getElem?_set_self (by omega), Nat.sub_self]; rfl
    · by_cases h2 : o + 1 ≤ j ∧ j < o + 1 + vs.length
      · rw [if_pos h2, if_pos (by omega), show j - o = (j - (o + 1)) + 1 by omega, List.getElem?_cons_succ]
      · rw [if_neg h2, if_neg (by omega), List.getElem?_set_ne h1]
/-- Item k taken out of the cells: what stood behind it moved to the left; the last place is whatever it is. -/
theorem del_cells (M : List QItem) (k : Nat) (hk : k < M.length) (z : List Value) (hz : z.length = 2) :
    (setL (setL (cellsW M) (k * 2) (cellsW (M.drop (k + 1)))) ((M.length - 1) * 2) z).take ((M.length - 1) * 2) = cellsW (M.take k ++ M.drop (k + 1)) := by
  have l1 : (cellsW (M.drop (k + 1))).length = (M.length - (k + 1)) * 2 := by rw [cellsW_length, List.length_drop]
  have l0 := cellsW_length M
  apply List.ext_getElem?
  intro j
  by_cases hj : j < (M.length - 1) * 2
  · rw [List.getElem?_take_of_lt hj, setL_get _ _ _ _ (by rw [setL_length, l0, hz]; omega), if_neg (by omega), setL_get _ _ _ _ (by rw [l0, l1]; omega), cellsW_append]
    have l2 : (cellsW (M.take k)).length = k * 2 := by rw [cellsW_length, List.length_take, Nat.min_eq_left (by omega)]
    by_cases h1 : j < k * 2
    · rw [if_neg (by omega), List.getElem?_append_left (by omega), ← cellsW_take M k (by omega), List.getElem?_take_of_lt h1]
    · rw [if_pos (by rw [l1]; omega), List.getElem?_append_right (by omega), l2]
  · rw [List.getElem?_eq_none (by rw [List.length_take]; omega), List.getElem?_eq_none (by rw [cellsW_length, List.length_append, List.length_take, List.length_drop]; omega)]
/-- Values stored into an owned row, one behind the other. -/
theorem own_setCells {base e size n g cap : Nat} : ∀ (vs xs : List Value) (o : Nat) (w : World), w.ownsRow base e size (.slice (some ⟨g, 0, none⟩) n cap) n xs → (w.setCells g o vs).ownsRow base e size (.slice (some ⟨g, 0, none⟩) n cap) n (setL xs o vs)
  | [], _, _, _, h => h
  | v :: vs, xs, o, w, h => by
    rw [setL]
    exact own_setCells vs _ (o + 1) _ (h.stored o v).1
theorem gb_setCells {g : Nat} : ∀ (vs : List Value) (o : Nat) (a w : World), a.grownBy w (some g) → a.grownBy (w.setCells g o vs) (some g)
  | [], _, _, _, h => h
  | v :: vs, o, a, _, h => gb_setCells vs (o + 1) a _ (gb_set h o v)
/-- 'clear' of one element. -/
theorem run_clear_one {P : Program} (w : World) (t e ty : TypeId) (z : Value) (l : List Value) (ht : P.underlying t = some (.slice e)) (hv : ∀ w, (zeroValue e).run P w = .ok z w) (hz : z.cells = l.toArray) (h1 : ∀ v ∈ l, v.oneCell' = true) (b o c : Nat)
    (hc : ∀ j, j < l.length → (w.cell? ⟨b, o + j, none⟩).isSome = true) (hf : ∀ j, j < l.length → w.frozen? ⟨b, o + j, none⟩ = false) :
    (Builtin.clear_ #[t] ty #[.slice (some ⟨b, o, none⟩) 1 c]).run P w = .ok (.tuple #[]) (w.setCells b o l) := by
  have hzc : (Builtin.zeroCells z.cells 1).toList = l := by
    rw [hz]
    simp [Builtin.zeroCells]
    apply List.ext_getElem
    · simp
    · intro i h1 h2
      simp [Nat.mod_eq_of_lt h2, h2]
  have hst := run_storeCells_cells (P := P) b o l 0 w (by simpa using hc) (by simpa using hf) h1
  simp only [Nat.add_zero] at hst
  simp [Builtin.clear_, run_underlying ht, hv, hzc, hst]
/-- The list of items in memory. -/
structure Wt (E : TypeId) (w : World) (D : Nat) (v : Value) (M : List QItem) : Prop where
  own : w.ownsRow D E 2 v M.length (cellsW M)
  vals : ∀ x ∈ M, ∃ z : Int, x.v = .int .i64 z
theorem Wt.at {E : TypeId} {w : World} {D gg m cap : Nat} {M : List QItem} (h : Wt E w D (.slice (some ⟨gg, 0, none⟩) m cap) M) (hm : m = M.length) (i : Nat) (hi : i < M.length) :
    w.cell? ⟨gg, i * 2, none⟩ = some (g dI M i).v ∧ w.cell? ⟨gg, i * 2 + 1, none⟩ = some (.int .i64 (g dI M i).r) := by
  subst hm
  have key : ∀ j, j < 2 → w.cell? ⟨gg, i * 2 + j, none⟩ = (cellsX (g dI M i))[j]? := fun j hj => by
    rw [h.own.cellAt (i * 2 + j) (by omega), cellsW_get M i j hi hj]
  exact ⟨key 0 (by omega), key 1 (by omega)⟩
theorem Wt.form {E : TypeId} {w : World} {D : Nat} {v : Value} {M : List QItem} (h : Wt E w D v M) : ∃ a cap, v = .slice a M.length cap := by
  rcases h.own.2 with ⟨h1, h2⟩ | ⟨gg, cap, cur, h1, _⟩
  · exact ⟨none, 0, by rw [h1, h2]⟩
  · exact ⟨_, cap, h1⟩
end Go.Qp
