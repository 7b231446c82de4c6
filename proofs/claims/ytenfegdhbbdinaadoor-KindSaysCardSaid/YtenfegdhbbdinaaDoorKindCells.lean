/- A list of fields as the cells of a row. -/
import Derived.Test.YtenfegdhbbdinaaDoorApiKind
import Derived.Test.YtenfegdhbbdinaaDoorMem3
namespace Go.Proofs.YtenfegdhbbdinaaDoor
open Go.RowKit Go.ChangeShapes Go.WideShapes Go.Deep Go.Mem Go.Nm
set_option linter.unusedVariables false
def fval (l : List FieldV) (j : Nat) : Value := if j % 3 = 0 then .string (l.getD (j / 3) default).name else if j % 3 = 1 then .int .i64 (l.getD (j / 3) default).bits else .int .i64 (l.getD (j / 3) default).low
def fvals (l : List FieldV) : List Value := (List.range (l.length * 3)).map (fval l)
theorem fvals_len (l : List FieldV) : (fvals l).length = l.length * 3 := by unfold fvals; simp
theorem fvals_get (l : List FieldV) (j : Nat) (u : Value) : (fvals l)[j]? = some u ↔ j < l.length * 3 ∧ u = fval l j := by
  unfold fvals
  rw [List.getElem?_map]
  by_cases h : j < l.length * 3
  · rw [List.getElem?_range h]; simp [h, eq_comm]
  · rw [List.getElem?_eq_none (by simpa using h)]; simp [h]
theorem fvals_one (l : List FieldV) : ∀ u ∈ fvals l, u.oneCell' = true := by
  intro u hu
  unfold fvals at hu
  obtain ⟨j, _, rfl⟩ := List.mem_map.1 hu
  unfold fval
  split
  · rfl
  · split <;> rfl
theorem fval_parts (l : List FieldV) (q : Nat) (h : q < l.length) : fval l (q * 3) = .string l[q].name ∧ fval l (q * 3 + 1) = .int .i64 l[q].bits ∧ fval l (q * 3 + 2) = .int .i64 l[q].low := by
  have hd : l.getD q default = l[q] := by rw [List.getD_eq_getElem?_getD, List.getElem?_eq_getElem h]; rfl
  unfold fval
  refine ⟨?_, ?_, ?_⟩
  · rw [if_pos (by omega), show q * 3 / 3 = q by omega, hd]
  · rw [if_neg (by omega), if_pos (by omega), show (q * 3 + 1) / 3 = q by omega, hd]
  · rw [if_neg (by omega), if_neg (by omega), show (q * 3 + 2) / 3 = q by omega, hd]
theorem cells_flds {w : World} {a : Option Addr} {l : List FieldV} (h : SlAt 3 FieldAt w a l) : CellsAt w a (fvals l) := fun h0 => by
  rw [fvals_len] at h0
  obtain ⟨x, e, hx, hi⟩ := h (by omega)
  refine ⟨x, e, hx, fun j u hu => ?_⟩
  obtain ⟨hj, rfl⟩ := (fvals_get l j u).1 hu
  have hq : j / 3 < l.length := by omega
  obtain ⟨k0, k1, k2, _⟩ := hi (j / 3) hq
  obtain ⟨p0, p1, p2⟩ := fval_parts l (j / 3) hq
  rcases (show j = j / 3 * 3 ∨ j = j / 3 * 3 + 1 ∨ j = j / 3 * 3 + 2 by omega) with e | e | e
  · rw [show fval l j = fval l (j / 3 * 3) by rw [← e], p0, show x.add j = x.add (j / 3 * 3) by rw [← e]]; exact k0
  · rw [show fval l j = fval l (j / 3 * 3 + 1) by rw [← e], p1, show x.add j = x.add (j / 3 * 3 + 1) by rw [← e], add_nextN _ _ 1 (by decide)]; exact k1
  · rw [show fval l j = fval l (j / 3 * 3 + 2) by rw [← e], p2, show x.add j = x.add (j / 3 * 3 + 2) by rw [← e], add_nextN _ _ 2 (by decide)]; exact k2
theorem flds_own {w : World} {base e n : Nat} {v : Value} {l : List FieldV} (hn : l.length = n) (h : w.ownsRow base e 3 v n (fvals l)) (hs : ∀ y ∈ l, y.name.size ≤ 9223372036854775807) :
    ∃ a c, v = .slice a n c ∧ n ≤ c ∧ c ≤ 9223372036854775807 ∧ SlAt 3 FieldAt w a l ∧ (∀ x, a = some x → base ≤ x.block) := by
  subst hn
  obtain ⟨_, ⟨hv, h0⟩ | ⟨g, cap, cur, hv, hb, hg, hc1, hc2, hc3, hc4⟩⟩ := h
  · exact ⟨none, 0, by rw [hv, h0], by omega, by omega, fun h => by omega, fun x hx => by cases hx⟩
  · refine ⟨some ⟨g, 0, none⟩, cap, hv, hc1, by unfold maxLen at hc2; omega, fun _ => ⟨_, rfl, lt_of_heap hg, fun q hq => ?_⟩, fun x hx => by injection hx with hx; rw [← hx]; exact hb⟩
    have cell : ∀ j, j < l.length * 3 → w.cell? ⟨g, j, none⟩ = some (fval l j) := by
      intro j hj
      rw [cell_of_row _ _ _ _ _ _ hg]
      have := (fvals_get l j (fval l j)).2 ⟨hj, rfl⟩
      rw [← hc4, List.getElem?_take, if_pos hj] at this
      simpa using this
    obtain ⟨p0, p1, p2⟩ := fval_parts l q hq
    rw [add_zero_block]
    exact ⟨by rw [cell _ (by omega), p0], by show w.cell? ⟨g, q * 3 + 1, none⟩ = _; rw [cell _ (by omega), p1], by show w.cell? ⟨g, q * 3 + 2, none⟩ = _; rw [cell _ (by omega), p2], hs _ (List.getElem_mem _)⟩
theorem flds_names {w : World} {a : Option Addr} {l : List FieldV} (h : SlAt 3 FieldAt w a l) : ∀ y ∈ l, y.name.size ≤ 9223372036854775807 := by
  intro y hy
  obtain ⟨j, hj, rfl⟩ := List.mem_iff_getElem.1 hy
  obtain ⟨x, e, hx, hi⟩ := h (by omega)
  exact (hi j hj).2.2.2
end Go.Proofs.YtenfegdhbbdinaaDoor
