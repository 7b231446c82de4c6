/- The cells of a slice of kinds, whatever they are. -/
import Derived.Test.YtenfegdhbbdinaaDoorApiKind
import Derived.Test.YtenfegdhbbdinaaDoorMem3
namespace Go.Proofs.YtenfegdhbbdinaaDoor
open Go.ChangeShapes Go.WideShapes Go.ChangeAt Go.RowKit Go.Nm Go.Mem
theorem kinds_cells {w : World} {a : Option Addr} {l : List KindV} (h : SlAt 2 KindAt w a l) : ∃ zs : List Value, zs.length = l.length * 2 ∧ CellsAt w a zs ∧ ∀ u ∈ zs, u.oneCell' = true := by
  by_cases h0 : 0 < l.length
  · obtain ⟨x, rfl, hx, hi⟩ := h h0
    have hc : ∀ j, j < l.length * 2 → ∃ u, w.cell? (x.add j) = some u ∧ u.oneCell' = true := by
      intro j hj
      obtain ⟨k0, _, a, c, k1, _⟩ := hi (j / 2) (by omega)
      rcases (show j = j / 2 * 2 ∨ j = j / 2 * 2 + 1 by omega) with e | e
      · exact ⟨_, by rw [e]; exact k0, rfl⟩
      · exact ⟨_, by rw [e]; exact (congrArg w.cell? (add_nextN x (j / 2 * 2) 1 (by decide))).trans k1, rfl⟩
    refine ⟨(List.range (l.length * 2)).map fun j => (w.cell? (x.add j)).getD undef, by simp, fun _ => ⟨x, rfl, hx, fun j u hu => ?_⟩, fun u hu => ?_⟩
    · rw [List.getElem?_map] at hu
      by_cases hj : j < l.length * 2
      · rw [List.getElem?_range hj] at hu
        obtain ⟨v, hv, _⟩ := hc j hj
        rw [Option.map_some, hv] at hu
        rw [hv]; exact hu
      · rw [List.getElem?_eq_none (by simpa using hj)] at hu; cases hu
    · obtain ⟨j, hj, rfl⟩ := List.mem_map.1 hu
      obtain ⟨v, hv, h1⟩ := hc j (by simpa using hj)
      rw [hv]; exact h1
  · exact ⟨[], by simp; omega, fun h => absurd h (by simp), fun u hu => by cases hu⟩
end Go.Proofs.YtenfegdhbbdinaaDoor
