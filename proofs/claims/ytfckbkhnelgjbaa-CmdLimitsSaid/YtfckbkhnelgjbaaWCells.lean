/- Components, kinds, items among others: their cells. -/
import Derived.Test.YtfckbkhnelgjbaaApiWorld
import Derived.Test.YtfckbkhnelgjbaaRegAll
namespace Go.Proofs.Ytfckbkhnelgjbaa
open Go.RowKit Go.ChangeShapes Go.WideShapes Go.Mem
set_option linter.unusedVariables false
theorem comp_cells {w : World} {x : Addr} {l : List CompV} (h : SlAt 2 CompAt w (some x) l) (i : Nat) (hi : i < l.length) : ∃ xb xo, x = ⟨xb, xo, none⟩ ∧ ∃ a c, CellsK w xb (xo + i * 2) [.int .i64 l[i].kind, .slice a l[i].vals.length c] ∧ IntsAt .i64 w a l[i].vals := by
  obtain ⟨y, hy, hb, hc⟩ := h (by omega)
  injection hy with hy
  subst hy
  obtain ⟨xb, xo, sp⟩ := x
  have hsp : sp = none := by
    obtain ⟨f0, _⟩ := hc 0 (by omega)
    simpa [Addr.add] using World.cell?_spot f0
  obtain ⟨e0, a, c, e1, h2⟩ := hc i hi
  subst hsp
  rw [Addr.add_lit] at e0 e1
  refine ⟨xb, xo, rfl, a, c, fun j v hv => ?_, h2⟩
  match j with
  | 0 => cases hv; exact e0
  | 1 => cases hv; exact e1
  | j + 2 => simp at hv
theorem kind_cells {w : World} {x : Addr} {l : List KindV} (h : SlAt 2 KindAt w (some x) l) (i : Nat) (hi : i < l.length) : ∃ xb xo, x = ⟨xb, xo, none⟩ ∧ ∃ a c, CellsK w xb (xo + i * 2) [.string l[i].name, .slice a l[i].fields.length c] ∧ l[i].name.size ≤ 9223372036854775807 ∧ l[i].fields.length ≤ c ∧ c ≤ 9223372036854775807 ∧ SlAt 3 FieldAt w a l[i].fields := by
  obtain ⟨y, hy, hb, hc⟩ := h (by omega)
  injection hy with hy
  subst hy
  obtain ⟨xb, xo, sp⟩ := x
  have hsp : sp = none := by
    obtain ⟨f0, _⟩ := hc 0 (by omega)
    simpa [Addr.add] using World.cell?_spot f0
  obtain ⟨e0, hs, a, c, e1, h2, h3, h4⟩ := hc i hi
  subst hsp
  rw [Addr.add_lit] at e0 e1
  refine ⟨xb, xo, rfl, a, c, fun j v hv => ?_, hs, h2, h3, h4⟩
  match j with
  | 0 => cases hv; exact e0
  | 1 => cases hv; exact e1
  | j + 2 => simp at hv
theorem item_cells {w : World} {x : Addr} {l : List ItemV} (h : SlAt 3 ItemAt w (some x) l) (i : Nat) (hi : i < l.length) : ∃ xb xo, x = ⟨xb, xo, none⟩ ∧ ∃ a c, CellsK w xb (xo + i * 3) [.int .i64 l[i].n, .int .i64 l[i].gen, .slice a l[i].comps.length c] ∧ SlAt 2 CompAt w a l[i].comps := by
  obtain ⟨y, hy, hb, hc⟩ := h (by omega)
  injection hy with hy
  subst hy
  obtain ⟨xb, xo, sp⟩ := x
  have hsp : sp = none := by
    obtain ⟨f0, _⟩ := hc 0 (by omega)
    simpa [Addr.add] using World.cell?_spot f0
  obtain ⟨e0, e1, a, c, e2, h2⟩ := hc i hi
  subst hsp
  rw [Addr.add_lit] at e0 e1 e2
  refine ⟨xb, xo, rfl, a, c, fun j v hv => ?_, h2⟩
  match j with
  | 0 => cases hv; exact e0
  | 1 => cases hv; exact e1
  | 2 => cases hv; exact e2
  | j + 3 => simp at hv
theorem ints_cell {k : IntKind} {w : World} {x : Addr} {l : List Int} (h : IntsAt k w (some x) l) (i : Nat) (hi : i < l.length) : ∃ xb xo, x = ⟨xb, xo, none⟩ ∧ w.cell? ⟨xb, xo + i * 1, none⟩ = some (.int k (l.getD i 0)) := by
  obtain ⟨y, hy, hb, hc⟩ := h (by omega)
  injection hy with hy
  subst hy
  obtain ⟨xb, xo, sp⟩ := x
  have hsp : sp = none := by
    have f0 := hc 0 (by omega)
    simpa [Addr.add] using World.cell?_spot f0
  have e0 := hc i hi
  subst hsp
  rw [Addr.add_lit] at e0
  exact ⟨xb, xo, rfl, by rw [Nat.mul_one]; exact e0⟩
theorem CellsK.at {w : World} {b q : Nat} {vs : List Value} (h : CellsK w b q vs) (j : Nat) (hj : j < vs.length) : w.cell? ⟨b, q + j, none⟩ = some vs[j] := h j _ (List.getElem?_eq_getElem hj)
theorem new_row (w : World) (cs : Array Value) (t : TypeId) : CellsK (w.alloc (.cells cs t (0, 0))) w.heap.size 0 cs.toList := CellsK.row (heap_alloc_new w _)
end Go.Proofs.Ytfckbkhnelgjbaa
