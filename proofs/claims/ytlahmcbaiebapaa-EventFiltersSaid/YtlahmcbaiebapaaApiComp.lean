/- Components as they lie in memory. -/
import Derived.Test.YtlahmcbaiebapaaAggB
namespace Go.Proofs.Ytlahmcbaiebapaa
open Go.RowKit Go.ChangeShapes Go.WideShapes Go.Deep Go.Mem
set_option linter.unusedVariables false
structure CompV where
  kind : Int
  vals : List Int
  deriving Inhabited, DecidableEq
/-- a component at an address: its cells, and its numbers -/
def CompAt (w : World) (p : Addr) (y : CompV) : Prop := w.cell? p = some (.int .i64 y.kind) ∧ ∃ a c, w.cell? ⟨p.block, p.off + 1, none⟩ = some (.slice a y.vals.length c) ∧ IntsAt .i64 w a y.vals
theorem CompAt.abides : Abides CompAt := fun w w' p y h hb => by
  obtain ⟨h1, a, c, h2, h3⟩ := h
  exact ⟨cell_abides h1 hb, a, c, cell_abides h2 hb, h3.below hb⟩
def costComp (y : CompV) : Nat := y.vals.length + 1
section
variable {H : Type} {enc : TypeId × Value → H} {w : World} {base : Nat} {spare : Nat → Bool} {held : Bool}
theorem int_cost : ∀ l : List Int, (l.map fun _ => 1).sum = l.length := fun l => by induction l with | nil => rfl | cons a l ih => simp [ih]; omega
/-- a slice of ints, as a list and a bulk -/
theorem read_ints {fuel : Nat} {cs : List Value} {x : DataW H × List MemPlace} (h : DataW.trod enc Try.prog w base spare held fuel 23 cs = some x) :
    ∃ (a : Option Addr) (l : List Int) (cap : Nat), cs = [.slice a l.length cap] ∧ l.length ≤ cap ∧ cap ≤ maxLen ∧ IntsAt .i64 w a l ∧ l.length + 1 ≤ Rows.uptoBulk x.1 := by
  obtain ⟨a, l, cap, h1, h2, h3, h4, h5⟩ := read_slice (E := fun w p (z : Int) => w.cell? p = some (.int .i64 z)) (cost := fun _ => 1) Try.underlying23 (show Try.prog.cellsOf 3 = 1 by kernel_rfl) (by decide) (fun fuel cs x p hl hc ht => by
    obtain ⟨z, rfl, rfl, _⟩ := DataW.trod_int Try.underlying3 ht
    refine ⟨z, by have := hc 0 (by decide); simpa [Addr.add] using this, by simp [Rows.uptoBulk]⟩) h
  refine ⟨a, l, cap, h1, h2, h3, ?_, by rw [int_cost] at h5; exact h5⟩
  intro h0
  obtain ⟨x, e, hx, hi⟩ := h4 h0
  refine ⟨x, e, hx, fun i hi' => ?_⟩
  have := hi i hi'
  rw [Nat.mul_one] at this
  rw [this, List.getD_eq_getElem?_getD, List.getElem?_eq_getElem hi']; rfl
set_option maxRecDepth 100000 in
theorem read_comp (fuel : Nat) (cs : List Value) (x : DataW H × List MemPlace) (p : Addr) (hl : cs.length = 2) (hc : ∀ j, j < 2 → w.cell? (p.add j) = cs[j]?) (ht : DataW.trod enc Try.prog w base spare held fuel 84 cs = some x) : ∃ y, CompAt w p y ∧ costComp y ≤ Rows.uptoBulk x.1 := by
  obtain ⟨xs, n, _, rfl, _, hxl, hf⟩ := DataW.trod_struct Try.underlying84 ht
  match cs, hl with
  | [v0, v1], _ =>
    have g0 : DataW.trod enc Try.prog w base spare held n 3 (([v0, v1].drop 0).take (Try.prog.cellsOf 3)) = xs[0]? := hf 0 _ rfl
    have g1 : DataW.trod enc Try.prog w base spare held n 23 (([v0, v1].drop 1).take (Try.prog.cellsOf 23)) = xs[1]? := hf 1 _ rfl
    rw [show Try.prog.cellsOf 3 = 1 by kernel_rfl] at g0
    rw [show Try.prog.cellsOf 23 = 1 by kernel_rfl] at g1
    match xs, hxl with
    | [y0, y1], _ =>
      obtain ⟨z, e0, _, _⟩ := DataW.trod_int Try.underlying3 (show DataW.trod enc Try.prog w base spare held n 3 [v0] = some y0 from g0)
      obtain ⟨a, l, cap, e1, _, _, h4, h5⟩ := read_ints (show DataW.trod enc Try.prog w base spare held n 23 [v1] = some y1 from g1)
      injection e0 with e0; injection e1 with e1
      subst e0 e1
      have c0 := hc 0 (by decide)
      have c1 := hc 1 (by decide)
      have hb : Rows.uptoBulk y1.1 + 1 ≤ Rows.uptoBulk (.agg ([y0, y1].map (·.1))) := agg_bulk (xs := [y0, y1]) (i := 1) (y := y1) rfl
      exact ⟨⟨z, l⟩, ⟨by simpa [Addr.add] using c0, a, cap, by simpa [Addr.add] using c1, h4⟩, by unfold costComp; simp only at hb ⊢; omega⟩
set_option maxRecDepth 100000 in
theorem read_comps {fuel : Nat} {cs : List Value} {x : DataW H × List MemPlace} (h : DataW.trod enc Try.prog w base spare held fuel 78 cs = some x) :
    ∃ (a : Option Addr) (l : List CompV) (cap : Nat), cs = [.slice a l.length cap] ∧ l.length ≤ cap ∧ cap ≤ maxLen ∧ SlAt 2 CompAt w a l ∧ (l.map costComp).sum + 1 ≤ Rows.uptoBulk x.1 :=
  read_slice Try.underlying78 (by kernel_rfl) (by decide) read_comp h
end
end Go.Proofs.Ytlahmcbaiebapaa
