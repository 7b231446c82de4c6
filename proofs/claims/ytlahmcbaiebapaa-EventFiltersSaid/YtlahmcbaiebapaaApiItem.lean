/- Items as they lie in memory. -/
import Derived.Test.YtlahmcbaiebapaaApiComp
namespace Go.Proofs.Ytlahmcbaiebapaa
open Go.RowKit Go.ChangeShapes Go.WideShapes Go.Deep Go.Mem
set_option linter.unusedVariables false
structure ItemV where
  n : Int
  gen : Int
  comps : List CompV
  deriving Inhabited, DecidableEq
def ItemAt (w : World) (p : Addr) (y : ItemV) : Prop := w.cell? p = some (.int .i64 y.n) ∧ w.cell? ⟨p.block, p.off + 1, none⟩ = some (.int .i64 y.gen) ∧
  ∃ a c, w.cell? ⟨p.block, p.off + 2, none⟩ = some (.slice a y.comps.length c) ∧ SlAt 2 CompAt w a y.comps
theorem ItemAt.abides : Abides ItemAt := fun w w' p y h hb => by
  obtain ⟨h1, h2, a, c, h5, h6⟩ := h
  exact ⟨cell_abides h1 hb, cell_abides h2 hb, a, c, cell_abides h5 hb, h6.below CompAt.abides hb⟩
def costItem (y : ItemV) : Nat := (y.comps.map costComp).sum + 1
section
variable {H : Type} {enc : TypeId × Value → H} {w : World} {base : Nat} {spare : Nat → Bool} {held : Bool}
set_option maxRecDepth 100000 in
theorem read_item (fuel : Nat) (cs : List Value) (x : DataW H × List MemPlace) (p : Addr) (hl : cs.length = 3) (hc : ∀ j, j < 3 → w.cell? (p.add j) = cs[j]?) (ht : DataW.trod enc Try.prog w base spare held fuel 80 cs = some x) : ∃ y, ItemAt w p y ∧ costItem y ≤ Rows.uptoBulk x.1 := by
  obtain ⟨xs, n, _, rfl, _, hxl, hf⟩ := DataW.trod_struct Try.underlying80 ht
  match cs, hl with
  | [v1, v2, v4], _ =>
    have g1 : DataW.trod enc Try.prog w base spare held n 55 (([v1, v2, v4].drop 0).take (Try.prog.cellsOf 55)) = xs[0]? := hf 0 _ rfl
    have g3 : DataW.trod enc Try.prog w base spare held n 78 (([v1, v2, v4].drop 2).take (Try.prog.cellsOf 78)) = xs[1]? := hf 1 _ rfl
    rw [show Try.prog.cellsOf 55 = 2 by kernel_rfl] at g1
    rw [show Try.prog.cellsOf 78 = 1 by kernel_rfl] at g3
    match xs, hxl with
    | [y1, y3], _ =>
      obtain ⟨us, m, _, _, _, hul, hu⟩ := DataW.trod_struct Try.underlying55 (show DataW.trod enc Try.prog w base spare held n 55 [v1, v2] = some y1 from g1)
      have u0 : DataW.trod enc Try.prog w base spare held m 3 (([v1, v2].drop 0).take (Try.prog.cellsOf 3)) = us[0]? := hu 0 _ rfl
      have u1 : DataW.trod enc Try.prog w base spare held m 3 (([v1, v2].drop 1).take (Try.prog.cellsOf 3)) = us[1]? := hu 1 _ rfl
      rw [show Try.prog.cellsOf 3 = 1 by kernel_rfl] at u0 u1
      match us, hul with
      | [q0, q1], _ =>
        obtain ⟨n0, f0, _, _⟩ := DataW.trod_int Try.underlying3 (show DataW.trod enc Try.prog w base spare held m 3 [v1] = some q0 from u0)
        obtain ⟨n1, f1, _, _⟩ := DataW.trod_int Try.underlying3 (show DataW.trod enc Try.prog w base spare held m 3 [v2] = some q1 from u1)
        obtain ⟨a, l, cap, e3, _, _, h4, h5⟩ := read_comps (show DataW.trod enc Try.prog w base spare held n 78 [v4] = some y3 from g3)
        injection e3 with e3; injection f0 with f0; injection f1 with f1
        subst e3 f0 f1
        have c0 := hc 0 (by decide)
        have c1 := hc 1 (by decide)
        have c2 := hc 2 (by decide)
        have hb : Rows.uptoBulk y3.1 + 1 ≤ Rows.uptoBulk (.agg ([y1, y3].map (·.1))) := agg_bulk (xs := [y1, y3]) (i := 1) (y := y3) rfl
        exact ⟨⟨n0, n1, l⟩, ⟨by simpa [Addr.add] using c0, by simpa [Addr.add] using c1, a, cap, by simpa [Addr.add] using c2, h4⟩, by unfold costItem; simp only at hb ⊢; omega⟩
set_option maxRecDepth 100000 in
theorem read_items {fuel : Nat} {cs : List Value} {x : DataW H × List MemPlace} (h : DataW.trod enc Try.prog w base spare held fuel 68 cs = some x) :
    ∃ (a : Option Addr) (l : List ItemV) (cap : Nat), cs = [.slice a l.length cap] ∧ l.length ≤ cap ∧ cap ≤ maxLen ∧ SlAt 3 ItemAt w a l ∧ (l.map costItem).sum + 1 ≤ Rows.uptoBulk x.1 :=
  read_slice Try.underlying68 (by kernel_rfl) (by decide) read_item h
end
end Go.Proofs.Ytlahmcbaiebapaa
