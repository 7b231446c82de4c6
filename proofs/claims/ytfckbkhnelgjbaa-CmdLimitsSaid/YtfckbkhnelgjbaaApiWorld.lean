/- Worlds as they lie in memory. -/
import Derived.Test.YtfckbkhnelgjbaaApiKind
import Derived.Test.YtfckbkhnelgjbaaApiComp
namespace Go.Proofs.Ytfckbkhnelgjbaa
open Go.RowKit Go.ChangeShapes Go.WideShapes Go.Deep Go.Mem
set_option linter.unusedVariables false
structure ItemV where
  n : Int
  gen : Int
  comps : List CompV
  deriving Inhabited, DecidableEq
structure WorldV where
  kinds : List KindV
  gens : List Int
  items : List ItemV
  deriving Inhabited
def ItemAt (w : World) (p : Addr) (y : ItemV) : Prop := w.cell? p = some (.int .i64 y.n) ∧ w.cell? ⟨p.block, p.off + 1, none⟩ = some (.int .i64 y.gen) ∧
  ∃ a c, w.cell? ⟨p.block, p.off + 2, none⟩ = some (.slice a y.comps.length c) ∧ SlAt 2 CompAt w a y.comps
theorem ItemAt.abides : Abides ItemAt := fun w w' p y h hb => by
  obtain ⟨h1, h2, a, c, h5, h6⟩ := h
  exact ⟨cell_abides h1 hb, cell_abides h2 hb, a, c, cell_abides h5 hb, h6.below CompAt.abides hb⟩
/-- a world, as a value -/
def WorldIn (w : World) (v : Value) (y : WorldV) : Prop := ∃ ak ck ag cg ai ci, v = .agg #[.slice ak y.kinds.length ck, .slice ag y.gens.length cg, .slice ai y.items.length ci] ∧ SlAt 2 KindAt w ak y.kinds ∧ IntsAt .i64 w ag y.gens ∧ SlAt 3 ItemAt w ai y.items ∧ y.kinds.length ≤ ck ∧ ck ≤ 9223372036854775807
theorem WorldIn.below {w w' : World} {v : Value} {y : WorldV} (h : WorldIn w v y) (hb : Below w.heap.size w w') : WorldIn w' v y := by
  obtain ⟨ak, ck, ag, cg, ai, ci, rfl, h1, h2, h3, h4⟩ := h
  exact ⟨ak, ck, ag, cg, ai, ci, rfl, h1.below KindAt.abides hb, h2.below hb, h3.below ItemAt.abides hb, h4⟩
def costItem (y : ItemV) : Nat := (y.comps.map costComp).sum + 1
def costWorld (y : WorldV) : Nat := (y.kinds.map costKind).sum + y.gens.length + (y.items.map costItem).sum
section
variable {H : Type} {enc : TypeId × Value → H} {w : World} {base : Nat} {spare : Nat → Bool} {held : Bool}
set_option maxRecDepth 100000 in
theorem read_item (fuel : Nat) (cs : List Value) (x : DataW H × List MemPlace) (p : Addr) (hl : cs.length = 3) (hc : ∀ j, j < 3 → w.cell? (p.add j) = cs[j]?) (ht : DataW.trod enc Try.prog w base spare held fuel 72 cs = some x) : ∃ y, ItemAt w p y ∧ costItem y ≤ Rows.uptoBulk x.1 := by
  obtain ⟨xs, n, _, rfl, _, hxl, hf⟩ := DataW.trod_struct Try.underlying72 ht
  match cs, hl with
  | [v1, v2, v4], _ =>
    have g1 : DataW.trod enc Try.prog w base spare held n 24 (([v1, v2, v4].drop 0).take (Try.prog.cellsOf 24)) = xs[0]? := hf 0 _ rfl
    have g3 : DataW.trod enc Try.prog w base spare held n 25 (([v1, v2, v4].drop 2).take (Try.prog.cellsOf 25)) = xs[1]? := hf 1 _ rfl
    rw [show Try.prog.cellsOf 24 = 2 by kernel_rfl] at g1
    rw [show Try.prog.cellsOf 25 = 1 by kernel_rfl] at g3
    match xs, hxl with
    | [y1, y3], _ =>
      obtain ⟨us, m, _, _, _, hul, hu⟩ := DataW.trod_struct Try.underlying24 (show DataW.trod enc Try.prog w base spare held n 24 [v1, v2] = some y1 from g1)
      have u0 : DataW.trod enc Try.prog w base spare held m 3 (([v1, v2].drop 0).take (Try.prog.cellsOf 3)) = us[0]? := hu 0 _ rfl
      have u1 : DataW.trod enc Try.prog w base spare held m 3 (([v1, v2].drop 1).take (Try.prog.cellsOf 3)) = us[1]? := hu 1 _ rfl
      rw [show Try.prog.cellsOf 3 = 1 by kernel_rfl] at u0 u1
      match us, hul with
      | [q0, q1], _ =>
        obtain ⟨n0, f0, _, _⟩ := DataW.trod_int Try.underlying3 (show DataW.trod enc Try.prog w base spare held m 3 [v1] = some q0 from u0)
        obtain ⟨n1, f1, _, _⟩ := DataW.trod_int Try.underlying3 (show DataW.trod enc Try.prog w base spare held m 3 [v2] = some q1 from u1)
        obtain ⟨a, l, cap, e3, _, _, h4, h5⟩ := read_comps (show DataW.trod enc Try.prog w base spare held n 25 [v4] = some y3 from g3)
        injection e3 with e3; injection f0 with f0; injection f1 with f1
        subst e3 f0 f1
        have c0 := hc 0 (by decide)
        have c1 := hc 1 (by decide)
        have c2 := hc 2 (by decide)
        have hb : Rows.uptoBulk y3.1 + 1 ≤ Rows.uptoBulk (.agg ([y1, y3].map (·.1))) := agg_bulk (xs := [y1, y3]) (i := 1) (y := y3) rfl
        exact ⟨⟨n0, n1, l⟩, ⟨by simpa [Addr.add] using c0, by simpa [Addr.add] using c1, a, cap, by simpa [Addr.add] using c2, h4⟩, by unfold costItem; simp only at hb ⊢; omega⟩
set_option maxRecDepth 100000 in
theorem read_items {fuel : Nat} {cs : List Value} {x : DataW H × List MemPlace} (h : DataW.trod enc Try.prog w base spare held fuel 35 cs = some x) :
    ∃ (a : Option Addr) (l : List ItemV) (cap : Nat), cs = [.slice a l.length cap] ∧ l.length ≤ cap ∧ cap ≤ maxLen ∧ SlAt 3 ItemAt w a l ∧ (l.map costItem).sum + 1 ≤ Rows.uptoBulk x.1 :=
  read_slice Try.underlying35 (by kernel_rfl) (by decide) read_item h
set_option maxRecDepth 100000 in
theorem read_world {fuel : Nat} {cs : List Value} {x : DataW H × List MemPlace} (hl : cs.length = 3) (ht : DataW.trod enc Try.prog w base spare held fuel 37 cs = some x) :
    ∃ (y : WorldV), (∃ v0 v1 v2, cs = [v0, v1, v2] ∧ WorldIn w (.agg #[v0, v1, v2]) y) ∧ costWorld y ≤ Rows.uptoBulk x.1 := by
  obtain ⟨xs, n, _, rfl, _, hxl, hf⟩ := DataW.trod_struct Try.underlying37 ht
  match cs, hl with
  | [v0, v1, v2], _ =>
    have g0 : DataW.trod enc Try.prog w base spare held n 33 (([v0, v1, v2].drop 0).take (Try.prog.cellsOf 33)) = xs[0]? := hf 0 _ rfl
    have g1 : DataW.trod enc Try.prog w base spare held n 34 (([v0, v1, v2].drop 1).take (Try.prog.cellsOf 34)) = xs[1]? := hf 1 _ rfl
    have g2 : DataW.trod enc Try.prog w base spare held n 35 (([v0, v1, v2].drop 2).take (Try.prog.cellsOf 35)) = xs[2]? := hf 2 _ rfl
    rw [show Try.prog.cellsOf 33 = 1 by kernel_rfl] at g0
    rw [show Try.prog.cellsOf 34 = 1 by kernel_rfl] at g1
    rw [show Try.prog.cellsOf 35 = 1 by kernel_rfl] at g2
    match xs, hxl with
    | [y0, y1, y2], _ =>
      obtain ⟨ak, lk, ck, e0, kc1, kc2, k1, k2⟩ := read_kinds (show DataW.trod enc Try.prog w base spare held n 33 [v0] = some y0 from g0)
      obtain ⟨ag, lg, cg, e1, _, _, m1, m2⟩ := read_ints (show DataW.trod enc Try.prog w base spare held n 34 [v1] = some y1 from g1)
      obtain ⟨ai, li, ci, e2, _, _, i1, i2⟩ := read_items (show DataW.trod enc Try.prog w base spare held n 35 [v2] = some y2 from g2)
      injection e0 with e0; injection e1 with e1; injection e2 with e2
      subst e0 e1 e2
      refine ⟨⟨lk, lg, li⟩, ⟨_, _, _, rfl, ak, ck, ag, cg, ai, ci, rfl, k1, m1, i1, kc1, by unfold maxLen at kc2; omega⟩, ?_⟩
      unfold costWorld
      simp only [List.map_cons, List.map_nil, Rows.uptoBulk, Rows.uptoBulkAll]
      omega
end
end Go.Proofs.Ytfckbkhnelgjbaa
