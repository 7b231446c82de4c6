/- Components and commands as they lie in memory. -/
import Derived.Test.YtfckbkhnelgjbaaApiComp
namespace Go.Proofs.Ytfckbkhnelgjbaa
open Go.RowKit Go.ChangeShapes Go.WideShapes Go.Deep Go.Mem
set_option linter.unusedVariables false
structure CmdV where
  dod : Int
  n : Int
  gen : Int
  kind : Int
  comps : List CompV
  deriving Inhabited, DecidableEq
def CmdAt (w : World) (p : Addr) (y : CmdV) : Prop := w.cell? p = some (.int .i64 y.dod) ∧ w.cell? ⟨p.block, p.off + 1, none⟩ = some (.int .i64 y.n) ∧ w.cell? ⟨p.block, p.off + 2, none⟩ = some (.int .i64 y.gen) ∧ w.cell? ⟨p.block, p.off + 3, none⟩ = some (.int .i64 y.kind) ∧
  ∃ a c, w.cell? ⟨p.block, p.off + 4, none⟩ = some (.slice a y.comps.length c) ∧ SlAt 2 CompAt w a y.comps
theorem CmdAt.abides : Abides CmdAt := fun w w' p y h hb => by
  obtain ⟨h1, h2, h3, h4, a, c, h5, h6⟩ := h
  exact ⟨cell_abides h1 hb, cell_abides h2 hb, cell_abides h3 hb, cell_abides h4 hb, a, c, cell_abides h5 hb, h6.below CompAt.abides hb⟩
def CmdsAt (w : World) (p : Addr) (l : List CmdV) : Prop := ∃ a c, w.cell? p = some (.slice a l.length c) ∧ SlAt 5 CmdAt w a l
theorem CmdsAt.abides : Abides CmdsAt := fun w w' p y h hb => by
  obtain ⟨a, c, h1, h2⟩ := h
  exact ⟨a, c, cell_abides h1 hb, h2.below CmdAt.abides hb⟩
def costCmd (y : CmdV) : Nat := (y.comps.map costComp).sum + 1
def costCmds (l : List CmdV) : Nat := (l.map costCmd).sum + 1
section
variable {H : Type} {enc : TypeId × Value → H} {w : World} {base : Nat} {spare : Nat → Bool} {held : Bool}
set_option maxRecDepth 100000 in
theorem read_cmd (fuel : Nat) (cs : List Value) (x : DataW H × List MemPlace) (p : Addr) (hl : cs.length = 5) (hc : ∀ j, j < 5 → w.cell? (p.add j) = cs[j]?) (ht : DataW.trod enc Try.prog w base spare held fuel 27 cs = some x) : ∃ y, CmdAt w p y ∧ costCmd y ≤ Rows.uptoBulk x.1 := by
  obtain ⟨xs, n, _, rfl, _, hxl, hf⟩ := DataW.trod_struct Try.underlying27 ht
  match cs, hl with
  | [v0, v1, v2, v3, v4], _ =>
    have g0 : DataW.trod enc Try.prog w base spare held n 3 (([v0, v1, v2, v3, v4].drop 0).take (Try.prog.cellsOf 3)) = xs[0]? := hf 0 _ rfl
    have g1 : DataW.trod enc Try.prog w base spare held n 24 (([v0, v1, v2, v3, v4].drop 1).take (Try.prog.cellsOf 24)) = xs[1]? := hf 1 _ rfl
    have g2 : DataW.trod enc Try.prog w base spare held n 3 (([v0, v1, v2, v3, v4].drop 3).take (Try.prog.cellsOf 3)) = xs[2]? := hf 2 _ rfl
    have g3 : DataW.trod enc Try.prog w base spare held n 25 (([v0, v1, v2, v3, v4].drop 4).take (Try.prog.cellsOf 25)) = xs[3]? := hf 3 _ rfl
    rw [show Try.prog.cellsOf 3 = 1 by kernel_rfl] at g0 g2
    rw [show Try.prog.cellsOf 24 = 2 by kernel_rfl] at g1
    rw [show Try.prog.cellsOf 25 = 1 by kernel_rfl] at g3
    match xs, hxl with
    | [y0, y1, y2, y3], _ =>
      obtain ⟨z0, e0, _, _⟩ := DataW.trod_int Try.underlying3 (show DataW.trod enc Try.prog w base spare held n 3 [v0] = some y0 from g0)
      obtain ⟨z2, e2, _, _⟩ := DataW.trod_int Try.underlying3 (show DataW.trod enc Try.prog w base spare held n 3 [v3] = some y2 from g2)
      obtain ⟨us, m, _, _, _, hul, hu⟩ := DataW.trod_struct Try.underlying24 (show DataW.trod enc Try.prog w base spare held n 24 [v1, v2] = some y1 from g1)
      have u0 : DataW.trod enc Try.prog w base spare held m 3 (([v1, v2].drop 0).take (Try.prog.cellsOf 3)) = us[0]? := hu 0 _ rfl
      have u1 : DataW.trod enc Try.prog w base spare held m 3 (([v1, v2].drop 1).take (Try.prog.cellsOf 3)) = us[1]? := hu 1 _ rfl
      rw [show Try.prog.cellsOf 3 = 1 by kernel_rfl] at u0 u1
      match us, hul with
      | [q0, q1], _ =>
        obtain ⟨n0, f0, _, _⟩ := DataW.trod_int Try.underlying3 (show DataW.trod enc Try.prog w base spare held m 3 [v1] = some q0 from u0)
        obtain ⟨n1, f1, _, _⟩ := DataW.trod_int Try.underlying3 (show DataW.trod enc Try.prog w base spare held m 3 [v2] = some q1 from u1)
        obtain ⟨a, l, cap, e3, _, _, h4, h5⟩ := read_comps (show DataW.trod enc Try.prog w base spare held n 25 [v4] = some y3 from g3)
        injection e0 with e0; injection e2 with e2; injection e3 with e3; injection f0 with f0; injection f1 with f1
        subst e0 e2 e3 f0 f1
        have c0 := hc 0 (by decide)
        have c1 := hc 1 (by decide)
        have c2 := hc 2 (by decide)
        have c3 := hc 3 (by decide)
        have c4 := hc 4 (by decide)
        have hb : Rows.uptoBulk y3.1 + 1 ≤ Rows.uptoBulk (.agg ([y0, y1, y2, y3].map (·.1))) := agg_bulk (xs := [y0, y1, y2, y3]) (i := 3) (y := y3) rfl
        exact ⟨⟨z0, n0, n1, z2, l⟩, ⟨by simpa [Addr.add] using c0, by simpa [Addr.add] using c1, by simpa [Addr.add] using c2, by simpa [Addr.add] using c3, a, cap, by simpa [Addr.add] using c4, h4⟩, by unfold costCmd; simp only at hb ⊢; omega⟩
set_option maxRecDepth 100000 in
theorem read_cmds {fuel : Nat} {cs : List Value} {x : DataW H × List MemPlace} (h : DataW.trod enc Try.prog w base spare held fuel 22 cs = some x) :
    ∃ (a : Option Addr) (l : List CmdV) (cap : Nat), cs = [.slice a l.length cap] ∧ l.length ≤ cap ∧ cap ≤ maxLen ∧ SlAt 5 CmdAt w a l ∧ costCmds l ≤ Rows.uptoBulk x.1 :=
  read_slice Try.underlying22 (by kernel_rfl) (by decide) read_cmd h
set_option maxRecDepth 100000 in
/-- a slice of slices of commands -/
theorem read_cmdss {fuel : Nat} {cs : List Value} {x : DataW H × List MemPlace} (h : DataW.trod enc Try.prog w base spare held fuel 28 cs = some x) :
    ∃ (a : Option Addr) (l : List (List CmdV)) (cap : Nat), cs = [.slice a l.length cap] ∧ l.length ≤ cap ∧ cap ≤ maxLen ∧ SlAt 1 CmdsAt w a l ∧ (l.map costCmds).sum + 1 ≤ Rows.uptoBulk x.1 :=
  read_slice Try.underlying28 (by kernel_rfl) (by decide) (fun fuel cs x p hl hc ht => by
    obtain ⟨a, l, cap, rfl, _, _, h4, h5⟩ := read_cmds ht
    exact ⟨l, ⟨a, cap, by simpa [Addr.add] using hc 0 (by decide), h4⟩, h5⟩) h
end
end Go.Proofs.Ytfckbkhnelgjbaa
