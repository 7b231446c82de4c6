/- Systems as they lie in memory: what they read and write. -/
import Derived.Test.YtembjokbhbdoeaaRd
namespace Go.Proofs.Ytembjokbhbdoeaa
open Go.RowKit Go.ChangeShapes Go.WideShapes Go.Deep Go.Mem
set_option linter.unusedVariables false
structure SysV where
  reads : List Int
  writes : List Int
  deriving Inhabited, DecidableEq
/-- a system as a value -/
def SysIn (w : World) (v : Value) (y : SysV) : Prop := ∃ s0 a1 n1 c1 a2 n2 c2 a3 c3 a4 c4 a5 n5 c5 a6 n6 c6,
  v = .agg #[.string s0, .slice a1 n1 c1, .slice a2 n2 c2, .slice a3 y.reads.length c3, .slice a4 y.writes.length c4, .slice a5 n5 c5, .slice a6 n6 c6] ∧
  IntsAt .i64 w a3 y.reads ∧ IntsAt .i64 w a4 y.writes ∧ y.reads.length ≤ maxLen ∧ y.writes.length ≤ maxLen
theorem SysIn.below {w w' : World} {v : Value} {y : SysV} (h : SysIn w v y) (hb : Below w.heap.size w w') : SysIn w' v y := by
  obtain ⟨s0, a1, n1, c1, a2, n2, c2, a3, c3, a4, c4, a5, n5, c5, a6, n6, c6, h1, h2, h3, h4⟩ := h
  exact ⟨s0, a1, n1, c1, a2, n2, c2, a3, c3, a4, c4, a5, n5, c5, a6, n6, c6, h1, h2.below hb, h3.below hb, h4⟩
/-- a system at an address -/
def SysAt (w : World) (p : Addr) (y : SysV) : Prop := ∃ s0 a1 n1 c1 a2 n2 c2 a3 c3 a4 c4 a5 n5 c5 a6 n6 c6,
  (w.cell? p = some (.string s0) ∧ w.cell? ⟨p.block, p.off + 1, none⟩ = some (.slice a1 n1 c1) ∧ w.cell? ⟨p.block, p.off + 2, none⟩ = some (.slice a2 n2 c2) ∧
   w.cell? ⟨p.block, p.off + 3, none⟩ = some (.slice a3 y.reads.length c3) ∧ w.cell? ⟨p.block, p.off + 4, none⟩ = some (.slice a4 y.writes.length c4) ∧
   w.cell? ⟨p.block, p.off + 5, none⟩ = some (.slice a5 n5 c5) ∧ w.cell? ⟨p.block, p.off + 6, none⟩ = some (.slice a6 n6 c6)) ∧
  IntsAt .i64 w a3 y.reads ∧ IntsAt .i64 w a4 y.writes ∧ y.reads.length ≤ maxLen ∧ y.writes.length ≤ maxLen
theorem SysAt.abides : Abides SysAt := fun w w' p y h hb => by
  obtain ⟨s0, a1, n1, c1, a2, n2, c2, a3, c3, a4, c4, a5, n5, c5, a6, n6, c6, ⟨e0, e1, e2, e3, e4, e5, e6⟩, h2, h3, h4⟩ := h
  exact ⟨s0, a1, n1, c1, a2, n2, c2, a3, c3, a4, c4, a5, n5, c5, a6, n6, c6, ⟨cell_abides e0 hb, cell_abides e1 hb, cell_abides e2 hb, cell_abides e3 hb, cell_abides e4 hb, cell_abides e5 hb, cell_abides e6 hb⟩, h2.below hb, h3.below hb, h4⟩
/-- a slice of ints at an address -/
def IntsIn (w : World) (p : Addr) (l : List Int) : Prop := ∃ a c, w.cell? p = some (.slice a l.length c) ∧ IntsAt .i64 w a l
theorem IntsIn.abides : Abides IntsIn := fun w w' p y h hb => by
  obtain ⟨a, c, h1, h2⟩ := h
  exact ⟨a, c, cell_abides h1 hb, h2.below hb⟩
def costSys (y : SysV) : Nat := y.reads.length + y.writes.length + 1
def costInts (l : List Int) : Nat := l.length + 1
section
variable {H : Type} {enc : TypeId × Value → H} {w : World} {base : Nat} {spare : Nat → Bool} {held : Bool}
theorem int_cost : ∀ l : List Int, (l.map fun _ => 1).sum = l.length := fun l => by induction l with | nil => rfl | cons a l ih => simp [ih]; omega
theorem read_ints {fuel : Nat} {cs : List Value} {x : DataW H × List MemPlace} (h : DataW.trod enc Try.prog w base spare held fuel 26 cs = some x) :
    ∃ (a : Option Addr) (l : List Int) (cap : Nat), cs = [.slice a l.length cap] ∧ l.length ≤ cap ∧ cap ≤ maxLen ∧ IntsAt .i64 w a l ∧ l.length + 1 ≤ Rows.uptoBulk x.1 := by
  obtain ⟨a, l, cap, h1, h2, h3, h4, h5⟩ := read_slice (E := fun w p (z : Int) => w.cell? p = some (.int .i64 z)) (cost := fun _ => 1) Try.underlying26 (show Try.prog.cellsOf 3 = 1 by kernel_rfl) (by decide) (fun fuel cs x p hl hc ht => by
    obtain ⟨z, rfl, rfl, _⟩ := DataW.trod_int Try.underlying3 ht
    refine ⟨z, by have := hc 0 (by decide); simpa [Addr.add] using this, by simp [Rows.uptoBulk]⟩) h
  refine ⟨a, l, cap, h1, h2, h3, ?_, by rw [int_cost] at h5; exact h5⟩
  intro h0
  obtain ⟨x, e, hx, hi⟩ := h4 h0
  refine ⟨x, e, hx, fun i hi' => ?_⟩
  have := hi i hi'
  rw [Nat.mul_one] at this
  rw [this, List.getD_eq_getElem?_getD, List.getElem?_eq_getElem hi']; rfl
theorem slice_shape {t e fuel : Nat} {cs : List Value} {x : DataW H × List MemPlace} (ht : Try.prog.underlying t = some (.slice e)) (h : DataW.trod enc Try.prog w base spare held fuel t cs = some x) : ∃ a n c, cs = [.slice a n c] := by
  rcases open_slice ht h with ⟨rfl, _⟩ | ⟨a, n, cap, m, n2, D, Pl, rfl, _⟩
  · exact ⟨_, _, _, rfl⟩
  · exact ⟨_, _, _, rfl⟩
set_option maxRecDepth 100000 in
set_option maxHeartbeats 1000000 in
theorem read_sys (fuel : Nat) (cs : List Value) (x : DataW H × List MemPlace) (p : Addr) (hl : cs.length = 7) (hc : ∀ j, j < 7 → w.cell? (p.add j) = cs[j]?) (ht : DataW.trod enc Try.prog w base spare held fuel 30 cs = some x) : ∃ y, SysAt w p y ∧ costSys y ≤ Rows.uptoBulk x.1 := by
  obtain ⟨xs, n, _, rfl, _, hxl, hf⟩ := DataW.trod_struct Try.underlying30 ht
  match cs, hl with
  | [v0, v1, v2, v3, v4, v5, v6], _ =>
    have g0 : DataW.trod enc Try.prog w base spare held n 9 (([v0, v1, v2, v3, v4, v5, v6].drop 0).take (Try.prog.cellsOf 9)) = xs[0]? := hf 0 _ rfl
    have g1 : DataW.trod enc Try.prog w base spare held n 26 (([v0, v1, v2, v3, v4, v5, v6].drop 1).take (Try.prog.cellsOf 26)) = xs[1]? := hf 1 _ rfl
    have g2 : DataW.trod enc Try.prog w base spare held n 26 (([v0, v1, v2, v3, v4, v5, v6].drop 2).take (Try.prog.cellsOf 26)) = xs[2]? := hf 2 _ rfl
    have g3 : DataW.trod enc Try.prog w base spare held n 26 (([v0, v1, v2, v3, v4, v5, v6].drop 3).take (Try.prog.cellsOf 26)) = xs[3]? := hf 3 _ rfl
    have g4 : DataW.trod enc Try.prog w base spare held n 26 (([v0, v1, v2, v3, v4, v5, v6].drop 4).take (Try.prog.cellsOf 26)) = xs[4]? := hf 4 _ rfl
    have g5 : DataW.trod enc Try.prog w base spare held n 27 (([v0, v1, v2, v3, v4, v5, v6].drop 5).take (Try.prog.cellsOf 27)) = xs[5]? := hf 5 _ rfl
    have g6 : DataW.trod enc Try.prog w base spare held n 28 (([v0, v1, v2, v3, v4, v5, v6].drop 6).take (Try.prog.cellsOf 28)) = xs[6]? := hf 6 _ rfl
    rw [show Try.prog.cellsOf 9 = 1 by kernel_rfl] at g0
    rw [show Try.prog.cellsOf 26 = 1 by kernel_rfl] at g1 g2 g3 g4
    rw [show Try.prog.cellsOf 27 = 1 by kernel_rfl] at g5
    rw [show Try.prog.cellsOf 28 = 1 by kernel_rfl] at g6
    match xs, hxl with
    | [y0, y1, y2, y3, y4, y5, y6], _ =>
      obtain ⟨s0, e0, _, _⟩ := DataW.trod_string Try.underlying9 (show DataW.trod enc Try.prog w base spare held n 9 [v0] = some y0 from g0)
      obtain ⟨a1, n1, c1, e1⟩ := slice_shape Try.underlying26 (show DataW.trod enc Try.prog w base spare held n 26 [v1] = some y1 from g1)
      obtain ⟨a2, n2, c2, e2⟩ := slice_shape Try.underlying26 (show DataW.trod enc Try.prog w base spare held n 26 [v2] = some y2 from g2)
      obtain ⟨a3, l3, c3, e3, p3, q3, h3, b3⟩ := read_ints (show DataW.trod enc Try.prog w base spare held n 26 [v3] = some y3 from g3)
      obtain ⟨a4, l4, c4, e4, p4, q4, h4, b4⟩ := read_ints (show DataW.trod enc Try.prog w base spare held n 26 [v4] = some y4 from g4)
      obtain ⟨a5, n5, c5, e5⟩ := slice_shape Try.underlying27 (show DataW.trod enc Try.prog w base spare held n 27 [v5] = some y5 from g5)
      obtain ⟨a6, n6, c6, e6⟩ := slice_shape Try.underlying28 (show DataW.trod enc Try.prog w base spare held n 28 [v6] = some y6 from g6)
      injection e0 with e0; injection e1 with e1; injection e2 with e2; injection e3 with e3; injection e4 with e4; injection e5 with e5; injection e6 with e6
      subst e0 e1 e2 e3 e4 e5 e6
      have c0 := hc 0 (by decide)
      have c1' := hc 1 (by decide)
      have c2' := hc 2 (by decide)
      have c3' := hc 3 (by decide)
      have c4' := hc 4 (by decide)
      have c5' := hc 5 (by decide)
      have c6' := hc 6 (by decide)
      simp only [List.map_cons, List.map_nil, Rows.uptoBulk, Rows.uptoBulkAll]
      refine ⟨⟨l3, l4⟩, ⟨s0, a1, n1, c1, a2, n2, c2, a3, c3, a4, c4, a5, n5, c5, a6, n6, c6, ⟨by simpa [Addr.add] using c0, by simpa [Addr.add] using c1', by simpa [Addr.add] using c2', by simpa [Addr.add] using c3', by simpa [Addr.add] using c4', by simpa [Addr.add] using c5', by simpa [Addr.add] using c6'⟩, h3, h4, ?_, ?_⟩, ?_⟩
      · exact Nat.le_trans p3 q3
      · exact Nat.le_trans p4 q4
      · unfold costSys; simp only; omega
set_option maxRecDepth 100000 in
theorem read_syss {fuel : Nat} {cs : List Value} {x : DataW H × List MemPlace} (h : DataW.trod enc Try.prog w base spare held fuel 22 cs = some x) :
    ∃ (a : Option Addr) (l : List SysV) (cap : Nat), cs = [.slice a l.length cap] ∧ l.length ≤ cap ∧ cap ≤ maxLen ∧ SlAt 7 SysAt w a l ∧ (l.map costSys).sum + 1 ≤ Rows.uptoBulk x.1 :=
  read_slice Try.underlying22 (by kernel_rfl) (by decide) read_sys h
set_option maxRecDepth 100000 in
theorem read_intss {fuel : Nat} {cs : List Value} {x : DataW H × List MemPlace} (h : DataW.trod enc Try.prog w base spare held fuel 23 cs = some x) :
    ∃ (a : Option Addr) (l : List (List Int)) (cap : Nat), cs = [.slice a l.length cap] ∧ l.length ≤ cap ∧ cap ≤ maxLen ∧ SlAt 1 IntsIn w a l ∧ (l.map costInts).sum + 1 ≤ Rows.uptoBulk x.1 :=
  read_slice Try.underlying23 (by kernel_rfl) (by decide) (fun fuel cs x p hl hc ht => by
    obtain ⟨a, l, cap, rfl, _, _, h4, h5⟩ := read_ints ht
    exact ⟨l, ⟨a, cap, by simpa [Addr.add] using hc 0 (by decide), h4⟩, h5⟩) h
end
end Go.Proofs.Ytembjokbhbdoeaa
