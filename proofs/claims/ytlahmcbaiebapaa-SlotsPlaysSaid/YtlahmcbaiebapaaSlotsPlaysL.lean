/- The law SlotsPlays: its arguments, read. -/
import Derived.Test.YtlahmcbaiebapaaSlotW
namespace Go.Proofs.Ytlahmcbaiebapaa
open Go.ChangeShapes Go.WideShapes Go.ChangeAt Go.RowKit Go.Deep Go.Mem Go.Slt
set_option linter.unusedVariables false
theorem wf_i64' {z : Int} (h : (Lit.int .i64 z).wf = true) : -9223372036854775808 ≤ z ∧ z ≤ 9223372036854775807 := by
  simpa [Lit.wf, IntKind.min, IntKind.max, IntKind.signed, IntKind.bits] using h
/-- an entity at an address -/
def EntIn (w : World) (p : Addr) (y : Int × Int) : Prop := w.cell? p = some (.int .i64 y.1) ∧ w.cell? ⟨p.block, p.off + 1, none⟩ = some (.int .i64 y.2) ∧ (Lit.int .i64 y.1).wf = true
section
variable {H : Type} {enc : TypeId × Value → H} {w : World} {base : Nat} {spare : Nat → Bool} {held : Bool}
set_option maxRecDepth 100000 in
theorem read_ent (fuel : Nat) (cs : List Value) (x : DataW H × List MemPlace) (p : Addr) (hl : cs.length = 2) (hc : ∀ j, j < 2 → w.cell? (p.add j) = cs[j]?) (ht : DataW.trod enc Try.prog w base spare held fuel 55 cs = some x) : ∃ y, EntIn w p y ∧ 0 ≤ Rows.uptoBulk x.1 := by
  obtain ⟨xs, n, _, rfl, _, hxl, hf⟩ := DataW.trod_struct Try.underlying55 ht
  match cs, hl with
  | [v0, v1], _ =>
    have g0 : DataW.trod enc Try.prog w base spare held n 3 (([v0, v1].drop 0).take (Try.prog.cellsOf 3)) = xs[0]? := hf 0 _ rfl
    have g1 : DataW.trod enc Try.prog w base spare held n 3 (([v0, v1].drop 1).take (Try.prog.cellsOf 3)) = xs[1]? := hf 1 _ rfl
    rw [show Try.prog.cellsOf 3 = 1 by kernel_rfl] at g0 g1
    match xs, hxl with
    | [y0, y1], _ =>
      obtain ⟨z0, e0, _, w0⟩ := DataW.trod_int Try.underlying3 (show DataW.trod enc Try.prog w base spare held n 3 [v0] = some y0 from g0)
      obtain ⟨z1, e1, _, _⟩ := DataW.trod_int Try.underlying3 (show DataW.trod enc Try.prog w base spare held n 3 [v1] = some y1 from g1)
      injection e0 with e0; injection e1 with e1
      subst e0 e1
      have c0 := hc 0 (by decide)
      have c1 := hc 1 (by decide)
      exact ⟨(z0, z1), ⟨by simpa [Addr.add] using c0, by simpa [Addr.add] using c1, w0⟩, Nat.zero_le _⟩
end
set_option maxRecDepth 100000 in
theorem law_SlotsPlays {H : Type} {enc : TypeId × Value → H} (a0 a1 : Option Addr) (len0 len1 cap0 cap1 : Nat) (z0 z1 : List Int) (W : World) (w0 : IsRow .i64 W a0 len0 cap0 z0) (w1 : IsRow .i64 W a1 len1 cap1 z1) (r0 : cap0 * 8 ≤ 140737488351232) (r1 : cap1 * 8 ≤ 140737488351232)
    {base : Nat} {r : Reach} {v2 : Value} {d2 : DataW H} {p2 : List MemPlace} (o2 : Value.okWide Try.prog W r base 45 v2) (k2 : DataW.Trod enc Try.prog W 0 (fun _ => true) true 45 v2 d2 p2) :
    Calls Try.prog 4 #[.slice a0 len0 cap0, .slice a1 len1 cap1, v2] W fun e w' => e = .returned (.bool true) ∧ Below W.heap.size W w' := by
  obtain ⟨a, len, cap, rfl⟩ := okWide_slice Try.underlying45 o2
  obtain ⟨fuel, hf⟩ := k2
  obtain ⟨a', l, cap', hcs, hlc, hcm, hz, _⟩ := read_slice (E := EntIn) (cost := fun _ => 0) Try.underlying45 (show Try.prog.cellsOf 55 = 2 by kernel_rfl) (by decide) read_ent hf
  simp [Value.cells] at hcs
  obtain ⟨rfl, rfl, rfl⟩ := hcs
  have hle0 := w0.le
  have hle1 := w1.le
  have hg : ∀ k (h : k < l.length), l.getD k (0, 0) = l[k] := fun k h => by rw [List.getD_eq_getElem?_getD, List.getElem?_eq_getElem h]; rfl
  refine walk_SlotsPlays _ _ l a0 a1 _ len0 len1 _ cap0 cap1 _ w0.len w1.len rfl (by omega) (by omega) (by unfold maxLen at hcm; omega) ?_ W (IntsAt.of_row w0) (IntsAt.of_row w1) ?_
  · intro k hk
    obtain ⟨x, -, -, hi⟩ := hz (by omega)
    have := (hi k hk).2.2
    rw [← hg k hk] at this
    have := (wf_i64' this)
    omega
  · intro h0
    obtain ⟨x, e, hx, hi⟩ := hz h0
    refine ⟨x, e, hx, fun i hi' => ?_⟩
    obtain ⟨c0, c1, _⟩ := hi i hi'
    rw [hg i hi', add_next]
    exact ⟨c0, c1⟩
end Go.Proofs.Ytlahmcbaiebapaa
