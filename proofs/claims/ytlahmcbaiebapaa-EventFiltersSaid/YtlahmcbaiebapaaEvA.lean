/- Events: lists of them in memory; slices.Equal of a list of events with itself; event.Of. -/
import Derived.Test.YtlahmcbaiebapaaRd
import Derived.Test.YtlahmcbaiebapaaMem3
import Derived.Test.YtlahmcbaiebapaaOwn
import Derived.Deep.DeepMust
import Derived.BigQuiet
namespace Go.Proofs.Ytlahmcbaiebapaa
open Go.ChangeShapes Go.WideShapes Go.ChangeAt Go.RowKit Go.Mem
set_option linter.unusedVariables false
structure EvV where
  s : Int
  n : Int
  g : Int
  v : Int
deriving DecidableEq, Inhabited
def evL (y : EvV) : List Value := [.int .i64 y.s, .int .i64 y.n, .int .i64 y.g, .int .i64 y.v]
abbrev evA (y : EvV) : Value := .agg #[.int .i64 y.s, .int .i64 y.n, .int .i64 y.g, .int .i64 y.v]
def evC (E : List EvV) : List Value := E.flatMap evL
theorem evC_snoc (E : List EvV) (y : EvV) : evC E ++ (#[.int .i64 y.s, .int .i64 y.n, .int .i64 y.g, .int .i64 y.v] : Array Value).toList = evC (E ++ [y]) := by simp [evC, evL]
theorem evC_len : ∀ E : List EvV, (evC E).length = E.length * 4
  | [] => rfl
  | x :: E => by have h := evC_len E; unfold evC at h ⊢; rw [List.flatMap_cons, List.length_append, h]; simp [evL]; omega
theorem evC_get : ∀ (E : List EvV) (i : Nat) (h : i < E.length), (evC E)[i * 4]? = some (.int .i64 (E[i]).s) ∧ (evC E)[i * 4 + 1]? = some (.int .i64 (E[i]).n) ∧ (evC E)[i * 4 + 2]? = some (.int .i64 (E[i]).g) ∧ (evC E)[i * 4 + 3]? = some (.int .i64 (E[i]).v)
  | x :: E, 0, _ => ⟨rfl, rfl, rfl, rfl⟩
  | x :: E, i + 1, h => by
    have h1 := evC_get E i (by simpa using h)
    have e : evC (x :: E) = evL x ++ evC E := rfl
    have k : ∀ d, (evL x ++ evC E)[(i + 1) * 4 + d]? = (evC E)[i * 4 + d]? := fun d => by
      rw [List.getElem?_append_right (by simp [evL]; omega)]
      congr 1
      simp [evL]; omega
    rw [e]
    have k0 := k 0
    rw [Nat.add_zero, Nat.add_zero] at k0
    rw [k0, k 1, k 2, k 3]
    exact h1
def EvAt (w : World) (p : Addr) (y : EvV) : Prop := w.cell? p = some (.int .i64 y.s) ∧ w.cell? ⟨p.block, p.off + 1, none⟩ = some (.int .i64 y.n) ∧ w.cell? ⟨p.block, p.off + 2, none⟩ = some (.int .i64 y.g) ∧ w.cell? ⟨p.block, p.off + 3, none⟩ = some (.int .i64 y.v)
theorem EvAt.abides : Abides EvAt := fun w w' p y h hb => ⟨cell_abides h.1 hb, cell_abides h.2.1 hb, cell_abides h.2.2.1 hb, cell_abides h.2.2.2 hb⟩
theorem EvAt.of_own {w : World} {base e n cap : Nat} {a : Option Addr} {E : List EvV} (h : w.ownsRow base e 4 (.slice a n cap) n (evC E)) (hn : n = E.length) : SlAt 4 EvAt w a E := by
  intro hz
  rcases a with _ | ad
  · obtain ⟨g, cap', hv, _⟩ := h.form (by omega)
    cases hv
  · obtain ⟨g, cap', hv, _, hlt⟩ := h.form (by omega)
    injection hv with hv
    injection hv with hv
    subst hv
    refine ⟨_, rfl, hlt, fun i hi => ?_⟩
    obtain ⟨g0, g1, g2, g3⟩ := evC_get E i hi
    have k0 := h.cells (g := g) rfl _ _ g0
    have k1 := h.cells (g := g) rfl _ _ g1
    have k2 := h.cells (g := g) rfl _ _ g2
    have k3 := h.cells (g := g) rfl _ _ g3
    rw [Addr.add_lit, Nat.zero_add] at k0 k1 k2 k3
    rw [Addr.add_lit, Nat.zero_add]
    exact ⟨k0, k1, k2, k3⟩
section
variable {H : Type} {enc : TypeId × Value → H} {w : World} {base : Nat} {spare : Nat → Bool} {held : Bool}
set_option maxRecDepth 100000 in
theorem read_ev (fuel : Nat) (cs : List Value) (x : DataW H × List MemPlace) (p : Addr) (hl : cs.length = 4) (hc : ∀ j, j < 4 → w.cell? (p.add j) = cs[j]?) (ht : DataW.trod enc Try.prog w base spare held fuel 99 cs = some x) : ∃ y : EvV, (EvAt w p y ∧ (Lit.int .i64 y.s).wf = true ∧ (Lit.int .i64 y.n).wf = true ∧ (Lit.int .i64 y.g).wf = true ∧ (Lit.int .i64 y.v).wf = true) ∧ 1 ≤ Rows.uptoBulk x.1 := by
  obtain ⟨xs, n, _, rfl, _, hxl, hf⟩ := DataW.trod_struct Try.underlying99 ht
  match cs, hl with
  | [v0, v1, v2, v3], _ =>
    have g0 : DataW.trod enc Try.prog w base spare held n 3 (([v0, v1, v2, v3].drop 0).take (Try.prog.cellsOf 3)) = xs[0]? := hf 0 _ rfl
    have g1 : DataW.trod enc Try.prog w base spare held n 55 (([v0, v1, v2, v3].drop 1).take (Try.prog.cellsOf 55)) = xs[1]? := hf 1 _ rfl
    have g3 : DataW.trod enc Try.prog w base spare held n 3 (([v0, v1, v2, v3].drop 3).take (Try.prog.cellsOf 3)) = xs[2]? := hf 2 _ rfl
    rw [show Try.prog.cellsOf 55 = 2 by kernel_rfl] at g1
    rw [show Try.prog.cellsOf 3 = 1 by kernel_rfl] at g0 g3
    match xs, hxl with
    | [y0, y1, y3], _ =>
      obtain ⟨us, m, _, _, _, hul, hu⟩ := DataW.trod_struct Try.underlying55 (show DataW.trod enc Try.prog w base spare held n 55 [v1, v2] = some y1 from g1)
      have u0 : DataW.trod enc Try.prog w base spare held m 3 (([v1, v2].drop 0).take (Try.prog.cellsOf 3)) = us[0]? := hu 0 _ rfl
      have u1 : DataW.trod enc Try.prog w base spare held m 3 (([v1, v2].drop 1).take (Try.prog.cellsOf 3)) = us[1]? := hu 1 _ rfl
      rw [show Try.prog.cellsOf 3 = 1 by kernel_rfl] at u0 u1
      match us, hul with
      | [q0, q1], _ =>
        obtain ⟨n0, f0, _, w0⟩ := DataW.trod_int Try.underlying3 (show DataW.trod enc Try.prog w base spare held n 3 [v0] = some y0 from g0)
        obtain ⟨n1, f1, _, w1⟩ := DataW.trod_int Try.underlying3 (show DataW.trod enc Try.prog w base spare held m 3 [v1] = some q0 from u0)
        obtain ⟨n2, f2, _, w2⟩ := DataW.trod_int Try.underlying3 (show DataW.trod enc Try.prog w base spare held m 3 [v2] = some q1 from u1)
        obtain ⟨n3, f3, _, w3⟩ := DataW.trod_int Try.underlying3 (show DataW.trod enc Try.prog w base spare held n 3 [v3] = some y3 from g3)
        injection f0 with f0; injection f1 with f1; injection f2 with f2; injection f3 with f3
        subst f0 f1 f2 f3
        have c0 := hc 0 (by decide)
        have c1 := hc 1 (by decide)
        have c2 := hc 2 (by decide)
        have c3 := hc 3 (by decide)
        exact ⟨⟨n0, n1, n2, n3⟩, ⟨⟨by simpa [Addr.add] using c0, by simpa [Addr.add] using c1, by simpa [Addr.add] using c2, by simpa [Addr.add] using c3⟩, w0, w1, w2, w3⟩, by simp only [List.map_cons, List.map_nil, Rows.uptoBulk, Rows.uptoBulkAll]; omega⟩
end
theorem ev_same (a b c d : Int) (w : World) : (Op.equalIn 10000 99 (.agg #[.int .i64 a, .int .i64 b, .int .i64 c, .int .i64 d]) (.agg #[.int .i64 a, .int .i64 b, .int .i64 c, .int .i64 d])).run Try.prog w = .ok true w := by
  have u3 := Try.underlying3
  have a3 := Try.isAgg3
  have z3 := Try.sizeOf3
  have ue := Try.underlying55
  have ae := Try.isAgg55
  have ze := Try.sizeOf55
  rw [show (10000 : Nat) = 9998 + 1 + 1 from rfl, Op.equalIn]
  simp only [Sem.run_bind, run_underlying Try.underlying99, Result.andThen_ok]
  go_simp
theorem ev_neq (a b c d : Int) (w : World) : (binOp .neq 99 (.agg #[.int .i64 a, .int .i64 b, .int .i64 c, .int .i64 d]) (.agg #[.int .i64 a, .int .i64 b, .int .i64 c, .int .i64 d])).run Try.prog w = .ok (.bool false) w := by
  have h := ev_same a b c d
  simp [binOp, Op.equal, Op.maxDepth, h]
theorem ev_guard (o : BinOp) (x y : Operand) (u v : Array Value) (w : World) : (eqGuard o 99 x y (.agg u) (.agg v)).run Try.prog w = .ok () w := by
  have h : Try.prog.eqGuardType Try.prog.depth 99 = false := by kernel_rfl
  cases o <;> simp [eqGuard, h]
end Go.Proofs.Ytlahmcbaiebapaa
