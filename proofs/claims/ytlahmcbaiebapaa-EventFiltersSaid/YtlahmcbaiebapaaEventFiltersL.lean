/- The law EventFilters: its arguments, read. -/
import Derived.Test.YtlahmcbaiebapaaEvW
import Derived.Test.YtlahmcbaiebapaaRdS
import Derived.Test.YtlahmcbaiebapaaApiItem
namespace Go.Proofs.Ytlahmcbaiebapaa
open Go.ChangeShapes Go.WideShapes Go.ChangeAt Go.RowKit Go.Deep Go.Mem Go.Slt
set_option linter.unusedVariables false
section
variable {H : Type} {enc : TypeId × Value → H} {w : World} {base : Nat} {spare : Nat → Bool} {held : Bool}
theorem slice_formE {P : Program} {t e : TypeId} (ht : P.underlying t = some (.slice e)) {fuel : Nat} {v : Value} {x : DataW H × List MemPlace} (h : DataW.trod enc P w base spare held fuel t [v] = some x) : ∃ a n c, v = .slice a n c := by
  rcases DataW.trod_slice ht h with ⟨e, _⟩ | ⟨a, n, c, _, _, _, _, e, _⟩
  · injection e with e; exact ⟨_, _, _, e⟩
  · injection e with e; exact ⟨_, _, _, e⟩
theorem each3 {t : TypeId} {d0 d1 d2 : DataW H} {t0 t1 t2 : TypeId} {fs : Array Field} (hu : Try.prog.underlying t = some (.struct fs)) (hf : fs.toList.map (·.type) = [t0, t1, t2]) {n : Nat} (hn : n ∈ d2.weights Try.prog t2) :
    n ∈ DataW.weights Try.prog t (.agg [d0, d1, d2]) := by
  simp only [DataW.weights, hu, hf, DataW.weightsEach, List.mem_append]
  exact .inr (.inr (.inl hn))
set_option maxRecDepth 100000 in
theorem read_worldE {B : Nat} {fuel : Nat} {cs : List Value} {x : DataW H × List MemPlace} (hl : cs.length = 3) (ht : DataW.trod enc Try.prog w base spare held fuel 70 cs = some x) (hw : ∀ n ∈ x.1.weights Try.prog 70, n ≤ B) :
    ∃ its, (∃ v0 v1 v2, cs = [v0, v1, v2] ∧ WorldI w (.agg #[v0, v1, v2]) its) ∧ its.length * 40 ≤ B := by
  obtain ⟨xs, n, _, rfl, _, hxl, hf⟩ := DataW.trod_struct Try.underlying70 ht
  match cs, hl with
  | [v0, v1, v2], _ =>
    have g0 : DataW.trod enc Try.prog w base spare held n 67 (([v0, v1, v2].drop 0).take (Try.prog.cellsOf 67)) = xs[0]? := hf 0 _ rfl
    have g1 : DataW.trod enc Try.prog w base spare held n 23 (([v0, v1, v2].drop 1).take (Try.prog.cellsOf 23)) = xs[1]? := hf 1 _ rfl
    have g2 : DataW.trod enc Try.prog w base spare held n 68 (([v0, v1, v2].drop 2).take (Try.prog.cellsOf 68)) = xs[2]? := hf 2 _ rfl
    rw [show Try.prog.cellsOf 67 = 1 by kernel_rfl] at g0
    rw [show Try.prog.cellsOf 23 = 1 by kernel_rfl] at g1
    rw [show Try.prog.cellsOf 68 = 1 by kernel_rfl] at g2
    match xs, hxl with
    | [y0, y1, y2], _ =>
      obtain ⟨ak, nk, ck, rfl⟩ := slice_formE Try.underlying67 (show DataW.trod enc Try.prog w base spare held n 67 [v0] = some y0 from g0)
      obtain ⟨ag, ng, cg, rfl⟩ := slice_formE Try.underlying23 (show DataW.trod enc Try.prog w base spare held n 23 [v1] = some y1 from g1)
      obtain ⟨ai, li, ci, e2, _, _, i1, _, i2⟩ := read_slice_w (sz := 3) (B := B) (E := ItemAt) (Sz := fun _ => True) Try.underlying68 (by kernel_rfl) (by decide) (fun fuel cs x p hl hc ht _ => by obtain ⟨y, hy, _⟩ := read_item fuel cs x p hl hc ht; exact ⟨y, hy, trivial⟩) (show DataW.trod enc Try.prog w base spare held n 68 [v2] = some y2 from g2) (fun k hk => hw k (each3 Try.underlying70 rfl hk))
      rw [show Try.prog.bytesOf 80 = 40 by kernel_rfl] at i2
      injection e2 with e2
      subst e2
      exact ⟨li, ⟨_, _, _, rfl, ak, nk, ck, ag, ng, cg, ai, ci, rfl, i1⟩, i2⟩
set_option maxRecDepth 100000 in
theorem read_evs_w {B : Nat} {fuel : Nat} {cs : List Value} {x : DataW H × List MemPlace} (h : DataW.trod enc Try.prog w base spare held fuel 93 cs = some x) (hw : ∀ n ∈ x.1.weights Try.prog 93, n ≤ B) :
    ∃ (a : Option Addr) (l : List EvV) (cap : Nat), cs = [.slice a l.length cap] ∧ SlAt 4 EvAt w a l ∧ (∀ y ∈ l, EvWf y) ∧ l.length * 32 ≤ B := by
  obtain ⟨a, l, cap, h1, h2, h3, h4, _, h5⟩ := read_slice_w (sz := 4) (B := B) (E := fun w p y => EvAt w p y ∧ EvWf y) (Sz := fun _ => True) Try.underlying93 (by kernel_rfl) (by decide) (fun fuel cs x p hl hc ht _ => by obtain ⟨y, ⟨hy, a1, a2, a3, _⟩, _⟩ := read_ev fuel cs x p hl hc ht; exact ⟨y, ⟨hy, a1, a2, a3⟩, trivial⟩) h hw
  rw [show Try.prog.bytesOf 99 = 32 by kernel_rfl] at h5
  refine ⟨a, l, cap, h1, fun h0 => ?_, fun y hy => ?_, h5⟩
  · obtain ⟨x, e, hx, hi⟩ := h4 h0
    exact ⟨x, e, hx, fun i hi' => (hi i hi').1⟩
  · obtain ⟨i, hi', rfl⟩ := List.getElem_of_mem hy
    obtain ⟨x, e, hx, hi⟩ := h4 (by omega)
    exact (hi i hi').2
end
set_option maxRecDepth 100000 in
theorem law_EventFilters {H : Type} {enc : TypeId × Value → H} (a2 : Int) (W : World)
    {base : Nat} {r : Reach} {v0 v1 v3 : Value} {d0 d1 d3 : DataW H} {p0 p1 p3 : List MemPlace} (o0 : Value.okWide Try.prog W r base 70 v0) (k0 : DataW.Trod enc Try.prog W 0 (fun _ => true) true 70 v0 d0 p0)
    (o1 : Value.okWide Try.prog W r base 93 v1) (k1 : DataW.Trod enc Try.prog W 0 (fun _ => true) true 93 v1 d1 p1)
    (o3 : Value.okWide Try.prog W r base 95 v3) (k3 : DataW.Trod enc Try.prog W 0 (fun _ => true) true 95 v3 d3 p3)
    (q0 : ∀ n ∈ d0.weights Try.prog 70, n ≤ reachBytes) (q1 : ∀ n ∈ d1.weights Try.prog 93, n ≤ reachBytes) :
    Calls Try.prog 7 #[v0, v1, .int .i64 a2, v3] W fun e w' => e = .returned (.bool true) ∧ Below W.heap.size W w' := by
  obtain ⟨cs, rfl, hsz⟩ := okWide_struct Try.underlying70 o0
  obtain ⟨fuel, hf⟩ := k0
  have hs3 : cs.toList.length = 3 := by rw [Array.length_toList, hsz]; kernel_rfl
  obtain ⟨its, ⟨u0, u1, u2, e, hw⟩, hc⟩ := read_worldE (cs := cs.toList) (x := (d0, p0)) hs3 hf q0
  have : cs = #[u0, u1, u2] := Array.toList_inj.1 e
  subst this
  obtain ⟨cs3, rfl, hsz3⟩ := okWide_struct Try.underlying95 o3
  obtain ⟨fuel3, hf3⟩ := k3
  have hs2 : cs3.toList.length = 2 := by rw [Array.length_toList, hsz3]; kernel_rfl
  obtain ⟨lo, hi, he⟩ : ∃ lo hi, cs3.toList = [.int .i64 lo, .int .i64 hi] := by
    have hf3' : DataW.trod enc Try.prog W 0 (fun _ => true) true fuel3 95 cs3.toList = some (d3, p3) := hf3
    obtain ⟨xs, n, _, _, _, hxl, hfs⟩ := DataW.trod_struct Try.underlying95 hf3'
    match h : cs3.toList, hs2 with
    | [t0, t1], _ =>
      rw [h] at hfs
      have u0 : DataW.trod enc Try.prog W 0 (fun _ => true) true n 3 (([t0, t1].drop 0).take (Try.prog.cellsOf 3)) = xs[0]? := hfs 0 _ rfl
      have u1 : DataW.trod enc Try.prog W 0 (fun _ => true) true n 3 (([t0, t1].drop 1).take (Try.prog.cellsOf 3)) = xs[1]? := hfs 1 _ rfl
      rw [show Try.prog.cellsOf 3 = 1 by kernel_rfl] at u0 u1
      match xs, hxl with
      | [q0, q1], _ =>
        obtain ⟨n0, f0, _, _⟩ := DataW.trod_int Try.underlying3 (show DataW.trod enc Try.prog W 0 (fun _ => true) true n 3 [t0] = some q0 from u0)
        obtain ⟨n1, f1, _, _⟩ := DataW.trod_int Try.underlying3 (show DataW.trod enc Try.prog W 0 (fun _ => true) true n 3 [t1] = some q1 from u1)
        injection f0 with f0; injection f1 with f1
        subst f0 f1
        exact ⟨_, _, rfl⟩
  have : cs3 = #[.int .i64 lo, .int .i64 hi] := Array.toList_inj.1 he
  subst this
  obtain ⟨al, len, cl, rfl⟩ := okWide_slice Try.underlying93 o1
  obtain ⟨fuel1, hf1⟩ := k1
  obtain ⟨al', l, cl', hcs, hz, hwf, hb⟩ := read_evs_w hf1 q1
  simp [Value.cells] at hcs
  obtain ⟨rfl, rfl, rfl⟩ := hcs
  unfold reachBytes at hc hb
  exact walk_EventFilters its _ l al l.length cl a2 lo hi rfl (by omega) (by omega) hwf W hw hz
end Go.Proofs.Ytlahmcbaiebapaa
