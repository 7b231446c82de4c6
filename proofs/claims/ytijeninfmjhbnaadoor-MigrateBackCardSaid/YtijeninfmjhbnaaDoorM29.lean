/- Lemmas for the law MigrateBack: MigLawL. No conditions. -/
import Derived.Test.YtijeninfmjhbnaaDoorM28
/- MigrateBack: the law, its arguments opened. -/
section
namespace Go.Proofs.YtijeninfmjhbnaaDoor
open Go.ChangeShapes Go.WideShapes Go.ChangeAt Go.RowKit Go.Deep Go.Mem
set_option linter.unusedVariables false
set_option maxRecDepth 100000 in
theorem law_MigrateBack {H : Type} {enc : TypeId × Value → H} (W : World)
    {base : Nat} {r : Reach} {v0 v1 : Value} {d0 d1 : DataW H} {p0 p1 : List MemPlace} (o0 : Value.okWide Tryd.prog W r base 22 v0) (k0 : DataW.Trod enc Tryd.prog W 0 (fun _ => true) true 22 v0 d0 p0)
    (o1 : Value.okWide Tryd.prog W r base 33 v1) (k1 : DataW.Trod enc Tryd.prog W 0 (fun _ => true) true 33 v1 d1 p1)
    (q0 : ∀ n ∈ d0.weights Tryd.prog 22, n ≤ reachBytes) (q1 : ∀ n ∈ d1.weights Tryd.prog 33, n ≤ reachBytes) :
    Calls Tryd.prog 4 #[v0, v1] W fun e w' => e = .returned (.bool true) ∧ Below W.heap.size W w' := by
  obtain ⟨al, len, cl, rfl⟩ := okWide_slice Tryd.underlying22 o0
  obtain ⟨fuel, hf⟩ := k0
  obtain ⟨al', l, cl', hcs, hlc, hcm, hz, hb, hb2⟩ := read_kinds_w hf q0
  simp [Value.cells] at hcs
  obtain ⟨rfl, rfl, rfl⟩ := hcs
  obtain ⟨am, lenm, cm, rfl⟩ := okWide_slice Tryd.underlying33 o1
  obtain ⟨fuel1, hf1⟩ := k1
  obtain ⟨am', lm, cm', hcs1, _, _, hzm, hbm⟩ := read_moves_w hf1 q1
  simp [Value.cells] at hcs1
  obtain ⟨rfl, rfl, rfl⟩ := hcs1
  unfold reachBytes at hb2 hbm
  unfold maxLen at hcm
  exact walk_MigrateBack l al l.length cl rfl (by omega) hlc (by omega) lm am lm.length cm rfl (fun y hy => by have := hbm y hy; omega) W hz hzm
end Go.Proofs.YtijeninfmjhbnaaDoor
end
