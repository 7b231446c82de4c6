/- The law PlanLayers: its argument, read. -/
import Derived.Test.YtembjokbhbdoeaaPlanLays
namespace Go.Proofs.Ytembjokbhbdoeaa
open Go.ChangeShapes Go.WideShapes Go.ChangeAt Go.RowKit Go.Deep Go.Mem
set_option linter.unusedVariables false
set_option maxRecDepth 100000 in
theorem law_PlanLayers {H : Type} {enc : TypeId × Value → H} (W : World) {base : Nat} {r : Reach} {v0 : Value} {d0 : DataW H} {p0 : List MemPlace} (o0 : Value.okWide Try.prog W r base 22 v0) (k0 : DataW.Trod enc Try.prog W 0 (fun _ => true) true 22 v0 d0 p0) :
    Calls Try.prog 4 #[v0] W fun e w' => e = .returned (.bool true) ∧ Below W.heap.size W w' := by
  obtain ⟨a, len, cap, rfl⟩ := okWide_slice Try.underlying22 o0
  obtain ⟨fuel, hf⟩ := k0
  obtain ⟨a', l, cap', hcs, _, _, hz, hb⟩ := read_syss hf
  simp [Value.cells] at hcs
  obtain ⟨rfl, rfl, rfl⟩ := hcs
  exact walk_PlanLayers a cap _ l rfl W hz
end Go.Proofs.Ytembjokbhbdoeaa
