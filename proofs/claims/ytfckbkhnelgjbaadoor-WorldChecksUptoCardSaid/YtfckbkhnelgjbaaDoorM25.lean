/- Lemmas for the law WorldChecks: WChecksL. No conditions. -/
import Derived.Test.YtfckbkhnelgjbaaDoorM24
import Derived.Lib.SmallJoins
/- WorldChecks: the law, its arguments opened. -/
section
namespace Go.Proofs.YtfckbkhnelgjbaaDoor
open Go.ChangeShapes Go.WideShapes Go.ChangeAt Go.RowKit Go.Nm Go.Mem
set_option linter.unusedVariables false
set_option maxRecDepth 100000 in
theorem open_world {H : Type} {enc : TypeId × Value → H} {w : World} {base b0 : Nat} {r : Reach} {spare : Nat → Bool} {held : Bool} {v : Value} {d : DataW H} {p : List MemPlace} (hv : Value.okWide Tryd.prog w r b0 26 v) (h : DataW.Trod enc Tryd.prog w base spare held 26 v d p) :
    ∃ y, WorldIn w v y ∧ costWorld y ≤ Rows.uptoBulk d := by
  obtain ⟨cs, rfl, hsz⟩ := okWide_struct Tryd.underlying26 hv
  obtain ⟨fuel, hf⟩ := h
  have hs3 : cs.toList.length = 3 := by rw [Array.length_toList, hsz]; kernel_rfl
  obtain ⟨y, ⟨v0, v1, v2, e, hw⟩, hc⟩ := read_world (cs := cs.toList) (x := (d, p)) hs3 hf
  have : cs = #[v0, v1, v2] := Array.toList_inj.1 e
  subst this
  exact ⟨y, hw, hc⟩
set_option maxRecDepth 100000 in
theorem law_WorldChecks {H : Type} {enc : TypeId × Value → H} (W : World) {base : Nat} {r : Reach} {v0 v1 : Value} {d0 d1 : DataW H} {p0 p1 : List MemPlace} {ds : List (DataW H)} (o0 : Value.okWide Tryd.prog W r base 26 v0) (k0 : DataW.Trod enc Tryd.prog W 0 (fun _ => true) true 26 v0 d0 p0)
    (o1 : Value.okWide Tryd.prog W r base 26 v1) (k1 : DataW.Trod enc Tryd.prog W 0 (fun _ => true) true 26 v1 d1 p1) (hk : Rows.uptoSmall H ds = true) (hd0 : d0 ∈ ds) (hd1 : d1 ∈ ds) :
    Calls Tryd.prog 3 #[v0, v1] W fun e w' => e = .returned (.bool true) ∧ Below W.heap.size W w' := by
  obtain ⟨y, hy, cy⟩ := open_world o0 k0
  obtain ⟨z, hz, cz⟩ := open_world o1 k1
  have h1 := Bulk.mem hd0
  have h2 := Bulk.mem hd1
  have h3 := of_decide_eq_true hk
  exact walk_WorldChecks y z v0 v1 W hy hz (fine_of (by omega)) (fine_of (by omega))
end Go.Proofs.YtfckbkhnelgjbaaDoor
end
