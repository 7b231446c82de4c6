/- Lemmas for the law SystemChecks: SystLawL. No conditions. -/
import Derived.Test.YtijeninfmjhbnaaDoorM32
import Derived.Lib.SmallJoins
/- SystemChecks: the law, its arguments opened. -/
section
namespace Go.Proofs.YtijeninfmjhbnaaDoor
open Go.ChangeShapes Go.WideShapes Go.ChangeAt Go.RowKit Go.Nm Go.Mem
set_option linter.unusedVariables false
set_option maxRecDepth 100000 in
theorem open_syst {H : Type} {enc : TypeId × Value → H} {w : World} {base b0 : Nat} {r : Reach} {spare : Nat → Bool} {held : Bool} {v : Value} {d : DataW H} {p : List MemPlace} (hv : Value.okWide Tryd.prog w r b0 27 v) (h : DataW.Trod enc Tryd.prog w base spare held 27 v d p) :
    ∃ y, SystIn w v y ∧ costSyst y ≤ Rows.uptoBulk d := by
  obtain ⟨cs, rfl, hsz⟩ := okWide_struct Tryd.underlying27 hv
  obtain ⟨fuel, hf⟩ := h
  have hs7 : cs.toList.length = 7 := by rw [Array.length_toList, hsz]; kernel_rfl
  obtain ⟨y, hw, hc⟩ := read_syst (cs := cs.toList) (x := (d, p)) hs7 hf
  exact ⟨y, hw, hc⟩
theorem le_sum_of {α : Type} (f : α → Nat) : ∀ {l : List α} {x : α}, x ∈ l → f x ≤ (l.map f).sum
  | [], x, h => by cases h
  | y :: r, x, h => by
    rcases List.mem_cons.1 h with rfl | h
    · simp
    · have := le_sum_of f h
      simp; omega
theorem len_le_sum {α : Type} (f : α → Nat) (hf : ∀ x, 1 ≤ f x) : ∀ l : List α, l.length ≤ (l.map f).sum
  | [] => by simp
  | y :: r => by
    have := len_le_sum f hf r
    have := hf y
    simp; omega
set_option maxRecDepth 100000 in
theorem law_SystemChecks {H : Type} {enc : TypeId × Value → H} (W : World) {base : Nat} {r : Reach} {v0 v1 : Value} {d0 d1 : DataW H} {p0 p1 : List MemPlace} {ds : List (DataW H)} (o0 : Value.okWide Tryd.prog W r base 22 v0) (k0 : DataW.Trod enc Tryd.prog W 0 (fun _ => true) true 22 v0 d0 p0)
    (o1 : Value.okWide Tryd.prog W r base 27 v1) (k1 : DataW.Trod enc Tryd.prog W 0 (fun _ => true) true 27 v1 d1 p1) (hk : Rows.uptoSmall H ds = true) (hd0 : d0 ∈ ds) (hd1 : d1 ∈ ds) :
    Calls Tryd.prog 3 #[v0, v1] W fun e w' => e = .returned (.bool true) ∧ Below W.heap.size W w' := by
  obtain ⟨al, len, cl, rfl⟩ := okWide_slice Tryd.underlying22 o0
  obtain ⟨fuel, hf⟩ := k0
  obtain ⟨al', l, cl', hcs, hlc, hcm, hz, hb⟩ := read_kinds hf
  simp [Value.cells] at hcs
  obtain ⟨rfl, rfl, rfl⟩ := hcs
  obtain ⟨y, hy, cy⟩ := open_syst o1 k1
  have h1 := Bulk.mem hd0
  have h2 := Bulk.mem hd1
  have h3 := of_decide_eq_true hk
  have h4 := len_le_sum costKind (fun k => by unfold costKind; omega) l
  have h5 := len_le_sum costComp (fun k => by unfold costComp; omega) y.spawn
  have hv : ∀ z ∈ y.spawn, z.vals.length ≤ 1048576 := fun z hz => by
    have h6 := le_sum_of costComp hz
    unfold costComp at h6
    unfold costSyst at cy
    have h7 : (y.spawn.map costComp).sum = (y.spawn.map fun y => y.vals.length + 1).sum := rfl
    omega
  unfold costSyst at cy
  unfold maxLen at hcm
  simp only at hb
  exact walk_SystemChecks l al l.length cl rfl (by omega) hlc (by omega) y v1 W hz hy ⟨by omega, by omega, by omega, by omega, by omega, by omega, hv, by omega⟩
end Go.Proofs.YtijeninfmjhbnaaDoor
end
