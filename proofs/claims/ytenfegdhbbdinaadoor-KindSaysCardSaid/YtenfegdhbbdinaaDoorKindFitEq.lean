/- Two fitted lists held against each other; a fitted list held against the numbers. -/
import Derived.Test.YtenfegdhbbdinaaDoorKindDef
import Derived.Test.YtenfegdhbbdinaaDoorKindHold
namespace Go.Proofs.YtenfegdhbbdinaaDoor
open Go.ChangeShapes Go.WideShapes Go.ChangeAt Go.RowKit Go.Nm Go.Mem
set_option linter.unusedVariables false
theorem fits_equal (k : KindV) (vals : List Int) (u u2 : Value) (hm : vals.length ≤ 17592186044000) (w : World) (h : FitS k vals u w) (h2 : FitS k vals u2 w) :
    Calls Tryd.prog 7 #[u, u2] w fun e w' => e = .returned (.bool true) ∧ Below w.heap.size w w' := by
  by_cases hE : fitE k vals = 0
  · obtain ⟨a, c, rfl, hi⟩ := h.2 hE
    obtain ⟨a2, c2, rfl, hi2⟩ := h2.2 hE
    have hl := fit_len hE
    have := eq_ints a a2 c c2 (fitL k.fields vals) (fitL k.fields vals) (by omega) (by omega) w hi hi2
    rw [hl] at this
    simpa using this
  · obtain rfl := h.1 hE
    obtain rfl := h2.1 hE
    have := eq_ints none none 0 0 [] [] (by decide) (by decide) w (fun h => absurd h (by decide)) (fun h => absurd h (by decide))
    simpa using this
theorem fit_vals (k : KindV) (vals : List Int) (u : Value) (av : Option Addr) (m cv : Nat) (hm0 : vals.length = m) (hm : m ≤ 17592186044000) (hE : fitE k vals = 0) (w : World) (h : FitS k vals u w) (hv : IntsAt .i64 w av vals) :
    Calls Tryd.prog 7 #[u, .slice av m cv] w fun e w' => e = .returned (.bool (holdsB k vals)) ∧ Below w.heap.size w w' := by
  subst hm0
  obtain ⟨a, c, rfl, hi⟩ := h.2 hE
  have hl := fit_len hE
  have := eq_ints a av c cv (fitL k.fields vals) vals (by omega) (by omega) w hi hv
  rw [hl] at this
  have hh : holdsB k vals = decide (fitL k.fields vals = vals) := by unfold holdsB; rw [hE]; rfl
  rw [hh]
  exact this
end Go.Proofs.YtenfegdhbbdinaaDoor
