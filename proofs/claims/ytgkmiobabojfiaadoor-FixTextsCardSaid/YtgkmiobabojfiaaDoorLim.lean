/- Limits: lim; Clamp, the reference's Limit; results that are numbers. -/
import Derived.Test.YtgkmiobabojfiaaDoorRows
import Derived.WalkKit
import Derived.ProofKit
import Derived.OpenShut
import Derived.Outline
import Derived.Lib.Hide
namespace Go.Proofs.YtgkmiobabojfiaaDoor
open Go.ChangeShapes Go.WideShapes Go.ChangeAt Go.RowKit

/-- The nearest number within the limits. -/
def lim (a : Int) : Int := max (min a 1099511627776) (-1099511627776)
theorem lim_bd (a : Int) : -1099511627776 ≤ lim a ∧ lim a ≤ 1099511627776 := by unfold lim; omega
theorem lim_id (a : Int) (h1 : -1099511627776 ≤ a) (h2 : a ≤ 1099511627776) : lim a = a := by unfold lim; omega
theorem lim_lim (a : Int) : lim (lim a) = lim a := lim_id _ (lim_bd a).1 (lim_bd a).2

theorem ret_i {k : IntKind} {a b : Int} (h : a = b) : Ending.returned (.int k a) = .returned (.int k b) := by rw [h]
theorem ret_b {a b : Bool} (h : a = b) : Ending.returned (.bool a) = .returned (.bool b) := by rw [h]

theorem fix_Clamp (a : Int) (w : World) : Calls Tryd.prog 8 #[.int .i64 a] w fun e w' => e = .returned (.int .i64 (lim a)) ∧ w = w' := by
  go_enter Tryd.func8, Tryd.ntmps8
  go_wp2
  all_goals
    go_ret
    exact ⟨ret_i (by unfold lim; omega), rfl⟩

theorem ref_Limit (a : Int) (w : World) : Calls Tryd.prog 18 #[.int .i64 a] w fun e w' => e = .returned (.int .i64 (lim a)) ∧ w = w' := by
  go_enter Tryd.func18, Tryd.ntmps18
  go_wp2
  all_goals
    go_ret
    exact ⟨ret_i (by unfold lim; omega), rfl⟩
end Go.Proofs.YtgkmiobabojfiaaDoor
