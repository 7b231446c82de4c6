/- ref twice, KindError, KindsError. -/
import Derived.Test.YtfckbkhnelgjbaaKindCheck
import Derived.Test.YtfckbkhnelgjbaaOwn
import Derived.Test.YtfckbkhnelgjbaaCloneI
import Derived.Deep.DeepMust
namespace Go.Proofs.Ytfckbkhnelgjbaa
open Go.ChangeShapes Go.WideShapes Go.ChangeAt Go.RowKit Go.Nm Go.Mem
set_option linter.unusedVariables false
def vstrs (l : List ByteArray) : List Value := l.map Value.string
def StrsAt (w : World) (a : Option Addr) (l : List ByteArray) : Prop := SlAt 1 (fun w p s => w.cell? p = some (.string s)) w a l
theorem StrsAt.below {w w' : World} {a : Option Addr} {l : List ByteArray} (h : StrsAt w a l) (hb : Below w.heap.size w w') : StrsAt w' a l := SlAt.below (E := fun w p s => w.cell? p = some (.string s)) (fun _ _ _ _ h1 h2 => cell_abides h1 h2) h hb
theorem strs_own {w : World} {base e : Nat} {a : Option Addr} {n cap : Nat} {l : List ByteArray} (h : w.ownsRow base e 1 (.slice a n cap) n (vstrs l)) (hn : l.length = n) : StrsAt w a l := fun h0 => by
  obtain ⟨g, cap', hv, _, hlt⟩ := h.form (by omega)
  injection hv with hv
  subst hv
  refine ⟨_, rfl, hlt, fun i hi => ?_⟩
  rw [Nat.mul_one]
  exact h.cells (g := g) rfl i _ (by unfold vstrs; rw [List.getElem?_map, List.getElem?_eq_getElem hi]; rfl)
theorem vstrs_snoc (l : List ByteArray) (s : ByteArray) : vstrs l ++ #[Value.string s].toList = vstrs (l ++ [s]) := by simp [vstrs]
theorem take_snoc' {α : Type} (l : List α) (j : Nat) (h : j < l.length) : l.take (j + 1) = l.take j ++ [l[j]] := by
  rw [List.take_add_one, List.getElem?_eq_getElem h]; rfl
theorem dup_any (names : List ByteArray) (i : Nat) (h : i < names.length) : ((names.take i).any fun a => a.toList == names[i].toList) = dupAt names i := by
  unfold dupAt
  rw [List.getD_eq_getElem?_getD, List.getElem?_eq_getElem h]; rfl
end Go.Proofs.Ytfckbkhnelgjbaa
