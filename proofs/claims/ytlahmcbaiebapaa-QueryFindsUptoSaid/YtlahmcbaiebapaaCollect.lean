/- A loop over an iterator whose round appends to a slice in a box. No program is named here. -/
import Derived.RangeFuncNested
import Derived.RangeFuncBound
import Derived.RangeFuncCalls
import Derived.RangeFuncLeaves
import Derived.RangeFuncBox
import Derived.Shelf.Abstract
import Derived.Shelf.RegionOpen
import Derived.OwnWalkIn
import Derived.TacticsInMore
import Derived.LoopNIn
import Derived.LoopIn
import Derived.Maps.AppendAt
import Derived.Test.YtlahmcbaiebapaaOwn
namespace Go
open Go.RowKit
namespace Mem
/-- Behind an append to a slice that lies in box q, its row in blocks from H on: the box holds the longer slice, blocks below H other than q are as they were. -/
theorem collect {W w1 : World} {q H : Nat} {t e : TypeId} {size : Nat} {v v' : Value} {k m : Nat} {xs ys : List Value} {tmp : Obj}
    (hv : Boxed W q t v) (hte : t ≠ e) (hrow : W.ownsRow H e size v k xs) (hH : H ≤ W.heap.size) (hq : q < H)
    (hown' : w1.ownsRow H e size v' m ys) (hgrow : (W.alloc tmp).grownBy w1 v.ownBlock) :
    Boxed w1 q t v ∧ Boxed (w1.setCell ⟨q, 0, none⟩ v') q t v' ∧ (w1.setCell ⟨q, 0, none⟩ v').ownsRow H e size v' m ys ∧ KeepsOthers W (w1.setCell ⟨q, 0, none⟩ v') ∧ Below q W (w1.setCell ⟨q, 0, none⟩ v') ∧ ∀ k, k < H → k ≠ q → (w1.setCell ⟨q, 0, none⟩ v').heap[k]? = W.heap[k]? := by
  obtain ⟨h1, h2, h3, h4, h5⟩ := hv.appended hte (own_lower hrow (by omega)) (by omega) (Nat.le_refl q) (own_lower hown' (by omega)) hgrow
  refine ⟨h1, h2, hown'.kept (grownBy_setCell' w1 q v') (.inr (h1.not_row hte hown').symm), h4, h5, fun k k1 k2 => ?_⟩
  rw [Below.heap_setCell w1 ⟨q, 0, none⟩ v' k k2, hgrow.block k (by rw [World.size_alloc]; omega) (fun e => ?_)]
  · exact Below.heap_alloc W tmp k (by omega)
  · have := (own_lt hrow k e.symm).1
    omega
end Mem
end Go
