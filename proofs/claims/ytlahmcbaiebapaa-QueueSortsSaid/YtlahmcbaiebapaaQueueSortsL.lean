/- The law QueueSorts, for its frame. -/
import Derived.Test.YtlahmcbaiebapaaQSorts
namespace Go.Proofs.Ytlahmcbaiebapaa
open Go.ChangeShapes Go.WideShapes Go.ChangeAt Go.RowKit Go.Mem
theorem law_QueueSortsL (a : Option Addr) (n c : Nat) (zs : List Int) (W : World) (h : IsRow .i64 W a n c zs) (r : c * 8 ≤ 140737488351232) :
    Calls Try.prog 6 #[.slice a n c] W fun e w' => e = .returned (.bool true) ∧ Below W.heap.size W w' :=
  law_QueueSorts (zs.take n) a n c h.len (by have := h.le; omega) W (IntsAt.of_row h)
end Go.Proofs.Ytlahmcbaiebapaa
