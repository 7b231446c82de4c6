/- Lemmas for the law TopSlotWorld: SwLawL. No conditions. -/
import Derived.Test.YtpilpkbblkhnaaaM29
/- The law TopSlotWorld, for its frame. -/
section
namespace Go.Proofs.Ytpilpkbblkhnaaa
open Go.ChangeShapes Go.WideShapes Go.ChangeAt Go.RowKit Go.Mem
/-- a slice's block stands -/
theorem okw_lt {P : Program} {W : World} {base : Nat} {t e : TypeId} {x : Addr} {n c : Nat} (hu : P.underlying t = some (.slice e)) (h : Value.okWide P W .any base t (.slice (some x) n c)) : x.block < W.heap.size := by
  unfold Value.okWide at h
  rw [hu] at h
  simp only at h
  unfold Cell.okWide at h
  rw [hu] at h
  simp only at h
  unfold Cell.ok at h
  rw [hu] at h
  simp only at h
  obtain ⟨_, _, _, _, row, cells, hs, _⟩ := h
  unfold World.shape? at hs
  rcases Nat.lt_or_ge x.block W.heap.size with h | h
  · exact h
  · rw [Array.getElem?_eq_none h] at hs
    cases hs
set_option maxRecDepth 100000 in
theorem law_TopSlotWorld {base : Nat} (a : Option Addr) (n c : Nat) (zs : List Int) (W : World) (h : IsRow .i64 W a n c zs) (r : c * 8 ≤ 140737488351232) (o : Value.okWide Try.prog W .any base 22 (.slice a n c)) :
    Calls Try.prog 3 #[.slice a n c] W fun e w' => e = .returned (.bool true) ∧ Below W.heap.size W w' :=
  walk_TopSlotWorld (zs.take n) a n c h.len h.le (by omega) W (IntsAt.of_row h) (fun x hx => by subst hx; exact okw_lt Try.underlying22 o)
end Go.Proofs.Ytpilpkbblkhnaaa
end
