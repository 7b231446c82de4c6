/- merkleBegun. -/
import Derived.Test.YtdhaaeaacbnghaaNarrow
namespace Go.Proofs.Ytdhaaeaacbnghaa
open Go.ChangeShapes Go.WideShapes Go.ChangeAt Go.RowKit Go.Mem Go.Mk
set_option linter.unusedVariables false

theorem narrow_try : narrow (fill [1, 2, 3] [1, 2, 4]) (fill [1, 2, 4] [1, 2, 3]) = (2, 2) := by decide +kernel
theorem ints_of_row {w : World} {g : Nat} {t : TypeId} {cs : Array Value} {zs : List Int} (h : w.heap[g]? = some (.cells cs t (0, 0))) (hz : cs.toList = vints .u64 zs) : IntsAt .u64 w (some ⟨g, 0, none⟩) zs := by
  have : RowB w g t .u64 zs := by unfold RowB; rw [h, ← hz]
  exact this.ints

set_option maxHeartbeats 4000000 in
theorem law_merkleBegun (w : World) : Calls Try.prog 71 #[] w fun e w' => e = .returned (.bool true) ∧ Below w.heap.size w w' := by
  have hb := ((Below.refl w.heap.size w).alloc (Nat.le_refl _) (.cells #[.int .u64 1, .int .u64 2, .int .u64 3] 22)).alloc (by simp) (.cells #[.int .u64 1, .int .u64 2, .int .u64 4] 22)
  have i1 : IntsAt .u64 ((w.alloc (.cells #[.int .u64 1, .int .u64 2, .int .u64 3] 22)).alloc (.cells #[.int .u64 1, .int .u64 2, .int .u64 4] 22)) (some ⟨w.heap.size, 0, none⟩) [1, 2, 3] := ints_of_row (row_first w _ _) rfl
  have i2 : IntsAt .u64 ((w.alloc (.cells #[.int .u64 1, .int .u64 2, .int .u64 3] 22)).alloc (.cells #[.int .u64 1, .int .u64 2, .int .u64 4] 22)) (some ⟨w.heap.size + 1, 0, none⟩) [1, 2, 4] := ints_of_row (row_second w _ _) rfl
  have u1 : U64s [1, 2, 3] := by intro z hz; simp at hz; omega
  have u2 : U64s [1, 2, 4] := by intro z hz; simp at hz; omega
  have cn := merkle_Narrow [1, 2, 3] [1, 2, 4] (some ⟨w.heap.size, 0, none⟩) (some ⟨w.heap.size + 1, 0, none⟩) 3 3 3 3 rfl rfl (by omega) (by omega) u1 u2 _ i1 i2
  rw [narrow_try] at cn
  have CN := Lib.hid cn
  clear i1 i2 u1 u2 cn
  go_enter Try.func71, Try.ntmps71
  go_wp2_with (go_at_call 72; refine (CN.out).mono ?_; rintro e w1 ⟨rfl, hb1⟩)
  go_ret
  exact ⟨rfl, hb.trans (hb1.mono hb.size)⟩
end Go.Proofs.Ytdhaaeaacbnghaa
