/- quant.range1; the reference's SpanIs. -/
import Derived.Test.YtdhaaeaacbnghaaLim
import Derived.Test.YtdhaaeaacbnghaaMem2
import Derived.BigQuiet
import Derived.Deep.QuietTactic
namespace Go.Proofs.Ytdhaaeaacbnghaa
open Go.ChangeShapes Go.WideShapes Go.ChangeAt Go.RowKit Go.Mem
set_option linter.unusedVariables false

def SpanOk (lo hi n : Int) : Prop := lo = lim lo ∧ hi = lim hi ∧ lo < hi ∧ 1 ≤ n ∧ n ≤ 32
theorem clamp_q (a : Int) (w : World) : Calls Try.prog 93 #[.int .i64 a] w fun e w' => e = .returned (.int .i64 (lim a)) ∧ w' = w := (fix_Clamp a w).mono fun _ _ h => ⟨h.1, h.2.symm⟩
theorem limit_q (a : Int) (w : World) : Calls Try.prog 90 #[.int .i64 a] w fun e w' => e = .returned (.int .i64 (lim a)) ∧ w' = w := (ref_Limit a w).mono fun _ _ h => ⟨h.1, h.2.symm⟩
theorem ne_f {a b : Int} (h : a = b) : (a != b) = false := by simp [h]
theorem ne_t {a b : Int} (h : a ≠ b) : (a != b) = true := by simp [h]
theorem eq_t {a b : Int} (h : a = b) : (a == b) = true := by simp [h]
theorem eq_f {a b : Int} (h : a ≠ b) : (a == b) = false := by simp [h]

set_option maxHeartbeats 4000000 in
theorem range1_ok (lo hi n : Int) (h : SpanOk lo hi n) (w : World) : Calls Try.prog 88 #[.agg #[.int .i64 lo, .int .i64 hi], .int .i64 n] w fun e w' => e = .returned (.int .i64 0) ∧ Below w.heap.size w w' := by
  obtain ⟨h1, h2, h3, h4, h5⟩ := h
  have b1 := ne_f h1
  have b2 := ne_f h2
  have b3 : decide (hi ≤ lo) = false := by simp; omega
  have b4 : decide (n < 1) = false := by simp; omega
  have b5 : decide (32 < n) = false := by simp; omega
  have hb := (Below.refl w.heap.size w).alloc (Nat.le_refl _) (.cells #[.int .i64 lo, .int .i64 hi] 74)
  clear h1 h2 h3 h4 h5
  go_enter Try.func88, Try.ntmps88
  go_wp2_with fail
  go_quiet ((go_at_call 93; exact Calls.quiet_of_same (clamp_q _ _)))
  go_wp2
  go_ret
  exact ⟨rfl, below_drewN hb _⟩

set_option maxHeartbeats 8000000 in
theorem range1_bad (lo hi n : Int) (h : ¬ SpanOk lo hi n) (w : World) : Calls Try.prog 88 #[.agg #[.int .i64 lo, .int .i64 hi], .int .i64 n] w fun e w' => e = .returned (.int .i64 1) ∧ Below w.heap.size w w' := by
  have hb := (Below.refl w.heap.size w).alloc (Nat.le_refl _) (.cells #[.int .i64 lo, .int .i64 hi] 74)
  by_cases h1 : lo = lim lo
  · by_cases h2 : hi = lim hi
    · by_cases h3 : lo < hi
      · by_cases h4 : 1 ≤ n
        · have h5 : ¬ n ≤ 32 := fun h5 => h ⟨h1, h2, h3, h4, h5⟩
          have b1 := ne_f h1
          have b2 := ne_f h2
          have b3 : decide (hi ≤ lo) = false := by simp; omega
          have b4 : decide (n < 1) = false := by simp; omega
          have b5 : decide (32 < n) = true := by simp; omega
          clear h h1 h2 h3 h4 h5
          go_enter Try.func88, Try.ntmps88
          go_wp2_with fail
          go_quiet ((go_at_call 93; exact Calls.quiet_of_same (clamp_q _ _)))
          go_wp2
          go_ret
          exact ⟨rfl, below_drewN hb _⟩
        · have b1 := ne_f h1
          have b2 := ne_f h2
          have b3 : decide (hi ≤ lo) = false := by simp; omega
          have b4 : decide (n < 1) = true := by simp; omega
          clear h h1 h2 h3 h4
          go_enter Try.func88, Try.ntmps88
          go_wp2_with fail
          go_quiet ((go_at_call 93; exact Calls.quiet_of_same (clamp_q _ _)))
          go_wp2
          go_ret
          exact ⟨rfl, below_drewN hb _⟩
      · have b1 := ne_f h1
        have b2 := ne_f h2
        have b3 : decide (hi ≤ lo) = true := by simp; omega
        clear h h1 h2 h3
        go_enter Try.func88, Try.ntmps88
        go_wp2_with fail
        go_quiet ((go_at_call 93; exact Calls.quiet_of_same (clamp_q _ _)))
        go_wp2
        go_ret
        exact ⟨rfl, below_drewN hb _⟩
    · have b1 := ne_f h1
      have b2 := ne_t h2
      clear h h1 h2
      go_enter Try.func88, Try.ntmps88
      go_wp2_with fail
      go_quiet ((go_at_call 93; exact Calls.quiet_of_same (clamp_q _ _)))
      go_wp2
      go_ret
      exact ⟨rfl, below_drewN hb _⟩
  · have b1 := ne_t h1
    clear h h1
    go_enter Try.func88, Try.ntmps88
    go_wp2_with fail
    go_quiet ((go_at_call 93; exact Calls.quiet_of_same (clamp_q _ _)))
    go_wp2
    go_ret
    exact ⟨rfl, below_drewN hb _⟩

set_option maxHeartbeats 4000000 in
theorem SpanIs_ok (lo hi n : Int) (h : SpanOk lo hi n) (w : World) : Calls Try.prog 50 #[.agg #[.int .i64 lo, .int .i64 hi], .int .i64 n] w fun e w' => e = .returned (.bool true) ∧ Below w.heap.size w w' := by
  obtain ⟨h1, h2, h3, h4, h5⟩ := h
  have b1 := eq_t h1
  have b2 := eq_t h2
  have b3 : decide (lo < hi) = true := by simp; omega
  have b4 : decide (1 ≤ n) = true := by simp; omega
  have b5 : decide (n ≤ 32) = true := by simp; omega
  have hb := (Below.refl w.heap.size w).alloc (Nat.le_refl _) (.cells #[.int .i64 lo, .int .i64 hi] 74)
  clear h1 h2 h3 h4 h5
  go_enter Try.func50, Try.ntmps50
  go_wp2_with fail
  go_quiet ((go_at_call 90; exact Calls.quiet_of_same (limit_q _ _)))
  go_wp2
  go_ret
  exact ⟨rfl, below_drewN hb _⟩

set_option maxHeartbeats 8000000 in
theorem SpanIs_bad (lo hi n : Int) (h : ¬ SpanOk lo hi n) (w : World) : Calls Try.prog 50 #[.agg #[.int .i64 lo, .int .i64 hi], .int .i64 n] w fun e w' => e = .returned (.bool false) ∧ Below w.heap.size w w' := by
  have hb := (Below.refl w.heap.size w).alloc (Nat.le_refl _) (.cells #[.int .i64 lo, .int .i64 hi] 74)
  by_cases h3 : lo < hi
  · by_cases h1 : lo = lim lo
    · by_cases h2 : hi = lim hi
      · by_cases h4 : 1 ≤ n
        · have h5 : ¬ n ≤ 32 := fun h5 => h ⟨h1, h2, h3, h4, h5⟩
          have b1 := eq_t h1
          have b2 := eq_t h2
          have b3 : decide (lo < hi) = true := by simp; omega
          have b4 : decide (1 ≤ n) = true := by simp; omega
          have b5 : decide (n ≤ 32) = false := by simp; omega
          clear h h1 h2 h3 h4 h5
          go_enter Try.func50, Try.ntmps50
          go_wp2_with fail
          go_quiet ((go_at_call 90; exact Calls.quiet_of_same (limit_q _ _)))
          go_wp2
          go_ret
          exact ⟨rfl, below_drewN hb _⟩
        · have b1 := eq_t h1
          have b2 := eq_t h2
          have b3 : decide (lo < hi) = true := by simp; omega
          have b4 : decide (1 ≤ n) = false := by simp; omega
          clear h h1 h2 h3 h4
          go_enter Try.func50, Try.ntmps50
          go_wp2_with fail
          go_quiet ((go_at_call 90; exact Calls.quiet_of_same (limit_q _ _)))
          go_wp2
          go_ret
          exact ⟨rfl, below_drewN hb _⟩
      · have b1 := eq_t h1
        have b2 := eq_f h2
        have b3 : decide (lo < hi) = true := by simp; omega
        clear h h1 h2 h3
        go_enter Try.func50, Try.ntmps50
        go_wp2_with fail
        go_quiet ((go_at_call 90; exact Calls.quiet_of_same (limit_q _ _)))
        go_wp2
        go_ret
        exact ⟨rfl, below_drewN hb _⟩
    · have b1 := eq_f h1
      have b3 : decide (lo < hi) = true := by simp; omega
      clear h h1 h3
      go_enter Try.func50, Try.ntmps50
      go_wp2_with fail
      go_quiet ((go_at_call 90; exact Calls.quiet_of_same (limit_q _ _)))
      go_wp2
      go_ret
      exact ⟨rfl, below_drewN hb _⟩
  · have b3 : decide (lo < hi) = false := by simp; omega
    clear h h3
    go_enter Try.func50, Try.ntmps50
    go_wp2_with fail
    go_quiet ((go_at_call 90; exact Calls.quiet_of_same (limit_q _ _)))
    go_wp2
    go_ret
    exact ⟨rfl, below_drewN hb _⟩
end Go.Proofs.Ytdhaaeaacbnghaa
