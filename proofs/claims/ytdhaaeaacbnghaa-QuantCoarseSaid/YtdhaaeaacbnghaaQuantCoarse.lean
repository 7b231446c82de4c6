/- The law QuantCoarse. -/
import Derived.Test.YtdhaaeaacbnghaaCoarsened
import Derived.Test.YtdhaaeaacbnghaaOpen
namespace Go.Proofs.Ytdhaaeaacbnghaa
open Go.ChangeShapes Go.WideShapes Go.ChangeAt Go.RowKit Go.Mem
set_option linter.unusedVariables false

theorem span_try : SpanOk 0 4 1 := by unfold SpanOk lim; omega
theorem coarse_try (w : World) : Calls Try.prog 47 #[.agg #[.int .i64 0, .int .i64 4], .int .i64 1, .int .i64 2] w fun e w' => e = .returned (.tuple #[.int .i64 1, .int .i64 0]) ∧ Below w.heap.size w w' := by
  have h := Coarse_ok 0 4 1 2 span_try w
  rw [show ShareP.rhu (min (max 2 0) 4 - 0) (2 ^ (1 : Int).toNat - 1) (4 - 0) = 1 by decide] at h
  exact h

set_option maxHeartbeats 8000000 in
set_option maxRecDepth 100000 in
theorem law_QuantCoarse_bad (lo hi n v k : Int) (h : ¬ SpanOk lo hi n) (w : World) :
    Calls Try.prog 8 #[.agg #[.int .i64 lo, .int .i64 hi], .int .i64 n, .int .i64 v, .int .i64 k] w fun e w' => e = .returned (.bool true) ∧ Below w.heap.size w w' := by
  have CO := Lib.hid (Coarse_bad lo hi n v h)
  have FI := Lib.hid (Fine_bad lo hi n k h)
  have BO := Lib.hid (Bound_bad lo hi n h)
  have SI := Lib.hid (SpanIs_bad lo hi n h)
  have hb := (Below.refl w.heap.size w).alloc (Nat.le_refl _) (.cells #[.int .i64 lo, .int .i64 hi] 74)
  have HR := Lib.hid (heap_alloc_new w (Obj.cells #[Value.int IntKind.i64 lo, Value.int IntKind.i64 hi] 74))
  have hl : w.heap.size < (w.alloc (Obj.cells #[Value.int IntKind.i64 lo, Value.int IntKind.i64 hi] 74)).heap.size := by simp
  clear h
  go_enter Try.func8, Try.ntmps8
  go_wp2_with fail
  refine (coarse_try _).mono ?_
  rintro e w1 ⟨rfl, hb1⟩
  replace HR := Lib.hid (heap_below HR.out hb1)
  replace hb := bt hb (hb1.mono (by simp))
  clear hb1 hl
  have c0 := cell_of_row _ _ 0 _ _ _ HR.out
  have c1 := cell_of_row _ _ 1 _ _ _ HR.out
  go_wp2_with fail
  refine (CO.out _).mono ?_
  rintro e w2 ⟨rfl, hb1⟩
  replace HR := Lib.hid (heap_below HR.out hb1)
  replace hb := bt hb hb1
  clear hb1 c0 c1
  have c0 := cell_of_row _ _ 0 _ _ _ HR.out
  have c1 := cell_of_row _ _ 1 _ _ _ HR.out
  go_wp2_with fail
  refine (FI.out _).mono ?_
  rintro e w2 ⟨rfl, hb1⟩
  replace HR := Lib.hid (heap_below HR.out hb1)
  replace hb := bt hb hb1
  clear hb1 c0 c1
  have c0 := cell_of_row _ _ 0 _ _ _ HR.out
  have c1 := cell_of_row _ _ 1 _ _ _ HR.out
  go_wp2_with fail
  refine (BO.out _).mono ?_
  rintro e w2 ⟨rfl, hb1⟩
  replace HR := Lib.hid (heap_below HR.out hb1)
  replace hb := bt hb hb1
  clear hb1 c0 c1
  have c0 := cell_of_row _ _ 0 _ _ _ HR.out
  have c1 := cell_of_row _ _ 1 _ _ _ HR.out
  go_wp2_with fail
  refine (SI.out _).mono ?_
  rintro e w2 ⟨rfl, hb1⟩
  replace HR := Lib.hid (heap_below HR.out hb1)
  replace hb := bt hb hb1
  clear hb1 c0 c1
  have c0 := cell_of_row _ _ 0 _ _ _ HR.out
  have c1 := cell_of_row _ _ 1 _ _ _ HR.out
  go_wp2_with fail
  go_ret
  exact ⟨rfl, hb⟩

set_option maxHeartbeats 8000000 in
set_option maxRecDepth 100000 in
theorem law_QuantCoarse_out (lo hi n v k : Int) (h : SpanOk lo hi n) (hk : k < 0 ∨ 2 ^ n.toNat - 1 < k) (w : World) :
    Calls Try.prog 8 #[.agg #[.int .i64 lo, .int .i64 hi], .int .i64 n, .int .i64 v, .int .i64 k] w fun e w' => e = .returned (.bool true) ∧ Below w.heap.size w w' := by
  have co := Coarse_ok lo hi n v h
  have fi := Fine_out lo hi n k h hk
  have bo := Bound_ok lo hi n h
  have SI := Lib.hid (SpanIs_ok lo hi n h)
  have rc := ref_Coarsened lo hi n v h
  have hb := (Below.refl w.heap.size w).alloc (Nat.le_refl _) (.cells #[.int .i64 lo, .int .i64 hi] 74)
  have HR := Lib.hid (heap_alloc_new w (Obj.cells #[Value.int IntKind.i64 lo, Value.int IntKind.i64 hi] 74))
  have hl : w.heap.size < (w.alloc (Obj.cells #[Value.int IntKind.i64 lo, Value.int IntKind.i64 hi] 74)).heap.size := by simp
  obtain ⟨m, rfl, m1, m2, l1, l2, l3⟩ := span_bd h
  obtain ⟨N, eN, n1, n2⟩ := pow_bd m m1 m2
  have eN1 : N + 1 - 1 = N := by omega
  rw [Int.toNat_natCast, eN, eN1] at co bo rc hk
  obtain ⟨C, hC⟩ : ∃ C, C = ShareP.rhu (min (max v lo) hi - lo) N (hi - lo) := ⟨_, rfl⟩
  rw [← hC] at co rc
  have q0 : 0 ≤ hi - lo + N - 1 := by omega
  obtain ⟨D, hD⟩ : ∃ D, D = (hi - lo + N - 1) / N := ⟨_, rfl⟩
  have d0 : 0 ≤ D := by rw [hD]; exact Int.ediv_nonneg q0 (by omega)
  have d1 : D ≤ hi - lo + N - 1 := by rw [hD]; exact Int.ediv_le_self _ q0
  rw [← hD] at bo
  have CO := Lib.hid co
  have FI := Lib.hid fi
  have BO := Lib.hid bo
  have RC := Lib.hid rc
  have W3 := i64w (N + 1) (by omega)
  have eD : (hi - lo + N - 1) / N = D := hD.symm
  have q2 : (N == 0) = false := by simp; omega
  clear h co fi bo rc eN1 hC hD
  rcases (show k < 0 ∨ (0 ≤ k ∧ N < k) by omega) with q | ⟨q, q3⟩
  all_goals
    clear hk
    go_enter Try.func8, Try.ntmps8
    go_wp2_with fail
    refine (coarse_try _).mono ?_
    rintro e w1 ⟨rfl, hb1⟩
    replace HR := Lib.hid (heap_below HR.out hb1)
    replace hb := bt hb (hb1.mono (by simp))
    clear hb1 hl
    have c0 := cell_of_row _ _ 0 _ _ _ HR.out
    have c1 := cell_of_row _ _ 1 _ _ _ HR.out
    go_wp2_with fail
    refine (CO.out _).mono ?_
    rintro e w2 ⟨rfl, hb1⟩
    replace HR := Lib.hid (heap_below HR.out hb1)
    replace hb := bt hb hb1
    clear hb1 c0 c1
    have c0 := cell_of_row _ _ 0 _ _ _ HR.out
    have c1 := cell_of_row _ _ 1 _ _ _ HR.out
    go_wp2_with fail
    refine (FI.out _).mono ?_
    rintro e w2 ⟨rfl, hb1⟩
    replace HR := Lib.hid (heap_below HR.out hb1)
    replace hb := bt hb hb1
    clear hb1 c0 c1
    have c0 := cell_of_row _ _ 0 _ _ _ HR.out
    have c1 := cell_of_row _ _ 1 _ _ _ HR.out
    go_wp2_with fail
    refine (BO.out _).mono ?_
    rintro e w2 ⟨rfl, hb1⟩
    replace HR := Lib.hid (heap_below HR.out hb1)
    replace hb := bt hb hb1
    clear hb1 c0 c1
    have c0 := cell_of_row _ _ 0 _ _ _ HR.out
    have c1 := cell_of_row _ _ 1 _ _ _ HR.out
    go_wp2_with fail
    refine (SI.out _).mono ?_
    rintro e w2 ⟨rfl, hb1⟩
    replace HR := Lib.hid (heap_below HR.out hb1)
    replace hb := bt hb hb1
    clear hb1 c0 c1
    have c0 := cell_of_row _ _ 0 _ _ _ HR.out
    have c1 := cell_of_row _ _ 1 _ _ _ HR.out
    go_wp2_with fail
    refine (RC.out _).mono ?_
    rintro e w2 ⟨rfl, hb1⟩
    replace HR := Lib.hid (heap_below HR.out hb1)
    replace hb := bt hb hb1
    clear hb1 c0 c1
    have c0 := cell_of_row _ _ 0 _ _ _ HR.out
    have c1 := cell_of_row _ _ 1 _ _ _ HR.out
    go_wp2_with fail
    go_ret
    exact ⟨rfl, hb⟩

set_option maxHeartbeats 8000000 in
set_option maxRecDepth 100000 in
theorem law_QuantCoarse_in (lo hi n v k : Int) (h : SpanOk lo hi n) (hk : 0 ≤ k ∧ k ≤ 2 ^ n.toNat - 1) (w : World) :
    Calls Try.prog 8 #[.agg #[.int .i64 lo, .int .i64 hi], .int .i64 n, .int .i64 v, .int .i64 k] w fun e w' => e = .returned (.bool true) ∧ Below w.heap.size w w' := by
  have co := Coarse_ok lo hi n v h
  have fi := Fine_ok lo hi n k h hk.1 hk.2
  have bo := Bound_ok lo hi n h
  have SI := Lib.hid (SpanIs_ok lo hi n h)
  have rc := ref_Coarsened lo hi n v h
  have rf := ref_Refined lo hi n k h hk.1 hk.2
  have hb := (Below.refl w.heap.size w).alloc (Nat.le_refl _) (.cells #[.int .i64 lo, .int .i64 hi] 74)
  have HR := Lib.hid (heap_alloc_new w (Obj.cells #[Value.int IntKind.i64 lo, Value.int IntKind.i64 hi] 74))
  have hl : w.heap.size < (w.alloc (Obj.cells #[Value.int IntKind.i64 lo, Value.int IntKind.i64 hi] 74)).heap.size := by simp
  obtain ⟨m, rfl, m1, m2, l1, l2, l3⟩ := span_bd h
  obtain ⟨N, eN, n1, n2⟩ := pow_bd m m1 m2
  have eN1 : N + 1 - 1 = N := by omega
  rw [Int.toNat_natCast, eN, eN1] at co bo rc fi rf hk
  obtain ⟨C, hC⟩ : ∃ C, C = ShareP.rhu (min (max v lo) hi - lo) N (hi - lo) := ⟨_, rfl⟩
  rw [← hC] at co rc
  obtain ⟨F, hF⟩ : ∃ F, F = lo + ShareP.rhu k (hi - lo) N := ⟨_, rfl⟩
  rw [← hF] at fi rf
  have RF := Lib.hid rf
  obtain ⟨k0, k1⟩ := hk
  clear rf hF
  have q0 : 0 ≤ hi - lo + N - 1 := by omega
  obtain ⟨D, hD⟩ : ∃ D, D = (hi - lo + N - 1) / N := ⟨_, rfl⟩
  have d0 : 0 ≤ D := by rw [hD]; exact Int.ediv_nonneg q0 (by omega)
  have d1 : D ≤ hi - lo + N - 1 := by rw [hD]; exact Int.ediv_le_self _ q0
  rw [← hD] at bo
  have CO := Lib.hid co
  have FI := Lib.hid fi
  have BO := Lib.hid bo
  have RC := Lib.hid rc
  have W3 := i64w (N + 1) (by omega)
  have eD : (hi - lo + N - 1) / N = D := hD.symm
  have q2 : (N == 0) = false := by simp; omega
  clear h co fi bo rc eN1 hC hD
  go_enter Try.func8, Try.ntmps8
  go_wp2_with fail
  refine (coarse_try _).mono ?_
  rintro e w1 ⟨rfl, hb1⟩
  replace HR := Lib.hid (heap_below HR.out hb1)
  replace hb := bt hb (hb1.mono (by simp))
  clear hb1 hl
  have c0 := cell_of_row _ _ 0 _ _ _ HR.out
  have c1 := cell_of_row _ _ 1 _ _ _ HR.out
  go_wp2_with fail
  refine (CO.out _).mono ?_
  rintro e w2 ⟨rfl, hb1⟩
  replace HR := Lib.hid (heap_below HR.out hb1)
  replace hb := bt hb hb1
  clear hb1 c0 c1
  have c0 := cell_of_row _ _ 0 _ _ _ HR.out
  have c1 := cell_of_row _ _ 1 _ _ _ HR.out
  go_wp2_with fail
  refine (FI.out _).mono ?_
  rintro e w2 ⟨rfl, hb1⟩
  replace HR := Lib.hid (heap_below HR.out hb1)
  replace hb := bt hb hb1
  clear hb1 c0 c1
  have c0 := cell_of_row _ _ 0 _ _ _ HR.out
  have c1 := cell_of_row _ _ 1 _ _ _ HR.out
  go_wp2_with fail
  refine (BO.out _).mono ?_
  rintro e w2 ⟨rfl, hb1⟩
  replace HR := Lib.hid (heap_below HR.out hb1)
  replace hb := bt hb hb1
  clear hb1 c0 c1
  have c0 := cell_of_row _ _ 0 _ _ _ HR.out
  have c1 := cell_of_row _ _ 1 _ _ _ HR.out
  go_wp2_with fail
  refine (SI.out _).mono ?_
  rintro e w2 ⟨rfl, hb1⟩
  replace HR := Lib.hid (heap_below HR.out hb1)
  replace hb := bt hb hb1
  clear hb1 c0 c1
  have c0 := cell_of_row _ _ 0 _ _ _ HR.out
  have c1 := cell_of_row _ _ 1 _ _ _ HR.out
  go_wp2_with fail
  refine (RC.out _).mono ?_
  rintro e w2 ⟨rfl, hb1⟩
  replace HR := Lib.hid (heap_below HR.out hb1)
  replace hb := bt hb hb1
  clear hb1 c0 c1
  have c0 := cell_of_row _ _ 0 _ _ _ HR.out
  have c1 := cell_of_row _ _ 1 _ _ _ HR.out
  go_wp2_with fail
  refine (RF.out _).mono ?_
  rintro e w2 ⟨rfl, hb1⟩
  replace HR := Lib.hid (heap_below HR.out hb1)
  replace hb := bt hb hb1
  clear hb1 c0 c1
  have c0 := cell_of_row _ _ 0 _ _ _ HR.out
  have c1 := cell_of_row _ _ 1 _ _ _ HR.out
  go_wp2_with fail
  go_ret
  exact ⟨rfl, hb⟩

theorem law_QuantCoarse (lo hi n v k : Int) (w : World) :
    Calls Try.prog 8 #[.agg #[.int .i64 lo, .int .i64 hi], .int .i64 n, .int .i64 v, .int .i64 k] w fun e w' => e = .returned (.bool true) ∧ Below w.heap.size w w' := by
  by_cases h : SpanOk lo hi n
  · by_cases hk : 0 ≤ k ∧ k ≤ 2 ^ n.toNat - 1
    · exact law_QuantCoarse_in lo hi n v k h hk w
    · exact law_QuantCoarse_out lo hi n v k h (by omega) w
  · exact law_QuantCoarse_bad lo hi n v k h w
end Go.Proofs.Ytdhaaeaacbnghaa
