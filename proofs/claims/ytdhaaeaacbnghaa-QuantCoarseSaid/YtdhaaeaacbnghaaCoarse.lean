/- quant.Coarse, Fine, Bound; the reference's Coarsened, Refined. -/
import Derived.Test.YtdhaaeaacbnghaaSpan
import Derived.Test.YtdhaaeaacbnghaaThrough2
import Derived.Test.YtdhaaeaacbnghaaShare
namespace Go.Proofs.Ytdhaaeaacbnghaa
open Go.ChangeShapes Go.WideShapes Go.ChangeAt Go.RowKit Go.Mem
set_option linter.unusedVariables false

theorem Coarse_bad (lo hi n v : Int) (h : ¬ SpanOk lo hi n) (w : World) : Calls Try.prog 47 #[.agg #[.int .i64 lo, .int .i64 hi], .int .i64 n, .int .i64 v] w fun e w' => e = .returned (.tuple #[.int .i64 0, .int .i64 1]) ∧ Below w.heap.size w w' := by
  have hb := (Below.refl w.heap.size w).alloc (Nat.le_refl _) (.cells #[.int .i64 lo, .int .i64 hi] 74)
  have HR := Lib.hid (range1_bad lo hi n h)
  clear h
  go_enter Try.func47, Try.ntmps47
  go_wp2_with (go_at_call 88; refine (HR.out _).mono ?_; rintro e w1 ⟨rfl, hb1⟩)
  go_ret2
  exact ⟨rfl, bt hb (hb1.mono (by simp))⟩
theorem Fine_bad (lo hi n v : Int) (h : ¬ SpanOk lo hi n) (w : World) : Calls Try.prog 48 #[.agg #[.int .i64 lo, .int .i64 hi], .int .i64 n, .int .i64 v] w fun e w' => e = .returned (.tuple #[.int .i64 0, .int .i64 1]) ∧ Below w.heap.size w w' := by
  have hb := (Below.refl w.heap.size w).alloc (Nat.le_refl _) (.cells #[.int .i64 lo, .int .i64 hi] 74)
  have HR := Lib.hid (range1_bad lo hi n h)
  clear h
  go_enter Try.func48, Try.ntmps48
  go_wp2_with (go_at_call 88; refine (HR.out _).mono ?_; rintro e w1 ⟨rfl, hb1⟩)
  go_ret2
  exact ⟨rfl, bt hb (hb1.mono (by simp))⟩
theorem Bound_bad (lo hi n : Int) (h : ¬ SpanOk lo hi n) (w : World) : Calls Try.prog 49 #[.agg #[.int .i64 lo, .int .i64 hi], .int .i64 n] w fun e w' => e = .returned (.tuple #[.int .i64 0, .int .i64 1]) ∧ Below w.heap.size w w' := by
  have hb := (Below.refl w.heap.size w).alloc (Nat.le_refl _) (.cells #[.int .i64 lo, .int .i64 hi] 74)
  have HR := Lib.hid (range1_bad lo hi n h)
  clear h
  go_enter Try.func49, Try.ntmps49
  go_wp2_with (go_at_call 88; refine (HR.out _).mono ?_; rintro e w1 ⟨rfl, hb1⟩)
  go_ret2
  exact ⟨rfl, bt hb (hb1.mono (by simp))⟩

theorem span_bd {lo hi n : Int} (h : SpanOk lo hi n) : ∃ m : Nat, n = m ∧ 1 ≤ m ∧ m ≤ 32 ∧ -1099511627776 ≤ lo ∧ hi ≤ 1099511627776 ∧ lo < hi := by
  obtain ⟨h1, h2, h3, h4, h5⟩ := h
  have b1 := lim_bd lo
  have b2 := lim_bd hi
  exact ⟨n.toNat, by omega, by omega, by omega, by omega, by omega, h3⟩
theorem pow_bd (m : Nat) (h1 : 1 ≤ m) (h2 : m ≤ 32) : ∃ N : Int, (2 : Int) ^ m = N + 1 ∧ 1 ≤ N ∧ N ≤ 4294967295 := by
  have a : 2 ^ 1 ≤ 2 ^ m := Nat.pow_le_pow_right (by omega) h1
  have b : 2 ^ m ≤ 2 ^ 32 := Nat.pow_le_pow_right (by omega) h2
  have e : (2 : Int) ^ m = ((2 ^ m : Nat) : Int) := by rw [Int.natCast_pow]; rfl
  refine ⟨(2 : Int) ^ m - 1, by omega, by omega, by omega⟩

theorem through_q (a b c : Int) (ha : 0 ≤ a) (hac : a ≤ c) (hc : 0 < c) (hc2 : c ≤ 2199023255552) (hb : 0 ≤ b) (hb2 : b ≤ 2199023255552) (w : World) :
    Calls Try.prog 89 #[.int .i64 a, .int .i64 b, .int .i64 c] w fun e w' => e = .returned (.int .i64 (ShareP.rhu a b c)) ∧ w' = w := (quant_through a b c ha hac hc hc2 hb hb2 w).mono fun _ _ h => ⟨h.1, h.2.symm⟩
theorem i64w (n : Int) (h : -4398046511104 ≤ n ∧ n ≤ 4398046511104) : IntKind.i64.wrap n = n := by rw [IntKind.wrap_i64]; omega

set_option maxHeartbeats 8000000 in
theorem Coarse_ok (lo hi n v : Int) (h : SpanOk lo hi n) (w : World) : Calls Try.prog 47 #[.agg #[.int .i64 lo, .int .i64 hi], .int .i64 n, .int .i64 v] w fun e w' => e = .returned (.tuple #[.int .i64 (ShareP.rhu (min (max v lo) hi - lo) (2 ^ n.toNat - 1) (hi - lo)), .int .i64 0]) ∧ Below w.heap.size w w' := by
  have hb := (Below.refl w.heap.size w).alloc (Nat.le_refl _) (.cells #[.int .i64 lo, .int .i64 hi] 74)
  have HR := Lib.hid (range1_ok lo hi n h)
  obtain ⟨m, rfl, m1, m2, l1, l2, l3⟩ := span_bd h
  obtain ⟨N, eN, n1, n2⟩ := pow_bd m m1 m2
  rw [Int.toNat_natCast, eN]
  have hr := heap_alloc_new w (Obj.cells #[Value.int IntKind.i64 lo, Value.int IntKind.i64 hi] 74)
  have HRR := Lib.hid hr
  clear h hr
  rcases (show v < lo ∨ (lo ≤ v ∧ hi < v) ∨ (lo ≤ v ∧ v ≤ hi) by omega) with q | ⟨q, q2⟩ | ⟨q, q2⟩
  · have hv : min (max v lo) hi - lo = 0 := by omega
    have HV := Lib.hid hv
    have HT := Lib.hid (through_q 0 N (hi - lo) (by omega) (by omega) (by omega) (by omega) (by omega) (by omega))
    clear hv
    go_enter Try.func47, Try.ntmps47
    go_wp2_with fail
    refine (HR.out _).mono ?_
    rintro e w1 ⟨rfl, hb1⟩
    have HR1 := Lib.hid (heap_below HRR.out hb1)
    have c0 := cell_of_row _ _ 0 _ _ _ HR1.out
    have c1 := cell_of_row _ _ 1 _ _ _ HR1.out
    replace hb := bt hb (hb1.mono (by simp))
    clear hb1 HR HRR
    go_wp2_with fail
    have W1 := i64w 0 (by omega)
    have W2 := i64w (hi - lo) (by omega)
    have W3 := i64w (N + 1) (by omega)
    have W4 := i64w N (by omega)
    go_quiet ((go_at_call 89; exact Calls.quiet_of_same (HT.out _)))
    go_wp2
    go_ret2
    exact ⟨by rw [HV.out, show N + 1 - 1 = N by omega]; rfl, below_drewN hb _⟩
  · have hv : min (max v lo) hi - lo = (hi - lo) := by omega
    have HV := Lib.hid hv
    have HT := Lib.hid (through_q (hi - lo) N (hi - lo) (by omega) (by omega) (by omega) (by omega) (by omega) (by omega))
    clear hv
    go_enter Try.func47, Try.ntmps47
    go_wp2_with fail
    refine (HR.out _).mono ?_
    rintro e w1 ⟨rfl, hb1⟩
    have HR1 := Lib.hid (heap_below HRR.out hb1)
    have c0 := cell_of_row _ _ 0 _ _ _ HR1.out
    have c1 := cell_of_row _ _ 1 _ _ _ HR1.out
    replace hb := bt hb (hb1.mono (by simp))
    clear hb1 HR HRR
    go_wp2_with fail
    skip
    have W2 := i64w (hi - lo) (by omega)
    have W3 := i64w (N + 1) (by omega)
    have W4 := i64w N (by omega)
    go_quiet ((go_at_call 89; exact Calls.quiet_of_same (HT.out _)))
    go_wp2
    go_ret2
    exact ⟨by rw [HV.out, show N + 1 - 1 = N by omega]; rfl, below_drewN hb _⟩
  · have hv : min (max v lo) hi - lo = (v - lo) := by omega
    have HV := Lib.hid hv
    have HT := Lib.hid (through_q (v - lo) N (hi - lo) (by omega) (by omega) (by omega) (by omega) (by omega) (by omega))
    clear hv
    go_enter Try.func47, Try.ntmps47
    go_wp2_with fail
    refine (HR.out _).mono ?_
    rintro e w1 ⟨rfl, hb1⟩
    have HR1 := Lib.hid (heap_below HRR.out hb1)
    have c0 := cell_of_row _ _ 0 _ _ _ HR1.out
    have c1 := cell_of_row _ _ 1 _ _ _ HR1.out
    replace hb := bt hb (hb1.mono (by simp))
    clear hb1 HR HRR
    go_wp2_with fail
    have W1 := i64w (v - lo) (by omega)
    have W2 := i64w (hi - lo) (by omega)
    have W3 := i64w (N + 1) (by omega)
    have W4 := i64w N (by omega)
    go_quiet ((go_at_call 89; exact Calls.quiet_of_same (HT.out _)))
    go_wp2
    go_ret2
    exact ⟨by rw [HV.out, show N + 1 - 1 = N by omega]; rfl, below_drewN hb _⟩

set_option maxHeartbeats 8000000 in
theorem Fine_out (lo hi n k : Int) (h : SpanOk lo hi n) (hk : k < 0 ∨ 2 ^ n.toNat - 1 < k) (w : World) : Calls Try.prog 48 #[.agg #[.int .i64 lo, .int .i64 hi], .int .i64 n, .int .i64 k] w fun e w' => e = .returned (.tuple #[.int .i64 0, .int .i64 1]) ∧ Below w.heap.size w w' := by
  have hb := (Below.refl w.heap.size w).alloc (Nat.le_refl _) (.cells #[.int .i64 lo, .int .i64 hi] 74)
  have HR := Lib.hid (range1_ok lo hi n h)
  obtain ⟨m, rfl, m1, m2, l1, l2, l3⟩ := span_bd h
  obtain ⟨N, eN, n1, n2⟩ := pow_bd m m1 m2
  rw [Int.toNat_natCast, eN] at hk
  clear h
  have W3 := i64w (N + 1) (by omega)
  rcases (show k < 0 ∨ (0 ≤ k ∧ N + 1 ≤ k) by omega) with q | ⟨q, q2⟩
  all_goals
    clear hk
    go_enter Try.func48, Try.ntmps48
    go_wp2_with (go_at_call 88; refine (HR.out _).mono ?_; rintro e w1 ⟨rfl, hb1⟩)
    go_ret2
    exact ⟨rfl, bt hb (hb1.mono (by simp))⟩

set_option maxHeartbeats 8000000 in
theorem Fine_ok (lo hi n k : Int) (h : SpanOk lo hi n) (k0 : 0 ≤ k) (k1 : k ≤ 2 ^ n.toNat - 1) (w : World) : Calls Try.prog 48 #[.agg #[.int .i64 lo, .int .i64 hi], .int .i64 n, .int .i64 k] w fun e w' => e = .returned (.tuple #[.int .i64 (lo + ShareP.rhu k (hi - lo) (2 ^ n.toNat - 1)), .int .i64 0]) ∧ Below w.heap.size w w' := by
  have hb := (Below.refl w.heap.size w).alloc (Nat.le_refl _) (.cells #[.int .i64 lo, .int .i64 hi] 74)
  have HR := Lib.hid (range1_ok lo hi n h)
  obtain ⟨m, rfl, m1, m2, l1, l2, l3⟩ := span_bd h
  obtain ⟨N, eN, n1, n2⟩ := pow_bd m m1 m2
  rw [Int.toNat_natCast, eN] at k1 ⊢
  have eN1 : N + 1 - 1 = N := by omega
  rw [eN1] at k1 ⊢
  have hr := heap_alloc_new w (Obj.cells #[Value.int IntKind.i64 lo, Value.int IntKind.i64 hi] 74)
  have HRR := Lib.hid hr
  have rb := ShareP.rhu_bd k (hi - lo) N k0 k1 (by omega) (by omega)
  have HT := Lib.hid (through_q k (hi - lo) N (by omega) (by omega) (by omega) (by omega) (by omega) (by omega))
  obtain ⟨R, hR⟩ : ∃ R, R = ShareP.rhu k (hi - lo) N := ⟨_, rfl⟩
  rw [← hR] at rb HT ⊢
  clear h hr eN1 hR
  have W3 := i64w (N + 1) (by omega)
  have q2 : k < N + 1 := by omega
  go_enter Try.func48, Try.ntmps48
  go_wp2_with fail
  refine (HR.out _).mono ?_
  rintro e w1 ⟨rfl, hb1⟩
  have HR1 := Lib.hid (heap_below HRR.out hb1)
  have c0 := cell_of_row _ _ 0 _ _ _ HR1.out
  have c1 := cell_of_row _ _ 1 _ _ _ HR1.out
  replace hb := bt hb (hb1.mono (by simp))
  clear hb1 HR HRR
  go_wp2_with fail
  have W2 := i64w (hi - lo) (by omega)
  have W4 := i64w N (by omega)
  have W5 := i64w (lo + R) (by omega)
  go_quiet ((go_at_call 89; exact Calls.quiet_of_same (HT.out _)))
  go_wp2
  go_ret2
  exact ⟨rfl, below_drewN hb _⟩

set_option maxHeartbeats 8000000 in
theorem Bound_ok (lo hi n : Int) (h : SpanOk lo hi n) (w : World) : Calls Try.prog 49 #[.agg #[.int .i64 lo, .int .i64 hi], .int .i64 n] w fun e w' => e = .returned (.tuple #[.int .i64 ((hi - lo + (2 ^ n.toNat - 1) - 1) / (2 ^ n.toNat - 1) / 2 + 1), .int .i64 0]) ∧ Below w.heap.size w w' := by
  have hb := (Below.refl w.heap.size w).alloc (Nat.le_refl _) (.cells #[.int .i64 lo, .int .i64 hi] 74)
  have HR := Lib.hid (range1_ok lo hi n h)
  obtain ⟨m, rfl, m1, m2, l1, l2, l3⟩ := span_bd h
  obtain ⟨N, eN, n1, n2⟩ := pow_bd m m1 m2
  rw [Int.toNat_natCast, eN]
  have eN1 : N + 1 - 1 = N := by omega
  rw [eN1]
  have hr := heap_alloc_new w (Obj.cells #[Value.int IntKind.i64 lo, Value.int IntKind.i64 hi] 74)
  have HRR := Lib.hid hr
  have q0 : 0 ≤ hi - lo + N - 1 := by omega
  obtain ⟨D, hD⟩ : ∃ D, D = (hi - lo + N - 1) / N := ⟨_, rfl⟩
  have d0 : 0 ≤ D := by rw [hD]; exact Int.ediv_nonneg q0 (by omega)
  have d1 : D ≤ hi - lo + N - 1 := by rw [hD]; exact Int.ediv_le_self _ q0
  rw [← hD]
  have eD : (hi - lo + N - 1) / N = D := hD.symm
  clear h hr eN1 hD
  have W3 := i64w (N + 1) (by omega)
  have q2 : (N == 0) = false := by simp; omega
  go_enter Try.func49, Try.ntmps49
  go_wp2_with fail
  refine (HR.out _).mono ?_
  rintro e w1 ⟨rfl, hb1⟩
  have HR1 := Lib.hid (heap_below HRR.out hb1)
  have c0 := cell_of_row _ _ 0 _ _ _ HR1.out
  have c1 := cell_of_row _ _ 1 _ _ _ HR1.out
  replace hb := bt hb (hb1.mono (by simp))
  clear hb1 HR HRR
  go_wp2_with fail
  go_ret2
  exact ⟨rfl, hb⟩

set_option maxHeartbeats 8000000 in
theorem ref_Refined (lo hi n k : Int) (h : SpanOk lo hi n) (k0 : 0 ≤ k) (k1 : k ≤ 2 ^ n.toNat - 1) (w : World) : Calls Try.prog 52 #[.agg #[.int .i64 lo, .int .i64 hi], .int .i64 n, .int .i64 k] w fun e w' => e = .returned (.int .i64 (lo + ShareP.rhu k (hi - lo) (2 ^ n.toNat - 1))) ∧ Below w.heap.size w w' := by
  have hb := (Below.refl w.heap.size w).alloc (Nat.le_refl _) (.cells #[.int .i64 lo, .int .i64 hi] 74)
  obtain ⟨m, rfl, m1, m2, l1, l2, l3⟩ := span_bd h
  obtain ⟨N, eN, n1, n2⟩ := pow_bd m m1 m2
  rw [Int.toNat_natCast, eN] at k1 ⊢
  have eN1 : N + 1 - 1 = N := by omega
  rw [eN1] at k1 ⊢
  have hr := heap_alloc_new w (Obj.cells #[Value.int IntKind.i64 lo, Value.int IntKind.i64 hi] 74)
  have HRR := Lib.hid hr
  have rb := ShareP.rhu_bd k (hi - lo) N k0 k1 (by omega) (by omega)
  have HT := Lib.hid (ref_share k (hi - lo) N (by omega) (by omega) (by omega) (by omega) (by omega) (by omega))
  obtain ⟨R, hR⟩ : ∃ R, R = ShareP.rhu k (hi - lo) N := ⟨_, rfl⟩
  rw [← hR] at rb HT ⊢
  have c0 := cell_of_row _ _ 0 _ _ _ HRR.out
  have c1 := cell_of_row _ _ 1 _ _ _ HRR.out
  clear h hr eN1 hR
  go_enter Try.func52, Try.ntmps52
  go_wp2_with fail
  have W2 := i64w (hi - lo) (by omega)
  have W3 := i64w (N + 1) (by omega)
  have W4 := i64w N (by omega)
  have W5 := i64w (lo + R) (by omega)
  generalize (w.alloc (Obj.cells #[Value.int IntKind.i64 lo, Value.int IntKind.i64 hi] 74)) = W0 at *
  go_region_held3 (fun w' => w'.cell? ⟨w.heap.size, 0, none⟩ = some (.int .i64 lo) ∧ w'.cell? ⟨w.heap.size, 1, none⟩ = some (.int .i64 hi) ∧ Below w.heap.size w w')
    (first | exact ⟨c0, c1, hb.drew⟩ | exact keep2 (by assumption) (by assumption) (Nat.le_refl _))
    ((go_at_call 91; refine (HT.out _).mono ?_; rintro e w8 ⟨rfl, hb8⟩))
  go_wp2
  go_ret
  exact ⟨rfl, held3 (by assumption)⟩

end Go.Proofs.Ytdhaaeaacbnghaa
