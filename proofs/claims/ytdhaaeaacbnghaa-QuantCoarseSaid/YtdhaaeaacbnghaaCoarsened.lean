/- The reference's Coarsened. -/
import Derived.Test.YtdhaaeaacbnghaaCoarse
import Derived.Lib.MinMax
namespace Go.Proofs.Ytdhaaeaacbnghaa
open Go.ChangeShapes Go.WideShapes Go.ChangeAt Go.RowKit Go.Mem
set_option linter.unusedVariables false

set_option maxHeartbeats 8000000 in
set_option maxRecDepth 100000 in
theorem ref_Coarsened (lo hi n v : Int) (h : SpanOk lo hi n) (w : World) : Calls Try.prog 51 #[.agg #[.int .i64 lo, .int .i64 hi], .int .i64 n, .int .i64 v] w fun e w' => e = .returned (.int .i64 (ShareP.rhu (min (max v lo) hi - lo) (2 ^ n.toNat - 1) (hi - lo))) ∧ Below w.heap.size w w' := by
  have hb := (Below.refl w.heap.size w).alloc (Nat.le_refl _) (.cells #[.int .i64 lo, .int .i64 hi] 74)
  obtain ⟨m, rfl, m1, m2, l1, l2, l3⟩ := span_bd h
  obtain ⟨N, eN, n1, n2⟩ := pow_bd m m1 m2
  rw [Int.toNat_natCast, eN]
  have hr := heap_alloc_new w (Obj.cells #[Value.int IntKind.i64 lo, Value.int IntKind.i64 hi] 74)
  have HRR := Lib.hid hr
  have c0 := cell_of_row _ _ 0 _ _ _ HRR.out
  have c1 := cell_of_row _ _ 1 _ _ _ HRR.out
  clear h hr
  rcases (show v < lo ∨ (lo ≤ v ∧ hi < v) ∨ (lo ≤ v ∧ v ≤ hi) by omega) with q | ⟨q, q2⟩ | ⟨q, q2⟩
  · have hv : min (max v lo) hi - lo = 0 := by omega
    have HV := Lib.hid hv
    have HT := Lib.hid (ref_share 0 N (hi - lo) (by omega) (by omega) (by omega) (by omega) (by omega) (by omega))
    clear hv
    go_enter Try.func51, Try.ntmps51
    go_wp2_with fail
    have W1 := i64w 0 (by omega)
    have M1 : max v lo = lo := by omega
    have M2 : min lo hi = lo := by omega
    have W2 := i64w (hi - lo) (by omega)
    have W3 := i64w (N + 1) (by omega)
    have W4 := i64w N (by omega)
    clear q l1 l2 l3
    generalize (w.alloc (Obj.cells #[Value.int IntKind.i64 lo, Value.int IntKind.i64 hi] 74)) = W0 at *
    go_region_held3 (fun w' => w'.cell? ⟨w.heap.size, 0, none⟩ = some (.int .i64 lo) ∧ w'.cell? ⟨w.heap.size, 1, none⟩ = some (.int .i64 hi) ∧ Below w.heap.size w w')
      (first | exact ⟨c0, c1, hb.drew⟩ | exact keep2 (by assumption) (by assumption) (Nat.le_refl _))
      ((go_at_call 91; refine (HT.out _).mono ?_; rintro e w8 ⟨rfl, hb8⟩))
    go_wp2
    go_ret
    exact ⟨by rw [HV.out, show N + 1 - 1 = N by omega]; rfl, held3 (by assumption)⟩
  · have hv : min (max v lo) hi - lo = (hi - lo) := by omega
    have HV := Lib.hid hv
    have HT := Lib.hid (ref_share (hi - lo) N (hi - lo) (by omega) (by omega) (by omega) (by omega) (by omega) (by omega))
    clear hv
    go_enter Try.func51, Try.ntmps51
    go_wp2_with fail
    skip
    have M1 : max v lo = v := by omega
    have M2 : min v hi = hi := by omega
    have W2 := i64w (hi - lo) (by omega)
    have W3 := i64w (N + 1) (by omega)
    have W4 := i64w N (by omega)
    clear q l1 l2 l3
    generalize (w.alloc (Obj.cells #[Value.int IntKind.i64 lo, Value.int IntKind.i64 hi] 74)) = W0 at *
    go_region_held3 (fun w' => w'.cell? ⟨w.heap.size, 0, none⟩ = some (.int .i64 lo) ∧ w'.cell? ⟨w.heap.size, 1, none⟩ = some (.int .i64 hi) ∧ Below w.heap.size w w')
      (first | exact ⟨c0, c1, hb.drew⟩ | exact keep2 (by assumption) (by assumption) (Nat.le_refl _))
      ((go_at_call 91; refine (HT.out _).mono ?_; rintro e w8 ⟨rfl, hb8⟩))
    go_wp2
    go_ret
    exact ⟨by rw [HV.out, show N + 1 - 1 = N by omega]; rfl, held3 (by assumption)⟩
  · have hv : min (max v lo) hi - lo = (v - lo) := by omega
    have HV := Lib.hid hv
    have HT := Lib.hid (ref_share (v - lo) N (hi - lo) (by omega) (by omega) (by omega) (by omega) (by omega) (by omega))
    clear hv
    go_enter Try.func51, Try.ntmps51
    go_wp2_with fail
    have W1 := i64w (v - lo) (by omega)
    have M1 : max v lo = v := by omega
    have M2 : min v hi = v := by omega
    have W2 := i64w (hi - lo) (by omega)
    have W3 := i64w (N + 1) (by omega)
    have W4 := i64w N (by omega)
    clear q l1 l2 l3
    generalize (w.alloc (Obj.cells #[Value.int IntKind.i64 lo, Value.int IntKind.i64 hi] 74)) = W0 at *
    go_region_held3 (fun w' => w'.cell? ⟨w.heap.size, 0, none⟩ = some (.int .i64 lo) ∧ w'.cell? ⟨w.heap.size, 1, none⟩ = some (.int .i64 hi) ∧ Below w.heap.size w w')
      (first | exact ⟨c0, c1, hb.drew⟩ | exact keep2 (by assumption) (by assumption) (Nat.le_refl _))
      ((go_at_call 91; refine (HT.out _).mono ?_; rintro e w8 ⟨rfl, hb8⟩))
    go_wp2
    go_ret
    exact ⟨by rw [HV.out, show N + 1 - 1 = N by omega]; rfl, held3 (by assumption)⟩
end Go.Proofs.Ytdhaaeaacbnghaa
