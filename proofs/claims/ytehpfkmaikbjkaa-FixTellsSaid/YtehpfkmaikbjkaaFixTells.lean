/- The law FixTells. -/
import Derived.Test.YtehpfkmaikbjkaaMulDiv
namespace Go.Proofs.Ytehpfkmaikbjkaa
open Go.ChangeShapes Go.WideShapes Go.ChangeAt Go.RowKit Go.Mem
set_option linter.unusedVariables false

theorem thr_k1 : thr 32768 3 65536 = 2 := by decide +kernel
theorem thr_k2 : thr 32768 (-3) 65536 = -1 := by decide +kernel

set_option maxHeartbeats 4000000 in
theorem law_FixTells (a b c : Int) (w : World) : Calls Try.prog 10 #[.int .i64 a, .int .i64 b, .int .i64 c] w fun e w' => e = .returned (.bool true) ∧ Below w.heap.size w w' := by
  have hB := Below.refl w.heap.size w
  have k1 := thr_k1
  have k2 := thr_k2
  by_cases z : b = 0
  · have nz : (b == 0) = true := by simp [z]
    have kD : ∀ w, Calls Try.prog 37 #[.int .i64 a, .int .i64 b] w fun e w' => e = .returned (.tuple #[.int .i64 0, .int .i64 17]) ∧ Below w.heap.size w w' := fun w => by
      have := fix_Div a b w
      rwa [if_pos z, if_pos z] at this
    have KD := Lib.hid kD
    clear kD z
    go_enter Try.func10, Try.ntmps10
    go_wp2_with (first
      | (go_at_call 36; refine (fix_Mul _ _ _).mono ?_; rintro e w1 ⟨rfl, hB1⟩; have hB := bt hB hB1; clear hB1)
      | (go_at_call 37; refine (KD.out _).mono ?_; rintro e w1 ⟨rfl, hB1⟩; have hB := bt hB hB1; clear hB1)
      | (go_at_call 45; refine (fix_MulDiv _ _ _ _).mono ?_; rintro e w1 ⟨rfl, hB1⟩; have hB := bt hB hB1; clear hB1)
      | (go_at_call 44; refine (ref_Product _ _ _).mono ?_; rintro e w1 ⟨rfl, hB1⟩; have hB := bt hB hB1; clear hB1)
      | (go_at_call 38; refine (ref_Through _ _ _ _).mono ?_; rintro e w1 ⟨rfl, hB1⟩; have hB := bt hB hB1; clear hB1)
      | (go_at_call 39; refine (fix_Clamp _ _).mono ?_; rintro e w1 ⟨rfl, rfl⟩)
      | (go_at_call 27; refine (ref_Limit _ _).mono ?_; rintro e w1 ⟨rfl, rfl⟩)
      | (go_at_call 40; refine (fix_Add _ _ _).mono ?_; rintro e w1 ⟨rfl, rfl⟩)
      | (go_at_call 42; refine (fix_Sub _ _ _).mono ?_; rintro e w1 ⟨rfl, rfl⟩)
      | (go_at_call 41; refine (ref_Sum _ _ _).mono ?_; rintro e w1 ⟨rfl, rfl⟩)
      | (go_at_call 43; refine (ref_Less _ _ _).mono ?_; rintro e w1 ⟨rfl, rfl⟩))
    go_ret
    exact ⟨rfl, hB⟩
  · have nz : (b == 0) = false := by simp [z]
    have kD : ∀ w, Calls Try.prog 37 #[.int .i64 a, .int .i64 b] w fun e w' => e = .returned (.tuple #[.int .i64 (thr a 65536 b), .int .i64 0]) ∧ Below w.heap.size w w' := fun w => by
      have := fix_Div a b w
      rwa [if_neg z, if_neg z] at this
    have KD := Lib.hid kD
    clear kD z
    go_enter Try.func10, Try.ntmps10
    go_wp2_with (first
      | (go_at_call 36; refine (fix_Mul _ _ _).mono ?_; rintro e w1 ⟨rfl, hB1⟩; have hB := bt hB hB1; clear hB1)
      | (go_at_call 37; refine (KD.out _).mono ?_; rintro e w1 ⟨rfl, hB1⟩; have hB := bt hB hB1; clear hB1)
      | (go_at_call 45; refine (fix_MulDiv _ _ _ _).mono ?_; rintro e w1 ⟨rfl, hB1⟩; have hB := bt hB hB1; clear hB1)
      | (go_at_call 44; refine (ref_Product _ _ _).mono ?_; rintro e w1 ⟨rfl, hB1⟩; have hB := bt hB hB1; clear hB1)
      | (go_at_call 38; refine (ref_Through _ _ _ _).mono ?_; rintro e w1 ⟨rfl, hB1⟩; have hB := bt hB hB1; clear hB1)
      | (go_at_call 39; refine (fix_Clamp _ _).mono ?_; rintro e w1 ⟨rfl, rfl⟩)
      | (go_at_call 27; refine (ref_Limit _ _).mono ?_; rintro e w1 ⟨rfl, rfl⟩)
      | (go_at_call 40; refine (fix_Add _ _ _).mono ?_; rintro e w1 ⟨rfl, rfl⟩)
      | (go_at_call 42; refine (fix_Sub _ _ _).mono ?_; rintro e w1 ⟨rfl, rfl⟩)
      | (go_at_call 41; refine (ref_Sum _ _ _).mono ?_; rintro e w1 ⟨rfl, rfl⟩)
      | (go_at_call 43; refine (ref_Less _ _ _).mono ?_; rintro e w1 ⟨rfl, rfl⟩))
    go_ret
    exact ⟨rfl, hB⟩
end Go.Proofs.Ytehpfkmaikbjkaa
