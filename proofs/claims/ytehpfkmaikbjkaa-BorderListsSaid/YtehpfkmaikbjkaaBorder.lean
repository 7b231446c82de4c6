/- Contracts of border From and To, of math's functions under them, and of ref FromBits and ToBits. -/
import Derived.Test.YtehpfkmaikbjkaaFloatP
import Derived.Test.YtehpfkmaikbjkaaNum
import Derived.Test.YtehpfkmaikbjkaaW64
import Derived.WalkKit
import Derived.ProofKit
import Derived.WalkLawsBesides
import Derived.Laws.Cover2
import Derived.Laws.Externs
import Derived.Laws.BitsAllLaws
import Derived.Lib.Hide
namespace Go.Proofs.Ytehpfkmaikbjkaa
open Go.ChangeShapes Go.WideShapes Go.ChangeAt Go.RowKit Go.Fl
set_option linter.unusedVariables false
theorem run_bits (b : Nat) (w : World) : (callFunc 83 #[.float .f64 b]).run Try.prog w = .ok (.value (.int .u64 b)) w := by
  rw [run_callFunc_extern Try.func83 (by kernel_rfl) (by kernel_rfl) (by kernel_rfl) (e := Extern.MathFloatBits.float64bits) (by kernel_rfl)]; rfl
theorem run_frombits (b : Nat) (w : World) : (callFunc 78 #[.int .u64 b]).run Try.prog w = .ok (.value (.float .f64 b)) w := by
  rw [run_callFunc_extern Try.func78 (by kernel_rfl) (by kernel_rfl) (by kernel_rfl) (e := Extern.MathFloatBits.float64frombits) (by kernel_rfl)]; rfl
theorem run_trunc (x K d : Nat) (s : Bool) (h : Ieee.double.read x = .number s K (-(d : Int))) (w : World) : (callFunc 94 #[.float .f64 x]).run Try.prog w = .ok (.value (.float .f64 (truncW s K d))) w := by
  rw [run_callFunc_extern Try.func94 (by kernel_rfl) (by kernel_rfl) (by kernel_rfl) (e := Extern.MathFloor.toIntegral "math.archTrunc" .zero) (by kernel_rfl)]
  have t : (Extern.MathFloor.toIntegral "math.archTrunc" .zero #[.float .f64 x]).run Try.prog w = .ok (.float .f64 (truncW s K d)) w := by
    refine Eq.trans (congrArg (fun z => Sem.run Try.prog z w) (show Extern.MathFloor.toIntegral "math.archTrunc" .zero #[.float .f64 x] = Extern.MathFloor.toIntegral.match_1 (fun _ => Sem Value) (FloatKind.f64.decode x) _ _ from rfl)) ?_
    rw [show FloatKind.f64.decode x = .number s K (-(d : Int)) from h]
    rfl
  rw [t]; rfl
set_option maxRecDepth 100000 in
theorem math_Abs (b : Nat) (hb : b < 18446744073709551616) (w : World) : Calls Try.prog 81 #[.float .f64 b] w fun e w' => e = .returned (.float .f64 (b % 9223372036854775808)) ∧ w = w' := by
  have h1 := fun x wx => run_bits x wx
  have h2 := fun wx => run_frombits (b % 9223372036854775808) wx
  rw [Int.natCast_emod, show ((9223372036854775808 : Nat) : Int) = 9223372036854775808 from rfl] at h2
  have h3 : bits .andNot .u64 (b : Int) 9223372036854775808 = ((b % 9223372036854775808 : Nat) : Int) := by
    have := u64_andNot_nat b 9223372036854775808 hb (by decide)
    rw [show (9223372036854775808 : Int) = ((9223372036854775808 : Nat) : Int) from rfl, this, show 18446744073709551615 - 9223372036854775808 = 2 ^ 63 - 1 from rfl, Nat.and_two_pow_sub_one_eq_mod]
  rw [Int.natCast_emod, show ((9223372036854775808 : Nat) : Int) = 9223372036854775808 from rfl] at h3
  go_enter Try.func81, Try.ntmps81
  go_wp2_with fail
  go_ret
  exact ⟨rfl, rfl⟩
theorem math_IsNaN (b : Nat) (w : World) : Calls Try.prog 79 #[.float .f64 b] w fun e w' => e = .returned (.bool (Ieee.double.order b b != some .eq)) ∧ w = w' := by
  go_enter Try.func79, Try.ntmps79
  go_wp2_with fail
  go_ret
  exact ⟨rfl, rfl⟩
set_option maxRecDepth 100000 in
theorem math_IsInf (b : Nat) (hb : b < 18446744073709551616) (v : Bool) (hv : (Ieee.double.order (b % 9223372036854775808) 9218868437227405311 == some .gt) = v) (w : World) : Calls Try.prog 80 #[.float .f64 b, .int .i64 0] w fun e w' => e = .returned (.bool v) ∧ w = w' := by
  have HV := Lib.hid hv
  clear hv
  have HB := Lib.hid hb
  go_enter Try.func80, Try.ntmps80
  go_wp2_with (go_at_call 81; refine (math_Abs _ HB.out _).mono ?_; rintro e w' ⟨rfl, rfl⟩)
  go_ret
  exact ⟨congrArg (fun x => Ending.returned (Value.bool x)) HV.out, rfl⟩
theorem math_Trunc (x K d : Nat) (s : Bool) (h : Ieee.double.read x = .number s K (-(d : Int))) (w : World) : Calls Try.prog 82 #[.float .f64 x] w fun e w' => e = .returned (.float .f64 (truncW s K d)) ∧ w = w' := by
  have h1 := fun wx => run_trunc x K d s h wx
  clear h
  go_enter Try.func82, Try.ntmps82
  go_wp2_with fail
  go_ret
  exact ⟨rfl, rfl⟩
theorem math_IsNaN' (b : Nat) (v : Bool) (hv : (Ieee.double.order b b != some .eq) = v) (w : World) : Calls Try.prog 79 #[.float .f64 b] w fun e w' => e = .returned (.bool v) ∧ w = w' := by
  subst hv; exact math_IsNaN b w
theorem From_top (b : Nat) (hb : b < 18446744073709551616) (h : ex b = 2047) (w : World) : Calls Try.prog 30 #[.int .u64 b] w fun e w' => e = .returned (.tuple #[.int .i64 0, .int .i64 3]) ∧ w = w' := by
  have h0 := fun wx => run_frombits b wx
  have HB := Lib.hid hb
  by_cases hv : Ieee.double.order b b = some .eq
  · have N := Lib.hid (show (Ieee.double.order b b != some .eq) = false by rw [hv]; rfl)
    have I := Lib.hid (show (Ieee.double.order (b % 9223372036854775808) 9218868437227405311 == some .gt) = true by rw [top_self h hv]; rfl)
    clear hb h hv
    go_enter Try.func30, Try.ntmps30
    go_wp2_with (first
      | (go_at_call 79; refine (math_IsNaN' _ _ N.out _).mono ?_; rintro e w' ⟨rfl, rfl⟩)
      | (go_at_call 80; refine (math_IsInf _ HB.out _ I.out _).mono ?_; rintro e w' ⟨rfl, rfl⟩))
    go_ret2
    exact ⟨rfl, rfl⟩
  · have N := Lib.hid (show (Ieee.double.order b b != some .eq) = true by simpa using hv)
    clear hb h hv
    go_enter Try.func30, Try.ntmps30
    go_wp2_with (first
      | (go_at_call 79; refine (math_IsNaN' _ _ N.out _).mono ?_; rintro e w' ⟨rfl, rfl⟩)
      | (go_at_call 80; refine (math_IsInf _ HB.out _ rfl _).mono ?_; rintro e w' ⟨rfl, rfl⟩))
    go_ret2
    exact ⟨rfl, rfl⟩
/-- the comparison with the greatest number, and the one with -0, as the code asks them -/
theorem From_large (b : Nat) (hb : b < 18446744073709551616) (h : ex b ≠ 2047) (hg : (decide (1047 < xp b) || (xp b == 1047) && decide (4503599627370496 < mm b)) = true) (w : World) : Calls Try.prog 30 #[.int .u64 b] w fun e w' => e = .returned (.tuple #[.int .i64 0, .int .i64 2]) ∧ w = w' := by
  have h0 := fun wx => run_frombits b wx
  have HB := Lib.hid hb
  have N := Lib.hid (show (Ieee.double.order b b != some .eq) = false by rw [order_self h]; rfl)
  have I := Lib.hid (show (Ieee.double.order (b % 9223372036854775808) 9218868437227405311 == some .gt) = false by simpa using abs_inf h)
  have hG : (FloatKind.f64.format.order (b % 9223372036854775808) 4715268809856909312 == some .gt) = true := (abs_gt h).trans hg
  clear hb h hg
  go_enter Try.func30, Try.ntmps30
  go_wp2_with (first
    | (go_at_call 79; refine (math_IsNaN' _ _ N.out _).mono ?_; rintro e w' ⟨rfl, rfl⟩)
    | (go_at_call 80; refine (math_IsInf _ HB.out _ I.out _).mono ?_; rintro e w' ⟨rfl, rfl⟩)
    | (go_at_call 81; refine (math_Abs _ HB.out _).mono ?_; rintro e w' ⟨rfl, rfl⟩))
  go_ret2
  exact ⟨rfl, rfl⟩
/-- the number that a word stands for, in units of 2^-16, cut towards zero -/
def val (b : Nat) : Int := if sg b then -((mm b / 2 ^ (1059 - xp b) : Nat) : Int) else ((mm b / 2 ^ (1059 - xp b) : Nat) : Int)
theorem From_num (b : Nat) (hb : b < 18446744073709551616) (h : ex b ≠ 2047) (hg : (decide (1047 < xp b) || (xp b == 1047) && decide (4503599627370496 < mm b)) = false) (hm : 0 < mm b) (hn : b ≠ 9223372036854775808) (w : World) :
    Calls Try.prog 30 #[.int .u64 b] w fun e w' => e = .returned (.tuple (if mm b % 2 ^ (1059 - xp b) = 0 then #[.int .i64 (val b), .int .i64 0] else #[.int .i64 0, .int .i64 3])) ∧ w = w' := by
  have hx : xp b ≤ 1047 := by
    rcases Nat.lt_or_ge 1047 (xp b) with h1 | h1
    · rw [decide_eq_true h1] at hg; simp at hg
    · exact h1
  obtain ⟨K, d, hF, hd, hM, hdv, hq⟩ := mul_fit h hx hm
  obtain ⟨X, hX⟩ : ∃ X, X = Ieee.double.word (sg b) (rungOf K (-(d : Int))) := ⟨_, rfl⟩
  rw [← hX] at hM
  have hR : Ieee.double.read X = .number (sg b) K (-(d : Int)) := by rw [hX]; exact read_fit _ hF
  have h0 := fun wx => run_frombits b wx
  have HB := Lib.hid hb
  have N := Lib.hid (show (Ieee.double.order b b != some .eq) = false by rw [order_self h]; rfl)
  have I := Lib.hid (show (Ieee.double.order (b % 9223372036854775808) 9218868437227405311 == some .gt) = false by simpa using abs_inf h)
  have hG : (FloatKind.f64.format.order (b % 9223372036854775808) 4715268809856909312 == some .gt) = false := (abs_gt h).trans hg
  have hE : ((b : Int) == 9223372036854775808) = false := by simp; omega
  have HR := Lib.hid hR
  have hmul : ∀ t wx, (binOp .mul t (.float .f64 b) (.float .f64 4679240012837945344)).run Try.prog wx = .ok (.float .f64 X) wx := fun t wx => run_float_arith wx .mul t .f64 b _ X hM
  by_cases hv : mm b % 2 ^ (1059 - xp b) = 0
  · rw [if_pos hv]
    have hT : truncW (sg b) K d = X := by rw [trunc_whole _ hF (hdv.2 hv), hX]
    have hTe : Ieee.double.order X X = some .eq := by unfold Ieee.Format.order; rw [hR]; simp [Ieee.Datum.order]
    have hc : (FloatKind.f64.format.order X (truncW (sg b) K d) != some .eq) = false := by rw [hT]; rw [show FloatKind.f64.format.order X X = some .eq from hTe]; rfl
    have hK := hF.2.1
    have hKd : K / 2 ^ d ≤ K := Nat.div_le_self _ _
    have hI : floatToIntVal .f64 X .i64 = some (val b) := by
      unfold floatToIntVal
      rw [show FloatKind.f64.decode X = .number (sg b) K (-(d : Int)) from hR, toInt_eq, hq]
      have hi : IntKind.i64.min ≤ val b ∧ val b ≤ IntKind.i64.max := by
        rw [hq] at hKd
        have : IntKind.i64.min = -9223372036854775808 := by decide
        have : IntKind.i64.max = 9223372036854775807 := by decide
        unfold val
        obtain ⟨q, hq2⟩ : ∃ q, mm b / 2 ^ (1059 - xp b) = q := ⟨_, rfl⟩
        rw [hq2] at hKd ⊢
        split <;> omega
      exact if_pos hi
    have hcv : ∀ wx, (convert 81 3 (.float .f64 X)).run Try.prog wx = .ok (.int .i64 (val b)) wx := fun wx => run_convert_float_int wx 81 3 .f64 .i64 X (val b) (by rw [Try.underlying81]; rfl) Try.underlying3 hI
    clear hb h hg hM hR hX hF hdv hq hm hn hx hv hT hTe hI hKd hK hd
    go_enter Try.func30, Try.ntmps30
    go_wp2_with (first
      | (go_at_call 79; refine (math_IsNaN' _ _ N.out _).mono ?_; rintro e w' ⟨rfl, rfl⟩)
      | (go_at_call 80; refine (math_IsInf _ HB.out _ I.out _).mono ?_; rintro e w' ⟨rfl, rfl⟩)
      | (go_at_call 81; refine (math_Abs _ HB.out _).mono ?_; rintro e w' ⟨rfl, rfl⟩)
      | (go_at_call 82; refine (math_Trunc _ _ _ _ HR.out _).mono ?_; rintro e w' ⟨rfl, rfl⟩))
    go_ret2
    exact ⟨rfl, rfl⟩
  · rw [if_neg hv]
    have hc : (FloatKind.f64.format.order X (truncW (sg b) K d) != some .eq) = true := by
      have := trunc_other (sg b) hF (fun hh => hv (hdv.1 hh))
      rw [← hX] at this
      have h2 : FloatKind.f64.format.order X (truncW (sg b) K d) ≠ some .eq := this
      simpa using h2
    clear hb h hg hM hR hX hF hdv hq hm hn hx hv hd
    go_enter Try.func30, Try.ntmps30
    go_wp2_with (first
      | (go_at_call 79; refine (math_IsNaN' _ _ N.out _).mono ?_; rintro e w' ⟨rfl, rfl⟩)
      | (go_at_call 80; refine (math_IsInf _ HB.out _ I.out _).mono ?_; rintro e w' ⟨rfl, rfl⟩)
      | (go_at_call 81; refine (math_Abs _ HB.out _).mono ?_; rintro e w' ⟨rfl, rfl⟩)
      | (go_at_call 82; refine (math_Trunc _ _ _ _ HR.out _).mono ?_; rintro e w' ⟨rfl, rfl⟩))
    go_ret2
    exact ⟨rfl, rfl⟩
theorem From_neg0 (w : World) : Calls Try.prog 30 #[.int .u64 9223372036854775808] w fun e w' => e = .returned (.tuple #[.int .i64 0, .int .i64 3]) ∧ w = w' := by
  have h0 := fun wx => run_frombits 9223372036854775808 wx
  rw [show ((9223372036854775808 : Nat) : Int) = 9223372036854775808 from rfl] at h0
  have hG : (FloatKind.f64.format.order 0 4715268809856909312 == some .gt) = false := by decide
  have N := Lib.hid (show (Ieee.double.order 9223372036854775808 9223372036854775808 != some .eq) = false by decide)
  have I := Lib.hid (show (Ieee.double.order (9223372036854775808 % 9223372036854775808) 9218868437227405311 == some .gt) = false by simpa using abs_inf (b := 9223372036854775808) (by decide))
  go_enter Try.func30, Try.ntmps30
  go_wp2_with (first
    | (go_at_call 79; refine (math_IsNaN' _ _ N.out _).mono ?_; rintro e w' ⟨rfl, rfl⟩)
    | (go_at_call 80; refine (math_IsInf _ (by decide) _ I.out _).mono ?_; rintro e w' ⟨rfl, rfl⟩)
    | (go_at_call 81; refine (math_Abs _ (by decide) _).mono ?_; rintro e w' ⟨rfl, rfl⟩))
  go_ret2
  exact ⟨rfl, rfl⟩
theorem trunc0' (d : Nat) : truncW false 0 d = 0 := by
  unfold truncW; rw [integral_eq, Nat.zero_div]; decide
theorem trunc0 : truncW false 0 1074 = 0 := trunc0' 1074
theorem From_zero (w : World) : Calls Try.prog 30 #[.int .u64 0] w fun e w' => e = .returned (.tuple #[.int .i64 0, .int .i64 0]) ∧ w = w' := by
  have h0 := fun wx => run_frombits 0 wx
  rw [show ((0 : Nat) : Int) = 0 from rfl] at h0
  have hG : (FloatKind.f64.format.order 0 4715268809856909312 == some .gt) = false := by decide
  have N := Lib.hid (show (Ieee.double.order 0 0 != some .eq) = false by decide)
  have I := Lib.hid (show (Ieee.double.order (0 % 9223372036854775808) 9218868437227405311 == some .gt) = false by simpa using abs_inf (b := 0) (by decide))
  have hmul : ∀ t wx, (binOp .mul t (.float .f64 0) (.float .f64 4679240012837945344)).run Try.prog wx = .ok (.float .f64 0) wx := fun t wx => run_float_arith wx .mul t .f64 0 _ 0 (by decide)
  have T := Lib.hid (fun wx => trunc0 ▸ math_Trunc 0 0 1074 false (by decide) wx)
  have hc : (FloatKind.f64.format.order 0 0 != some .eq) = false := by decide
  have hcv : ∀ wx, (convert 81 3 (.float .f64 0)).run Try.prog wx = .ok (.int .i64 0) wx := fun wx => run_convert_float_int wx 81 3 .f64 .i64 0 0 (by rw [Try.underlying81]; rfl) Try.underlying3 (by decide)
  go_enter Try.func30, Try.ntmps30
  go_wp2_with (first
    | (go_at_call 79; refine (math_IsNaN' _ _ N.out _).mono ?_; rintro e w' ⟨rfl, rfl⟩)
    | (go_at_call 80; refine (math_IsInf _ (by decide) _ I.out _).mono ?_; rintro e w' ⟨rfl, rfl⟩)
    | (go_at_call 81; refine (math_Abs _ (by decide) _).mono ?_; rintro e w' ⟨rfl, rfl⟩)
    | (go_at_call 82; refine (T.out _).mono ?_; rintro e w' ⟨rfl, rfl⟩))
  go_ret2
  exact ⟨rfl, rfl⟩
/-- To: the word of a number of units -/
theorem To_num (a : Int) (T p : Nat) (hT : a.natAbs = T) (hl : lim a = a) (k1 : 4503599627370496 ≤ T * 2 ^ p) (k2 : T * 2 ^ p < 9007199254740992) (hp : p ≤ 900) (w : World) :
    Calls Try.prog 32 #[.int .i64 a] w fun e w' => e = .returned (.tuple #[.int .u64 (((if decide (a < 0) then 9223372036854775808 else 0) + (1058 - p) * 4503599627370496 + T * 2 ^ p : Nat) : Int), .int .i64 0]) ∧ w = w' := by
  obtain ⟨Z, hZ⟩ : ∃ Z, Z = (if decide (a < 0) then 9223372036854775808 else 0) + (1058 - p) * 4503599627370496 + T * 2 ^ p := ⟨_, rfl⟩
  rw [← hZ]
  obtain ⟨X, hX⟩ : ∃ X, X = Ieee.double.word (decide (a < 0)) (rungOf (T * 2 ^ p) (-(p : Int))) := ⟨_, rfl⟩
  have hN : FloatKind.f64.nearest a = X := by
    rw [hX, ← of_whole (decide (a < 0)) k1 k2 hp, ← hT]; rfl
  have hD : Ieee.double.div X 4679240012837945344 = some Z := by rw [hX, by_one _ k1 k2 hp, word_nat _ _ _ hp, hZ]
  have hdiv : ∀ t wx, (binOp .quo t (.float .f64 X) (.float .f64 4679240012837945344)).run Try.prog wx = .ok (.float .f64 Z) wx := fun t wx => run_float_arith wx .quo t .f64 X _ Z hD
  have hcv : ∀ wx, (convert 3 81 (.int .i64 a)).run Try.prog wx = .ok (.float .f64 X) wx := fun wx => by
    rw [← hN]; simp [convert, run_underlying Try.underlying3, run_underlying Try.underlying81, Conv.intToFloat]
  have h1 := fun wx => run_bits Z wx
  have HL := Lib.hid hl
  clear hl hD hN hX hZ hT k1 k2 hp
  go_enter Try.func32, Try.ntmps32
  go_wp2_with (go_at_call 39; refine (fix_Clamp _ _).mono ?_; rw [HL.out]; rintro e w' ⟨rfl, rfl⟩)
  go_ret2
  exact ⟨rfl, rfl⟩
theorem To_large (a : Int) (hl : (lim a != a) = true) (w : World) : Calls Try.prog 32 #[.int .i64 a] w fun e w' => e = .returned (.tuple #[.int .u64 0, .int .i64 2]) ∧ w = w' := by
  go_enter Try.func32, Try.ntmps32
  go_wp2_with (go_at_call 39; refine (fix_Clamp _ _).mono ?_; rintro e w' ⟨rfl, rfl⟩)
  go_ret2
  exact ⟨rfl, rfl⟩
theorem To_zero (w : World) : Calls Try.prog 32 #[.int .i64 0] w fun e w' => e = .returned (.tuple #[.int .u64 0, .int .i64 0]) ∧ w = w' := by
  have hdiv : ∀ t wx, (binOp .quo t (.float .f64 0) (.float .f64 4679240012837945344)).run Try.prog wx = .ok (.float .f64 0) wx := fun t wx => run_float_arith wx .quo t .f64 0 _ 0 (by decide)
  have hcv : ∀ wx, (convert 3 81 (.int .i64 0)).run Try.prog wx = .ok (.float .f64 0) wx := fun wx => by
    rw [show (0 : Nat) = FloatKind.f64.nearest 0 by decide]; simp [convert, run_underlying Try.underlying3, run_underlying Try.underlying81, Conv.intToFloat]
  have h1 := fun wx => run_bits 0 wx
  rw [show ((0 : Nat) : Int) = 0 from rfl] at h1
  have HL := Lib.hid (show lim 0 = 0 by decide)
  go_enter Try.func32, Try.ntmps32
  go_wp2_with (go_at_call 39; refine (fix_Clamp _ _).mono ?_; rw [HL.out]; rintro e w' ⟨rfl, rfl⟩)
  go_ret2
  exact ⟨rfl, rfl⟩
end Go.Proofs.Ytehpfkmaikbjkaa
