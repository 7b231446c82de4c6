/- Lemmas for the law TopBorderText: Lim, Num, Border, BorderR, BorderJ, BordBack. No conditions. -/
import Derived.Test.YtfckbkhnelgjbaaRows
import Derived.WalkKit
import Derived.ProofKit
import Derived.OpenShut
import Derived.Outline
import Derived.Lib.Hide
import Derived.Laws.Externs
import Derived.Laws.Bits64b
import Derived.Lib.Mul64
import Derived.Test.YtfckbkhnelgjbaaM25
import Derived.Test.YtfckbkhnelgjbaaM01
import Derived.WalkLawsBesides
import Derived.Laws.Cover2
import Derived.Laws.BitsAllLaws
import Derived.Deep.LoopGhost
/- Limits: lim; Clamp, the reference's Limit; results that are numbers. -/
section
namespace Go.Proofs.Ytfckbkhnelgjbaa
open Go.ChangeShapes Go.WideShapes Go.ChangeAt Go.RowKit

/-- The nearest number within the limits. -/
def lim (a : Int) : Int := max (min a 1099511627776) (-1099511627776)
theorem lim_bd (a : Int) : -1099511627776 ≤ lim a ∧ lim a ≤ 1099511627776 := by unfold lim; omega
theorem lim_id (a : Int) (h1 : -1099511627776 ≤ a) (h2 : a ≤ 1099511627776) : lim a = a := by unfold lim; omega
theorem lim_lim (a : Int) : lim (lim a) = lim a := lim_id _ (lim_bd a).1 (lim_bd a).2

theorem ret_i {k : IntKind} {a b : Int} (h : a = b) : Ending.returned (.int k a) = .returned (.int k b) := by rw [h]
theorem ret_b {a b : Bool} (h : a = b) : Ending.returned (.bool a) = .returned (.bool b) := by rw [h]

theorem fix_Clamp (a : Int) (w : World) : Calls Try.prog 16 #[.int .i64 a] w fun e w' => e = .returned (.int .i64 (lim a)) ∧ w = w' := by
  go_enter Try.func16, Try.ntmps16
  go_wp2
  all_goals
    go_ret
    exact ⟨ret_i (by unfold lim; omega), rfl⟩

end Go.Proofs.Ytfckbkhnelgjbaa
end
/- Contracts of the numbers' first functions: Clamp, Limit, Add, Sub, Sum, Less, mag; Mul64 and Add64; plain laws on them. -/
section
namespace Go.Proofs.Ytfckbkhnelgjbaa
open Go.ChangeShapes Go.WideShapes Go.ChangeAt Go.RowKit

theorem fix_Add (a b : Int) (w : World) : Calls Try.prog 18 #[.int .i64 a, .int .i64 b] w fun e w' => e = .returned (.int .i64 (lim (lim a + lim b))) ∧ w = w' := by
  have h1 := lim_bd a
  have h2 := lim_bd b
  go_enter Try.func18, Try.ntmps18
  go_wp2_with (go_at_call 16; refine (fix_Clamp _ _).mono ?_; rintro e w' ⟨rfl, rfl⟩)
  go_ret
  exact ⟨rfl, rfl⟩

/-- fix.mag of a clamped number. -/
theorem fix_mag (a : Int) (h1 : -1099511627776 ≤ a) (h2 : a ≤ 1099511627776) (w : World) : Calls Try.prog 49 #[.int .i64 a] w fun e w' => e = .returned (.int .u64 (a.natAbs : Int)) ∧ w = w' := by
  go_enter Try.func49, Try.ntmps49
  go_wp2
  all_goals
    go_ret
    exact ⟨ret_i (by omega), rfl⟩

namespace Mul64
theorem maskN (a : Nat) (ha : a < 18446744073709551616) : bits .and .u64 (a : Int) 4294967295 = ((a % 4294967296 : Nat) : Int) := by
  have h := bits_and_u64_nat a 4294967295 ha (by omega)
  have e : a &&& 4294967295 = a % 4294967296 := Nat.and_two_pow_sub_one_eq_mod a 32
  rw [e] at h
  exact h
theorem divN (a : Nat) : (a : Int) / 4294967296 = ((a / 4294967296 : Nat) : Int) := by omega
theorem mulN (a b : Nat) : (a : Int) * (b : Int) = ((a * b : Nat) : Int) := (Int.natCast_mul a b).symm
theorem addN (a b : Nat) : (a : Int) + (b : Int) = ((a + b : Nat) : Int) := (Int.natCast_add a b).symm
theorem wrapN (a : Nat) (ha : a < 18446744073709551616) : IntKind.u64.wrap (a : Int) = (a : Int) := by rw [IntKind.wrap_u64]; omega
theorem wrapM (a : Nat) : IntKind.u64.wrap (a : Int) = ((a % 18446744073709551616 : Nat) : Int) := by rw [IntKind.wrap_u64]; omega
end Mul64

set_option maxHeartbeats 1000000 in
theorem bits_Mul64 (x y : Nat) (hx : x < 18446744073709551616) (hy : y < 18446744073709551616) (w : World) :
    Calls Try.prog 93 #[.int .u64 x, .int .u64 y] w fun e w' => e = .returned (.tuple #[.int .u64 ((x * y / 18446744073709551616 : Nat) : Int), .int .u64 ((x * y % 18446744073709551616 : Nat) : Int)]) ∧ w = w' := by
  obtain ⟨bd, bt, bw, hhi⟩ := Lib.mul64_hi x y hx hy
  have ba := Lib.half_mul_le (a := x / 4294967296) (b := y / 4294967296) (by omega) (by omega)
  have bb := Lib.half_mul_le (a := x / 4294967296) (b := y % 4294967296) (by omega) (by omega)
  have bc := Lib.half_mul_le (a := x % 4294967296) (b := y / 4294967296) (by omega) (by omega)
  have ba' : x / 4294967296 * (y / 4294967296) < 18446744073709551616 := by omega
  have bb' : x / 4294967296 * (y % 4294967296) < 18446744073709551616 := by omega
  have bc' : x % 4294967296 * (y / 4294967296) < 18446744073709551616 := by omega
  have bh1 : x / 4294967296 * (y / 4294967296) + (x / 4294967296 * (y % 4294967296) + x % 4294967296 * (y % 4294967296) / 4294967296) / 4294967296 < 18446744073709551616 := by omega
  have bh : x / 4294967296 * (y / 4294967296) + (x / 4294967296 * (y % 4294967296) + x % 4294967296 * (y % 4294967296) / 4294967296) / 4294967296 + ((x / 4294967296 * (y % 4294967296) + x % 4294967296 * (y % 4294967296) / 4294967296) % 4294967296 + x % 4294967296 * (y / 4294967296)) / 4294967296 < 18446744073709551616 := by omega
  go_enter Try.func93, Try.ntmps93
  go_wp2
  simp only [Mul64.maskN x hx, Mul64.maskN y hy, Mul64.divN, Mul64.mulN, Mul64.addN, Mul64.wrapN _ bd, Mul64.wrapN _ bb', Mul64.wrapN _ bt, Mul64.maskN _ bt, Mul64.wrapN _ bc', Mul64.wrapN _ bw, Mul64.wrapN _ ba', Mul64.wrapN _ bh1, Mul64.wrapN _ bh, Mul64.wrapM (x * y)]
  rw [hhi]
  go_ret2
  exact ⟨rfl, rfl⟩

end Go.Proofs.Ytfckbkhnelgjbaa
end
/- Contracts of border From and To, of math's functions under them, and of ref FromBits and ToBits. -/
section
namespace Go.Proofs.Ytfckbkhnelgjbaa
open Go.ChangeShapes Go.WideShapes Go.ChangeAt Go.RowKit Go.Fl
set_option linter.unusedVariables false
theorem run_bits (b : Nat) (w : World) : (callFunc 52 #[.float .f64 b]).run Try.prog w = .ok (.value (.int .u64 b)) w := by
  rw [run_callFunc_extern Try.func52 (by kernel_rfl) (by kernel_rfl) (by kernel_rfl) (e := Extern.MathFloatBits.float64bits) (by kernel_rfl)]; rfl
theorem run_frombits (b : Nat) (w : World) : (callFunc 53 #[.int .u64 b]).run Try.prog w = .ok (.value (.float .f64 b)) w := by
  rw [run_callFunc_extern Try.func53 (by kernel_rfl) (by kernel_rfl) (by kernel_rfl) (e := Extern.MathFloatBits.float64frombits) (by kernel_rfl)]; rfl
theorem run_trunc (x K d : Nat) (s : Bool) (h : Ieee.double.read x = .number s K (-(d : Int))) (w : World) : (callFunc 91 #[.float .f64 x]).run Try.prog w = .ok (.value (.float .f64 (truncW s K d))) w := by
  rw [run_callFunc_extern Try.func91 (by kernel_rfl) (by kernel_rfl) (by kernel_rfl) (e := Extern.MathFloor.toIntegral "math.archTrunc" .zero) (by kernel_rfl)]
  have t : (Extern.MathFloor.toIntegral "math.archTrunc" .zero #[.float .f64 x]).run Try.prog w = .ok (.float .f64 (truncW s K d)) w := by
    refine Eq.trans (congrArg (fun z => Sem.run Try.prog z w) (show Extern.MathFloor.toIntegral "math.archTrunc" .zero #[.float .f64 x] = Extern.MathFloor.toIntegral.match_1 (fun _ => Sem Value) (FloatKind.f64.decode x) _ _ from rfl)) ?_
    rw [show FloatKind.f64.decode x = .number s K (-(d : Int)) from h]
    rfl
  rw [t]; rfl
set_option maxRecDepth 100000 in
theorem math_Abs (b : Nat) (hb : b < 18446744073709551616) (w : World) : Calls Try.prog 56 #[.float .f64 b] w fun e w' => e = .returned (.float .f64 (b % 9223372036854775808)) ∧ w = w' := by
  have h1 := fun x wx => run_bits x wx
  have h2 := fun wx => run_frombits (b % 9223372036854775808) wx
  rw [Int.natCast_emod, show ((9223372036854775808 : Nat) : Int) = 9223372036854775808 from rfl] at h2
  have h3 : bits .andNot .u64 (b : Int) 9223372036854775808 = ((b % 9223372036854775808 : Nat) : Int) := by
    have := u64_andNot_nat b 9223372036854775808 hb (by decide)
    rw [show (9223372036854775808 : Int) = ((9223372036854775808 : Nat) : Int) from rfl, this, show 18446744073709551615 - 9223372036854775808 = 2 ^ 63 - 1 from rfl, Nat.and_two_pow_sub_one_eq_mod]
  rw [Int.natCast_emod, show ((9223372036854775808 : Nat) : Int) = 9223372036854775808 from rfl] at h3
  go_enter Try.func56, Try.ntmps56
  go_wp2_with fail
  go_ret
  exact ⟨rfl, rfl⟩
theorem math_IsNaN (b : Nat) (w : World) : Calls Try.prog 54 #[.float .f64 b] w fun e w' => e = .returned (.bool (Ieee.double.order b b != some .eq)) ∧ w = w' := by
  go_enter Try.func54, Try.ntmps54
  go_wp2_with fail
  go_ret
  exact ⟨rfl, rfl⟩
set_option maxRecDepth 100000 in
theorem math_IsInf (b : Nat) (hb : b < 18446744073709551616) (v : Bool) (hv : (Ieee.double.order (b % 9223372036854775808) 9218868437227405311 == some .gt) = v) (w : World) : Calls Try.prog 55 #[.float .f64 b, .int .i64 0] w fun e w' => e = .returned (.bool v) ∧ w = w' := by
  have HV := Lib.hid hv
  clear hv
  have HB := Lib.hid hb
  go_enter Try.func55, Try.ntmps55
  go_wp2_with (go_at_call 56; refine (math_Abs _ HB.out _).mono ?_; rintro e w' ⟨rfl, rfl⟩)
  go_ret
  exact ⟨congrArg (fun x => Ending.returned (Value.bool x)) HV.out, rfl⟩
theorem math_Trunc (x K d : Nat) (s : Bool) (h : Ieee.double.read x = .number s K (-(d : Int))) (w : World) : Calls Try.prog 57 #[.float .f64 x] w fun e w' => e = .returned (.float .f64 (truncW s K d)) ∧ w = w' := by
  have h1 := fun wx => run_trunc x K d s h wx
  clear h
  go_enter Try.func57, Try.ntmps57
  go_wp2_with fail
  go_ret
  exact ⟨rfl, rfl⟩
theorem math_IsNaN' (b : Nat) (v : Bool) (hv : (Ieee.double.order b b != some .eq) = v) (w : World) : Calls Try.prog 54 #[.float .f64 b] w fun e w' => e = .returned (.bool v) ∧ w = w' := by
  subst hv; exact math_IsNaN b w
theorem From_top (b : Nat) (hb : b < 18446744073709551616) (h : ex b = 2047) (w : World) : Calls Try.prog 17 #[.int .u64 b] w fun e w' => e = .returned (.tuple #[.int .i64 0, .int .i64 3]) ∧ w = w' := by
  have h0 := fun wx => run_frombits b wx
  have HB := Lib.hid hb
  by_cases hv : Ieee.double.order b b = some .eq
  · have N := Lib.hid (show (Ieee.double.order b b != some .eq) = false by rw [hv]; rfl)
    have I := Lib.hid (show (Ieee.double.order (b % 9223372036854775808) 9218868437227405311 == some .gt) = true by rw [top_self h hv]; rfl)
    clear hb h hv
    go_enter Try.func17, Try.ntmps17
    go_wp2_with (first
      | (go_at_call 54; refine (math_IsNaN' _ _ N.out _).mono ?_; rintro e w' ⟨rfl, rfl⟩)
      | (go_at_call 55; refine (math_IsInf _ HB.out _ I.out _).mono ?_; rintro e w' ⟨rfl, rfl⟩))
    go_ret2
    exact ⟨rfl, rfl⟩
  · have N := Lib.hid (show (Ieee.double.order b b != some .eq) = true by simpa using hv)
    clear hb h hv
    go_enter Try.func17, Try.ntmps17
    go_wp2_with (first
      | (go_at_call 54; refine (math_IsNaN' _ _ N.out _).mono ?_; rintro e w' ⟨rfl, rfl⟩)
      | (go_at_call 55; refine (math_IsInf _ HB.out _ rfl _).mono ?_; rintro e w' ⟨rfl, rfl⟩))
    go_ret2
    exact ⟨rfl, rfl⟩
/-- the comparison with the greatest number, and the one with -0, as the code asks them -/
theorem From_large (b : Nat) (hb : b < 18446744073709551616) (h : ex b ≠ 2047) (hg : (decide (1047 < xp b) || (xp b == 1047) && decide (4503599627370496 < mm b)) = true) (w : World) : Calls Try.prog 17 #[.int .u64 b] w fun e w' => e = .returned (.tuple #[.int .i64 0, .int .i64 2]) ∧ w = w' := by
  have h0 := fun wx => run_frombits b wx
  have HB := Lib.hid hb
  have N := Lib.hid (show (Ieee.double.order b b != some .eq) = false by rw [order_self h]; rfl)
  have I := Lib.hid (show (Ieee.double.order (b % 9223372036854775808) 9218868437227405311 == some .gt) = false by simpa using abs_inf h)
  have hG : (FloatKind.f64.format.order (b % 9223372036854775808) 4715268809856909312 == some .gt) = true := (abs_gt h).trans hg
  clear hb h hg
  go_enter Try.func17, Try.ntmps17
  go_wp2_with (first
    | (go_at_call 54; refine (math_IsNaN' _ _ N.out _).mono ?_; rintro e w' ⟨rfl, rfl⟩)
    | (go_at_call 55; refine (math_IsInf _ HB.out _ I.out _).mono ?_; rintro e w' ⟨rfl, rfl⟩)
    | (go_at_call 56; refine (math_Abs _ HB.out _).mono ?_; rintro e w' ⟨rfl, rfl⟩))
  go_ret2
  exact ⟨rfl, rfl⟩
/-- the number that a word stands for, in units of 2^-16, cut towards zero -/
def val (b : Nat) : Int := if sg b then -((mm b / 2 ^ (1059 - xp b) : Nat) : Int) else ((mm b / 2 ^ (1059 - xp b) : Nat) : Int)
theorem From_num (b : Nat) (hb : b < 18446744073709551616) (h : ex b ≠ 2047) (hg : (decide (1047 < xp b) || (xp b == 1047) && decide (4503599627370496 < mm b)) = false) (hm : 0 < mm b) (hn : b ≠ 9223372036854775808) (w : World) :
    Calls Try.prog 17 #[.int .u64 b] w fun e w' => e = .returned (.tuple (if mm b % 2 ^ (1059 - xp b) = 0 then #[.int .i64 (val b), .int .i64 0] else #[.int .i64 0, .int .i64 3])) ∧ w = w' := by
  have hx : xp b ≤ 1047 := by
    rcases Nat.lt_or_ge 1047 (xp b) with h1 | h1
    · rw [decide_eq_true h1] at hg; simp at hg
    · exact h1
  obtain ⟨K, d, hF, hd, hM, hdv, hq⟩ := mul_fit h hx hm
  obtain ⟨X, hX⟩ : ∃ X, X = Ieee.double.word (sg b) (rungOf K (-(d : Int))) := ⟨_, rfl⟩
  rw [← hX] at hM
  have hR : Ieee.double.read X = .number (sg b) K (-(d : Int)) := by rw [hX]; exact read_fit _ hF
  have h0 := fun wx => run_frombits b wx
  have HB := Lib.hid hb
  have N := Lib.hid (show (Ieee.double.order b b != some .eq) = false by rw [order_self h]; rfl)
  have I := Lib.hid (show (Ieee.double.order (b % 9223372036854775808) 9218868437227405311 == some .gt) = false by simpa using abs_inf h)
  have hG : (FloatKind.f64.format.order (b % 9223372036854775808) 4715268809856909312 == some .gt) = false := (abs_gt h).trans hg
  have hE : ((b : Int) == 9223372036854775808) = false := by simp; omega
  have HR := Lib.hid hR
  have hmul : ∀ t wx, (binOp .mul t (.float .f64 b) (.float .f64 4679240012837945344)).run Try.prog wx = .ok (.float .f64 X) wx := fun t wx => run_float_arith wx .mul t .f64 b _ X hM
  by_cases hv : mm b % 2 ^ (1059 - xp b) = 0
  · rw [if_pos hv]
    have hT : truncW (sg b) K d = X := by rw [trunc_whole _ hF (hdv.2 hv), hX]
    have hTe : Ieee.double.order X X = some .eq := by unfold Ieee.Format.order; rw [hR]; simp [Ieee.Datum.order]
    have hc : (FloatKind.f64.format.order X (truncW (sg b) K d) != some .eq) = false := by rw [hT]; rw [show FloatKind.f64.format.order X X = some .eq from hTe]; rfl
    have hK := hF.2.1
    have hKd : K / 2 ^ d ≤ K := Nat.div_le_self _ _
    have hI : floatToIntVal .f64 X .i64 = some (val b) := by
      unfold floatToIntVal
      rw [show FloatKind.f64.decode X = .number (sg b) K (-(d : Int)) from hR, toInt_eq, hq]
      have hi : IntKind.i64.min ≤ val b ∧ val b ≤ IntKind.i64.max := by
        rw [hq] at hKd
        have : IntKind.i64.min = -9223372036854775808 := by decide
        have : IntKind.i64.max = 9223372036854775807 := by decide
        unfold val
        obtain ⟨q, hq2⟩ : ∃ q, mm b / 2 ^ (1059 - xp b) = q := ⟨_, rfl⟩
        rw [hq2] at hKd ⊢
        split <;> omega
      exact if_pos hi
    have hcv : ∀ wx, (convert 110 3 (.float .f64 X)).run Try.prog wx = .ok (.int .i64 (val b)) wx := fun wx => run_convert_float_int wx 110 3 .f64 .i64 X (val b) (by rw [Try.underlying110]; rfl) Try.underlying3 hI
    clear hb h hg hM hR hX hF hdv hq hm hn hx hv hT hTe hI hKd hK hd
    go_enter Try.func17, Try.ntmps17
    go_wp2_with (first
      | (go_at_call 54; refine (math_IsNaN' _ _ N.out _).mono ?_; rintro e w' ⟨rfl, rfl⟩)
      | (go_at_call 55; refine (math_IsInf _ HB.out _ I.out _).mono ?_; rintro e w' ⟨rfl, rfl⟩)
      | (go_at_call 56; refine (math_Abs _ HB.out _).mono ?_; rintro e w' ⟨rfl, rfl⟩)
      | (go_at_call 57; refine (math_Trunc _ _ _ _ HR.out _).mono ?_; rintro e w' ⟨rfl, rfl⟩))
    go_ret2
    exact ⟨rfl, rfl⟩
  · rw [if_neg hv]
    have hc : (FloatKind.f64.format.order X (truncW (sg b) K d) != some .eq) = true := by
      have := trunc_other (sg b) hF (fun hh => hv (hdv.1 hh))
      rw [← hX] at this
      have h2 : FloatKind.f64.format.order X (truncW (sg b) K d) ≠ some .eq := this
      simpa using h2
    clear hb h hg hM hR hX hF hdv hq hm hn hx hv hd
    go_enter Try.func17, Try.ntmps17
    go_wp2_with (first
      | (go_at_call 54; refine (math_IsNaN' _ _ N.out _).mono ?_; rintro e w' ⟨rfl, rfl⟩)
      | (go_at_call 55; refine (math_IsInf _ HB.out _ I.out _).mono ?_; rintro e w' ⟨rfl, rfl⟩)
      | (go_at_call 56; refine (math_Abs _ HB.out _).mono ?_; rintro e w' ⟨rfl, rfl⟩)
      | (go_at_call 57; refine (math_Trunc _ _ _ _ HR.out _).mono ?_; rintro e w' ⟨rfl, rfl⟩))
    go_ret2
    exact ⟨rfl, rfl⟩
theorem From_neg0 (w : World) : Calls Try.prog 17 #[.int .u64 9223372036854775808] w fun e w' => e = .returned (.tuple #[.int .i64 0, .int .i64 3]) ∧ w = w' := by
  have h0 := fun wx => run_frombits 9223372036854775808 wx
  rw [show ((9223372036854775808 : Nat) : Int) = 9223372036854775808 from rfl] at h0
  have hG : (FloatKind.f64.format.order 0 4715268809856909312 == some .gt) = false := by decide
  have N := Lib.hid (show (Ieee.double.order 9223372036854775808 9223372036854775808 != some .eq) = false by decide)
  have I := Lib.hid (show (Ieee.double.order (9223372036854775808 % 9223372036854775808) 9218868437227405311 == some .gt) = false by simpa using abs_inf (b := 9223372036854775808) (by decide))
  go_enter Try.func17, Try.ntmps17
  go_wp2_with (first
    | (go_at_call 54; refine (math_IsNaN' _ _ N.out _).mono ?_; rintro e w' ⟨rfl, rfl⟩)
    | (go_at_call 55; refine (math_IsInf _ (by decide) _ I.out _).mono ?_; rintro e w' ⟨rfl, rfl⟩)
    | (go_at_call 56; refine (math_Abs _ (by decide) _).mono ?_; rintro e w' ⟨rfl, rfl⟩))
  go_ret2
  exact ⟨rfl, rfl⟩
theorem trunc0' (d : Nat) : truncW false 0 d = 0 := by
  unfold truncW; rw [integral_eq, Nat.zero_div]; decide
theorem trunc0 : truncW false 0 1074 = 0 := trunc0' 1074
theorem From_zero (w : World) : Calls Try.prog 17 #[.int .u64 0] w fun e w' => e = .returned (.tuple #[.int .i64 0, .int .i64 0]) ∧ w = w' := by
  have h0 := fun wx => run_frombits 0 wx
  rw [show ((0 : Nat) : Int) = 0 from rfl] at h0
  have hG : (FloatKind.f64.format.order 0 4715268809856909312 == some .gt) = false := by decide
  have N := Lib.hid (show (Ieee.double.order 0 0 != some .eq) = false by decide)
  have I := Lib.hid (show (Ieee.double.order (0 % 9223372036854775808) 9218868437227405311 == some .gt) = false by simpa using abs_inf (b := 0) (by decide))
  have hmul : ∀ t wx, (binOp .mul t (.float .f64 0) (.float .f64 4679240012837945344)).run Try.prog wx = .ok (.float .f64 0) wx := fun t wx => run_float_arith wx .mul t .f64 0 _ 0 (by decide)
  have T := Lib.hid (fun wx => trunc0 ▸ math_Trunc 0 0 1074 false (by decide) wx)
  have hc : (FloatKind.f64.format.order 0 0 != some .eq) = false := by decide
  have hcv : ∀ wx, (convert 110 3 (.float .f64 0)).run Try.prog wx = .ok (.int .i64 0) wx := fun wx => run_convert_float_int wx 110 3 .f64 .i64 0 0 (by rw [Try.underlying110]; rfl) Try.underlying3 (by decide)
  go_enter Try.func17, Try.ntmps17
  go_wp2_with (first
    | (go_at_call 54; refine (math_IsNaN' _ _ N.out _).mono ?_; rintro e w' ⟨rfl, rfl⟩)
    | (go_at_call 55; refine (math_IsInf _ (by decide) _ I.out _).mono ?_; rintro e w' ⟨rfl, rfl⟩)
    | (go_at_call 56; refine (math_Abs _ (by decide) _).mono ?_; rintro e w' ⟨rfl, rfl⟩)
    | (go_at_call 57; refine (T.out _).mono ?_; rintro e w' ⟨rfl, rfl⟩))
  go_ret2
  exact ⟨rfl, rfl⟩
/-- To: the word of a number of units -/
theorem To_num (a : Int) (T p : Nat) (hT : a.natAbs = T) (hl : lim a = a) (k1 : 4503599627370496 ≤ T * 2 ^ p) (k2 : T * 2 ^ p < 9007199254740992) (hp : p ≤ 900) (w : World) :
    Calls Try.prog 15 #[.int .i64 a] w fun e w' => e = .returned (.tuple #[.int .u64 (((if decide (a < 0) then 9223372036854775808 else 0) + (1058 - p) * 4503599627370496 + T * 2 ^ p : Nat) : Int), .int .i64 0]) ∧ w = w' := by
  obtain ⟨Z, hZ⟩ : ∃ Z, Z = (if decide (a < 0) then 9223372036854775808 else 0) + (1058 - p) * 4503599627370496 + T * 2 ^ p := ⟨_, rfl⟩
  rw [← hZ]
  obtain ⟨X, hX⟩ : ∃ X, X = Ieee.double.word (decide (a < 0)) (rungOf (T * 2 ^ p) (-(p : Int))) := ⟨_, rfl⟩
  have hN : FloatKind.f64.nearest a = X := by
    rw [hX, ← of_whole (decide (a < 0)) k1 k2 hp, ← hT]; rfl
  have hD : Ieee.double.div X 4679240012837945344 = some Z := by rw [hX, by_one _ k1 k2 hp, word_nat _ _ _ hp, hZ]
  have hdiv : ∀ t wx, (binOp .quo t (.float .f64 X) (.float .f64 4679240012837945344)).run Try.prog wx = .ok (.float .f64 Z) wx := fun t wx => run_float_arith wx .quo t .f64 X _ Z hD
  have hcv : ∀ wx, (convert 3 110 (.int .i64 a)).run Try.prog wx = .ok (.float .f64 X) wx := fun wx => by
    rw [← hN]; simp [convert, run_underlying Try.underlying3, run_underlying Try.underlying110, Conv.intToFloat]
  have h1 := fun wx => run_bits Z wx
  have HL := Lib.hid hl
  clear hl hD hN hX hZ hT k1 k2 hp
  go_enter Try.func15, Try.ntmps15
  go_wp2_with (go_at_call 16; refine (fix_Clamp _ _).mono ?_; rw [HL.out]; rintro e w' ⟨rfl, rfl⟩)
  go_ret2
  exact ⟨rfl, rfl⟩
theorem To_large (a : Int) (hl : (lim a != a) = true) (w : World) : Calls Try.prog 15 #[.int .i64 a] w fun e w' => e = .returned (.tuple #[.int .u64 0, .int .i64 2]) ∧ w = w' := by
  go_enter Try.func15, Try.ntmps15
  go_wp2_with (go_at_call 16; refine (fix_Clamp _ _).mono ?_; rintro e w' ⟨rfl, rfl⟩)
  go_ret2
  exact ⟨rfl, rfl⟩
theorem To_zero (w : World) : Calls Try.prog 15 #[.int .i64 0] w fun e w' => e = .returned (.tuple #[.int .u64 0, .int .i64 0]) ∧ w = w' := by
  have hdiv : ∀ t wx, (binOp .quo t (.float .f64 0) (.float .f64 4679240012837945344)).run Try.prog wx = .ok (.float .f64 0) wx := fun t wx => run_float_arith wx .quo t .f64 0 _ 0 (by decide)
  have hcv : ∀ wx, (convert 3 110 (.int .i64 0)).run Try.prog wx = .ok (.float .f64 0) wx := fun wx => by
    rw [show (0 : Nat) = FloatKind.f64.nearest 0 by decide]; simp [convert, run_underlying Try.underlying3, run_underlying Try.underlying110, Conv.intToFloat]
  have h1 := fun wx => run_bits 0 wx
  rw [show ((0 : Nat) : Int) = 0 from rfl] at h1
  have HL := Lib.hid (show lim 0 = 0 by decide)
  go_enter Try.func15, Try.ntmps15
  go_wp2_with (go_at_call 16; refine (fix_Clamp _ _).mono ?_; rw [HL.out]; rintro e w' ⟨rfl, rfl⟩)
  go_ret2
  exact ⟨rfl, rfl⟩
end Go.Proofs.Ytfckbkhnelgjbaa
end
/- Contracts of ref FromBits and ToBits. -/
section
namespace Go.Proofs.Ytfckbkhnelgjbaa
open Go.ChangeShapes Go.WideShapes Go.ChangeAt Go.RowKit Go.Fl
set_option linter.unusedVariables false
theorem and_ex (b : Nat) (hb : b < 18446744073709551616) : bits .and .u64 ((b : Int) / 4503599627370496) 2047 = (ex b : Int) := by
  have := u64_and_nat (b / 4503599627370496) 2047 (by omega) (by decide)
  rw [show (2047 : Int) = ((2047 : Nat) : Int) from rfl, show (b : Int) / 4503599627370496 = ((b / 4503599627370496 : Nat) : Int) by omega, this, show 2047 = 2 ^ 11 - 1 from rfl, Nat.and_two_pow_sub_one_eq_mod]
  rfl
theorem and_fr (b : Nat) (hb : b < 18446744073709551616) : bits .and .u64 (b : Int) 4503599627370495 = (fr b : Int) := by
  have := u64_and_nat b 4503599627370495 hb (by decide)
  rw [show (4503599627370495 : Int) = ((4503599627370495 : Nat) : Int) from rfl, this, show 4503599627370495 = 2 ^ 52 - 1 from rfl, Nat.and_two_pow_sub_one_eq_mod]
  rfl
-- GENERATED by gen_borderr.py
theorem mod_step (M k : Nat) : M % 2 ^ (k + 1) = 0 ↔ M % 2 ^ k = 0 ∧ M / 2 ^ k % 2 = 0 := by
  have h := Nat.mod_pow_succ (b := 2) (x := M) (k := k)
  rw [h]
  have hp : 0 < 2 ^ k := Nat.two_pow_pos k
  constructor
  · intro hh
    have h1 : M % 2 ^ k = 0 := by omega
    have h2 : 2 ^ k * (M / 2 ^ k % 2) = 0 := by omega
    rcases Nat.mul_eq_zero.1 h2 with h3 | h3
    · omega
    · exact ⟨h1, h3⟩
  · rintro ⟨h1, h2⟩
    rw [h1, h2, Nat.mul_zero]
theorem mod_up (M k n : Nat) (h : k ≤ n) (h2 : M % 2 ^ n = 0) : M % 2 ^ k = 0 :=
  Nat.mod_eq_zero_of_dvd (Nat.dvd_trans (Nat.pow_dvd_pow 2 h) (Nat.dvd_of_mod_eq_zero h2))
theorem wr_in (F : Nat) (h : F < 9223372036854775808) : wrap64 (F : Int) = F := IntWalk.wrap64_in _ ⟨by omega, by omega⟩
theorem wr_add (F M : Nat) (h : M = 4503599627370496 + F) (hF : F < 4503599627370496) : wrap64 ((F : Int) + 4503599627370496) = (M : Int) := by
  rw [IntWalk.wrap64_in _ ⟨by omega, by omega⟩]; omega
theorem dl_t {a b : Int} (h : a < b) : decide (a < b) = true := decide_eq_true h
theorem dl_f {a b : Int} (h : ¬ a < b) : decide (a < b) = false := decide_eq_false h
theorem eq_t {a b : Int} (h : a = b) : (a == b) = true := beq_iff_eq.2 h
theorem eq_f {a b : Int} (h : a ≠ b) : (a == b) = false := beq_eq_false_iff_ne.2 h
/-- the fields of a word, as bare numbers -/
theorem fields (b : Nat) (h : ex b ≠ 2047) : ∃ E F, ex b = E ∧ fr b = F ∧ E < 2047 ∧ F < 4503599627370496 ∧ ((E = 0 ∧ xp b = 1 ∧ mm b = F) ∨ (0 < E ∧ xp b = E ∧ mm b = 4503599627370496 + F)) := by
  have hE : ex b < 2048 := Nat.mod_lt _ (by decide)
  have hF : fr b < 4503599627370496 := Nat.mod_lt _ (by decide)
  refine ⟨ex b, fr b, rfl, rfl, by omega, hF, ?_⟩
  by_cases h0 : ex b = 0
  · refine .inl ⟨h0, ?_, ?_⟩
    · unfold xp; rw [if_pos h0]
    · unfold mm; rw [if_pos h0]
  · refine .inr ⟨by omega, ?_, ?_⟩
    · unfold xp; rw [if_neg h0]
    · unfold mm; rw [if_neg h0]
end Go.Proofs.Ytfckbkhnelgjbaa
end
/- border.From, border.To and their references, joined: each returns numF, errF, wordF. -/
section
namespace Go.Proofs.Ytfckbkhnelgjbaa
open Go.ChangeShapes Go.WideShapes Go.ChangeAt Go.RowKit Go.Fl
set_option linter.unusedVariables false
def largeB (b : Nat) : Bool := decide (1047 < xp b) || (xp b == 1047) && decide (4503599627370496 < mm b)
def numF (b : Nat) : Int := if ex b = 2047 then 0 else if largeB b = true then 0 else if mm b = 0 then 0 else if mm b % 2 ^ (1059 - xp b) = 0 then val b else 0
def errF (b : Nat) : Int := if ex b = 2047 then 3 else if largeB b = true then 2 else if mm b = 0 then (if sg b then 3 else 0) else if mm b % 2 ^ (1059 - xp b) = 0 then 0 else 3
theorem zero_cases {b : Nat} (hb : b < 18446744073709551616) (hm : mm b = 0) : b = 0 ∨ b = 9223372036854775808 := by
  by_cases h0 : ex b = 0
  · unfold mm at hm; rw [if_pos h0] at hm
    unfold ex at h0; unfold fr at hm
    omega
  · have := mm_big h0; omega
theorem From_any (b : Nat) (hb : b < 18446744073709551616) (w : World) : Calls Try.prog 17 #[.int .u64 b] w fun e w' => e = .returned (.tuple #[.int .i64 (numF b), .int .i64 (errF b)]) ∧ w = w' := by
  by_cases h1 : ex b = 2047
  · rw [show numF b = 0 by unfold numF; rw [if_pos h1], show errF b = 3 by unfold errF; rw [if_pos h1]]
    exact From_top b hb h1 w
  · by_cases h2 : largeB b = true
    · rw [show numF b = 0 by unfold numF; rw [if_neg h1, if_pos h2], show errF b = 2 by unfold errF; rw [if_neg h1, if_pos h2]]
      exact From_large b hb h1 h2 w
    · by_cases h3 : mm b = 0
      · rw [show numF b = 0 by unfold numF; rw [if_neg h1, if_neg h2, if_pos h3], show errF b = if sg b then 3 else 0 by unfold errF; rw [if_neg h1, if_neg h2, if_pos h3]]
        rcases zero_cases hb h3 with rfl | rfl
        · exact From_zero w
        · exact From_neg0 w
      · have h2' : largeB b = false := by simpa using h2
        by_cases h5 : b = 9223372036854775808
        · subst h5; exact absurd (by decide) h3
        · refine (From_num b hb h1 h2' (by omega) h5 w).mono ?_
          rintro e w' ⟨rfl, rfl⟩
          refine ⟨?_, rfl⟩
          unfold numF errF
          rw [if_neg h1, if_neg h1, if_neg h2, if_neg h2, if_neg h3, if_neg h3]
          by_cases h4 : mm b % 2 ^ (1059 - xp b) = 0
          · rw [if_pos h4, if_pos h4, if_pos h4]
          · rw [if_neg h4, if_neg h4, if_neg h4]
theorem sg_eq (b : Nat) (hb : b < 18446744073709551616) : ((b : Int) / 9223372036854775808 == 1) = sg b := by
  unfold sg
  rw [Bool.eq_iff_iff, beq_iff_eq, beq_iff_eq]; omega
/-- the word of a number of units -/
def upB (T : Nat) : Nat := 52 - T.log2
def wordF (a : Int) : Nat := if a = 0 then 0 else (if decide (a < 0) then 9223372036854775808 else 0) + (1058 - upB a.natAbs) * 4503599627370496 + a.natAbs * 2 ^ upB a.natAbs
theorem up_bd (T : Nat) (h0 : 0 < T) (h1 : T ≤ 1099511627776) : 4503599627370496 ≤ T * 2 ^ upB T ∧ T * 2 ^ upB T < 9007199254740992 ∧ upB T ≤ 52 ∧ ∀ k, k < upB T → T * 2 ^ k < 4503599627370496 := by
  obtain ⟨c, hc⟩ : ∃ c, T.log2 = c := ⟨_, rfl⟩
  have c2 : c < 53 := by rw [← hc, Nat.log2_lt (by omega)]; omega
  have l1 : 2 ^ c ≤ T := by rw [← hc]; exact Nat.log2_self_le (by omega)
  have l2 : T < 2 ^ (c + 1) := by rw [← hc]; exact Nat.lt_log2_self
  have e1 : 2 ^ c * 2 ^ (52 - c) = 4503599627370496 := by rw [← Nat.pow_add, show c + (52 - c) = 52 by omega]
  have e2 : 2 ^ (c + 1) * 2 ^ (52 - c) = 9007199254740992 := by rw [← Nat.pow_add, show c + 1 + (52 - c) = 53 by omega]
  unfold upB
  rw [hc]
  refine ⟨by rw [← e1]; exact Nat.mul_le_mul_right _ l1, by rw [← e2]; exact Nat.mul_lt_mul_of_pos_right l2 (Nat.two_pow_pos _), by omega, fun k hk => ?_⟩
  have h3 : T * 2 ^ k < 2 ^ (c + 1) * 2 ^ k := Nat.mul_lt_mul_of_pos_right l2 (Nat.two_pow_pos _)
  have h4 : 2 ^ (c + 1) * 2 ^ k ≤ 4503599627370496 := by
    rw [← Nat.pow_add, show 4503599627370496 = 2 ^ 52 from rfl]
    exact Nat.pow_le_pow_right (by decide) (by omega)
  omega
theorem To_ok (a : Int) (hl : lim a = a) (w : World) : Calls Try.prog 15 #[.int .i64 a] w fun e w' => e = .returned (.tuple #[.int .u64 (wordF a : Nat), .int .i64 0]) ∧ w = w' := by
  by_cases h0 : a = 0
  · subst h0; exact To_zero w
  · have hb : a.natAbs ≤ 1099511627776 := by have := lim_bd a; omega
    obtain ⟨k1, k2, k3, _⟩ := up_bd a.natAbs (by omega) hb
    have := To_num a a.natAbs (upB a.natAbs) rfl hl k1 k2 (by omega) w
    unfold wordF
    rw [if_neg h0]
    exact this
end Go.Proofs.Ytfckbkhnelgjbaa
end
/- Plain law: a number that goes over the border comes back. -/
section
namespace Go.Proofs.Ytfckbkhnelgjbaa
open Go.ChangeShapes Go.WideShapes Go.ChangeAt Go.RowKit Go.Fl
set_option linter.unusedVariables false
theorem border_back (a : Int) (h : lim a = a) : numF (wordF a) = a ∧ errF (wordF a) = 0 ∧ wordF a < 18446744073709551616 := by
  have hb : a.natAbs ≤ 1099511627776 := by have := lim_bd a; omega
  by_cases h0 : a = 0
  · subst h0
    decide
  · obtain ⟨T, hT⟩ : ∃ T, T = a.natAbs := ⟨_, rfl⟩
    rw [← hT] at hb
    obtain ⟨k1, k2, k3, k4⟩ := up_bd T (by omega) hb
    obtain ⟨k, hk⟩ : ∃ k, k = upB T := ⟨_, rfl⟩
    rw [← hk] at k1 k2 k3 k4
    obtain ⟨M, hM⟩ : ∃ M, M = T * 2 ^ k := ⟨_, rfl⟩
    have k12 : 12 ≤ k := by
      refine Nat.le_of_not_lt fun hlt => ?_
      have : 2 ^ k ≤ 2 ^ 11 := Nat.pow_le_pow_right (by decide) (by omega)
      have h2 : T * 2 ^ k ≤ 1099511627776 * 2 ^ 11 := Nat.mul_le_mul hb this
      omega
    have hM12 : k = 12 → M ≤ 4503599627370496 := fun e => by
      subst e
      rw [hM]
      have := Nat.mul_le_mul_right (2 ^ 12) hb
      omega
    rw [← hM] at k1 k2
    obtain ⟨s, hs⟩ : ∃ s, s = decide (a < 0) := ⟨_, rfl⟩
    obtain ⟨b, hbb⟩ : ∃ b, b = wordF a := ⟨_, rfl⟩
    have hb1 : b = (if s = true then 9223372036854775808 else 0) + (1058 - k) * 4503599627370496 + M := by
      rw [hbb]; unfold wordF
      rw [if_neg h0, ← hT, ← hk, ← hM, ← hs]
    rw [← hbb]
    have hex : ex b = 1059 - k := by
      unfold ex
      cases s <;> simp at hb1 <;> omega
    have hfr : fr b = M - 4503599627370496 := by
      unfold fr
      cases s <;> simp at hb1 <;> omega
    have hmm : mm b = M := by
      unfold mm
      rw [if_neg (by omega), hfr]
      omega
    have hxp : xp b = 1059 - k := by unfold xp; rw [if_neg (by omega), hex]
    have hsg : sg b = s := by
      unfold sg
      cases s
      · simp at hb1
        rw [beq_eq_false_iff_ne]; omega
      · simp at hb1
        rw [beq_iff_eq]; omega
    have hlg : largeB b = false := by
      unfold largeB
      rw [hxp, hmm]
      by_cases e : k = 12
      · have := hM12 e
        subst e
        simp; omega
      · simp; omega
    have hpw : 1059 - xp b = k := by rw [hxp]; omega
    have hmod : M % 2 ^ k = 0 := by rw [hM]; exact Nat.mul_mod_left _ _
    have hdiv : M / 2 ^ k = T := by rw [hM]; exact Nat.mul_div_cancel _ (Nat.two_pow_pos k)
    refine ⟨?_, ?_, by cases s <;> simp at hb1 <;> omega⟩
    · unfold numF
      rw [if_neg (by omega), hlg, if_neg (by decide), hmm, if_neg (by omega), hpw, if_pos hmod]
      unfold val
      rw [hmm, hpw, hdiv, hsg, hs]
      by_cases e : a < 0
      · rw [if_pos (decide_eq_true e)]; omega
      · rw [if_neg (by simp; omega)]; omega
    · unfold errF
      rw [if_neg (by omega), hlg, if_neg (by decide), hmm, if_neg (by omega), hpw, if_pos hmod]
end Go.Proofs.Ytfckbkhnelgjbaa
end
