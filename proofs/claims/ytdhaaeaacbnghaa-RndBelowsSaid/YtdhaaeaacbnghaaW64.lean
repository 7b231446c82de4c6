import Derived.WalkKit
namespace Go.W64
open Go.RowKit
theorem uw (n : Int) : IntKind.u64.wrap (IntKind.i64.wrap n) = n % 18446744073709551616 := by
  rw [IntKind.wrap_u64, IntKind.wrap_i64]; omega
theorem uwN (k : Nat) : IntKind.u64.wrap (IntKind.i64.wrap (k : Int)) = ((k % 18446744073709551616 : Nat) : Int) := by
  rw [uw]; exact (Int.natCast_emod k 18446744073709551616).symm
theorem w1 (n : Int) : IntKind.i64.wrap (IntKind.i64.wrap n + 1) = IntKind.i64.wrap (n + 1) := by
  simp only [IntKind.wrap_i64]; omega
theorem w1N (k : Nat) : IntKind.i64.wrap (IntKind.i64.wrap (k : Int) + 1) = IntKind.i64.wrap ((k + 1 : Nat) : Int) := by
  rw [w1]; rfl
end Go.W64
