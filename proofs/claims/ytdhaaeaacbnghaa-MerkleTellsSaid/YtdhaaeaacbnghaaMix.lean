/- rnd: Mix; the reference's Scrambled. -/
import Derived.WalkKit
import Derived.ProofKit
import Derived.Laws.Bits64b
import Derived.Lib.Hide
import Derived.LoopN
import Derived.Test.YtdhaaeaacbnghaaRows
namespace Go.Proofs.Ytdhaaeaacbnghaa
open Go.ChangeShapes Go.WideShapes Go.ChangeAt Go.RowKit
set_option linter.unusedVariables false

theorem xor_u64_nat (a b : Nat) (ha : a < 18446744073709551616) (hb : b < 18446744073709551616) : bits .xor .u64 (a : Int) (b : Int) = ((a ^^^ b : Nat) : Int) := by
  have hx : a ^^^ b < 2 ^ 64 := Nat.xor_lt_two_pow (by omega) (by omega)
  have h1 : (BitVec.ofInt 64 (a : Int)).toNat = a := by
    rw [BitVec.ofInt_natCast, BitVec.toNat_ofNat]; exact Nat.mod_eq_of_lt (by omega)
  have h2 : (BitVec.ofInt 64 (b : Int)).toNat = b := by
    rw [BitVec.ofInt_natCast, BitVec.toNat_ofNat]; exact Nat.mod_eq_of_lt (by omega)
  show IntKind.u64.wrap ((BitVec.ofInt 64 (a : Int) ^^^ BitVec.ofInt 64 (b : Int)).toNat : Int) = _
  rw [BitVec.toNat_xor, h1, h2, IntKind.wrap_u64]
  omega

/-- x with its upper bits laid over it. -/
def over (x k : Nat) : Nat := x ^^^ (x / k)
theorem over_lt (x k : Nat) (h : x < 18446744073709551616) : over x k < 18446744073709551616 := by
  have : x / k ≤ x := Nat.div_le_self _ _
  exact Nat.xor_lt_two_pow (n := 64) (by omega) (by omega)
def mix1 (x : Nat) : Nat := over x 2147483648 * 7640891576956012809 % 18446744073709551616
def mix2 (x : Nat) : Nat := over (mix1 x) 134217728 * 13503953896175478587 % 18446744073709551616
def mix (x : Nat) : Nat := over (mix2 x) 1073741824
theorem mix_lt (x : Nat) : mix x < 18446744073709551616 := over_lt _ _ (Nat.mod_lt _ (by omega))
theorem mix_zero : mix 0 = 0 := by decide

theorem over_eq (x k : Nat) (h : x < 18446744073709551616) : bits .xor .u64 (x : Int) ((x : Int) / (k : Int)) = over x k := by
  have : x / k ≤ x := Nat.div_le_self _ _
  rw [← Int.natCast_ediv]; exact xor_u64_nat x (x / k) h (by omega)

theorem rnd_Mix (x : Nat) (h1 : x < 18446744073709551616) (w : World) : Calls Try.prog 29 #[.int .u64 x] w fun e w' => e = .returned (.int .u64 (mix x : Nat)) ∧ w = w' := by
  obtain ⟨a1, ha1⟩ : ∃ k, k = over x 2147483648 := ⟨_, rfl⟩
  obtain ⟨a2, ha2⟩ : ∃ k, k = mix1 x := ⟨_, rfl⟩
  obtain ⟨b1, hb1⟩ : ∃ k, k = over a2 134217728 := ⟨_, rfl⟩
  obtain ⟨b2, hb2⟩ : ∃ k, k = mix2 x := ⟨_, rfl⟩
  obtain ⟨c1, hc1⟩ : ∃ k, k = mix x := ⟨_, rfl⟩
  have l2 : a2 < 18446744073709551616 := by rw [ha2]; exact Nat.mod_lt _ (by omega)
  have l3 : b2 < 18446744073709551616 := by rw [hb2]; exact Nat.mod_lt _ (by omega)
  have e1 : bits .xor .u64 (x : Int) ((x : Int) / 2147483648) = a1 := by rw [ha1]; exact over_eq x 2147483648 h1
  have e2 : IntKind.u64.wrap ((a1 : Int) * 7640891576956012809) = a2 := by rw [ha2, mix1, ← ha1, IntKind.wrap_u64]; omega
  have e3 : bits .xor .u64 (a2 : Int) ((a2 : Int) / 134217728) = b1 := by rw [hb1]; exact over_eq a2 134217728 l2
  have e4 : IntKind.u64.wrap ((b1 : Int) * 13503953896175478587) = b2 := by rw [hb2, mix2, ← ha2, ← hb1, IntKind.wrap_u64]; omega
  have e5 : bits .xor .u64 (b2 : Int) ((b2 : Int) / 1073741824) = c1 := by rw [hc1, mix, ← hb2]; exact over_eq b2 1073741824 l3
  rw [← hc1]
  clear ha1 ha2 hb1 hb2 hc1
  go_enter Try.func29, Try.ntmps29
  go_wp2
  go_ret
  exact ⟨rfl, rfl⟩

set_option maxHeartbeats 4000000 in
theorem ref_Scrambled (x : Nat) (h1 : x < 18446744073709551616) (w : World) : Calls Try.prog 30 #[.int .u64 x] w fun e w' => e = .returned (.int .u64 (mix x : Nat)) ∧ Below w.heap.size w w' := by
  obtain ⟨a1, ha1⟩ : ∃ k, k = over x 2147483648 := ⟨_, rfl⟩
  obtain ⟨a2, ha2⟩ : ∃ k, k = mix1 x := ⟨_, rfl⟩
  obtain ⟨b1, hb1⟩ : ∃ k, k = over a2 134217728 := ⟨_, rfl⟩
  obtain ⟨b2, hb2⟩ : ∃ k, k = mix2 x := ⟨_, rfl⟩
  obtain ⟨c1, hc1⟩ : ∃ k, k = mix x := ⟨_, rfl⟩
  have l2 : a2 < 18446744073709551616 := by rw [ha2]; exact Nat.mod_lt _ (by omega)
  have l3 : b2 < 18446744073709551616 := by rw [hb2]; exact Nat.mod_lt _ (by omega)
  have e1 : bits .xor .u64 (x : Int) ((x : Int) / 2147483648) = a1 := by rw [ha1]; exact over_eq x 2147483648 h1
  have e2 : IntKind.u64.wrap ((a1 : Int) * 7640891576956012809) = a2 := by rw [ha2, mix1, ← ha1, IntKind.wrap_u64]; omega
  have e3 : bits .xor .u64 (a2 : Int) ((a2 : Int) / 134217728) = b1 := by rw [hb1]; exact over_eq a2 134217728 l2
  have e4 : IntKind.u64.wrap ((b1 : Int) * 13503953896175478587) = b2 := by rw [hb2, mix2, ← ha2, ← hb1, IntKind.wrap_u64]; omega
  have e5 : bits .xor .u64 (b2 : Int) ((b2 : Int) / 1073741824) = c1 := by rw [hc1, mix, ← hb2]; exact over_eq b2 1073741824 l3
  have e6 : IntKind.u64.wrap (c1 : Int) = c1 := by rw [hc1, IntKind.wrap_u64]; have := mix_lt x; omega
  rw [← hc1]
  clear ha1 ha2 hb1 hb2 hc1
  go_enter Try.func30, Try.ntmps30
  go_wp2
  refine wp_loop_rounds 4 ?_
  rw [rounds_succ]
  go_wp2_with (fail)
  rw [rounds_succ]
  go_wp2_with (fail)
  rw [rounds_succ]
  go_wp2_with (fail)
  rw [rounds_succ]
  go_wp2_with (fail)
  go_ret
  exact ⟨rfl, ((((Below.refl _ _).alloc (Nat.le_refl _) _).alloc (by simp) _).alloc (by simp; omega) _).alloc (by simp; omega) _⟩
end Go.Proofs.Ytdhaaeaacbnghaa
