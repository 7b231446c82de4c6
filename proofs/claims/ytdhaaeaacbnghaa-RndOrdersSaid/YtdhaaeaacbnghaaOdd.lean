/- An odd step reaches 0 (plain). -/
import Derived.WalkKit
namespace Go.Odd
theorem inv (g : Nat) (hg : g % 2 = 1) : ∀ n : Nat, ∃ h c : Nat, g * h = 1 + 2 ^ n * c
  | 0 => ⟨1, g - 1, by omega⟩
  | n + 1 => by
    obtain ⟨h, c, e⟩ := inv g hg n
    by_cases p : c % 2 = 0
    · refine ⟨h, c / 2, ?_⟩
      rw [e, Nat.pow_succ, Nat.mul_assoc, show 2 * (c / 2) = c by omega]
    · refine ⟨h + 2 ^ n, (c + g) / 2, ?_⟩
      rw [Nat.mul_add, e, Nat.pow_succ, Nat.mul_assoc, show 2 * ((c + g) / 2) = c + g by omega, Nat.mul_add, Nat.mul_comm g]
      omega
/-- Some number of steps, at least one, ends at 0. -/
theorem reach (s g : Nat) (hg : g % 2 = 1) : ∃ k, 1 ≤ k ∧ k ≤ 18446744073709551616 ∧ (s + k * g) % 18446744073709551616 = 0 := by
  obtain ⟨h, c, e⟩ := inv g hg 64
  have e' : g * h = 1 + 18446744073709551616 * c := e
  obtain ⟨t, ht⟩ : ∃ t, t = 18446744073709551616 - s % 18446744073709551616 := ⟨_, rfl⟩
  obtain ⟨u, hu⟩ : ∃ u, u = t * h % 18446744073709551616 := ⟨_, rfl⟩
  have key : (s + u * g) % 18446744073709551616 = 0 := by
    have a : u * g % 18446744073709551616 = t % 18446744073709551616 := by
      rw [hu, Nat.mod_mul_mod, Nat.mul_assoc, Nat.mul_comm h, e', Nat.mul_add, Nat.mul_one, Nat.mul_left_comm]
      exact Nat.add_mul_mod_self_left _ _ _
    omega
  by_cases z : u = 0
  · refine ⟨18446744073709551616, by omega, by omega, ?_⟩
    subst z
    rw [Nat.add_mul_mod_self_left]
    simpa using key
  · exact ⟨u, by omega, by omega, key⟩
end Go.Odd
