/- ref ToBits. -/
import Derived.Test.YtehpfkmaikbjkaaBorderJ
namespace Go.Proofs.Ytehpfkmaikbjkaa
open Go.ChangeShapes Go.WideShapes Go.ChangeAt Go.RowKit Go.Fl
set_option linter.unusedVariables false
theorem end_p (p K : Nat) (hp : p ≤ 52) (h1 : 4503599627370496 ≤ K) (h2 : K < 9007199254740992) : IntKind.u64.wrap (((1059 - p : Nat) : Int) * 4503599627370496 + IntKind.u64.wrap ((K : Int) - 4503599627370496)) = (((1058 - p) * 4503599627370496 + K : Nat) : Int) := by
  rw [IntWalk.u64_in ((K : Int) - 4503599627370496) (by omega), IntWalk.u64_in _ (by omega)]; omega
theorem end_n (p K : Nat) (hp : p ≤ 52) (h1 : 4503599627370496 ≤ K) (h2 : K < 9007199254740992) : IntKind.u64.wrap (9223372036854775808 + ((1059 - p : Nat) : Int) * 4503599627370496 + IntKind.u64.wrap ((K : Int) - 4503599627370496)) = ((9223372036854775808 + (1058 - p) * 4503599627370496 + K : Nat) : Int) := by
  rw [IntWalk.u64_in ((K : Int) - 4503599627370496) (by omega), IntWalk.u64_in _ (by omega)]; omega
theorem ret_int' {k : IntKind} {a b : Int} (h : a = b) : Ending.returned (.int k a) = .returned (.int k b) := by rw [h]
theorem ref_ToBits0 (w : World) : Calls Try.prog 33 #[.int .i64 0] w fun e w' => e = .returned (.int .u64 0) ∧ w = w' := by
  go_enter Try.func33, Try.ntmps33
  go_wp2_with fail
  go_ret
  exact ⟨rfl, rfl⟩
set_option maxRecDepth 100000 in
set_option maxHeartbeats 1000000 in
theorem ref_ToBits_p (Z : Int) (T p : Nat) (hZ : Z = (((1058 - p) * 4503599627370496 + T * 2 ^ p : Nat) : Int)) (h0 : 0 < T) (hT : T ≤ 1099511627776) (hl : 4503599627370496 ≤ T * 2 ^ p) (hl2 : T * 2 ^ p < 9007199254740992) (hp : p ≤ 52) (hk : ∀ k, k < p → T * 2 ^ k < 4503599627370496) (w : World) :
    Calls Try.prog 33 #[.int .i64 (T : Int)] w fun e w' => e = .returned (.int .u64 Z) ∧ w = w' := by
  have HZ := Lib.hid hZ
  clear hZ
  have HP := Lib.hid hk
  have HL := Lib.hid hl
  have HQ := Lib.hid hp
  have HL2 := Lib.hid hl2
  have z1 : (((T : Int) : Int) == 0) = false := eq_f (by omega)
  clear hk hl hl2
  go_enter Try.func33, Try.ntmps33
  go_wp2_with fail
  go_loopg [0, 4] p (fun gk va ve wx => ∃ k x u : Nat, k ≤ p ∧ gk = p - k ∧ va = .int .i64 (u : Int) ∧ ve = .int .i64 (x : Int) ∧ x + k = 1059 ∧ x ≤ 1059 ∧ 1007 ≤ x ∧ u ≤ 9007199254740991 ∧ u = T * 2 ^ k ∧ wx = w)
  case atStart => exact ⟨0, 1059, T, Nat.zero_le _, rfl, rfl, rfl, by omega, by omega, by omega, by omega, by rw [Nat.pow_zero, Nat.mul_one], rfl⟩
  case round =>
    obtain ⟨k, x, u, hk, g2, rfl, rfl, hx, hx1, hx2, hu1, hu, rfl⟩ := hrel
    have G2 := Lib.hid g2
    have HX2 := Lib.hid hx
    have HU := Lib.hid hu
    by_cases hlt : k < p
    · have t0 : decide ((u : Int) < 4503599627370496) = true := dl_t (by have := HP.out k hlt; rw [← hu] at this; omega)
      clear g2 hu hx
      go_wp2_with fail
      go_roundg (p - (k + 1))
      case measure => rw [G2.out]; omega
      case rel => exact ⟨k + 1, x - 1, 2 * u, hlt, rfl, by go_num, by go_num, by have := HX2.out; omega, by omega, by have := HX2.out; have := HQ.out; omega, by have := of_decide_eq_true t0; omega, by rw [HU.out, Nat.pow_succ]; rw [Nat.mul_comm (2 ^ k) 2, ← Nat.mul_assoc, ← Nat.mul_assoc, Nat.mul_comm 2 T], rfl⟩
    · have hkp : k = p := by omega
      have t0 : decide ((u : Int) < 4503599627370496) = false := dl_f (by have := HL.out; rw [← hkp, ← hu] at this; omega)
      have hxp : x = 1059 - p := by omega
      have HKP := Lib.hid hkp
      have HXP := Lib.hid hxp
      clear g2 hu hx hkp hxp
      go_wp2_with fail
      go_ret
      refine ⟨ret_int' ?_, rfl⟩
      rw [HZ.out, HXP.out, HU.out, HKP.out]
      exact end_p p _ HQ.out HL.out HL2.out
set_option maxRecDepth 100000 in
set_option maxHeartbeats 1000000 in
theorem ref_ToBits_n (Z : Int) (T p : Nat) (hZ : Z = ((9223372036854775808 + (1058 - p) * 4503599627370496 + T * 2 ^ p : Nat) : Int)) (h0 : 0 < T) (hT : T ≤ 1099511627776) (hl : 4503599627370496 ≤ T * 2 ^ p) (hl2 : T * 2 ^ p < 9007199254740992) (hp : p ≤ 52) (hk : ∀ k, k < p → T * 2 ^ k < 4503599627370496) (w : World) :
    Calls Try.prog 33 #[.int .i64 (-(T : Int))] w fun e w' => e = .returned (.int .u64 Z) ∧ w = w' := by
  have HZ := Lib.hid hZ
  clear hZ
  have HP := Lib.hid hk
  have HL := Lib.hid hl
  have HQ := Lib.hid hp
  have HL2 := Lib.hid hl2
  have z1 : (((-(T : Int)) : Int) == 0) = false := eq_f (by omega)
  clear hk hl hl2
  go_enter Try.func33, Try.ntmps33
  go_wp2_with fail
  go_loopg [0, 4] p (fun gk va ve wx => ∃ k x u : Nat, k ≤ p ∧ gk = p - k ∧ va = .int .i64 (u : Int) ∧ ve = .int .i64 (x : Int) ∧ x + k = 1059 ∧ x ≤ 1059 ∧ 1007 ≤ x ∧ u ≤ 9007199254740991 ∧ u = T * 2 ^ k ∧ wx = w)
  case atStart => exact ⟨0, 1059, T, Nat.zero_le _, rfl, by go_num, rfl, by omega, by omega, by omega, by omega, by rw [Nat.pow_zero, Nat.mul_one], rfl⟩
  case round =>
    obtain ⟨k, x, u, hk, g2, rfl, rfl, hx, hx1, hx2, hu1, hu, rfl⟩ := hrel
    have G2 := Lib.hid g2
    have HX2 := Lib.hid hx
    have HU := Lib.hid hu
    by_cases hlt : k < p
    · have t0 : decide ((u : Int) < 4503599627370496) = true := dl_t (by have := HP.out k hlt; rw [← hu] at this; omega)
      clear g2 hu hx
      go_wp2_with fail
      go_roundg (p - (k + 1))
      case measure => rw [G2.out]; omega
      case rel => exact ⟨k + 1, x - 1, 2 * u, hlt, rfl, by go_num, by go_num, by have := HX2.out; omega, by omega, by have := HX2.out; have := HQ.out; omega, by have := of_decide_eq_true t0; omega, by rw [HU.out, Nat.pow_succ]; rw [Nat.mul_comm (2 ^ k) 2, ← Nat.mul_assoc, ← Nat.mul_assoc, Nat.mul_comm 2 T], rfl⟩
    · have hkp : k = p := by omega
      have t0 : decide ((u : Int) < 4503599627370496) = false := dl_f (by have := HL.out; rw [← hkp, ← hu] at this; omega)
      have hxp : x = 1059 - p := by omega
      have HKP := Lib.hid hkp
      have HXP := Lib.hid hxp
      clear g2 hu hx hkp hxp
      go_wp2_with fail
      go_ret
      refine ⟨ret_int' ?_, rfl⟩
      rw [HZ.out, HXP.out, HU.out, HKP.out]
      exact end_n p _ HQ.out HL.out HL2.out
theorem ref_ToBits (a : Int) (hl : lim a = a) (w : World) : Calls Try.prog 33 #[.int .i64 a] w fun e w' => e = .returned (.int .u64 (wordF a : Nat)) ∧ w = w' := by
  by_cases h0 : a = 0
  · subst h0; exact ref_ToBits0 w
  · have hb : a.natAbs ≤ 1099511627776 := by have := lim_bd a; omega
    obtain ⟨k1, k2, k3, k4⟩ := up_bd a.natAbs (by omega) hb
    unfold wordF
    rw [if_neg h0]
    by_cases hn : a < 0
    · rw [if_pos (decide_eq_true hn)]
      have hT : a = -((a.natAbs : Nat) : Int) := by omega
      have h3 : 0 < a.natAbs := by omega
      generalize a.natAbs = T at *
      subst hT
      exact ref_ToBits_n _ T (upB T) rfl h3 hb k1 k2 k3 k4 w
    · rw [if_neg (by simpa using hn)]
      have hT : a = ((a.natAbs : Nat) : Int) := by omega
      have h3 : 0 < a.natAbs := by omega
      rw [Nat.zero_add]
      generalize a.natAbs = T at *
      subst hT
      exact ref_ToBits_p _ T (upB T) rfl h3 hb k1 k2 k3 k4 w
end Go.Proofs.Ytehpfkmaikbjkaa
