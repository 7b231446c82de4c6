/- border.From, border.To and their references, joined: each returns numF, errF, wordF. -/
import Derived.Test.YtehpfkmaikbjkaaBorderR
namespace Go.Proofs.Ytehpfkmaikbjkaa
open Go.ChangeShapes Go.WideShapes Go.ChangeAt Go.RowKit Go.Fl
set_option linter.unusedVariables false
def largeB (b : Nat) : Bool := decide (1047 < xp b) || (xp b == 1047) && decide (4503599627370496 < mm b)
def numF (b : Nat) : Int := if ex b = 2047 then 0 else if largeB b = true then 0 else if mm b = 0 then 0 else if mm b % 2 ^ (1059 - xp b) = 0 then val b else 0
def errF (b : Nat) : Int := if ex b = 2047 then 3 else if largeB b = true then 2 else if mm b = 0 then (if sg b then 3 else 0) else if mm b % 2 ^ (1059 - xp b) = 0 then 0 else 3
theorem zero_cases {b : Nat} (hb : b < 18446744073709551616) (hm : mm b = 0) : b = 0 ∨ b = 9223372036854775808 := by
  by_cases h0 : ex b = 0
  · unfold mm at hm; rw [if_pos h0] at hm
    unfold ex at h0; unfold fr at hm
    omega
  · have := mm_big h0; omega
theorem From_any (b : Nat) (hb : b < 18446744073709551616) (w : World) : Calls Try.prog 30 #[.int .u64 b] w fun e w' => e = .returned (.tuple #[.int .i64 (numF b), .int .i64 (errF b)]) ∧ w = w' := by
  by_cases h1 : ex b = 2047
  · rw [show numF b = 0 by unfold numF; rw [if_pos h1], show errF b = 3 by unfold errF; rw [if_pos h1]]
    exact From_top b hb h1 w
  · by_cases h2 : largeB b = true
    · rw [show numF b = 0 by unfold numF; rw [if_neg h1, if_pos h2], show errF b = 2 by unfold errF; rw [if_neg h1, if_pos h2]]
      exact From_large b hb h1 h2 w
    · by_cases h3 : mm b = 0
      · rw [show numF b = 0 by unfold numF; rw [if_neg h1, if_neg h2, if_pos h3], show errF b = if sg b then 3 else 0 by unfold errF; rw [if_neg h1, if_neg h2, if_pos h3]]
        rcases zero_cases hb h3 with rfl | rfl
        · exact From_zero w
        · exact From_neg0 w
      · have h2' : largeB b = false := by simpa using h2
        by_cases h5 : b = 9223372036854775808
        · subst h5; exact absurd (by decide) h3
        · refine (From_num b hb h1 h2' (by omega) h5 w).mono ?_
          rintro e w' ⟨rfl, rfl⟩
          refine ⟨?_, rfl⟩
          unfold numF errF
          rw [if_neg h1, if_neg h1, if_neg h2, if_neg h2, if_neg h3, if_neg h3]
          by_cases h4 : mm b % 2 ^ (1059 - xp b) = 0
          · rw [if_pos h4, if_pos h4, if_pos h4]
          · rw [if_neg h4, if_neg h4, if_neg h4]
theorem sg_eq (b : Nat) (hb : b < 18446744073709551616) : ((b : Int) / 9223372036854775808 == 1) = sg b := by
  unfold sg
  rw [Bool.eq_iff_iff, beq_iff_eq, beq_iff_eq]; omega
theorem ref_FromBits (b : Nat) (hb : b < 18446744073709551616) (w : World) : Calls Try.prog 31 #[.int .u64 b] w fun e w' => e = .returned (.tuple #[.int .i64 (numF b), .int .i64 (errF b)]) ∧ w = w' := by
  by_cases h1 : ex b = 2047
  · rw [show numF b = 0 by unfold numF; rw [if_pos h1], show errF b = 3 by unfold errF; rw [if_pos h1]]
    exact ref_top b hb h1 w
  · obtain ⟨E, F, eE, eF, hE, hF, hc⟩ := fields b h1
    have a1 := and_ex b hb
    have a2 := and_fr b hb
    have s1 := sg_eq b hb
    rw [eE] at a1
    rw [eF] at a2
    have n1 : ((E : Int) == 2047) = false := eq_f (by omega)
    have hR1 : ∀ n, 1059 - xp b = n → mm b ≠ 0 → largeB b = false → mm b % 2 ^ n = 0 → (Value.tuple #[.int .i64 (numF b), .int .i64 (errF b)]) = .tuple #[.int .i64 (if sg b then -((mm b / 2 ^ n : Nat) : Int) else ((mm b / 2 ^ n : Nat) : Int)), .int .i64 0] := by
      rintro n rfl h3 h2 h4
      have h2 : ¬ largeB b = true := by rw [h2]; decide
      unfold numF errF val
      simp only [if_neg h1, if_neg h2, if_neg h3, if_pos h4]
    have hR2 : ∀ n, 1059 - xp b = n → mm b ≠ 0 → largeB b = false → mm b % 2 ^ n ≠ 0 → (Value.tuple #[.int .i64 (numF b), .int .i64 (errF b)]) = .tuple #[.int .i64 0, .int .i64 3] := by
      rintro n rfl h3 h2 h4
      have h2 : ¬ largeB b = true := by rw [h2]; decide
      unfold numF errF
      simp only [if_neg h1, if_neg h2, if_neg h3, if_neg h4]
    rcases hc with ⟨h0, hx, hm⟩ | ⟨h0, hx, hm⟩
    · have h2 : largeB b = false := by unfold largeB; rw [hx]; rfl
      rw [h0] at a1
      by_cases h3 : mm b = 0
      · rw [show numF b = 0 by unfold numF; rw [if_neg h1, if_neg (by rw [h2]; decide), if_pos h3], show errF b = if sg b then 3 else 0 by unfold errF; rw [if_neg h1, if_neg (by rw [h2]; decide), if_pos h3]]
        have f0 : ((F : Int) == 0) = true := eq_t (by omega)
        cases hs : sg b
        · rw [hs] at s1; exact ref_zero0 b F a1 a2 hF f0 s1 w
        · rw [hs] at s1; exact ref_zero1 b F a1 a2 hF f0 s1 w
      · exact ref_num_a b F (mm b) 1058 a1 a2 hF hm (by omega) rfl (eq_f (by omega)) (sg b) s1 _ (hR1 1058 (by rw [hx]) h3 h2) (hR2 1058 (by rw [hx]) h3 h2) w
    · have h3 : mm b ≠ 0 := by omega
      have n2 : decide ((0 : Int) < E) = true := dl_t (by omega)
      by_cases hl : 1047 < E
      · have h2 : largeB b = true := by unfold largeB; rw [hx, decide_eq_true hl]; rfl
        rw [show numF b = 0 by unfold numF; rw [if_neg h1, if_pos h2], show errF b = 2 by unfold errF; rw [if_neg h1, if_pos h2]]
        exact ref_large1 b E F a1 a2 n1 n2 hE hF hl w
      · have n3 : decide ((1047 : Int) < E) = false := dl_f (by omega)
        by_cases hq : E = 1047
        · have n4 : ((E : Int) == 1047) = true := eq_t (by omega)
          by_cases hf : F = 0
          · have h2 : largeB b = false := by
              unfold largeB; rw [hx, hm, decide_eq_false hl, decide_eq_false (by omega)]; simp
            rw [hf] at a2
            exact ref_num_c b E (mm b) (1059 - E) a1 a2 n1 n2 hE (by omega) (by omega) (by omega) n4 n3 (sg b) s1 _ (hR1 _ (by rw [hx]) h3 h2) (hR2 _ (by rw [hx]) h3 h2) w
          · have h2 : largeB b = true := by
              unfold largeB; rw [hx, hm, hq, decide_eq_true (show 4503599627370496 < 4503599627370496 + F by omega)]; rfl
            rw [show numF b = 0 by unfold numF; rw [if_neg h1, if_pos h2], show errF b = 2 by unfold errF; rw [if_neg h1, if_pos h2]]
            exact ref_large2 b E F a1 a2 n1 n2 hE hF n4 (by omega) (by omega) w
        · have n4 : ((E : Int) == 1047) = false := eq_f (by omega)
          have h2 : largeB b = false := by
            unfold largeB; rw [hx, decide_eq_false hl, beq_eq_false_iff_ne.2 hq]; rfl
          exact ref_num_b b E F (mm b) (1059 - E) a1 a2 n1 n2 hE hF hm (by omega) (eq_f (by omega)) (by omega) h0 n4 n3 (sg b) s1 _ (hR1 _ (by rw [hx]) h3 h2) (hR2 _ (by rw [hx]) h3 h2) w
/-- the word of a number of units -/
def upB (T : Nat) : Nat := 52 - T.log2
def wordF (a : Int) : Nat := if a = 0 then 0 else (if decide (a < 0) then 9223372036854775808 else 0) + (1058 - upB a.natAbs) * 4503599627370496 + a.natAbs * 2 ^ upB a.natAbs
theorem up_bd (T : Nat) (h0 : 0 < T) (h1 : T ≤ 1099511627776) : 4503599627370496 ≤ T * 2 ^ upB T ∧ T * 2 ^ upB T < 9007199254740992 ∧ upB T ≤ 52 ∧ ∀ k, k < upB T → T * 2 ^ k < 4503599627370496 := by
  obtain ⟨c, hc⟩ : ∃ c, T.log2 = c := ⟨_, rfl⟩
  have c2 : c < 53 := by rw [← hc, Nat.log2_lt (by omega)]; omega
  have l1 : 2 ^ c ≤ T := by rw [← hc]; exact Nat.log2_self_le (by omega)
  have l2 : T < 2 ^ (c + 1) := by rw [← hc]; exact Nat.lt_log2_self
  have e1 : 2 ^ c * 2 ^ (52 - c) = 4503599627370496 := by rw [← Nat.pow_add, show c + (52 - c) = 52 by omega]
  have e2 : 2 ^ (c + 1) * 2 ^ (52 - c) = 9007199254740992 := by rw [← Nat.pow_add, show c + 1 + (52 - c) = 53 by omega]
  unfold upB
  rw [hc]
  refine ⟨by rw [← e1]; exact Nat.mul_le_mul_right _ l1, by rw [← e2]; exact Nat.mul_lt_mul_of_pos_right l2 (Nat.two_pow_pos _), by omega, fun k hk => ?_⟩
  have h3 : T * 2 ^ k < 2 ^ (c + 1) * 2 ^ k := Nat.mul_lt_mul_of_pos_right l2 (Nat.two_pow_pos _)
  have h4 : 2 ^ (c + 1) * 2 ^ k ≤ 4503599627370496 := by
    rw [← Nat.pow_add, show 4503599627370496 = 2 ^ 52 from rfl]
    exact Nat.pow_le_pow_right (by decide) (by omega)
  omega
theorem To_ok (a : Int) (hl : lim a = a) (w : World) : Calls Try.prog 32 #[.int .i64 a] w fun e w' => e = .returned (.tuple #[.int .u64 (wordF a : Nat), .int .i64 0]) ∧ w = w' := by
  by_cases h0 : a = 0
  · subst h0; exact To_zero w
  · have hb : a.natAbs ≤ 1099511627776 := by have := lim_bd a; omega
    obtain ⟨k1, k2, k3, _⟩ := up_bd a.natAbs (by omega) hb
    have := To_num a a.natAbs (upB a.natAbs) rfl hl k1 k2 (by omega) w
    unfold wordF
    rw [if_neg h0]
    exact this
end Go.Proofs.Ytehpfkmaikbjkaa
