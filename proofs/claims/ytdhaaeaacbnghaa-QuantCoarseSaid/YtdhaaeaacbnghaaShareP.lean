/- A share, rounded half up, and how it is found bit by bit (plain). -/
import Derived.WalkKit
namespace Go.ShareP
/-- a times b through c, rounded half up. -/
def rhu (a b c : Int) : Int := (2 * (a * b) + c) / (2 * c)
theorem rhu_eq (a b c o r : Int) (hc : 0 < c) (h : o * c + r = a * b) (h0 : 0 ≤ r) (h1 : r < c) : rhu a b c = if c ≤ 2 * r then o + 1 else o := by
  unfold rhu
  have e : 2 * (a * b) + c = o * (2 * c) + (2 * r + c) := by
    rw [← h, Int.mul_add, Int.mul_left_comm]; omega
  rw [e, Int.add_comm, Int.add_mul_ediv_right _ _ (by omega)]
  by_cases q : c ≤ 2 * r
  · rw [if_pos q]
    have : (2 * r + c) / (2 * c) = 1 := by
      apply Int.le_antisymm
      · have : (2 * r + c) / (2 * c) < 2 := by rw [Int.ediv_lt_iff_lt_mul (by omega)]; omega
        omega
      · rw [Int.le_ediv_iff_mul_le (by omega)]; omega
    omega
  · rw [if_neg q]
    have : (2 * r + c) / (2 * c) = 0 := Int.ediv_eq_zero_of_lt (by omega) (by omega)
    omega
theorem rhu_most (a b c r : Int) (hc : 0 < c) (hab : 0 ≤ a * b) (hu : a * b ≤ b * c) (r0 : 0 ≤ r) (r1 : r ≤ b) (h1 : r = 0 ∨ max (2 * r - 1) 0 * c ≤ 2 * (a * b)) (h2 : b < r + 1 ∨ ¬ max (2 * (r + 1) - 1) 0 * c ≤ 2 * (a * b)) : r = rhu a b c := by
  unfold rhu
  apply Int.le_antisymm
  · rw [Int.le_ediv_iff_mul_le (by omega)]
    have e : r * (2 * c) = 2 * r * c := by rw [Int.mul_comm 2 r, Int.mul_assoc]
    rcases h1 with h1 | h1
    · subst h1; rw [e]; omega
    · by_cases q : r = 0
      · subst q; rw [e]; omega
      · rw [show max (2 * r - 1) 0 = 2 * r - 1 by omega, Int.sub_mul] at h1
        omega
  · have : (2 * (a * b) + c) / (2 * c) < r + 1 := by
      rw [Int.ediv_lt_iff_lt_mul (by omega)]
      have e : (r + 1) * (2 * c) = 2 * (r + 1) * c := by rw [Int.mul_comm 2 (r + 1), Int.mul_assoc]
      rw [e]
      rcases h2 with h2 | h2
      · have h3 : 2 * ((r + 1) * c) ≥ 2 * ((b + 1) * c) := by
          have := Int.mul_le_mul_of_nonneg_right (show b + 1 ≤ r + 1 by omega) (show 0 ≤ c by omega)
          omega
        have e2 : 2 * (r + 1) * c = 2 * ((r + 1) * c) := Int.mul_assoc _ _ _
        have e3 : (b + 1) * c = b * c + c := by rw [Int.add_mul, Int.one_mul]
        omega
      · rw [show max (2 * (r + 1) - 1) 0 = 2 * (r + 1) - 1 by omega, Int.sub_mul] at h2
        omega
    omega
/-- One bit more. -/
theorem step (a c o r B : Int) (bit : Int) (ha0 : 0 ≤ a) (hac : a ≤ c) (hb : bit = 0 ∨ bit = 1) (h : o * c + r = a * B) (h0 : 0 ≤ r) (h1 : r < c) :
    let o1 := if c ≤ 2 * r then 2 * o + 1 else 2 * o
    let r1 := if c ≤ 2 * r then 2 * r - c else 2 * r
    let r2 := if bit = 1 then r1 + a else r1
    let o3 := if c ≤ r2 then o1 + 1 else o1
    let r3 := if c ≤ r2 then r2 - c else r2
    o1 * c + r1 = a * (2 * B) ∧ 0 ≤ r1 ∧ r1 < c ∧ o3 * c + r3 = a * (2 * B + bit) ∧ 0 ≤ r3 ∧ r3 < c := by
  have e0 : a * (2 * B) = 2 * (a * B) := by rw [Int.mul_left_comm]
  have e1 : (2 * o + 1) * c = 2 * (o * c) + c := by rw [Int.add_mul, Int.mul_assoc, Int.one_mul]
  have e2 : 2 * o * c = 2 * (o * c) := Int.mul_assoc _ _ _
  have e3 : a * (2 * B + 0) = 2 * (a * B) := by rw [Int.add_zero, Int.mul_left_comm]
  have e4 : a * (2 * B + 1) = 2 * (a * B) + a := by rw [Int.mul_add, Int.mul_left_comm, Int.mul_one]
  have e5 : (2 * o + 1 + 1) * c = 2 * (o * c) + c + c := by rw [Int.add_mul, e1, Int.one_mul]
  rcases hb with rfl | rfl
  · show ((if c ≤ 2 * r then 2 * o + 1 else 2 * o) * c + (if c ≤ 2 * r then 2 * r - c else 2 * r) = a * (2 * B)) ∧ 0 ≤ (if c ≤ 2 * r then 2 * r - c else 2 * r) ∧ (if c ≤ 2 * r then 2 * r - c else 2 * r) < c ∧
      ((if c ≤ (if c ≤ 2 * r then 2 * r - c else 2 * r) then (if c ≤ 2 * r then 2 * o + 1 else 2 * o) + 1 else (if c ≤ 2 * r then 2 * o + 1 else 2 * o)) * c + (if c ≤ (if c ≤ 2 * r then 2 * r - c else 2 * r) then (if c ≤ 2 * r then 2 * r - c else 2 * r) - c else (if c ≤ 2 * r then 2 * r - c else 2 * r)) = a * (2 * B + 0)) ∧
      0 ≤ (if c ≤ (if c ≤ 2 * r then 2 * r - c else 2 * r) then (if c ≤ 2 * r then 2 * r - c else 2 * r) - c else (if c ≤ 2 * r then 2 * r - c else 2 * r)) ∧ (if c ≤ (if c ≤ 2 * r then 2 * r - c else 2 * r) then (if c ≤ 2 * r then 2 * r - c else 2 * r) - c else (if c ≤ 2 * r then 2 * r - c else 2 * r)) < c
    by_cases q1 : c ≤ 2 * r
    · rw [if_pos q1, if_pos q1, if_neg (show ¬ c ≤ 2 * r - c by omega), if_neg (show ¬ c ≤ 2 * r - c by omega), e0, e1, e3]; omega
    · rw [if_neg q1, if_neg q1, if_neg q1, if_neg q1, e0, e2, e3]; omega
  · show ((if c ≤ 2 * r then 2 * o + 1 else 2 * o) * c + (if c ≤ 2 * r then 2 * r - c else 2 * r) = a * (2 * B)) ∧ 0 ≤ (if c ≤ 2 * r then 2 * r - c else 2 * r) ∧ (if c ≤ 2 * r then 2 * r - c else 2 * r) < c ∧
      ((if c ≤ (if c ≤ 2 * r then 2 * r - c else 2 * r) + a then (if c ≤ 2 * r then 2 * o + 1 else 2 * o) + 1 else (if c ≤ 2 * r then 2 * o + 1 else 2 * o)) * c + (if c ≤ (if c ≤ 2 * r then 2 * r - c else 2 * r) + a then (if c ≤ 2 * r then 2 * r - c else 2 * r) + a - c else (if c ≤ 2 * r then 2 * r - c else 2 * r) + a) = a * (2 * B + 1)) ∧
      0 ≤ (if c ≤ (if c ≤ 2 * r then 2 * r - c else 2 * r) + a then (if c ≤ 2 * r then 2 * r - c else 2 * r) + a - c else (if c ≤ 2 * r then 2 * r - c else 2 * r) + a) ∧ (if c ≤ (if c ≤ 2 * r then 2 * r - c else 2 * r) + a then (if c ≤ 2 * r then 2 * r - c else 2 * r) + a - c else (if c ≤ 2 * r then 2 * r - c else 2 * r) + a) < c
    by_cases q1 : c ≤ 2 * r
    · rw [if_pos q1, if_pos q1]
      by_cases q2 : c ≤ 2 * r - c + a
      · rw [if_pos q2, if_pos q2, e0, e1, e4, e5]; omega
      · rw [if_neg q2, if_neg q2, e0, e1, e4]; omega
    · rw [if_neg q1, if_neg q1]
      by_cases q2 : c ≤ 2 * r + a
      · rw [if_pos q2, if_pos q2, e0, e1, e2, e4]; omega
      · rw [if_neg q2, if_neg q2, e0, e2, e4]; omega
theorem quo_le (a c o r X : Int) (hc : 0 < c) (hac : a ≤ c) (hX : 0 ≤ X) (h : o * c + r = a * X) (h0 : 0 ≤ r) : o ≤ X := by
  have h1 : a * X ≤ c * X := Int.mul_le_mul_of_nonneg_right hac hX
  have h2 : o * c ≤ X * c := by rw [Int.mul_comm X c]; omega
  exact Int.le_of_mul_le_mul_right h2 hc
theorem rhu_bd (a b c : Int) (ha : 0 ≤ a) (hac : a ≤ c) (hc : 0 < c) (hb : 0 ≤ b) : 0 ≤ rhu a b c ∧ rhu a b c ≤ b := by
  have h0 : 0 ≤ a * b := Int.mul_nonneg ha hb
  have h1 : a * b ≤ c * b := Int.mul_le_mul_of_nonneg_right hac hb
  constructor
  · exact Int.ediv_nonneg (by omega) (by omega)
  · unfold rhu
    have : (2 * (a * b) + c) / (2 * c) < b + 1 := by
      rw [Int.ediv_lt_iff_lt_mul (by omega), Int.add_mul, Int.mul_comm b, Int.mul_assoc]
      omega
    omega
end Go.ShareP
