/- quant.through. -/
import Derived.Test.YtdhaaeaacbnghaaLim
import Derived.Test.YtdhaaeaacbnghaaShareP
import Derived.Test.YtdhaaeaacbnghaaW64
import Derived.Deep.LoopGhost
import Derived.Laws.BitsAllLaws
namespace Go.Proofs.Ytdhaaeaacbnghaa
open Go.ChangeShapes Go.WideShapes Go.ChangeAt Go.RowKit
set_option linter.unusedVariables false

set_option maxHeartbeats 4000000 in
theorem quant_through (a b c : Int) (ha : 0 ≤ a) (hac : a ≤ c) (hc : 0 < c) (hc2 : c ≤ 2199023255552) (hb : 0 ≤ b) (hb2 : b ≤ 2199023255552) (w : World) :
    Calls Try.prog 89 #[.int .i64 a, .int .i64 b, .int .i64 c] w fun e w' => e = .returned (.int .i64 (ShareP.rhu a b c)) ∧ w = w' := by
  go_enter Try.func89, Try.ntmps89
  go_wp2
  go_loopg [7, 8, 9] 42 (fun gk vo vr vi wx => ∃ (k : Nat) (o r B : Int), k ≤ 42 ∧ gk = k ∧ vi = .int .i64 ((k : Int) - 1) ∧ vo = .int .i64 o ∧ vr = .int .i64 r ∧ B = b / 2 ^ k ∧ o * c + r = a * B ∧ 0 ≤ r ∧ r < c ∧ 0 ≤ o ∧ o ≤ B ∧ w = wx)
  case atStart =>
    have h0 : b / 2 ^ 42 = 0 := Int.ediv_eq_zero_of_lt hb (by omega)
    exact ⟨42, 0, 0, 0, by omega, rfl, rfl, rfl, rfl, h0.symm, by simp, by omega, hc, by omega, by omega, rfl⟩
  case round =>
    obtain ⟨k, o, r, B, h1, h2, rfl, rfl, rfl, hB, hI, h0, h3, h4, h5, rfl⟩ := hrel
    have H2 := Lib.hid h2
    have HB := Lib.hid hB
    have HI := Lib.hid hI
    clear h2 hB hI
    rcases k with _ | k
    · have hBb : B = b := by rw [HB.out, Int.pow_zero, Int.ediv_one]
      have hfin : ShareP.rhu a b c = if c ≤ 2 * r then o + 1 else o := ShareP.rhu_eq a b c o r hc (by rw [HI.out, hBb]) h0 h3
      have e1 : ((0 : Nat) : Int) - 1 = -1 := rfl
      rw [e1]
      by_cases q : c ≤ 2 * r
      · rw [if_pos q] at hfin
        have HF := Lib.hid hfin
        clear hfin
        subst hBb
        clear HB HI H2 e1
        go_wp2
        go_ret
        exact ⟨by rw [HF.out]; rfl, rfl⟩
      · rw [if_neg q] at hfin
        have HF := Lib.hid hfin
        clear hfin
        subst hBb
        clear HB HI H2 e1
        go_wp2
        go_ret
        exact ⟨by rw [HF.out]; rfl, rfl⟩
    · obtain ⟨X, hX⟩ : ∃ X, X = b / 2 ^ k := ⟨_, rfl⟩
      have hp : (0 : Int) ≤ 2 ^ k := Int.le_of_lt (Int.pow_pos (by omega))
      have hXB : X = 2 * B + X % 2 := by
        rw [HB.out, hX, Int.pow_succ, ← Int.ediv_ediv_of_nonneg hp]
        omega
      have hX0 : 0 ≤ X := by rw [hX]; exact Int.ediv_nonneg hb hp
      have hX1 : X ≤ b := by rw [hX]; exact Int.ediv_le_self _ hb
      have e1 : ((k + 1 : Nat) : Int) - 1 = k := by omega
      rw [e1]
      have hBb : B ≤ b := by omega
      have hB0 : 0 ≤ B := by omega
      have hbit := W64.i64_and_one X hX0 (by omega)
      have hst := fun bit hb => ShareP.step a c o r B bit ha hac hb HI.out h0 h3
      have eX : b / 2 ^ k = X := hX.symm
      have HST := Lib.hid hst
      have HXB := Lib.hid hXB
      have HEX := Lib.hid hX
      clear hX e1 hst hp
      by_cases q1 : c ≤ 2 * r
      · rcases (show X % 2 = 0 ∨ X % 2 = 1 by omega) with hx | hx
        · rw [hx] at hbit
          have HX2 := Lib.hid hx
          have hs : (2 * o + 1) * c + (2 * r - c) = a * X := by
            have h := HST.out 0 (Or.inl rfl)
            simp only [if_pos q1] at h
            have h2 := h.1
            rw [show X = 2 * B by omega]; exact h2
          have HS := Lib.hid hs
          clear hs hx hXB
          go_wp2
          go_roundg k
          case measure => rw [H2.out]; omega
          case rel => exact ⟨k, 2 * o + 1, 2 * r - c, X, by omega, rfl, rfl, rfl, rfl, HEX.out, HS.out, by omega, by omega, by omega, ShareP.quo_le a c _ _ X hc hac hX0 HS.out (by omega), rfl⟩
        · rw [hx] at hbit
          have HX2 := Lib.hid hx
          by_cases q3 : c ≤ 2 * r - c + a
          · have hs : (2 * o + 1 + 1) * c + (2 * r - c + a - c) = a * X := by
              have h := HST.out 1 (Or.inr rfl)
              simp only [if_pos q1, if_true, if_pos q3] at h
              have h2 := h.2.2.2.1
              rw [show X = 2 * B + 1 by omega]; exact h2
            have HS := Lib.hid hs
            clear hs hx hXB
            go_wp2
            go_roundg k
            case measure => rw [H2.out]; omega
            case rel => exact ⟨k, 2 * o + 1 + 1, 2 * r - c + a - c, X, by omega, rfl, rfl, rfl, rfl, HEX.out, HS.out, by omega, by omega, by omega, ShareP.quo_le a c _ _ X hc hac hX0 HS.out (by omega), rfl⟩
          · have hs : (2 * o + 1) * c + (2 * r - c + a) = a * X := by
              have h := HST.out 1 (Or.inr rfl)
              simp only [if_pos q1, if_true, if_neg q3] at h
              have h2 := h.2.2.2.1
              rw [show X = 2 * B + 1 by omega]; exact h2
            have HS := Lib.hid hs
            clear hs hx hXB
            go_wp2
            go_roundg k
            case measure => rw [H2.out]; omega
            case rel => exact ⟨k, 2 * o + 1, 2 * r - c + a, X, by omega, rfl, rfl, rfl, rfl, HEX.out, HS.out, by omega, by omega, by omega, ShareP.quo_le a c _ _ X hc hac hX0 HS.out (by omega), rfl⟩
      · rcases (show X % 2 = 0 ∨ X % 2 = 1 by omega) with hx | hx
        · rw [hx] at hbit
          have HX2 := Lib.hid hx
          have hs : (2 * o) * c + (2 * r) = a * X := by
            have h := HST.out 0 (Or.inl rfl)
            simp only [if_neg q1] at h
            have h2 := h.1
            rw [show X = 2 * B by omega]; exact h2
          have HS := Lib.hid hs
          clear hs hx hXB
          go_wp2
          go_roundg k
          case measure => rw [H2.out]; omega
          case rel => exact ⟨k, 2 * o, 2 * r, X, by omega, rfl, rfl, rfl, rfl, HEX.out, HS.out, by omega, by omega, by omega, ShareP.quo_le a c _ _ X hc hac hX0 HS.out (by omega), rfl⟩
        · rw [hx] at hbit
          have HX2 := Lib.hid hx
          by_cases q3 : c ≤ 2 * r + a
          · have hs : (2 * o + 1) * c + (2 * r + a - c) = a * X := by
              have h := HST.out 1 (Or.inr rfl)
              simp only [if_neg q1, if_true, if_pos q3] at h
              have h2 := h.2.2.2.1
              rw [show X = 2 * B + 1 by omega]; exact h2
            have HS := Lib.hid hs
            clear hs hx hXB
            go_wp2
            go_roundg k
            case measure => rw [H2.out]; omega
            case rel => exact ⟨k, 2 * o + 1, 2 * r + a - c, X, by omega, rfl, rfl, rfl, rfl, HEX.out, HS.out, by omega, by omega, by omega, ShareP.quo_le a c _ _ X hc hac hX0 HS.out (by omega), rfl⟩
          · have hs : (2 * o) * c + (2 * r + a) = a * X := by
              have h := HST.out 1 (Or.inr rfl)
              simp only [if_neg q1, if_true, if_neg q3] at h
              have h2 := h.2.2.2.1
              rw [show X = 2 * B + 1 by omega]; exact h2
            have HS := Lib.hid hs
            clear hs hx hXB
            go_wp2
            go_roundg k
            case measure => rw [H2.out]; omega
            case rel => exact ⟨k, 2 * o, 2 * r + a, X, by omega, rfl, rfl, rfl, rfl, HEX.out, HS.out, by omega, by omega, by omega, ShareP.quo_le a c _ _ X hc hac hX0 HS.out (by omega), rfl⟩
end Go.Proofs.Ytdhaaeaacbnghaa
