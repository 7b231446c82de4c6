/- kind.field, High, Near; ref FieldOK, Top, Nearest. -/
import Derived.Test.YtfckbkhnelgjbaaNameW
namespace Go.Proofs.Ytfckbkhnelgjbaa
open Go.ChangeShapes Go.WideShapes Go.ChangeAt Go.RowKit Go.Nm
set_option linter.unusedVariables false
def fieldB (s : ByteArray) (b l : Int) : Bool := nameB s.data.toList && (decide (1 ≤ b) && (decide (b ≤ 32) && (decide (-4294967296 ≤ l) && decide (l ≤ 4294967296))))
theorem field_cases (s : ByteArray) (b l : Int) : (fieldB s b l = true ∧ nameB s.data.toList = true ∧ 1 ≤ b ∧ b ≤ 32 ∧ -4294967296 ≤ l ∧ l ≤ 4294967296) ∨
    (fieldB s b l = false ∧ (nameB s.data.toList = false ∨ (nameB s.data.toList = true ∧ b < 1) ∨ (nameB s.data.toList = true ∧ 1 ≤ b ∧ 32 < b) ∨ (nameB s.data.toList = true ∧ 1 ≤ b ∧ b ≤ 32 ∧ l < -4294967296) ∨ (nameB s.data.toList = true ∧ 1 ≤ b ∧ b ≤ 32 ∧ -4294967296 ≤ l ∧ 4294967296 < l))) := by
  unfold fieldB
  cases nameB s.data.toList
  · right; simp
  · by_cases h1 : 1 ≤ b
    · by_cases h2 : b ≤ 32
      · by_cases h3 : -4294967296 ≤ l
        · by_cases h4 : l ≤ 4294967296
          · left; simp [h1, h2, h3, h4]
          · right; simp [h1, h2, h3, h4]; omega
        · right; simp [h1, h2, h3]; omega
      · right; simp [h1, h2]; omega
    · right; simp [h1]; omega
set_option maxHeartbeats 1000000 in
theorem kind_field (s : ByteArray) (b l : Int) (hs : s.size ≤ 9223372036854775807) (w : World) : Calls Try.prog 120 #[.agg #[.string s, .int .i64 b, .int .i64 l]] w fun e w' => e = .returned (.int .i64 (if fieldB s b l = true then 0 else 3)) ∧ Below w.heap.size w w' := by
  have HS := Lib.hid hs
  clear hs
  rcases field_cases s b l with ⟨hf, hn, h1, h2, h3, h4⟩ | ⟨hf, hn | ⟨hn, h1⟩ | ⟨hn, h1, h2⟩ | ⟨hn, h1, h2, h3⟩ | ⟨hn, h1, h2, h3, h4⟩⟩
  all_goals
    rw [hf]
    have C := fun W => kind_Name s HS.out W
    rw [hn] at C
    have C := Lib.hid C
    clear hf hn
    go_enter Try.func120, Try.ntmps120
    go_wp2_with fail
    refine (C.out _).mono ?_
    rintro e w1 ⟨rfl, rfl⟩
    go_wp2_with fail
    go_ret
    exact ⟨rfl, (Below.refl _ _).alloc (Nat.le_refl _) _⟩
end Go.Proofs.Ytfckbkhnelgjbaa
