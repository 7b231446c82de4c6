/- The law BorderTells. -/
import Derived.Test.YtehpfkmaikbjkaaBorderT
import Derived.Test.YtehpfkmaikbjkaaMem
namespace Go.Proofs.Ytehpfkmaikbjkaa
open Go.ChangeShapes Go.WideShapes Go.ChangeAt Go.RowKit Go.Mem
set_option linter.unusedVariables false
theorem begun_num : numF 4609434218613702656 = 98304 := by decide +kernel
theorem begun_err : errF 4609434218613702656 = 0 := by decide +kernel
theorem From_begun (w : World) : Calls Try.prog 30 #[.int .u64 4609434218613702656] w fun e w' => e = .returned (.tuple #[.int .i64 98304, .int .i64 0]) ∧ w = w' := by
  have := From_any 4609434218613702656 (by decide) w
  rw [begun_num, begun_err] at this
  exact this
set_option maxHeartbeats 4000000 in
theorem walk_BorderTells (b : Nat) (hb : b < 18446744073709551616) (a : Int) (w : World) : Calls Try.prog 8 #[.int .u64 b, .int .i64 a] w fun e w' => e = .returned (.bool true) ∧ w = w' := by
  have HB := Lib.hid hb
  obtain ⟨n, hn⟩ : ∃ n, n = numF b := ⟨_, rfl⟩
  obtain ⟨f, hf⟩ : ∃ f, f = errF b := ⟨_, rfl⟩
  have F1 := fun W => From_any b hb W
  have F2 := fun W => ref_FromBits b hb W
  rw [← hn, ← hf] at F1 F2
  have F1 := Lib.hid F1
  have F2 := Lib.hid F2
  clear hn hf hb
  by_cases hl : lim a = a
  · have T1 := fun W => To_ok a hl W
    have T2 := fun W => ref_ToBits a hl W
    have T3 := fun W => ref_Limit a W
    rw [hl] at T3
    obtain ⟨z, hz⟩ : ∃ z : Int, z = ((wordF a : Nat) : Int) := ⟨_, rfl⟩
    rw [← hz] at T1 T2
    have T1 := Lib.hid T1
    have T2 := Lib.hid T2
    have T3 := Lib.hid T3
    clear hz hl
    go_enter Try.func8, Try.ntmps8
    go_wp2_with fail
    refine (From_begun _).mono ?_
    rintro e w1 ⟨rfl, rfl⟩
    go_wp2_with (first
      | (go_at_call 30; (with_reducible refine (F1.out _).mono ?_); rintro e w1 ⟨rfl, rfl⟩)
      | (go_at_call 31; (with_reducible refine (F2.out _).mono ?_); rintro e w1 ⟨rfl, rfl⟩)
      | (go_at_call 32; (with_reducible refine (T1.out _).mono ?_); rintro e w1 ⟨rfl, rfl⟩)
      | (go_at_call 27; (with_reducible refine (T3.out _).mono ?_); rintro e w1 ⟨rfl, rfl⟩)
      | (go_at_call 33; (with_reducible refine (T2.out _).mono ?_); rintro e w1 ⟨rfl, rfl⟩))
    go_ret
    exact ⟨rfl, rfl⟩
  · have hx : (a != lim a) = true := by rw [bne_iff_ne]; exact fun h => hl h.symm
    have T1 := fun W => To_large a (by rw [bne_iff_ne]; exact hl) W
    obtain ⟨m, hm⟩ : ∃ m, m = lim a := ⟨_, rfl⟩
    have T3 := fun W => ref_Limit a W
    rw [← hm] at T3 hx
    have T1 := Lib.hid T1
    have T3 := Lib.hid T3
    clear hm hl
    go_enter Try.func8, Try.ntmps8
    go_wp2_with fail
    refine (From_begun _).mono ?_
    rintro e w1 ⟨rfl, rfl⟩
    go_wp2_with (first
      | (go_at_call 30; (with_reducible refine (F1.out _).mono ?_); rintro e w1 ⟨rfl, rfl⟩)
      | (go_at_call 31; (with_reducible refine (F2.out _).mono ?_); rintro e w1 ⟨rfl, rfl⟩)
      | (go_at_call 32; (with_reducible refine (T1.out _).mono ?_); rintro e w1 ⟨rfl, rfl⟩)
      | (go_at_call 27; (with_reducible refine (T3.out _).mono ?_); rintro e w1 ⟨rfl, rfl⟩))
    go_ret
    exact ⟨rfl, rfl⟩
theorem law_BorderTells (b a : Int) (hb : (Lit.int .u64 b).wf = true) (w : World) : Calls Try.prog 8 #[.int .u64 b, .int .i64 a] w fun e w' => e = .returned (.bool true) ∧ Below w.heap.size w w' := by
  have hb2 : 0 ≤ b ∧ b < 18446744073709551616 := by
    have h1 : IntKind.u64.min ≤ b ∧ b ≤ IntKind.u64.max := by simpa [Lit.wf] using hb
    have : IntKind.u64.min = 0 := by decide
    have : IntKind.u64.max = 18446744073709551615 := by decide
    omega
  obtain ⟨n, rfl⟩ := Int.eq_ofNat_of_zero_le hb2.1
  refine (walk_BorderTells n (by omega) a w).mono ?_
  rintro e w' ⟨rfl, rfl⟩
  exact ⟨rfl, Below.refl _ _⟩
end Go.Proofs.Ytehpfkmaikbjkaa
