/- kind.High, Near; ref Top, Nearest. -/
import Derived.Test.YtfckbkhnelgjbaaFieldW
import Derived.BigQuiet
import Derived.Deep.QuietTactic
import Derived.Lib.MinMax
import Derived.Deep.RegionHeld3
import Derived.Test.YtfckbkhnelgjbaaMem
import Derived.Test.YtfckbkhnelgjbaaKeep
namespace Go.Proofs.Ytfckbkhnelgjbaa
open Go.ChangeShapes Go.WideShapes Go.ChangeAt Go.RowKit Go.Nm Go.Mem
set_option linter.unusedVariables false
theorem pow_bd (n : Nat) (h : n ≤ 32) : 1 ≤ (2 : Int) ^ n ∧ (2 : Int) ^ n ≤ 4294967296 := by
  have h1 : 1 ≤ 2 ^ n := Nat.one_le_two_pow
  have h2 : 2 ^ n ≤ 2 ^ 32 := Nat.pow_le_pow_right (by decide) h
  have e : (2 : Int) ^ n = ((2 ^ n : Nat) : Int) := by simp
  rw [e]
  have e2 : (2 : Nat) ^ 32 = 4294967296 := rfl
  omega
theorem pow_in (n : Nat) (h : n ≤ 32) : wrap64 ((2 : Int) ^ n) = 2 ^ n := by
  have := pow_bd n h
  exact IntWalk.wrap64_in _ ⟨by omega, by omega⟩
set_option maxHeartbeats 1000000 in
theorem High_ok (s : ByteArray) (n : Nat) (l : Int) (hs : s.size ≤ 9223372036854775807) (hf : fieldB s n l = true) (h1 : 1 ≤ n) (h2 : n ≤ 32) (h3 : -4294967296 ≤ l) (h4 : l ≤ 4294967296) (w : World) : Calls Try.prog 129 #[.agg #[.string s, .int .i64 n, .int .i64 l]] w fun e w' => e = .returned (.int .i64 (l + (2 ^ n - 1))) ∧ Below w.heap.size w w' := by
  have C := fun W => kind_field s n l hs W
  rw [hf] at C
  have C := Lib.hid C
  clear hf hs
  go_enter Try.func129, Try.ntmps129
  go_wp2_with fail
  refine (C.out _).mono ?_
  rintro e w1 ⟨rfl, hb1⟩
  have c1 : w1.cell? ⟨w.heap.size, 1, none⟩ = some (.int .i64 n) := by rw [hb1.cell (p := ⟨w.heap.size, 1, none⟩) (by simp)]; simp
  have c2 : w1.cell? ⟨w.heap.size, 2, none⟩ = some (.int .i64 l) := by rw [hb1.cell (p := ⟨w.heap.size, 2, none⟩) (by simp)]; simp
  go_wp2_with fail
  go_quiet (fail)
  go_wp2_with fail
  go_ret
  refine ⟨?_, below_drewN (((Below.refl w.heap.size w).alloc (Nat.le_refl _) (.cells #[.string s, .int .i64 n, .int .i64 l] 99)).trans (hb1.mono (by simp))) _⟩
  rw [pow_in n h2]
  obtain ⟨P, hP⟩ : ∃ P : Int, P = 2 ^ n := ⟨_, rfl⟩
  have hb := pow_bd n h2
  rw [← hP] at hb ⊢
  show Ending.returned (.int .i64 (wrap64 (l + wrap64 (P - 1)))) = _
  rw [IntWalk.wrap64_in (P - 1) ⟨by omega, by omega⟩, IntWalk.wrap64_in _ ⟨by omega, by omega⟩]
set_option maxHeartbeats 1000000 in
theorem High_bad (s : ByteArray) (b l : Int) (hs : s.size ≤ 9223372036854775807) (hf : fieldB s b l = false) (w : World) : Calls Try.prog 129 #[.agg #[.string s, .int .i64 b, .int .i64 l]] w fun e w' => e = .returned (.int .i64 0) ∧ Below w.heap.size w w' := by
  have C := fun W => kind_field s b l hs W
  rw [hf] at C
  have C := Lib.hid C
  clear hf hs
  go_enter Try.func129, Try.ntmps129
  go_wp2_with fail
  refine (C.out _).mono ?_
  rintro e w1 ⟨rfl, hb1⟩
  go_wp2_with fail
  go_ret
  exact ⟨rfl, (((Below.refl w.heap.size w).alloc (Nat.le_refl _) (.cells #[.string s, .int .i64 b, .int .i64 l] 99)).trans (hb1.mono (by simp)))⟩
set_option maxHeartbeats 1000000 in
theorem Near_bad (s : ByteArray) (b l v : Int) (hs : s.size ≤ 9223372036854775807) (hf : fieldB s b l = false) (w : World) : Calls Try.prog 124 #[.agg #[.string s, .int .i64 b, .int .i64 l], .int .i64 v] w fun e w' => e = .returned (.int .i64 0) ∧ Below w.heap.size w w' := by
  have C := fun W => kind_field s b l hs W
  rw [hf] at C
  have C := Lib.hid C
  clear hf hs
  go_enter Try.func124, Try.ntmps124
  go_wp2_with fail
  refine (C.out _).mono ?_
  rintro e w1 ⟨rfl, hb1⟩
  go_wp2_with fail
  go_ret
  exact ⟨rfl, (((Below.refl w.heap.size w).alloc (Nat.le_refl _) (.cells #[.string s, .int .i64 b, .int .i64 l] 99)).trans (hb1.mono (by simp)))⟩
def topF (n : Nat) (l : Int) : Int := l + (2 ^ n - 1)
def nearF (n : Nat) (l v : Int) : Int := max l (min v (topF n l))
set_option maxHeartbeats 2000000 in
theorem Near_ok (s : ByteArray) (n : Nat) (l v : Int) (hs : s.size ≤ 9223372036854775807) (hf : fieldB s n l = true) (h1 : 1 ≤ n) (h2 : n ≤ 32) (h3 : -4294967296 ≤ l) (h4 : l ≤ 4294967296) (w : World) : Calls Try.prog 124 #[.agg #[.string s, .int .i64 n, .int .i64 l], .int .i64 v] w fun e w' => e = .returned (.int .i64 (nearF n l v)) ∧ Below w.heap.size w w' := by
  have C := fun W => kind_field s n l hs W
  rw [hf] at C
  have C := Lib.hid C
  obtain ⟨T, hT⟩ : ∃ T, T = topF n l := ⟨_, rfl⟩
  have D := fun W => High_ok s n l hs hf h1 h2 h3 h4 W
  have hd : l + (2 ^ n - 1) = T := hT.symm
  rw [hd] at D
  have D := Lib.hid D
  unfold nearF
  rw [← hT]
  clear hf hs hd hT
  go_enter Try.func124, Try.ntmps124
  go_wp2_with fail
  refine (C.out _).mono ?_
  rintro e w1 ⟨rfl, hb1⟩
  have c0 : w1.cell? ⟨w.heap.size, 0, none⟩ = some (.string s) := by rw [hb1.cell (p := ⟨w.heap.size, 0, none⟩) (by simp)]; simp
  have c1 : w1.cell? ⟨w.heap.size, 1, none⟩ = some (.int .i64 n) := by rw [hb1.cell (p := ⟨w.heap.size, 1, none⟩) (by simp)]; simp
  have c2 : w1.cell? ⟨w.heap.size, 2, none⟩ = some (.int .i64 l) := by rw [hb1.cell (p := ⟨w.heap.size, 2, none⟩) (by simp)]; simp
  have hb : Below w.heap.size w w1 := ((Below.refl w.heap.size w).alloc (Nat.le_refl _) (.cells #[.string s, .int .i64 n, .int .i64 l] 99)).trans (hb1.mono (by simp))
  go_wp2_with fail
  go_region_held3 (fun w' => w'.cell? ⟨w.heap.size, 0, none⟩ = some (.string s) ∧ w'.cell? ⟨w.heap.size, 1, none⟩ = some (.int .i64 n) ∧ w'.cell? ⟨w.heap.size, 2, none⟩ = some (.int .i64 l) ∧ Below w.heap.size w w')
    (first | exact ⟨c0, c1, c2, hb.drew⟩ | assumption | exact keep3 (by assumption) (by assumption) (Nat.le_refl _))
    ((go_at_call 129; refine (D.out _).mono ?_; rintro e w8 ⟨rfl, hb8⟩))
  go_wp2
  go_ret
  exact ⟨rfl, lastk3 (by assumption)⟩
end Go.Proofs.Ytfckbkhnelgjbaa
