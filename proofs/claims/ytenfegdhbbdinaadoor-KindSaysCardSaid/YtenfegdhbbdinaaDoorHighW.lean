/- kind.High, Near; ref Top, Nearest. -/
import Derived.Test.YtenfegdhbbdinaaDoorFieldW
import Derived.BigQuiet
import Derived.Deep.QuietTactic
import Derived.Lib.MinMax
import Derived.Deep.RegionHeld3
import Derived.Test.YtenfegdhbbdinaaDoorMem
import Derived.Test.YtenfegdhbbdinaaDoorKeep
namespace Go.Proofs.YtenfegdhbbdinaaDoor
open Go.ChangeShapes Go.WideShapes Go.ChangeAt Go.RowKit Go.Nm Go.Mem
set_option linter.unusedVariables false
theorem pow_bd (n : Nat) (h : n ≤ 32) : 1 ≤ (2 : Int) ^ n ∧ (2 : Int) ^ n ≤ 4294967296 := by
  have h1 : 1 ≤ 2 ^ n := Nat.one_le_two_pow
  have h2 : 2 ^ n ≤ 2 ^ 32 := Nat.pow_le_pow_right (by decide) h
  have e : (2 : Int) ^ n = ((2 ^ n : Nat) : Int) := by simp
  rw [e]
  have e2 : (2 : Nat) ^ 32 = 4294967296 := rfl
  omega
theorem pow_in (n : Nat) (h : n ≤ 32) : wrap64 ((2 : Int) ^ n) = 2 ^ n := by
  have := pow_bd n h
  exact IntWalk.wrap64_in _ ⟨by omega, by omega⟩
set_option maxHeartbeats 1000000 in
theorem High_ok (s : ByteArray) (n : Nat) (l : Int) (hs : s.size ≤ 9223372036854775807) (hf : fieldB s n l = true) (h1 : 1 ≤ n) (h2 : n ≤ 32) (h3 : -4294967296 ≤ l) (h4 : l ≤ 4294967296) (w : World) : Calls Tryd.prog 59 #[.agg #[.string s, .int .i64 n, .int .i64 l]] w fun e w' => e = .returned (.int .i64 (l + (2 ^ n - 1))) ∧ Below w.heap.size w w' := by
  have C := fun W => kind_field s n l hs W
  rw [hf] at C
  have C := Lib.hid C
  clear hf hs
  go_enter Tryd.func59, Tryd.ntmps59
  go_wp2_with fail
  refine (C.out _).mono ?_
  rintro e w1 ⟨rfl, hb1⟩
  have c1 : w1.cell? ⟨w.heap.size, 1, none⟩ = some (.int .i64 n) := by rw [hb1.cell (p := ⟨w.heap.size, 1, none⟩) (by simp)]; simp
  have c2 : w1.cell? ⟨w.heap.size, 2, none⟩ = some (.int .i64 l) := by rw [hb1.cell (p := ⟨w.heap.size, 2, none⟩) (by simp)]; simp
  go_wp2_with fail
  go_quiet (fail)
  go_wp2_with fail
  go_ret
  refine ⟨?_, below_drewN (((Below.refl w.heap.size w).alloc (Nat.le_refl _) (.cells #[.string s, .int .i64 n, .int .i64 l] 39)).trans (hb1.mono (by simp))) _⟩
  rw [pow_in n h2]
  obtain ⟨P, hP⟩ : ∃ P : Int, P = 2 ^ n := ⟨_, rfl⟩
  have hb := pow_bd n h2
  rw [← hP] at hb ⊢
  show Ending.returned (.int .i64 (wrap64 (l + wrap64 (P - 1)))) = _
  rw [IntWalk.wrap64_in (P - 1) ⟨by omega, by omega⟩, IntWalk.wrap64_in _ ⟨by omega, by omega⟩]
set_option maxHeartbeats 1000000 in
theorem High_bad (s : ByteArray) (b l : Int) (hs : s.size ≤ 9223372036854775807) (hf : fieldB s b l = false) (w : World) : Calls Tryd.prog 59 #[.agg #[.string s, .int .i64 b, .int .i64 l]] w fun e w' => e = .returned (.int .i64 0) ∧ Below w.heap.size w w' := by
  have C := fun W => kind_field s b l hs W
  rw [hf] at C
  have C := Lib.hid C
  clear hf hs
  go_enter Tryd.func59, Tryd.ntmps59
  go_wp2_with fail
  refine (C.out _).mono ?_
  rintro e w1 ⟨rfl, hb1⟩
  go_wp2_with fail
  go_ret
  exact ⟨rfl, (((Below.refl w.heap.size w).alloc (Nat.le_refl _) (.cells #[.string s, .int .i64 b, .int .i64 l] 39)).trans (hb1.mono (by simp)))⟩
set_option maxHeartbeats 1000000 in
theorem Near_bad (s : ByteArray) (b l v : Int) (hs : s.size ≤ 9223372036854775807) (hf : fieldB s b l = false) (w : World) : Calls Tryd.prog 39 #[.agg #[.string s, .int .i64 b, .int .i64 l], .int .i64 v] w fun e w' => e = .returned (.int .i64 0) ∧ Below w.heap.size w w' := by
  have C := fun W => kind_field s b l hs W
  rw [hf] at C
  have C := Lib.hid C
  clear hf hs
  go_enter Tryd.func39, Tryd.ntmps39
  go_wp2_with fail
  refine (C.out _).mono ?_
  rintro e w1 ⟨rfl, hb1⟩
  go_wp2_with fail
  go_ret
  exact ⟨rfl, (((Below.refl w.heap.size w).alloc (Nat.le_refl _) (.cells #[.string s, .int .i64 b, .int .i64 l] 39)).trans (hb1.mono (by simp)))⟩
def topF (n : Nat) (l : Int) : Int := l + (2 ^ n - 1)
def nearF (n : Nat) (l v : Int) : Int := max l (min v (topF n l))
set_option maxHeartbeats 2000000 in
theorem Near_ok (s : ByteArray) (n : Nat) (l v : Int) (hs : s.size ≤ 9223372036854775807) (hf : fieldB s n l = true) (h1 : 1 ≤ n) (h2 : n ≤ 32) (h3 : -4294967296 ≤ l) (h4 : l ≤ 4294967296) (w : World) : Calls Tryd.prog 39 #[.agg #[.string s, .int .i64 n, .int .i64 l], .int .i64 v] w fun e w' => e = .returned (.int .i64 (nearF n l v)) ∧ Below w.heap.size w w' := by
  have C := fun W => kind_field s n l hs W
  rw [hf] at C
  have C := Lib.hid C
  obtain ⟨T, hT⟩ : ∃ T, T = topF n l := ⟨_, rfl⟩
  have D := fun W => High_ok s n l hs hf h1 h2 h3 h4 W
  have hd : l + (2 ^ n - 1) = T := hT.symm
  rw [hd] at D
  have D := Lib.hid D
  unfold nearF
  rw [← hT]
  clear hf hs hd hT
  go_enter Tryd.func39, Tryd.ntmps39
  go_wp2_with fail
  refine (C.out _).mono ?_
  rintro e w1 ⟨rfl, hb1⟩
  have c0 : w1.cell? ⟨w.heap.size, 0, none⟩ = some (.string s) := by rw [hb1.cell (p := ⟨w.heap.size, 0, none⟩) (by simp)]; simp
  have c1 : w1.cell? ⟨w.heap.size, 1, none⟩ = some (.int .i64 n) := by rw [hb1.cell (p := ⟨w.heap.size, 1, none⟩) (by simp)]; simp
  have c2 : w1.cell? ⟨w.heap.size, 2, none⟩ = some (.int .i64 l) := by rw [hb1.cell (p := ⟨w.heap.size, 2, none⟩) (by simp)]; simp
  have hb : Below w.heap.size w w1 := ((Below.refl w.heap.size w).alloc (Nat.le_refl _) (.cells #[.string s, .int .i64 n, .int .i64 l] 39)).trans (hb1.mono (by simp))
  go_wp2_with fail
  go_region_held3 (fun w' => w'.cell? ⟨w.heap.size, 0, none⟩ = some (.string s) ∧ w'.cell? ⟨w.heap.size, 1, none⟩ = some (.int .i64 n) ∧ w'.cell? ⟨w.heap.size, 2, none⟩ = some (.int .i64 l) ∧ Below w.heap.size w w')
    (first | exact ⟨c0, c1, c2, hb.drew⟩ | assumption | exact keep3 (by assumption) (by assumption) (Nat.le_refl _))
    ((go_at_call 59; refine (D.out _).mono ?_; rintro e w8 ⟨rfl, hb8⟩))
  go_wp2
  go_ret
  exact ⟨rfl, lastk3 (by assumption)⟩
set_option maxHeartbeats 1000000 in
theorem ref_Top (s : ByteArray) (n : Nat) (l : Int) (h2 : n ≤ 32) (h3 : -4294967296 ≤ l) (h4 : l ≤ 4294967296) (w : World) : Calls Tryd.prog 60 #[.agg #[.string s, .int .i64 n, .int .i64 l]] w fun e w' => e = .returned (.int .i64 (topF n l)) ∧ w.alloc (.cells #[.string s, .int .i64 n, .int .i64 l] 39) = w' := by
  go_enter Tryd.func60, Tryd.ntmps60
  go_wp2_with fail
  go_loopg [3, 6] n (fun gk v3 vi wx => ∃ (k : Nat) (P : Int), k ≤ n ∧ gk = n - k ∧ vi = .int .i64 k ∧ v3 = .int .i64 P ∧ P = 2 ^ k ∧ 1 ≤ P ∧ P ≤ 4294967296 ∧ wx = w.alloc (.cells #[.string s, .int .i64 n, .int .i64 l] 39))
  case atStart => exact ⟨0, 1, Nat.zero_le _, rfl, rfl, rfl, by simp, by omega, by omega, rfl⟩
  case round =>
    obtain ⟨k, P, hk, g2, rfl, rfl, hP, p1, p2, rfl⟩ := hrel
    have G2 := Lib.hid g2
    have HP := Lib.hid hP
    clear g2 hP
    by_cases hlt : k < n
    · go_wp2_with fail
      go_roundg (n - (k + 1))
      case measure => rw [G2.out]; omega
      case rel =>
        have h5 := pow_bd (k + 1) (by omega)
        have h6 : P * 2 = 2 ^ (k + 1) := by rw [HP.out, Int.pow_succ]
        exact ⟨k + 1, P * 2, hlt, rfl, by go_num, rfl, h6, by omega, by omega, rfl⟩
    · have hke : k = n := by omega
      have HK := Lib.hid hke
      clear hke
      go_wp2_with fail
      go_ret
      refine ⟨?_, rfl⟩
      unfold topF
      rw [← HK.out, ← HP.out]
      show Ending.returned (.int .i64 (l + P - 1)) = _
      rw [Int.add_sub_assoc]
set_option maxHeartbeats 1000000 in
theorem Nearest_bad (s : ByteArray) (b l v : Int) (hs : s.size ≤ 9223372036854775807) (hf : fieldB s b l = false) (w : World) : Calls Tryd.prog 40 #[.agg #[.string s, .int .i64 b, .int .i64 l], .int .i64 v] w fun e w' => e = .returned (.int .i64 0) ∧ Below w.heap.size w w' := by
  have C := fun W => ref_FieldOK s b l hs W
  rw [hf] at C
  have C := Lib.hid C
  clear hf hs
  go_enter Tryd.func40, Tryd.ntmps40
  go_wp2_with fail
  refine (C.out _).mono ?_
  rintro e w1 ⟨rfl, hb1⟩
  go_wp2_with fail
  go_ret
  exact ⟨rfl, (((Below.refl w.heap.size w).alloc (Nat.le_refl _) (.cells #[.string s, .int .i64 b, .int .i64 l] 39)).trans (hb1.mono (by simp)))⟩
set_option maxHeartbeats 2000000 in
theorem Nearest_ok (s : ByteArray) (n : Nat) (l v : Int) (hs : s.size ≤ 9223372036854775807) (hf : fieldB s n l = true) (h1 : 1 ≤ n) (h2 : n ≤ 32) (h3 : -4294967296 ≤ l) (h4 : l ≤ 4294967296) (w : World) : Calls Tryd.prog 40 #[.agg #[.string s, .int .i64 n, .int .i64 l], .int .i64 v] w fun e w' => e = .returned (.int .i64 (nearF n l v)) ∧ Below w.heap.size w w' := by
  have C := fun W => ref_FieldOK s n l hs W
  rw [hf] at C
  have C := Lib.hid C
  have ht : l ≤ topF n l := by unfold topF; have := pow_bd n h2; omega
  obtain ⟨T, hT⟩ : ∃ T, T = topF n l := ⟨_, rfl⟩
  have D := fun W => ref_Top s n l h2 h3 h4 W
  rw [← hT] at D
  have D := Lib.hid D
  unfold nearF
  rw [← hT] at ht ⊢
  clear hf hs hT
  by_cases a1 : v < l
  · have HV := Lib.hid (show max l (min v T) = l by omega)
    go_enter Tryd.func40, Tryd.ntmps40
    go_wp2_with fail
    refine (C.out _).mono ?_
    rintro e w1 ⟨rfl, hb1⟩
    have c2 : w1.cell? ⟨w.heap.size, 2, none⟩ = some (.int .i64 l) := by rw [hb1.cell (p := ⟨w.heap.size, 2, none⟩) (by simp)]; simp
    have hb : Below w.heap.size w w1 := ((Below.refl w.heap.size w).alloc (Nat.le_refl _) (.cells #[.string s, .int .i64 n, .int .i64 l] 39)).trans (hb1.mono (by simp))
    have HB := Lib.hid hb
    clear hb
    go_wp2_with fail
    go_ret
    exact ⟨by rw [HV.out]; rfl, HB.out⟩
  · by_cases a2 : T < v
    · have HV := Lib.hid (show max l (min v T) = T by omega)
      go_enter Tryd.func40, Tryd.ntmps40
      go_wp2_with fail
      refine (C.out _).mono ?_
      rintro e w1 ⟨rfl, hb1⟩
      have hb : Below w.heap.size w w1 := ((Below.refl w.heap.size w).alloc (Nat.le_refl _) (.cells #[.string s, .int .i64 n, .int .i64 l] 39)).trans (hb1.mono (by simp))
      have HB := Lib.hid hb
      have hz : w.heap.size < w1.heap.size := by have := hb1.size; simp at this; omega
      have c0 : w1.cell? ⟨w.heap.size, 0, none⟩ = some (.string s) := by rw [hb1.cell (p := ⟨w.heap.size, 0, none⟩) (by simp)]; simp
      have c1 : w1.cell? ⟨w.heap.size, 1, none⟩ = some (.int .i64 n) := by rw [hb1.cell (p := ⟨w.heap.size, 1, none⟩) (by simp)]; simp
      have c2 : w1.cell? ⟨w.heap.size, 2, none⟩ = some (.int .i64 l) := by rw [hb1.cell (p := ⟨w.heap.size, 2, none⟩) (by simp)]; simp
      clear hb
      go_wp2_with (go_at_call 60; refine (D.out _).mono ?_; rintro e w8 ⟨rfl, rfl⟩)
      go_ret
      exact ⟨by rw [HV.out]; rfl, (HB.out.alloc HB.out.size _).alloc (by simp; have := HB.out.size; omega) _⟩
    · have HV := Lib.hid (show max l (min v T) = v by omega)
      go_enter Tryd.func40, Tryd.ntmps40
      go_wp2_with fail
      refine (C.out _).mono ?_
      rintro e w1 ⟨rfl, hb1⟩
      have hb : Below w.heap.size w w1 := ((Below.refl w.heap.size w).alloc (Nat.le_refl _) (.cells #[.string s, .int .i64 n, .int .i64 l] 39)).trans (hb1.mono (by simp))
      have HB := Lib.hid hb
      have hz : w.heap.size < w1.heap.size := by have := hb1.size; simp at this; omega
      have c0 : w1.cell? ⟨w.heap.size, 0, none⟩ = some (.string s) := by rw [hb1.cell (p := ⟨w.heap.size, 0, none⟩) (by simp)]; simp
      have c1 : w1.cell? ⟨w.heap.size, 1, none⟩ = some (.int .i64 n) := by rw [hb1.cell (p := ⟨w.heap.size, 1, none⟩) (by simp)]; simp
      have c2 : w1.cell? ⟨w.heap.size, 2, none⟩ = some (.int .i64 l) := by rw [hb1.cell (p := ⟨w.heap.size, 2, none⟩) (by simp)]; simp
      clear hb
      go_wp2_with (go_at_call 60; refine (D.out _).mono ?_; rintro e w8 ⟨rfl, rfl⟩)
      go_ret
      exact ⟨by rw [HV.out]; rfl, HB.out.alloc HB.out.size _⟩
end Go.Proofs.YtenfegdhbbdinaaDoor
