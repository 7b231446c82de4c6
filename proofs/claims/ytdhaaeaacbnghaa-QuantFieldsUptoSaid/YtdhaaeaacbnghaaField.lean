/- quant.Check, Fit; the reference's FieldIs, Fitted. -/
import Derived.Test.YtdhaaeaacbnghaaLim
import Derived.Test.YtdhaaeaacbnghaaGrown
import Derived.BigQuiet
import Derived.Deep.QuietTactic
import Derived.Deep.LoopGhost
import Derived.Lib.MinMax
namespace Go.Proofs.Ytdhaaeaacbnghaa
open Go.ChangeShapes Go.WideShapes Go.ChangeAt Go.RowKit Go.Mem
set_option linter.unusedVariables false

def fIs (b l : Int) : Bool := decide (0 ≤ b ∧ b ≤ 32 ∧ l = lim l)
theorem fIs_true {b l : Int} (h : fIs b l = true) : 0 ≤ b ∧ b ≤ 32 ∧ l = lim l := of_decide_eq_true h
theorem fIs_false {b l : Int} (h : fIs b l = false) : b < 0 ∨ 32 < b ∨ (0 ≤ b ∧ b ≤ 32 ∧ l ≠ lim l) := by
  have := of_decide_eq_false h
  omega
theorem field_new (w : World) (s : ByteArray) (b l : Int) : (w.alloc (.cells #[.string s, .int .i64 b, .int .i64 l] 92)).cell? ⟨w.heap.size, 1, none⟩ = some (.int .i64 b) ∧ (w.alloc (.cells #[.string s, .int .i64 b, .int .i64 l] 92)).cell? ⟨w.heap.size, 2, none⟩ = some (.int .i64 l) :=
  ⟨by rw [cell_of_row _ _ 1 _ _ _ (heap_alloc_new w _)]; rfl, by rw [cell_of_row _ _ 2 _ _ _ (heap_alloc_new w _)]; rfl⟩

set_option maxHeartbeats 4000000 in
theorem quant_Check (s : ByteArray) (b l : Int) (w : World) : Calls Try.prog 70 #[.agg #[.string s, .int .i64 b, .int .i64 l]] w fun e w' => e = .returned (.int .i64 (if fIs b l = true then 0 else 3)) ∧ Below w.heap.size w w' := by
  have CC := fix_Clamp l
  obtain ⟨c, hc⟩ : ∃ c, c = lim l := ⟨_, rfl⟩
  have CC2 := Lib.hid (fun W => (CC W).mono fun e w' p => (⟨p.1, p.2.symm⟩ : _ ∧ w' = W))
  rw [← hc] at CC2
  have hb := (Below.refl w.heap.size w).alloc (Nat.le_refl _) (.cells #[.string s, .int .i64 b, .int .i64 l] 92)
  obtain ⟨n1, n2⟩ := field_new w s b l
  clear CC
  cases hf : fIs b l with
  | true =>
    obtain ⟨h1, h2, h3⟩ := fIs_true hf
    rw [if_pos rfl]
    have hl : (l != c) = false := by rw [hc, ← h3]; simp
    have d1 : decide (b < 0) = false := by simp; omega
    have d2 : decide (32 < b) = false := by simp; omega
    clear hf h3 hc
    go_enter Try.func70, Try.ntmps70
    go_wp2_with fail
    generalize w.alloc (.cells #[.string s, .int .i64 b, .int .i64 l] 92) = W at *
    go_quiet ((go_at_call 93; exact Calls.quiet_of_same (CC2.out _)))
    go_wp2
    go_ret
    exact ⟨rfl, below_drewN hb _⟩
  | false =>
    rw [if_neg (by simp)]
    rcases fIs_false hf with h1 | h1 | ⟨h1, h2, h3⟩
    · have d1 : decide (b < 0) = true := by simp; omega
      clear hf hc
      go_enter Try.func70, Try.ntmps70
      go_wp2_with fail
      generalize w.alloc (.cells #[.string s, .int .i64 b, .int .i64 l] 92) = W at *
      go_quiet (fail)
      go_wp2
      go_ret
      exact ⟨rfl, below_drewN hb _⟩
    · have d1 : decide (b < 0) = false := by simp; omega
      have d2 : decide (32 < b) = true := by simp; omega
      clear hf hc
      go_enter Try.func70, Try.ntmps70
      go_wp2_with fail
      generalize w.alloc (.cells #[.string s, .int .i64 b, .int .i64 l] 92) = W at *
      go_quiet (fail)
      go_wp2
      go_ret
      exact ⟨rfl, below_drewN hb _⟩
    · have hl : (l != c) = true := by rw [hc]; simp; exact h3
      have d1 : decide (b < 0) = false := by simp; omega
      have d2 : decide (32 < b) = false := by simp; omega
      clear hf h3 hc
      go_enter Try.func70, Try.ntmps70
      go_wp2_with fail
      generalize w.alloc (.cells #[.string s, .int .i64 b, .int .i64 l] 92) = W at *
      go_quiet ((go_at_call 93; exact Calls.quiet_of_same (CC2.out _)))
      go_wp2
      go_ret
      exact ⟨rfl, below_drewN hb _⟩

def fitv (b l v : Int) : Int := min (max v (lim l)) (lim l + 2 ^ (min (max b 0) 32).toNat - 1)
theorem pow_c (k : Nat) : (2 : Int) ^ k = ((2 ^ k : Nat) : Int) := by rw [Int.natCast_pow]; rfl
theorem fitv_wrap (b l v : Int) : min (max v (lim l)) (wrap64 (wrap64 (lim l + wrap64 (2 ^ (min (max b 0) 32).toNat)) - 1)) = fitv b l v := by
  have h := lim_bd l
  obtain ⟨K, hK⟩ : ∃ K, K = (min (max b 0) 32).toNat := ⟨_, rfl⟩
  unfold fitv
  rw [← hK]
  have p1 : 2 ^ K ≤ 2 ^ 32 := Nat.pow_le_pow_right (by omega) (by omega)
  have p2 : 2 ^ 32 = 4294967296 := by decide
  have p3 : 1 ≤ 2 ^ K := Nat.two_pow_pos K
  rw [pow_c]
  obtain ⟨P, hP⟩ : ∃ P, P = 2 ^ K := ⟨_, rfl⟩
  rw [← hP] at p1 p3 ⊢
  rw [p2] at p1
  rw [IntWalk.wrap64_in (P : Int) ⟨by omega, by omega⟩, IntWalk.wrap64_in (lim l + P) ⟨by omega, by omega⟩, IntWalk.wrap64_in (lim l + P - 1) ⟨by omega, by omega⟩]
set_option maxHeartbeats 4000000 in
theorem quant_Fit (s : ByteArray) (b l v : Int) (hv1 : -9223372036854775808 ≤ v) (hv2 : v ≤ 9223372036854775807) (w : World) : Calls Try.prog 67 #[.agg #[.string s, .int .i64 b, .int .i64 l], .int .i64 v] w fun e w' => e = .returned (.int .i64 (fitv b l v)) ∧ Below w.heap.size w w' := by
  have CC := Lib.hid (fix_Clamp l)
  have hb := (Below.refl w.heap.size w).alloc (Nat.le_refl _) (.cells #[.string s, .int .i64 b, .int .i64 l] 92)
  obtain ⟨n1, n2⟩ := field_new w s b l
  go_enter Try.func67, Try.ntmps67
  go_wp2_with fail
  generalize w.alloc (.cells #[.string s, .int .i64 b, .int .i64 l] 92) = W at *
  refine (CC.out _).mono ?_
  rintro e w1 ⟨rfl, rfl⟩
  go_wp2
  go_ret
  exact ⟨ret_i (fitv_wrap b l v), hb⟩

set_option maxHeartbeats 8000000 in
theorem ref_Fitted (s : ByteArray) (b l v : Int) (w : World) : Calls Try.prog 68 #[.agg #[.string s, .int .i64 b, .int .i64 l], .int .i64 v] w fun e w' => e = .returned (.int .i64 (fitv b l v)) ∧ Below w.heap.size w w' := by
  have cc := ref_Limit l
  have hb := (Below.refl w.heap.size w).alloc (Nat.le_refl _) (.cells #[.string s, .int .i64 b, .int .i64 l] 92)
  obtain ⟨n1, n2⟩ := field_new w s b l
  obtain ⟨K, hK⟩ : ∃ K, K = (min (max b 0) 32).toNat := ⟨_, rfl⟩
  have hK32 : K ≤ 32 := by omega
  obtain ⟨F, hF⟩ : ∃ F, F = fitv b l v := ⟨_, rfl⟩
  rw [← hF]
  unfold fitv at hF
  rw [← hK] at hF
  obtain ⟨c, hc⟩ : ∃ c, c = lim l := ⟨_, rfl⟩
  have hcb := lim_bd l
  rw [← hc] at hF hcb cc
  have CC := Lib.hid cc
  have HF := Lib.hid hF
  have hk1 : (K : Int) ≤ 32 := by omega
  have hk2 : b ≤ 0 ∨ 32 ≤ b ∨ b = K := by omega
  have HK := Lib.hid hK
  obtain ⟨hc1, hc2⟩ := hcb
  clear cc hF hc hK
  go_enter Try.func68, Try.ntmps68
  go_wp2_with fail
  generalize w.alloc (.cells #[.string s, .int .i64 b, .int .i64 l] 92) = W at *
  refine (CC.out _).mono ?_
  rintro e w1 ⟨rfl, rfl⟩
  go_wp2_with fail
  go_loopg [6, 7] K (fun gk vh vi wx => ∃ i : Nat, i ≤ K ∧ gk = K - i ∧ vi = .int .i64 i ∧ vh = .int .i64 (c + (2 ^ i : Nat) - 1) ∧ wx = W)
  case atStart => exact ⟨0, by omega, rfl, rfl, by simp, rfl⟩
  case round =>
    obtain ⟨i, hi, g2, rfl, rfl, rfl⟩ := hrel
    have G2 := Lib.hid g2
    clear g2
    have p1 : 2 ^ i ≤ 2 ^ 32 := Nat.pow_le_pow_right (by omega) (by omega)
    have p2 : 2 ^ 32 = 4294967296 := by decide
    have p3 : 1 ≤ 2 ^ i := Nat.two_pow_pos i
    have p4 := pow_c i
    have p5 : 2 ^ (i + 1) = 2 * 2 ^ i := by rw [Nat.pow_succ, Nat.mul_comm]
    obtain ⟨P, hP⟩ : ∃ P, P = 2 ^ i := ⟨_, rfl⟩
    rw [← hP] at p1 p3 p4 p5 ⊢
    rw [p2] at p1
    have P5 := Lib.hid p5
    have HP := Lib.hid hP
    clear p2 p5 hP
    by_cases hlt : i < K
    · have b1 : (i : Int) < b := by have := HK.out; omega
      have b2 : (i : Int) < 32 := by omega
      clear hk2
      go_wp2
      go_roundg (K - (i + 1))
      case measure => rw [G2.out]; omega
      case rel => exact ⟨i + 1, by omega, rfl, by go_num, by rw [P5.out]; exact congrArg (Value.int .i64) (by omega), rfl⟩
    · have hiK : i = K := by omega
      have b1 : b ≤ (i : Int) ∨ ((i : Int) < b ∧ 32 ≤ (i : Int)) := by have := HK.out; omega
      have HF2 := HF.out
      rw [← hiK, p4] at HF2
      have HF3 := Lib.hid HF2
      clear HF2 p4 hk2 hiK hlt
      rcases b1 with b1 | ⟨b1, b2⟩
      all_goals
        go_wp2
        all_goals
          go_ret
          exact ⟨ret_i (by have := HF3.out; omega), hb⟩

set_option maxHeartbeats 4000000 in
theorem ref_FieldIs (s : ByteArray) (b l : Int) (w : World) : Calls Try.prog 69 #[.agg #[.string s, .int .i64 b, .int .i64 l]] w fun e w' => e = .returned (.bool (fIs b l)) ∧ Below w.heap.size w w' := by
  have CC := ref_Limit l
  obtain ⟨c, hc⟩ : ∃ c, c = lim l := ⟨_, rfl⟩
  have CC2 := Lib.hid (fun W => (CC W).mono fun e w' p => (⟨p.1, p.2.symm⟩ : _ ∧ w' = W))
  rw [← hc] at CC2
  have hb := (Below.refl w.heap.size w).alloc (Nat.le_refl _) (.cells #[.string s, .int .i64 b, .int .i64 l] 92)
  obtain ⟨n1, n2⟩ := field_new w s b l
  clear CC
  cases hf : fIs b l with
  | true =>
    obtain ⟨h1, h2, h3⟩ := fIs_true hf
    have hl : (l == c) = true := by rw [hc, ← h3]; simp
    have d1 : decide (0 ≤ b) = true := by simp; omega
    have d2 : decide (b ≤ 32) = true := by simp; omega
    clear hf h3 hc
    go_enter Try.func69, Try.ntmps69
    go_wp2_with fail
    generalize w.alloc (.cells #[.string s, .int .i64 b, .int .i64 l] 92) = W at *
    go_quiet ((go_at_call 90; exact Calls.quiet_of_same (CC2.out _)))
    go_wp2
    go_ret
    exact ⟨rfl, below_drewN hb _⟩
  | false =>
    rcases fIs_false hf with h1 | h1 | ⟨h1, h2, h3⟩
    · have d1 : decide (0 ≤ b) = false := by simp; omega
      clear hf hc
      go_enter Try.func69, Try.ntmps69
      go_wp2_with fail
      generalize w.alloc (.cells #[.string s, .int .i64 b, .int .i64 l] 92) = W at *
      go_quiet (fail)
      go_wp2
      go_ret
      exact ⟨rfl, below_drewN hb _⟩
    · have d1 : decide (0 ≤ b) = true := by simp; omega
      have d2 : decide (b ≤ 32) = false := by simp; omega
      clear hf hc
      go_enter Try.func69, Try.ntmps69
      go_wp2_with fail
      generalize w.alloc (.cells #[.string s, .int .i64 b, .int .i64 l] 92) = W at *
      go_quiet (fail)
      go_wp2
      go_ret
      exact ⟨rfl, below_drewN hb _⟩
    · have hl : (l == c) = false := by rw [hc, beq_eq_false_iff_ne]; exact h3
      have d1 : decide (0 ≤ b) = true := by simp; omega
      have d2 : decide (b ≤ 32) = true := by simp; omega
      clear hf h3 hc
      go_enter Try.func69, Try.ntmps69
      go_wp2_with fail
      generalize w.alloc (.cells #[.string s, .int .i64 b, .int .i64 l] 92) = W at *
      go_quiet ((go_at_call 90; exact Calls.quiet_of_same (CC2.out _)))
      go_wp2
      go_ret
      exact ⟨rfl, below_drewN hb _⟩
theorem fit_try : fitv 3 (-2) 9 = 5 := by decide
set_option maxHeartbeats 4000000 in
theorem law_quantBegun (w : World) : Calls Try.prog 64 #[] w fun e w' => e = .returned (.bool true) ∧ Below w.heap.size w w' := by
  have cf := quant_Fit ByteArray.empty 3 (-2) 9 (by omega) (by omega)
  rw [fit_try] at cf
  have CF := Lib.hid cf
  clear cf
  go_enter Try.func64, Try.ntmps64
  go_wp2_with fail
  refine (CF.out _).mono ?_
  rintro e w1 ⟨rfl, hb⟩
  go_wp2
  go_ret
  exact ⟨rfl, hb⟩
end Go.Proofs.Ytdhaaeaacbnghaa
