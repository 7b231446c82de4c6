/- The reference's 'most': the greatest number up to a limit for which something holds. -/
import Derived.Test.YtehpfkmaikbjkaaLim
import Derived.Test.YtehpfkmaikbjkaaMem
import Derived.Deep.DeepMust
namespace Go.Proofs.Ytehpfkmaikbjkaa
open Go.ChangeShapes Go.WideShapes Go.ChangeAt Go.RowKit Go.Mem

theorem ref_most (fid : Nat) (caps : Array Value) (p : Int → Bool) (limit : Int) (w : World) (h0 : 0 ≤ limit) (hlim : limit ≤ 4398046511104)
    (he : ∀ args w, (callFunc fid args).run Try.prog w = .ok (.enter fid args) w)
    (hf : ∀ (n : Int) (w1 : World), 0 ≤ n → n ≤ limit → Below w.heap.size w w1 → Calls Try.prog fid (#[.int .i64 n] ++ caps) w1 fun e w' => e = .returned (.bool (p n)) ∧ Below w1.heap.size w1 w') :
    Calls Try.prog 67 #[.int .i64 limit, .func (.func fid) #[] caps] w fun e w' => ∃ r : Int, e = .returned (.int .i64 r) ∧ 0 ≤ r ∧ r ≤ limit ∧ (r = 0 ∨ p r = true) ∧ (limit < r + 1 ∨ p (r + 1) = false) ∧ Below w.heap.size w w' := by
  go_enter Try.func67, Try.ntmps67
  go_wp2
  go_loopw [5, 6] (fun n s wr => ∃ (j : Nat) (m : Int), j ≤ 43 ∧ s = .int .i64 ((2 ^ j / 2 : Nat) : Int) ∧ n = .int .i64 m ∧ 0 ≤ m ∧ m ≤ limit ∧ (m = 0 ∨ p m = true) ∧ (limit < m + ((2 ^ j : Nat) : Int) ∨ p (m + ((2 ^ j : Nat) : Int)) = false) ∧ Below w.heap.size w wr)
    (fun _ s _ => (intOf s).toNat)
  case atStart => exact ⟨43, 0, by omega, rfl, rfl, by omega, h0, Or.inl rfl, Or.inl (by omega), Below.refl _ _⟩
  case round =>
    obtain ⟨j, m, hj, rfl, rfl, hm0, hm1, hpm, hu, hb⟩ := hrel
    cases j with
    | zero =>
      have HU := Lib.hid hu
      have HP := Lib.hid hpm
      clear hu hpm hf he
      go_wp2
      go_ret
      exact ⟨m, rfl, hm0, hm1, HP.out, HU.out, hb⟩
    | succ j =>
      have hs : 2 ^ (j + 1) / 2 = 2 ^ j := by rw [Nat.pow_succ]; omega
      have hs1 : 0 < 2 ^ j := Nat.two_pow_pos j
      have hs2 : 2 ^ j ≤ 2 ^ 42 := Nat.pow_le_pow_right (by omega) (by omega)
      have hs2' : 2 ^ j ≤ 4398046511104 := hs2
      clear hs2
      rw [Nat.pow_succ] at hu
      rw [hs]
      clear hs
      obtain ⟨s, hsj⟩ : ∃ s, s = 2 ^ j := ⟨_, rfl⟩
      rw [← hsj] at hu hs1 hs2' ⊢
      have HS := Lib.hid hsj
      have HU := Lib.hid hu
      have HP := Lib.hid hpm
      have HF := Lib.hid hf
      clear hsj hu hpm hf
      by_cases c1 : m + s ≤ limit
      · cases c2 : p (m + s) with
        | true =>
          have HC := Lib.hid c2
          clear c2
          go_wp2_with (refine (HF.out _ _ (by omega) (by omega) hb).mono ?_; rintro e w2 ⟨rfl, hb2⟩; rw [HC.out])
          have hB := bt hb hb2
          clear hb hb2
          go_roundw
          case rel => exact ⟨j, m + s, by omega, by rw [HS.out]; go_num, rfl, by omega, c1, Or.inr HC.out, by rw [← HS.out]; rw [show m + s + s = m + ((s * 2 : Nat) : Int) by omega]; exact HU.out, hB⟩
          case measure => simp [intOf]; omega
        | false =>
          have HC := Lib.hid c2
          clear c2
          go_wp2_with (refine (HF.out _ _ (by omega) (by omega) hb).mono ?_; rintro e w2 ⟨rfl, hb2⟩; rw [HC.out])
          have hB := bt hb hb2
          clear hb hb2
          go_roundw
          case rel => exact ⟨j, m, by omega, by rw [HS.out]; go_num, rfl, by omega, hm1, HP.out, by rw [← HS.out]; exact Or.inr HC.out, hB⟩
          case measure => simp [intOf]; omega
      · go_wp2
        go_roundw
        case rel => exact ⟨j, m, by omega, by rw [HS.out]; go_num, rfl, by omega, hm1, HP.out, by rw [← HS.out]; exact Or.inl (by omega), hb⟩
        case measure => simp [intOf]; omega
end Go.Proofs.Ytehpfkmaikbjkaa
