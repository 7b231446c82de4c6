/- slices.EqualFunc of two slices of slices of integers, with slices.Equal. -/
import Derived.Test.YtembjokbhbdoeaaEqI
import Derived.Test.YtembjokbhbdoeaaApiSys
namespace Go.Proofs.Ytembjokbhbdoeaa
open Go.ChangeShapes Go.WideShapes Go.ChangeAt Go.RowKit Go.Mem
set_option linter.unusedVariables false
set_option maxHeartbeats 4000000 in
theorem eqf_intss (a b : Option Addr) (ca cb n m : Nat) (x y : List (List Int)) (hn : x.length = n) (hm : y.length = m) (h1 : n ≤ 1048576) (h2 : m ≤ 1048576) (hx : ∀ r ∈ x, r.length ≤ 1048576) (hy : ∀ r ∈ y, r.length ≤ 1048576) (w : World) (ha : SlAt 1 IntsIn w a x) (hb : SlAt 1 IntsIn w b y) :
    Calls Try.prog 13 #[.slice a n ca, .slice b m cb, .func (.func 15) #[] #[]] w fun e w' => e = .returned (.bool (decide (x = y))) ∧ Below w.heap.size w w' := by
  obtain ⟨C, hC⟩ : ∃ C, C = decide (x = y) := ⟨_, rfl⟩
  rw [← hC]
  have HC := Lib.hid hC
  have HN := Lib.hid hn
  have HM := Lib.hid hm
  have HA := Lib.hid ha
  have HB0 := Lib.hid hb
  have HX := Lib.hid hx
  have HY := Lib.hid hy
  clear hC ha hb hx hy
  by_cases hl : n = m
  · subst hl
    have t0 : ((n : Int) != (n : Int)) = false := by simp
    clear hn hm
    go_enter Try.func13, Try.ntmps13
    go_wp2_with fail
    go_loopg [7, 8, 9, 17] n (fun gk _ _ _ vi wx => ∃ k : Nat, k ≤ n ∧ gk = n - k ∧ vi = .int .i64 k ∧ (∀ j (h : j < x.length) (h2 : j < y.length), j < k → x[j] = y[j]) ∧ Below w.heap.size w wx)
    case atStart => exact ⟨0, Nat.zero_le _, rfl, rfl, fun j h h2 h3 => by omega, Below.refl _ _⟩
    case round =>
      obtain ⟨k, g1, g2, rfl, heq, hb⟩ := hrel
      have G2 := Lib.hid g2
      have HEQ := Lib.hid heq
      clear g2 heq
      by_cases hlt : k < n
      · have hkx : k < x.length := by rw [HN.out]; exact hlt
        have hky : k < y.length := by rw [HM.out]; exact hlt
        obtain ⟨p, rfl, hp, hcp⟩ := HA.out (by omega)
        obtain ⟨q, rfl, hq, hcq⟩ := HB0.out (by omega)
        obtain ⟨ap, cp, e1, i1⟩ := hcp k hkx
        obtain ⟨aq, cq, e2, i2⟩ := hcq k hky
        rw [Nat.mul_one] at e1 e2
        have hrx := HX.out _ (List.getElem_mem hkx)
        have hry := HY.out _ (List.getElem_mem hky)
        have CE := Lib.hid (eq_ints ap aq cp cq x[k] y[k] (by omega) (by omega) wr (i1.below hb) (i2.below hb))
        have e1' := cell_abides e1 hb
        have e2' := cell_abides e2 hb
        obtain ⟨nx, hnx⟩ : ∃ nx, nx = (x[k]).length := ⟨_, rfl⟩
        obtain ⟨ny, hny⟩ : ∃ ny, ny = (y[k]).length := ⟨_, rfl⟩
        rw [← hnx] at e1' CE
        rw [← hny] at e2' CE
        obtain ⟨r, hr⟩ : ∃ r, r = decide (x[k] = y[k]) := ⟨_, rfl⟩
        rw [← hr] at CE
        have HR := Lib.hid hr
        clear hcp hcq e1 e2 i1 i2 hnx hny hr hrx hry
        go_wp2_with fail
        refine CE.out.mono ?_
        rintro e w1 ⟨rfl, hb1⟩
        have hb2 := bt hb hb1
        clear hb hb1 CE e1' e2'
        cases r with
        | true =>
          have HE := Lib.hid (of_decide_eq_true HR.out.symm)
          go_wp2
          go_roundg (n - (k + 1))
          case measure => rw [G2.out]; omega
          case rel => exact ⟨k + 1, hlt, rfl, by go_num, fun j h h2 h3 => by
            by_cases e : j = k
            · subst e; exact HE.out
            · exact HEQ.out j h h2 (by omega), hb2⟩
        | false =>
          have HE := Lib.hid (of_decide_eq_false HR.out.symm)
          have HF := Lib.hid (show C = false by
            rw [HC.out]
            exact decide_eq_false (fun h => HE.out (by subst h; rfl)))
          go_wp2
          go_ret
          exact ⟨by rw [HF.out]; rfl, hb2⟩
      · have HT := Lib.hid (show C = true by
          rw [HC.out]
          refine decide_eq_true (List.ext_getElem (by rw [HN.out, HM.out]) fun j h h2 => HEQ.out j h h2 (by rw [HN.out] at h; omega))
        )
        go_wp2
        go_ret
        exact ⟨by rw [HT.out]; rfl, hb⟩
  · have t0 : ((n : Int) != (m : Int)) = true := by rw [bne_iff_ne]; omega
    have HF := Lib.hid (show C = false by
      rw [HC.out]
      exact decide_eq_false (fun h => hl (by rw [← hn, ← hm, h])))
    clear hn hm hl
    go_enter Try.func13, Try.ntmps13
    go_wp2
    go_ret
    exact ⟨by rw [HF.out]; rfl, Below.refl _ _⟩
end Go.Proofs.Ytembjokbhbdoeaa
