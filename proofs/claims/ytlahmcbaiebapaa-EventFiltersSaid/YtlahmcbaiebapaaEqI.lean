/- slices.Equal of two slices of integers. -/
import Derived.Test.YtlahmcbaiebapaaMem2
import Derived.BigQuiet
import Derived.Deep.QuietTactic
import Derived.Deep.LoopGhost
import Derived.Test.YtlahmcbaiebapaaRows
namespace Go.Proofs.Ytlahmcbaiebapaa
open Go.ChangeShapes Go.WideShapes Go.ChangeAt Go.RowKit Go.Mem
set_option linter.unusedVariables false
theorem list_ne_of_getD {zs ys : List Int} (k : Nat) (hk : k < zs.length) (hl : zs.length = ys.length) (h : zs.getD k 0 ≠ ys.getD k 0) : zs ≠ ys := by
  rintro rfl; exact h rfl

set_option maxHeartbeats 4000000 in
theorem eq_ints (a b : Option Addr) (ca cb : Nat) (zs ys : List Int) (h1 : zs.length ≤ 9223372036854775807) (h2 : ys.length ≤ 9223372036854775807) (w : World) (ha : IntsAt .i64 w a zs) (hb : IntsAt .i64 w b ys) :
    Calls Try.prog 19 #[.slice a zs.length ca, .slice b ys.length cb] w fun e w' => e = .returned (.bool (decide (zs = ys))) ∧ Below w.heap.size w w' := by
  by_cases hl : zs.length = ys.length
  · obtain ⟨n, hn⟩ : ∃ n, n = zs.length := ⟨_, rfl⟩
    have hm : ys.length = n := by omega
    have hne : ((n : Int) != (n : Int)) = false := by simp
    rw [hm, ← hn]
    have HN := Lib.hid hn
    have HM := Lib.hid hm
    have HA := Lib.hid ha
    have HB := Lib.hid hb
    have h63 : n ≤ 9223372036854775807 := by omega
    clear hn hm ha hb hl h1 h2
    go_enter Try.func19, Try.ntmps19
    go_wp2_with fail
    go_loopg [5, 13] n (fun gk _ vi wx => ∃ k : Nat, k ≤ n ∧ gk = n - k ∧ vi = .int .i64 k ∧ (∀ j, j < k → zs.getD j 0 = ys.getD j 0) ∧ Below w.heap.size w wx)
    case atStart => exact ⟨0, by omega, rfl, rfl, fun j h => by omega, Below.refl _ _⟩
    case round =>
      obtain ⟨k, g1, g2, rfl, heq, hbw⟩ := hrel
      have G2 := Lib.hid g2
      have HEQ := Lib.hid heq
      clear g2 heq
      by_cases hlt : k < n
      · obtain ⟨x, rfl, hx, hcx⟩ := HA.out (by rw [← HN.out]; omega)
        obtain ⟨y, rfl, hy, hcy⟩ := HB.out (by rw [HM.out]; omega)
        obtain ⟨p, hp⟩ : ∃ p, p = zs.getD k 0 := ⟨_, rfl⟩
        obtain ⟨q, hq⟩ : ∃ q, q = ys.getD k 0 := ⟨_, rfl⟩
        have cx := (hbw.cell (by rw [block_of_add]; exact hx)).trans (hcx k (by rw [← HN.out]; omega))
        have cy := (hbw.cell (by rw [block_of_add]; exact hy)).trans (hcy k (by rw [HM.out]; omega))
        rw [← hp] at cx
        rw [← hq] at cy
        have i1 : (0 : Int) ≤ (k : Int) := by omega
        have i2 : (k : Int) < (n : Int) := by omega
        have HPQ := Lib.hid (And.intro hp hq)
        clear hcx hcy hp hq
        by_cases e : p = q
        · subst e
          have hee : (p != p) = false := by simp
          go_wp2
          go_quiet (fail)
          go_wp2
          go_roundg (n - (k + 1))
          case measure => rw [G2.out]; omega
          case rel => exact ⟨k + 1, by omega, rfl, by go_num, fun j hj => by
            by_cases q : j = k
            · rw [q, ← HPQ.out.1, ← HPQ.out.2]
            · exact HEQ.out j (by omega), below_drewN hbw _⟩
        · have hee : (p != q) = true := by simp [e]
          have hz : zs ≠ ys := list_ne_of_getD k (by rw [← HN.out]; exact hlt) (by rw [← HN.out, HM.out]) (by rw [← HPQ.out.1, ← HPQ.out.2]; exact e)
          have HZ := Lib.hid hz
          clear hz e
          go_wp2
          go_quiet (fail)
          go_wp2
          go_ret
          exact ⟨by rw [decide_eq_false HZ.out]; rfl, below_drewN hbw _⟩
      · obtain rfl : k = n := by omega
        have hz : zs = ys := getD_eq_of_ext (by rw [← HN.out, HM.out]) (fun j hj => HEQ.out j (by rw [HN.out]; exact hj))
        have HZ := Lib.hid (decide_eq_true hz)
        clear hz
        go_wp2
        go_ret
        exact ⟨by rw [HZ.out]; rfl, hbw⟩
  · have hz : zs ≠ ys := fun h => hl (by rw [h])
    have HZ := Lib.hid hz
    obtain ⟨n, hn⟩ : ∃ n, n = zs.length := ⟨_, rfl⟩
    obtain ⟨m, hm⟩ : ∃ m, m = ys.length := ⟨_, rfl⟩
    rw [← hn, ← hm] at hl ⊢
    have hne : ((n : Int) != (m : Int)) = true := by simp; omega
    clear hz hl hn hm
    go_enter Try.func19, Try.ntmps19
    go_wp2_with fail
    go_ret
    exact ⟨by rw [decide_eq_false HZ.out]; rfl, Below.refl _ _⟩

end Go.Proofs.Ytlahmcbaiebapaa
