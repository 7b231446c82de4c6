/- kind.Name. -/
import Derived.Test.YtfckbkhnelgjbaaNameP
import Derived.Test.YtfckbkhnelgjbaaRows
import Derived.WalkKit
import Derived.ProofKit
import Derived.Lib.Hide
import Derived.Deep.LoopGhost
namespace Go.Proofs.Ytfckbkhnelgjbaa
open Go.ChangeShapes Go.WideShapes Go.ChangeAt Go.RowKit Go.Nm
set_option linter.unusedVariables false
theorem dle_t {a b : Int} (h : a ≤ b) : decide (a ≤ b) = true := decide_eq_true h
theorem dle_f {a b : Int} (h : ¬ a ≤ b) : decide (a ≤ b) = false := decide_eq_false h
theorem len_data (s : ByteArray) : s.data.toList.length = s.size := rfl
set_option maxHeartbeats 1000000 in
theorem kind_Name (s : ByteArray) (hs : s.size ≤ 9223372036854775807) (w : World) : Calls Try.prog 119 #[.string s] w fun e w' => e = .returned (.bool (nameB s.data.toList)) ∧ w = w' := by
  obtain ⟨R, hR⟩ : ∃ R, R = nameB s.data.toList := ⟨_, rfl⟩
  rw [← hR]
  have HR := Lib.hid hR
  clear hR
  by_cases h0 : s.size = 0
  · have t0 : ((s.size : Int) == 0) = true := by rw [h0]; rfl
    have HF := Lib.hid (name_nil _ ((len_data s).trans h0))
    clear h0 hs
    go_enter Try.func119, Try.ntmps119
    go_wp2_with fail
    go_ret
    exact ⟨by rw [HR.out, HF.out]; rfl, rfl⟩
  · by_cases h1 : 16 < s.size
    · have t0 : ((s.size : Int) == 0) = false := by rw [beq_eq_false_iff_ne]; omega
      have HF := Lib.hid (name_long _ (by rw [len_data]; exact h1))
      go_enter Try.func119, Try.ntmps119
      go_wp2_with fail
      go_ret
      exact ⟨by rw [HR.out, HF.out]; rfl, rfl⟩
    · have t0 : ((s.size : Int) == 0) = false := by rw [beq_eq_false_iff_ne]; omega
      have h2 : s.size ≤ 16 := by omega
      go_enter Try.func119, Try.ntmps119
      go_wp2_with fail
      go_loopg [3, 4, 15] s.size (fun gk v3 v4 vi wx => ∃ k : Nat, k ≤ s.size ∧ gk = s.size - k ∧ vi = .int .i64 k ∧ (∀ j, j < k → okAt s.data.toList j = true) ∧ wx = w)
      case atStart => exact ⟨0, Nat.zero_le _, rfl, rfl, fun j h => by omega, rfl⟩
      case round =>
        obtain ⟨k, hk, g2, rfl, hok, rfl⟩ := hrel
        have G2 := Lib.hid g2
        have HOK := Lib.hid hok
        clear g2 hok
        by_cases hlt : k < s.size
        · have hb : s.data.toList.getD k 0 = s[k] := by
            rw [List.getD_eq_getElem?_getD, List.getElem?_eq_getElem hlt]; rfl
          have hn : s[k].toNat < 256 := s[k].toNat_lt
          have HB := Lib.hid hb
          clear hb
          have good : okAt s.data.toList k = true → ∀ j, j < k + 1 → okAt s.data.toList j = true := fun h j hj => by
            by_cases hj2 : j < k
            · exact HOK.out j hj2
            · rw [show j = k by omega]; exact h
          have GOOD := Lib.hid good
          clear good
          by_cases c1 : 97 ≤ s[k].toNat ∧ s[k].toNat ≤ 122
          · obtain ⟨a1, a2⟩ := c1
            have HO := Lib.hid (show okAt s.data.toList k = true by unfold okAt lowB; rw [HB.out, decide_eq_true a1, decide_eq_true a2]; rfl)
            go_wp2_with fail
            go_roundg (s.size - (k + 1))
            case measure => rw [G2.out]; omega
            case rel => exact ⟨k + 1, hlt, rfl, by go_num, GOOD.out HO.out, rfl⟩
          · by_cases c2 : 0 < k ∧ 48 ≤ s[k].toNat ∧ s[k].toNat ≤ 57
            · obtain ⟨a0, a1, a2⟩ := c2
              have HO := Lib.hid (show okAt s.data.toList k = true by unfold okAt digB; rw [HB.out, decide_eq_true a1, decide_eq_true a2, decide_eq_true a0]; simp)
              clear c1
              have t97 : decide ((97 : Int) ≤ (s[k].toNat : Int)) = false := dle_f (by omega)
              have t122 : decide ((s[k].toNat : Int) ≤ 122) = true := dle_t (by omega)
              have t48 : decide ((48 : Int) ≤ (s[k].toNat : Int)) = true := dle_t (by omega)
              have t57 : decide ((s[k].toNat : Int) ≤ 57) = true := dle_t (by omega)
              go_wp2_with fail
              go_roundg (s.size - (k + 1))
              case measure => rw [G2.out]; omega
              case rel => exact ⟨k + 1, hlt, rfl, by go_num, GOOD.out HO.out, rfl⟩
            · have HO := Lib.hid (show okAt s.data.toList k = false by
                unfold okAt lowB digB
                rw [HB.out, Bool.eq_false_iff]
                intro h
                simp only [Bool.or_eq_true, Bool.and_eq_true, decide_eq_true_eq] at h
                rcases h with h | h
                · exact c1 h
                · exact c2 h)
              have HF := Lib.hid (name_bad _ k (by rw [len_data]; exact hlt) HO.out)
              rcases (show (s[k].toNat < 48) ∨ (57 < s[k].toNat ∧ s[k].toNat < 97) ∨ 122 < s[k].toNat ∨ (k = 0 ∧ 48 ≤ s[k].toNat ∧ s[k].toNat ≤ 57) by omega) with c | ⟨c, c'⟩ | c | ⟨c0, c, c'⟩
              · clear c1 c2
                have t97 : decide ((97 : Int) ≤ (s[k].toNat : Int)) = false := dle_f (by omega)
                have t122 : decide ((s[k].toNat : Int) ≤ 122) = true := dle_t (by omega)
                have t48 : decide ((48 : Int) ≤ (s[k].toNat : Int)) = false := dle_f (by omega)
                have t57 : decide ((s[k].toNat : Int) ≤ 57) = true := dle_t (by omega)
                go_wp2_with fail
                all_goals
                  go_ret
                  exact ⟨by rw [HR.out, HF.out]; rfl, rfl⟩
              · clear c1 c2
                have t97 : decide ((97 : Int) ≤ (s[k].toNat : Int)) = false := dle_f (by omega)
                have t122 : decide ((s[k].toNat : Int) ≤ 122) = true := dle_t (by omega)
                have t48 : decide ((48 : Int) ≤ (s[k].toNat : Int)) = true := dle_t (by omega)
                have t57 : decide ((s[k].toNat : Int) ≤ 57) = false := dle_f (by omega)
                go_wp2_with fail
                all_goals
                  go_ret
                  exact ⟨by rw [HR.out, HF.out]; rfl, rfl⟩
              · clear c1 c2
                have t97 : decide ((97 : Int) ≤ (s[k].toNat : Int)) = true := dle_t (by omega)
                have t122 : decide ((s[k].toNat : Int) ≤ 122) = false := dle_f (by omega)
                have t48 : decide ((48 : Int) ≤ (s[k].toNat : Int)) = true := dle_t (by omega)
                have t57 : decide ((s[k].toNat : Int) ≤ 57) = false := dle_f (by omega)
                go_wp2_with fail
                all_goals
                  go_ret
                  exact ⟨by rw [HR.out, HF.out]; rfl, rfl⟩
              · clear c1 c2
                have t97 : decide ((97 : Int) ≤ (s[k].toNat : Int)) = false := dle_f (by omega)
                have t122 : decide ((s[k].toNat : Int) ≤ 122) = true := dle_t (by omega)
                have t48 : decide ((48 : Int) ≤ (s[k].toNat : Int)) = true := dle_t (by omega)
                have t57 : decide ((s[k].toNat : Int) ≤ 57) = true := dle_t (by omega)
                have ck : k ≤ 0 := by omega
                clear c0
                go_wp2_with fail
                all_goals
                  go_ret
                  exact ⟨by rw [HR.out, HF.out]; rfl, rfl⟩
        · have hke : k = s.size := by omega
          have HF := Lib.hid (name_good s.data.toList (by rw [len_data]; omega) (by rw [len_data]; exact h2) (fun i hi => HOK.out i (by rw [len_data] at hi; omega)))
          clear hke
          go_wp2_with fail
          go_ret
          exact ⟨by rw [HR.out, HF.out]; rfl, rfl⟩
end Go.Proofs.Ytfckbkhnelgjbaa
