/- cmp.Less, slices.IsSorted at integers. -/
import Derived.Test.YtembjokbhbdoeaaPlanSet
import Derived.Deep.RegionHeld3
namespace Go.Proofs.Ytembjokbhbdoeaa
open Go.ChangeShapes Go.WideShapes Go.ChangeAt Go.RowKit Go.Mem
set_option linter.unusedVariables false
theorem cmp_isNaN (a : Int) (w : World) : Calls Try.prog 27 #[.int .i64 a] w fun e w' => e = .returned (.bool false) ∧ w = w' := by
  go_enter Try.func27, Try.ntmps27
  go_wp2
  go_ret
  exact ⟨by simp, rfl⟩
theorem cmp_less (a b : Int) (w : World) : Calls Try.prog 24 #[.int .i64 a, .int .i64 b] w fun e w' => e = .returned (.bool (decide (a < b))) ∧ w = w' := by
  have CN := Lib.hid (cmp_isNaN)
  obtain ⟨r, hr⟩ : ∃ r, r = decide (a < b) := ⟨_, rfl⟩
  rw [← hr]
  have HR := Lib.hid hr
  clear hr
  go_enter Try.func24, Try.ntmps24
  go_wp2_with fail
  refine (CN.out a w).mono ?_
  rintro e _ ⟨rfl, rfl⟩
  go_wp2
  go_ret
  exact ⟨by rw [HR.out]; rfl, rfl⟩
/-- in increasing order, equals allowed -/
def SortedL (l : List Int) : Prop := ∀ j, j + 1 < l.length → l.getD j 0 ≤ l.getD (j + 1) 0
set_option maxHeartbeats 4000000 in
theorem is_sorted (a : Option Addr) (c n : Nat) (l : List Int) (hn : l.length = n) (h1 : n ≤ 9223372036854775807) (w : World) (ha : IntsAt .i64 w a l) :
    Calls Try.prog 17 #[.slice a n c] w fun e w' => (∃ b : Bool, e = .returned (.bool b) ∧ (b = true ↔ SortedL l)) ∧ Below w.heap.size w w' := by
  have HN := Lib.hid hn
  have HA := Lib.hid ha
  clear hn ha
  go_enter Try.func17, Try.ntmps17
  go_wp2_with fail
  go_loopg [3] n (fun gk vi wx => ∃ q : Nat, q ≤ n ∧ gk = q ∧ vi = .int .i64 ((q : Int) - 1) ∧ (∀ j, q ≤ j + 1 → j + 1 < n → l.getD j 0 ≤ l.getD (j + 1) 0) ∧ Below w.heap.size w wx)
  case atStart => exact ⟨n, Nat.le_refl _, rfl, rfl, fun j h h2 => by omega, Below.refl _ _⟩
  case round =>
    obtain ⟨q, g1, g2, rfl, hs, hb⟩ := hrel
    have G2 := Lib.hid g2
    have HS := Lib.hid hs
    clear g2 hs
    by_cases hq : 2 ≤ q
    · obtain ⟨L, rfl⟩ : ∃ L, q = L + 2 := ⟨q - 2, by omega⟩
      obtain ⟨I, hI⟩ : ∃ I, I = L + 1 := ⟨_, rfl⟩
      have eL : ((L + 2 : Nat) : Int) - 1 = (I : Int) := by omega
      rw [eL]
      obtain ⟨ad, rfl, hx, hcx⟩ := HA.out (by rw [HN.out]; omega)
      obtain ⟨p, hp⟩ : ∃ p, p = l.getD I 0 := ⟨_, rfl⟩
      obtain ⟨o, ho⟩ : ∃ o, o = l.getD L 0 := ⟨_, rfl⟩
      have cp := (hb.cell (by rw [block_of_add]; exact hx)).trans (hcx I (by rw [HN.out]; omega))
      have co := (hb.cell (by rw [block_of_add]; exact hx)).trans (hcx L (by rw [HN.out]; omega))
      rw [← hp] at cp
      rw [← ho] at co
      have HPO := Lib.hid (And.intro hp ho)
      have c0 := hcx 0 (by rw [HN.out]; omega)
      obtain ⟨gb, go, sp⟩ := ad
      have hsp : sp = none := by simpa [Addr.add] using World.cell?_spot c0
      clear c0
      subst hsp
      rw [Addr.add_lit] at cp co
      have w1 : IntKind.i64.wrap ((I : Int) - 1) = (I : Int) - 1 := by rw [IntKind.wrap_i64]; omega
      have t1 : ((I : Int) - 1).toNat = L := by omega
      have i0 : (0 : Int) ≤ (I : Int) - 1 := by omega
      have i1 : (I : Int) - 1 < (n : Int) := by omega
      have i2 : (I : Int) < (n : Int) := by omega
      have i3 : (1 : Int) ≤ (I : Int) := by omega
      have i4 : (I : Int) ≤ (n : Int) := by omega
      have i5 : 1 ≤ I := by omega
      have i6 : I ≤ n := by omega
      have HII := Lib.hid hI
      clear hcx hp ho eL hI
      go_wp2_with fail
      go_region_held3 (fun w' => w'.cell? ⟨gb, go + I, none⟩ = some (.int .i64 p) ∧ w'.cell? ⟨gb, go + L, none⟩ = some (.int .i64 o) ∧ Below w.heap.size w w')
        (first | exact ⟨cp, co, hb.drew⟩ | go_keep)
        ((go_at_call 24; refine (cmp_less _ _ _).mono ?_; rintro e w8 ⟨rfl, rfl⟩))
      have hbd : Below w.heap.size w wr.drew := hb.drew
      by_cases hpo : p < o
      · have tp : decide (p < o) = true := decide_eq_true hpo
        have HNS := Lib.hid (show ¬ SortedL l by
          intro hs
          have := hs L (by rw [HN.out]; omega)
          rw [← HII.out, ← HPO.out.1, ← HPO.out.2] at this
          omega)
        go_wp2
        go_ret
        exact ⟨⟨false, rfl, ⟨fun h => (by cases h), fun h => absurd h HNS.out⟩⟩, hbd⟩
      · have tp : decide (p < o) = false := decide_eq_false hpo
        go_wp2
        go_roundg (L + 1)
        case measure => rw [G2.out]; omega
        case rel => exact ⟨L + 1, by omega, rfl, by rw [HII.out], fun j h h2 => by
          by_cases e : L + 2 ≤ j + 1
          · exact HS.out j e h2
          · rw [show j = L by omega, ← HII.out, ← HPO.out.1, ← HPO.out.2]; omega, hbd⟩
    · have HSS := Lib.hid (show SortedL l from fun j h => HS.out j (by omega) (by rw [HN.out] at h; exact h))
      go_wp2
      go_ret
      exact ⟨⟨true, rfl, ⟨fun _ => HSS.out, fun _ => rfl⟩⟩, hb⟩
end Go.Proofs.Ytembjokbhbdoeaa
