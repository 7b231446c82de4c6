/- slices.Index and Contains at integers. -/
import Derived.Test.YtlahmcbaiebapaaRd
import Derived.BigQuiet
import Derived.Deep.QuietTactic
import Derived.Deep.LoopGhost
namespace Go.Proofs.Ytlahmcbaiebapaa
open Go.ChangeShapes Go.WideShapes Go.ChangeAt Go.RowKit Go.Mem
set_option linter.unusedVariables false
theorem getD_mem {l : List Int} {i : Nat} (h : i < l.length) : l.getD i 0 ∈ l := by
  rw [List.getD_eq_getElem?_getD, List.getElem?_eq_getElem h]; exact List.getElem_mem h
theorem mem_getD {l : List Int} {k : Int} (h : k ∈ l) : ∃ i, i < l.length ∧ l.getD i 0 = k := by
  obtain ⟨i, hi, rfl⟩ := List.getElem_of_mem h
  exact ⟨i, hi, by rw [List.getD_eq_getElem?_getD, List.getElem?_eq_getElem hi]; rfl⟩
set_option maxHeartbeats 2000000 in
theorem index_ints (a : Option Addr) (c n : Nat) (l : List Int) (k : Int) (hn : l.length = n) (h1 : n ≤ 9223372036854775807) (w : World) (ha : IntsAt .i64 w a l) :
    Calls Try.prog 74 #[.slice a n c, .int .i64 k] w fun e w' => (∃ r : Int, e = .returned (.int .i64 r) ∧ (0 ≤ r ↔ k ∈ l)) ∧ Below w.heap.size w w' := by
  have HN := Lib.hid hn
  have HA := Lib.hid ha
  clear hn ha
  go_enter Try.func74, Try.ntmps74
  go_wp2_with fail
  go_loopg [5, 8] n (fun gk _ vi wx => ∃ i : Nat, i ≤ n ∧ gk = n - i ∧ vi = .int .i64 i ∧ (∀ j, j < i → l.getD j 0 ≠ k) ∧ Below w.heap.size w wx)
  case atStart => exact ⟨0, by omega, rfl, rfl, fun j h => by omega, Below.refl _ _⟩
  case round =>
    obtain ⟨i, g1, g2, rfl, hne, hbw⟩ := hrel
    have G2 := Lib.hid g2
    have HNE := Lib.hid hne
    clear g2 hne
    by_cases hlt : i < n
    · obtain ⟨x, rfl, hx, hcx⟩ := HA.out (by rw [HN.out]; omega)
      obtain ⟨p, hp⟩ : ∃ p, p = l.getD i 0 := ⟨_, rfl⟩
      have cx := (hbw.cell (by rw [block_of_add]; exact hx)).trans (hcx i (by rw [HN.out]; omega))
      rw [← hp] at cx
      have HP := Lib.hid hp
      clear hcx hp
      by_cases e : k = p
      · subst e
        have hee : (k == k) = true := by simp
        have hm : k ∈ l := by rw [HP.out]; exact getD_mem (by rw [HN.out]; exact hlt)
        have HM := Lib.hid hm
        clear hm
        go_wp2
        go_ret
        exact ⟨⟨(i : Int), rfl, ⟨fun _ => HM.out, fun _ => by omega⟩⟩, hbw⟩
      · have hee : (k == p) = false := by rw [beq_eq_false_iff_ne]; exact e
        go_wp2
        go_roundg (n - (i + 1))
        case measure => rw [G2.out]; omega
        case rel => exact ⟨i + 1, by omega, rfl, by go_num, fun j hj => by
          by_cases q : j = i
          · rw [q, ← HP.out]; exact fun h => e h.symm
          · exact HNE.out j (by omega), hbw⟩
    · go_wp2
      go_ret
      refine ⟨⟨-1, rfl, ⟨fun h => absurd h (by decide), fun h => ?_⟩⟩, hbw⟩
      obtain ⟨j, hj, hk⟩ := mem_getD h
      exact absurd hk (HNE.out j (by rw [HN.out] at hj; omega))
theorem contains_ints (a : Option Addr) (c n : Nat) (l : List Int) (k : Int) (hn : l.length = n) (h1 : n ≤ 9223372036854775807) (w : World) (ha : IntsAt .i64 w a l) :
    Calls Try.prog 14 #[.slice a n c, .int .i64 k] w fun e w' => e = .returned (.bool (decide (k ∈ l))) ∧ Below w.heap.size w w' := by
  have CI := Lib.hid (index_ints a c n l k hn h1 w ha)
  obtain ⟨b, hb⟩ : ∃ b, b = decide (k ∈ l) := ⟨_, rfl⟩
  rw [← hb]
  have HB := Lib.hid hb
  clear hb ha hn
  go_enter Try.func14, Try.ntmps14
  go_wp2_with fail
  refine CI.out.mono ?_
  rintro e w1 ⟨⟨r, rfl, hr⟩, hb1⟩
  by_cases h0 : 0 ≤ r
  · have HE := Lib.hid (show b = true by rw [HB.out]; exact decide_eq_true (hr.1 h0))
    clear hr
    go_wp2
    go_ret
    exact ⟨by rw [HE.out]; simp, hb1⟩
  · have HE := Lib.hid (show b = false by rw [HB.out]; exact decide_eq_false (fun h => h0 (hr.2 h)))
    clear hr
    go_wp2
    go_ret
    exact ⟨by rw [HE.out]; simp [h0], hb1⟩
end Go.Proofs.Ytlahmcbaiebapaa
