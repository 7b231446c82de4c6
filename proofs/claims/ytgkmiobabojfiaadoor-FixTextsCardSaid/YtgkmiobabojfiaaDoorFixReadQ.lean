/- Plain laws, with no program in sight: what fix.Read gives, case by case. -/
import Derived.Test.YtgkmiobabojfiaaDoorFixReadP
namespace Go.Proofs.YtgkmiobabojfiaaDoor
set_option linter.unusedVariables false
theorem readP_large0 (s : List UInt8) (h : 40 < s.length) : readP s = (0, 2) := by unfold readP; rw [if_pos h]
theorem readP_none (s : List UInt8) (h0 : ¬ 40 < s.length) (h : scan (restL s) 0 0 (-1) = none) : readP s = (0, 15) := by unfold readP; rw [if_neg h0, h]
theorem readP_some (s l : List UInt8) (n D B : Nat) (d : Int) (h0 : ¬ 40 < s.length) (hl : l = restL s) (h : scan l 0 0 (-1) = some (n, d)) (hD : (D : Int) = if d < 0 then (l.length : Int) else d) (hB : min (D + 1) l.length = B) :
    readP s = if D = 0 ∨ D + 1 = l.length then (0, 15)
      else if 65536 * valA 0 (l.drop B) % 10 ^ (l.drop B).length ≠ 0 then (0, 3)
      else if 1099511627776 < n * 65536 + 65536 * valA 0 (l.drop B) / 10 ^ (l.drop B).length then (0, 2)
      else (sgn s (n * 65536 + 65536 * valA 0 (l.drop B) / 10 ^ (l.drop B).length), 0) := by
  subst hl
  unfold readP
  rw [if_neg h0, h]
  simp only
  rw [← hD]
  have e : (min ((D : Int) + 1) ((restL s).length : Int)).toNat = B := by omega
  rw [e]
  have e2 : ((D : Int) = 0 ∨ (D : Int) = ((restL s).length : Int) - 1) ↔ (D = 0 ∨ D + 1 = (restL s).length) := by omega
  by_cases h2 : D = 0 ∨ D + 1 = (restL s).length
  · rw [if_pos (e2.2 h2), if_pos h2]
  · rw [if_neg (fun h => h2 (e2.1 h)), if_neg h2]
theorem scan_tail (l : List UInt8) (n D B : Nat) (d : Int) (h : scan l 0 0 (-1) = some (n, d)) (hD : (D : Int) = if d < 0 then (l.length : Int) else d) (hB : min (D + 1) l.length = B) : (l.drop B).all dgB = true := by
  rw [scan_cut l 0 0 (Int.le_refl 0)] at h
  by_cases hall : ((cutD l).1 ++ (cutD l).2.1).all dgB = true
  · rw [if_pos hall] at h
    have hd := congrArg Prod.snd (Option.some.inj h)
    simp only at hd
    have hf := cutD_false l
    have ht := cutD_true l
    cases hb : (cutD l).2.2 with
    | false =>
      rw [hb] at hd
      simp only [if_false, Bool.false_eq_true] at hd
      subst hd
      rw [if_pos (by decide)] at hD
      have : B = l.length := by omega
      rw [this, List.drop_length]
      rfl
    | true =>
      have hl := ht hb
      rw [hb] at hd
      simp only [if_true] at hd
      subst hd
      rw [if_neg (by omega)] at hD
      have hln := congrArg List.length hl
      rw [List.length_append, List.length_cons] at hln
      have hBB : B = (cutD l).1.length + 1 := by omega
      have : l.drop B = (cutD l).2.1 := by
        conv => lhs; rw [hl]
        rw [hBB, ← List.drop_drop, List.drop_left]
        rfl
      rw [this]
      exact all_sub hall (fun c hc => List.mem_append_right _ hc)
  · rw [if_neg hall] at h; cases h
end Go.Proofs.YtgkmiobabojfiaaDoor
