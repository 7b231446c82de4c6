/- Trees of digests: the levels (plain). -/
import Derived.Test.YtdhaaeaacbnghaaMerkleP2
namespace Go.Mk
section
variable (T : Int → Int → Int)
def levsF : Nat → List Int → List (List Int)
  | 0, l => [l]
  | f + 1, l => if l.length ≤ 1 then [l] else l :: levsF f (pair T l)
theorem levsF_fuel : ∀ (f g : Nat) (l : List Int), l.length ≤ f → l.length ≤ g → levsF T f l = levsF T g l
  | 0, 0, l, _, _ => rfl
  | 0, g + 1, l, h, _ => by
    have : l.length ≤ 1 := by omega
    simp [levsF, this]
  | f + 1, 0, l, _, h => by
    have : l.length ≤ 1 := by omega
    simp [levsF, this]
  | f + 1, g + 1, l, h1, h2 => by
    unfold levsF
    by_cases h0 : l.length ≤ 1
    · rw [if_pos h0, if_pos h0]
    · rw [if_neg h0, if_neg h0, levsF_fuel f g (pair T l) (by rw [pair_length]; omega) (by rw [pair_length]; omega)]
def levs (l : List Int) : List (List Int) := levsF T l.length l
theorem levs_short (l : List Int) (h : l.length ≤ 1) : levs T l = [l] := by
  unfold levs
  rcases (show l.length = 0 ∨ l.length = 1 by omega) with e | e <;> rw [e]
  · rfl
  · simp [levsF, e]
theorem levs_long (l : List Int) (h : 2 ≤ l.length) : levs T l = l :: levs T (pair T l) := by
  obtain ⟨f, hf'⟩ : ∃ f, l.length = f + 1 := ⟨l.length - 1, by omega⟩
  have e : levs T l = levsF T (f + 1) l := by unfold levs; rw [hf']
  rw [e]
  unfold levsF
  rw [if_neg (by omega)]
  unfold levs
  rw [levsF_fuel T f _ (pair T l) (by rw [pair_length]; omega) (Nat.le_refl _)]
theorem pair_getD : ∀ (t : Nat) (l : List Int), 2 * t < l.length → (pair T l).getD t 0 = if 2 * t + 1 < l.length then T (l.getD (2 * t) 0) (l.getD (2 * t + 1) 0) else l.getD (2 * t) 0
  | 0, [], h => by simp at h
  | 0, [a], _ => by simp [pair]
  | 0, a :: b :: r, _ => by simp [pair]
  | t + 1, [], h => by simp at h
  | t + 1, [a], h => by simp at h
  | t + 1, a :: b :: r, h => by
    have ih := pair_getD t r (by simp at h; omega)
    show (pair T r).getD t 0 = _
    rw [ih]
    have e1 : (a :: b :: r).getD (2 * (t + 1)) 0 = r.getD (2 * t) 0 := by rw [Nat.mul_add]; rfl
    have e2 : (a :: b :: r).getD (2 * (t + 1) + 1) 0 = r.getD (2 * t + 1) 0 := by rw [Nat.mul_add]; rfl
    rw [e1, e2]
    by_cases q : 2 * t + 1 < r.length
    · rw [if_pos q, if_pos (by simp; omega)]
    · rw [if_neg q, if_neg (by simp; omega)]
theorem levs_ne (l : List Int) : levs T l ≠ [] := by
  by_cases h : l.length ≤ 1
  · rw [levs_short T l h]; simp
  · rw [levs_long T l (by omega)]; simp
theorem levs_pos (l : List Int) : 1 ≤ (levs T l).length := by
  have := List.length_pos_iff.2 (levs_ne T l)
  exact this
theorem levs_length : ∀ (n : Nat) (l : List Int), l.length = n → (levs T l).length ≤ n + 1 := by
  intro n
  induction n using Nat.strongRecOn with
  | _ n ih =>
    intro l hl
    by_cases h : l.length ≤ 1
    · rw [levs_short T l h]; simp
    · rw [levs_long T l (by omega)]
      have := ih ((n + 1) / 2) (by omega) (pair T l) (by rw [pair_length, hl])
      simp; omega
/-- The last level is the root alone. -/
theorem levs_last : ∀ (n : Nat) (l : List Int), l.length = n → 1 ≤ n → (levs T l).getD ((levs T l).length - 1) [] = [top T l] := by
  intro n
  induction n using Nat.strongRecOn with
  | _ n ih =>
    intro l hl h1
    by_cases h : n = 1
    · rw [levs_short T l (by omega)]
      match l, hl.trans h with
      | [a], _ => rfl
    · have hp := ih ((n + 1) / 2) (by omega) (pair T l) (by rw [pair_length, hl]) (by omega)
      rw [top_pair T n l hl (by omega)] at hp
      rw [levs_long T l (by omega)]
      have h2 := levs_pos T (pair T l)
      obtain ⟨m, hm⟩ : ∃ m, (levs T (pair T l)).length = m + 1 := ⟨(levs T (pair T l)).length - 1, by omega⟩
      rw [hm] at hp
      rw [List.length_cons, hm]
      exact hp
end
end Go.Mk
