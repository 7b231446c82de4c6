/- Trees of digests: one level from the next (plain). -/
import Derived.Test.YtdhaaeaacbnghaaMerkleP3
namespace Go.Mk
section
variable (T : Int → Int → Int)
theorem levs_zero (l : List Int) : (levs T l).getD 0 [] = l := by
  by_cases h : l.length ≤ 1
  · rw [levs_short T l h]; rfl
  · rw [levs_long T l (by omega)]; rfl
theorem levs_succ : ∀ (n : Nat) (l : List Int), l.length = n → ∀ k, k + 1 < (levs T l).length → (levs T l).getD (k + 1) [] = pair T ((levs T l).getD k []) ∧ 2 ≤ ((levs T l).getD k []).length := by
  intro n
  induction n using Nat.strongRecOn with
  | _ n ih =>
    intro l hl k hk
    by_cases h : l.length ≤ 1
    · rw [levs_short T l h] at hk; simp at hk
    · rw [levs_long T l (by omega)] at hk ⊢
      cases k with
      | zero =>
        show (levs T (pair T l)).getD 0 [] = pair T l ∧ 2 ≤ l.length
        exact ⟨levs_zero T (pair T l), by omega⟩
      | succ k =>
        have := ih ((n + 1) / 2) (by omega) (pair T l) (by rw [pair_length, hl]) k (by simp at hk; omega)
        exact this
theorem levs_same : ∀ (n : Nat) (l m : List Int), l.length = n → m.length = n → (levs T l).length = (levs T m).length ∧ ∀ i, ((levs T l).getD i []).length = ((levs T m).getD i []).length := by
  intro n
  induction n using Nat.strongRecOn with
  | _ n ih =>
    intro l m hl hm
    by_cases h : n ≤ 1
    · rw [levs_short T l (by omega), levs_short T m (by omega)]
      refine ⟨rfl, fun i => ?_⟩
      cases i with
      | zero => show l.length = m.length; omega
      | succ i => rfl
    · obtain ⟨h1, h2⟩ := ih ((n + 1) / 2) (by omega) (pair T l) (pair T m) (by rw [pair_length, hl]) (by rw [pair_length, hm])
      rw [levs_long T l (by omega), levs_long T m (by omega)]
      refine ⟨by simp [h1], fun i => ?_⟩
      cases i with
      | zero => show l.length = m.length; omega
      | succ i => exact h2 i
theorem levs_all (p : List Int → Prop) (hp : ∀ l, p l → p (pair T l)) : ∀ (n : Nat) (l : List Int), l.length = n → p l → ∀ i, i < (levs T l).length → p ((levs T l).getD i []) := by
  intro n
  induction n using Nat.strongRecOn with
  | _ n ih =>
    intro l hl h i hi
    by_cases h1 : l.length ≤ 1
    · rw [levs_short T l h1] at hi ⊢
      have : i = 0 := by simp at hi; exact hi
      subst this; exact h
    · rw [levs_long T l (by omega)] at hi ⊢
      cases i with
      | zero => exact h
      | succ i => exact ih ((n + 1) / 2) (by omega) (pair T l) (by rw [pair_length, hl]) (hp l h) i (by simp at hi; omega)
/-- The way down at a level. -/
def way (X Y : List Int) (j : Nat) : Nat × Nat := nd T ((levs T X).getD j []) ((levs T Y).getD j [])
theorem way_top (X Y : List Int) (h1 : 1 ≤ X.length) : way T X Y ((levs T X).length - 1) = (0, 0) := by
  unfold way
  apply nd_one
  rw [levs_last T X.length X rfl h1]
  simp
theorem way_down (X Y : List Int) (h : X.length = Y.length) (j : Nat) (hj : j + 1 < (levs T X).length) : way T X Y j = down ((levs T X).getD j []).length ((levs T X).getD j []) ((levs T Y).getD j []) (way T X Y (j + 1)) ∧ 2 * (way T X Y (j + 1)).1 < ((levs T X).getD j []).length := by
  obtain ⟨s1, s2⟩ := levs_same T X.length X Y rfl h.symm
  obtain ⟨x1, x2⟩ := levs_succ T X.length X rfl j hj
  obtain ⟨y1, y2⟩ := levs_succ T Y.length Y rfl j (by rw [← s1]; exact hj)
  unfold way
  rw [x1, y1]
  refine ⟨nd_pair T _ _ _ rfl (s2 j).symm x2, ?_⟩
  have := nd_lt T (((levs T X).getD j []).length + 1) (pair T ((levs T X).getD j [])) (pair T ((levs T Y).getD j []))
  have hl := pair_length T ((levs T X).getD j [])
  have := nd_lt T _ (pair T ((levs T X).getD j [])) (pair T ((levs T Y).getD j [])) rfl (by omega)
  omega
theorem way_zero (X Y : List Int) : way T X Y 0 = nd T X Y := by unfold way; rw [levs_zero, levs_zero]
end
end Go.Mk
