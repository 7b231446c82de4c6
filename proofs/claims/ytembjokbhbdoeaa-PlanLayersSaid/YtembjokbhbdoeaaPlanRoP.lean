/- Plain laws: the rounds of the reference are the layers. -/
import Derived.Test.YtembjokbhbdoeaaPlanLaw
namespace Go.Proofs.Ytembjokbhbdoeaa
open Go.RowKit Go.Mem
set_option linter.unusedVariables false
def depN (l : List SysV) (m i : Nat) : Nat := (depL l m).getD i 0
def rowR (l : List SysV) (m r : Nat) : List Nat := (List.range m).filter fun i => decide (depN l m i = r + 1)
/-- how many are left behind round r -/
def leftR (l : List SysV) (m r : Nat) : Nat := ((List.range m).filter fun i => decide (r < depN l m i)).length
theorem free_iff (l : List SysV) (m r i : Nat) (hi : i < m) : (¬ depN l m i ≤ r ∧ ∀ j, j < i → depN l m j ≤ r ∨ confB (sysN l j) (sysN l i) = false) ↔ depN l m i = r + 1 := by
  constructor
  · rintro ⟨h1, h2⟩
    unfold depN at *
    rcases depth_from' l m i hi with h | ⟨j, h3, h4, h5⟩
    · omega
    · rcases h2 j h3 with h | h
      · omega
      · rw [h4] at h; cases h
  · intro h
    refine ⟨by omega, fun j hj => ?_⟩
    cases hc : confB (sysN l j) (sysN l i) with
    | false => exact Or.inr rfl
    | true =>
      have := conf_depth' l m i j hi hj hc
      unfold depN at *
      exact Or.inl (by omega)
theorem filter_split (L : List Nat) (p q s : Nat → Bool) (h : ∀ i, p i = (q i || s i)) (hd : ∀ i, ¬ (q i = true ∧ s i = true)) : (L.filter p).length = (L.filter q).length + (L.filter s).length := by
  induction L with
  | nil => rfl
  | cons a r ih =>
    rw [List.filter_cons, List.filter_cons, List.filter_cons]
    have h1 := h a
    have h2 := hd a
    cases hq : q a <;> cases hs : s a <;> simp_all <;> omega
theorem left_step (l : List SysV) (m r : Nat) : leftR l m r = leftR l m (r + 1) + (rowR l m r).length := by
  unfold leftR rowR
  refine filter_split _ _ _ _ (fun i => ?_) (fun i => ?_)
  · rw [← Bool.decide_or]
    exact decide_eq_decide.2 (by omega)
  · simp only [decide_eq_true_eq]; omega
theorem left_zero (l : List SysV) (m : Nat) : leftR l m 0 = m := by
  unfold leftR
  rw [List.filter_eq_self.2, List.length_range]
  intro i hi
  have := (depL_le l m i (List.mem_range.1 hi)).1
  exact decide_eq_true (by unfold depN; omega)
/-- something is left: the next row is not empty -/
theorem row_some (l : List SysV) (m r : Nat) : ∀ i, i < m → r < depN l m i → ∃ j, j < m ∧ depN l m j = r + 1 := by
  intro i
  induction i using Nat.strongRecOn with
  | _ i ih =>
    intro hi hr
    by_cases h : depN l m i = r + 1
    · exact ⟨i, hi, h⟩
    · rcases depth_from' l m i hi with h1 | ⟨j, h1, h2, h3⟩
      · unfold depN at *; omega
      · exact ih j h1 (by omega) (by unfold depN at *; omega)
theorem row_pos (l : List SysV) (m r : Nat) (h : 0 < leftR l m r) : 0 < (rowR l m r).length := by
  unfold leftR at h
  obtain ⟨i, hi⟩ := List.exists_mem_of_length_pos h
  rw [List.mem_filter, List.mem_range, decide_eq_true_eq] at hi
  obtain ⟨j, h1, h2⟩ := row_some l m r i hi.1 hi.2
  exact List.length_pos_of_mem (show j ∈ rowR l m r by unfold rowR; rw [List.mem_filter, List.mem_range, decide_eq_true_eq]; exact ⟨h1, h2⟩)
def roundsL (l : List SysV) (m r : Nat) : List (List Nat) := (List.range r).map (rowR l m)
theorem roundsL_succ (l : List SysV) (m r : Nat) : roundsL l m (r + 1) = roundsL l m r ++ [rowR l m r] := by unfold roundsL; rw [List.range_succ, List.map_append]; rfl
theorem lay_ge (D : List Nat) : ∀ k i, i < k → D.getD i 0 ≤ (layL D k).length := by
  intro k
  induction k with
  | zero => intro i h; omega
  | succ k ih =>
    intro i hi
    rw [layL_succ, layStep_len]
    by_cases e : i = k
    · subst e; omega
    · have := ih i (by omega); omega
/-- when nothing is left, the rows are the layers -/
theorem rounds_done (l : List SysV) (m r : Nat) (h0 : leftR l m r = 0) (hp : r = 0 ∨ 0 < (rowR l m (r - 1)).length) : roundsL l m r = layL (depL l m) m := by
  have hd1 : ∀ j, j < m → 1 ≤ (depL l m).getD j 0 := fun j hj => (depL_le l m j hj).1
  have hrow := layL_row (depL l m) m hd1 m (Nat.le_refl _)
  have hle : ∀ i, i < m → depN l m i ≤ r := by
    intro i hi
    rcases Nat.lt_or_ge r (depN l m i) with h | h
    · have : i ∈ (List.range m).filter fun i => decide (r < depN l m i) := by rw [List.mem_filter, List.mem_range, decide_eq_true_eq]; exact ⟨hi, h⟩
      have := List.length_pos_of_mem this
      unfold leftR at h0
      omega
    · exact h
  have hlen : (layL (depL l m) m).length = r := by
    have h1 : (layL (depL l m) m).length ≤ r := by
      rcases layL_top (depL l m) m with h | ⟨i, h1, h2⟩
      · omega
      · have := hle i h1; unfold depN at this; omega
    have h2 : r ≤ (layL (depL l m) m).length := by
      rcases hp with h | h
      · omega
      · obtain ⟨i, hi⟩ := List.exists_mem_of_length_pos h
        unfold rowR at hi
        rw [List.mem_filter, List.mem_range, decide_eq_true_eq] at hi
        have := lay_ge (depL l m) m i hi.1
        have h3 := hi.2
        unfold depN at h3
        omega
    omega
  refine List.ext_getElem (by unfold roundsL; rw [List.length_map, List.length_range, hlen]) fun q h1 h2 => ?_
  have e := hrow q
  rw [List.getD_eq_getElem?_getD, List.getElem?_eq_getElem h2] at e
  have e2 : (layL (depL l m) m)[q] = (List.range m).filter fun j => decide ((depL l m).getD j 0 = q + 1) := e
  have e3 : (roundsL l m r)[q] = rowR l m q := by simp [roundsL]
  rw [e2, e3]
  rfl
end Go.Proofs.Ytembjokbhbdoeaa
