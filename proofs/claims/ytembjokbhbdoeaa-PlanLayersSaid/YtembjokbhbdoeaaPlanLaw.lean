/- Plain laws: the layers of Layers are right, and no right division has fewer rows that are not empty. -/
import Derived.Test.YtembjokbhbdoeaaPlanEq
import Derived.Test.YtembjokbhbdoeaaPlanLayP
namespace Go.Proofs.Ytembjokbhbdoeaa
open Go.RowKit Go.Mem
set_option linter.unusedVariables false
theorem look_rowE (d : Int) (x : List Int) : ∀ E z, look (rowE d x E) z = if z ∈ x then d else look E z := by
  induction x with
  | nil => intro E z; simp [rowE_nil]
  | cons k r ih =>
    intro E z
    rw [rowE_cons, ih, look_cons]
    by_cases h1 : z ∈ r
    · rw [if_pos h1, if_pos (List.mem_cons_of_mem _ h1)]
    · rw [if_neg h1]
      by_cases h2 : k = z
      · rw [if_pos h2, if_pos (by rw [h2]; exact List.mem_cons_self)]
      · rw [if_neg h2, if_neg (by rw [List.mem_cons]; rintro (h | h); exact h2 h.symm; exact h1 h)]
/-- the latest row that has z -/
theorem look_rowsE (ls : List (List Int)) : ∀ d E z, (∃ r, ∃ h : r < ls.length, z ∈ ls[r] ∧ look (rowsE d ls E) z = (d + r : Nat)) ∨ ((∀ x ∈ ls, ¬ z ∈ x) ∧ look (rowsE d ls E) z = look E z) := by
  induction ls with
  | nil => intro d E z; exact Or.inr ⟨fun x h => absurd h List.not_mem_nil, rfl⟩
  | cons x rs ih =>
    intro d E z
    rw [rowsE_cons]
    rcases ih (d + 1) (rowE d x E) z with ⟨r, h, h1, h2⟩ | ⟨h1, h2⟩
    · exact Or.inl ⟨r + 1, by simp; exact h, h1, by rw [h2]; omega⟩
    · rw [look_rowE] at h2
      by_cases hz : z ∈ x
      · rw [if_pos hz] at h2
        exact Or.inl ⟨0, by simp, hz, by rw [h2]; omega⟩
      · rw [if_neg hz] at h2
        refine Or.inr ⟨fun y hy => ?_, h2⟩
        rcases List.mem_cons.1 hy with rfl | hy
        · exact hz
        · exact h1 y hy
theorem lens_set (out : List (List Nat)) (q k : Nat) (h : q < out.length) : lens ((out.set q (out.getD q [] ++ [k])).map ints) = lens (out.map ints) + 1 := by
  induction out generalizing q with
  | nil => simp at h
  | cons x rs ih =>
    cases q with
    | zero =>
      rw [List.set_cons_zero, List.map_cons, List.map_cons, lens_cons, lens_cons, List.getD_eq_getElem?_getD]
      simp [ints_len]
      omega
    | succ q =>
      rw [List.set_cons_succ, List.map_cons, List.map_cons, lens_cons, lens_cons]
      have := ih q (by simpa using h)
      have e : (x :: rs).getD (q + 1) [] = rs.getD q [] := by simp [List.getD_eq_getElem?_getD]
      rw [e, this]
      omega
theorem lens_pad (out : List (List Nat)) (d : Nat) : lens ((padRows out d).map ints) = lens (out.map ints) := by
  unfold padRows lens
  rw [List.map_append, List.map_append, List.sum_append]
  have : ((List.map ints (List.replicate (d - out.length) [])).map (·.length)).sum = 0 := by
    rw [List.map_replicate, List.map_replicate]
    simp [ints]
  omega
theorem layL_lens (D : List Nat) (m : Nat) (hd : ∀ j, j < m → 1 ≤ D.getD j 0) : ∀ k, k ≤ m → lens ((layL D k).map ints) = k := by
  intro k
  induction k with
  | zero => intro _; rfl
  | succ k ih =>
    intro hk
    have h1 := hd k (by omega)
    rw [layL_succ]
    unfold layStep
    rw [lens_set _ _ _ (by rw [padRows_len]; omega), lens_pad, ih (by omega)]
theorem pad_getD (out : List (List Nat)) (d r : Nat) : (padRows out d).getD r [] = out.getD r [] := by
  unfold padRows
  rw [List.getD_eq_getElem?_getD, List.getD_eq_getElem?_getD]
  by_cases h : r < out.length
  · rw [List.getElem?_append_left h]
  · rw [List.getElem?_append_right (by omega), List.getElem?_eq_none (l := out) (by omega), List.getElem?_replicate]
    split <;> rfl
theorem layL_row (D : List Nat) (m : Nat) (hd : ∀ j, j < m → 1 ≤ D.getD j 0) : ∀ k, k ≤ m → ∀ r, (layL D k).getD r [] = (List.range k).filter fun j => decide (D.getD j 0 = r + 1) := by
  intro k
  induction k with
  | zero => intro _ r; rfl
  | succ k ih =>
    intro hk r
    have h1 := hd k (by omega)
    rw [layL_succ]
    unfold layStep
    rw [getD_set _ _ _ _ _ (by rw [padRows_len]; omega), pad_getD, pad_getD, List.range_succ, List.filter_append]
    by_cases e : r = D.getD k 0 - 1
    · rw [if_pos e, ← e, ih (by omega)]
      have : decide (D.getD k 0 = r + 1) = true := decide_eq_true (by omega)
      rw [List.filter_cons, this, if_pos rfl, List.filter_nil]
    · rw [if_neg e, ih (by omega)]
      have : decide (D.getD k 0 = r + 1) = false := decide_eq_false (by omega)
      rw [List.filter_cons, this, if_neg (by decide), List.filter_nil, List.append_nil]
theorem filter_sorted (k : Nat) (p : Nat → Bool) : SortedL (ints ((List.range k).filter p)) := by
  have h : ((List.range k).filter p).Pairwise (· < ·) := List.Pairwise.filter _ (List.pairwise_lt_range (n := k))
  intro j hj
  rw [ints_len] at hj
  have e : ∀ q (hq : q < ((List.range k).filter p).length), (ints ((List.range k).filter p)).getD q 0 = ((((List.range k).filter p)[q] : Nat) : Int) := fun q hq => by
    unfold ints
    rw [List.getD_eq_getElem?_getD, List.getElem?_map, List.getElem?_eq_getElem hq]; rfl
  rw [e j (by omega), e (j + 1) hj]
  have := List.pairwise_iff_getElem.1 h j (j + 1) (by omega) hj (by omega)
  omega
theorem conf_depth (l : List SysV) (k : Nat) : ∀ q, q ≤ k → ∀ j, j < q → confB (sysN l j) (sysN l k) = true → (depL l k).getD j 0 < depAt l (depL l k) k q := by
  intro q
  induction q with
  | zero => intro _ j hj; omega
  | succ q ih =>
    intro hq j hj hc
    rw [depAt_succ]
    by_cases e : j = q
    · subst e; rw [if_pos hc]; omega
    · have := ih (by omega) j (by omega) hc
      split <;> omega
theorem depth_from (l : List SysV) (k : Nat) : ∀ q, q ≤ k → depAt l (depL l k) k q = 1 ∨ ∃ j, j < q ∧ confB (sysN l j) (sysN l k) = true ∧ depAt l (depL l k) k q = (depL l k).getD j 0 + 1 := by
  intro q
  induction q with
  | zero => intro _; exact Or.inl rfl
  | succ q ih =>
    intro hq
    rw [depAt_succ]
    by_cases hc : confB (sysN l q) (sysN l k) = true
    · rw [if_pos hc]
      by_cases h : depAt l (depL l k) k q ≤ (depL l k).getD q 0 + 1
      · exact Or.inr ⟨q, by omega, hc, by omega⟩
      · rcases ih (by omega) with h1 | ⟨j, h1, h2, h3⟩
        · have := depL_le l k q (by omega); omega
        · exact Or.inr ⟨j, by omega, h2, by omega⟩
    · rw [if_neg hc]
      rcases ih (by omega) with h1 | ⟨j, h1, h2, h3⟩
      · exact Or.inl h1
      · exact Or.inr ⟨j, by omega, h2, h3⟩
theorem depL_at (l : List SysV) (m i : Nat) (h : i < m) : (depL l m).getD i 0 = depAt l (depL l i) i i := by
  rw [depL_stay l (i + 1) m (by omega) i (by omega), depL_succ, List.getD_eq_getElem?_getD, List.getElem?_append_right (by rw [depL_len]; exact Nat.le_refl _), depL_len, Nat.sub_self]
  rfl
theorem conf_depth' (l : List SysV) (m i j : Nat) (hi : i < m) (hj : j < i) (hc : confB (sysN l j) (sysN l i) = true) : (depL l m).getD j 0 < (depL l m).getD i 0 := by
  rw [depL_at l m i hi, depL_stay l i m (by omega) j hj]
  exact conf_depth l i i (Nat.le_refl _) j hj hc
theorem depth_from' (l : List SysV) (m i : Nat) (hi : i < m) : (depL l m).getD i 0 = 1 ∨ ∃ j, j < i ∧ confB (sysN l j) (sysN l i) = true ∧ (depL l m).getD i 0 = (depL l m).getD j 0 + 1 := by
  rw [depL_at l m i hi]
  rcases depth_from l i i (Nat.le_refl _) with h | ⟨j, h1, h2, h3⟩
  · exact Or.inl h
  · exact Or.inr ⟨j, h1, h2, by rw [h3, depL_stay l i m (by omega) j h1]⟩
theorem layers_right (l : List SysV) (m : Nat) : DivS l m ((layL (depL l m) m).map ints) := by
  have hd1 : ∀ j, j < m → 1 ≤ (depL l m).getD j 0 := fun j hj => (depL_le l m j hj).1
  have hrow := layL_row (depL l m) m hd1 m (Nat.le_refl _)
  have hlen := layL_lens (depL l m) m hd1 m (Nat.le_refl _)
  have hget : ∀ r (h : r < ((layL (depL l m) m).map ints).length), ((layL (depL l m) m).map ints)[r] = ints ((List.range m).filter fun j => decide ((depL l m).getD j 0 = r + 1)) := fun r h => by
    rw [List.getElem_map, ← hrow r, List.getD_eq_getElem?_getD, List.getElem?_eq_getElem (by simpa using h)]; rfl
  have hmem : ∀ r (h : r < ((layL (depL l m) m).map ints).length) (z : Int), z ∈ ((layL (depL l m) m).map ints)[r] → ∃ j : Nat, j < m ∧ z = j ∧ (depL l m).getD j 0 = r + 1 := by
    intro r h z hz
    rw [hget r h] at hz
    unfold ints at hz
    obtain ⟨j, hj, rfl⟩ := List.mem_map.1 hz
    rw [List.mem_filter, List.mem_range, decide_eq_true_eq] at hj
    exact ⟨j, hj.1, rfl, hj.2⟩
  have hin : ∀ i : Nat, i < m → ∃ x ∈ (layL (depL l m) m).map ints, (i : Int) ∈ x := by
    intro i hi
    obtain ⟨r, hr⟩ : ∃ r, (depL l m).getD i 0 = r + 1 := ⟨(depL l m).getD i 0 - 1, by have := hd1 i hi; omega⟩
    have hmi : i ∈ (layL (depL l m) m).getD r [] := by
      rw [hrow r, List.mem_filter, List.mem_range, decide_eq_true_eq]; exact ⟨hi, hr⟩
    have hlt : r < (layL (depL l m) m).length := by
      rcases Nat.lt_or_ge r (layL (depL l m) m).length with h | h
      · exact h
      · rw [List.getD_eq_getElem?_getD, List.getElem?_eq_none h] at hmi; cases hmi
    rw [List.getD_eq_getElem?_getD, List.getElem?_eq_getElem hlt] at hmi
    exact ⟨ints (layL (depL l m) m)[r], List.mem_map.2 ⟨_, List.getElem_mem hlt, rfl⟩, by unfold ints; exact List.mem_map.2 ⟨i, hmi, rfl⟩⟩
  have hkl : (keysE (rowsE 0 ((layL (depL l m) m).map ints) [])).length = m := by rw [keysE_len, rowsE_len, hlen]; simp
  have hki : ∀ i : Nat, i < m → (i : Int) ∈ keysE (rowsE 0 ((layL (depL l m) m).map ints) []) := fun i hi => (mem_rowsE _ _ _ _).2 (Or.inl (hin i hi))
  have hlook : ∀ i : Nat, i < m → look (rowsE 0 ((layL (depL l m) m).map ints) []) i + 1 = (depL l m).getD i 0 := by
    intro i hi
    rcases look_rowsE ((layL (depL l m) m).map ints) 0 [] i with ⟨r, h, h1, h2⟩ | ⟨h1, _⟩
    · obtain ⟨j, hj, hji, hdj⟩ := hmem r h i h1
      obtain rfl : i = j := by omega
      rw [h2, hdj]; omega
    · obtain ⟨x, hx, hxi⟩ := hin i hi
      exact absurd hxi (h1 x hx)
  refine ⟨?_, hlen, by rw [distN_nodup _ (pigeon2 m _ hkl hki).1, hkl], fun i hi => ⟨hki i hi, fun j hj hc => ?_⟩⟩
  · intro x hx
    obtain ⟨r, hr, rfl⟩ := List.getElem_of_mem hx
    rw [hget r hr]
    exact filter_sorted _ _
  · have h1 := hlook i hi
    have h2 := hlook j (by omega)
    have h3 := conf_depth' l m i j hi hj (by rw [confB_comm]; exact hc)
    omega
/-- how many rows are not empty -/
def fullN (ls : List (List Int)) : Nat := (ls.map fun x => min x.length 1).sum
theorem fullN_cons (x : List Int) (rs : List (List Int)) : fullN (x :: rs) = min x.length 1 + fullN rs := by unfold fullN; simp
theorem fullN_app (a b : List (List Int)) : fullN (a ++ b) = fullN a + fullN b := by unfold fullN; simp
theorem fullN_take_le (ls : List (List Int)) (r : Nat) : fullN (ls.take r) ≤ fullN ls := by
  conv => rhs; rw [← List.take_append_drop r ls]
  rw [fullN_app]; omega
theorem fullN_step (ls : List (List Int)) (r : Nat) (h : r < ls.length) (hne : ls[r] ≠ []) : fullN (ls.take (r + 1)) = fullN (ls.take r) + 1 := by
  rw [List.take_succ_eq_append_getElem h, fullN_app]
  have : 0 < (ls[r]).length := List.length_pos_iff.2 hne
  have e : fullN [ls[r]] = min (ls[r]).length 1 := by unfold fullN; simp
  rw [e]
  omega
theorem fullN_mono (ls : List (List Int)) (a b : Nat) (h : a ≤ b) : fullN (ls.take a) ≤ fullN (ls.take b) := by
  have := fullN_take_le (ls.take b) a
  rwa [List.take_take, Nat.min_eq_left h] at this
theorem layL_top (D : List Nat) (k : Nat) : (layL D k).length = 0 ∨ ∃ i, i < k ∧ D.getD i 0 = (layL D k).length := by
  induction k with
  | zero => exact Or.inl rfl
  | succ k ih =>
    rw [layL_succ, layStep_len]
    by_cases h : (layL D k).length ≤ D.getD k 0
    · exact Or.inr ⟨k, by omega, by omega⟩
    · rcases ih with h0 | ⟨i, h1, h2⟩
      · omega
      · exact Or.inr ⟨i, by omega, by omega⟩
theorem full_enough (l : List SysV) (m : Nat) (ls : List (List Int)) (h : DivS l m ls) : (layL (depL l m) m).length ≤ fullN ls := by
  obtain ⟨_, _, _, hc⟩ := h
  have hrow : ∀ i : Nat, i < m → ∃ r, ∃ hr : r < ls.length, (i : Int) ∈ ls[r] ∧ look (rowsE 0 ls []) i = r := by
    intro i hi
    rcases look_rowsE ls 0 [] i with ⟨r, hr, h1, h2⟩ | ⟨h1, _⟩
    · exact ⟨r, hr, h1, by rw [h2]; omega⟩
    · rcases (mem_rowsE ls 0 [] i).1 (hc i hi).1 with ⟨x, hx, hz⟩ | h2
      · exact absurd hz (h1 x hx)
      · cases h2
  have key : ∀ i : Nat, i < m → ∀ r : Nat, look (rowsE 0 ls []) i = r → (depL l m).getD i 0 ≤ fullN (ls.take (r + 1)) := by
    intro i
    induction i using Nat.strongRecOn with
    | _ i ih =>
      intro hi r hr
      obtain ⟨r', hr', hm, hl⟩ := hrow i hi
      obtain rfl : r = r' := by omega
      have hst := fullN_step ls r hr' (fun e => by rw [e] at hm; cases hm)
      rcases depth_from' l m i hi with h1 | ⟨j, h1, h2, h3⟩
      · omega
      · obtain ⟨rj, _, _, hlj⟩ := hrow j (by omega)
        have hlt := (hc i hi).2 j h1 (by rw [confB_comm]; exact h2)
        have := ih j h1 (by omega) rj hlj
        have hmono := fullN_mono ls (rj + 1) r (by omega)
        omega
  rcases layL_top (depL l m) m with h0 | ⟨i, h1, h2⟩
  · omega
  · obtain ⟨r, _, _, hl⟩ := hrow i h1
    have := key i h1 r hl
    have := fullN_take_le ls (r + 1)
    omega
end Go.Proofs.Ytembjokbhbdoeaa
