/- Plain: what plan.Chain computes. -/
import Derived.Test.YtembjokbhbdoeaaPlanDepP
import Derived.Test.YtembjokbhbdoeaaPlanLayP
namespace Go.Proofs.Ytembjokbhbdoeaa
open Go.RowKit Go.Mem
set_option linter.unusedVariables false
/-- the longest chain from system i on, when q systems behind it were looked at; T: those of the systems behind it -/
def resAt (l : List SysV) (i : Nat) (T : List Nat) : Nat → Nat
  | 0 => 1
  | q + 1 => if confB (sysN l i) (sysN l (i + 1 + q)) = true then max (resAt l i T q) (T.getD q 0 + 1) else resAt l i T q
theorem resAt_zero (l : List SysV) (i : Nat) (T : List Nat) : resAt l i T 0 = 1 := rfl
theorem resAt_succ (l : List SysV) (i : Nat) (T : List Nat) (q : Nat) : resAt l i T (q + 1) = if confB (sysN l i) (sysN l (i + 1 + q)) = true then max (resAt l i T q) (T.getD q 0 + 1) else resAt l i T q := rfl
/-- the last k systems' -/
def resL (l : List SysV) (m : Nat) : Nat → List Nat
  | 0 => []
  | k + 1 => resAt l (m - (k + 1)) (resL l m k) k :: resL l m k
theorem resL_succ (l : List SysV) (m k : Nat) : resL l m (k + 1) = resAt l (m - (k + 1)) (resL l m k) k :: resL l m k := rfl
theorem resL_len (l : List SysV) (m k : Nat) : (resL l m k).length = k := by
  induction k with
  | zero => rfl
  | succ k ih => rw [resL_succ, List.length_cons, ih]
theorem resAt_bd (l : List SysV) (i : Nat) (T : List Nat) (b : Nat) (hT : ∀ q, q < T.length → T.getD q 0 ≤ b) : ∀ q, q ≤ T.length → 1 ≤ resAt l i T q ∧ resAt l i T q ≤ b + 1 := by
  intro q
  induction q with
  | zero => intro _; rw [resAt_zero]; omega
  | succ q ih =>
    intro hq
    have h1 := ih (by omega)
    have h2 := hT q (by omega)
    rw [resAt_succ]
    split <;> omega
theorem resL_bd (l : List SysV) (m : Nat) : ∀ k q, q < k → 1 ≤ (resL l m k).getD q 0 ∧ (resL l m k).getD q 0 ≤ k := by
  intro k
  induction k with
  | zero => intro q h; omega
  | succ k ih =>
    intro q hq
    rw [resL_succ]
    cases q with
    | zero =>
      have := resAt_bd l (m - (k + 1)) (resL l m k) k (fun q h => by rw [resL_len] at h; exact (ih q h).2) k (by rw [resL_len]; exact Nat.le_refl _)
      simpa using this
    | succ q =>
      have := ih q (by omega)
      have e : (resAt l (m - (k + 1)) (resL l m k) k :: resL l m k).getD (q + 1) 0 = (resL l m k).getD q 0 := by simp [List.getD_eq_getElem?_getD]
      rw [e]
      omega
/-- the row, when k systems are done -/
def resRow0 (l : List SysV) (m k : Nat) : List Int := ints (List.replicate (m - k) 0 ++ resL l m k)
/-- the row at system i = m - k - 1, when q systems behind it were looked at -/
def resRow (l : List SysV) (m k q : Nat) : List Int := ints (List.replicate (m - (k + 1)) 0 ++ resAt l (m - (k + 1)) (resL l m k) q :: resL l m k)
theorem resRow0_len (l : List SysV) (m k : Nat) (h : k ≤ m) : (resRow0 l m k).length = m := by
  unfold resRow0; rw [ints_len, List.length_append, List.length_replicate, resL_len]; omega
theorem resRow_len (l : List SysV) (m k q : Nat) (h : k < m) : (resRow l m k q).length = m := by
  unfold resRow; rw [ints_len, List.length_append, List.length_replicate, List.length_cons, resL_len]; omega
theorem ints_getD (l : List Nat) (j : Nat) : (ints l).getD j 0 = (l.getD j 0 : Nat) := by
  unfold ints
  rw [List.getD_eq_getElem?_getD, List.getElem?_map, List.getD_eq_getElem?_getD]
  cases l[j]? <;> rfl
theorem ints_set (l : List Nat) (j v : Nat) : (ints l).set j (v : Int) = ints (l.set j v) := by unfold ints; rw [List.map_set]
theorem resRow_at (l : List SysV) (m k q : Nat) : (resRow l m k q).getD (m - (k + 1)) 0 = (resAt l (m - (k + 1)) (resL l m k) q : Nat) := by
  unfold resRow
  rw [ints_getD, List.getD_eq_getElem?_getD, List.getElem?_append_right (by simp)]
  simp
theorem resRow_far (l : List SysV) (m k q t : Nat) : (resRow l m k q).getD (m - (k + 1) + 1 + t) 0 = ((resL l m k).getD t 0 : Nat) := by
  unfold resRow
  rw [ints_getD, List.getD_eq_getElem?_getD, List.getElem?_append_right (by simp; omega)]
  simp only [List.length_replicate]
  rw [show m - (k + 1) + 1 + t - (m - (k + 1)) = t + 1 by omega]
  simp [List.getD_eq_getElem?_getD]
theorem resRow_set (l : List SysV) (m k q r : Nat) : (resRow l m k q).set (m - (k + 1)) (resAt l (m - (k + 1)) (resL l m k) r : Nat) = resRow l m k r := by
  unfold resRow
  rw [ints_set, List.set_append_right _ _ (by simp)]
  simp
theorem resRow0_set (l : List SysV) (m k : Nat) (h : k < m) : (resRow0 l m k).set (m - (k + 1)) 1 = resRow l m k 0 := by
  unfold resRow0 resRow
  have e := ints_set (List.replicate (m - k) 0 ++ resL l m k) (m - (k + 1)) 1
  have e1 : ((1 : Nat) : Int) = 1 := rfl
  rw [e1] at e
  rw [e, show m - k = (m - (k + 1)) + 1 by omega, List.replicate_succ', List.append_assoc, List.set_append_right _ _ (by simp)]
  simp [resAt_zero]
theorem resRow_end (l : List SysV) (m k : Nat) : resRow l m k k = resRow0 l m (k + 1) := rfl
theorem resRow0_zero (l : List SysV) (m : Nat) : resRow0 l m 0 = List.replicate m 0 := by
  unfold resRow0 resL ints
  simp
theorem resRow0_top (l : List SysV) (m : Nat) : resRow0 l m m = ints (resL l m m) := by
  unfold resRow0
  simp
/-- the greatest -/
def bestL : List Nat → Nat
  | [] => 0
  | a :: r => max (bestL r) a
theorem bestL_cons (a : Nat) (r : List Nat) : bestL (a :: r) = max (bestL r) a := rfl
/-- the systems that are taken -/
def chG (l : List SysV) (R : List Nat) (b : Nat) : Nat → List Nat
  | 0 => []
  | i + 1 => if (chG l R b i).length < b ∧ R.getD i 0 = b - (chG l R b i).length ∧ ((chG l R b i).length = 0 ∨ confB (sysN l ((chG l R b i).getD ((chG l R b i).length - 1) 0)) (sysN l i) = true) then chG l R b i ++ [i] else chG l R b i
theorem chG_succ (l : List SysV) (R : List Nat) (b i : Nat) : chG l R b (i + 1) = if (chG l R b i).length < b ∧ R.getD i 0 = b - (chG l R b i).length ∧ ((chG l R b i).length = 0 ∨ confB (sysN l ((chG l R b i).getD ((chG l R b i).length - 1) 0)) (sysN l i) = true) then chG l R b i ++ [i] else chG l R b i := rfl
theorem chG_bd (l : List SysV) (R : List Nat) (b : Nat) : ∀ i, (chG l R b i).length ≤ i ∧ ∀ x ∈ chG l R b i, x < i := by
  intro i
  induction i with
  | zero => exact ⟨Nat.le_refl _, fun x h => by cases h⟩
  | succ i ih =>
    rw [chG_succ]
    split
    · refine ⟨by rw [List.length_append, List.length_singleton]; omega, fun x hx => ?_⟩
      rcases List.mem_append.1 hx with h | h
      · have := ih.2 x h; omega
      · have := List.mem_singleton.1 h; omega
    · exact ⟨by omega, fun x hx => by have := ih.2 x hx; omega⟩
end Go.Proofs.Ytembjokbhbdoeaa
