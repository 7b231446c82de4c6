/- Plain laws: the depths of systems. -/
import Derived.Test.YtembjokbhbdoeaaPlanConf
namespace Go.Proofs.Ytembjokbhbdoeaa
open Go.RowKit Go.Mem
set_option linter.unusedVariables false
def sysN (l : List SysV) (i : Nat) : SysV := l.getD i default
def depAt (l : List SysV) (D : List Nat) (i : Nat) : Nat → Nat
  | 0 => 1
  | j + 1 => if confB (sysN l j) (sysN l i) = true then max (depAt l D i j) (D.getD j 0 + 1) else depAt l D i j
theorem depAt_zero (l : List SysV) (D : List Nat) (i : Nat) : depAt l D i 0 = 1 := rfl
theorem depAt_succ (l : List SysV) (D : List Nat) (i j : Nat) : depAt l D i (j + 1) = if confB (sysN l j) (sysN l i) = true then max (depAt l D i j) (D.getD j 0 + 1) else depAt l D i j := rfl
def depL (l : List SysV) : Nat → List Nat
  | 0 => []
  | k + 1 => depL l k ++ [depAt l (depL l k) k k]
theorem depL_succ (l : List SysV) (k : Nat) : depL l (k + 1) = depL l k ++ [depAt l (depL l k) k k] := rfl
theorem depL_len (l : List SysV) (k : Nat) : (depL l k).length = k := by
  induction k with
  | zero => rfl
  | succ k ih => rw [depL_succ, List.length_append, ih]; rfl
theorem depL_le (l : List SysV) (k : Nat) : ∀ j, j < k → 1 ≤ (depL l k).getD j 0 ∧ (depL l k).getD j 0 ≤ j + 1 := by
  induction k with
  | zero => intro j h; omega
  | succ k ih =>
    have hat : ∀ q, q ≤ k → 1 ≤ depAt l (depL l k) k q ∧ depAt l (depL l k) k q ≤ k + 1 := by
      intro q
      induction q with
      | zero => intro _; rw [depAt_zero]; omega
      | succ q ihq =>
        intro hq
        have h1 := ihq (by omega)
        have h2 := ih q (by omega)
        rw [depAt_succ]
        split <;> omega
    intro j hj
    rw [depL_succ, List.getD_eq_getElem?_getD]
    by_cases h : j < k
    · rw [List.getElem?_append_left (by rw [depL_len]; exact h), ← List.getD_eq_getElem?_getD]
      exact ih j h
    · obtain rfl : j = k := by omega
      rw [List.getElem?_append_right (by rw [depL_len]; exact Nat.le_refl _), depL_len, Nat.sub_self]
      exact hat j (Nat.le_refl _)
theorem depAt_le (l : List SysV) (k q : Nat) (hq : q ≤ k) : 1 ≤ depAt l (depL l k) k q ∧ depAt l (depL l k) k q ≤ k + 1 := by
  induction q with
  | zero => rw [depAt_zero]; omega
  | succ q ihq =>
    have h1 := ihq (by omega)
    have h2 := depL_le l k q (by omega)
    rw [depAt_succ]
    split <;> omega
theorem depL_stay (l : List SysV) (k : Nat) : ∀ n, k ≤ n → ∀ j, j < k → (depL l n).getD j 0 = (depL l k).getD j 0 := by
  intro n
  induction n with
  | zero => intro h j hj; omega
  | succ n ih =>
    intro h j hj
    by_cases hk : k = n + 1
    · rw [hk]
    · rw [depL_succ, List.getD_eq_getElem?_getD, List.getElem?_append_left (by rw [depL_len]; omega), ← List.getD_eq_getElem?_getD]
      exact ih (by omega) j hj
/-- the row of depths at system i, when the systems below j were looked at -/
def depRow (l : List SysV) (m i j : Nat) : List Int := ((depL l i ++ depAt l (depL l i) i j :: List.replicate (m - i - 1) 0) : List Nat).map fun (n : Nat) => (n : Int)
/-- the row ahead of system i -/
def depRow0 (l : List SysV) (m i : Nat) : List Int := ((depL l i ++ List.replicate (m - i) 0) : List Nat).map fun (n : Nat) => (n : Int)
theorem depRow_len (l : List SysV) (m i j : Nat) (h : i < m) : (depRow l m i j).length = m := by
  unfold depRow
  simp only [List.length_map, List.length_append, List.length_cons, List.length_replicate, depL_len]
  omega
theorem depRow0_len (l : List SysV) (m i : Nat) (h : i ≤ m) : (depRow0 l m i).length = m := by
  unfold depRow0
  simp only [List.length_map, List.length_append, List.length_replicate, depL_len]
  omega
theorem depRow_at (l : List SysV) (m i j : Nat) : (depRow l m i j).getD i 0 = (depAt l (depL l i) i j : Nat) := by
  unfold depRow
  rw [List.getD_eq_getElem?_getD, List.getElem?_map, List.getElem?_append_right (by rw [depL_len]; exact Nat.le_refl _), depL_len, Nat.sub_self]
  rfl
theorem depRow_low (l : List SysV) (m i j q : Nat) (h : q < i) : (depRow l m i j).getD q 0 = ((depL l i).getD q 0 : Nat) := by
  unfold depRow
  rw [List.getD_eq_getElem?_getD, List.getElem?_map, List.getElem?_append_left (by rw [depL_len]; exact h), List.getD_eq_getElem?_getD, List.getElem?_eq_getElem (by rw [depL_len]; exact h)]
  rfl
theorem depRow_set (l : List SysV) (m i j k : Nat) : (depRow l m i j).set i (depAt l (depL l i) i k : Nat) = depRow l m i k := by
  unfold depRow
  rw [← List.map_set, List.set_append_right _ _ (by rw [depL_len]; exact Nat.le_refl _), depL_len, Nat.sub_self, List.set_cons_zero]
theorem depRow0_set (l : List SysV) (m i : Nat) (h : i < m) : (depRow0 l m i).set i 1 = depRow l m i 0 := by
  unfold depRow0 depRow
  obtain ⟨q, hq⟩ : ∃ q, m - i = q + 1 := ⟨m - i - 1, by omega⟩
  rw [hq, List.replicate_succ, show q + 1 - 1 = q by omega]
  have := List.map_set (f := fun (n : Nat) => (n : Int)) (l := depL l i ++ 0 :: List.replicate q 0) (i := i) (a := 1)
  rw [List.set_append_right _ _ (by rw [depL_len]; exact Nat.le_refl _), depL_len, Nat.sub_self, List.set_cons_zero] at this
  exact this.symm
theorem depRow_end (l : List SysV) (m i : Nat) (h : i < m) : depRow l m i i = depRow0 l m (i + 1) := by
  unfold depRow depRow0
  rw [depL_succ, List.append_assoc]
  rfl
theorem depRow0_zero (l : List SysV) (m : Nat) : depRow0 l m 0 = List.replicate m 0 := by
  unfold depRow0
  simp [depL]
theorem depRow0_top (l : List SysV) (m : Nat) : depRow0 l m m = (depL l m).map fun (n : Nat) => (n : Int) := by
  unfold depRow0
  simp
/-- a system among others, read -/
theorem sys_cells {w : World} {x : Addr} {l : List SysV} (h : SlAt 7 SysAt w (some x) l) (i : Nat) (hi : i < l.length) : ∃ xb xo, x = ⟨xb, xo, none⟩ ∧ ∃ s0 a1 n1 c1 a2 n2 c2 a3 n3 c3 a4 n4 c4 a5 n5 c5 a6 n6 c6,
    (w.cell? ⟨xb, xo + i * 7, none⟩ = some (.string s0) ∧ w.cell? ⟨xb, xo + i * 7 + 1, none⟩ = some (.slice a1 n1 c1) ∧ w.cell? ⟨xb, xo + i * 7 + 2, none⟩ = some (.slice a2 n2 c2) ∧
     w.cell? ⟨xb, xo + i * 7 + 3, none⟩ = some (.slice a3 n3 c3) ∧ w.cell? ⟨xb, xo + i * 7 + 4, none⟩ = some (.slice a4 n4 c4) ∧
     w.cell? ⟨xb, xo + i * 7 + 5, none⟩ = some (.slice a5 n5 c5) ∧ w.cell? ⟨xb, xo + i * 7 + 6, none⟩ = some (.slice a6 n6 c6)) ∧
    SysIn w (.agg #[.string s0, .slice a1 n1 c1, .slice a2 n2 c2, .slice a3 n3 c3, .slice a4 n4 c4, .slice a5 n5 c5, .slice a6 n6 c6]) (sysN l i) := by
  obtain ⟨y, hy, hb, hc⟩ := h (by omega)
  injection hy with hy
  subst hy
  have h0 := hc 0 (by omega)
  obtain ⟨xb, xo, sp⟩ := x
  have hsp : sp = none := by
    obtain ⟨s0, a1, n1, c1, a2, n2, c2, a3, c3, a4, c4, a5, n5, c5, a6, n6, c6, ⟨e0, _⟩, _⟩ := h0
    simpa [Addr.add] using World.cell?_spot e0
  subst hsp
  obtain ⟨s0, a1, n1, c1, a2, n2, c2, a3, c3, a4, c4, a5, n5, c5, a6, n6, c6, hcl, h2, h3, h4⟩ := hc i hi
  have e : sysN l i = l[i] := by unfold sysN; rw [List.getD_eq_getElem?_getD, List.getElem?_eq_getElem hi]; rfl
  rw [Addr.add_lit] at hcl
  refine ⟨xb, xo, rfl, s0, a1, n1, c1, a2, n2, c2, a3, _, c3, a4, _, c4, a5, n5, c5, a6, n6, c6, hcl, ?_⟩
  rw [e]
  exact ⟨s0, a1, n1, c1, a2, n2, c2, a3, c3, a4, c4, a5, n5, c5, a6, n6, c6, rfl, h2, h3, h4⟩
end Go.Proofs.Ytembjokbhbdoeaa
