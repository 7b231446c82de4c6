/- Plain: the chain of Chain is that of the reference, and as long as there are layers. -/
import Derived.Test.YtembjokbhbdoeaaPlanLoP
import Derived.Test.YtembjokbhbdoeaaPlanRoP
import Derived.Test.YtembjokbhbdoeaaPlanCh
namespace Go.Proofs.Ytembjokbhbdoeaa
open Go.RowKit Go.Mem
set_option linter.unusedVariables false
theorem chC_pos (l : List SysV) (m i : Nat) (hi : i < m) : 1 ≤ (chC l m i).length := by rw [chC_eq l m i hi, List.length_cons]; omega
theorem res_pick (l : List SysV) (m i : Nat) (T : List Nat) : ∀ q, (∀ p, p < q → T.getD p 0 = (chC l m (i + 1 + p)).length ∧ 1 ≤ T.getD p 0) → resAt l i T q = 1 + (pickG (fun q => confB (sysN l i) (sysN l (i + 1 + q))) (fun q => chC l m (i + 1 + q)) q).length := by
  intro q
  induction q with
  | zero => intro _; rfl
  | succ q ih =>
    intro h
    have h1 := ih (fun p hp => h p (by omega))
    have h2 := h q (by omega)
    rw [resAt_succ, pickG_succ, h1, h2.1]
    cases hc : confB (sysN l i) (sysN l (i + 1 + q)) with
    | false => rw [if_neg (by decide), if_neg (fun h => by cases h.1)]
    | true =>
      rw [if_pos rfl]
      by_cases hl : (pickG (fun q => confB (sysN l i) (sysN l (i + 1 + q))) (fun q => chC l m (i + 1 + q)) q).length < (chC l m (i + 1 + q)).length
      · rw [if_pos ⟨rfl, hl⟩]; omega
      · rw [if_neg (fun h => hl h.2)]; omega
theorem resL_chC (l : List SysV) (m : Nat) : ∀ k, k ≤ m → ∀ q, q < k → (resL l m k).getD q 0 = (chC l m (m - k + q)).length := by
  intro k
  induction k with
  | zero => intro _ q h; omega
  | succ k ih =>
    intro hk q hq
    rw [resL_succ]
    cases q with
    | zero =>
      show resAt l (m - (k + 1)) (resL l m k) k = _
      rw [res_pick l m (m - (k + 1)) (resL l m k) k (fun p hp => by
        have := ih (by omega) p hp
        rw [show m - (k + 1) + 1 + p = m - k + p by omega]
        exact ⟨this, by rw [this]; exact chC_pos l m _ (by omega)⟩)]
      show _ = (chC l m (m - (k + 1))).length
      rw [chC_eq l m (m - (k + 1)) (by omega), List.length_cons, show m - (m - (k + 1) + 1) = k by omega]
      omega
    | succ q =>
      have e : (resAt l (m - (k + 1)) (resL l m k) k :: resL l m k).getD (q + 1) 0 = (resL l m k).getD q 0 := by simp [List.getD_eq_getElem?_getD]
      rw [e, ih (by omega) q (by omega), show m - k + q = m - (k + 1) + (q + 1) by omega]
theorem res_at (l : List SysV) (m i : Nat) (hi : i < m) : (resL l m m).getD i 0 = (chC l m i).length := by
  have := resL_chC l m m (Nat.le_refl _) i hi
  rw [this, show m - m + i = i by omega]
/-- the pick: an upper bound, and attained by the first -/
theorem pick_ge {c : Nat → Bool} {f : Nat → List Nat} : ∀ n q, q < n → c q = true → (f q).length ≤ (pickG c f n).length := by
  intro n
  induction n with
  | zero => intro q h; omega
  | succ n ih =>
    intro q hq hc
    rw [pickG_succ]
    by_cases h : q = n
    · subst h
      by_cases hl : (pickG c f q).length < (f q).length
      · rw [if_pos ⟨hc, hl⟩]; exact Nat.le_refl _
      · rw [if_neg (fun h => hl h.2)]; omega
    · have := ih q (by omega) hc
      split <;> omega
theorem pick_first {c : Nat → Bool} {f : Nat → List Nat} : ∀ n, 0 < (pickG c f n).length → ∃ q, q < n ∧ c q = true ∧ pickG c f n = f q ∧ ∀ p, p < q → c p = true → (f p).length < (f q).length := by
  intro n
  induction n with
  | zero => intro h; exact absurd h (Nat.lt_irrefl 0)
  | succ n ih =>
    intro h
    rw [pickG_succ] at h ⊢
    by_cases hx : c n = true ∧ (pickG c f n).length < (f n).length
    · rw [if_pos hx]
      exact ⟨n, by omega, hx.1, rfl, fun p hp hc => by have := pick_ge n p hp hc (f := f); omega⟩
    · rw [if_neg hx] at h ⊢
      obtain ⟨q, h1, h2, h3, h4⟩ := ih h
      exact ⟨q, by omega, h2, h3, h4⟩
/-- may system j come behind o -/
def okC (l : List SysV) : Option Nat → Nat → Bool
  | none, _ => true
  | some x, j => confB (sysN l x) (sysN l j)
/-- the greedy taking, from system i on: n systems are left -/
def greed (l : List SysV) (R : List Nat) : Nat → Nat → Option Nat → Nat → List Nat
  | 0, _, _, _ => []
  | n + 1, i, o, r => if 0 < r ∧ R.getD i 0 = r ∧ okC l o i = true then i :: greed l R n (i + 1) (some i) (r - 1) else greed l R n (i + 1) o r
theorem greed_succ (l : List SysV) (R : List Nat) (n i : Nat) (o : Option Nat) (r : Nat) : greed l R (n + 1) i o r = if 0 < r ∧ R.getD i 0 = r ∧ okC l o i = true then i :: greed l R n (i + 1) (some i) (r - 1) else greed l R n (i + 1) o r := rfl
theorem greed_zero (l : List SysV) (R : List Nat) : ∀ n i o, greed l R n i o 0 = [] := by
  intro n
  induction n with
  | zero => intro i o; rfl
  | succ n ih => intro i o; rw [greed_succ, if_neg (by omega), ih]
theorem greed_skip (l : List SysV) (R : List Nat) (o : Option Nat) (r : Nat) : ∀ q n i, (∀ p, p < q → ¬ (R.getD (i + p) 0 = r ∧ okC l o (i + p) = true)) → greed l R (q + n) i o r = greed l R n (i + q) o r := by
  intro q
  induction q with
  | zero => intro n i _; rw [Nat.zero_add, Nat.add_zero]
  | succ q ih =>
    intro n i h
    rw [show q + 1 + n = (q + n) + 1 by omega, greed_succ, if_neg (fun hh => h 0 (by omega) (by rw [Nat.add_zero]; exact hh.2)), ih n (i + 1) (fun p hp => by
      have := h (p + 1) (by omega)
      rw [show i + (p + 1) = i + 1 + p by omega] at this
      exact this), show i + 1 + q = i + (q + 1) by omega]
def lastC : List Nat → Option Nat
  | [] => none
  | a :: l => some ((a :: l).getD ((a :: l).length - 1) 0)
theorem lastC_snoc (L : List Nat) (x : Nat) : lastC (L ++ [x]) = some x := by
  cases L with
  | nil => rfl
  | cons a L =>
    show some ((a :: (L ++ [x])).getD ((a :: (L ++ [x])).length - 1) 0) = some x
    simp [List.getD_eq_getElem?_getD]
theorem okC_last (l : List SysV) (L : List Nat) (i : Nat) : okC l (lastC L) i = true ↔ (L.length = 0 ∨ confB (sysN l (L.getD (L.length - 1) 0)) (sysN l i) = true) := by
  cases L with
  | nil => simp [lastC, okC]
  | cons a L => simp [lastC, okC]
theorem chG_greed (l : List SysV) (R : List Nat) (b : Nat) : ∀ n i, chG l R b (i + n) = chG l R b i ++ greed l R n i (lastC (chG l R b i)) (b - (chG l R b i).length) := by
  intro n
  induction n with
  | zero => intro i; simp [greed]
  | succ n ih =>
    intro i
    rw [show i + (n + 1) = i + 1 + n by omega, ih (i + 1), greed_succ, chG_succ]
    by_cases h : (chG l R b i).length < b ∧ R.getD i 0 = b - (chG l R b i).length ∧ ((chG l R b i).length = 0 ∨ confB (sysN l ((chG l R b i).getD ((chG l R b i).length - 1) 0)) (sysN l i) = true)
    · rw [if_pos h, if_pos ⟨by omega, h.2.1, (okC_last l _ i).2 h.2.2⟩, lastC_snoc, List.append_assoc, List.length_append, List.length_singleton, Nat.sub_sub]
      rfl
    · rw [if_neg h, if_neg (fun hh => h ⟨by omega, hh.2.1, (okC_last l _ i).1 hh.2.2⟩)]
/-- what comes behind o, from i on -/
def restC (l : List SysV) (m i : Nat) (o : Option Nat) : List Nat := pickG (fun q => okC l o (i + q)) (fun q => chC l m (i + q)) (m - i)
theorem chC_rest (l : List SysV) (m i : Nat) (hi : i < m) : chC l m i = i :: restC l m (i + 1) (some i) := chC_eq l m i hi
theorem greed_rest (l : List SysV) (m : Nat) : ∀ d i o, m - i = d → i ≤ m → greed l (resL l m m) (m - i) i o (restC l m i o).length = restC l m i o := by
  intro d
  induction d using Nat.strongRecOn with
  | _ d ih =>
    intro i o hd hi
    rcases Nat.eq_zero_or_pos (restC l m i o).length with h0 | h0
    · rw [h0, greed_zero]
      exact (List.eq_nil_of_length_eq_zero h0).symm
    · obtain ⟨q, hq, hc, he, hf⟩ := pick_first (m - i) h0
      replace he : restC l m i o = chC l m (i + q) := he
      have hsk : ∀ p, p < q → ¬ ((resL l m m).getD (i + p) 0 = (restC l m i o).length ∧ okC l o (i + p) = true) := by
        intro p hp hh
        have h1 := hf p hp hh.2
        rw [res_at l m (i + p) (by omega), he] at hh
        have := hh.1
        omega
      have e := chC_rest l m (i + q) (by omega)
      have hR := res_at l m (i + q) (by omega)
      rw [show m - i = q + ((m - (i + q + 1)) + 1) by omega, greed_skip l _ o _ q _ i hsk, greed_succ, if_pos ⟨h0, by rw [hR, he], hc⟩, he]
      have h2 := ih (m - (i + q + 1)) (by omega) (i + q + 1) (some (i + q)) rfl (by omega)
      rw [e, List.length_cons, Nat.add_sub_cancel, h2]
theorem best_ge : ∀ (R : List Nat) q, q < R.length → R.getD q 0 ≤ bestL R := by
  intro R
  induction R with
  | nil => intro q h; exact absurd h (Nat.not_lt_zero q)
  | cons a R ih =>
    intro q hq
    rw [bestL_cons]
    cases q with
    | zero => show a ≤ _; omega
    | succ q =>
      have := ih q (by simpa using hq)
      have e : (a :: R).getD (q + 1) 0 = R.getD q 0 := by simp [List.getD_eq_getElem?_getD]
      rw [e]
      omega
theorem best_top : ∀ (R : List Nat), bestL R = 0 ∨ ∃ q, q < R.length ∧ R.getD q 0 = bestL R := by
  intro R
  induction R with
  | nil => exact Or.inl rfl
  | cons a R ih =>
    rw [bestL_cons]
    rcases Nat.lt_or_ge a (bestL R) with h | h
    · rcases ih with h0 | ⟨q, h1, h2⟩
      · omega
      · refine Or.inr ⟨q + 1, by simpa using h1, ?_⟩
        have e : (a :: R).getD (q + 1) 0 = R.getD q 0 := by simp [List.getD_eq_getElem?_getD]
        rw [e, h2]; omega
    · exact Or.inr ⟨0, by simp, by show a = _; omega⟩
theorem fro_rest (l : List SysV) (m : Nat) : froC l m 0 = restC l m 0 none := by
  unfold froC bodC restC
  rw [if_pos rfl]
  have e : goC l 0 = fun q => okC l none (0 + q) := by
    funext q
    unfold goC okC
    simp
  rw [e, Nat.sub_zero]
theorem best_fro (l : List SysV) (m : Nat) : bestL (resL l m m) = (froC l m 0).length := by
  rw [fro_rest]
  apply Nat.le_antisymm
  · rcases best_top (resL l m m) with h | ⟨q, h1, h2⟩
    · omega
    · rw [resL_len] at h1
      rw [← h2, res_at l m q h1]
      have := pick_ge (c := fun q => okC l none (0 + q)) (f := fun q => chC l m (0 + q)) (m - 0) q (by omega) rfl
      simpa [restC] using this
  · rcases Nat.eq_zero_or_pos (restC l m 0 none).length with h0 | h0
    · omega
    · obtain ⟨q, hq, _, he, _⟩ := pick_first (m - 0) h0
      replace he : restC l m 0 none = chC l m (0 + q) := he
      rw [he, Nat.zero_add, ← res_at l m q (by omega)]
      exact best_ge _ q (by rw [resL_len]; omega)
theorem chain_longest (l : List SysV) (m : Nat) : chG l (resL l m m) (bestL (resL l m m)) m = froC l m 0 := by
  have h := chG_greed l (resL l m m) (bestL (resL l m m)) m 0
  rw [Nat.zero_add] at h
  rw [h, best_fro, fro_rest]
  have := greed_rest l m (m - 0) 0 none rfl (Nat.zero_le _)
  simpa [chG, lastC] using this
theorem conf_rest (l : List SysV) (m i j : Nat) (hij : i < j) (hj : j < m) (hc : confB (sysN l i) (sysN l j) = true) : (chC l m j).length < (chC l m i).length := by
  rw [chC_rest l m i (by omega), List.length_cons]
  have := pick_ge (c := fun q => okC l (some i) (i + 1 + q)) (f := fun q => chC l m (i + 1 + q)) (m - (i + 1)) (j - (i + 1)) (by omega) (by show okC l (some i) (i + 1 + (j - (i + 1))) = true; rw [show i + 1 + (j - (i + 1)) = j by omega]; exact hc)
  simp only [show i + 1 + (j - (i + 1)) = j by omega] at this
  unfold restC
  omega
theorem rest_from (l : List SysV) (m i : Nat) (hi : i < m) : (chC l m i).length = 1 ∨ ∃ j, i < j ∧ j < m ∧ confB (sysN l i) (sysN l j) = true ∧ (chC l m i).length = (chC l m j).length + 1 := by
  rw [chC_rest l m i hi, List.length_cons]
  rcases Nat.eq_zero_or_pos (restC l m (i + 1) (some i)).length with h0 | h0
  · left; omega
  · obtain ⟨q, hq, hc, he, _⟩ := pick_first (m - (i + 1)) h0
    replace he : restC l m (i + 1) (some i) = chC l m (i + 1 + q) := he
    exact Or.inr ⟨i + 1 + q, by omega, by omega, hc, by rw [he]⟩
theorem fro_ge (l : List SysV) (m i : Nat) (hi : i < m) : (chC l m i).length ≤ (froC l m 0).length := by
  rw [← best_fro, ← res_at l m i hi]
  exact best_ge _ i (by rw [resL_len]; exact hi)
theorem chain_up (l : List SysV) (m : Nat) : ∀ d i, m - i = d → i < m → (chC l m i).length + (depL l m).getD i 0 ≤ (layL (depL l m) m).length + 1 := by
  intro d
  induction d using Nat.strongRecOn with
  | _ d ih =>
    intro i hd hi
    rcases rest_from l m i hi with h | ⟨j, h1, h2, h3, h4⟩
    · have := lay_ge (depL l m) m i hi
      omega
    · have a := ih (m - j) (by omega) j rfl h2
      have b := conf_depth' l m j i h2 h1 h3
      omega
theorem chain_down (l : List SysV) (m : Nat) : ∀ i, i < m → (chC l m i).length + (depL l m).getD i 0 ≤ (froC l m 0).length + 1 := by
  intro i
  induction i using Nat.strongRecOn with
  | _ i ih =>
    intro hi
    rcases depth_from' l m i hi with h | ⟨j, h1, h2, h3⟩
    · have := fro_ge l m i hi
      omega
    · have a := ih j h1 (by omega)
      have b := conf_rest l m j i h1 hi h2
      omega
theorem chain_layers (l : List SysV) (m : Nat) : (froC l m 0).length = (layL (depL l m) m).length := by
  apply Nat.le_antisymm
  · rcases Nat.eq_zero_or_pos (froC l m 0).length with h0 | h0
    · omega
    · rw [fro_rest] at h0 ⊢
      obtain ⟨q, hq, _, he, _⟩ := pick_first (m - 0) h0
      replace he : restC l m 0 none = chC l m (0 + q) := he
      rw [he, Nat.zero_add]
      have := chain_up l m _ q rfl (by omega)
      have := depL_le l m q (by omega)
      omega
  · rcases layL_top (depL l m) m with h | ⟨i, h1, h2⟩
    · omega
    · have := chain_down l m i h1
      have := chC_pos l m i h1
      omega
end Go.Proofs.Ytembjokbhbdoeaa
