/- Trees of digests: verifying, narrowing (plain). -/
import Derived.Test.YtdhaaeaacbnghaaMerkleP
namespace Go.Mk
section
variable (T : Int → Int → Int)
/-- To which digest a proof leads, by halves; none: it has another length. -/
def vo : Nat → Nat → Nat → Int → List Int → Option Int
  | 0, _, _, _, _ => none
  | f + 1, n, i, leaf, pr => if n = 1 then (if pr.length = 0 then some leaf else none) else if pr.length = 0 then none else
      if i < hf n then (vo f (hf n) i leaf pr.dropLast).map fun d => T d (pr.getD (pr.length - 1) 0)
      else (vo f (n - hf n) (i - hf n) leaf pr.dropLast).map fun d => T (pr.getD (pr.length - 1) 0) d
theorem vo_fuel : ∀ (f g n i : Nat) (leaf : Int) (pr : List Int), 1 ≤ n → n ≤ f → n ≤ g → vo T f n i leaf pr = vo T g n i leaf pr
  | 0, _, n, i, leaf, pr, h, h1, _ => by omega
  | f + 1, 0, n, i, leaf, pr, h, _, h1 => by omega
  | f + 1, g + 1, n, i, leaf, pr, h, h1, h2 => by
    unfold vo
    by_cases h3 : n = 1
    · rw [if_pos h3, if_pos h3]
    · obtain ⟨s1, s2⟩ := hf_spec n (by omega)
      have s3 := hf_pos n
      rw [if_neg h3, if_neg h3, vo_fuel f g (hf n) i leaf _ s3 (by omega) (by omega), vo_fuel f g (n - hf n) _ leaf _ (by omega) (by omega) (by omega)]
def ver (n i : Nat) (leaf : Int) (pr : List Int) : Option Int := vo T n n i leaf pr
theorem ver_one (i : Nat) (leaf : Int) (pr : List Int) : ver T 1 i leaf pr = if pr.length = 0 then some leaf else none := rfl
theorem ver_two (n i : Nat) (leaf : Int) (pr : List Int) (h : 2 ≤ n) : ver T n i leaf pr = if pr.length = 0 then none else
      if i < hf n then (ver T (hf n) i leaf pr.dropLast).map fun d => T d (pr.getD (pr.length - 1) 0)
      else (ver T (n - hf n) (i - hf n) leaf pr.dropLast).map fun d => T (pr.getD (pr.length - 1) 0) d := by
  obtain ⟨s1, s2⟩ := hf_spec n h
  have s3 := hf_pos n
  obtain ⟨f, hf'⟩ : ∃ f, n = f + 1 := ⟨n - 1, by omega⟩
  have e : ver T n i leaf pr = vo T (f + 1) n i leaf pr := by unfold ver; rw [← hf']
  rw [e]
  unfold vo
  rw [if_neg (by omega)]
  unfold ver
  rw [vo_fuel T f (hf n) (hf n) i leaf _ s3 (by omega) (Nat.le_refl _), vo_fuel T f (n - hf n) (n - hf n) _ leaf _ (by omega) (by omega) (Nat.le_refl _)]
/-- One step from the leaf. -/
def up (i : Nat) (leaf p : Int) : Int := if i % 2 = 0 then T leaf p else T p leaf
theorem cons_last (p : Int) (r : List Int) (h : r.length ≠ 0) : (p :: r).dropLast = p :: r.dropLast ∧ (p :: r).getD ((p :: r).length - 1) 0 = r.getD (r.length - 1) 0 := by
  match r, h with
  | q :: r, _ => exact ⟨rfl, by simp⟩
theorem ver_pair : ∀ (n i : Nat) (leaf : Int) (pr : List Int), 2 ≤ n → i < n →
    ver T n i leaf pr = if sib i < n then (match pr with | [] => none | p :: r => ver T ((n + 1) / 2) (i / 2) (up T i leaf p) r) else ver T ((n + 1) / 2) (i / 2) leaf pr := by
  intro n
  induction n using Nat.strongRecOn with
  | _ n ih =>
    intro i leaf pr h2 hi
    by_cases h3 : n = 2
    · subst h3
      have hs : sib i < 2 := by unfold sib; split <;> omega
      rw [if_pos hs, ver_two T 2 i leaf pr (by omega), hf_two]
      match pr with
      | [] => rfl
      | [p] =>
        rcases (show i = 0 ∨ i = 1 by omega) with rfl | rfl <;> rfl
      | p :: q :: r =>
        rcases (show i = 0 ∨ i = 1 by omega) with rfl | rfl <;> simp [ver_one]
    · obtain ⟨k, k1, e1, e2⟩ := hf_pair n (by omega)
      obtain ⟨s1, s2⟩ := hf_spec n h2
      rw [ver_two T n i leaf pr h2, e1]
      by_cases q : i < 2 * k
      · have hs : sib i < 2 * k := by unfold sib; split <;> omega
        rw [if_pos (show sib i < n by omega)]
        match pr with
        | [] => rfl
        | p :: r =>
          have ih1 := fun pr => ih (2 * k) (by omega) i leaf pr (by omega) q
          simp only [if_pos hs, show (2 * k + 1) / 2 = k by omega] at ih1
          show (if (p :: r).length = 0 then none else _) = ver T ((n + 1) / 2) (i / 2) (up T i leaf p) r
          rw [ver_two T ((n + 1) / 2) _ _ r (by omega), e2, if_pos q, if_pos (show i / 2 < k by omega), if_neg (by simp), ih1]
          by_cases hr : r.length = 0
          · have : r = [] := List.eq_nil_of_length_eq_zero hr
            subst this
            rfl
          · obtain ⟨c1, c2⟩ := cons_last p r hr
            rw [c1, c2, if_neg hr]
      · have ei : (i - 2 * k) / 2 = i / 2 - k := by omega
        have eu : ∀ p, up T (i - 2 * k) leaf p = up T i leaf p := fun p => by unfold up; rw [show (i - 2 * k) % 2 = i % 2 by omega]
        by_cases q1 : n - 2 * k = 1
        · have hs : ¬ sib i < n := by unfold sib; split <;> omega
          have e0 : i - 2 * k = 0 := by omega
          have e3 : i / 2 - k = 0 := by omega
          have e4 : (n + 1) / 2 - k = 1 := by omega
          rw [if_neg hs, ver_two T ((n + 1) / 2) _ _ pr (by omega), e2, if_neg q, if_neg (show ¬ i / 2 < k by omega), q1, e0, e3, e4]
        · have hs : sib i = 2 * k + sib (i - 2 * k) := by unfold sib; split <;> split <;> omega
          have ih1 := fun pr => ih (n - 2 * k) (by omega) (i - 2 * k) leaf pr (by omega) (by omega)
          rw [ei, show (n - 2 * k + 1) / 2 = (n + 1) / 2 - k by omega] at ih1
          by_cases q2 : sib i < n
          · rw [if_pos q2]
            have q3 : sib (i - 2 * k) < n - 2 * k := by omega
            simp only [if_pos q3, eu] at ih1
            match pr with
            | [] => rfl
            | p :: r =>
              show (if (p :: r).length = 0 then none else _) = ver T ((n + 1) / 2) (i / 2) (up T i leaf p) r
              rw [ver_two T ((n + 1) / 2) _ _ r (by omega), e2, if_neg q, if_neg (show ¬ i / 2 < k by omega), if_neg (by simp), ih1]
              by_cases hr : r.length = 0
              · have : r = [] := List.eq_nil_of_length_eq_zero hr
                subst this
                rfl
              · obtain ⟨c1, c2⟩ := cons_last p r hr
                rw [c1, c2, if_neg hr]
          · rw [if_neg q2, ver_two T ((n + 1) / 2) _ _ pr (by omega), e2, if_neg q, if_neg (show ¬ i / 2 < k by omega)]
            have q3 : ¬ sib (i - 2 * k) < n - 2 * k := by omega
            simp only [if_neg q3] at ih1
            rw [ih1]

/-- The way to the first leaf that differs, by halves: its place and how many comparisons. -/
def ndF : Nat → List Int → List Int → Nat × Nat
  | 0, _, _ => (0, 0)
  | f + 1, a, b => if a.length ≤ 1 then (0, 0) else
      if top T (a.take (hf a.length)) ≠ top T (b.take (hf a.length)) then ((ndF f (a.take (hf a.length)) (b.take (hf a.length))).1, (ndF f (a.take (hf a.length)) (b.take (hf a.length))).2 + 1)
      else (hf a.length + (ndF f (a.drop (hf a.length)) (b.drop (hf a.length))).1, (ndF f (a.drop (hf a.length)) (b.drop (hf a.length))).2 + 1)
theorem ndF_fuel : ∀ (f g : Nat) (a b : List Int), a.length ≤ f → a.length ≤ g → ndF T f a b = ndF T g a b
  | 0, 0, a, b, _, _ => rfl
  | 0, g + 1, a, b, h, _ => by
    have : a.length ≤ 1 := by omega
    simp [ndF, this]
  | f + 1, 0, a, b, _, h => by
    have : a.length ≤ 1 := by omega
    simp [ndF, this]
  | f + 1, g + 1, a, b, h1, h2 => by
    unfold ndF
    by_cases h0 : a.length ≤ 1
    · rw [if_pos h0, if_pos h0]
    · obtain ⟨s1, s2⟩ := hf_spec a.length (by omega)
      have s3 := hf_pos a.length
      rw [if_neg h0, if_neg h0, ndF_fuel f g (a.take _) _ (by simp; omega) (by simp; omega), ndF_fuel f g (a.drop _) _ (by simp; omega) (by simp; omega)]
def nd (a b : List Int) : Nat × Nat := ndF T a.length a b
theorem nd_one (a b : List Int) (h : a.length ≤ 1) : nd T a b = (0, 0) := by
  unfold nd
  rcases (show a.length = 0 ∨ a.length = 1 by omega) with e | e <;> rw [e]
  · rfl
  · simp [ndF, e]
theorem nd_two (a b : List Int) (h : 2 ≤ a.length) : nd T a b =
    if top T (a.take (hf a.length)) ≠ top T (b.take (hf a.length)) then ((nd T (a.take (hf a.length)) (b.take (hf a.length))).1, (nd T (a.take (hf a.length)) (b.take (hf a.length))).2 + 1)
    else (hf a.length + (nd T (a.drop (hf a.length)) (b.drop (hf a.length))).1, (nd T (a.drop (hf a.length)) (b.drop (hf a.length))).2 + 1) := by
  obtain ⟨s1, s2⟩ := hf_spec a.length h
  have s3 := hf_pos a.length
  obtain ⟨f, hf'⟩ : ∃ f, a.length = f + 1 := ⟨a.length - 1, by omega⟩
  have e : nd T a b = ndF T (f + 1) a b := by unfold nd; rw [hf']
  rw [e]
  unfold ndF
  rw [if_neg (by omega)]
  unfold nd
  rw [ndF_fuel T f _ (a.take _) _ (by simp; omega) (Nat.le_refl _), ndF_fuel T f _ (a.drop _) _ (by simp; omega) (Nat.le_refl _)]
theorem nd_lt : ∀ (n : Nat) (a b : List Int), a.length = n → 1 ≤ n → (nd T a b).1 < n := by
  intro n
  induction n using Nat.strongRecOn with
  | _ n ih =>
    intro a b ha h1
    by_cases h : n = 1
    · rw [nd_one T a b (by omega)]; show 0 < n; omega
    · obtain ⟨s1, s2⟩ := hf_spec n (by omega)
      have s3 := hf_pos n
      rw [nd_two T a b (by omega), ha]
      split
      · have := ih (hf n) s1 (a.take (hf n)) (b.take (hf n)) (by simp; omega) s3
        show (nd T (a.take (hf n)) (b.take (hf n))).1 < n
        omega
      · have := ih (n - hf n) (by omega) (a.drop (hf n)) (b.drop (hf n)) (by simp; omega) (by omega)
        show hf n + (nd T (a.drop (hf n)) (b.drop (hf n))).1 < n
        omega
/-- One level down. -/
def down (n : Nat) (a b : List Int) (p : Nat × Nat) : Nat × Nat :=
  if 2 * p.1 + 1 = n then (2 * p.1, p.2) else if a.getD (2 * p.1) 0 = b.getD (2 * p.1) 0 then (2 * p.1 + 1, p.2 + 1) else (2 * p.1, p.2 + 1)
theorem nd_pair : ∀ (n : Nat) (a b : List Int), a.length = n → b.length = n → 2 ≤ n → nd T a b = down n a b (nd T (pair T a) (pair T b)) := by
  intro n
  induction n using Nat.strongRecOn with
  | _ n ih =>
    intro a b ha hb h2
    by_cases h3 : n = 2
    · subst h3
      match a, ha, b, hb with
      | [x, y], _, [u, v], _ =>
        rw [nd_two T _ _ (by simp), nd_one T (pair T [x, y]) _ (by simp [pair_length])]
        have e : hf ([x, y] : List Int).length = 1 := hf_two
        rw [e]
        show (if x ≠ u then ((nd T [x] [u]).1, (nd T [x] [u]).2 + 1) else (1 + (nd T [y] [v]).1, (nd T [y] [v]).2 + 1)) = down 2 [x, y] [u, v] (0, 0)
        rw [nd_one T [x] [u] (by simp), nd_one T [y] [v] (by simp)]
        unfold down
        by_cases q : x = u
        · simp [q]
        · simp [q]
    · obtain ⟨k, k1, e1, e2⟩ := hf_pair n (by omega)
      obtain ⟨s1, s2⟩ := hf_spec n h2
      have hpa : (pair T a).length = (n + 1) / 2 := by rw [pair_length, ha]
      rw [nd_two T (pair T a) _ (by omega), nd_two T a b (by omega), hpa, e2, ha, e1, pair_take T k a (by omega), pair_drop T k a (by omega), pair_take T k b (by omega), pair_drop T k b (by omega)]
      rw [top_pair T (2 * k) (a.take (2 * k)) (by simp; omega) (by omega), top_pair T (2 * k) (b.take (2 * k)) (by simp; omega) (by omega)]
      have l1 := nd_lt T k (pair T (a.take (2 * k))) (pair T (b.take (2 * k))) (by rw [pair_length]; simp; omega) k1
      by_cases q : top T (a.take (2 * k)) ≠ top T (b.take (2 * k))
      · rw [if_pos q, if_pos q, ih (2 * k) (by omega) (a.take (2 * k)) (b.take (2 * k)) (by simp; omega) (by simp; omega) (by omega)]
        generalize nd T (pair T (a.take (2 * k))) (pair T (b.take (2 * k))) = p at *
        have g1 : (a.take (2 * k)).getD (2 * p.1) 0 = a.getD (2 * p.1) 0 := by
          rw [List.getD_eq_getElem?_getD, List.getElem?_take_of_lt (by omega), ← List.getD_eq_getElem?_getD]
        have g2 : (b.take (2 * k)).getD (2 * p.1) 0 = b.getD (2 * p.1) 0 := by
          rw [List.getD_eq_getElem?_getD, List.getElem?_take_of_lt (by omega), ← List.getD_eq_getElem?_getD]
        unfold down
        simp only [g1, g2]
        rw [if_neg (show ¬ 2 * p.1 + 1 = 2 * k by omega), if_neg (show ¬ 2 * p.1 + 1 = n by omega)]
        split <;> rfl
      · rw [if_neg q, if_neg q]
        have hd : nd T (a.drop (2 * k)) (b.drop (2 * k)) = down (n - 2 * k) (a.drop (2 * k)) (b.drop (2 * k)) (nd T (pair T (a.drop (2 * k))) (pair T (b.drop (2 * k)))) := by
          by_cases q1 : n - 2 * k = 1
          · rw [nd_one T _ _ (by simp; omega), nd_one T (pair T _) _ (by rw [pair_length]; simp; omega)]
            unfold down
            rw [if_pos (by simp; omega)]; rfl
          · exact ih (n - 2 * k) (by omega) _ _ (by simp; omega) (by simp; omega) (by omega)
        rw [hd]
        generalize nd T (pair T (a.drop (2 * k))) (pair T (b.drop (2 * k))) = p at *
        have g1 : (a.drop (2 * k)).getD (2 * p.1) 0 = a.getD (2 * (k + p.1)) 0 := by
          rw [List.getD_eq_getElem?_getD, List.getElem?_drop, ← List.getD_eq_getElem?_getD, Nat.mul_add]
        have g2 : (b.drop (2 * k)).getD (2 * p.1) 0 = b.getD (2 * (k + p.1)) 0 := by
          rw [List.getD_eq_getElem?_getD, List.getElem?_drop, ← List.getD_eq_getElem?_getD, Nat.mul_add]
        unfold down
        simp only [g1, g2]
        by_cases q2 : 2 * p.1 + 1 = n - 2 * k
        · rw [if_pos q2, if_pos (show 2 * (k + p.1) + 1 = n by omega)]
          show (2 * k + 2 * p.1, p.2 + 1) = (2 * (k + p.1), p.2 + 1)
          rw [Nat.mul_add]
        · rw [if_neg q2, if_neg (show ¬ 2 * (k + p.1) + 1 = n by omega)]
          split
          · show (2 * k + (2 * p.1 + 1), _) = (2 * (k + p.1) + 1, _)
            rw [Nat.mul_add]; rfl
          · show (2 * k + 2 * p.1, _) = (2 * (k + p.1), _)
            rw [Nat.mul_add]
end
end Go.Mk
