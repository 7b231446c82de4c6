/- Lemmas for the law TopDigestPlace: MerkleP, MerkleP2, Keep. No conditions. -/
import Derived.WalkKit
import Derived.ProofKit
/- Trees of digests, by pairs and by halves (plain). -/
section
namespace Go.Mk
/-- The greatest power of two below n (1 for n = 1). -/
def hf (n : Nat) : Nat := 2 ^ Nat.log2 (n - 1)
theorem hf_spec (n : Nat) (h : 2 ≤ n) : hf n < n ∧ n ≤ 2 * hf n := by
  unfold hf
  have h1 := Nat.log2_self_le (n := n - 1) (by omega)
  have h2 := Nat.lt_log2_self (n := n - 1)
  rw [Nat.pow_succ] at h2
  omega
theorem hf_pos (n : Nat) : 1 ≤ hf n := Nat.two_pow_pos _
theorem hf_unique (n j : Nat) (h1 : 2 ^ j < n) (h2 : n ≤ 2 * 2 ^ j) : hf n = 2 ^ j := by
  unfold hf
  congr 1
  have hp := Nat.two_pow_pos j
  rw [Nat.log2_eq_iff (by omega)]
  rw [Nat.pow_succ]
  omega
theorem hf_one : hf 1 = 1 := by decide
theorem hf_two : hf 2 = 1 := by decide
/-- From 3 on, half is even, and the half of the pairs' number is half of it. -/
theorem hf_pair (n : Nat) (h : 3 ≤ n) : ∃ k, 1 ≤ k ∧ hf n = 2 * k ∧ hf ((n + 1) / 2) = k := by
  obtain ⟨s1, s2⟩ := hf_spec n (by omega)
  have h0 : Nat.log2 (n - 1) ≠ 0 := by
    intro h
    unfold hf at s1 s2
    rw [h] at s1 s2
    omega
  obtain ⟨j, hj⟩ : ∃ j, Nat.log2 (n - 1) = j + 1 := ⟨_, (Nat.succ_pred h0).symm⟩
  have e : hf n = 2 * 2 ^ j := by unfold hf; rw [hj, Nat.pow_succ, Nat.mul_comm]
  have hp := Nat.two_pow_pos j
  exact ⟨2 ^ j, hp, e, hf_unique _ j (by omega) (by omega)⟩

section
variable (T : Int → Int → Int)
def pair : List Int → List Int
  | a :: b :: r => T a b :: pair r
  | r => r
theorem pair_length : ∀ l : List Int, (pair T l).length = (l.length + 1) / 2
  | [] => rfl
  | [a] => by simp [pair]
  | a :: b :: r => by
    show (pair T r).length + 1 = (r.length + 1 + 1 + 1) / 2
    rw [pair_length r]; omega
theorem pair_append : ∀ (k : Nat) (l m : List Int), l.length = 2 * k → pair T (l ++ m) = pair T l ++ pair T m
  | 0, l, m, h => by
    have : l = [] := List.eq_nil_of_length_eq_zero (by omega)
    subst this; rfl
  | k + 1, l, m, h => by
    match l, h with
    | a :: b :: r, h =>
      show T a b :: pair T (r ++ m) = T a b :: (pair T r ++ pair T m)
      rw [pair_append k r m (by simp at h; omega)]
theorem pair_take (k : Nat) (l : List Int) (h : 2 * k ≤ l.length) : (pair T l).take k = pair T (l.take (2 * k)) := by
  have e := pair_append T k (l.take (2 * k)) (l.drop (2 * k)) (by simp; omega)
  rw [List.take_append_drop] at e
  rw [e, List.take_left' (by rw [pair_length]; simp; omega)]
theorem pair_drop (k : Nat) (l : List Int) (h : 2 * k ≤ l.length) : (pair T l).drop k = pair T (l.drop (2 * k)) := by
  have e := pair_append T k (l.take (2 * k)) (l.drop (2 * k)) (by simp; omega)
  rw [List.take_append_drop] at e
  rw [e, List.drop_left' (by rw [pair_length]; simp; omega)]

def topF : Nat → List Int → Int
  | 0, _ => 0
  | f + 1, l => if l.length = 0 then 0 else if l.length = 1 then l.getD 0 0 else T (topF f (l.take (hf l.length))) (topF f (l.drop (hf l.length)))
theorem topF_fuel : ∀ (f g : Nat) (l : List Int), l.length ≤ f → l.length ≤ g → topF T f l = topF T g l
  | 0, 0, l, _, _ => rfl
  | 0, g + 1, l, h, _ => by
    have : l.length = 0 := by omega
    simp [topF, this]
  | f + 1, 0, l, _, h => by
    have : l.length = 0 := by omega
    simp [topF, this]
  | f + 1, g + 1, l, h1, h2 => by
    unfold topF
    by_cases h0 : l.length = 0
    · rw [if_pos h0, if_pos h0]
    · by_cases h3 : l.length = 1
      · rw [if_neg h0, if_neg h0, if_pos h3, if_pos h3]
      · rw [if_neg h0, if_neg h0, if_neg h3, if_neg h3]
        obtain ⟨s1, s2⟩ := hf_spec l.length (by omega)
        have s3 := hf_pos l.length
        rw [topF_fuel f g (l.take _) (by simp; omega) (by simp; omega), topF_fuel f g (l.drop _) (by simp; omega) (by simp; omega)]
/-- The root, by halves. -/
def top (l : List Int) : Int := topF T l.length l
theorem top_nil : top T [] = 0 := rfl
theorem top_one (a : Int) : top T [a] = a := rfl
theorem top_two (l : List Int) (h : 2 ≤ l.length) : top T l = T (top T (l.take (hf l.length))) (top T (l.drop (hf l.length))) := by
  obtain ⟨s1, s2⟩ := hf_spec l.length h
  have s3 := hf_pos l.length
  obtain ⟨f, hf'⟩ : ∃ f, l.length = f + 1 := ⟨l.length - 1, by omega⟩
  have e : top T l = topF T (f + 1) l := by unfold top; rw [hf']
  rw [e]
  unfold topF
  rw [if_neg (by omega), if_neg (by omega)]
  unfold top
  rw [topF_fuel T f _ (l.take _) (by simp; omega) (Nat.le_refl _), topF_fuel T f _ (l.drop _) (by simp; omega) (Nat.le_refl _)]
theorem top_len1 (l : List Int) (h : l.length = 1) : top T l = l.getD 0 0 := by
  match l, h with
  | [a], _ => rfl
theorem pair_len1 (l : List Int) (h : l.length = 1) : pair T l = l := by
  match l, h with
  | [a], _ => rfl
theorem top_pair : ∀ (n : Nat) (l : List Int), l.length = n → 2 ≤ n → top T (pair T l) = top T l := by
  intro n
  induction n using Nat.strongRecOn with
  | _ n ih =>
    intro l hl h2
    by_cases h3 : n = 2
    · subst h3
      match l, hl with
      | [a, b], _ => rfl
    · obtain ⟨k, k1, e1, e2⟩ := hf_pair n (by omega)
      obtain ⟨s1, s2⟩ := hf_spec n h2
      have hp : (pair T l).length = (n + 1) / 2 := by rw [pair_length, hl]
      rw [top_two T (pair T l) (by omega), top_two T l (by omega), hp, e2, hl, e1, pair_take T k l (by omega), pair_drop T k l (by omega)]
      have t1 : top T (pair T (l.take (2 * k))) = top T (l.take (2 * k)) := ih (2 * k) (by omega) _ (by simp; omega) (by omega)
      have t2 : top T (pair T (l.drop (2 * k))) = top T (l.drop (2 * k)) := by
        by_cases q : n - 2 * k = 1
        · rw [pair_len1 T _ (by simp; omega)]
        · exact ih (n - 2 * k) (by omega) _ (by simp; omega) (by omega)
      rw [t1, t2]
/-- The other one of a pair. -/
def sib (i : Nat) : Nat := if i % 2 = 0 then i + 1 else i - 1

/-- The proof of a leaf, by halves. -/
def provF : Nat → List Int → Nat → List Int
  | 0, _, _ => []
  | f + 1, l, i => if l.length = 1 then [] else
      if i < hf l.length then provF f (l.take (hf l.length)) i ++ [top T (l.drop (hf l.length))]
      else provF f (l.drop (hf l.length)) (i - hf l.length) ++ [top T (l.take (hf l.length))]
theorem provF_fuel : ∀ (f g : Nat) (l : List Int) (i : Nat), 1 ≤ l.length → l.length ≤ f → l.length ≤ g → provF T f l i = provF T g l i
  | 0, _, l, i, h, h1, _ => by omega
  | f + 1, 0, l, i, h, _, h1 => by omega
  | f + 1, g + 1, l, i, h, h1, h2 => by
    unfold provF
    by_cases h3 : l.length = 1
    · rw [if_pos h3, if_pos h3]
    · obtain ⟨s1, s2⟩ := hf_spec l.length (by omega)
      have s3 := hf_pos l.length
      rw [if_neg h3, if_neg h3, provF_fuel f g (l.take _) i (by simp; omega) (by simp; omega) (by simp; omega), provF_fuel f g (l.drop _) _ (by simp; omega) (by simp; omega) (by simp; omega)]
def prov (l : List Int) (i : Nat) : List Int := provF T l.length l i
theorem prov_one (l : List Int) (i : Nat) (h : l.length = 1) : prov T l i = [] := by
  match l, h with
  | [a], _ => rfl
theorem prov_two (l : List Int) (i : Nat) (h : 2 ≤ l.length) : prov T l i =
    if i < hf l.length then prov T (l.take (hf l.length)) i ++ [top T (l.drop (hf l.length))] else prov T (l.drop (hf l.length)) (i - hf l.length) ++ [top T (l.take (hf l.length))] := by
  obtain ⟨s1, s2⟩ := hf_spec l.length h
  have s3 := hf_pos l.length
  obtain ⟨f, hf'⟩ : ∃ f, l.length = f + 1 := ⟨l.length - 1, by omega⟩
  have e : prov T l i = provF T (f + 1) l i := by unfold prov; rw [hf']
  rw [e]
  unfold provF
  rw [if_neg (by omega)]
  unfold prov
  rw [provF_fuel T f _ (l.take _) i (by simp; omega) (by simp; omega) (Nat.le_refl _), provF_fuel T f _ (l.drop _) _ (by simp; omega) (by simp; omega) (Nat.le_refl _)]
theorem prov_pair : ∀ (n : Nat) (l : List Int) (i : Nat), l.length = n → 2 ≤ n → i < n →
    prov T l i = (if sib i < n then [l.getD (sib i) 0] else []) ++ prov T (pair T l) (i / 2) := by
  intro n
  induction n using Nat.strongRecOn with
  | _ n ih =>
    intro l i hl h2 hi
    by_cases h3 : n = 2
    · subst h3
      match l, hl with
      | [a, b], _ =>
        rcases (show i = 0 ∨ i = 1 by omega) with rfl | rfl <;> rfl
    · obtain ⟨k, k1, e1, e2⟩ := hf_pair n (by omega)
      obtain ⟨s1, s2⟩ := hf_spec n h2
      have hp : (pair T l).length = (n + 1) / 2 := by rw [pair_length, hl]
      rw [prov_two T (pair T l) _ (by omega), prov_two T l _ (by omega), hp, e2, hl, e1, pair_take T k l (by omega), pair_drop T k l (by omega)]
      have t1 : top T (pair T (l.take (2 * k))) = top T (l.take (2 * k)) := top_pair T (2 * k) _ (by simp; omega) (by omega)
      have t2 : top T (pair T (l.drop (2 * k))) = top T (l.drop (2 * k)) := by
        by_cases q : n - 2 * k = 1
        · rw [pair_len1 T _ (by simp; omega)]
        · exact top_pair T (n - 2 * k) _ (by simp; omega) (by omega)
      by_cases q : i < 2 * k
      · have hs : sib i < 2 * k := by unfold sib; split <;> omega
        have hg : (l.take (2 * k)).getD (sib i) 0 = l.getD (sib i) 0 := by
          rw [List.getD_eq_getElem?_getD, List.getElem?_take_of_lt hs, ← List.getD_eq_getElem?_getD]
        rw [if_pos q, if_pos (show i / 2 < k by omega), ih (2 * k) (by omega) (l.take (2 * k)) i (by simp; omega) (by omega) q, if_pos hs, if_pos (show sib i < n by omega), hg, t2, List.append_assoc]
      · rw [if_neg q, if_neg (show ¬ i / 2 < k by omega), t1]
        have ei : (i - 2 * k) / 2 = i / 2 - k := by omega
        by_cases q1 : n - 2 * k = 1
        · have hs : ¬ sib i < n := by unfold sib; split <;> omega
          rw [if_neg hs, prov_one T _ _ (by simp; omega), pair_len1 T _ (by simp; omega), prov_one T _ _ (by simp; omega)]; rfl
        · have hs : sib i = 2 * k + sib (i - 2 * k) := by unfold sib; split <;> split <;> omega
          have hg : (l.drop (2 * k)).getD (sib (i - 2 * k)) 0 = l.getD (sib i) 0 := by
            rw [List.getD_eq_getElem?_getD, List.getElem?_drop, ← hs, ← List.getD_eq_getElem?_getD]
          rw [ih (n - 2 * k) (by omega) (l.drop (2 * k)) (i - 2 * k) (by simp; omega) (by omega) (by omega), hg, ei, List.append_assoc]
          by_cases q2 : sib i < n
          · rw [if_pos q2, if_pos (by omega)]
          · rw [if_neg q2, if_neg (by omega)]
end
end Go.Mk
end
/- Trees of digests: verifying, narrowing (plain). -/
section
namespace Go.Mk
section
variable (T : Int → Int → Int)
/-- To which digest a proof leads, by halves; none: it has another length. -/
def vo : Nat → Nat → Nat → Int → List Int → Option Int
  | 0, _, _, _, _ => none
  | f + 1, n, i, leaf, pr => if n = 1 then (if pr.length = 0 then some leaf else none) else if pr.length = 0 then none else
      if i < hf n then (vo f (hf n) i leaf pr.dropLast).map fun d => T d (pr.getD (pr.length - 1) 0)
      else (vo f (n - hf n) (i - hf n) leaf pr.dropLast).map fun d => T (pr.getD (pr.length - 1) 0) d
theorem vo_fuel : ∀ (f g n i : Nat) (leaf : Int) (pr : List Int), 1 ≤ n → n ≤ f → n ≤ g → vo T f n i leaf pr = vo T g n i leaf pr
  | 0, _, n, i, leaf, pr, h, h1, _ => by omega
  | f + 1, 0, n, i, leaf, pr, h, _, h1 => by omega
  | f + 1, g + 1, n, i, leaf, pr, h, h1, h2 => by
    unfold vo
    by_cases h3 : n = 1
    · rw [if_pos h3, if_pos h3]
    · obtain ⟨s1, s2⟩ := hf_spec n (by omega)
      have s3 := hf_pos n
      rw [if_neg h3, if_neg h3, vo_fuel f g (hf n) i leaf _ s3 (by omega) (by omega), vo_fuel f g (n - hf n) _ leaf _ (by omega) (by omega) (by omega)]
def ver (n i : Nat) (leaf : Int) (pr : List Int) : Option Int := vo T n n i leaf pr
theorem ver_one (i : Nat) (leaf : Int) (pr : List Int) : ver T 1 i leaf pr = if pr.length = 0 then some leaf else none := rfl
theorem ver_two (n i : Nat) (leaf : Int) (pr : List Int) (h : 2 ≤ n) : ver T n i leaf pr = if pr.length = 0 then none else
      if i < hf n then (ver T (hf n) i leaf pr.dropLast).map fun d => T d (pr.getD (pr.length - 1) 0)
      else (ver T (n - hf n) (i - hf n) leaf pr.dropLast).map fun d => T (pr.getD (pr.length - 1) 0) d := by
  obtain ⟨s1, s2⟩ := hf_spec n h
  have s3 := hf_pos n
  obtain ⟨f, hf'⟩ : ∃ f, n = f + 1 := ⟨n - 1, by omega⟩
  have e : ver T n i leaf pr = vo T (f + 1) n i leaf pr := by unfold ver; rw [← hf']
  rw [e]
  unfold vo
  rw [if_neg (by omega)]
  unfold ver
  rw [vo_fuel T f (hf n) (hf n) i leaf _ s3 (by omega) (Nat.le_refl _), vo_fuel T f (n - hf n) (n - hf n) _ leaf _ (by omega) (by omega) (Nat.le_refl _)]
/-- One step from the leaf. -/
def up (i : Nat) (leaf p : Int) : Int := if i % 2 = 0 then T leaf p else T p leaf
theorem cons_last (p : Int) (r : List Int) (h : r.length ≠ 0) : (p :: r).dropLast = p :: r.dropLast ∧ (p :: r).getD ((p :: r).length - 1) 0 = r.getD (r.length - 1) 0 := by
  match r, h with
  | q :: r, _ => exact ⟨rfl, by simp⟩
theorem ver_pair : ∀ (n i : Nat) (leaf : Int) (pr : List Int), 2 ≤ n → i < n →
    ver T n i leaf pr = if sib i < n then (match pr with | [] => none | p :: r => ver T ((n + 1) / 2) (i / 2) (up T i leaf p) r) else ver T ((n + 1) / 2) (i / 2) leaf pr := by
  intro n
  induction n using Nat.strongRecOn with
  | _ n ih =>
    intro i leaf pr h2 hi
    by_cases h3 : n = 2
    · subst h3
      have hs : sib i < 2 := by unfold sib; split <;> omega
      rw [if_pos hs, ver_two T 2 i leaf pr (by omega), hf_two]
      match pr with
      | [] => rfl
      | [p] =>
        rcases (show i = 0 ∨ i = 1 by omega) with rfl | rfl <;> rfl
      | p :: q :: r =>
        rcases (show i = 0 ∨ i = 1 by omega) with rfl | rfl <;> simp [ver_one]
    · obtain ⟨k, k1, e1, e2⟩ := hf_pair n (by omega)
      obtain ⟨s1, s2⟩ := hf_spec n h2
      rw [ver_two T n i leaf pr h2, e1]
      by_cases q : i < 2 * k
      · have hs : sib i < 2 * k := by unfold sib; split <;> omega
        rw [if_pos (show sib i < n by omega)]
        match pr with
        | [] => rfl
        | p :: r =>
          have ih1 := fun pr => ih (2 * k) (by omega) i leaf pr (by omega) q
          simp only [if_pos hs, show (2 * k + 1) / 2 = k by omega] at ih1
          show (if (p :: r).length = 0 then none else _) = ver T ((n + 1) / 2) (i / 2) (up T i leaf p) r
          rw [ver_two T ((n + 1) / 2) _ _ r (by omega), e2, if_pos q, if_pos (show i / 2 < k by omega), if_neg (by simp), ih1]
          by_cases hr : r.length = 0
          · have : r = [] := List.eq_nil_of_length_eq_zero hr
            subst this
            rfl
          · obtain ⟨c1, c2⟩ := cons_last p r hr
            rw [c1, c2, if_neg hr]
      · have ei : (i - 2 * k) / 2 = i / 2 - k := by omega
        have eu : ∀ p, up T (i - 2 * k) leaf p = up T i leaf p := fun p => by unfold up; rw [show (i - 2 * k) % 2 = i % 2 by omega]
        by_cases q1 : n - 2 * k = 1
        · have hs : ¬ sib i < n := by unfold sib; split <;> omega
          have e0 : i - 2 * k = 0 := by omega
          have e3 : i / 2 - k = 0 := by omega
          have e4 : (n + 1) / 2 - k = 1 := by omega
          rw [if_neg hs, ver_two T ((n + 1) / 2) _ _ pr (by omega), e2, if_neg q, if_neg (show ¬ i / 2 < k by omega), q1, e0, e3, e4]
        · have hs : sib i = 2 * k + sib (i - 2 * k) := by unfold sib; split <;> split <;> omega
          have ih1 := fun pr => ih (n - 2 * k) (by omega) (i - 2 * k) leaf pr (by omega) (by omega)
          rw [ei, show (n - 2 * k + 1) / 2 = (n + 1) / 2 - k by omega] at ih1
          by_cases q2 : sib i < n
          · rw [if_pos q2]
            have q3 : sib (i - 2 * k) < n - 2 * k := by omega
            simp only [if_pos q3, eu] at ih1
            match pr with
            | [] => rfl
            | p :: r =>
              show (if (p :: r).length = 0 then none else _) = ver T ((n + 1) / 2) (i / 2) (up T i leaf p) r
              rw [ver_two T ((n + 1) / 2) _ _ r (by omega), e2, if_neg q, if_neg (show ¬ i / 2 < k by omega), if_neg (by simp), ih1]
              by_cases hr : r.length = 0
              · have : r = [] := List.eq_nil_of_length_eq_zero hr
                subst this
                rfl
              · obtain ⟨c1, c2⟩ := cons_last p r hr
                rw [c1, c2, if_neg hr]
          · rw [if_neg q2, ver_two T ((n + 1) / 2) _ _ pr (by omega), e2, if_neg q, if_neg (show ¬ i / 2 < k by omega)]
            have q3 : ¬ sib (i - 2 * k) < n - 2 * k := by omega
            simp only [if_neg q3] at ih1
            rw [ih1]

/-- The way to the first leaf that differs, by halves: its place and how many comparisons. -/
def ndF : Nat → List Int → List Int → Nat × Nat
  | 0, _, _ => (0, 0)
  | f + 1, a, b => if a.length ≤ 1 then (0, 0) else
      if top T (a.take (hf a.length)) ≠ top T (b.take (hf a.length)) then ((ndF f (a.take (hf a.length)) (b.take (hf a.length))).1, (ndF f (a.take (hf a.length)) (b.take (hf a.length))).2 + 1)
      else (hf a.length + (ndF f (a.drop (hf a.length)) (b.drop (hf a.length))).1, (ndF f (a.drop (hf a.length)) (b.drop (hf a.length))).2 + 1)
theorem ndF_fuel : ∀ (f g : Nat) (a b : List Int), a.length ≤ f → a.length ≤ g → ndF T f a b = ndF T g a b
  | 0, 0, a, b, _, _ => rfl
  | 0, g + 1, a, b, h, _ => by
    have : a.length ≤ 1 := by omega
    simp [ndF, this]
  | f + 1, 0, a, b, _, h => by
    have : a.length ≤ 1 := by omega
    simp [ndF, this]
  | f + 1, g + 1, a, b, h1, h2 => by
    unfold ndF
    by_cases h0 : a.length ≤ 1
    · rw [if_pos h0, if_pos h0]
    · obtain ⟨s1, s2⟩ := hf_spec a.length (by omega)
      have s3 := hf_pos a.length
      rw [if_neg h0, if_neg h0, ndF_fuel f g (a.take _) _ (by simp; omega) (by simp; omega), ndF_fuel f g (a.drop _) _ (by simp; omega) (by simp; omega)]
def nd (a b : List Int) : Nat × Nat := ndF T a.length a b
theorem nd_one (a b : List Int) (h : a.length ≤ 1) : nd T a b = (0, 0) := by
  unfold nd
  rcases (show a.length = 0 ∨ a.length = 1 by omega) with e | e <;> rw [e]
  · rfl
  · simp [ndF, e]
theorem nd_two (a b : List Int) (h : 2 ≤ a.length) : nd T a b =
    if top T (a.take (hf a.length)) ≠ top T (b.take (hf a.length)) then ((nd T (a.take (hf a.length)) (b.take (hf a.length))).1, (nd T (a.take (hf a.length)) (b.take (hf a.length))).2 + 1)
    else (hf a.length + (nd T (a.drop (hf a.length)) (b.drop (hf a.length))).1, (nd T (a.drop (hf a.length)) (b.drop (hf a.length))).2 + 1) := by
  obtain ⟨s1, s2⟩ := hf_spec a.length h
  have s3 := hf_pos a.length
  obtain ⟨f, hf'⟩ : ∃ f, a.length = f + 1 := ⟨a.length - 1, by omega⟩
  have e : nd T a b = ndF T (f + 1) a b := by unfold nd; rw [hf']
  rw [e]
  unfold ndF
  rw [if_neg (by omega)]
  unfold nd
  rw [ndF_fuel T f _ (a.take _) _ (by simp; omega) (Nat.le_refl _), ndF_fuel T f _ (a.drop _) _ (by simp; omega) (Nat.le_refl _)]
theorem nd_lt : ∀ (n : Nat) (a b : List Int), a.length = n → 1 ≤ n → (nd T a b).1 < n := by
  intro n
  induction n using Nat.strongRecOn with
  | _ n ih =>
    intro a b ha h1
    by_cases h : n = 1
    · rw [nd_one T a b (by omega)]; show 0 < n; omega
    · obtain ⟨s1, s2⟩ := hf_spec n (by omega)
      have s3 := hf_pos n
      rw [nd_two T a b (by omega), ha]
      split
      · have := ih (hf n) s1 (a.take (hf n)) (b.take (hf n)) (by simp; omega) s3
        show (nd T (a.take (hf n)) (b.take (hf n))).1 < n
        omega
      · have := ih (n - hf n) (by omega) (a.drop (hf n)) (b.drop (hf n)) (by simp; omega) (by omega)
        show hf n + (nd T (a.drop (hf n)) (b.drop (hf n))).1 < n
        omega
/-- One level down. -/
def down (n : Nat) (a b : List Int) (p : Nat × Nat) : Nat × Nat :=
  if 2 * p.1 + 1 = n then (2 * p.1, p.2) else if a.getD (2 * p.1) 0 = b.getD (2 * p.1) 0 then (2 * p.1 + 1, p.2 + 1) else (2 * p.1, p.2 + 1)
theorem nd_pair : ∀ (n : Nat) (a b : List Int), a.length = n → b.length = n → 2 ≤ n → nd T a b = down n a b (nd T (pair T a) (pair T b)) := by
  intro n
  induction n using Nat.strongRecOn with
  | _ n ih =>
    intro a b ha hb h2
    by_cases h3 : n = 2
    · subst h3
      match a, ha, b, hb with
      | [x, y], _, [u, v], _ =>
        rw [nd_two T _ _ (by simp), nd_one T (pair T [x, y]) _ (by simp [pair_length])]
        have e : hf ([x, y] : List Int).length = 1 := hf_two
        rw [e]
        show (if x ≠ u then ((nd T [x] [u]).1, (nd T [x] [u]).2 + 1) else (1 + (nd T [y] [v]).1, (nd T [y] [v]).2 + 1)) = down 2 [x, y] [u, v] (0, 0)
        rw [nd_one T [x] [u] (by simp), nd_one T [y] [v] (by simp)]
        unfold down
        by_cases q : x = u
        · simp [q]
        · simp [q]
    · obtain ⟨k, k1, e1, e2⟩ := hf_pair n (by omega)
      obtain ⟨s1, s2⟩ := hf_spec n h2
      have hpa : (pair T a).length = (n + 1) / 2 := by rw [pair_length, ha]
      rw [nd_two T (pair T a) _ (by omega), nd_two T a b (by omega), hpa, e2, ha, e1, pair_take T k a (by omega), pair_drop T k a (by omega), pair_take T k b (by omega), pair_drop T k b (by omega)]
      rw [top_pair T (2 * k) (a.take (2 * k)) (by simp; omega) (by omega), top_pair T (2 * k) (b.take (2 * k)) (by simp; omega) (by omega)]
      have l1 := nd_lt T k (pair T (a.take (2 * k))) (pair T (b.take (2 * k))) (by rw [pair_length]; simp; omega) k1
      by_cases q : top T (a.take (2 * k)) ≠ top T (b.take (2 * k))
      · rw [if_pos q, if_pos q, ih (2 * k) (by omega) (a.take (2 * k)) (b.take (2 * k)) (by simp; omega) (by simp; omega) (by omega)]
        generalize nd T (pair T (a.take (2 * k))) (pair T (b.take (2 * k))) = p at *
        have g1 : (a.take (2 * k)).getD (2 * p.1) 0 = a.getD (2 * p.1) 0 := by
          rw [List.getD_eq_getElem?_getD, List.getElem?_take_of_lt (by omega), ← List.getD_eq_getElem?_getD]
        have g2 : (b.take (2 * k)).getD (2 * p.1) 0 = b.getD (2 * p.1) 0 := by
          rw [List.getD_eq_getElem?_getD, List.getElem?_take_of_lt (by omega), ← List.getD_eq_getElem?_getD]
        unfold down
        simp only [g1, g2]
        rw [if_neg (show ¬ 2 * p.1 + 1 = 2 * k by omega), if_neg (show ¬ 2 * p.1 + 1 = n by omega)]
        split <;> rfl
      · rw [if_neg q, if_neg q]
        have hd : nd T (a.drop (2 * k)) (b.drop (2 * k)) = down (n - 2 * k) (a.drop (2 * k)) (b.drop (2 * k)) (nd T (pair T (a.drop (2 * k))) (pair T (b.drop (2 * k)))) := by
          by_cases q1 : n - 2 * k = 1
          · rw [nd_one T _ _ (by simp; omega), nd_one T (pair T _) _ (by rw [pair_length]; simp; omega)]
            unfold down
            rw [if_pos (by simp; omega)]; rfl
          · exact ih (n - 2 * k) (by omega) _ _ (by simp; omega) (by simp; omega) (by omega)
        rw [hd]
        generalize nd T (pair T (a.drop (2 * k))) (pair T (b.drop (2 * k))) = p at *
        have g1 : (a.drop (2 * k)).getD (2 * p.1) 0 = a.getD (2 * (k + p.1)) 0 := by
          rw [List.getD_eq_getElem?_getD, List.getElem?_drop, ← List.getD_eq_getElem?_getD, Nat.mul_add]
        have g2 : (b.drop (2 * k)).getD (2 * p.1) 0 = b.getD (2 * (k + p.1)) 0 := by
          rw [List.getD_eq_getElem?_getD, List.getElem?_drop, ← List.getD_eq_getElem?_getD, Nat.mul_add]
        unfold down
        simp only [g1, g2]
        by_cases q2 : 2 * p.1 + 1 = n - 2 * k
        · rw [if_pos q2, if_pos (show 2 * (k + p.1) + 1 = n by omega)]
          show (2 * k + 2 * p.1, p.2 + 1) = (2 * (k + p.1), p.2 + 1)
          rw [Nat.mul_add]
        · rw [if_neg q2, if_neg (show ¬ 2 * (k + p.1) + 1 = n by omega)]
          split
          · show (2 * k + (2 * p.1 + 1), _) = (2 * (k + p.1) + 1, _)
            rw [Nat.mul_add]; rfl
          · show (2 * k + 2 * p.1, _) = (2 * (k + p.1), _)
            rw [Nat.mul_add]
end
end Go.Mk
end
/- What memory keeps while it grows: n cells at once. No program is named here. -/
section
namespace Go
open Go.RowKit
namespace Mem
theorem keep1 {w w1 w2 : World} {B : Nat} {A0 : Addr} {v0 : Value} (h : w1.cell? A0 = some v0 ∧ Below B w w1) (hb : Below w1.heap.size w1 w2) (hB : B ≤ w.heap.size) : w2.cell? A0 = some v0 ∧ Below B w w2 := by
  obtain ⟨h0, hh⟩ := h
  have k : ∀ {A : Addr} {v : Value}, w1.cell? A = some v → w2.cell? A = some v := fun {A v} h => (hb.cell (World.block_lt_of_cell? w1 _ h)).trans h
  exact ⟨k h0, hh.trans (hb.mono (Nat.le_trans hB hh.size))⟩
theorem keeps1 {w1 w2 : World} {p : World → Prop} {A0 : Addr} {v0 : Value} (h : w1.cell? A0 = some v0 ∧ p w1) (hb : Below w1.heap.size w1 w2) (hp : p w1 → Below w1.heap.size w1 w2 → p w2) : w2.cell? A0 = some v0 ∧ p w2 := by
  obtain ⟨h0, hh⟩ := h
  have k : ∀ {A : Addr} {v : Value}, w1.cell? A = some v → w2.cell? A = some v := fun {A v} h => (hb.cell (World.block_lt_of_cell? w1 _ h)).trans h
  exact ⟨k h0, hp hh hb⟩
theorem lastk1 {p0 q : Prop} (h : p0 ∧ q) : q := h.2
theorem midk1 {p0 q r : Prop} (h : p0 ∧ q ∧ r) : q := h.2.1
theorem keep2 {w w1 w2 : World} {B : Nat} {A0 A1 : Addr} {v0 v1 : Value} (h : w1.cell? A0 = some v0 ∧ w1.cell? A1 = some v1 ∧ Below B w w1) (hb : Below w1.heap.size w1 w2) (hB : B ≤ w.heap.size) : w2.cell? A0 = some v0 ∧ w2.cell? A1 = some v1 ∧ Below B w w2 := by
  obtain ⟨h0, h1, hh⟩ := h
  have k : ∀ {A : Addr} {v : Value}, w1.cell? A = some v → w2.cell? A = some v := fun {A v} h => (hb.cell (World.block_lt_of_cell? w1 _ h)).trans h
  exact ⟨k h0, k h1, hh.trans (hb.mono (Nat.le_trans hB hh.size))⟩
theorem keeps2 {w1 w2 : World} {p : World → Prop} {A0 A1 : Addr} {v0 v1 : Value} (h : w1.cell? A0 = some v0 ∧ w1.cell? A1 = some v1 ∧ p w1) (hb : Below w1.heap.size w1 w2) (hp : p w1 → Below w1.heap.size w1 w2 → p w2) : w2.cell? A0 = some v0 ∧ w2.cell? A1 = some v1 ∧ p w2 := by
  obtain ⟨h0, h1, hh⟩ := h
  have k : ∀ {A : Addr} {v : Value}, w1.cell? A = some v → w2.cell? A = some v := fun {A v} h => (hb.cell (World.block_lt_of_cell? w1 _ h)).trans h
  exact ⟨k h0, k h1, hp hh hb⟩
theorem lastk2 {p0 p1 q : Prop} (h : p0 ∧ p1 ∧ q) : q := h.2.2
theorem midk2 {p0 p1 q r : Prop} (h : p0 ∧ p1 ∧ q ∧ r) : q := h.2.2.1
theorem keep3 {w w1 w2 : World} {B : Nat} {A0 A1 A2 : Addr} {v0 v1 v2 : Value} (h : w1.cell? A0 = some v0 ∧ w1.cell? A1 = some v1 ∧ w1.cell? A2 = some v2 ∧ Below B w w1) (hb : Below w1.heap.size w1 w2) (hB : B ≤ w.heap.size) : w2.cell? A0 = some v0 ∧ w2.cell? A1 = some v1 ∧ w2.cell? A2 = some v2 ∧ Below B w w2 := by
  obtain ⟨h0, h1, h2, hh⟩ := h
  have k : ∀ {A : Addr} {v : Value}, w1.cell? A = some v → w2.cell? A = some v := fun {A v} h => (hb.cell (World.block_lt_of_cell? w1 _ h)).trans h
  exact ⟨k h0, k h1, k h2, hh.trans (hb.mono (Nat.le_trans hB hh.size))⟩
theorem keeps3 {w1 w2 : World} {p : World → Prop} {A0 A1 A2 : Addr} {v0 v1 v2 : Value} (h : w1.cell? A0 = some v0 ∧ w1.cell? A1 = some v1 ∧ w1.cell? A2 = some v2 ∧ p w1) (hb : Below w1.heap.size w1 w2) (hp : p w1 → Below w1.heap.size w1 w2 → p w2) : w2.cell? A0 = some v0 ∧ w2.cell? A1 = some v1 ∧ w2.cell? A2 = some v2 ∧ p w2 := by
  obtain ⟨h0, h1, h2, hh⟩ := h
  have k : ∀ {A : Addr} {v : Value}, w1.cell? A = some v → w2.cell? A = some v := fun {A v} h => (hb.cell (World.block_lt_of_cell? w1 _ h)).trans h
  exact ⟨k h0, k h1, k h2, hp hh hb⟩
theorem lastk3 {p0 p1 p2 q : Prop} (h : p0 ∧ p1 ∧ p2 ∧ q) : q := h.2.2.2
theorem midk3 {p0 p1 p2 q r : Prop} (h : p0 ∧ p1 ∧ p2 ∧ q ∧ r) : q := h.2.2.2.1
theorem keep4 {w w1 w2 : World} {B : Nat} {A0 A1 A2 A3 : Addr} {v0 v1 v2 v3 : Value} (h : w1.cell? A0 = some v0 ∧ w1.cell? A1 = some v1 ∧ w1.cell? A2 = some v2 ∧ w1.cell? A3 = some v3 ∧ Below B w w1) (hb : Below w1.heap.size w1 w2) (hB : B ≤ w.heap.size) : w2.cell? A0 = some v0 ∧ w2.cell? A1 = some v1 ∧ w2.cell? A2 = some v2 ∧ w2.cell? A3 = some v3 ∧ Below B w w2 := by
  obtain ⟨h0, h1, h2, h3, hh⟩ := h
  have k : ∀ {A : Addr} {v : Value}, w1.cell? A = some v → w2.cell? A = some v := fun {A v} h => (hb.cell (World.block_lt_of_cell? w1 _ h)).trans h
  exact ⟨k h0, k h1, k h2, k h3, hh.trans (hb.mono (Nat.le_trans hB hh.size))⟩
theorem keeps4 {w1 w2 : World} {p : World → Prop} {A0 A1 A2 A3 : Addr} {v0 v1 v2 v3 : Value} (h : w1.cell? A0 = some v0 ∧ w1.cell? A1 = some v1 ∧ w1.cell? A2 = some v2 ∧ w1.cell? A3 = some v3 ∧ p w1) (hb : Below w1.heap.size w1 w2) (hp : p w1 → Below w1.heap.size w1 w2 → p w2) : w2.cell? A0 = some v0 ∧ w2.cell? A1 = some v1 ∧ w2.cell? A2 = some v2 ∧ w2.cell? A3 = some v3 ∧ p w2 := by
  obtain ⟨h0, h1, h2, h3, hh⟩ := h
  have k : ∀ {A : Addr} {v : Value}, w1.cell? A = some v → w2.cell? A = some v := fun {A v} h => (hb.cell (World.block_lt_of_cell? w1 _ h)).trans h
  exact ⟨k h0, k h1, k h2, k h3, hp hh hb⟩
theorem lastk4 {p0 p1 p2 p3 q : Prop} (h : p0 ∧ p1 ∧ p2 ∧ p3 ∧ q) : q := h.2.2.2.2
theorem midk4 {p0 p1 p2 p3 q r : Prop} (h : p0 ∧ p1 ∧ p2 ∧ p3 ∧ q ∧ r) : q := h.2.2.2.2.1
theorem keep5 {w w1 w2 : World} {B : Nat} {A0 A1 A2 A3 A4 : Addr} {v0 v1 v2 v3 v4 : Value} (h : w1.cell? A0 = some v0 ∧ w1.cell? A1 = some v1 ∧ w1.cell? A2 = some v2 ∧ w1.cell? A3 = some v3 ∧ w1.cell? A4 = some v4 ∧ Below B w w1) (hb : Below w1.heap.size w1 w2) (hB : B ≤ w.heap.size) : w2.cell? A0 = some v0 ∧ w2.cell? A1 = some v1 ∧ w2.cell? A2 = some v2 ∧ w2.cell? A3 = some v3 ∧ w2.cell? A4 = some v4 ∧ Below B w w2 := by
  obtain ⟨h0, h1, h2, h3, h4, hh⟩ := h
  have k : ∀ {A : Addr} {v : Value}, w1.cell? A = some v → w2.cell? A = some v := fun {A v} h => (hb.cell (World.block_lt_of_cell? w1 _ h)).trans h
  exact ⟨k h0, k h1, k h2, k h3, k h4, hh.trans (hb.mono (Nat.le_trans hB hh.size))⟩
theorem keeps5 {w1 w2 : World} {p : World → Prop} {A0 A1 A2 A3 A4 : Addr} {v0 v1 v2 v3 v4 : Value} (h : w1.cell? A0 = some v0 ∧ w1.cell? A1 = some v1 ∧ w1.cell? A2 = some v2 ∧ w1.cell? A3 = some v3 ∧ w1.cell? A4 = some v4 ∧ p w1) (hb : Below w1.heap.size w1 w2) (hp : p w1 → Below w1.heap.size w1 w2 → p w2) : w2.cell? A0 = some v0 ∧ w2.cell? A1 = some v1 ∧ w2.cell? A2 = some v2 ∧ w2.cell? A3 = some v3 ∧ w2.cell? A4 = some v4 ∧ p w2 := by
  obtain ⟨h0, h1, h2, h3, h4, hh⟩ := h
  have k : ∀ {A : Addr} {v : Value}, w1.cell? A = some v → w2.cell? A = some v := fun {A v} h => (hb.cell (World.block_lt_of_cell? w1 _ h)).trans h
  exact ⟨k h0, k h1, k h2, k h3, k h4, hp hh hb⟩
theorem lastk5 {p0 p1 p2 p3 p4 q : Prop} (h : p0 ∧ p1 ∧ p2 ∧ p3 ∧ p4 ∧ q) : q := h.2.2.2.2.2
theorem midk5 {p0 p1 p2 p3 p4 q r : Prop} (h : p0 ∧ p1 ∧ p2 ∧ p3 ∧ p4 ∧ q ∧ r) : q := h.2.2.2.2.2.1
theorem keep6 {w w1 w2 : World} {B : Nat} {A0 A1 A2 A3 A4 A5 : Addr} {v0 v1 v2 v3 v4 v5 : Value} (h : w1.cell? A0 = some v0 ∧ w1.cell? A1 = some v1 ∧ w1.cell? A2 = some v2 ∧ w1.cell? A3 = some v3 ∧ w1.cell? A4 = some v4 ∧ w1.cell? A5 = some v5 ∧ Below B w w1) (hb : Below w1.heap.size w1 w2) (hB : B ≤ w.heap.size) : w2.cell? A0 = some v0 ∧ w2.cell? A1 = some v1 ∧ w2.cell? A2 = some v2 ∧ w2.cell? A3 = some v3 ∧ w2.cell? A4 = some v4 ∧ w2.cell? A5 = some v5 ∧ Below B w w2 := by
  obtain ⟨h0, h1, h2, h3, h4, h5, hh⟩ := h
  have k : ∀ {A : Addr} {v : Value}, w1.cell? A = some v → w2.cell? A = some v := fun {A v} h => (hb.cell (World.block_lt_of_cell? w1 _ h)).trans h
  exact ⟨k h0, k h1, k h2, k h3, k h4, k h5, hh.trans (hb.mono (Nat.le_trans hB hh.size))⟩
theorem keeps6 {w1 w2 : World} {p : World → Prop} {A0 A1 A2 A3 A4 A5 : Addr} {v0 v1 v2 v3 v4 v5 : Value} (h : w1.cell? A0 = some v0 ∧ w1.cell? A1 = some v1 ∧ w1.cell? A2 = some v2 ∧ w1.cell? A3 = some v3 ∧ w1.cell? A4 = some v4 ∧ w1.cell? A5 = some v5 ∧ p w1) (hb : Below w1.heap.size w1 w2) (hp : p w1 → Below w1.heap.size w1 w2 → p w2) : w2.cell? A0 = some v0 ∧ w2.cell? A1 = some v1 ∧ w2.cell? A2 = some v2 ∧ w2.cell? A3 = some v3 ∧ w2.cell? A4 = some v4 ∧ w2.cell? A5 = some v5 ∧ p w2 := by
  obtain ⟨h0, h1, h2, h3, h4, h5, hh⟩ := h
  have k : ∀ {A : Addr} {v : Value}, w1.cell? A = some v → w2.cell? A = some v := fun {A v} h => (hb.cell (World.block_lt_of_cell? w1 _ h)).trans h
  exact ⟨k h0, k h1, k h2, k h3, k h4, k h5, hp hh hb⟩
theorem lastk6 {p0 p1 p2 p3 p4 p5 q : Prop} (h : p0 ∧ p1 ∧ p2 ∧ p3 ∧ p4 ∧ p5 ∧ q) : q := h.2.2.2.2.2.2
theorem midk6 {p0 p1 p2 p3 p4 p5 q r : Prop} (h : p0 ∧ p1 ∧ p2 ∧ p3 ∧ p4 ∧ p5 ∧ q ∧ r) : q := h.2.2.2.2.2.2.1
theorem keep7 {w w1 w2 : World} {B : Nat} {A0 A1 A2 A3 A4 A5 A6 : Addr} {v0 v1 v2 v3 v4 v5 v6 : Value} (h : w1.cell? A0 = some v0 ∧ w1.cell? A1 = some v1 ∧ w1.cell? A2 = some v2 ∧ w1.cell? A3 = some v3 ∧ w1.cell? A4 = some v4 ∧ w1.cell? A5 = some v5 ∧ w1.cell? A6 = some v6 ∧ Below B w w1) (hb : Below w1.heap.size w1 w2) (hB : B ≤ w.heap.size) : w2.cell? A0 = some v0 ∧ w2.cell? A1 = some v1 ∧ w2.cell? A2 = some v2 ∧ w2.cell? A3 = some v3 ∧ w2.cell? A4 = some v4 ∧ w2.cell? A5 = some v5 ∧ w2.cell? A6 = some v6 ∧ Below B w w2 := by
  obtain ⟨h0, h1, h2, h3, h4, h5, h6, hh⟩ := h
  have k : ∀ {A : Addr} {v : Value}, w1.cell? A = some v → w2.cell? A = some v := fun {A v} h => (hb.cell (World.block_lt_of_cell? w1 _ h)).trans h
  exact ⟨k h0, k h1, k h2, k h3, k h4, k h5, k h6, hh.trans (hb.mono (Nat.le_trans hB hh.size))⟩
theorem keeps7 {w1 w2 : World} {p : World → Prop} {A0 A1 A2 A3 A4 A5 A6 : Addr} {v0 v1 v2 v3 v4 v5 v6 : Value} (h : w1.cell? A0 = some v0 ∧ w1.cell? A1 = some v1 ∧ w1.cell? A2 = some v2 ∧ w1.cell? A3 = some v3 ∧ w1.cell? A4 = some v4 ∧ w1.cell? A5 = some v5 ∧ w1.cell? A6 = some v6 ∧ p w1) (hb : Below w1.heap.size w1 w2) (hp : p w1 → Below w1.heap.size w1 w2 → p w2) : w2.cell? A0 = some v0 ∧ w2.cell? A1 = some v1 ∧ w2.cell? A2 = some v2 ∧ w2.cell? A3 = some v3 ∧ w2.cell? A4 = some v4 ∧ w2.cell? A5 = some v5 ∧ w2.cell? A6 = some v6 ∧ p w2 := by
  obtain ⟨h0, h1, h2, h3, h4, h5, h6, hh⟩ := h
  have k : ∀ {A : Addr} {v : Value}, w1.cell? A = some v → w2.cell? A = some v := fun {A v} h => (hb.cell (World.block_lt_of_cell? w1 _ h)).trans h
  exact ⟨k h0, k h1, k h2, k h3, k h4, k h5, k h6, hp hh hb⟩
theorem lastk7 {p0 p1 p2 p3 p4 p5 p6 q : Prop} (h : p0 ∧ p1 ∧ p2 ∧ p3 ∧ p4 ∧ p5 ∧ p6 ∧ q) : q := h.2.2.2.2.2.2.2
theorem midk7 {p0 p1 p2 p3 p4 p5 p6 q r : Prop} (h : p0 ∧ p1 ∧ p2 ∧ p3 ∧ p4 ∧ p5 ∧ p6 ∧ q ∧ r) : q := h.2.2.2.2.2.2.2.1
theorem keep8 {w w1 w2 : World} {B : Nat} {A0 A1 A2 A3 A4 A5 A6 A7 : Addr} {v0 v1 v2 v3 v4 v5 v6 v7 : Value} (h : w1.cell? A0 = some v0 ∧ w1.cell? A1 = some v1 ∧ w1.cell? A2 = some v2 ∧ w1.cell? A3 = some v3 ∧ w1.cell? A4 = some v4 ∧ w1.cell? A5 = some v5 ∧ w1.cell? A6 = some v6 ∧ w1.cell? A7 = some v7 ∧ Below B w w1) (hb : Below w1.heap.size w1 w2) (hB : B ≤ w.heap.size) : w2.cell? A0 = some v0 ∧ w2.cell? A1 = some v1 ∧ w2.cell? A2 = some v2 ∧ w2.cell? A3 = some v3 ∧ w2.cell? A4 = some v4 ∧ w2.cell? A5 = some v5 ∧ w2.cell? A6 = some v6 ∧ w2.cell? A7 = some v7 ∧ Below B w w2 := by
  obtain ⟨h0, h1, h2, h3, h4, h5, h6, h7, hh⟩ := h
  have k : ∀ {A : Addr} {v : Value}, w1.cell? A = some v → w2.cell? A = some v := fun {A v} h => (hb.cell (World.block_lt_of_cell? w1 _ h)).trans h
  exact ⟨k h0, k h1, k h2, k h3, k h4, k h5, k h6, k h7, hh.trans (hb.mono (Nat.le_trans hB hh.size))⟩
theorem keeps8 {w1 w2 : World} {p : World → Prop} {A0 A1 A2 A3 A4 A5 A6 A7 : Addr} {v0 v1 v2 v3 v4 v5 v6 v7 : Value} (h : w1.cell? A0 = some v0 ∧ w1.cell? A1 = some v1 ∧ w1.cell? A2 = some v2 ∧ w1.cell? A3 = some v3 ∧ w1.cell? A4 = some v4 ∧ w1.cell? A5 = some v5 ∧ w1.cell? A6 = some v6 ∧ w1.cell? A7 = some v7 ∧ p w1) (hb : Below w1.heap.size w1 w2) (hp : p w1 → Below w1.heap.size w1 w2 → p w2) : w2.cell? A0 = some v0 ∧ w2.cell? A1 = some v1 ∧ w2.cell? A2 = some v2 ∧ w2.cell? A3 = some v3 ∧ w2.cell? A4 = some v4 ∧ w2.cell? A5 = some v5 ∧ w2.cell? A6 = some v6 ∧ w2.cell? A7 = some v7 ∧ p w2 := by
  obtain ⟨h0, h1, h2, h3, h4, h5, h6, h7, hh⟩ := h
  have k : ∀ {A : Addr} {v : Value}, w1.cell? A = some v → w2.cell? A = some v := fun {A v} h => (hb.cell (World.block_lt_of_cell? w1 _ h)).trans h
  exact ⟨k h0, k h1, k h2, k h3, k h4, k h5, k h6, k h7, hp hh hb⟩
theorem lastk8 {p0 p1 p2 p3 p4 p5 p6 p7 q : Prop} (h : p0 ∧ p1 ∧ p2 ∧ p3 ∧ p4 ∧ p5 ∧ p6 ∧ p7 ∧ q) : q := h.2.2.2.2.2.2.2.2
theorem midk8 {p0 p1 p2 p3 p4 p5 p6 p7 q r : Prop} (h : p0 ∧ p1 ∧ p2 ∧ p3 ∧ p4 ∧ p5 ∧ p6 ∧ p7 ∧ q ∧ r) : q := h.2.2.2.2.2.2.2.2.1
theorem keep9 {w w1 w2 : World} {B : Nat} {A0 A1 A2 A3 A4 A5 A6 A7 A8 : Addr} {v0 v1 v2 v3 v4 v5 v6 v7 v8 : Value} (h : w1.cell? A0 = some v0 ∧ w1.cell? A1 = some v1 ∧ w1.cell? A2 = some v2 ∧ w1.cell? A3 = some v3 ∧ w1.cell? A4 = some v4 ∧ w1.cell? A5 = some v5 ∧ w1.cell? A6 = some v6 ∧ w1.cell? A7 = some v7 ∧ w1.cell? A8 = some v8 ∧ Below B w w1) (hb : Below w1.heap.size w1 w2) (hB : B ≤ w.heap.size) : w2.cell? A0 = some v0 ∧ w2.cell? A1 = some v1 ∧ w2.cell? A2 = some v2 ∧ w2.cell? A3 = some v3 ∧ w2.cell? A4 = some v4 ∧ w2.cell? A5 = some v5 ∧ w2.cell? A6 = some v6 ∧ w2.cell? A7 = some v7 ∧ w2.cell? A8 = some v8 ∧ Below B w w2 := by
  obtain ⟨h0, h1, h2, h3, h4, h5, h6, h7, h8, hh⟩ := h
  have k : ∀ {A : Addr} {v : Value}, w1.cell? A = some v → w2.cell? A = some v := fun {A v} h => (hb.cell (World.block_lt_of_cell? w1 _ h)).trans h
  exact ⟨k h0, k h1, k h2, k h3, k h4, k h5, k h6, k h7, k h8, hh.trans (hb.mono (Nat.le_trans hB hh.size))⟩
theorem keeps9 {w1 w2 : World} {p : World → Prop} {A0 A1 A2 A3 A4 A5 A6 A7 A8 : Addr} {v0 v1 v2 v3 v4 v5 v6 v7 v8 : Value} (h : w1.cell? A0 = some v0 ∧ w1.cell? A1 = some v1 ∧ w1.cell? A2 = some v2 ∧ w1.cell? A3 = some v3 ∧ w1.cell? A4 = some v4 ∧ w1.cell? A5 = some v5 ∧ w1.cell? A6 = some v6 ∧ w1.cell? A7 = some v7 ∧ w1.cell? A8 = some v8 ∧ p w1) (hb : Below w1.heap.size w1 w2) (hp : p w1 → Below w1.heap.size w1 w2 → p w2) : w2.cell? A0 = some v0 ∧ w2.cell? A1 = some v1 ∧ w2.cell? A2 = some v2 ∧ w2.cell? A3 = some v3 ∧ w2.cell? A4 = some v4 ∧ w2.cell? A5 = some v5 ∧ w2.cell? A6 = some v6 ∧ w2.cell? A7 = some v7 ∧ w2.cell? A8 = some v8 ∧ p w2 := by
  obtain ⟨h0, h1, h2, h3, h4, h5, h6, h7, h8, hh⟩ := h
  have k : ∀ {A : Addr} {v : Value}, w1.cell? A = some v → w2.cell? A = some v := fun {A v} h => (hb.cell (World.block_lt_of_cell? w1 _ h)).trans h
  exact ⟨k h0, k h1, k h2, k h3, k h4, k h5, k h6, k h7, k h8, hp hh hb⟩
theorem lastk9 {p0 p1 p2 p3 p4 p5 p6 p7 p8 q : Prop} (h : p0 ∧ p1 ∧ p2 ∧ p3 ∧ p4 ∧ p5 ∧ p6 ∧ p7 ∧ p8 ∧ q) : q := h.2.2.2.2.2.2.2.2.2
theorem midk9 {p0 p1 p2 p3 p4 p5 p6 p7 p8 q r : Prop} (h : p0 ∧ p1 ∧ p2 ∧ p3 ∧ p4 ∧ p5 ∧ p6 ∧ p7 ∧ p8 ∧ q ∧ r) : q := h.2.2.2.2.2.2.2.2.2.1
theorem keep10 {w w1 w2 : World} {B : Nat} {A0 A1 A2 A3 A4 A5 A6 A7 A8 A9 : Addr} {v0 v1 v2 v3 v4 v5 v6 v7 v8 v9 : Value} (h : w1.cell? A0 = some v0 ∧ w1.cell? A1 = some v1 ∧ w1.cell? A2 = some v2 ∧ w1.cell? A3 = some v3 ∧ w1.cell? A4 = some v4 ∧ w1.cell? A5 = some v5 ∧ w1.cell? A6 = some v6 ∧ w1.cell? A7 = some v7 ∧ w1.cell? A8 = some v8 ∧ w1.cell? A9 = some v9 ∧ Below B w w1) (hb : Below w1.heap.size w1 w2) (hB : B ≤ w.heap.size) : w2.cell? A0 = some v0 ∧ w2.cell? A1 = some v1 ∧ w2.cell? A2 = some v2 ∧ w2.cell? A3 = some v3 ∧ w2.cell? A4 = some v4 ∧ w2.cell? A5 = some v5 ∧ w2.cell? A6 = some v6 ∧ w2.cell? A7 = some v7 ∧ w2.cell? A8 = some v8 ∧ w2.cell? A9 = some v9 ∧ Below B w w2 := by
  obtain ⟨h0, h1, h2, h3, h4, h5, h6, h7, h8, h9, hh⟩ := h
  have k : ∀ {A : Addr} {v : Value}, w1.cell? A = some v → w2.cell? A = some v := fun {A v} h => (hb.cell (World.block_lt_of_cell? w1 _ h)).trans h
  exact ⟨k h0, k h1, k h2, k h3, k h4, k h5, k h6, k h7, k h8, k h9, hh.trans (hb.mono (Nat.le_trans hB hh.size))⟩
theorem keeps10 {w1 w2 : World} {p : World → Prop} {A0 A1 A2 A3 A4 A5 A6 A7 A8 A9 : Addr} {v0 v1 v2 v3 v4 v5 v6 v7 v8 v9 : Value} (h : w1.cell? A0 = some v0 ∧ w1.cell? A1 = some v1 ∧ w1.cell? A2 = some v2 ∧ w1.cell? A3 = some v3 ∧ w1.cell? A4 = some v4 ∧ w1.cell? A5 = some v5 ∧ w1.cell? A6 = some v6 ∧ w1.cell? A7 = some v7 ∧ w1.cell? A8 = some v8 ∧ w1.cell? A9 = some v9 ∧ p w1) (hb : Below w1.heap.size w1 w2) (hp : p w1 → Below w1.heap.size w1 w2 → p w2) : w2.cell? A0 = some v0 ∧ w2.cell? A1 = some v1 ∧ w2.cell? A2 = some v2 ∧ w2.cell? A3 = some v3 ∧ w2.cell? A4 = some v4 ∧ w2.cell? A5 = some v5 ∧ w2.cell? A6 = some v6 ∧ w2.cell? A7 = some v7 ∧ w2.cell? A8 = some v8 ∧ w2.cell? A9 = some v9 ∧ p w2 := by
  obtain ⟨h0, h1, h2, h3, h4, h5, h6, h7, h8, h9, hh⟩ := h
  have k : ∀ {A : Addr} {v : Value}, w1.cell? A = some v → w2.cell? A = some v := fun {A v} h => (hb.cell (World.block_lt_of_cell? w1 _ h)).trans h
  exact ⟨k h0, k h1, k h2, k h3, k h4, k h5, k h6, k h7, k h8, k h9, hp hh hb⟩
theorem lastk10 {p0 p1 p2 p3 p4 p5 p6 p7 p8 p9 q : Prop} (h : p0 ∧ p1 ∧ p2 ∧ p3 ∧ p4 ∧ p5 ∧ p6 ∧ p7 ∧ p8 ∧ p9 ∧ q) : q := h.2.2.2.2.2.2.2.2.2.2
theorem midk10 {p0 p1 p2 p3 p4 p5 p6 p7 p8 p9 q r : Prop} (h : p0 ∧ p1 ∧ p2 ∧ p3 ∧ p4 ∧ p5 ∧ p6 ∧ p7 ∧ p8 ∧ p9 ∧ q ∧ r) : q := h.2.2.2.2.2.2.2.2.2.2.1
theorem keep11 {w w1 w2 : World} {B : Nat} {A0 A1 A2 A3 A4 A5 A6 A7 A8 A9 A10 : Addr} {v0 v1 v2 v3 v4 v5 v6 v7 v8 v9 v10 : Value} (h : w1.cell? A0 = some v0 ∧ w1.cell? A1 = some v1 ∧ w1.cell? A2 = some v2 ∧ w1.cell? A3 = some v3 ∧ w1.cell? A4 = some v4 ∧ w1.cell? A5 = some v5 ∧ w1.cell? A6 = some v6 ∧ w1.cell? A7 = some v7 ∧ w1.cell? A8 = some v8 ∧ w1.cell? A9 = some v9 ∧ w1.cell? A10 = some v10 ∧ Below B w w1) (hb : Below w1.heap.size w1 w2) (hB : B ≤ w.heap.size) : w2.cell? A0 = some v0 ∧ w2.cell? A1 = some v1 ∧ w2.cell? A2 = some v2 ∧ w2.cell? A3 = some v3 ∧ w2.cell? A4 = some v4 ∧ w2.cell? A5 = some v5 ∧ w2.cell? A6 = some v6 ∧ w2.cell? A7 = some v7 ∧ w2.cell? A8 = some v8 ∧ w2.cell? A9 = some v9 ∧ w2.cell? A10 = some v10 ∧ Below B w w2 := by
  obtain ⟨h0, h1, h2, h3, h4, h5, h6, h7, h8, h9, h10, hh⟩ := h
  have k : ∀ {A : Addr} {v : Value}, w1.cell? A = some v → w2.cell? A = some v := fun {A v} h => (hb.cell (World.block_lt_of_cell? w1 _ h)).trans h
  exact ⟨k h0, k h1, k h2, k h3, k h4, k h5, k h6, k h7, k h8, k h9, k h10, hh.trans (hb.mono (Nat.le_trans hB hh.size))⟩
theorem keeps11 {w1 w2 : World} {p : World → Prop} {A0 A1 A2 A3 A4 A5 A6 A7 A8 A9 A10 : Addr} {v0 v1 v2 v3 v4 v5 v6 v7 v8 v9 v10 : Value} (h : w1.cell? A0 = some v0 ∧ w1.cell? A1 = some v1 ∧ w1.cell? A2 = some v2 ∧ w1.cell? A3 = some v3 ∧ w1.cell? A4 = some v4 ∧ w1.cell? A5 = some v5 ∧ w1.cell? A6 = some v6 ∧ w1.cell? A7 = some v7 ∧ w1.cell? A8 = some v8 ∧ w1.cell? A9 = some v9 ∧ w1.cell? A10 = some v10 ∧ p w1) (hb : Below w1.heap.size w1 w2) (hp : p w1 → Below w1.heap.size w1 w2 → p w2) : w2.cell? A0 = some v0 ∧ w2.cell? A1 = some v1 ∧ w2.cell? A2 = some v2 ∧ w2.cell? A3 = some v3 ∧ w2.cell? A4 = some v4 ∧ w2.cell? A5 = some v5 ∧ w2.cell? A6 = some v6 ∧ w2.cell? A7 = some v7 ∧ w2.cell? A8 = some v8 ∧ w2.cell? A9 = some v9 ∧ w2.cell? A10 = some v10 ∧ p w2 := by
  obtain ⟨h0, h1, h2, h3, h4, h5, h6, h7, h8, h9, h10, hh⟩ := h
  have k : ∀ {A : Addr} {v : Value}, w1.cell? A = some v → w2.cell? A = some v := fun {A v} h => (hb.cell (World.block_lt_of_cell? w1 _ h)).trans h
  exact ⟨k h0, k h1, k h2, k h3, k h4, k h5, k h6, k h7, k h8, k h9, k h10, hp hh hb⟩
theorem lastk11 {p0 p1 p2 p3 p4 p5 p6 p7 p8 p9 p10 q : Prop} (h : p0 ∧ p1 ∧ p2 ∧ p3 ∧ p4 ∧ p5 ∧ p6 ∧ p7 ∧ p8 ∧ p9 ∧ p10 ∧ q) : q := h.2.2.2.2.2.2.2.2.2.2.2
theorem midk11 {p0 p1 p2 p3 p4 p5 p6 p7 p8 p9 p10 q r : Prop} (h : p0 ∧ p1 ∧ p2 ∧ p3 ∧ p4 ∧ p5 ∧ p6 ∧ p7 ∧ p8 ∧ p9 ∧ p10 ∧ q ∧ r) : q := h.2.2.2.2.2.2.2.2.2.2.2.1
theorem keep12 {w w1 w2 : World} {B : Nat} {A0 A1 A2 A3 A4 A5 A6 A7 A8 A9 A10 A11 : Addr} {v0 v1 v2 v3 v4 v5 v6 v7 v8 v9 v10 v11 : Value} (h : w1.cell? A0 = some v0 ∧ w1.cell? A1 = some v1 ∧ w1.cell? A2 = some v2 ∧ w1.cell? A3 = some v3 ∧ w1.cell? A4 = some v4 ∧ w1.cell? A5 = some v5 ∧ w1.cell? A6 = some v6 ∧ w1.cell? A7 = some v7 ∧ w1.cell? A8 = some v8 ∧ w1.cell? A9 = some v9 ∧ w1.cell? A10 = some v10 ∧ w1.cell? A11 = some v11 ∧ Below B w w1) (hb : Below w1.heap.size w1 w2) (hB : B ≤ w.heap.size) : w2.cell? A0 = some v0 ∧ w2.cell? A1 = some v1 ∧ w2.cell? A2 = some v2 ∧ w2.cell? A3 = some v3 ∧ w2.cell? A4 = some v4 ∧ w2.cell? A5 = some v5 ∧ w2.cell? A6 = some v6 ∧ w2.cell? A7 = some v7 ∧ w2.cell? A8 = some v8 ∧ w2.cell? A9 = some v9 ∧ w2.cell? A10 = some v10 ∧ w2.cell? A11 = some v11 ∧ Below B w w2 := by
  obtain ⟨h0, h1, h2, h3, h4, h5, h6, h7, h8, h9, h10, h11, hh⟩ := h
  have k : ∀ {A : Addr} {v : Value}, w1.cell? A = some v → w2.cell? A = some v := fun {A v} h => (hb.cell (World.block_lt_of_cell? w1 _ h)).trans h
  exact ⟨k h0, k h1, k h2, k h3, k h4, k h5, k h6, k h7, k h8, k h9, k h10, k h11, hh.trans (hb.mono (Nat.le_trans hB hh.size))⟩
theorem keeps12 {w1 w2 : World} {p : World → Prop} {A0 A1 A2 A3 A4 A5 A6 A7 A8 A9 A10 A11 : Addr} {v0 v1 v2 v3 v4 v5 v6 v7 v8 v9 v10 v11 : Value} (h : w1.cell? A0 = some v0 ∧ w1.cell? A1 = some v1 ∧ w1.cell? A2 = some v2 ∧ w1.cell? A3 = some v3 ∧ w1.cell? A4 = some v4 ∧ w1.cell? A5 = some v5 ∧ w1.cell? A6 = some v6 ∧ w1.cell? A7 = some v7 ∧ w1.cell? A8 = some v8 ∧ w1.cell? A9 = some v9 ∧ w1.cell? A10 = some v10 ∧ w1.cell? A11 = some v11 ∧ p w1) (hb : Below w1.heap.size w1 w2) (hp : p w1 → Below w1.heap.size w1 w2 → p w2) : w2.cell? A0 = some v0 ∧ w2.cell? A1 = some v1 ∧ w2.cell? A2 = some v2 ∧ w2.cell? A3 = some v3 ∧ w2.cell? A4 = some v4 ∧ w2.cell? A5 = some v5 ∧ w2.cell? A6 = some v6 ∧ w2.cell? A7 = some v7 ∧ w2.cell? A8 = some v8 ∧ w2.cell? A9 = some v9 ∧ w2.cell? A10 = some v10 ∧ w2.cell? A11 = some v11 ∧ p w2 := by
  obtain ⟨h0, h1, h2, h3, h4, h5, h6, h7, h8, h9, h10, h11, hh⟩ := h
  have k : ∀ {A : Addr} {v : Value}, w1.cell? A = some v → w2.cell? A = some v := fun {A v} h => (hb.cell (World.block_lt_of_cell? w1 _ h)).trans h
  exact ⟨k h0, k h1, k h2, k h3, k h4, k h5, k h6, k h7, k h8, k h9, k h10, k h11, hp hh hb⟩
theorem lastk12 {p0 p1 p2 p3 p4 p5 p6 p7 p8 p9 p10 p11 q : Prop} (h : p0 ∧ p1 ∧ p2 ∧ p3 ∧ p4 ∧ p5 ∧ p6 ∧ p7 ∧ p8 ∧ p9 ∧ p10 ∧ p11 ∧ q) : q := h.2.2.2.2.2.2.2.2.2.2.2.2
theorem midk12 {p0 p1 p2 p3 p4 p5 p6 p7 p8 p9 p10 p11 q r : Prop} (h : p0 ∧ p1 ∧ p2 ∧ p3 ∧ p4 ∧ p5 ∧ p6 ∧ p7 ∧ p8 ∧ p9 ∧ p10 ∧ p11 ∧ q ∧ r) : q := h.2.2.2.2.2.2.2.2.2.2.2.2.1
theorem keep13 {w w1 w2 : World} {B : Nat} {A0 A1 A2 A3 A4 A5 A6 A7 A8 A9 A10 A11 A12 : Addr} {v0 v1 v2 v3 v4 v5 v6 v7 v8 v9 v10 v11 v12 : Value} (h : w1.cell? A0 = some v0 ∧ w1.cell? A1 = some v1 ∧ w1.cell? A2 = some v2 ∧ w1.cell? A3 = some v3 ∧ w1.cell? A4 = some v4 ∧ w1.cell? A5 = some v5 ∧ w1.cell? A6 = some v6 ∧ w1.cell? A7 = some v7 ∧ w1.cell? A8 = some v8 ∧ w1.cell? A9 = some v9 ∧ w1.cell? A10 = some v10 ∧ w1.cell? A11 = some v11 ∧ w1.cell? A12 = some v12 ∧ Below B w w1) (hb : Below w1.heap.size w1 w2) (hB : B ≤ w.heap.size) : w2.cell? A0 = some v0 ∧ w2.cell? A1 = some v1 ∧ w2.cell? A2 = some v2 ∧ w2.cell? A3 = some v3 ∧ w2.cell? A4 = some v4 ∧ w2.cell? A5 = some v5 ∧ w2.cell? A6 = some v6 ∧ w2.cell? A7 = some v7 ∧ w2.cell? A8 = some v8 ∧ w2.cell? A9 = some v9 ∧ w2.cell? A10 = some v10 ∧ w2.cell? A11 = some v11 ∧ w2.cell? A12 = some v12 ∧ Below B w w2 := by
  obtain ⟨h0, h1, h2, h3, h4, h5, h6, h7, h8, h9, h10, h11, h12, hh⟩ := h
  have k : ∀ {A : Addr} {v : Value}, w1.cell? A = some v → w2.cell? A = some v := fun {A v} h => (hb.cell (World.block_lt_of_cell? w1 _ h)).trans h
  exact ⟨k h0, k h1, k h2, k h3, k h4, k h5, k h6, k h7, k h8, k h9, k h10, k h11, k h12, hh.trans (hb.mono (Nat.le_trans hB hh.size))⟩
theorem keeps13 {w1 w2 : World} {p : World → Prop} {A0 A1 A2 A3 A4 A5 A6 A7 A8 A9 A10 A11 A12 : Addr} {v0 v1 v2 v3 v4 v5 v6 v7 v8 v9 v10 v11 v12 : Value} (h : w1.cell? A0 = some v0 ∧ w1.cell? A1 = some v1 ∧ w1.cell? A2 = some v2 ∧ w1.cell? A3 = some v3 ∧ w1.cell? A4 = some v4 ∧ w1.cell? A5 = some v5 ∧ w1.cell? A6 = some v6 ∧ w1.cell? A7 = some v7 ∧ w1.cell? A8 = some v8 ∧ w1.cell? A9 = some v9 ∧ w1.cell? A10 = some v10 ∧ w1.cell? A11 = some v11 ∧ w1.cell? A12 = some v12 ∧ p w1) (hb : Below w1.heap.size w1 w2) (hp : p w1 → Below w1.heap.size w1 w2 → p w2) : w2.cell? A0 = some v0 ∧ w2.cell? A1 = some v1 ∧ w2.cell? A2 = some v2 ∧ w2.cell? A3 = some v3 ∧ w2.cell? A4 = some v4 ∧ w2.cell? A5 = some v5 ∧ w2.cell? A6 = some v6 ∧ w2.cell? A7 = some v7 ∧ w2.cell? A8 = some v8 ∧ w2.cell? A9 = some v9 ∧ w2.cell? A10 = some v10 ∧ w2.cell? A11 = some v11 ∧ w2.cell? A12 = some v12 ∧ p w2 := by
  obtain ⟨h0, h1, h2, h3, h4, h5, h6, h7, h8, h9, h10, h11, h12, hh⟩ := h
  have k : ∀ {A : Addr} {v : Value}, w1.cell? A = some v → w2.cell? A = some v := fun {A v} h => (hb.cell (World.block_lt_of_cell? w1 _ h)).trans h
  exact ⟨k h0, k h1, k h2, k h3, k h4, k h5, k h6, k h7, k h8, k h9, k h10, k h11, k h12, hp hh hb⟩
theorem lastk13 {p0 p1 p2 p3 p4 p5 p6 p7 p8 p9 p10 p11 p12 q : Prop} (h : p0 ∧ p1 ∧ p2 ∧ p3 ∧ p4 ∧ p5 ∧ p6 ∧ p7 ∧ p8 ∧ p9 ∧ p10 ∧ p11 ∧ p12 ∧ q) : q := h.2.2.2.2.2.2.2.2.2.2.2.2.2
theorem midk13 {p0 p1 p2 p3 p4 p5 p6 p7 p8 p9 p10 p11 p12 q r : Prop} (h : p0 ∧ p1 ∧ p2 ∧ p3 ∧ p4 ∧ p5 ∧ p6 ∧ p7 ∧ p8 ∧ p9 ∧ p10 ∧ p11 ∧ p12 ∧ q ∧ r) : q := h.2.2.2.2.2.2.2.2.2.2.2.2.2.1
theorem keep14 {w w1 w2 : World} {B : Nat} {A0 A1 A2 A3 A4 A5 A6 A7 A8 A9 A10 A11 A12 A13 : Addr} {v0 v1 v2 v3 v4 v5 v6 v7 v8 v9 v10 v11 v12 v13 : Value} (h : w1.cell? A0 = some v0 ∧ w1.cell? A1 = some v1 ∧ w1.cell? A2 = some v2 ∧ w1.cell? A3 = some v3 ∧ w1.cell? A4 = some v4 ∧ w1.cell? A5 = some v5 ∧ w1.cell? A6 = some v6 ∧ w1.cell? A7 = some v7 ∧ w1.cell? A8 = some v8 ∧ w1.cell? A9 = some v9 ∧ w1.cell? A10 = some v10 ∧ w1.cell? A11 = some v11 ∧ w1.cell? A12 = some v12 ∧ w1.cell? A13 = some v13 ∧ Below B w w1) (hb : Below w1.heap.size w1 w2) (hB : B ≤ w.heap.size) : w2.cell? A0 = some v0 ∧ w2.cell? A1 = some v1 ∧ w2.cell? A2 = some v2 ∧ w2.cell? A3 = some v3 ∧ w2.cell? A4 = some v4 ∧ w2.cell? A5 = some v5 ∧ w2.cell? A6 = some v6 ∧ w2.cell? A7 = some v7 ∧ w2.cell? A8 = some v8 ∧ w2.cell? A9 = some v9 ∧ w2.cell? A10 = some v10 ∧ w2.cell? A11 = some v11 ∧ w2.cell? A12 = some v12 ∧ w2.cell? A13 = some v13 ∧ Below B w w2 := by
  obtain ⟨h0, h1, h2, h3, h4, h5, h6, h7, h8, h9, h10, h11, h12, h13, hh⟩ := h
  have k : ∀ {A : Addr} {v : Value}, w1.cell? A = some v → w2.cell? A = some v := fun {A v} h => (hb.cell (World.block_lt_of_cell? w1 _ h)).trans h
  exact ⟨k h0, k h1, k h2, k h3, k h4, k h5, k h6, k h7, k h8, k h9, k h10, k h11, k h12, k h13, hh.trans (hb.mono (Nat.le_trans hB hh.size))⟩
theorem keeps14 {w1 w2 : World} {p : World → Prop} {A0 A1 A2 A3 A4 A5 A6 A7 A8 A9 A10 A11 A12 A13 : Addr} {v0 v1 v2 v3 v4 v5 v6 v7 v8 v9 v10 v11 v12 v13 : Value} (h : w1.cell? A0 = some v0 ∧ w1.cell? A1 = some v1 ∧ w1.cell? A2 = some v2 ∧ w1.cell? A3 = some v3 ∧ w1.cell? A4 = some v4 ∧ w1.cell? A5 = some v5 ∧ w1.cell? A6 = some v6 ∧ w1.cell? A7 = some v7 ∧ w1.cell? A8 = some v8 ∧ w1.cell? A9 = some v9 ∧ w1.cell? A10 = some v10 ∧ w1.cell? A11 = some v11 ∧ w1.cell? A12 = some v12 ∧ w1.cell? A13 = some v13 ∧ p w1) (hb : Below w1.heap.size w1 w2) (hp : p w1 → Below w1.heap.size w1 w2 → p w2) : w2.cell? A0 = some v0 ∧ w2.cell? A1 = some v1 ∧ w2.cell? A2 = some v2 ∧ w2.cell? A3 = some v3 ∧ w2.cell? A4 = some v4 ∧ w2.cell? A5 = some v5 ∧ w2.cell? A6 = some v6 ∧ w2.cell? A7 = some v7 ∧ w2.cell? A8 = some v8 ∧ w2.cell? A9 = some v9 ∧ w2.cell? A10 = some v10 ∧ w2.cell? A11 = some v11 ∧ w2.cell? A12 = some v12 ∧ w2.cell? A13 = some v13 ∧ p w2 := by
  obtain ⟨h0, h1, h2, h3, h4, h5, h6, h7, h8, h9, h10, h11, h12, h13, hh⟩ := h
  have k : ∀ {A : Addr} {v : Value}, w1.cell? A = some v → w2.cell? A = some v := fun {A v} h => (hb.cell (World.block_lt_of_cell? w1 _ h)).trans h
  exact ⟨k h0, k h1, k h2, k h3, k h4, k h5, k h6, k h7, k h8, k h9, k h10, k h11, k h12, k h13, hp hh hb⟩
theorem lastk14 {p0 p1 p2 p3 p4 p5 p6 p7 p8 p9 p10 p11 p12 p13 q : Prop} (h : p0 ∧ p1 ∧ p2 ∧ p3 ∧ p4 ∧ p5 ∧ p6 ∧ p7 ∧ p8 ∧ p9 ∧ p10 ∧ p11 ∧ p12 ∧ p13 ∧ q) : q := h.2.2.2.2.2.2.2.2.2.2.2.2.2.2
theorem midk14 {p0 p1 p2 p3 p4 p5 p6 p7 p8 p9 p10 p11 p12 p13 q r : Prop} (h : p0 ∧ p1 ∧ p2 ∧ p3 ∧ p4 ∧ p5 ∧ p6 ∧ p7 ∧ p8 ∧ p9 ∧ p10 ∧ p11 ∧ p12 ∧ p13 ∧ q ∧ r) : q := h.2.2.2.2.2.2.2.2.2.2.2.2.2.2.1
theorem keep15 {w w1 w2 : World} {B : Nat} {A0 A1 A2 A3 A4 A5 A6 A7 A8 A9 A10 A11 A12 A13 A14 : Addr} {v0 v1 v2 v3 v4 v5 v6 v7 v8 v9 v10 v11 v12 v13 v14 : Value} (h : w1.cell? A0 = some v0 ∧ w1.cell? A1 = some v1 ∧ w1.cell? A2 = some v2 ∧ w1.cell? A3 = some v3 ∧ w1.cell? A4 = some v4 ∧ w1.cell? A5 = some v5 ∧ w1.cell? A6 = some v6 ∧ w1.cell? A7 = some v7 ∧ w1.cell? A8 = some v8 ∧ w1.cell? A9 = some v9 ∧ w1.cell? A10 = some v10 ∧ w1.cell? A11 = some v11 ∧ w1.cell? A12 = some v12 ∧ w1.cell? A13 = some v13 ∧ w1.cell? A14 = some v14 ∧ Below B w w1) (hb : Below w1.heap.size w1 w2) (hB : B ≤ w.heap.size) : w2.cell? A0 = some v0 ∧ w2.cell? A1 = some v1 ∧ w2.cell? A2 = some v2 ∧ w2.cell? A3 = some v3 ∧ w2.cell? A4 = some v4 ∧ w2.cell? A5 = some v5 ∧ w2.cell? A6 = some v6 ∧ w2.cell? A7 = some v7 ∧ w2.cell? A8 = some v8 ∧ w2.cell? A9 = some v9 ∧ w2.cell? A10 = some v10 ∧ w2.cell? A11 = some v11 ∧ w2.cell? A12 = some v12 ∧ w2.cell? A13 = some v13 ∧ w2.cell? A14 = some v14 ∧ Below B w w2 := by
  obtain ⟨h0, h1, h2, h3, h4, h5, h6, h7, h8, h9, h10, h11, h12, h13, h14, hh⟩ := h
  have k : ∀ {A : Addr} {v : Value}, w1.cell? A = some v → w2.cell? A = some v := fun {A v} h => (hb.cell (World.block_lt_of_cell? w1 _ h)).trans h
  exact ⟨k h0, k h1, k h2, k h3, k h4, k h5, k h6, k h7, k h8, k h9, k h10, k h11, k h12, k h13, k h14, hh.trans (hb.mono (Nat.le_trans hB hh.size))⟩
theorem keeps15 {w1 w2 : World} {p : World → Prop} {A0 A1 A2 A3 A4 A5 A6 A7 A8 A9 A10 A11 A12 A13 A14 : Addr} {v0 v1 v2 v3 v4 v5 v6 v7 v8 v9 v10 v11 v12 v13 v14 : Value} (h : w1.cell? A0 = some v0 ∧ w1.cell? A1 = some v1 ∧ w1.cell? A2 = some v2 ∧ w1.cell? A3 = some v3 ∧ w1.cell? A4 = some v4 ∧ w1.cell? A5 = some v5 ∧ w1.cell? A6 = some v6 ∧ w1.cell? A7 = some v7 ∧ w1.cell? A8 = some v8 ∧ w1.cell? A9 = some v9 ∧ w1.cell? A10 = some v10 ∧ w1.cell? A11 = some v11 ∧ w1.cell? A12 = some v12 ∧ w1.cell? A13 = some v13 ∧ w1.cell? A14 = some v14 ∧ p w1) (hb : Below w1.heap.size w1 w2) (hp : p w1 → Below w1.heap.size w1 w2 → p w2) : w2.cell? A0 = some v0 ∧ w2.cell? A1 = some v1 ∧ w2.cell? A2 = some v2 ∧ w2.cell? A3 = some v3 ∧ w2.cell? A4 = some v4 ∧ w2.cell? A5 = some v5 ∧ w2.cell? A6 = some v6 ∧ w2.cell? A7 = some v7 ∧ w2.cell? A8 = some v8 ∧ w2.cell? A9 = some v9 ∧ w2.cell? A10 = some v10 ∧ w2.cell? A11 = some v11 ∧ w2.cell? A12 = some v12 ∧ w2.cell? A13 = some v13 ∧ w2.cell? A14 = some v14 ∧ p w2 := by
  obtain ⟨h0, h1, h2, h3, h4, h5, h6, h7, h8, h9, h10, h11, h12, h13, h14, hh⟩ := h
  have k : ∀ {A : Addr} {v : Value}, w1.cell? A = some v → w2.cell? A = some v := fun {A v} h => (hb.cell (World.block_lt_of_cell? w1 _ h)).trans h
  exact ⟨k h0, k h1, k h2, k h3, k h4, k h5, k h6, k h7, k h8, k h9, k h10, k h11, k h12, k h13, k h14, hp hh hb⟩
theorem lastk15 {p0 p1 p2 p3 p4 p5 p6 p7 p8 p9 p10 p11 p12 p13 p14 q : Prop} (h : p0 ∧ p1 ∧ p2 ∧ p3 ∧ p4 ∧ p5 ∧ p6 ∧ p7 ∧ p8 ∧ p9 ∧ p10 ∧ p11 ∧ p12 ∧ p13 ∧ p14 ∧ q) : q := h.2.2.2.2.2.2.2.2.2.2.2.2.2.2.2
theorem midk15 {p0 p1 p2 p3 p4 p5 p6 p7 p8 p9 p10 p11 p12 p13 p14 q r : Prop} (h : p0 ∧ p1 ∧ p2 ∧ p3 ∧ p4 ∧ p5 ∧ p6 ∧ p7 ∧ p8 ∧ p9 ∧ p10 ∧ p11 ∧ p12 ∧ p13 ∧ p14 ∧ q ∧ r) : q := h.2.2.2.2.2.2.2.2.2.2.2.2.2.2.2.1
theorem keep16 {w w1 w2 : World} {B : Nat} {A0 A1 A2 A3 A4 A5 A6 A7 A8 A9 A10 A11 A12 A13 A14 A15 : Addr} {v0 v1 v2 v3 v4 v5 v6 v7 v8 v9 v10 v11 v12 v13 v14 v15 : Value} (h : w1.cell? A0 = some v0 ∧ w1.cell? A1 = some v1 ∧ w1.cell? A2 = some v2 ∧ w1.cell? A3 = some v3 ∧ w1.cell? A4 = some v4 ∧ w1.cell? A5 = some v5 ∧ w1.cell? A6 = some v6 ∧ w1.cell? A7 = some v7 ∧ w1.cell? A8 = some v8 ∧ w1.cell? A9 = some v9 ∧ w1.cell? A10 = some v10 ∧ w1.cell? A11 = some v11 ∧ w1.cell? A12 = some v12 ∧ w1.cell? A13 = some v13 ∧ w1.cell? A14 = some v14 ∧ w1.cell? A15 = some v15 ∧ Below B w w1) (hb : Below w1.heap.size w1 w2) (hB : B ≤ w.heap.size) : w2.cell? A0 = some v0 ∧ w2.cell? A1 = some v1 ∧ w2.cell? A2 = some v2 ∧ w2.cell? A3 = some v3 ∧ w2.cell? A4 = some v4 ∧ w2.cell? A5 = some v5 ∧ w2.cell? A6 = some v6 ∧ w2.cell? A7 = some v7 ∧ w2.cell? A8 = some v8 ∧ w2.cell? A9 = some v9 ∧ w2.cell? A10 = some v10 ∧ w2.cell? A11 = some v11 ∧ w2.cell? A12 = some v12 ∧ w2.cell? A13 = some v13 ∧ w2.cell? A14 = some v14 ∧ w2.cell? A15 = some v15 ∧ Below B w w2 := by
  obtain ⟨h0, h1, h2, h3, h4, h5, h6, h7, h8, h9, h10, h11, h12, h13, h14, h15, hh⟩ := h
  have k : ∀ {A : Addr} {v : Value}, w1.cell? A = some v → w2.cell? A = some v := fun {A v} h => (hb.cell (World.block_lt_of_cell? w1 _ h)).trans h
  exact ⟨k h0, k h1, k h2, k h3, k h4, k h5, k h6, k h7, k h8, k h9, k h10, k h11, k h12, k h13, k h14, k h15, hh.trans (hb.mono (Nat.le_trans hB hh.size))⟩
theorem keeps16 {w1 w2 : World} {p : World → Prop} {A0 A1 A2 A3 A4 A5 A6 A7 A8 A9 A10 A11 A12 A13 A14 A15 : Addr} {v0 v1 v2 v3 v4 v5 v6 v7 v8 v9 v10 v11 v12 v13 v14 v15 : Value} (h : w1.cell? A0 = some v0 ∧ w1.cell? A1 = some v1 ∧ w1.cell? A2 = some v2 ∧ w1.cell? A3 = some v3 ∧ w1.cell? A4 = some v4 ∧ w1.cell? A5 = some v5 ∧ w1.cell? A6 = some v6 ∧ w1.cell? A7 = some v7 ∧ w1.cell? A8 = some v8 ∧ w1.cell? A9 = some v9 ∧ w1.cell? A10 = some v10 ∧ w1.cell? A11 = some v11 ∧ w1.cell? A12 = some v12 ∧ w1.cell? A13 = some v13 ∧ w1.cell? A14 = some v14 ∧ w1.cell? A15 = some v15 ∧ p w1) (hb : Below w1.heap.size w1 w2) (hp : p w1 → Below w1.heap.size w1 w2 → p w2) : w2.cell? A0 = some v0 ∧ w2.cell? A1 = some v1 ∧ w2.cell? A2 = some v2 ∧ w2.cell? A3 = some v3 ∧ w2.cell? A4 = some v4 ∧ w2.cell? A5 = some v5 ∧ w2.cell? A6 = some v6 ∧ w2.cell? A7 = some v7 ∧ w2.cell? A8 = some v8 ∧ w2.cell? A9 = some v9 ∧ w2.cell? A10 = some v10 ∧ w2.cell? A11 = some v11 ∧ w2.cell? A12 = some v12 ∧ w2.cell? A13 = some v13 ∧ w2.cell? A14 = some v14 ∧ w2.cell? A15 = some v15 ∧ p w2 := by
  obtain ⟨h0, h1, h2, h3, h4, h5, h6, h7, h8, h9, h10, h11, h12, h13, h14, h15, hh⟩ := h
  have k : ∀ {A : Addr} {v : Value}, w1.cell? A = some v → w2.cell? A = some v := fun {A v} h => (hb.cell (World.block_lt_of_cell? w1 _ h)).trans h
  exact ⟨k h0, k h1, k h2, k h3, k h4, k h5, k h6, k h7, k h8, k h9, k h10, k h11, k h12, k h13, k h14, k h15, hp hh hb⟩
theorem lastk16 {p0 p1 p2 p3 p4 p5 p6 p7 p8 p9 p10 p11 p12 p13 p14 p15 q : Prop} (h : p0 ∧ p1 ∧ p2 ∧ p3 ∧ p4 ∧ p5 ∧ p6 ∧ p7 ∧ p8 ∧ p9 ∧ p10 ∧ p11 ∧ p12 ∧ p13 ∧ p14 ∧ p15 ∧ q) : q := h.2.2.2.2.2.2.2.2.2.2.2.2.2.2.2.2
theorem midk16 {p0 p1 p2 p3 p4 p5 p6 p7 p8 p9 p10 p11 p12 p13 p14 p15 q r : Prop} (h : p0 ∧ p1 ∧ p2 ∧ p3 ∧ p4 ∧ p5 ∧ p6 ∧ p7 ∧ p8 ∧ p9 ∧ p10 ∧ p11 ∧ p12 ∧ p13 ∧ p14 ∧ p15 ∧ q ∧ r) : q := h.2.2.2.2.2.2.2.2.2.2.2.2.2.2.2.2.1
end Mem
end Go
end
