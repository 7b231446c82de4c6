/- Trees of digests, by pairs and by halves (plain). -/
import Derived.WalkKit
namespace Go.Mk
/-- The greatest power of two below n (1 for n = 1). -/
def hf (n : Nat) : Nat := 2 ^ Nat.log2 (n - 1)
theorem hf_spec (n : Nat) (h : 2 ≤ n) : hf n < n ∧ n ≤ 2 * hf n := by
  unfold hf
  have h1 := Nat.log2_self_le (n := n - 1) (by omega)
  have h2 := Nat.lt_log2_self (n := n - 1)
  rw [Nat.pow_succ] at h2
  omega
theorem hf_pos (n : Nat) : 1 ≤ hf n := Nat.two_pow_pos _
theorem hf_unique (n j : Nat) (h1 : 2 ^ j < n) (h2 : n ≤ 2 * 2 ^ j) : hf n = 2 ^ j := by
  unfold hf
  congr 1
  have hp := Nat.two_pow_pos j
  rw [Nat.log2_eq_iff (by omega)]
  rw [Nat.pow_succ]
  omega
theorem hf_one : hf 1 = 1 := by decide
theorem hf_two : hf 2 = 1 := by decide
/-- From 3 on, half is even, and the half of the pairs' number is half of it. -/
theorem hf_pair (n : Nat) (h : 3 ≤ n) : ∃ k, 1 ≤ k ∧ hf n = 2 * k ∧ hf ((n + 1) / 2) = k := by
  obtain ⟨s1, s2⟩ := hf_spec n (by omega)
  have h0 : Nat.log2 (n - 1) ≠ 0 := by
    intro h
    unfold hf at s1 s2
    rw [h] at s1 s2
    omega
  obtain ⟨j, hj⟩ : ∃ j, Nat.log2 (n - 1) = j + 1 := ⟨_, (Nat.succ_pred h0).symm⟩
  have e : hf n = 2 * 2 ^ j := by unfold hf; rw [hj, Nat.pow_succ, Nat.mul_comm]
  have hp := Nat.two_pow_pos j
  exact ⟨2 ^ j, hp, e, hf_unique _ j (by omega) (by omega)⟩

section
variable (T : Int → Int → Int)
def pair : List Int → List Int
  | a :: b :: r => T a b :: pair r
  | r => r
theorem pair_length : ∀ l : List Int, (pair T l).length = (l.length + 1) / 2
  | [] => rfl
  | [a] => by simp [pair]
  | a :: b :: r => by
    show (pair T r).length + 1 = (r.length + 1 + 1 + 1) / 2
    rw [pair_length r]; omega
theorem pair_append : ∀ (k : Nat) (l m : List Int), l.length = 2 * k → pair T (l ++ m) = pair T l ++ pair T m
  | 0, l, m, h => by
    have : l = [] := List.eq_nil_of_length_eq_zero (by omega)
    subst this; rfl
  | k + 1, l, m, h => by
    match l, h with
    | a :: b :: r, h =>
      show T a b :: pair T (r ++ m) = T a b :: (pair T r ++ pair T m)
      rw [pair_append k r m (by simp at h; omega)]
theorem pair_take (k : Nat) (l : List Int) (h : 2 * k ≤ l.length) : (pair T l).take k = pair T (l.take (2 * k)) := by
  have e := pair_append T k (l.take (2 * k)) (l.drop (2 * k)) (by simp; omega)
  rw [List.take_append_drop] at e
  rw [e, List.take_left' (by rw [pair_length]; simp; omega)]
theorem pair_drop (k : Nat) (l : List Int) (h : 2 * k ≤ l.length) : (pair T l).drop k = pair T (l.drop (2 * k)) := by
  have e := pair_append T k (l.take (2 * k)) (l.drop (2 * k)) (by simp; omega)
  rw [List.take_append_drop] at e
  rw [e, List.drop_left' (by rw [pair_length]; simp; omega)]

def topF : Nat → List Int → Int
  | 0, _ => 0
  | f + 1, l => if l.length = 0 then 0 else if l.length = 1 then l.getD 0 0 else T (topF f (l.take (hf l.length))) (topF f (l.drop (hf l.length)))
theorem topF_fuel : ∀ (f g : Nat) (l : List Int), l.length ≤ f → l.length ≤ g → topF T f l = topF T g l
  | 0, 0, l, _, _ => rfl
  | 0, g + 1, l, h, _ => by
    have : l.length = 0 := by omega
    simp [topF, this]
  | f + 1, 0, l, _, h => by
    have : l.length = 0 := by omega
    simp [topF, this]
  | f + 1, g + 1, l, h1, h2 => by
    unfold topF
    by_cases h0 : l.length = 0
    · rw [if_pos h0, if_pos h0]
    · by_cases h3 : l.length = 1
      · rw [if_neg h0, if_neg h0, if_pos h3, if_pos h3]
      · rw [if_neg h0, if_neg h0, if_neg h3, if_neg h3]
        obtain ⟨s1, s2⟩ := hf_spec l.length (by omega)
        have s3 := hf_pos l.length
        rw [topF_fuel f g (l.take _) (by simp; omega) (by simp; omega), topF_fuel f g (l.drop _) (by simp; omega) (by simp; omega)]
/-- The root, by halves. -/
def top (l : List Int) : Int := topF T l.length l
theorem top_nil : top T [] = 0 := rfl
theorem top_one (a : Int) : top T [a] = a := rfl
theorem top_two (l : List Int) (h : 2 ≤ l.length) : top T l = T (top T (l.take (hf l.length))) (top T (l.drop (hf l.length))) := by
  obtain ⟨s1, s2⟩ := hf_spec l.length h
  have s3 := hf_pos l.length
  obtain ⟨f, hf'⟩ : ∃ f, l.length = f + 1 := ⟨l.length - 1, by omega⟩
  have e : top T l = topF T (f + 1) l := by unfold top; rw [hf']
  rw [e]
  unfold topF
  rw [if_neg (by omega), if_neg (by omega)]
  unfold top
  rw [topF_fuel T f _ (l.take _) (by simp; omega) (Nat.le_refl _), topF_fuel T f _ (l.drop _) (by simp; omega) (Nat.le_refl _)]
theorem top_len1 (l : List Int) (h : l.length = 1) : top T l = l.getD 0 0 := by
  match l, h with
  | [a], _ => rfl
theorem pair_len1 (l : List Int) (h : l.length = 1) : pair T l = l := by
  match l, h with
  | [a], _ => rfl
theorem top_pair : ∀ (n : Nat) (l : List Int), l.length = n → 2 ≤ n → top T (pair T l) = top T l := by
  intro n
  induction n using Nat.strongRecOn with
  | _ n ih =>
    intro l hl h2
    by_cases h3 : n = 2
    · subst h3
      match l, hl with
      | [a, b], _ => rfl
    · obtain ⟨k, k1, e1, e2⟩ := hf_pair n (by omega)
      obtain ⟨s1, s2⟩ := hf_spec n h2
      have hp : (pair T l).length = (n + 1) / 2 := by rw [pair_length, hl]
      rw [top_two T (pair T l) (by omega), top_two T l (by omega), hp, e2, hl, e1, pair_take T k l (by omega), pair_drop T k l (by omega)]
      have t1 : top T (pair T (l.take (2 * k))) = top T (l.take (2 * k)) := ih (2 * k) (by omega) _ (by simp; omega) (by omega)
      have t2 : top T (pair T (l.drop (2 * k))) = top T (l.drop (2 * k)) := by
        by_cases q : n - 2 * k = 1
        · rw [pair_len1 T _ (by simp; omega)]
        · exact ih (n - 2 * k) (by omega) _ (by simp; omega) (by omega)
      rw [t1, t2]
/-- The other one of a pair. -/
def sib (i : Nat) : Nat := if i % 2 = 0 then i + 1 else i - 1

/-- The proof of a leaf, by halves. -/
def provF : Nat → List Int → Nat → List Int
  | 0, _, _ => []
  | f + 1, l, i => if l.length = 1 then [] else
      if i < hf l.length then provF f (l.take (hf l.length)) i ++ [top T (l.drop (hf l.length))]
      else provF f (l.drop (hf l.length)) (i - hf l.length) ++ [top T (l.take (hf l.length))]
theorem provF_fuel : ∀ (f g : Nat) (l : List Int) (i : Nat), 1 ≤ l.length → l.length ≤ f → l.length ≤ g → provF T f l i = provF T g l i
  | 0, _, l, i, h, h1, _ => by omega
  | f + 1, 0, l, i, h, _, h1 => by omega
  | f + 1, g + 1, l, i, h, h1, h2 => by
    unfold provF
    by_cases h3 : l.length = 1
    · rw [if_pos h3, if_pos h3]
    · obtain ⟨s1, s2⟩ := hf_spec l.length (by omega)
      have s3 := hf_pos l.length
      rw [if_neg h3, if_neg h3, provF_fuel f g (l.take _) i (by simp; omega) (by simp; omega) (by simp; omega), provF_fuel f g (l.drop _) _ (by simp; omega) (by simp; omega) (by simp; omega)]
def prov (l : List Int) (i : Nat) : List Int := provF T l.length l i
theorem prov_one (l : List Int) (i : Nat) (h : l.length = 1) : prov T l i = [] := by
  match l, h with
  | [a], _ => rfl
theorem prov_two (l : List Int) (i : Nat) (h : 2 ≤ l.length) : prov T l i =
    if i < hf l.length then prov T (l.take (hf l.length)) i ++ [top T (l.drop (hf l.length))] else prov T (l.drop (hf l.length)) (i - hf l.length) ++ [top T (l.take (hf l.length))] := by
  obtain ⟨s1, s2⟩ := hf_spec l.length h
  have s3 := hf_pos l.length
  obtain ⟨f, hf'⟩ : ∃ f, l.length = f + 1 := ⟨l.length - 1, by omega⟩
  have e : prov T l i = provF T (f + 1) l i := by unfold prov; rw [hf']
  rw [e]
  unfold provF
  rw [if_neg (by omega)]
  unfold prov
  rw [provF_fuel T f _ (l.take _) i (by simp; omega) (by simp; omega) (Nat.le_refl _), provF_fuel T f _ (l.drop _) _ (by simp; omega) (by simp; omega) (Nat.le_refl _)]
theorem prov_pair : ∀ (n : Nat) (l : List Int) (i : Nat), l.length = n → 2 ≤ n → i < n →
    prov T l i = (if sib i < n then [l.getD (sib i) 0] else []) ++ prov T (pair T l) (i / 2) := by
  intro n
  induction n using Nat.strongRecOn with
  | _ n ih =>
    intro l i hl h2 hi
    by_cases h3 : n = 2
    · subst h3
      match l, hl with
      | [a, b], _ =>
        rcases (show i = 0 ∨ i = 1 by omega) with rfl | rfl <;> rfl
    · obtain ⟨k, k1, e1, e2⟩ := hf_pair n (by omega)
      obtain ⟨s1, s2⟩ := hf_spec n h2
      have hp : (pair T l).length = (n + 1) / 2 := by rw [pair_length, hl]
      rw [prov_two T (pair T l) _ (by omega), prov_two T l _ (by omega), hp, e2, hl, e1, pair_take T k l (by omega), pair_drop T k l (by omega)]
      have t1 : top T (pair T (l.take (2 * k))) = top T (l.take (2 * k)) := top_pair T (2 * k) _ (by simp; omega) (by omega)
      have t2 : top T (pair T (l.drop (2 * k))) = top T (l.drop (2 * k)) := by
        by_cases q : n - 2 * k = 1
        · rw [pair_len1 T _ (by simp; omega)]
        · exact top_pair T (n - 2 * k) _ (by simp; omega) (by omega)
      by_cases q : i < 2 * k
      · have hs : sib i < 2 * k := by unfold sib; split <;> omega
        have hg : (l.take (2 * k)).getD (sib i) 0 = l.getD (sib i) 0 := by
          rw [List.getD_eq_getElem?_getD, List.getElem?_take_of_lt hs, ← List.getD_eq_getElem?_getD]
        rw [if_pos q, if_pos (show i / 2 < k by omega), ih (2 * k) (by omega) (l.take (2 * k)) i (by simp; omega) (by omega) q, if_pos hs, if_pos (show sib i < n by omega), hg, t2, List.append_assoc]
      · rw [if_neg q, if_neg (show ¬ i / 2 < k by omega), t1]
        have ei : (i - 2 * k) / 2 = i / 2 - k := by omega
        by_cases q1 : n - 2 * k = 1
        · have hs : ¬ sib i < n := by unfold sib; split <;> omega
          rw [if_neg hs, prov_one T _ _ (by simp; omega), pair_len1 T _ (by simp; omega), prov_one T _ _ (by simp; omega)]; rfl
        · have hs : sib i = 2 * k + sib (i - 2 * k) := by unfold sib; split <;> split <;> omega
          have hg : (l.drop (2 * k)).getD (sib (i - 2 * k)) 0 = l.getD (sib i) 0 := by
            rw [List.getD_eq_getElem?_getD, List.getElem?_drop, ← hs, ← List.getD_eq_getElem?_getD]
          rw [ih (n - 2 * k) (by omega) (l.drop (2 * k)) (i - 2 * k) (by simp; omega) (by omega) (by omega), hg, ei, List.append_assoc]
          by_cases q2 : sib i < n
          · rw [if_pos q2, if_pos (by omega)]
          · rw [if_neg q2, if_neg (by omega)]
end
end Go.Mk
