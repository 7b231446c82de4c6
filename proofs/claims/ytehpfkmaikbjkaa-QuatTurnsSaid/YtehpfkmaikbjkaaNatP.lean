/- Natural numbers as lists of digits in base 32768, the least one first: plain lemmas. No program is named here. -/
import Derived.WalkKit
namespace Go.Nb

/-- The number of some digits. -/
def nval : List Int → Int
  | [] => 0
  | d :: r => d + 32768 * nval r
def Digs (l : List Int) : Prop := ∀ d ∈ l, 0 ≤ d ∧ d < 32768
def pw (k : Nat) : Int := ((32768 ^ k : Nat) : Int)
theorem pw_zero : pw 0 = 1 := rfl
theorem pw_succ (k : Nat) : pw (k + 1) = 32768 * pw k := by unfold pw; rw [Nat.pow_succ, Int.natCast_mul, Int.mul_comm]; rfl
theorem pw_pos (k : Nat) : 1 ≤ pw k := by
  have : 0 < 32768 ^ k := Nat.pow_pos (by omega)
  unfold pw; omega
theorem pw_add (a b : Nat) : pw (a + b) = pw a * pw b := by unfold pw; rw [Nat.pow_add, Int.natCast_mul]
theorem pw_le {a b : Nat} (h : a ≤ b) : pw a ≤ pw b := by
  have := Nat.pow_le_pow_right (n := 32768) (by omega) h
  unfold pw; omega

theorem Digs.nil : Digs [] := fun _ h => by cases h
theorem Digs.cons {d : Int} {l : List Int} (h : Digs (d :: l)) : (0 ≤ d ∧ d < 32768) ∧ Digs l := ⟨h d (by simp), fun x hx => h x (by simp [hx])⟩
theorem nval_bd : ∀ {l : List Int}, Digs l → 0 ≤ nval l ∧ nval l < pw l.length
  | [], _ => by simp [nval, pw]
  | d :: r, h => by
    obtain ⟨h1, h2⟩ := h.cons
    have := nval_bd h2
    simp only [nval, List.length_cons, pw_succ]; omega
theorem nval_append (a b : List Int) : nval (a ++ b) = nval a + pw a.length * nval b := by
  induction a with
  | nil => simp [nval, pw]
  | cons d r ih =>
    simp only [List.cons_append, nval, ih, List.length_cons, pw_succ, Int.mul_add, Int.mul_assoc]; omega
theorem nval_snoc (a : List Int) (d : Int) : nval (a ++ [d]) = nval a + pw a.length * d := by
  rw [nval_append]; simp [nval]
theorem Digs.append {a b : List Int} (ha : Digs a) (hb : Digs b) : Digs (a ++ b) := fun d h => by
  rcases List.mem_append.1 h with h | h
  · exact ha d h
  · exact hb d h
theorem Digs.one {d : Int} (h : 0 ≤ d ∧ d < 32768) : Digs [d] := fun x hx => by simp at hx; subst hx; exact h
theorem Digs.getD {l : List Int} (h : Digs l) (j : Nat) : 0 ≤ l.getD j 0 ∧ l.getD j 0 < 32768 := by
  by_cases hj : j < l.length
  · rw [List.getD_eq_getElem?_getD, List.getElem?_eq_getElem hj]; exact h _ (List.getElem_mem hj)
  · rw [List.getD_eq_getElem?_getD, List.getElem?_eq_none (by omega)]; simp
theorem Digs.set {l : List Int} (h : Digs l) (j : Nat) {v : Int} (hv : 0 ≤ v ∧ v < 32768) : Digs (l.set j v) := fun d hd => by
  rcases List.mem_or_eq_of_mem_set hd with h' | h'
  · exact h d h'
  · subst h'; exact hv
theorem Digs.take {l : List Int} (h : Digs l) (m : Nat) : Digs (l.take m) := fun d hd => h d (List.mem_of_mem_take hd)
theorem Digs.replicate (n : Nat) : Digs (List.replicate n 0) := fun d hd => by
  have := List.eq_of_mem_replicate hd; omega
theorem nval_replicate (n : Nat) : nval (List.replicate n 0) = 0 := by
  induction n with
  | zero => rfl
  | succ n ih => simp [List.replicate_succ, nval, ih]
theorem nval_set : ∀ (l : List Int) (j : Nat) (v : Int), j < l.length → nval (l.set j v) = nval l + (v - l.getD j 0) * pw j
  | d :: r, 0, v, _ => by simp [nval, pw]; omega
  | d :: r, j + 1, v, h => by
    have ih := nval_set r j v (by simpa using h)
    simp only [List.set_cons_succ, nval, ih, pw_succ, List.getD_cons_succ, Int.mul_add, Int.mul_left_comm]; omega
theorem nval_take_succ (l : List Int) (k : Nat) (h : k < l.length) : nval (l.take (k + 1)) = nval (l.take k) + pw k * l.getD k 0 := by
  rw [List.take_succ_eq_append_getElem h, nval_snoc, List.length_take, Nat.min_eq_left (by omega), List.getD_eq_getElem?_getD, List.getElem?_eq_getElem h]; rfl

/-- No zero at the end. -/
def Norm (l : List Int) : Prop := l = [] ∨ l.getD (l.length - 1) 0 ≠ 0
/-- Zeros at the end say nothing. -/
theorem nval_take_zeros (l : List Int) (m : Nat) (h : ∀ j, m ≤ j → l.getD j 0 = 0) : nval (l.take m) = nval l := by
  induction l generalizing m with
  | nil => simp
  | cons d r ih =>
    cases m with
    | zero =>
      have h0 := h 0 (by omega)
      simp at h0
      have := ih 0 (fun j hj => by have := h (j + 1) (by omega); simpa using this)
      simp [nval] at this
      simp [nval, h0, ← this]
    | succ m =>
      have := ih m (fun j hj => by have := h (j + 1) (by omega); simpa using this)
      simp [nval, this]
theorem norm_take {l : List Int} {m : Nat} (hm : m ≤ l.length) (h : m = 0 ∨ l.getD (m - 1) 0 ≠ 0) : Norm (l.take m) := by
  rcases h with h | h
  · left; subst h; rfl
  · rcases Nat.eq_zero_or_pos m with h0 | h0
    · left; subst h0; rfl
    · right
      rw [List.length_take, Nat.min_eq_left hm, List.getD_eq_getElem?_getD, List.getElem?_take, if_pos (by omega), ← List.getD_eq_getElem?_getD]
      exact h
theorem getD_take (l : List Int) (m j : Nat) (h : j < m) : (l.take m).getD j 0 = l.getD j 0 := by
  rw [List.getD_eq_getElem?_getD, List.getElem?_take, if_pos h, ← List.getD_eq_getElem?_getD]
theorem nval_split (l : List Int) (k : Nat) (h : k ≤ l.length) : nval l = nval (l.take k) + pw k * nval (l.drop k) := by
  conv => lhs; rw [← List.take_append_drop k l]
  rw [nval_append, List.length_take, Nat.min_eq_left h]
theorem Digs.drop {l : List Int} (h : Digs l) (m : Nat) : Digs (l.drop m) := fun d hd => h d (List.mem_of_mem_drop hd)
/-- A number without a zero at the end is at least the power of its length. -/
theorem nval_ge {l : List Int} (hd : Digs l) (hn : Norm l) (hl : l ≠ []) : pw (l.length - 1) ≤ nval l := by
  have hpos : 0 < l.length := List.length_pos_iff.2 hl
  have hn' : l.getD (l.length - 1) 0 ≠ 0 := by rcases hn with h | h; exact absurd h hl; exact h
  have hb := (hd.getD (l.length - 1)).1
  have e := nval_take_succ l (l.length - 1) (by omega)
  rw [show l.length - 1 + 1 = l.length by omega, List.take_length] at e
  have ht := (nval_bd (hd.take (l.length - 1))).1
  have hp := pw_pos (l.length - 1)
  have : pw (l.length - 1) * 1 ≤ pw (l.length - 1) * l.getD (l.length - 1) 0 := Int.mul_le_mul_of_nonneg_left (by omega) (by omega)
  omega
theorem nval_length_le {l : List Int} (hd : Digs l) (hn : Norm l) (k : Nat) (h : nval l < pw k) : l.length ≤ k := by
  by_cases hl : l = []
  · subst hl; simp
  · have := nval_ge hd hn hl
    rcases Nat.lt_or_ge k l.length with hk | hk
    · have := pw_le (show k ≤ l.length - 1 by omega); omega
    · exact hk
theorem nval_lt_of_length {a b : List Int} (ha : Digs a) (hb : Digs b) (nb : Norm b) (h : a.length < b.length) : nval a < nval b := by
  have h1 := (nval_bd ha).2
  have h2 := nval_ge hb nb (by intro e; subst e; simp at h)
  have := pw_le (show a.length ≤ b.length - 1 by omega)
  omega
/-- The first digit from the end that differs decides. -/
theorem nval_lt_of_digit {a b : List Int} (ha : Digs a) (hb : Digs b) (hlen : a.length = b.length) (i : Nat) (hi : i < a.length) (heq : ∀ j, i < j → j < a.length → a.getD j 0 = b.getD j 0) (h : a.getD i 0 < b.getD i 0) : nval a < nval b := by
  have e : a.drop (i + 1) = b.drop (i + 1) := by
    apply List.ext_getElem?
    intro j
    rw [List.getElem?_drop, List.getElem?_drop]
    by_cases hj : i + 1 + j < a.length
    · have := heq (i + 1 + j) (by omega) hj
      rw [List.getD_eq_getElem?_getD, List.getD_eq_getElem?_getD, List.getElem?_eq_getElem hj, List.getElem?_eq_getElem (by omega : i + 1 + j < b.length)] at this
      rw [List.getElem?_eq_getElem hj, List.getElem?_eq_getElem (by omega : i + 1 + j < b.length)]
      simpa using this
    · rw [List.getElem?_eq_none (by omega), List.getElem?_eq_none (by omega)]
  rw [nval_split a (i + 1) (by omega), nval_split b (i + 1) (by omega), e, nval_take_succ a i hi, nval_take_succ b i (by omega)]
  have h1 := (nval_bd (ha.take i)).2
  have h2 := (nval_bd (hb.take i)).1
  rw [List.length_take, Nat.min_eq_left (by omega)] at h1
  have hp := pw_pos i
  have : pw i * (a.getD i 0 + 1) ≤ pw i * b.getD i 0 := Int.mul_le_mul_of_nonneg_left (by omega) (by omega)
  rw [Int.mul_add] at this
  omega
theorem nval_eq_of_digits {a b : List Int} (hlen : a.length = b.length) (heq : ∀ j, j < a.length → a.getD j 0 = b.getD j 0) : nval a = nval b := by
  have : a = b := by
    apply List.ext_getElem hlen
    intro j h1 h2
    have := heq j h1
    rwa [List.getD_eq_getElem?_getD, List.getD_eq_getElem?_getD, List.getElem?_eq_getElem h1, List.getElem?_eq_getElem h2] at this
  rw [this]
end Go.Nb
