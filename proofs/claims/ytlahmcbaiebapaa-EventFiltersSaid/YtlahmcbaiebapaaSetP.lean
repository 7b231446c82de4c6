/- Sets of small numbers as lists of words: what the functions of package sets and the reference compute (plain). -/
import Derived.WalkKit
namespace Go.Sp
set_option linter.unusedVariables false
set_option linter.unusedSimpArgs false
set_option linter.unnecessarySimpa false
/-- Word k of a set. -/
def wd (A : List Nat) (k : Nat) : Nat := if k < 64 then A.getD k 0 else 0
/-- Whether number i is in a set. -/
def bit (A : List Nat) (i : Nat) : Bool := (wd A (i / 64)).testBit (i % 64)
def upto (A : List Nat) (m : Nat) : List Nat := (List.range m).filter (bit A)
def els (A : List Nat) : List Nat := upto A 4096
def trim (A : List Nat) : List Nat := (A.reverse.dropWhile (· == 0)).reverse
def Words (A : List Nat) : Prop := ∀ x ∈ A, x < 18446744073709551616
def Canon (A : List Nat) : Prop := A.length ≤ 64 ∧ Words A ∧ (A = [] ∨ ∃ B x, A = B ++ [x] ∧ x ≠ 0)
theorem two64 {j : Nat} (h : 64 ≤ j) : 18446744073709551616 ≤ 2 ^ j := show 2 ^ 64 ≤ 2 ^ j from Nat.pow_le_pow_right (by omega) h
theorem lt64 {r : Nat} (h : r < 64) : 2 ^ r < 18446744073709551616 := show 2 ^ r < 2 ^ 64 from Nat.pow_lt_pow_right (by omega) h
theorem trim_zero (A : List Nat) : trim (A ++ [0]) = trim A := by simp [trim]
theorem trim_more (A : List Nat) (x : Nat) (h : x ≠ 0) : trim (A ++ [x]) = A ++ [x] := by simp [trim, h]
theorem trim_nil : trim [] = [] := rfl
theorem dropWhile_head {l : List Nat} {p : Nat → Bool} {x : Nat} {t : List Nat} (h : l.dropWhile p = x :: t) : p x = false := by
  induction l with
  | nil => simp at h
  | cons a l ih =>
    rw [List.dropWhile_cons] at h
    split at h
    · exact ih h
    · injection h with h1 h2
      subst h1
      simpa using ‹¬ p a = true›
theorem trim_split (A : List Nat) : ∃ Z, A = trim A ++ Z ∧ ∀ z ∈ Z, z = 0 := by
  refine ⟨(A.reverse.takeWhile (· == 0)).reverse, ?_, fun z hz => ?_⟩
  · have := List.takeWhile_append_dropWhile (p := (· == 0)) (l := A.reverse)
    unfold trim
    rw [← List.reverse_append, this, List.reverse_reverse]
  · have h := List.all_takeWhile (p := (· == 0)) (l := A.reverse)
    have := List.all_eq_true.1 h z (List.mem_reverse.1 hz)
    simpa using this
theorem getD_zeros {Z : List Nat} (h : ∀ z ∈ Z, z = 0) (k : Nat) : Z.getD k 0 = 0 := by
  rw [List.getD_eq_getElem?_getD]
  cases hk : Z[k]? with
  | none => rfl
  | some z => exact h z (List.mem_of_getElem? hk)
theorem getD_trim (A : List Nat) (k : Nat) : (trim A).getD k 0 = A.getD k 0 := by
  obtain ⟨Z, h, hz⟩ := trim_split A
  conv => rhs; rw [h]
  rw [List.getD_eq_getElem?_getD, List.getD_eq_getElem?_getD, List.getElem?_append]
  split
  · rfl
  · rename_i hk
    rw [List.getElem?_eq_none (by omega), ← List.getD_eq_getElem?_getD, getD_zeros hz]
    rfl
theorem trim_last (A : List Nat) : trim A = [] ∨ ∃ B x, trim A = B ++ [x] ∧ x ≠ 0 := by
  unfold trim
  cases h : A.reverse.dropWhile (· == 0) with
  | nil => exact .inl rfl
  | cons x t => exact .inr ⟨t.reverse, x, by simp, by simpa using dropWhile_head h⟩
theorem trim_length (A : List Nat) : (trim A).length ≤ A.length := by
  obtain ⟨Z, h, hz⟩ := trim_split A
  have := congrArg List.length h
  rw [List.length_append] at this
  omega
theorem trim_mem {A : List Nat} {x : Nat} (h : x ∈ trim A) : x ∈ A := by
  obtain ⟨Z, h2, hz⟩ := trim_split A
  rw [h2]; exact List.mem_append_left _ h
theorem trim_canon {A : List Nat} (hl : A.length ≤ 64) (hw : Words A) : Canon (trim A) :=
  ⟨Nat.le_trans (trim_length A) hl, fun x hx => hw x (trim_mem hx), trim_last A⟩
theorem Words.getD {A : List Nat} (h : Words A) (k : Nat) : A.getD k 0 < 18446744073709551616 := by
  rw [List.getD_eq_getElem?_getD]
  cases hk : A[k]? with
  | none => simp
  | some z => exact h z (List.mem_of_getElem? hk)
theorem Words.wd {A : List Nat} (h : Words A) (k : Nat) : wd A k < 18446744073709551616 := by
  unfold Sp.wd; split
  · exact h.getD k
  · omega
theorem wd_trim (A : List Nat) (k : Nat) : wd (trim A) k = wd A k := by unfold wd; rw [getD_trim]
theorem bit_trim (A : List Nat) (i : Nat) : bit (trim A) i = bit A i := by unfold bit; rw [wd_trim]
theorem bit_lt {A : List Nat} {i : Nat} (h : bit A i = true) : i < 4096 := by
  unfold bit wd at h
  split at h
  · omega
  · simp at h
theorem wd_ext {A B : List Nat} (ha : Words A) (hb : Words B) (h : ∀ i, i < 4096 → bit A i = bit B i) (k : Nat) : wd A k = wd B k := by
  by_cases hk : k < 64
  · apply Nat.eq_of_testBit_eq
    intro j
    by_cases hj : j < 64
    · have := h (64 * k + j) (by omega)
      unfold bit at this
      rw [show (64 * k + j) / 64 = k by omega, show (64 * k + j) % 64 = j by omega] at this
      exact this
    · have h2 : 18446744073709551616 ≤ 2 ^ j := two64 (by omega)
      rw [Nat.testBit_lt_two_pow (Nat.lt_of_lt_of_le (ha.wd k) h2), Nat.testBit_lt_two_pow (Nat.lt_of_lt_of_le (hb.wd k) h2)]
  · unfold wd; rw [if_neg hk, if_neg hk]
theorem canon_ge {A B : List Nat} (ha : Canon A) (hb : Canon B) (h : ∀ k, wd A k = wd B k) : B.length ≤ A.length := by
  rcases hb.2.2 with rfl | ⟨C, x, rfl, hx⟩
  · simp
  · rcases Nat.lt_or_ge C.length A.length with h1 | h1
    · simp; omega
    · have h2 := h C.length
      have h3 : C.length < 64 := by have := hb.1; simp at this; omega
      unfold wd at h2
      rw [if_pos h3, if_pos h3, List.getD_eq_getElem?_getD, List.getElem?_eq_none h1, List.getD_eq_getElem?_getD] at h2
      simp at h2
      exact absurd h2.symm hx
theorem canon_ext {A B : List Nat} (ha : Canon A) (hb : Canon B) (h : ∀ i, i < 4096 → bit A i = bit B i) : A = B := by
  have hw := wd_ext ha.2.1 hb.2.1 h
  have h1 := canon_ge ha hb hw
  have h2 := canon_ge hb ha (fun k => (hw k).symm)
  apply List.ext_getElem (by omega)
  intro k k1 k2
  have := hw k
  have h3 : k < 64 := by have := ha.1; omega
  unfold wd at this
  rw [if_pos h3, if_pos h3] at this
  simpa [List.getD_eq_getElem?_getD, k1, k2] using this

/-! The elements. -/
theorem upto_succ (A : List Nat) (m : Nat) : upto A (m + 1) = upto A m ++ (if bit A m then [m] else []) := by
  unfold upto
  rw [List.range_succ, List.filter_append]
  congr 1
  cases h : bit A m <;> simp [h]
theorem upto_stay (A : List Nat) (m : Nat) : ∀ d, (∀ i, m ≤ i → i < m + d → bit A i = false) → upto A (m + d) = upto A m := by
  intro d
  induction d with
  | zero => intro _; rfl
  | succ d ih =>
    intro h
    rw [← Nat.add_assoc, upto_succ, h (m + d) (by omega) (by omega), ih (fun i h1 h2 => h i h1 (by omega))]
    simp
theorem upto_to {A : List Nat} {m n : Nat} (hmn : m ≤ n) (h : ∀ i, m ≤ i → i < n → bit A i = false) : upto A n = upto A m := by
  have := upto_stay A m (n - m) (fun i h1 h2 => h i h1 (by omega))
  rwa [show m + (n - m) = n by omega] at this
theorem els_mem (A : List Nat) (i : Nat) : i ∈ els A ↔ bit A i = true := by
  unfold els upto
  rw [List.mem_filter, List.mem_range]
  exact ⟨fun h => h.2, fun h => ⟨bit_lt h, h⟩⟩
theorem els_trim (A : List Nat) : els (trim A) = els A := by
  unfold els upto
  exact List.filter_congr fun i _ => bit_trim A i
theorem els_length (A : List Nat) : (els A).length ≤ 4096 := by
  have := List.length_filter_le (bit A) (List.range 4096)
  simpa [els, upto] using this
theorem upto_length (A : List Nat) (m : Nat) (h : m ≤ 4096) : (upto A m).length ≤ m := by
  have := List.length_filter_le (bit A) (List.range m)
  simpa [upto] using this
theorem upto_end (A : List Nat) (m : Nat) (h : m ≤ 4096) (h2 : A.length * 64 ≤ m) : upto A m = els A := by
  unfold els
  refine (upto_to h fun i h1 _ => ?_).symm
  unfold bit wd
  split
  · rw [List.getD_eq_getElem?_getD, List.getElem?_eq_none (by omega)]; simp
  · simp

/-! Joins of two sets. -/
def joinL (f : Nat → Nat → Nat) (A B : List Nat) (k : Nat) : List Nat := (List.range k).map fun k => f (wd A k) (wd B k)
def joinN (f : Nat → Nat → Nat) (A B : List Nat) : List Nat := trim (joinL f A B (min (max A.length B.length) 64))
/-- A function on words that works bit by bit. -/
def Bw (f : Nat → Nat → Nat) (g : Bool → Bool → Bool) : Prop := g false false = false ∧ ∀ x y, x < 18446744073709551616 → y < 18446744073709551616 → f x y < 18446744073709551616 ∧ ∀ j, (f x y).testBit j = g (x.testBit j) (y.testBit j)
theorem joinL_length (f : Nat → Nat → Nat) (A B : List Nat) (k : Nat) : (joinL f A B k).length = k := by simp [joinL]
theorem joinL_succ (f : Nat → Nat → Nat) (A B : List Nat) (k : Nat) : joinL f A B (k + 1) = joinL f A B k ++ [f (wd A k) (wd B k)] := by simp [joinL, List.range_succ]
theorem joinL_words {f : Nat → Nat → Nat} {g : Bool → Bool → Bool} (hf : Bw f g) {A B : List Nat} (ha : Words A) (hb : Words B) (k : Nat) : Words (joinL f A B k) := by
  intro x hx
  obtain ⟨j, _, rfl⟩ := List.mem_map.1 hx
  exact (hf.2 _ _ (ha.wd _) (hb.wd _)).1
theorem joinN_canon {f : Nat → Nat → Nat} {g : Bool → Bool → Bool} (hf : Bw f g) {A B : List Nat} (ha : Words A) (hb : Words B) : Canon (joinN f A B) :=
  trim_canon (by rw [joinL_length]; omega) (joinL_words hf ha hb _)
theorem wd_over {A : List Nat} {k : Nat} (h : A.length ≤ k) : wd A k = 0 := by
  unfold wd; split
  · rw [List.getD_eq_getElem?_getD, List.getElem?_eq_none h]; rfl
  · rfl
theorem bit_join {f : Nat → Nat → Nat} {g : Bool → Bool → Bool} (hf : Bw f g) {A B : List Nat} (ha : Words A) (hb : Words B) (i : Nat) : bit (joinN f A B) i = g (bit A i) (bit B i) := by
  unfold joinN
  rw [bit_trim]
  by_cases h : i / 64 < min (max A.length B.length) 64
  · have e : wd (joinL f A B (min (max A.length B.length) 64)) (i / 64) = f (wd A (i / 64)) (wd B (i / 64)) := by
      conv => lhs; unfold wd
      rw [if_pos (by omega), joinL, List.getD_eq_getElem?_getD, List.getElem?_map, List.getElem?_range h]
      rfl
    unfold bit
    rw [e]
    exact (hf.2 _ _ (ha.wd _) (hb.wd _)).2 _
  · have e : ∀ C : List Nat, C.length ≤ i / 64 ∨ 64 ≤ i / 64 → bit C i = false := by
      intro C hC
      unfold bit
      rcases hC with hC | hC
      · rw [wd_over hC]; simp
      · unfold wd; rw [if_neg (by omega)]; simp
    rw [e (joinL f A B _) (by rw [joinL_length]; omega), e A (by omega), e B (by omega)]
    exact hf.1.symm
theorem bw_or : Bw (· ||| ·) (fun a b => a || b) := ⟨rfl, fun x y hx hy => ⟨Nat.or_lt_two_pow (n := 64) hx hy, fun j => Nat.testBit_or ..⟩⟩
theorem bw_and : Bw (· &&& ·) (fun a b => a && b) := ⟨rfl, fun x y hx hy => ⟨Nat.and_lt_two_pow (n := 64) x hy, fun j => Nat.testBit_and ..⟩⟩
theorem bw_fst : Bw (fun x _ => x) (fun a _ => a) := ⟨rfl, fun x y hx hy => ⟨hx, fun j => rfl⟩⟩
def minus (x y : Nat) : Nat := x &&& (18446744073709551615 - y)
theorem bw_minus : Bw minus (fun a b => a && !b) := by
  refine ⟨rfl, fun x y hx hy => ⟨Nat.lt_of_le_of_lt Nat.and_le_left hx, fun j => ?_⟩⟩
  unfold minus
  rw [Nat.testBit_and]
  by_cases hj : j < 64
  · rw [show 18446744073709551615 - y = 2 ^ 64 - (y + 1) by omega, Nat.testBit_two_pow_sub_succ (by omega)]
    simp [hj]
  · have h2 : 18446744073709551616 ≤ 2 ^ j := two64 (by omega)
    rw [Nat.testBit_lt_two_pow (Nat.lt_of_lt_of_le hx h2)]
    rfl

/-! The set of one number; of some numbers. -/
def oneN (i : Int) : List Nat := if i < 0 ∨ 4096 ≤ i then [] else List.replicate (i.toNat / 64) 0 ++ [2 ^ (i.toNat % 64)]
theorem one_canon (i : Int) : Canon (oneN i) := by
  unfold oneN
  split
  · exact ⟨by simp, fun x hx => by simp at hx, .inl rfl⟩
  · refine ⟨by simp; omega, fun x hx => ?_, .inr ⟨_, _, rfl, ?_⟩⟩
    · rcases List.mem_append.1 hx with h | h
      · have := List.eq_of_mem_replicate h; omega
      · simp at h; subst h; exact lt64 (by omega)
    · have := Nat.two_pow_pos (i.toNat % 64); omega
theorem bit_one (i : Int) (j : Nat) (hj : j < 4096) : bit (oneN i) j = decide ((j : Int) = i) := by
  unfold oneN
  split
  · rw [decide_eq_false (by omega)]
    unfold bit
    rw [wd_over (by simp)]; simp
  · unfold bit wd
    rw [if_pos (by omega), List.getD_eq_getElem?_getD, List.getElem?_append]
    by_cases h1 : j / 64 < i.toNat / 64
    · rw [if_pos (by simpa using h1), List.getElem?_replicate, if_pos h1, decide_eq_false (by omega)]
      simp
    · rw [if_neg (by simpa using h1)]
      by_cases h2 : j / 64 = i.toNat / 64
      · rw [show j / 64 - (List.replicate (i.toNat / 64) 0).length = 0 by simp; omega]
        simp only [List.getElem?_cons_zero, Option.getD_some, Nat.testBit_two_pow]
        congr 1
        apply propext
        omega
      · rw [List.getElem?_eq_none (by simp; omega), decide_eq_false (by omega)]
        simp
def withN (A : List Nat) (i : Int) : List Nat := joinN (· ||| ·) A (oneN i)
def ofN (l : List Int) : List Nat := l.foldl withN []
theorem with_canon {A : List Nat} (h : Words A) (i : Int) : Canon (withN A i) := joinN_canon bw_or h (one_canon i).2.1
theorem bit_with {A : List Nat} (h : Words A) (i : Int) (j : Nat) (hj : j < 4096) : bit (withN A i) j = (bit A j || decide ((j : Int) = i)) := by
  unfold withN
  rw [bit_join bw_or h (one_canon i).2.1, bit_one i j hj]
theorem canon_nil : Canon [] := ⟨by simp, fun x hx => by simp at hx, .inl rfl⟩
theorem of_from (l : List Int) : ∀ A, Canon A → Canon (l.foldl withN A) ∧ ∀ j, j < 4096 → bit (l.foldl withN A) j = (bit A j || l.contains (j : Int)) := by
  induction l with
  | nil => intro A h; exact ⟨h, fun j hj => by simp⟩
  | cons i l ih =>
    intro A h
    obtain ⟨h1, h2⟩ := ih (withN A i) (with_canon h.2.1 i)
    refine ⟨h1, fun j hj => ?_⟩
    rw [List.foldl_cons, h2 j hj, bit_with h.2.1 i j hj, List.contains_cons, Bool.or_assoc]
    congr 2
theorem of_canon (l : List Int) : Canon (ofN l) := (of_from l [] canon_nil).1
theorem bit_nil (j : Nat) : bit [] j = false := by unfold bit; rw [wd_over (by simp)]; simp
theorem bit_of (l : List Int) (j : Nat) (hj : j < 4096) : bit (ofN l) j = l.contains (j : Int) := by
  unfold ofN; rw [(of_from l [] canon_nil).2 j hj, bit_nil, Bool.false_or]

/-! The reference's SetOf. -/
def pad (A : List Nat) (n : Nat) : List Nat := A ++ List.replicate (n - A.length) 0
def addW (B : List Nat) (k r : Nat) : List Nat := if B.getD k 0 / 2 ^ r % 2 = 0 then B.set k (B.getD k 0 + 2 ^ r) else B
def addN (A : List Nat) (i : Int) : List Nat := if i < 0 ∨ 4096 ≤ i then A else addW (pad A (i.toNat / 64 + 1)) (i.toNat / 64) (i.toNat % 64)
def setN (l : List Int) : List Nat := l.foldl addN []
theorem pad_getD (A : List Nat) (n k : Nat) : (pad A n).getD k 0 = A.getD k 0 := by
  unfold pad
  rw [List.getD_eq_getElem?_getD, List.getD_eq_getElem?_getD, List.getElem?_append]
  split
  · rfl
  · rename_i h
    rw [List.getElem?_replicate, List.getElem?_eq_none (l := A) (by omega)]
    split <;> rfl
theorem pad_length (A : List Nat) (n : Nat) : (pad A n).length = max A.length n := by simp [pad]; omega
theorem pad_words {A : List Nat} (h : Words A) (n : Nat) : Words (pad A n) := by
  intro x hx
  rcases List.mem_append.1 hx with h1 | h1
  · exact h x h1
  · have := List.eq_of_mem_replicate h1; omega
theorem pad_last (A : List Nat) (h : A = [] ∨ ∃ B x, A = B ++ [x] ∧ x ≠ 0) (n : Nat) (hn : n ≤ A.length) : pad A n = A := by
  unfold pad
  rw [show n - A.length = 0 by omega]; simp
theorem bit_num (x r : Nat) : x / 2 ^ r % 2 = (x.testBit r).toNat := by
  rw [Nat.testBit_eq_decide_div_mod_eq]
  have := Nat.mod_two_eq_zero_or_one (x / 2 ^ r)
  rcases this with h | h <;> simp [h]
theorem addbit (x r : Nat) (h : x.testBit r = false) : x + 2 ^ r = x ||| 2 ^ r := by
  apply Nat.eq_of_testBit_eq
  intro j
  rw [Nat.testBit_or, Nat.testBit_two_pow]
  rw [Nat.testBit_eq_decide_div_mod_eq] at h
  have h0 : x / 2 ^ r % 2 = 0 := by
    have := Nat.mod_two_eq_zero_or_one (x / 2 ^ r)
    have h2 : ¬ x / 2 ^ r % 2 = 1 := by simpa using h
    omega
  have hp := Nat.two_pow_pos r
  rw [Nat.testBit_eq_decide_div_mod_eq, Nat.testBit_eq_decide_div_mod_eq]
  rcases Nat.lt_trichotomy j r with hj | hj | hj
  · have e : r = j + 1 + (r - j - 1) := by omega
    have e2 : 2 ^ r = 2 ^ j * (2 * 2 ^ (r - j - 1)) := by
      conv => lhs; rw [e, Nat.pow_add, Nat.pow_succ]
      rw [Nat.mul_assoc]
    rw [e2, Nat.add_mul_div_left _ _ (Nat.two_pow_pos j), Nat.add_mul_mod_self_left]
    simp; omega
  · subst hj
    rw [Nat.add_div_right _ hp]
    simp; omega
  · have hj2 : ¬ r = j := by omega
    have e : j = r + (j - r) := by omega
    have e3 : ∀ y : Nat, y / 2 ^ j = y / 2 ^ r / 2 ^ (j - r) := by
      intro y
      conv => lhs; rw [e, Nat.pow_add]
      rw [Nat.div_div_eq_div_mul]
    rw [e3, e3 x, Nat.add_div_right _ hp]
    have e4 : 2 ^ (j - r) = 2 * 2 ^ (j - r - 1) := by
      have : j - r = 1 + (j - r - 1) := by omega
      conv => lhs; rw [this, Nat.pow_add]
    rw [e4, ← Nat.div_div_eq_div_mul, ← Nat.div_div_eq_div_mul, show (x / 2 ^ r).succ / 2 = x / 2 ^ r / 2 by omega]
    simp [hj2]
theorem addW_getD (B : List Nat) (k r : Nat) (hk : k < B.length) (j : Nat) : (addW B k r).getD j 0 = if j = k then B.getD k 0 ||| 2 ^ r else B.getD j 0 := by
  unfold addW
  rw [bit_num]
  cases h : (B.getD k 0).testBit r with
  | false =>
    rw [if_pos (by simp), addbit _ _ h, List.getD_eq_getElem?_getD, List.getElem?_set]
    by_cases e : k = j
    · subst e; simp [hk]
    · rw [if_neg e, if_neg (by omega), List.getD_eq_getElem?_getD]
  | true =>
    rw [if_neg (by simp)]
    by_cases e : j = k
    · subst e
      rw [if_pos rfl]
      apply Nat.eq_of_testBit_eq
      intro i
      rw [Nat.testBit_or, Nat.testBit_two_pow]
      by_cases hi : r = i
      · subst hi; simp only [h]; rfl
      · simp [hi]
    · rw [if_neg e]
theorem addW_length (B : List Nat) (k r : Nat) : (addW B k r).length = B.length := by unfold addW; split <;> simp
theorem last_of {A : List Nat} (h : ∀ n, A.length = n + 1 → A.getD n 0 ≠ 0) : A = [] ∨ ∃ B x, A = B ++ [x] ∧ x ≠ 0 := by
  rcases Nat.eq_zero_or_pos A.length with h0 | h0
  · exact .inl (List.eq_nil_of_length_eq_zero h0)
  · have hne : A ≠ [] := by intro e; subst e; simp at h0
    refine .inr ⟨A.dropLast, A.getLast hne, (List.dropLast_concat_getLast hne).symm, ?_⟩
    have := h (A.length - 1) (by omega)
    rw [List.getLast_eq_getElem]
    rwa [List.getD_eq_getElem?_getD, List.getElem?_eq_getElem (by omega)] at this
theorem last_getD {A : List Nat} (h : A = [] ∨ ∃ B x, A = B ++ [x] ∧ x ≠ 0) (n : Nat) (hn : A.length = n + 1) : A.getD n 0 ≠ 0 := by
  rcases h with rfl | ⟨B, x, rfl, hx⟩
  · simp at hn
  · simp at hn; subst hn
    rw [List.getD_eq_getElem?_getD, List.getElem?_append_right (by omega)]
    simpa using hx
theorem add_canon {A : List Nat} (h : Canon A) (i : Int) : Canon (addN A i) ∧ ∀ j, j < 4096 → bit (addN A i) j = (bit A j || decide ((j : Int) = i)) := by
  unfold addN
  split
  · exact ⟨h, fun j hj => by rw [decide_eq_false (by omega), Bool.or_false]⟩
  · rename_i hi
    obtain ⟨k, hk⟩ : ∃ k, k = i.toNat / 64 := ⟨_, rfl⟩
    obtain ⟨r, hr⟩ : ∃ r, r = i.toNat % 64 := ⟨_, rfl⟩
    rw [← hk, ← hr]
    have hl := pad_length A (k + 1)
    have hk2 : k < (pad A (k + 1)).length := by omega
    have hr2 : 2 ^ r < 18446744073709551616 := lt64 (by omega)
    have hpos := Nat.two_pow_pos r
    have hg := addW_getD (pad A (k + 1)) k r hk2
    refine ⟨⟨by rw [addW_length, hl]; have := h.1; omega, fun x hx => ?_, last_of fun n hn => ?_⟩, fun j hj => ?_⟩
    · obtain ⟨j, hj, rfl⟩ := List.getElem_of_mem hx
      have := hg j
      rw [List.getD_eq_getElem?_getD, List.getElem?_eq_getElem hj] at this
      simp only [Option.getD_some] at this
      rw [this]
      split
      · exact Nat.or_lt_two_pow (n := 64) ((pad_words h.2.1 _).getD _) hr2
      · exact (pad_words h.2.1 _).getD _
    · rw [addW_length, hl] at hn
      rw [hg n]
      split
      · intro e
        have := congrArg (fun x => x.testBit r) e
        simp [Nat.testBit_or] at this
      · rw [pad_getD]
        exact last_getD h.2.2 n (by omega)
    · unfold bit
      have e : wd (addW (pad A (k + 1)) k r) (j / 64) = if j / 64 = k then wd A (j / 64) ||| 2 ^ r else wd A (j / 64) := by
        have h64 : j / 64 < 64 := by omega
        unfold wd
        simp only [h64, if_true]
        rw [hg, pad_getD, pad_getD]
        by_cases e : j / 64 = k
        · rw [if_pos e, if_pos e, e]
        · rw [if_neg e, if_neg e]
      rw [e]
      split
      · rw [Nat.testBit_or, Nat.testBit_two_pow]
        congr 2
        apply propext
        omega
      · rw [decide_eq_false (by omega), Bool.or_false]
theorem set_from (l : List Int) : ∀ A, Canon A → Canon (l.foldl addN A) ∧ ∀ j, j < 4096 → bit (l.foldl addN A) j = (bit A j || l.contains (j : Int)) := by
  induction l with
  | nil => intro A h; exact ⟨h, fun j hj => by simp⟩
  | cons i l ih =>
    intro A h
    obtain ⟨h1, h2⟩ := ih (addN A i) (add_canon h i).1
    refine ⟨h1, fun j hj => ?_⟩
    rw [List.foldl_cons, h2 j hj, (add_canon h i).2 j hj, List.contains_cons, Bool.or_assoc]
    congr 2
theorem set_canon (l : List Int) : Canon (setN l) := (set_from l [] canon_nil).1
theorem bit_set (l : List Int) (j : Nat) (hj : j < 4096) : bit (setN l) j = l.contains (j : Int) := by
  unfold setN; rw [(set_from l [] canon_nil).2 j hj, bit_nil, Bool.false_or]
/-- A set with the reference's members is the reference's set. -/
theorem set_eq {A : List Nat} (h : Canon A) (l : List Int) (hm : ∀ j, j < 4096 → bit A j = l.contains (j : Int)) : A = setN l :=
  canon_ext h (set_canon l) fun j hj => by rw [hm j hj, bit_set l j hj]
theorem of_eq (l : List Int) : ofN l = setN l := set_eq (of_canon l) l (bit_of l)
end Go.Sp
