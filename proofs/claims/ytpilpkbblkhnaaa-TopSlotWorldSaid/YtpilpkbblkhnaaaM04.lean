/- Lemmas for the law TopSlotWorld: SetP, SlotP, CloneI, SetW. No conditions. -/
import Derived.WalkKit
import Derived.Test.YtpilpkbblkhnaaaM01
import Derived.Test.YtpilpkbblkhnaaaRows
import Derived.Test.YtpilpkbblkhnaaaM03
import Derived.Deep.DeepMust
import Derived.WalkSpells
import Derived.Lib.LazyBuf
import Derived.Great.BuildSlice
import Derived.Lib.MinMax
import Derived.Deep.LoopGhost
import Derived.Shelf.Abstract
/- Sets of small numbers as lists of words: what the functions of package sets and the reference compute (plain). -/
section
namespace Go.Sp
set_option linter.unusedVariables false
set_option linter.unusedSimpArgs false
set_option linter.unnecessarySimpa false
/-- Word k of a set. -/
def wd (A : List Nat) (k : Nat) : Nat := if k < 64 then A.getD k 0 else 0
/-- Whether number i is in a set. -/
def bit (A : List Nat) (i : Nat) : Bool := (wd A (i / 64)).testBit (i % 64)
def upto (A : List Nat) (m : Nat) : List Nat := (List.range m).filter (bit A)
def els (A : List Nat) : List Nat := upto A 4096
def trim (A : List Nat) : List Nat := (A.reverse.dropWhile (· == 0)).reverse
def Words (A : List Nat) : Prop := ∀ x ∈ A, x < 18446744073709551616
def Canon (A : List Nat) : Prop := A.length ≤ 64 ∧ Words A ∧ (A = [] ∨ ∃ B x, A = B ++ [x] ∧ x ≠ 0)
theorem two64 {j : Nat} (h : 64 ≤ j) : 18446744073709551616 ≤ 2 ^ j := show 2 ^ 64 ≤ 2 ^ j from Nat.pow_le_pow_right (by omega) h
theorem lt64 {r : Nat} (h : r < 64) : 2 ^ r < 18446744073709551616 := show 2 ^ r < 2 ^ 64 from Nat.pow_lt_pow_right (by omega) h
theorem trim_zero (A : List Nat) : trim (A ++ [0]) = trim A := by simp [trim]
theorem trim_more (A : List Nat) (x : Nat) (h : x ≠ 0) : trim (A ++ [x]) = A ++ [x] := by simp [trim, h]
theorem dropWhile_head {l : List Nat} {p : Nat → Bool} {x : Nat} {t : List Nat} (h : l.dropWhile p = x :: t) : p x = false := by
  induction l with
  | nil => simp at h
  | cons a l ih =>
    rw [List.dropWhile_cons] at h
    split at h
    · exact ih h
    · injection h with h1 h2
      subst h1
      simpa using ‹¬ p a = true›
theorem trim_split (A : List Nat) : ∃ Z, A = trim A ++ Z ∧ ∀ z ∈ Z, z = 0 := by
  refine ⟨(A.reverse.takeWhile (· == 0)).reverse, ?_, fun z hz => ?_⟩
  · have := List.takeWhile_append_dropWhile (p := (· == 0)) (l := A.reverse)
    unfold trim
    rw [← List.reverse_append, this, List.reverse_reverse]
  · have h := List.all_takeWhile (p := (· == 0)) (l := A.reverse)
    have := List.all_eq_true.1 h z (List.mem_reverse.1 hz)
    simpa using this
theorem getD_zeros {Z : List Nat} (h : ∀ z ∈ Z, z = 0) (k : Nat) : Z.getD k 0 = 0 := by
  rw [List.getD_eq_getElem?_getD]
  cases hk : Z[k]? with
  | none => rfl
  | some z => exact h z (List.mem_of_getElem? hk)
theorem getD_trim (A : List Nat) (k : Nat) : (trim A).getD k 0 = A.getD k 0 := by
  obtain ⟨Z, h, hz⟩ := trim_split A
  conv => rhs; rw [h]
  rw [List.getD_eq_getElem?_getD, List.getD_eq_getElem?_getD, List.getElem?_append]
  split
  · rfl
  · rename_i hk
    rw [List.getElem?_eq_none (by omega), ← List.getD_eq_getElem?_getD, getD_zeros hz]
    rfl
theorem trim_last (A : List Nat) : trim A = [] ∨ ∃ B x, trim A = B ++ [x] ∧ x ≠ 0 := by
  unfold trim
  cases h : A.reverse.dropWhile (· == 0) with
  | nil => exact .inl rfl
  | cons x t => exact .inr ⟨t.reverse, x, by simp, by simpa using dropWhile_head h⟩
theorem trim_length (A : List Nat) : (trim A).length ≤ A.length := by
  obtain ⟨Z, h, hz⟩ := trim_split A
  have := congrArg List.length h
  rw [List.length_append] at this
  omega
theorem trim_mem {A : List Nat} {x : Nat} (h : x ∈ trim A) : x ∈ A := by
  obtain ⟨Z, h2, hz⟩ := trim_split A
  rw [h2]; exact List.mem_append_left _ h
theorem trim_canon {A : List Nat} (hl : A.length ≤ 64) (hw : Words A) : Canon (trim A) :=
  ⟨Nat.le_trans (trim_length A) hl, fun x hx => hw x (trim_mem hx), trim_last A⟩
theorem Words.getD {A : List Nat} (h : Words A) (k : Nat) : A.getD k 0 < 18446744073709551616 := by
  rw [List.getD_eq_getElem?_getD]
  cases hk : A[k]? with
  | none => simp
  | some z => exact h z (List.mem_of_getElem? hk)
theorem Words.wd {A : List Nat} (h : Words A) (k : Nat) : wd A k < 18446744073709551616 := by
  unfold Sp.wd; split
  · exact h.getD k
  · omega
theorem wd_trim (A : List Nat) (k : Nat) : wd (trim A) k = wd A k := by unfold wd; rw [getD_trim]
theorem bit_trim (A : List Nat) (i : Nat) : bit (trim A) i = bit A i := by unfold bit; rw [wd_trim]
theorem bit_lt {A : List Nat} {i : Nat} (h : bit A i = true) : i < 4096 := by
  unfold bit wd at h
  split at h
  · omega
  · simp at h
/-! The elements. -/
theorem upto_succ (A : List Nat) (m : Nat) : upto A (m + 1) = upto A m ++ (if bit A m then [m] else []) := by
  unfold upto
  rw [List.range_succ, List.filter_append]
  congr 1
  cases h : bit A m <;> simp [h]
theorem upto_stay (A : List Nat) (m : Nat) : ∀ d, (∀ i, m ≤ i → i < m + d → bit A i = false) → upto A (m + d) = upto A m := by
  intro d
  induction d with
  | zero => intro _; rfl
  | succ d ih =>
    intro h
    rw [← Nat.add_assoc, upto_succ, h (m + d) (by omega) (by omega), ih (fun i h1 h2 => h i h1 (by omega))]
    simp
theorem upto_to {A : List Nat} {m n : Nat} (hmn : m ≤ n) (h : ∀ i, m ≤ i → i < n → bit A i = false) : upto A n = upto A m := by
  have := upto_stay A m (n - m) (fun i h1 h2 => h i h1 (by omega))
  rwa [show m + (n - m) = n by omega] at this
theorem els_mem (A : List Nat) (i : Nat) : i ∈ els A ↔ bit A i = true := by
  unfold els upto
  rw [List.mem_filter, List.mem_range]
  exact ⟨fun h => h.2, fun h => ⟨bit_lt h, h⟩⟩
theorem upto_length (A : List Nat) (m : Nat) (h : m ≤ 4096) : (upto A m).length ≤ m := by
  have := List.length_filter_le (bit A) (List.range m)
  simpa [upto] using this
theorem upto_end (A : List Nat) (m : Nat) (h : m ≤ 4096) (h2 : A.length * 64 ≤ m) : upto A m = els A := by
  unfold els
  refine (upto_to h fun i h1 _ => ?_).symm
  unfold bit wd
  split
  · rw [List.getD_eq_getElem?_getD, List.getElem?_eq_none (by omega)]; simp
  · simp

/-! Joins of two sets. -/
def joinL (f : Nat → Nat → Nat) (A B : List Nat) (k : Nat) : List Nat := (List.range k).map fun k => f (wd A k) (wd B k)
def joinN (f : Nat → Nat → Nat) (A B : List Nat) : List Nat := trim (joinL f A B (min (max A.length B.length) 64))
/-- A function on words that works bit by bit. -/
def Bw (f : Nat → Nat → Nat) (g : Bool → Bool → Bool) : Prop := g false false = false ∧ ∀ x y, x < 18446744073709551616 → y < 18446744073709551616 → f x y < 18446744073709551616 ∧ ∀ j, (f x y).testBit j = g (x.testBit j) (y.testBit j)
theorem joinL_length (f : Nat → Nat → Nat) (A B : List Nat) (k : Nat) : (joinL f A B k).length = k := by simp [joinL]
theorem joinL_succ (f : Nat → Nat → Nat) (A B : List Nat) (k : Nat) : joinL f A B (k + 1) = joinL f A B k ++ [f (wd A k) (wd B k)] := by simp [joinL, List.range_succ]
theorem joinL_words {f : Nat → Nat → Nat} {g : Bool → Bool → Bool} (hf : Bw f g) {A B : List Nat} (ha : Words A) (hb : Words B) (k : Nat) : Words (joinL f A B k) := by
  intro x hx
  obtain ⟨j, _, rfl⟩ := List.mem_map.1 hx
  exact (hf.2 _ _ (ha.wd _) (hb.wd _)).1
theorem joinN_canon {f : Nat → Nat → Nat} {g : Bool → Bool → Bool} (hf : Bw f g) {A B : List Nat} (ha : Words A) (hb : Words B) : Canon (joinN f A B) :=
  trim_canon (by rw [joinL_length]; omega) (joinL_words hf ha hb _)
theorem wd_over {A : List Nat} {k : Nat} (h : A.length ≤ k) : wd A k = 0 := by
  unfold wd; split
  · rw [List.getD_eq_getElem?_getD, List.getElem?_eq_none h]; rfl
  · rfl
theorem bit_join {f : Nat → Nat → Nat} {g : Bool → Bool → Bool} (hf : Bw f g) {A B : List Nat} (ha : Words A) (hb : Words B) (i : Nat) : bit (joinN f A B) i = g (bit A i) (bit B i) := by
  unfold joinN
  rw [bit_trim]
  by_cases h : i / 64 < min (max A.length B.length) 64
  · have e : wd (joinL f A B (min (max A.length B.length) 64)) (i / 64) = f (wd A (i / 64)) (wd B (i / 64)) := by
      conv => lhs; unfold wd
      rw [if_pos (by omega), joinL, List.getD_eq_getElem?_getD, List.getElem?_map, List.getElem?_range h]
      rfl
    unfold bit
    rw [e]
    exact (hf.2 _ _ (ha.wd _) (hb.wd _)).2 _
  · have e : ∀ C : List Nat, C.length ≤ i / 64 ∨ 64 ≤ i / 64 → bit C i = false := by
      intro C hC
      unfold bit
      rcases hC with hC | hC
      · rw [wd_over hC]; simp
      · unfold wd; rw [if_neg (by omega)]; simp
    rw [e (joinL f A B _) (by rw [joinL_length]; omega), e A (by omega), e B (by omega)]
    exact hf.1.symm
theorem bw_or : Bw (· ||| ·) (fun a b => a || b) := ⟨rfl, fun x y hx hy => ⟨Nat.or_lt_two_pow (n := 64) hx hy, fun j => Nat.testBit_or ..⟩⟩
theorem bw_fst : Bw (fun x _ => x) (fun a _ => a) := ⟨rfl, fun x y hx hy => ⟨hx, fun j => rfl⟩⟩
def minus (x y : Nat) : Nat := x &&& (18446744073709551615 - y)
theorem bw_minus : Bw minus (fun a b => a && !b) := by
  refine ⟨rfl, fun x y hx hy => ⟨Nat.lt_of_le_of_lt Nat.and_le_left hx, fun j => ?_⟩⟩
  unfold minus
  rw [Nat.testBit_and]
  by_cases hj : j < 64
  · rw [show 18446744073709551615 - y = 2 ^ 64 - (y + 1) by omega, Nat.testBit_two_pow_sub_succ (by omega)]
    simp [hj]
  · have h2 : 18446744073709551616 ≤ 2 ^ j := two64 (by omega)
    rw [Nat.testBit_lt_two_pow (Nat.lt_of_lt_of_le hx h2)]
    rfl

/-! The set of one number; of some numbers. -/
def oneN (i : Int) : List Nat := if i < 0 ∨ 4096 ≤ i then [] else List.replicate (i.toNat / 64) 0 ++ [2 ^ (i.toNat % 64)]
theorem one_canon (i : Int) : Canon (oneN i) := by
  unfold oneN
  split
  · exact ⟨by simp, fun x hx => by simp at hx, .inl rfl⟩
  · refine ⟨by simp; omega, fun x hx => ?_, .inr ⟨_, _, rfl, ?_⟩⟩
    · rcases List.mem_append.1 hx with h | h
      · have := List.eq_of_mem_replicate h; omega
      · simp at h; subst h; exact lt64 (by omega)
    · have := Nat.two_pow_pos (i.toNat % 64); omega
theorem bit_one (i : Int) (j : Nat) (hj : j < 4096) : bit (oneN i) j = decide ((j : Int) = i) := by
  unfold oneN
  split
  · rw [decide_eq_false (by omega)]
    unfold bit
    rw [wd_over (by simp)]; simp
  · unfold bit wd
    rw [if_pos (by omega), List.getD_eq_getElem?_getD, List.getElem?_append]
    by_cases h1 : j / 64 < i.toNat / 64
    · rw [if_pos (by simpa using h1), List.getElem?_replicate, if_pos h1, decide_eq_false (by omega)]
      simp
    · rw [if_neg (by simpa using h1)]
      by_cases h2 : j / 64 = i.toNat / 64
      · rw [show j / 64 - (List.replicate (i.toNat / 64) 0).length = 0 by simp; omega]
        simp only [List.getElem?_cons_zero, Option.getD_some, Nat.testBit_two_pow]
        congr 1
        apply propext
        omega
      · rw [List.getElem?_eq_none (by simp; omega), decide_eq_false (by omega)]
        simp
def withN (A : List Nat) (i : Int) : List Nat := joinN (· ||| ·) A (oneN i)
def ofN (l : List Int) : List Nat := l.foldl withN []
theorem with_canon {A : List Nat} (h : Words A) (i : Int) : Canon (withN A i) := joinN_canon bw_or h (one_canon i).2.1
theorem bit_with {A : List Nat} (h : Words A) (i : Int) (j : Nat) (hj : j < 4096) : bit (withN A i) j = (bit A j || decide ((j : Int) = i)) := by
  unfold withN
  rw [bit_join bw_or h (one_canon i).2.1, bit_one i j hj]
theorem canon_nil : Canon [] := ⟨by simp, fun x hx => by simp at hx, .inl rfl⟩
theorem of_from (l : List Int) : ∀ A, Canon A → Canon (l.foldl withN A) ∧ ∀ j, j < 4096 → bit (l.foldl withN A) j = (bit A j || l.contains (j : Int)) := by
  induction l with
  | nil => intro A h; exact ⟨h, fun j hj => by simp⟩
  | cons i l ih =>
    intro A h
    obtain ⟨h1, h2⟩ := ih (withN A i) (with_canon h.2.1 i)
    refine ⟨h1, fun j hj => ?_⟩
    rw [List.foldl_cons, h2 j hj, bit_with h.2.1 i j hj, List.contains_cons, Bool.or_assoc]
    congr 2
theorem of_canon (l : List Int) : Canon (ofN l) := (of_from l [] canon_nil).1
theorem bit_nil (j : Nat) : bit [] j = false := by unfold bit; rw [wd_over (by simp)]; simp
theorem bit_of (l : List Int) (j : Nat) (hj : j < 4096) : bit (ofN l) j = l.contains (j : Int) := by
  unfold ofN; rw [(of_from l [] canon_nil).2 j hj, bit_nil, Bool.false_or]

/-! The reference's SetOf. -/
theorem bit_num (x r : Nat) : x / 2 ^ r % 2 = (x.testBit r).toNat := by
  rw [Nat.testBit_eq_decide_div_mod_eq]
  have := Nat.mod_two_eq_zero_or_one (x / 2 ^ r)
  rcases this with h | h <;> simp [h]
end Go.Sp
end
/- Slots: the plain laws. -/
section
namespace Go.Slt
open Go.Sp Go.Mem
abbrev M30 : Int := 1073741824
/-- A slot that is free. -/
def av (G : List Int) (B : List Bool) (i : Nat) : Bool := decide (i < G.length) && (!(B.getD i false) && decide (G.getD i 0 < M30))
/-- The slots' sets, and the list of which are in use. -/
structure SI (G : List Int) (B : List Bool) (U F : List Nat) : Prop where
  len : B.length = G.length
  small : G.length ≤ 256
  lo : ∀ i, i < G.length → 0 ≤ G.getD i 0 ∧ G.getD i 0 ≤ M30
  used : ∀ i, bit U i = B.getD i false
  free : ∀ i, bit F i = av G B i
  live : ∀ i, B.getD i false = true → G.getD i 0 < M30
  cu : Canon U
  cf : Canon F
/-- The least slot that is free, or a new one. -/
structure Least (G : List Int) (B : List Bool) (n : Nat) : Prop where
  le : n ≤ G.length
  is : n < G.length → av G B n = true
  min : ∀ j, j < n → av G B j = false
theorem least_uniq {G : List Int} {B : List Bool} {n m : Nat} (h : Least G B n) (k : Least G B m) : n = m := by
  rcases Nat.lt_trichotomy n m with q | q | q
  · have h1 := h.is (by have := k.le; omega)
    rw [k.min n q] at h1; cases h1
  · exact q
  · have h1 := k.is (by have := h.le; omega)
    rw [h.min m q] at h1; cases h1
def takeG (G : List Int) (n : Nat) : List Int := if n = G.length then G ++ [0] else G
def takeB (B : List Bool) (n : Nat) : List Bool := if n = B.length then B ++ [true] else B.set n true
theorem getD_app {α : Type} (L : List α) (x d : α) (i : Nat) : (L ++ [x]).getD i d = if i = L.length then x else L.getD i d := by
  rw [List.getD_eq_getElem?_getD, List.getD_eq_getElem?_getD, List.getElem?_append]
  by_cases h : i < L.length
  · rw [if_pos h, if_neg (by omega)]
  · rw [if_neg h]
    by_cases h2 : i = L.length
    · subst h2; simp
    · rw [if_neg h2, List.getElem?_eq_none (by simp; omega), List.getElem?_eq_none (by omega)]
theorem getD_set' {α : Type} (L : List α) (x d : α) (k i : Nat) (hk : k < L.length) : (L.set k x).getD i d = if i = k then x else L.getD i d := by
  rw [List.getD_eq_getElem?_getD, List.getD_eq_getElem?_getD, List.getElem?_set]
  by_cases h : k = i
  · subst h; simp [hk]
  · rw [if_neg h, if_neg (fun e => h e.symm)]
theorem takeG_len (G : List Int) (n : Nat) : (takeG G n).length = if n = G.length then G.length + 1 else G.length := by
  unfold takeG; split <;> simp
theorem takeB_len (B : List Bool) (n : Nat) : (takeB B n).length = if n = B.length then B.length + 1 else B.length := by
  unfold takeB; split <;> simp
theorem takeG_get (G : List Int) (n i : Nat) : (takeG G n).getD i 0 = G.getD i 0 := by
  unfold takeG
  split
  · rw [getD_app]
    split
    · subst i; simp
    · rfl
  · rfl
theorem takeB_get (B : List Bool) (n i : Nat) (hn : n ≤ B.length) : (takeB B n).getD i false = (B.getD i false || decide (i = n)) := by
  unfold takeB
  split
  · subst n
    rw [getD_app]
    by_cases h : i = B.length
    · subst h; simp
    · simp [h]
  · rw [getD_set' _ _ _ _ _ (by omega)]
    by_cases h : i = n
    · subst h; simp
    · simp [h]
theorem bit_without {A : List Nat} (h : Words A) (i : Int) (j : Nat) : bit (joinN minus A (oneN i)) j = (bit A j && !decide ((j : Int) = i)) := by
  rw [bit_join bw_minus h (one_canon i).2.1]
  by_cases hj : j < 4096
  · rw [bit_one i j hj]
  · cases hb : bit A j
    · rfl
    · exact absurd (bit_lt hb) hj
theorem bit_withI {A : List Nat} (h : Words A) (i : Int) (hi : i < 4096) (j : Nat) : bit (withN A i) j = (bit A j || decide ((j : Int) = i)) := by
  by_cases hj : j < 4096
  · exact bit_with h i j hj
  · have h1 : bit (withN A i) j = false := by
      cases hb : bit (withN A i) j
      · rfl
      · exact absurd (bit_lt hb) hj
    have h2 : bit A j = false := by
      cases hb : bit A j
      · rfl
      · exact absurd (bit_lt hb) hj
    rw [h1, h2]
    have : ¬ ((j : Int) = i) := by omega
    simp [this]
theorem getD_over {α : Type} {L : List α} {d : α} {i : Nat} (h : L.length ≤ i) : L.getD i d = d := by
  rw [List.getD_eq_getElem?_getD, List.getElem?_eq_none h]; rfl
/-- A slot taken. -/
theorem take_si {G : List Int} {B : List Bool} {U F : List Nat} {n : Nat} (h : SI G B U F) (hn : Least G B n) (h256 : n ≠ 256) :
    SI (takeG G n) (takeB B n) (withN U (n : Int)) (joinN minus F (oneN (n : Int))) := by
  have hle := hn.le
  have hs := h.small
  have hl := h.len
  refine ⟨?_, ?_, ?_, ?_, ?_, ?_, with_canon h.cu.2.1 _, joinN_canon bw_minus h.cf.2.1 (one_canon _).2.1⟩
  · rw [takeG_len, takeB_len, hl]
  · rw [takeG_len]; split <;> omega
  · intro i hi
    rw [takeG_get]
    by_cases h1 : i < G.length
    · exact h.lo i h1
    · rw [getD_over (by omega)]; decide
  · intro i
    rw [bit_withI h.cu.2.1 _ (by omega), h.used, takeB_get _ _ _ (by omega)]
    congr 1
    exact decide_eq_decide.2 (by omega)
  · intro i
    rw [bit_without h.cf.2.1, h.free]
    unfold av
    rw [takeG_get, takeB_get _ _ _ (by omega), takeG_len]
    have e : decide ((i : Int) = (n : Int)) = decide (i = n) := decide_eq_decide.2 (by omega)
    rw [e]
    by_cases h1 : i = n
    · subst h1; simp
    · have e2 : decide (i < if n = G.length then G.length + 1 else G.length) = decide (i < G.length) := decide_eq_decide.2 (by split <;> omega)
      rw [e2]; simp [h1]
  · intro i hi
    rw [takeB_get _ _ _ (by omega)] at hi
    rw [takeG_get]
    by_cases h1 : i = n
    · subst h1
      by_cases h2 : i < G.length
      · have := hn.is h2
        unfold av at this
        simp at this
        exact this.2.2
      · rw [getD_over (by omega)]; decide
    · exact h.live i (by simpa [h1] using hi)
/-- What lives. -/
def alive (G : List Int) (B : List Bool) (N g : Int) : Bool := decide (0 ≤ N) && (B.getD N.toNat false && decide (G.getD N.toNat 0 = g))
def freeG (G : List Int) (n : Nat) : List Int := G.set n (G.getD n 0 + 1)
def freeB (B : List Bool) (n : Nat) : List Bool := B.set n false
def freeF (G : List Int) (F : List Nat) (n : Nat) : List Nat := if G.getD n 0 + 1 < M30 then withN F (n : Int) else F
theorem free_si {G : List Int} {B : List Bool} {U F : List Nat} {n : Nat} (h : SI G B U F) (hb : B.getD n false = true) :
    SI (freeG G n) (freeB B n) (joinN minus U (oneN (n : Int))) (freeF G F n) := by
  have hs := h.small
  have hl := h.len
  have hn : n < B.length := by
    rcases Nat.lt_or_ge n B.length with q | q
    · exact q
    · rw [getD_over q] at hb; cases hb
  have hlv := h.live n hb
  have hlo := h.lo n (by omega)
  have gF : ∀ i, (freeG G n).getD i 0 = if i = n then G.getD n 0 + 1 else G.getD i 0 := fun i => getD_set' _ _ _ _ _ (by omega)
  have gB : ∀ i, (freeB B n).getD i false = if i = n then false else B.getD i false := fun i => getD_set' _ _ _ _ _ (by omega)
  have lG : (freeG G n).length = G.length := by simp [freeG]
  have dn : ∀ i : Nat, decide ((i : Int) = (n : Int)) = decide (i = n) := fun i => decide_eq_decide.2 (by omega)
  refine ⟨by simp [freeG, freeB, hl], by rw [lG]; exact hs, ?_, ?_, ?_, ?_, joinN_canon bw_minus h.cu.2.1 (one_canon _).2.1, ?_⟩
  · intro i hi
    rw [gF]
    split
    · omega
    · exact h.lo i (by omega)
  · intro i
    rw [bit_without h.cu.2.1, h.used, gB, dn]
    by_cases h1 : i = n
    · simp [h1]
    · simp [h1]
  · intro i
    have e : av (freeG G n) (freeB B n) i = if i = n then decide (G.getD n 0 + 1 < M30) else av G B i := by
      unfold av
      rw [gF, gB, lG]
      by_cases h1 : i = n
      · subst h1
        rw [if_pos rfl, if_pos rfl, if_pos rfl]
        have : decide (i < G.length) = true := by simp; omega
        rw [this]; rfl
      · rw [if_neg h1, if_neg h1, if_neg h1]
    rw [e]
    unfold freeF
    split
    · rename_i h2
      rw [bit_withI h.cf.2.1 _ (by omega), h.free, dn]
      by_cases h1 : i = n
      · rw [if_pos h1, decide_eq_true h1, decide_eq_true h2]; simp
      · simp [h1]
    · rename_i h2
      rw [h.free]
      by_cases h1 : i = n
      · subst h1
        unfold av
        rw [hb, if_pos rfl, decide_eq_false h2]
        simp
      · rw [if_neg h1]
  · intro i hi
    rw [gB] at hi
    rw [gF]
    by_cases h1 : i = n
    · rw [if_pos h1] at hi; cases hi
    · rw [if_neg h1] at hi ⊢
      exact h.live i hi
  · unfold freeF
    split
    · exact with_canon h.cf.2.1 _
    · exact h.cf
/-- The elements in use. -/
def live (B : List Bool) : List Nat := (List.range B.length).filter fun i => B.getD i false
theorem upto_cut {A : List Nat} {p : Nat → Bool} {n : Nat} (hn : n ≤ 4096) (h : ∀ i, bit A i = (decide (i < n) && p i)) : els A = (List.range n).filter p := by
  have h1 : upto A 4096 = upto A n := upto_to hn fun i h2 _ => by rw [h i]; simp; omega
  show upto A 4096 = _
  rw [h1]
  unfold upto
  refine List.filter_congr fun i hi => ?_
  rw [h i]; simp [List.mem_range.1 hi]
theorem els_used {G : List Int} {B : List Bool} {U F : List Nat} (h : SI G B U F) : els U = live B := by
  refine upto_cut (by have := h.small; have := h.len; omega) fun i => ?_
  rw [h.used]
  by_cases h1 : i < B.length
  · simp [h1]
  · rw [getD_over (by omega)]; simp
theorem els_free {G : List Int} {B : List Bool} {U F : List Nat} (h : SI G B U F) : els F = (List.range G.length).filter (av G B) := by
  refine upto_cut (by have := h.small; omega) fun i => ?_
  rw [h.free]; unfold av
  cases decide (i < G.length) <;> rfl
theorem free_least {G : List Int} {B : List Bool} {U F : List Nat} (h : SI G B U F) {n : Nat} (hn : Least G B n) : (els F = [] → n = G.length) ∧ (∀ x t, els F = x :: t → n = x ∧ x < G.length) := by
  rw [els_free h]
  constructor
  · intro he
    rcases Nat.lt_or_eq_of_le hn.le with q | q
    · have := List.filter_eq_nil_iff.1 he n (List.mem_range.2 q)
      exact absurd (hn.is q) this
    · exact q
  · intro x t he
    have hx : x ∈ (List.range G.length).filter (av G B) := by rw [he]; exact List.mem_cons_self ..
    obtain ⟨h1, h2⟩ := List.mem_filter.1 hx
    have h1 := List.mem_range.1 h1
    refine ⟨?_, h1⟩
    refine least_uniq hn ⟨by omega, fun _ => h2, fun j hj => ?_⟩
    cases ha : av G B j
    · rfl
    · have hs : ((List.range G.length).filter (av G B)).Pairwise (· < ·) := List.pairwise_lt_range.filter _
      have hm : j ∈ (List.range G.length).filter (av G B) := List.mem_filter.2 ⟨List.mem_range.2 (by omega), ha⟩
      rw [he] at hs hm
      rcases List.mem_cons.1 hm with h3 | h3
      · omega
      · have := (List.pairwise_cons.1 hs).1 j h3
        omega
/-- The errors of Of. -/
def bad (G : List Int) (n : Int) : Bool := decide (n < 0) || (decide ((G.length : Int) ≤ n) || decide (G.getD n.toNat 0 = M30))
def errs (G : List Int) (p : Int) : List Int → Int
  | [] => 0
  | n :: t => if bad G n = true then 1 else if n ≤ p then 9 else errs G n t
def badG (G : List Int) : Bool := G.any fun g => decide (g < 0) || decide (M30 < g)
def ofE (G L : List Int) : Int := if 256 < G.length then 2 else if badG G = true then 1 else errs G (-1) L
/-- Which are in use, behind Of. -/
def ofB (G L : List Int) : List Bool := (List.range G.length).map fun (i : Nat) => L.contains (i : Int)
theorem errs_drop (G L : List Int) (p : Int) (k : Nat) (h : k < L.length) : errs G p (L.drop k) = if bad G (L.getD k 0) = true then 1 else if L.getD k 0 ≤ p then 9 else errs G (L.getD k 0) (L.drop (k + 1)) := by
  have e : L.drop k = L.getD k 0 :: L.drop (k + 1) := by
    rw [List.drop_eq_getElem_cons h, List.getD_eq_getElem?_getD, List.getElem?_eq_getElem h]; rfl
  rw [e]; rfl
theorem errs_ok {G : List Int} : ∀ {L : List Int} {p : Int}, errs G p L = 0 → ∀ n ∈ L, bad G n = false
  | [], _, _, n, hn => by cases hn
  | m :: t, p, h, n, hn => by
    unfold errs at h
    by_cases hb : bad G m = true
    · rw [if_pos hb] at h; cases h
    · rw [if_neg hb] at h
      by_cases hp : m ≤ p
      · rw [if_pos hp] at h; cases h
      · rw [if_neg hp] at h
        rcases List.mem_cons.1 hn with e | e
        · rw [e]; exact Bool.eq_false_iff.2 hb
        · exact errs_ok h n e
theorem ofB_get (G L : List Int) (i : Nat) : (ofB G L).getD i false = (decide (i < G.length) && L.contains (i : Int)) := by
  unfold ofB
  by_cases h : i < G.length
  · rw [List.getD_eq_getElem?_getD, List.getElem?_map, List.getElem?_range h, decide_eq_true h]; rfl
  · rw [getD_over (by simp; omega), decide_eq_false h]; rfl
theorem ofB_len (G L : List Int) : (ofB G L).length = G.length := by simp [ofB]
theorem take_snoc (L : List Int) (k : Nat) (h : k < L.length) : L.take (k + 1) = L.take k ++ [L.getD k 0] := by
  rw [List.take_succ_eq_append_getElem h, List.getD_eq_getElem?_getD, List.getElem?_eq_getElem h]; rfl
theorem ofN_snoc (L : List Int) (k : Nat) (h : k < L.length) : withN (ofN (L.take k)) (L.getD k 0) = ofN (L.take (k + 1)) := by
  rw [take_snoc L k h]; unfold ofN; rw [List.foldl_append]; rfl
/-- The free slots, as Of finds them. -/
def fF (G : List Int) (B : List Bool) (k : Nat) : List Nat := (List.range k).foldl (fun F i => if av G B i = true then withN F (i : Int) else F) []
theorem fF_succ (G : List Int) (B : List Bool) (k : Nat) : fF G B (k + 1) = if av G B k = true then withN (fF G B k) (k : Int) else fF G B k := by
  unfold fF; rw [List.range_succ, List.foldl_append]; rfl
theorem fF_bit (G : List Int) (B : List Bool) : ∀ k, k ≤ 4096 → Canon (fF G B k) ∧ ∀ i, bit (fF G B k) i = (decide (i < k) && av G B i) := by
  intro k
  induction k with
  | zero => exact fun _ => ⟨canon_nil, fun i => by rw [show fF G B 0 = [] from rfl, bit_nil]; simp⟩
  | succ k ih =>
    intro hk
    obtain ⟨h1, h2⟩ := ih (by omega)
    rw [fF_succ]
    by_cases ha : av G B k = true
    · rw [if_pos ha]
      refine ⟨with_canon h1.2.1 _, fun i => ?_⟩
      rw [bit_withI h1.2.1 _ (by omega), h2]
      by_cases hi : i = k
      · subst hi; rw [ha]; simp
      · have e1 : decide ((i : Int) = (k : Int)) = false := by simp; omega
        have e2 : decide (i < k + 1) = decide (i < k) := decide_eq_decide.2 (by omega)
        rw [e1, e2]; simp
    · rw [if_neg ha]
      refine ⟨h1, fun i => ?_⟩
      rw [h2]
      by_cases hi : i = k
      · subst hi; rw [Bool.eq_false_iff.2 ha]; simp
      · have e2 : decide (i < k + 1) = decide (i < k) := decide_eq_decide.2 (by omega)
        rw [e2]
theorem of_si {G L : List Int} (h : ofE G L = 0) : SI G (ofB G L) (ofN L) (fF G (ofB G L) G.length) := by
  unfold ofE at h
  by_cases h1 : 256 < G.length
  · rw [if_pos h1] at h; cases h
  · rw [if_neg h1] at h
    by_cases h2 : badG G = true
    · rw [if_pos h2] at h; cases h
    · rw [if_neg h2] at h
      have hb := errs_ok h
      have hlo : ∀ i, i < G.length → 0 ≤ G.getD i 0 ∧ G.getD i 0 ≤ M30 := by
        intro i hi
        have hm : G.getD i 0 ∈ G := by rw [List.getD_eq_getElem?_getD, List.getElem?_eq_getElem hi]; exact List.getElem_mem hi
        have h3 := Bool.eq_false_iff.2 h2
        unfold badG at h3
        have := List.any_eq_false.1 h3 _ hm
        simp only [Bool.or_eq_true, decide_eq_true_eq, not_or, Int.not_lt] at this
        exact this
      refine ⟨ofB_len G L, by omega, hlo, ?_, ?_, ?_, of_canon L, (fF_bit G _ _ (by omega)).1⟩
      · intro i
        rw [ofB_get]
        by_cases hi : i < 4096
        · rw [bit_of L i hi]
          cases hc : L.contains (i : Int)
          · simp
          · have := hb (i : Int) (List.contains_iff_mem.1 hc)
            unfold bad at this
            simp at this
            simp; omega
        · have e1 : bit (ofN L) i = false := by
            cases hc : bit (ofN L) i
            · rfl
            · exact absurd (bit_lt hc) hi
          rw [e1, decide_eq_false (by omega)]; rfl
      · intro i
        rw [(fF_bit G _ _ (by omega)).2]
        unfold av
        cases decide (i < G.length) <;> rfl
      · intro i hi
        rw [ofB_get] at hi
        simp only [Bool.and_eq_true, decide_eq_true_eq] at hi
        have h4 := hb (i : Int) (List.contains_iff_mem.1 hi.2)
        have h5 := hlo i hi.1
        unfold bad at h4
        simp only [Bool.or_eq_false_iff, decide_eq_false_iff_not] at h4
        have h6 := h4.2.2
        rw [Int.toNat_natCast] at h6
        omega
end Go.Slt
end
/- slices.Clone of ints. -/
section
namespace Go.Proofs.Ytpilpkbblkhnaaa
open Go.ChangeShapes Go.WideShapes Go.ChangeAt Go.RowKit Go.Mem
set_option linter.unusedVariables false

/-- A slice of ints that the call owns. -/
def OwnPost (zs : List Int) (n : Nat) (w : World) (e : Ending) (w' : World) : Prop := ∃ v, e = .returned v ∧ w'.ownsRow w.heap.size 3 1 v n (vints .i64 zs) ∧ Below w.heap.size w w'

theorem own_slice {w : World} {base e size n : Nat} {v : Value} {xs : List Value} (h : w.ownsRow base e size v n xs) : ∃ a c, v = .slice a n c := by
  rcases h.2 with ⟨rfl, rfl⟩ | ⟨g, cap, cur, rfl, _⟩
  · exact ⟨none, 0, rfl⟩
  · exact ⟨_, cap, rfl⟩
end Go.Proofs.Ytpilpkbblkhnaaa
end
/- Package sets: word, one, join. -/
section
namespace Go.Proofs.Ytpilpkbblkhnaaa
open Go.ChangeShapes Go.WideShapes Go.ChangeAt Go.RowKit Go.Mem Go.Sp
set_option linter.unusedVariables false

/-- A list of natural numbers as integers. -/
def V (A : List Nat) : List Int := A.map (fun (n : Nat) => (n : Int))
theorem V_length (A : List Nat) : (V A).length = A.length := by simp [V]
theorem V_getD (A : List Nat) (i : Nat) : (V A).getD i 0 = ((A.getD i 0 : Nat) : Int) := by
  unfold V
  rw [List.getD_eq_getElem?_getD, List.getElem?_map, List.getD_eq_getElem?_getD]
  cases A[i]? <;> rfl
/-- A slice that reads as a set. -/
def SetAt (w : World) (a : Option Addr) (A : List Nat) : Prop := IntsAt .u64 w a (V A)
theorem SetAt.below {w w2 : World} {a : Option Addr} {A : List Nat} (h : SetAt w a A) (hb : Below w.heap.size w w2) : SetAt w2 a A := IntsAt.below h hb
theorem SetAt.nil (w : World) (a : Option Addr) : SetAt w a [] := fun h => absurd h (by simp [V])
theorem SetAt.read {w : World} {a : Option Addr} {A : List Nat} (h : SetAt w a A) {k : Nat} (hk : k < A.length) : ∃ x, a = some x ∧ x.block < w.heap.size ∧ w.cell? (x.add k) = some (.int .u64 ((A.getD k 0 : Nat) : Int)) := by
  obtain ⟨x, hx, hb, hc⟩ := h (by rw [V_length]; omega)
  exact ⟨x, hx, hb, by rw [hc k (by rw [V_length]; exact hk), V_getD]⟩

set_option maxHeartbeats 2000000 in
theorem set_word (A : List Nat) (a : Option Addr) (n c k : Nat) (hn : A.length = n) (h1 : n ≤ 17592186044416) (hk : k ≤ 9223372036854775807) (w : World) (hz : SetAt w a A) :
    Calls Try.prog 47 #[.slice a n c, .int .i64 (k : Int)] w fun e w' => e = .returned (.int .u64 ((wd A k : Nat) : Int)) ∧ w = w' := by
  obtain ⟨X, hX⟩ : ∃ X, X = wd A k := ⟨_, rfl⟩
  rw [← hX]
  have HX := Lib.hid hX
  have HN := Lib.hid hn
  have HZ := Lib.hid hz
  clear hX hn hz
  by_cases h : k < n ∧ k < 64
  · obtain ⟨x, rfl, hx, hc⟩ := HZ.out.read (k := k) (by rw [HN.out]; exact h.1)
    have hc2 : w.cell? (x.add k) = some (.int .u64 (X : Int)) := by
      rw [hc, HX.out, wd, if_pos h.2]
    clear hc
    have ht : decide ((k : Int) < min (n : Int) 64) = true := by simp; omega
    have hk0 : (0 : Int) ≤ (k : Int) := by omega
    have hkn : (k : Int) < (n : Int) := by omega
    clear h
    go_enter Try.func47, Try.ntmps47
    go_wp2
    go_ret
    exact ⟨rfl, rfl⟩
  · have ht : decide ((k : Int) < min (n : Int) 64) = false := by simp; omega
    have HX0 := Lib.hid (show X = 0 by
      rw [HX.out]; unfold wd
      split
      · rw [List.getD_eq_getElem?_getD, List.getElem?_eq_none (by rw [HN.out]; omega)]; rfl
      · rfl)
    clear h
    go_enter Try.func47, Try.ntmps47
    go_wp2
    go_ret
    exact ⟨by rw [HX0.out]; rfl, rfl⟩
/-- A function value that works on two words. -/
def Op2 (fid : Nat) (f : Nat → Nat → Nat) : Prop := ∀ (x y : Nat) (W : World), x < 18446744073709551616 → y < 18446744073709551616 → Calls Try.prog fid #[.int .u64 (x : Int), .int .u64 (y : Int)] W fun e w' => e = .returned (.int .u64 ((f x y : Nat) : Int)) ∧ W = w'
theorem own_take {w : World} {base e k j : Nat} {a : Option Addr} {c : Nat} {xs : List Value} (h : w.ownsRow base e 1 (.slice a k c) k xs) (hj : j ≤ k) : w.ownsRow base e 1 (.slice a j c) j (xs.take j) := by
  refine ⟨by rw [List.length_take]; have := h.1; omega, ?_⟩
  rcases h.2 with ⟨h1, h2⟩ | ⟨g, cap, cur, h1, h2, h3, h4, h5, h6, h7⟩
  · injection h1 with q1 q2 q3
    have : j = 0 := by omega
    subst q1; subst q3; subst this
    exact .inl ⟨rfl, rfl⟩
  · injection h1 with q1 q2 q3
    subst q1; subst q3
    exact .inr ⟨g, c, cur, rfl, h2, h3, by omega, h5, h6, by rw [← h7, Nat.mul_one, Nat.mul_one, List.take_take, Nat.min_eq_left hj]⟩
theorem vints_V_take (A : List Nat) (j : Nat) : (vints .u64 (V A)).take j = vints .u64 (V (A.take j)) := by simp [vints, V, List.map_take]
def SetPost (A : List Nat) (n : Nat) (w : World) (e : Ending) (w' : World) : Prop := ∃ a c, e = .returned (.slice a n c) ∧ SetAt w' a A ∧ Below w.heap.size w w' ∧ (∀ x, a = some x → w.heap.size ≤ x.block ∧ x.block < w'.heap.size) ∧ w'.ownsRow w.heap.size 61 1 (.slice a n c) n (vints .u64 (V A))
theorem bits_andNot (x y : Nat) (hx : x < 18446744073709551616) (hy : y < 18446744073709551616) : bits .andNot .u64 (x : Int) (y : Int) = ((minus x y : Nat) : Int) := by
  have h1 : (BitVec.ofInt 64 (x : Int)).toNat = x := by
    rw [BitVec.ofInt_natCast, BitVec.toNat_ofNat]; exact Nat.mod_eq_of_lt (by omega)
  have h2 : (BitVec.ofInt 64 (y : Int)).toNat = y := by
    rw [BitVec.ofInt_natCast, BitVec.toNat_ofNat]; exact Nat.mod_eq_of_lt (by omega)
  have h3 := (bw_minus.2 x y hx hy).1
  show IntKind.u64.wrap ((BitVec.ofInt 64 (x : Int) &&& ~~~ BitVec.ofInt 64 (y : Int)).toNat : Int) = _
  rw [BitVec.toNat_and, BitVec.toNat_not, h1, h2]
  have e : 2 ^ 64 - 1 - y = 18446744073709551615 - y := rfl
  rw [e]
  exact W64.u_in _ h3
theorem op_or : Op2 67 (· ||| ·) := by
  intro x y W hx hy
  have h := W64.bits_or_u64 x y hx hy
  obtain ⟨z, hz⟩ : ∃ z, z = x ||| y := ⟨_, rfl⟩
  rw [← hz] at h
  show Calls Try.prog 67 #[.int .u64 (x : Int), .int .u64 (y : Int)] W fun e w' => e = .returned (.int .u64 ((x ||| y : Nat) : Int)) ∧ W = w'
  rw [← hz]
  clear hz
  go_enter Try.func67, Try.ntmps67
  go_wp2
  go_ret
  exact ⟨rfl, rfl⟩
theorem op_minus : Op2 68 minus := by
  intro x y W hx hy
  have h := bits_andNot x y hx hy
  obtain ⟨z, hz⟩ : ∃ z, z = minus x y := ⟨_, rfl⟩
  rw [← hz] at h ⊢
  clear hz
  go_enter Try.func68, Try.ntmps68
  go_wp2
  go_ret
  exact ⟨rfl, rfl⟩
theorem op_fst : Op2 49 (fun x _ => x) := by
  intro x y W hx hy
  show Calls Try.prog 49 #[.int .u64 (x : Int), .int .u64 (y : Int)] W fun e w' => e = .returned (.int .u64 (x : Int)) ∧ W = w'
  go_enter Try.func49, Try.ntmps49
  go_wp2
  go_ret
  exact ⟨rfl, rfl⟩

theorem vints_V_snoc (A : List Nat) (x : Nat) : vints .u64 (V A) ++ #[Value.int .u64 (x : Int)].toList = vints .u64 (V (A ++ [x])) := by simp [vints, V]
theorem take_getD {A : List Nat} {j : Nat} (h : j < A.length) : A.take (j + 1) = A.take j ++ [A.getD j 0] := by
  rw [List.take_succ_eq_append_getElem h, List.getD_eq_getElem?_getD, List.getElem?_eq_getElem h]; rfl
theorem SetAt.take {w : World} {a : Option Addr} {A : List Nat} (h : SetAt w a A) (j : Nat) : SetAt w a (A.take j) := by
  have := IntsAt.take h j
  unfold SetAt V
  rwa [List.map_take]

set_option maxHeartbeats 4000000 in
theorem sets_join (f : Nat → Nat → Nat) (g : Bool → Bool → Bool) (fid : Nat) (he : ∀ args w, (callFunc fid args).run Try.prog w = .ok (.enter fid args) w) (hop : Op2 fid f) (hf : Bw f g) (A B : List Nat) (a b : Option Addr) (n m ca cb : Nat) (hn : A.length = n) (hm : B.length = m) (h1 : n ≤ 17592186044416) (h2 : m ≤ 17592186044416) (ha : Words A) (hb : Words B) (w : World) (hza : SetAt w a A) (hzb : SetAt w b B) :
    Calls Try.prog 48 #[.slice a n ca, .slice b m cb, .func (.func fid) #[] #[]] w (SetPost (joinN f A B) (joinN f A B).length w) := by
  obtain ⟨M, hM⟩ : ∃ M, M = max n m := ⟨_, rfl⟩
  obtain ⟨N, hN⟩ : ∃ N, N = min M 64 := ⟨_, rfl⟩
  obtain ⟨R, hR⟩ : ∃ R, R = joinL f A B N := ⟨_, rfl⟩
  have hJ : joinN f A B = trim R := by unfold joinN; rw [hn, hm, ← hM, ← hN, ← hR]
  have hRl : R.length = N := by rw [hR, joinL_length]
  have hRw : Words R := by rw [hR]; exact joinL_words hf ha hb N
  rw [hJ]
  have e1 : max (n : Int) (m : Int) = (M : Int) := by omega
  have e2 : min (M : Int) 64 = (N : Int) := by omega
  have hN64 : N ≤ 64 := by omega
  have HN := Lib.hid hn
  have HM := Lib.hid hm
  have HA := Lib.hid ha
  have HB := Lib.hid hb
  have HZA := Lib.hid hza
  have HZB := Lib.hid hzb
  have HR := Lib.hid hR
  have HRL := Lib.hid hRl
  have HRW := Lib.hid hRw
  have HOP := Lib.hid hop
  have HF := Lib.hid hf
  clear hn hm ha hb hza hzb hR hRl hRw hop hf hJ hM hN
  go_enter Try.func48, Try.ntmps48
  go_wp2
  clear e1 e2
  go_loopg [7, 8, 15] N (fun gk v7 _ vi wx => ∃ k : Nat, k ≤ N ∧ gk = N - k ∧ vi = .int .i64 k ∧ wx.ownsRow w.heap.size 61 1 v7 k (vints .u64 (V (joinL f A B k))) ∧ Below w.heap.size w wx)
  case atStart => exact ⟨0, Nat.zero_le _, rfl, rfl, World.ownsRow_nil _ _ _ _, Below.refl _ _⟩
  case round =>
    obtain ⟨k, hk, g2, rfl, hown, hbw⟩ := hrel
    have G2 := Lib.hid g2
    have HOWN := Lib.hid hown
    clear g2 hown
    by_cases hlt : k < N
    · have cA := set_word A a n ca k HN.out h1 (by omega) wr (HZA.out.below hbw)
      have cB := set_word B b m cb k HM.out h2 (by omega) wr (HZB.out.below hbw)
      obtain ⟨x, hx⟩ : ∃ x, x = wd A k := ⟨_, rfl⟩
      obtain ⟨y, hy⟩ : ∃ y, y = wd B k := ⟨_, rfl⟩
      rw [← hx] at cA
      rw [← hy] at cB
      have hx64 : x < 18446744073709551616 := by rw [hx]; exact HA.out.wd k
      have hy64 : y < 18446744073709551616 := by rw [hy]; exact HB.out.wd k
      have cF := HOP.out x y wr hx64 hy64
      obtain ⟨z, hz⟩ : ∃ z, z = f x y := ⟨_, rfl⟩
      rw [← hz] at cF
      have HXY := Lib.hid (show z = f (wd A k) (wd B k) by rw [hz, hx, hy])
      have CA := Lib.hid cA
      have CB := Lib.hid cB
      have CF := Lib.hid cF
      clear hx hy hz cA cB cF hx64 hy64
      go_wp2_with fail
      refine CA.out.mono ?_
      rintro e w1 ⟨rfl, rfl⟩
      go_wp2_with fail
      refine CB.out.mono ?_
      rintro e w1 ⟨rfl, rfl⟩
      go_wp2_with fail
      refine CF.out.mono ?_
      rintro e w1 ⟨rfl, rfl⟩
      have HE := Lib.hid hbw.size
      go_wp2_with (at_builtin; go_must (refine wpList_append_new rfl _ _ 72 rfl w.heap.size 61 (.int .u64 0) 1 8 Try.underlying72 (by kernel_rfl) rfl (by decide) _ _ _ rfl HOWN.out _ _ rfl rfl rfl (by omega) (by decide) HE.out ?_))
      intro g2 cap w2 hown2 hg2 _ _
      rw [vints_V_snoc, HXY.out, ← joinL_succ] at hown2
      have hb2 : Below w.heap.size w w2 := hbw.grown hg2 HE.out (fun j hj => (own_lt HOWN.out j hj).1)
      have HOWN2 := Lib.hid hown2
      clear hown2 hg2
      go_wp2_with fail
      go_roundg (N - (k + 1))
      case measure => rw [G2.out]; omega
      case rel => exact ⟨k + 1, by omega, rfl, by go_num, HOWN2.out, hb2⟩
    · obtain rfl : k = N := by omega
      have hown := HOWN.out
      rw [← HR.out] at hown
      obtain ⟨r, cr, rfl⟩ := own_slice hown
      have hz : SetAt wr r R := IntsAt.of_own hown (by rw [V_length, HRL.out])
      have hcap : k ≤ cr := by
        rcases Nat.eq_zero_or_pos k with h0 | h0
        · omega
        · rcases hown.2 with ⟨_, h9⟩ | ⟨g0, c0, _, he0, _, _, hc0, _⟩
          · omega
          · have he1 : cr = c0 := by injection he0
            omega
      have HZ := Lib.hid hz
      have HFR := Lib.hid (show ∀ x, r = some x → w.heap.size ≤ x.block ∧ x.block < wr.heap.size from fun x hx => own_lt hown x.block (by rw [hx]; rfl))
      have HOW := Lib.hid hown
      clear hown hz HOWN HR
      obtain ⟨wo, rfl⟩ : ∃ wo : World, wo = wr := ⟨_, rfl⟩
      go_wp2_with fail
      go_loopg [7] k (fun gk v7 wx => ∃ j : Nat, j ≤ k ∧ gk = j ∧ v7 = .slice r j cr ∧ trim (R.take j) = trim R ∧ wo = wx)
      case atStart => exact ⟨k, Nat.le_refl _, rfl, rfl, by rw [List.take_of_length_le (by rw [HRL.out]; omega)], rfl⟩
      case round =>
        obtain ⟨j, hj, g2, rfl, ht, rfl⟩ := hrel
        have G3 := Lib.hid g2
        have HT := Lib.hid ht
        clear g2 ht
        rcases j with _ | j
        · have hp := Lib.hid (show trim R = [] by rw [← HT.out]; rfl)
          go_wp2_with fail
          go_ret
          exact ⟨r, cr, by rw [hp.out]; rfl, by rw [hp.out]; exact SetAt.nil _ _, hbw, HFR.out, by rw [hp.out]; have := own_take HOW.out (Nat.zero_le k); simpa [vints, V] using this⟩
        · obtain ⟨x, rfl, hx, hc⟩ := HZ.out.read (k := j) (by rw [HRL.out]; omega)
          have hsn := take_getD (A := R) (j := j) (by rw [HRL.out]; omega)
          obtain ⟨X, hX⟩ : ∃ X, X = R.getD j 0 := ⟨_, rfl⟩
          rw [← hX] at hc hsn
          have HX := Lib.hid hX
          have HSN := Lib.hid hsn
          have ej : ((j + 1 : Nat) : Int) - 1 = (j : Int) := by omega
          have j0 : (0 : Int) ≤ (j : Int) := by omega
          have j1 : (j : Int) < ((j + 1 : Nat) : Int) := by omega
          have j2 : (0 : Int) < ((j + 1 : Nat) : Int) := by omega
          clear hX hsn
          by_cases h0 : X = 0
          · subst h0
            have ht0 : (((0 : Nat) : Int) == 0) = true := rfl
            have HT2 := Lib.hid (show trim (R.take j) = trim R by rw [← HT.out, HSN.out, trim_zero])
            go_wp2_with fail
            go_roundg j
            case measure => rw [G3.out]; omega
            case rel => exact ⟨j, by omega, rfl, by go_num, HT2.out, rfl⟩
          · have ht0 : ((X : Int) == 0) = false := by rw [beq_eq_false_iff_ne]; omega
            have HT2 := Lib.hid (show trim R = R.take (j + 1) by rw [← HT.out, HSN.out, trim_more _ _ h0])
            have HLN := Lib.hid (show (trim R).length = j + 1 by rw [HT2.out, List.length_take, HRL.out]; omega)
            have HZ2 := Lib.hid (show SetAt wo (some x) (trim R) by rw [HT2.out]; exact HZ.out.take _)
            clear h0
            go_wp2_with fail
            go_ret
            exact ⟨_, cr, by rw [HLN.out]; rfl, HZ2.out, hbw, HFR.out, by
              have h9 := own_take HOW.out hj
              rw [vints_V_take] at h9
              rw [HLN.out, HT2.out]; exact h9⟩
theorem SetPost.n {A : List Nat} {n m : Nat} {w : World} {e : Ending} {w' : World} (h : SetPost A n w e w') (hn : n = m) : SetPost A m w e w' := hn ▸ h
theorem en_or : ∀ args w, (callFunc 67 args).run Try.prog w = .ok (.enter 67 args) w := enters_of Try.func67 (by kernel_rfl) rfl
theorem en_minus : ∀ args w, (callFunc 68 args).run Try.prog w = .ok (.enter 68 args) w := enters_of Try.func68 (by kernel_rfl) rfl
theorem en_fst : ∀ args w, (callFunc 49 args).run Try.prog w = .ok (.enter 49 args) w := enters_of Try.func49 (by kernel_rfl) rfl
def SetRes (A : List Nat) (w : World) (e : Ending) (w' : World) : Prop := ∃ a n c, A.length = n ∧ e = .returned (.slice a n c) ∧ SetAt w' a A ∧ Below w.heap.size w w' ∧ w'.ownsRow w.heap.size 61 1 (.slice a n c) n (vints .u64 (V A))
theorem SetPost.res {A : List Nat} {w : World} {e : Ending} {w' : World} (h : SetPost A A.length w e w') : SetRes A w e w' := by
  obtain ⟨a, c, rfl, h1, h2, _, h3⟩ := h
  exact ⟨a, _, c, rfl, rfl, h1, h2, h3⟩

theorem sets_Either (A B : List Nat) (a b : Option Addr) (n m ca cb : Nat) (hn : A.length = n) (hm : B.length = m) (h1 : n ≤ 17592186044416) (h2 : m ≤ 17592186044416) (ha : Words A) (hb : Words B) (w : World) (hza : SetAt w a A) (hzb : SetAt w b B) :
    Calls Try.prog 45 #[.slice a n ca, .slice b m cb] w (SetRes (joinN (· ||| ·) A B) w) := by
  have CJ := Lib.hid (sets_join _ _ _ en_or op_or bw_or A B a b n m ca cb hn hm h1 h2 ha hb w hza hzb)
  clear hn hm ha hb hza hzb
  go_enter Try.func45, Try.ntmps45
  go_wp2_with fail
  refine CJ.out.mono ?_
  rintro e w1 hp
  obtain ⟨r, k, c, h3, rfl, h4, h5, h6⟩ := hp.res
  have H6 := Lib.hid h6
  clear h6
  go_wp2_with fail
  go_ret
  exact ⟨r, k, c, h3, rfl, h4, h5, H6.out⟩
theorem sets_Minus (A B : List Nat) (a b : Option Addr) (n m ca cb : Nat) (hn : A.length = n) (hm : B.length = m) (h1 : n ≤ 17592186044416) (h2 : m ≤ 17592186044416) (ha : Words A) (hb : Words B) (w : World) (hza : SetAt w a A) (hzb : SetAt w b B) :
    Calls Try.prog 51 #[.slice a n ca, .slice b m cb] w (SetRes (joinN minus A B) w) := by
  have CJ := Lib.hid (sets_join _ _ _ en_minus op_minus bw_minus A B a b n m ca cb hn hm h1 h2 ha hb w hza hzb)
  clear hn hm ha hb hza hzb
  go_enter Try.func51, Try.ntmps51
  go_wp2_with fail
  refine CJ.out.mono ?_
  rintro e w1 hp
  obtain ⟨r, k, c, h3, rfl, h4, h5, h6⟩ := hp.res
  have H6 := Lib.hid h6
  clear h6
  go_wp2_with fail
  go_ret
  exact ⟨r, k, c, h3, rfl, h4, h5, H6.out⟩

set_option maxHeartbeats 2000000 in
theorem sets_one (i : Int) (w : World) : Calls Try.prog 46 #[.int .i64 i] w (SetRes (oneN i) w) := by
  by_cases h1 : i < 0
  · have hp := Lib.hid (show oneN i = [] by unfold oneN; rw [if_pos (.inl h1)])
    go_enter Try.func46, Try.ntmps46
    go_wp2_with fail
    go_ret
    exact ⟨none, 0, 0, by rw [hp.out]; rfl, rfl, by rw [hp.out]; exact SetAt.nil _ _, Below.refl _ _, by rw [hp.out]; exact ⟨rfl, .inl ⟨rfl, rfl⟩⟩⟩
  · by_cases h2 : 4096 ≤ i
    · have hp := Lib.hid (show oneN i = [] by unfold oneN; rw [if_pos (.inr h2)])
      go_enter Try.func46, Try.ntmps46
      go_wp2_with fail
      go_ret
      exact ⟨none, 0, 0, by rw [hp.out]; rfl, rfl, by rw [hp.out]; exact SetAt.nil _ _, Below.refl _ _, by rw [hp.out]; exact ⟨rfl, .inl ⟨rfl, rfl⟩⟩⟩
    · obtain ⟨q, hq⟩ : ∃ q, q = i.toNat / 64 := ⟨_, rfl⟩
      obtain ⟨r, hr⟩ : ∃ r, r = i.toNat % 64 := ⟨_, rfl⟩
      have hr64 : r < 64 := by omega
      have hq64 : q < 64 := by omega
      have eq1 : i / 64 = (q : Int) := by omega
      have er1 : i % 64 = (r : Int) := by omega
      have hpw := lt64 hr64
      obtain ⟨X, hX⟩ : ∃ X, X = 2 ^ r := ⟨_, rfl⟩
      have hp : oneN i = (List.replicate (q + 1) 0).set q X := by
        unfold oneN
        rw [if_neg (by omega), ← hq, ← hr, ← hX, List.replicate_succ', List.set_append_right _ _ (by simp)]
        simp
      rw [hp]
      have HX := Lib.hid hX
      obtain ⟨n, hn0⟩ : ∃ n, n = q + 1 := ⟨_, rfl⟩
      rw [← hn0]
      have hn : (q : Int) + 1 = (n : Int) := by omega
      have HN0 := Lib.hid hn0
      clear hq hr hX hp hn0
      go_enter Try.func46, Try.ntmps46
      go_wp2_with (at_make; go_must (refine wpList_make_rowB rfl _ _ 72 rfl 61 .u64 8 Try.underlying72 (by kernel_rfl) _ _ _ _ n rfl rfl rfl rfl ?b1 ?b2 ?_))
      case b1 => omega
      case b2 => unfold maxLen; omega
      intro w1 hro hb1 hz1
      have e1 := hro.cell q (by simp; omega)
      have e2 := hro.frozen q
      have HRO := Lib.hid hro
      clear hro hz1
      go_wp2_with fail
      go_ret
      have hv : IntKind.u64.wrap (2 ^ r) = (X : Int) := by
        have e : ((2 : Int) ^ r) = ((2 ^ r : Nat) : Int) := by simp
        rw [e, W64.u_in _ hpw, HX.out]
      rw [hv]
      have hs := (HRO.out.set q (X : Int)).ints
      have e : V ((List.replicate n 0).set q X) = (List.replicate n (0 : Int)).set q (X : Int) := by simp [V, List.map_set]
      refine ⟨_, n, n, by simp, rfl, by unfold SetAt; rw [e]; exact hs, hb1.setCell (by simp) _, ?_⟩
      rw [e]
      have hrow := HRO.out.set q (X : Int)
      refine ⟨by simp [vints], .inr ⟨w.heap.size, n, _, rfl, Nat.le_refl _, hrow, Nat.le_refl _, by have := HN0.out; unfold maxLen; omega, by simp [vints], ?_⟩⟩
      rw [Nat.mul_one]
      exact List.take_of_length_le (by simp [vints])

theorem len64 {A : List Nat} (h : Canon A) : A.length ≤ 64 := h.1
theorem sets_With (A : List Nat) (a : Option Addr) (n ca : Nat) (hn : A.length = n) (h1 : n ≤ 17592186044416) (ha : Words A) (i : Int) (w : World) (hza : SetAt w a A) :
    Calls Try.prog 24 #[.slice a n ca, .int .i64 i] w (SetRes (withN A i) w) := by
  have HN := Lib.hid hn
  have HA := Lib.hid ha
  have HZ := Lib.hid hza
  clear hn ha hza
  go_enter Try.func24, Try.ntmps24
  go_wp2_with fail
  refine (sets_one i w).mono ?_
  rintro e w1 ⟨b, m, cb, h3, rfl, h4, h5, _⟩
  have HE := Lib.hid (sets_Either A (oneN i) a b n m ca cb HN.out h3 h1 (by have := len64 (one_canon i); omega) HA.out (one_canon i).2.1 w1 (HZ.out.below h5) h4)
  have HB := Lib.hid h5
  clear h3 h4 h5
  go_wp2_with fail
  refine HE.out.mono ?_
  rintro e w2 ⟨r, k, c, h3, rfl, h4, h5, h6⟩
  have H3 := Lib.hid h3
  have H6 := Lib.hid (own_lower h6 HB.out.size)
  clear h3 h6
  go_wp2_with fail
  go_ret
  exact ⟨r, k, c, H3.out, rfl, h4, bt HB.out h5, H6.out⟩
theorem sets_Without (A : List Nat) (a : Option Addr) (n ca : Nat) (hn : A.length = n) (h1 : n ≤ 17592186044416) (ha : Words A) (i : Int) (w : World) (hza : SetAt w a A) :
    Calls Try.prog 27 #[.slice a n ca, .int .i64 i] w (SetRes (joinN minus A (oneN i)) w) := by
  have HN := Lib.hid hn
  have HA := Lib.hid ha
  have HZ := Lib.hid hza
  clear hn ha hza
  go_enter Try.func27, Try.ntmps27
  go_wp2_with fail
  refine (sets_one i w).mono ?_
  rintro e w1 ⟨b, m, cb, h3, rfl, h4, h5, _⟩
  have HE := Lib.hid (sets_Minus A (oneN i) a b n m ca cb HN.out h3 h1 (by have := len64 (one_canon i); omega) HA.out (one_canon i).2.1 w1 (HZ.out.below h5) h4)
  have HB := Lib.hid h5
  clear h3 h4 h5
  go_wp2_with fail
  refine HE.out.mono ?_
  rintro e w2 ⟨r, k, c, h3, rfl, h4, h5, h6⟩
  have H3 := Lib.hid h3
  have H6 := Lib.hid (own_lower h6 HB.out.size)
  clear h3 h6
  go_wp2_with fail
  go_ret
  exact ⟨r, k, c, H3.out, rfl, h4, bt HB.out h5, H6.out⟩
set_option maxHeartbeats 2000000 in
theorem sets_Has (A : List Nat) (a : Option Addr) (n c : Nat) (hn : A.length = n) (h1 : n ≤ 17592186044416) (ha : Words A) (i : Int) (hi : i ≤ 9223372036854775807) (w : World) (hz : SetAt w a A) :
    Calls Try.prog 25 #[.slice a n c, .int .i64 i] w fun e w' => e = .returned (.bool (decide (0 ≤ i) && bit A i.toNat)) ∧ w = w' := by
  by_cases h0 : 0 ≤ i
  · obtain ⟨q, hq⟩ : ∃ q, q = i.toNat / 64 := ⟨_, rfl⟩
    obtain ⟨r, hr⟩ : ∃ r, r = i.toNat % 64 := ⟨_, rfl⟩
    have eq1 : i / 64 = (q : Int) := by omega
    have er1 : i % 64 = (r : Int) := by omega
    obtain ⟨X, hX⟩ : ∃ X, X = wd A q := ⟨_, rfl⟩
    have hb : (decide (0 ≤ i) && bit A i.toNat) = X.testBit r := by
      rw [decide_eq_true h0]; unfold bit; rw [← hq, ← hr, ← hX]; rfl
    rw [hb]
    have HX := Lib.hid hX
    have HN := Lib.hid hn
    have HZ := Lib.hid hz
    have CW := Lib.hid (set_word A a n c q HN.out h1 (by omega) w HZ.out)
    rw [← HX.out] at CW
    have hr64 : r < 64 := by omega
    have hX64 : X < 18446744073709551616 := by rw [HX.out]; exact ha.wd q
    obtain ⟨Y, hY⟩ : ∃ Y, Y = X / 2 ^ r := ⟨_, rfl⟩
    have hY64 : Y < 18446744073709551616 := by rw [hY]; exact Nat.lt_of_le_of_lt (Nat.div_le_self _ _) hX64
    have eY : (X : Int) / 2 ^ r = (Y : Int) := by rw [hY]; simp
    have hand := W64.bits_and_u64 Y 1 hY64 (by omega)
    rw [Nat.and_one_is_mod, hY, bit_num, ← hY] at hand
    clear hq hr hX hn hz hb hY
    obtain ⟨b, hb⟩ : ∃ b, b = X.testBit r := ⟨_, rfl⟩
    rw [← hb] at hand ⊢
    clear hb
    cases b
    · have hand2 : bits .and .u64 (Y : Int) 1 = 0 := hand
      clear hand
      go_enter Try.func25, Try.ntmps25
      go_wp2_with fail
      refine CW.out.mono ?_
      rintro e w1 ⟨rfl, rfl⟩
      go_wp2_with fail
      go_ret
      exact ⟨rfl, rfl⟩
    · have hand2 : bits .and .u64 (Y : Int) 1 = 1 := hand
      clear hand
      go_enter Try.func25, Try.ntmps25
      go_wp2_with fail
      refine CW.out.mono ?_
      rintro e w1 ⟨rfl, rfl⟩
      go_wp2_with fail
      go_ret
      exact ⟨rfl, rfl⟩
  · have hd : (decide (0 ≤ i) && bit A i.toNat) = false := by rw [decide_eq_false h0]; rfl
    rw [hd]
    clear hd
    go_enter Try.func25, Try.ntmps25
    go_wp2_with fail
    go_ret
    exact ⟨rfl, rfl⟩
end Go.Proofs.Ytpilpkbblkhnaaa
end
