/- Slots: the plain laws. -/
import Derived.Test.YtlahmcbaiebapaaSetP
import Derived.Test.YtlahmcbaiebapaaMem2
namespace Go.Slt
open Go.Sp Go.Mem
abbrev M30 : Int := 1073741824
/-- A slot that is free. -/
def av (G : List Int) (B : List Bool) (i : Nat) : Bool := decide (i < G.length) && (!(B.getD i false) && decide (G.getD i 0 < M30))
/-- The slots' sets, and the list of which are in use. -/
structure SI (G : List Int) (B : List Bool) (U F : List Nat) : Prop where
  len : B.length = G.length
  small : G.length ≤ 256
  lo : ∀ i, i < G.length → 0 ≤ G.getD i 0 ∧ G.getD i 0 ≤ M30
  used : ∀ i, bit U i = B.getD i false
  free : ∀ i, bit F i = av G B i
  live : ∀ i, B.getD i false = true → G.getD i 0 < M30
  cu : Canon U
  cf : Canon F
/-- The least slot that is free, or a new one. -/
structure Least (G : List Int) (B : List Bool) (n : Nat) : Prop where
  le : n ≤ G.length
  is : n < G.length → av G B n = true
  min : ∀ j, j < n → av G B j = false
theorem least_ex (G : List Int) (B : List Bool) : ∃ n, Least G B n := by
  have key : ∀ d m, m + d = G.length → (∀ j, j < m → av G B j = false) → ∃ n, Least G B n := by
    intro d
    induction d with
    | zero => exact fun m hm h => ⟨m, by omega, fun h2 => by omega, h⟩
    | succ d ih =>
      intro m hm h
      cases ha : av G B m
      · exact ih (m + 1) (by omega) fun j hj => by
          rcases Nat.lt_or_eq_of_le (Nat.le_of_lt_succ hj) with h2 | h2
          · exact h j h2
          · rw [h2]; exact ha
      · exact ⟨m, by omega, fun _ => ha, h⟩
  exact key G.length 0 (by omega) fun j hj => by omega
theorem least_uniq {G : List Int} {B : List Bool} {n m : Nat} (h : Least G B n) (k : Least G B m) : n = m := by
  rcases Nat.lt_trichotomy n m with q | q | q
  · have h1 := h.is (by have := k.le; omega)
    rw [k.min n q] at h1; cases h1
  · exact q
  · have h1 := k.is (by have := h.le; omega)
    rw [h.min m q] at h1; cases h1
def takeG (G : List Int) (n : Nat) : List Int := if n = G.length then G ++ [0] else G
def takeB (B : List Bool) (n : Nat) : List Bool := if n = B.length then B ++ [true] else B.set n true
theorem getD_app {α : Type} (L : List α) (x d : α) (i : Nat) : (L ++ [x]).getD i d = if i = L.length then x else L.getD i d := by
  rw [List.getD_eq_getElem?_getD, List.getD_eq_getElem?_getD, List.getElem?_append]
  by_cases h : i < L.length
  · rw [if_pos h, if_neg (by omega)]
  · rw [if_neg h]
    by_cases h2 : i = L.length
    · subst h2; simp
    · rw [if_neg h2, List.getElem?_eq_none (by simp; omega), List.getElem?_eq_none (by omega)]
theorem getD_set' {α : Type} (L : List α) (x d : α) (k i : Nat) (hk : k < L.length) : (L.set k x).getD i d = if i = k then x else L.getD i d := by
  rw [List.getD_eq_getElem?_getD, List.getD_eq_getElem?_getD, List.getElem?_set]
  by_cases h : k = i
  · subst h; simp [hk]
  · rw [if_neg h, if_neg (fun e => h e.symm)]
theorem takeG_len (G : List Int) (n : Nat) : (takeG G n).length = if n = G.length then G.length + 1 else G.length := by
  unfold takeG; split <;> simp
theorem takeB_len (B : List Bool) (n : Nat) : (takeB B n).length = if n = B.length then B.length + 1 else B.length := by
  unfold takeB; split <;> simp
theorem takeG_get (G : List Int) (n i : Nat) : (takeG G n).getD i 0 = G.getD i 0 := by
  unfold takeG
  split
  · rw [getD_app]
    split
    · subst i; simp
    · rfl
  · rfl
theorem takeB_get (B : List Bool) (n i : Nat) (hn : n ≤ B.length) : (takeB B n).getD i false = (B.getD i false || decide (i = n)) := by
  unfold takeB
  split
  · subst n
    rw [getD_app]
    by_cases h : i = B.length
    · subst h; simp
    · simp [h]
  · rw [getD_set' _ _ _ _ _ (by omega)]
    by_cases h : i = n
    · subst h; simp
    · simp [h]
theorem bit_without {A : List Nat} (h : Words A) (i : Int) (j : Nat) : bit (joinN minus A (oneN i)) j = (bit A j && !decide ((j : Int) = i)) := by
  rw [bit_join bw_minus h (one_canon i).2.1]
  by_cases hj : j < 4096
  · rw [bit_one i j hj]
  · cases hb : bit A j
    · rfl
    · exact absurd (bit_lt hb) hj
theorem bit_withI {A : List Nat} (h : Words A) (i : Int) (hi : i < 4096) (j : Nat) : bit (withN A i) j = (bit A j || decide ((j : Int) = i)) := by
  by_cases hj : j < 4096
  · exact bit_with h i j hj
  · have h1 : bit (withN A i) j = false := by
      cases hb : bit (withN A i) j
      · rfl
      · exact absurd (bit_lt hb) hj
    have h2 : bit A j = false := by
      cases hb : bit A j
      · rfl
      · exact absurd (bit_lt hb) hj
    rw [h1, h2]
    have : ¬ ((j : Int) = i) := by omega
    simp [this]
theorem getD_over {α : Type} {L : List α} {d : α} {i : Nat} (h : L.length ≤ i) : L.getD i d = d := by
  rw [List.getD_eq_getElem?_getD, List.getElem?_eq_none h]; rfl
/-- A slot taken. -/
theorem take_si {G : List Int} {B : List Bool} {U F : List Nat} {n : Nat} (h : SI G B U F) (hn : Least G B n) (h256 : n ≠ 256) :
    SI (takeG G n) (takeB B n) (withN U (n : Int)) (joinN minus F (oneN (n : Int))) := by
  have hle := hn.le
  have hs := h.small
  have hl := h.len
  refine ⟨?_, ?_, ?_, ?_, ?_, ?_, with_canon h.cu.2.1 _, joinN_canon bw_minus h.cf.2.1 (one_canon _).2.1⟩
  · rw [takeG_len, takeB_len, hl]
  · rw [takeG_len]; split <;> omega
  · intro i hi
    rw [takeG_get]
    by_cases h1 : i < G.length
    · exact h.lo i h1
    · rw [getD_over (by omega)]; decide
  · intro i
    rw [bit_withI h.cu.2.1 _ (by omega), h.used, takeB_get _ _ _ (by omega)]
    congr 1
    exact decide_eq_decide.2 (by omega)
  · intro i
    rw [bit_without h.cf.2.1, h.free]
    unfold av
    rw [takeG_get, takeB_get _ _ _ (by omega), takeG_len]
    have e : decide ((i : Int) = (n : Int)) = decide (i = n) := decide_eq_decide.2 (by omega)
    rw [e]
    by_cases h1 : i = n
    · subst h1; simp
    · have e2 : decide (i < if n = G.length then G.length + 1 else G.length) = decide (i < G.length) := decide_eq_decide.2 (by split <;> omega)
      rw [e2]; simp [h1]
  · intro i hi
    rw [takeB_get _ _ _ (by omega)] at hi
    rw [takeG_get]
    by_cases h1 : i = n
    · subst h1
      by_cases h2 : i < G.length
      · have := hn.is h2
        unfold av at this
        simp at this
        exact this.2.2
      · rw [getD_over (by omega)]; decide
    · exact h.live i (by simpa [h1] using hi)
/-- What lives. -/
def alive (G : List Int) (B : List Bool) (N g : Int) : Bool := decide (0 ≤ N) && (B.getD N.toNat false && decide (G.getD N.toNat 0 = g))
def freeG (G : List Int) (n : Nat) : List Int := G.set n (G.getD n 0 + 1)
def freeB (B : List Bool) (n : Nat) : List Bool := B.set n false
def freeF (G : List Int) (F : List Nat) (n : Nat) : List Nat := if G.getD n 0 + 1 < M30 then withN F (n : Int) else F
theorem free_si {G : List Int} {B : List Bool} {U F : List Nat} {n : Nat} (h : SI G B U F) (hb : B.getD n false = true) :
    SI (freeG G n) (freeB B n) (joinN minus U (oneN (n : Int))) (freeF G F n) := by
  have hs := h.small
  have hl := h.len
  have hn : n < B.length := by
    rcases Nat.lt_or_ge n B.length with q | q
    · exact q
    · rw [getD_over q] at hb; cases hb
  have hlv := h.live n hb
  have hlo := h.lo n (by omega)
  have gF : ∀ i, (freeG G n).getD i 0 = if i = n then G.getD n 0 + 1 else G.getD i 0 := fun i => getD_set' _ _ _ _ _ (by omega)
  have gB : ∀ i, (freeB B n).getD i false = if i = n then false else B.getD i false := fun i => getD_set' _ _ _ _ _ (by omega)
  have lG : (freeG G n).length = G.length := by simp [freeG]
  have dn : ∀ i : Nat, decide ((i : Int) = (n : Int)) = decide (i = n) := fun i => decide_eq_decide.2 (by omega)
  refine ⟨by simp [freeG, freeB, hl], by rw [lG]; exact hs, ?_, ?_, ?_, ?_, joinN_canon bw_minus h.cu.2.1 (one_canon _).2.1, ?_⟩
  · intro i hi
    rw [gF]
    split
    · omega
    · exact h.lo i (by omega)
  · intro i
    rw [bit_without h.cu.2.1, h.used, gB, dn]
    by_cases h1 : i = n
    · simp [h1]
    · simp [h1]
  · intro i
    have e : av (freeG G n) (freeB B n) i = if i = n then decide (G.getD n 0 + 1 < M30) else av G B i := by
      unfold av
      rw [gF, gB, lG]
      by_cases h1 : i = n
      · subst h1
        rw [if_pos rfl, if_pos rfl, if_pos rfl]
        have : decide (i < G.length) = true := by simp; omega
        rw [this]; rfl
      · rw [if_neg h1, if_neg h1, if_neg h1]
    rw [e]
    unfold freeF
    split
    · rename_i h2
      rw [bit_withI h.cf.2.1 _ (by omega), h.free, dn]
      by_cases h1 : i = n
      · rw [if_pos h1, decide_eq_true h1, decide_eq_true h2]; simp
      · simp [h1]
    · rename_i h2
      rw [h.free]
      by_cases h1 : i = n
      · subst h1
        unfold av
        rw [hb, if_pos rfl, decide_eq_false h2]
        simp
      · rw [if_neg h1]
  · intro i hi
    rw [gB] at hi
    rw [gF]
    by_cases h1 : i = n
    · rw [if_pos h1] at hi; cases hi
    · rw [if_neg h1] at hi ⊢
      exact h.live i hi
  · unfold freeF
    split
    · exact with_canon h.cf.2.1 _
    · exact h.cf
/-- The elements in use. -/
def live (B : List Bool) : List Nat := (List.range B.length).filter fun i => B.getD i false
theorem upto_cut {A : List Nat} {p : Nat → Bool} {n : Nat} (hn : n ≤ 4096) (h : ∀ i, bit A i = (decide (i < n) && p i)) : els A = (List.range n).filter p := by
  have h1 : upto A 4096 = upto A n := upto_to hn fun i h2 _ => by rw [h i]; simp; omega
  show upto A 4096 = _
  rw [h1]
  unfold upto
  refine List.filter_congr fun i hi => ?_
  rw [h i]; simp [List.mem_range.1 hi]
theorem els_used {G : List Int} {B : List Bool} {U F : List Nat} (h : SI G B U F) : els U = live B := by
  refine upto_cut (by have := h.small; have := h.len; omega) fun i => ?_
  rw [h.used]
  by_cases h1 : i < B.length
  · simp [h1]
  · rw [getD_over (by omega)]; simp
theorem els_free {G : List Int} {B : List Bool} {U F : List Nat} (h : SI G B U F) : els F = (List.range G.length).filter (av G B) := by
  refine upto_cut (by have := h.small; omega) fun i => ?_
  rw [h.free]; unfold av
  cases decide (i < G.length) <;> rfl
theorem free_least {G : List Int} {B : List Bool} {U F : List Nat} (h : SI G B U F) {n : Nat} (hn : Least G B n) : (els F = [] → n = G.length) ∧ (∀ x t, els F = x :: t → n = x ∧ x < G.length) := by
  rw [els_free h]
  constructor
  · intro he
    rcases Nat.lt_or_eq_of_le hn.le with q | q
    · have := List.filter_eq_nil_iff.1 he n (List.mem_range.2 q)
      exact absurd (hn.is q) this
    · exact q
  · intro x t he
    have hx : x ∈ (List.range G.length).filter (av G B) := by rw [he]; exact List.mem_cons_self ..
    obtain ⟨h1, h2⟩ := List.mem_filter.1 hx
    have h1 := List.mem_range.1 h1
    refine ⟨?_, h1⟩
    refine least_uniq hn ⟨by omega, fun _ => h2, fun j hj => ?_⟩
    cases ha : av G B j
    · rfl
    · have hs : ((List.range G.length).filter (av G B)).Pairwise (· < ·) := List.pairwise_lt_range.filter _
      have hm : j ∈ (List.range G.length).filter (av G B) := List.mem_filter.2 ⟨List.mem_range.2 (by omega), ha⟩
      rw [he] at hs hm
      rcases List.mem_cons.1 hm with h3 | h3
      · omega
      · have := (List.pairwise_cons.1 hs).1 j h3
        omega
/-- The errors of Of. -/
def bad (G : List Int) (n : Int) : Bool := decide (n < 0) || (decide ((G.length : Int) ≤ n) || decide (G.getD n.toNat 0 = M30))
def errs (G : List Int) (p : Int) : List Int → Int
  | [] => 0
  | n :: t => if bad G n = true then 1 else if n ≤ p then 9 else errs G n t
def badG (G : List Int) : Bool := G.any fun g => decide (g < 0) || decide (M30 < g)
def ofE (G L : List Int) : Int := if 256 < G.length then 2 else if badG G = true then 1 else errs G (-1) L
/-- Which are in use, behind Of. -/
def ofB (G L : List Int) : List Bool := (List.range G.length).map fun (i : Nat) => L.contains (i : Int)
theorem errs_drop (G L : List Int) (p : Int) (k : Nat) (h : k < L.length) : errs G p (L.drop k) = if bad G (L.getD k 0) = true then 1 else if L.getD k 0 ≤ p then 9 else errs G (L.getD k 0) (L.drop (k + 1)) := by
  have e : L.drop k = L.getD k 0 :: L.drop (k + 1) := by
    rw [List.drop_eq_getElem_cons h, List.getD_eq_getElem?_getD, List.getElem?_eq_getElem h]; rfl
  rw [e]; rfl
theorem errs_ok {G : List Int} : ∀ {L : List Int} {p : Int}, errs G p L = 0 → ∀ n ∈ L, bad G n = false
  | [], _, _, n, hn => by cases hn
  | m :: t, p, h, n, hn => by
    unfold errs at h
    by_cases hb : bad G m = true
    · rw [if_pos hb] at h; cases h
    · rw [if_neg hb] at h
      by_cases hp : m ≤ p
      · rw [if_pos hp] at h; cases h
      · rw [if_neg hp] at h
        rcases List.mem_cons.1 hn with e | e
        · rw [e]; exact Bool.eq_false_iff.2 hb
        · exact errs_ok h n e
theorem ofB_get (G L : List Int) (i : Nat) : (ofB G L).getD i false = (decide (i < G.length) && L.contains (i : Int)) := by
  unfold ofB
  by_cases h : i < G.length
  · rw [List.getD_eq_getElem?_getD, List.getElem?_map, List.getElem?_range h, decide_eq_true h]; rfl
  · rw [getD_over (by simp; omega), decide_eq_false h]; rfl
theorem ofB_len (G L : List Int) : (ofB G L).length = G.length := by simp [ofB]
theorem ofB_nil (G : List Int) : ofB G [] = List.replicate G.length false := by
  unfold ofB
  refine List.ext_getElem (by simp) fun i h1 h2 => ?_
  simp
theorem take_snoc (L : List Int) (k : Nat) (h : k < L.length) : L.take (k + 1) = L.take k ++ [L.getD k 0] := by
  rw [List.take_succ_eq_append_getElem h, List.getD_eq_getElem?_getD, List.getElem?_eq_getElem h]; rfl
theorem ofB_set (G L : List Int) (k n : Nat) (h : k < L.length) (hn : L.getD k 0 = (n : Int)) (hl : n < G.length) : (ofB G (L.take k)).set n true = ofB G (L.take (k + 1)) := by
  refine List.ext_getElem (by simp [ofB]) fun i h1 h2 => ?_
  have e1 : ((ofB G (L.take k)).set n true).getD i false = (ofB G (L.take (k + 1))).getD i false := by
    rw [getD_set' _ _ _ _ _ (by rw [ofB_len]; exact hl), ofB_get, ofB_get, take_snoc L k h, hn]
    by_cases hi : i = n
    · subst hi; simp [hl]
    · have : ¬ ((i : Int) = (n : Int)) := by omega
      simp [hi, this]
  rw [List.getD_eq_getElem?_getD, List.getD_eq_getElem?_getD, List.getElem?_eq_getElem h1, List.getElem?_eq_getElem h2] at e1
  exact e1
theorem ofN_snoc (L : List Int) (k : Nat) (h : k < L.length) : withN (ofN (L.take k)) (L.getD k 0) = ofN (L.take (k + 1)) := by
  rw [take_snoc L k h]; unfold ofN; rw [List.foldl_append]; rfl
/-- The free slots, as Of finds them. -/
def fF (G : List Int) (B : List Bool) (k : Nat) : List Nat := (List.range k).foldl (fun F i => if av G B i = true then withN F (i : Int) else F) []
theorem fF_succ (G : List Int) (B : List Bool) (k : Nat) : fF G B (k + 1) = if av G B k = true then withN (fF G B k) (k : Int) else fF G B k := by
  unfold fF; rw [List.range_succ, List.foldl_append]; rfl
theorem fF_bit (G : List Int) (B : List Bool) : ∀ k, k ≤ 4096 → Canon (fF G B k) ∧ ∀ i, bit (fF G B k) i = (decide (i < k) && av G B i) := by
  intro k
  induction k with
  | zero => exact fun _ => ⟨canon_nil, fun i => by rw [show fF G B 0 = [] from rfl, bit_nil]; simp⟩
  | succ k ih =>
    intro hk
    obtain ⟨h1, h2⟩ := ih (by omega)
    rw [fF_succ]
    by_cases ha : av G B k = true
    · rw [if_pos ha]
      refine ⟨with_canon h1.2.1 _, fun i => ?_⟩
      rw [bit_withI h1.2.1 _ (by omega), h2]
      by_cases hi : i = k
      · subst hi; rw [ha]; simp
      · have e1 : decide ((i : Int) = (k : Int)) = false := by simp; omega
        have e2 : decide (i < k + 1) = decide (i < k) := decide_eq_decide.2 (by omega)
        rw [e1, e2]; simp
    · rw [if_neg ha]
      refine ⟨h1, fun i => ?_⟩
      rw [h2]
      by_cases hi : i = k
      · subst hi; rw [Bool.eq_false_iff.2 ha]; simp
      · have e2 : decide (i < k + 1) = decide (i < k) := decide_eq_decide.2 (by omega)
        rw [e2]
theorem of_si {G L : List Int} (h : ofE G L = 0) : SI G (ofB G L) (ofN L) (fF G (ofB G L) G.length) := by
  unfold ofE at h
  by_cases h1 : 256 < G.length
  · rw [if_pos h1] at h; cases h
  · rw [if_neg h1] at h
    by_cases h2 : badG G = true
    · rw [if_pos h2] at h; cases h
    · rw [if_neg h2] at h
      have hb := errs_ok h
      have hlo : ∀ i, i < G.length → 0 ≤ G.getD i 0 ∧ G.getD i 0 ≤ M30 := by
        intro i hi
        have hm : G.getD i 0 ∈ G := by rw [List.getD_eq_getElem?_getD, List.getElem?_eq_getElem hi]; exact List.getElem_mem hi
        have h3 := Bool.eq_false_iff.2 h2
        unfold badG at h3
        have := List.any_eq_false.1 h3 _ hm
        simp only [Bool.or_eq_true, decide_eq_true_eq, not_or, Int.not_lt] at this
        exact this
      refine ⟨ofB_len G L, by omega, hlo, ?_, ?_, ?_, of_canon L, (fF_bit G _ _ (by omega)).1⟩
      · intro i
        rw [ofB_get]
        by_cases hi : i < 4096
        · rw [bit_of L i hi]
          cases hc : L.contains (i : Int)
          · simp
          · have := hb (i : Int) (List.contains_iff_mem.1 hc)
            unfold bad at this
            simp at this
            simp; omega
        · have e1 : bit (ofN L) i = false := by
            cases hc : bit (ofN L) i
            · rfl
            · exact absurd (bit_lt hc) hi
          rw [e1, decide_eq_false (by omega)]; rfl
      · intro i
        rw [(fF_bit G _ _ (by omega)).2]
        unfold av
        cases decide (i < G.length) <;> rfl
      · intro i hi
        rw [ofB_get] at hi
        simp only [Bool.and_eq_true, decide_eq_true_eq] at hi
        have h4 := hb (i : Int) (List.contains_iff_mem.1 hi.2)
        have h5 := hlo i hi.1
        unfold bad at h4
        simp only [Bool.or_eq_false_iff, decide_eq_false_iff_not] at h4
        have h6 := h4.2.2
        rw [Int.toNat_natCast] at h6
        omega
end Go.Slt
