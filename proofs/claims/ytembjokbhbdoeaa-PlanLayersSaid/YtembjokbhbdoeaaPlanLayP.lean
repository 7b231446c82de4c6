/- Plain laws: layers; rows of the call's own that lie in blocks of their own. -/
import Derived.Test.YtembjokbhbdoeaaPlanDepP
import Derived.Test.YtembjokbhbdoeaaOwn
namespace Go.Proofs.Ytembjokbhbdoeaa
open Go.RowKit Go.Mem
set_option linter.unusedVariables false
def padRows (out : List (List Nat)) (d : Nat) : List (List Nat) := out ++ List.replicate (d - out.length) []
def layStep (out : List (List Nat)) (d i : Nat) : List (List Nat) := (padRows out d).set (d - 1) ((padRows out d).getD (d - 1) [] ++ [i])
def layL (D : List Nat) : Nat → List (List Nat)
  | 0 => []
  | k + 1 => layStep (layL D k) (D.getD k 0) k
theorem layL_succ (D : List Nat) (k : Nat) : layL D (k + 1) = layStep (layL D k) (D.getD k 0) k := rfl
theorem padRows_len (out : List (List Nat)) (d : Nat) : (padRows out d).length = max out.length d := by unfold padRows; simp; omega
theorem layStep_len (out : List (List Nat)) (d i : Nat) : (layStep out d i).length = max out.length d := by unfold layStep; rw [List.length_set, padRows_len]
def ints (l : List Nat) : List Int := l.map fun (n : Nat) => (n : Int)
theorem ints_len (l : List Nat) : (ints l).length = l.length := by unfold ints; simp
theorem ints_snoc (l : List Nat) (i : Nat) : ints (l ++ [i]) = ints l ++ [(i : Int)] := by unfold ints; simp
theorem padRows_mem (out : List (List Nat)) (d : Nat) (r : List Nat) (h : r ∈ padRows out d) : r ∈ out ∨ r = [] := by
  unfold padRows at h
  rcases List.mem_append.1 h with h | h
  · exact Or.inl h
  · exact Or.inr (List.eq_of_mem_replicate h)
theorem layL_bd (D : List Nat) (m : Nat) (hd : ∀ j, j < m → D.getD j 0 ≤ m) : ∀ k, k ≤ m → (layL D k).length ≤ m ∧ ∀ r ∈ layL D k, r.length ≤ k := by
  intro k
  induction k with
  | zero => intro _; exact ⟨Nat.zero_le _, fun r h => by cases h⟩
  | succ k ih =>
    intro hk
    obtain ⟨h1, h2⟩ := ih (by omega)
    have h3 := hd k (by omega)
    have hp : ∀ r ∈ padRows (layL D k) (D.getD k 0), r.length ≤ k := by
      intro r hr
      rcases padRows_mem _ _ _ hr with h | h
      · exact h2 r h
      · rw [h]; exact Nat.zero_le _
    rw [layL_succ]
    refine ⟨by rw [layStep_len]; omega, fun r hr => ?_⟩
    unfold layStep at hr
    rcases List.mem_or_eq_of_mem_set hr with h | h
    · have := hp r h; omega
    · rw [h, List.length_append, List.length_singleton]
      by_cases hj : D.getD k 0 - 1 < (padRows (layL D k) (D.getD k 0)).length
      · have := hp _ (List.getElem_mem hj)
        have e : (padRows (layL D k) (D.getD k 0)).getD (D.getD k 0 - 1) [] = (padRows (layL D k) (D.getD k 0))[D.getD k 0 - 1] := by
          rw [List.getD_eq_getElem?_getD (l := padRows (layL D k) (D.getD k 0)), List.getElem?_eq_getElem hj]; rfl
        rw [e]
        omega
      · have e : (padRows (layL D k) (D.getD k 0)).getD (D.getD k 0 - 1) [] = [] := by
          rw [List.getD_eq_getElem?_getD (l := padRows (layL D k) (D.getD k 0)), List.getElem?_eq_none (by omega)]; rfl
        rw [e, List.length_nil]
        omega
/-- rows of the call's own, each in a block of its own -/
def RowsI (w : World) (B : Nat) (vs : List Value) (rows : List (List Nat)) : Prop :=
  vs.length = rows.length ∧ (∀ j, j < rows.length → w.ownsRow B 3 1 (vs.getD j undef) (rows.getD j []).length (vints .i64 (ints (rows.getD j [])))) ∧
  ∀ i j g, i < rows.length → j < rows.length → i ≠ j → (vs.getD i undef).ownBlock = some g → (vs.getD j undef).ownBlock ≠ some g
theorem RowsI.nil (w : World) (B : Nat) : RowsI w B [] [] := ⟨rfl, fun j h => absurd h (Nat.not_lt_zero j), fun i j g h => absurd h (Nat.not_lt_zero i)⟩
theorem RowsI.keep {w w2 : World} {B : Nat} {vs : List Value} {rows : List (List Nat)} (h : RowsI w B vs rows) (hk : ∀ j, j < rows.length → ∀ g, (vs.getD j undef).ownBlock = some g → w2.heap[g]? = w.heap[g]?) : RowsI w2 B vs rows :=
  ⟨h.1, fun j hj => own_keep (h.2.1 j hj) (hk j hj), h.2.2⟩
theorem RowsI.below {w w2 : World} {B : Nat} {vs : List Value} {rows : List (List Nat)} (h : RowsI w B vs rows) (hb : Below w.heap.size w w2) : RowsI w2 B vs rows :=
  h.keep fun j hj g hg => hb.block g (own_lt (h.2.1 j hj) g hg).2
/-- behind a change of a row of another element type -/
theorem RowsI.other {w w2 : World} {B B2 e n : Nat} {vs xs : List Value} {rows : List (List Nat)} {v : Value} (h : RowsI w B vs rows) (hv : w.ownsRow B2 e 1 v n xs) (he : (3 : Nat) ≠ e) (hg : w.grownBy w2 v.ownBlock) : RowsI w2 B vs rows :=
  h.keep fun j hj g hgj => hg.block g (own_lt (h.2.1 j hj) g hgj).2 (own_other (h.2.1 j hj) hv he g hgj)
theorem getD_snoc {α : Type} (l : List α) (x d : α) (j : Nat) : (l ++ [x]).getD j d = if j = l.length then x else l.getD j d := by
  rw [List.getD_eq_getElem?_getD, List.getD_eq_getElem?_getD]
  by_cases h : j = l.length
  · subst h; simp
  · rw [if_neg h]
    by_cases h2 : j < l.length
    · rw [List.getElem?_append_left h2]
    · rw [List.getElem?_eq_none (by simp; omega), List.getElem?_eq_none (by omega)]
theorem getD_set {α : Type} (l : List α) (x d : α) (i j : Nat) (h : i < l.length) : (l.set i x).getD j d = if j = i then x else l.getD j d := by
  rw [List.getD_eq_getElem?_getD, List.getD_eq_getElem?_getD]
  by_cases e : j = i
  · subst e; simp [h]
  · rw [if_neg e, List.getElem?_set_ne (fun h => e h.symm)]
theorem RowsI.snocNil {w : World} {B : Nat} {vs : List Value} {rows : List (List Nat)} (h : RowsI w B vs rows) : RowsI w B (vs ++ [.slice none 0 0]) (rows ++ [[]]) := by
  obtain ⟨h1, h2, h3⟩ := h
  refine ⟨by simp [h1], fun j hj => ?_, fun i j g hi hj hij hg => ?_⟩
  · rw [getD_snoc, getD_snoc, h1]
    by_cases e : j = rows.length
    · rw [if_pos e, if_pos e]; exact World.ownsRow_nil _ _ _ _
    · rw [if_neg e, if_neg e]; exact h2 j (by simp at hj; omega)
  · rw [getD_snoc, h1] at hg ⊢
    by_cases e : i = rows.length
    · rw [if_pos e] at hg; cases hg
    · rw [if_neg e] at hg
      by_cases e2 : j = rows.length
      · rw [if_pos e2]; intro h; cases h
      · rw [if_neg e2]
        exact h3 i j g (by simp at hi; omega) (by simp at hj; omega) hij hg
theorem RowsI.upd {w w2 : World} {B : Nat} {vs : List Value} {rows : List (List Nat)} (h : RowsI w B vs rows) (q i : Nat) (hq : q < rows.length) (v' : Value) (g' : Nat) (hv' : v'.ownBlock = some g')
    (hown : w2.ownsRow B 3 1 v' ((rows.getD q []).length + 1) (vints .i64 (ints (rows.getD q [] ++ [i])))) (hg : w.grownBy w2 (vs.getD q undef).ownBlock) (hor : (vs.getD q undef).ownBlock = some g' ∨ w.heap.size ≤ g') :
    RowsI w2 B (vs.set q v') (rows.set q (rows.getD q [] ++ [i])) := by
  obtain ⟨h1, h2, h3⟩ := h
  have hq' : q < vs.length := by rw [h1]; exact hq
  have hne : ∀ j, j < rows.length → j ≠ q → (vs.getD j undef).ownBlock ≠ some g' := by
    intro j hj e hb
    rcases hor with h | h
    · exact h3 j q g' hj hq e hb h
    · have := (own_lt (h2 j hj) g' hb).2
      omega
  refine ⟨by simp [h1], fun j hj => ?_, fun a b g ha hb hab hg' => ?_⟩
  · rw [List.length_set] at hj
    rw [getD_set _ _ _ _ _ hq', getD_set _ _ _ _ _ hq]
    by_cases e : j = q
    · rw [if_pos e, if_pos e, List.length_append, List.length_singleton]; exact hown
    · rw [if_neg e, if_neg e]
      refine own_grown (h2 j hj) hg fun g hgj => ?_
      intro he
      exact h3 j q g hj hq e hgj he.symm
  · rw [List.length_set] at ha hb
    rw [getD_set _ _ _ _ _ hq'] at hg' ⊢
    by_cases e : a = q
    · rw [if_pos e, hv'] at hg'
      injection hg' with hg'
      subst hg'
      rw [if_neg (fun h => hab (e.trans h.symm))]
      exact hne b hb (fun h => hab (e.trans h.symm))
    · rw [if_neg e] at hg'
      by_cases e2 : b = q
      · rw [if_pos e2, hv']
        intro hgg
        injection hgg with hgg
        subst hgg
        exact hne a ha e hg'
      · rw [if_neg e2]
        exact h3 a b g ha hb hab hg'
/-- as a slice of slices -/
theorem RowsI.lies {w : World} {B n : Nat} {vs : List Value} {rows : List (List Nat)} {v : Value} (h : RowsI w B vs rows) (hv : w.ownsRow B 26 1 v n vs) (hn : n = rows.length) : ∃ a c, v = .slice a n c ∧ SlAt 1 IntsIn w a (rows.map ints) := by
  subst hn
  rcases Nat.eq_zero_or_pos rows.length with h0 | h0
  · rcases hv.2 with ⟨rfl, _⟩ | ⟨g, cap, cur, rfl, _⟩
    · exact ⟨none, 0, by rw [h0], fun hh => by simp at hh; omega⟩
    · exact ⟨_, cap, rfl, fun hh => by simp at hh; omega⟩
  · obtain ⟨g, cap, rfl, _, hlt⟩ := hv.form h0
    refine ⟨_, cap, rfl, fun _ => ⟨_, rfl, hlt, fun i hi => ?_⟩⟩
    rw [List.length_map] at hi
    have hc := hv.cellAt i (by omega)
    have hi' : i < vs.length := by rw [h.1]; exact hi
    have ho := h.2.1 i hi
    have e1 : vs[i]? = some (vs.getD i undef) := by simp [hi']
    have e2 : (rows.map ints)[i]'(by rw [List.length_map]; exact hi) = ints (rows.getD i []) := by
      rw [List.getElem_map, List.getD_eq_getElem?_getD, List.getElem?_eq_getElem hi]; rfl
    rw [Nat.mul_one, Addr.add_lit, Nat.zero_add, e2]
    rw [e1] at hc
    rcases ho.2 with ⟨k1, k2⟩ | ⟨g2, c2, cur2, k1, k2⟩
    · rw [k1] at hc
      exact ⟨none, 0, by rw [hc, ints_len, k2], fun hh => by rw [ints_len] at hh; omega⟩
    · rw [k1] at hc ho
      exact ⟨_, c2, by rw [hc, ints_len], IntsAt.of_own ho (by rw [ints_len])⟩
end Go.Proofs.Ytembjokbhbdoeaa
