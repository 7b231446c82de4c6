/- Heaps in lists, and the items in the order in which they came (plain). -/
import Derived.WalkKit
namespace Go.Qp
/-- An item: its value, its number, when it came. -/
structure It (α : Type) where
  v : α
  r : Int
  c : Int
variable {α : Type}
def le (x y : It α) : Prop := x.r < y.r ∨ (x.r = y.r ∧ x.c ≤ y.c)
def bef (x y : It α) : Bool := if x.r = y.r then decide (x.c < y.c) else decide (x.r < y.r)
theorem le_refl (x : It α) : le x x := .inr ⟨rfl, Int.le_refl _⟩
theorem le_trans {x y z : It α} (h : le x y) (k : le y z) : le x z := by unfold le at *; omega
theorem bef_true {x y : It α} (h : bef x y = true) : le x y := by
  unfold bef at h; unfold le
  split at h <;> simp at h <;> omega
theorem bef_false {x y : It α} (h : bef x y = false) : le y x := by
  unfold bef at h; unfold le
  split at h <;> simp at h <;> omega
theorem le_anti {x y : It α} (h : le x y) (k : le y x) : x.r = y.r ∧ x.c = y.c := by unfold le at *; omega
variable (d : It α)
/-- The item at a place. -/
def g (H : List (It α)) (i : Nat) : It α := H.getD i d
def par (i : Nat) : Nat := (i - 1) / 2
def swap (H : List (It α)) (i j : Nat) : List (It α) := (H.set i (g d H j)).set j (g d H i)
theorem swap_length (H : List (It α)) (i j : Nat) : (swap d H i j).length = H.length := by simp [swap]
theorem g_set (H : List (It α)) (i j : Nat) (x : It α) (hi : i < H.length) : g d (H.set i x) j = if j = i then x else g d H j := by
  unfold g
  rw [List.getD_eq_getElem?_getD, List.getElem?_set]
  by_cases h : i = j
  · subst h; simp [hi]
  · rw [if_neg h, if_neg (fun e => h e.symm), List.getD_eq_getElem?_getD]
theorem g_swap (H : List (It α)) (i j k : Nat) (hi : i < H.length) (hj : j < H.length) : g d (swap d H i j) k = if k = j then g d H i else if k = i then g d H j else g d H k := by
  unfold swap
  rw [g_set d _ _ _ _ (by simpa using hj), g_set d _ _ _ _ hi]
theorem g_get (H : List (It α)) (i : Nat) (h : i < H.length) : g d H i = H[i] := by simp [g, h]
theorem swap_perm (H : List (It α)) (i j : Nat) (hi : i < H.length) (hj : j < H.length) : (swap d H i j).Perm H := by
  have h := Array.swap_perm (xs := H.toArray) (i := i) (j := j) (by simpa using hi) (by simpa using hj)
  have h2 : ((H.toArray.swap i j (by simpa using hi) (by simpa using hj)).toList).Perm H := by
    have := h.toList
    simpa using this
  have e : (H.toArray.swap i j (by simpa using hi) (by simpa using hj)).toList = swap d H i j := by
    simp [Array.swap, swap, g_get d H i hi, g_get d H j hj]
  rwa [e] at h2
def isHeap (H : List (It α)) : Prop := ∀ i, 0 < i → i < H.length → le (g d H (par i)) (g d H i)
theorem par_lt {i : Nat} (h : 0 < i) : par i < i := by unfold par; omega
/-- The root is the least. -/
theorem root_le (H : List (It α)) (h : isHeap d H) : ∀ i, i < H.length → le (g d H 0) (g d H i) := by
  intro i
  induction i using Nat.strongRecOn with
  | _ i ih =>
    intro hi
    by_cases h0 : i = 0
    · subst h0; exact le_refl _
    · have hp := par_lt (i := i) (by omega)
      exact le_trans (ih _ hp (by omega)) (h i (by omega) hi)
/-- A heap but for the place i, which may be too small for its parent. -/
def upOk (H : List (It α)) (i : Nat) : Prop := (∀ j, 0 < j → j < H.length → j ≠ i → le (g d H (par j)) (g d H j)) ∧ (∀ j, 0 < j → j < H.length → par j = i → 0 < i → le (g d H (par i)) (g d H j))
theorem up_start (H : List (It α)) (x : It α) (h : isHeap d H) : upOk d (H ++ [x]) H.length := by
  have e : ∀ j, j < H.length → g d (H ++ [x]) j = g d H j := fun j hj => by
    unfold g; rw [List.getD_eq_getElem?_getD, List.getElem?_append_left hj, ← List.getD_eq_getElem?_getD]
  refine ⟨fun j h0 hj hne => ?_, fun j h0 hj hp _ => ?_⟩
  · have hj' : j < H.length := by simp at hj; omega
    have := par_lt h0
    rw [e j hj', e (par j) (by omega)]
    exact h j h0 hj'
  · have := par_lt h0
    simp at hj; omega
theorem up_stop (H : List (It α)) (i : Nat) (h : upOk d H i) (hs : i = 0 ∨ bef (g d H i) (g d H (par i)) = false) : isHeap d H := by
  intro j h0 hj
  by_cases e : j = i
  · subst e
    rcases hs with h1 | h1
    · omega
    · exact bef_false h1
  · exact h.1 j h0 hj e
theorem up_step (H : List (It α)) (i : Nat) (h : upOk d H i) (h0 : 0 < i) (hi : i < H.length) (hb : bef (g d H i) (g d H (par i)) = true) : upOk d (swap d H i (par i)) (par i) := by
  have hp := par_lt h0
  have hpl : par i < H.length := by omega
  have hle := bef_true hb
  refine ⟨fun j j0 hj hne => ?_, fun j j0 hj hjp hp0 => ?_⟩
  · rw [swap_length] at hj
    rw [g_swap d H i (par i) _ hi hpl, g_swap d H i (par i) _ hi hpl]
    by_cases e1 : j = i
    · subst e1
      rw [if_pos rfl, if_neg (by omega), if_pos rfl]
      exact hle
    · rw [if_neg hne, if_neg e1]
      by_cases e2 : par j = par i
      · rw [if_pos e2]
        have := h.1 j j0 hj e1
        rw [e2] at this
        exact le_trans hle this
      · rw [if_neg e2]
        by_cases e3 : par j = i
        · rw [if_pos e3]
          exact h.2 j j0 hj e3 h0
        · rw [if_neg e3]
          exact h.1 j j0 hj e1
  · rw [swap_length] at hj
    have hpp := par_lt hp0
    rw [g_swap d H i (par i) _ hi hpl, g_swap d H i (par i) _ hi hpl]
    rw [if_neg (by omega), if_neg (by omega)]
    have h1 : le (g d H (par (par i))) (g d H (par i)) := h.1 _ hp0 hpl (by omega)
    by_cases e1 : j = i
    · subst e1
      rw [if_neg (by omega), if_pos rfl]
      exact h1
    · rw [if_neg (by have := par_lt j0; omega), if_neg e1]
      have := h.1 j j0 hj e1
      rw [hjp] at this
      exact le_trans h1 this
/-- A heap but for the place i, which may be too great for its children. -/
def downOk (H : List (It α)) (i : Nat) : Prop := (∀ j, 0 < j → j < H.length → par j ≠ i → le (g d H (par j)) (g d H j)) ∧ (∀ j, 0 < j → j < H.length → par j = i → 0 < i → le (g d H (par i)) (g d H j))
theorem down_stop (H : List (It α)) (i : Nat) (h : downOk d H i) (hs : ∀ j, 0 < j → j < H.length → par j = i → le (g d H i) (g d H j)) : isHeap d H := by
  intro j h0 hj
  by_cases e : par j = i
  · rw [e]; exact hs j h0 hj e
  · exact h.1 j h0 hj e
theorem down_step (H : List (It α)) (i k : Nat) (h : downOk d H i) (hk0 : 0 < k) (hk : k < H.length) (hp : par k = i) (hmin : ∀ j, 0 < j → j < H.length → par j = i → le (g d H k) (g d H j)) (hb : bef (g d H i) (g d H k) = false) : downOk d (swap d H i k) k := by
  have hik := par_lt hk0
  rw [hp] at hik
  have hi : i < H.length := by omega
  have hle := bef_false hb
  refine ⟨fun j j0 hj hne => ?_, fun j j0 hj hjp _ => ?_⟩
  · rw [swap_length] at hj
    have hpj := par_lt j0
    rw [g_swap d H i k _ hi hk, g_swap d H i k _ hi hk]
    rw [if_neg hne]
    by_cases e1 : par j = i
    · rw [if_pos e1]
      by_cases e2 : j = k
      · rw [if_pos e2]; exact hle
      · rw [if_neg e2, if_neg (by omega)]
        exact hmin j j0 hj e1
    · rw [if_neg e1]
      by_cases e2 : j = k
      · subst e2; exact absurd hp e1
      · rw [if_neg e2]
        by_cases e3 : j = i
        · rw [if_pos e3]
          subst e3
          exact h.2 k hk0 hk hp j0
        · rw [if_neg e3]
          exact h.1 j j0 hj e1
  · rw [swap_length] at hj
    have hpj := par_lt j0
    rw [g_swap d H i k _ hi hk, g_swap d H i k _ hi hk]
    rw [hp, if_neg (by omega), if_pos rfl, if_neg (by omega), if_neg (by omega)]
    have := h.1 j j0 hj (by omega)
    rw [hjp] at this
    exact this
end Go.Qp
