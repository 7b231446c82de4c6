/- Heaps: the first item, what is put, what is taken (plain). -/
import Derived.Test.YtlahmcbaiebapaaQueueP
namespace Go.Qp
variable {α : Type} (d : It α)
/-- The heap, and the items in the order in which they came. -/
structure QI (H M : List (It α)) (n : Int) : Prop where
  perm : H.Perm M
  heap : isHeap d H
  sorted : M.Pairwise fun x y => x.c < y.c
  bound : ∀ x ∈ M, x.c < n
theorem QI.len {H M : List (It α)} {n : Int} (h : QI d H M n) : H.length = M.length := h.perm.length_eq
/-- The reference's place, after i rounds. -/
def tk (M : List (It α)) : Nat → Nat
  | 0 => 0
  | i + 1 => if (g d M i).r < (g d M (tk M i)).r then i else tk M i
theorem tk_lt (M : List (It α)) : ∀ i, 0 < i → tk d M i < i
  | 1, _ => by simp [tk]
  | i + 2, _ => by
    have := tk_lt M (i + 1) (by omega)
    show (if (g d M (i + 1)).r < (g d M (tk d M (i + 1))).r then i + 1 else tk d M (i + 1)) < i + 2
    split <;> omega
theorem tk_min (M : List (It α)) : ∀ i j, j < i → (g d M (tk d M i)).r < (g d M j).r ∨ ((g d M (tk d M i)).r = (g d M j).r ∧ tk d M i ≤ j)
  | 0, j, h => by omega
  | i + 1, j, h => by
    show (g d M (if (g d M i).r < (g d M (tk d M i)).r then i else tk d M i)).r < _ ∨ _
    have e : tk d M (i + 1) = if (g d M i).r < (g d M (tk d M i)).r then i else tk d M i := rfl
    rw [e]
    by_cases hi : i = 0
    · subst hi
      have : j = 0 := by omega
      subst this
      have e0 : tk d M 0 = 0 := rfl
      rw [e0, if_neg (by omega)]; exact .inr ⟨rfl, Nat.le_refl _⟩
    · have ht := tk_lt d M i (by omega)
      by_cases q : (g d M i).r < (g d M (tk d M i)).r
      · rw [if_pos q]
        by_cases hj : j = i
        · subst hj; exact .inr ⟨rfl, Nat.le_refl _⟩
        · rcases tk_min M i j (by omega) with h1 | ⟨h1, h2⟩ <;> exact .inl (by omega)
      · rw [if_neg q]
        by_cases hj : j = i
        · subst hj
          by_cases he : (g d M (tk d M j)).r = (g d M j).r
          · exact .inr ⟨he, by omega⟩
          · exact .inl (by omega)
        · exact tk_min M i j (by omega)
theorem sorted_lt {M : List (It α)} (h : M.Pairwise fun x y => x.c < y.c) {i j : Nat} (hij : i < j) (hj : j < M.length) : (g d M i).c < (g d M j).c := by
  rw [g_get d M i (by omega), g_get d M j hj]
  exact List.pairwise_iff_getElem.1 h i j (by omega) hj hij
theorem tk_le {M : List (It α)} (h : M.Pairwise fun x y => x.c < y.c) (j : Nat) (hj : j < M.length) : le (g d M (tk d M M.length)) (g d M j) := by
  rcases tk_min d M M.length j hj with h1 | ⟨h1, h2⟩
  · exact .inl h1
  · refine .inr ⟨h1, ?_⟩
    rcases Nat.lt_or_eq_of_le h2 with h3 | h3
    · exact Int.le_of_lt (sorted_lt d h h3 hj)
    · rw [h3]; exact Int.le_refl _
theorem g_mem (H : List (It α)) (i : Nat) (h : i < H.length) : g d H i ∈ H := by rw [g_get d H i h]; exact List.getElem_mem h
theorem mem_g {H : List (It α)} {x : It α} (h : x ∈ H) : ∃ i, i < H.length ∧ g d H i = x := by
  obtain ⟨i, hi, e⟩ := List.getElem_of_mem h
  exact ⟨i, hi, by rw [g_get d H i hi, e]⟩
/-- The heap's first item is the reference's. -/
theorem first_eq {H M : List (It α)} {n : Int} (h : QI d H M n) (h0 : 0 < H.length) : g d H 0 = g d M (tk d M M.length) := by
  have hl := h.len
  have htl := tk_lt d M M.length (by omega)
  obtain ⟨j, hj, ej⟩ := mem_g d (h.perm.mem_iff.1 (g_mem d H 0 h0))
  obtain ⟨i, hi, ei⟩ := mem_g d (h.perm.mem_iff.2 (g_mem d M _ htl))
  have h1 := tk_le d h.sorted j hj
  have h2 := root_le d H h.heap i hi
  rw [ej] at h1
  rw [ei] at h2
  have h3 := le_anti h1 h2
  have hj2 : tk d M M.length = j := by
    rcases Nat.lt_trichotomy (tk d M M.length) j with q | q | q
    · have := sorted_lt d h.sorted q hj
      rw [ej] at this; omega
    · exact q
    · have := sorted_lt d h.sorted q htl
      rw [ej] at this; omega
  rw [hj2, ej]
theorem put_perm {H M : List (It α)} {n : Int} (h : QI d H M n) (x : It α) (H2 : List (It α)) (hp : H2.Perm (H ++ [x])) (hh : isHeap d H2) (hx : x.c = n) : QI d H2 (M ++ [x]) (n + 1) := by
  refine ⟨hp.trans (h.perm.append_right [x]), hh, ?_, ?_⟩
  · rw [List.pairwise_append]
    exact ⟨h.sorted, by simp, fun a ha b hb => by
      have : b = x := by simpa using hb
      rw [this, hx]; exact h.bound a ha⟩
  · intro y hy
    rcases List.mem_append.1 hy with hy | hy
    · have := h.bound y hy; omega
    · have : y = x := by simpa using hy
      rw [this, hx]; omega
/-- What is left of the heap's list before it is put in order: the last item in the first place. -/
def cutH (H : List (It α)) : List (It α) := (H.set 0 (g d H (H.length - 1))).take (H.length - 1)
theorem cutH_length (H : List (It α)) : (cutH d H).length = H.length - 1 := by simp [cutH]
theorem cutH_perm (H : List (It α)) (h : 0 < H.length) : H.Perm (g d H 0 :: cutH d H) := by
  match H, h with
  | x :: t, _ =>
    rcases List.eq_nil_or_concat t with rfl | ⟨s, z, rfl⟩
    · exact List.Perm.refl _
    · rw [List.concat_eq_append]
      have e1 : g d (x :: (s ++ [z])) ((x :: (s ++ [z])).length - 1) = z := by simp [g, List.getD_eq_getElem?_getD]
      have e2 : cutH d (x :: (s ++ [z])) = z :: s := by
        unfold cutH
        rw [e1]
        simp
      rw [e2]
      show (x :: (s ++ [z])).Perm (x :: z :: s)
      exact (List.perm_append_comm (l₁ := s) (l₂ := [z])).cons x
theorem g_cut (H : List (It α)) (j : Nat) (h : j < H.length - 1) : g d (cutH d H) j = if j = 0 then g d H (H.length - 1) else g d H j := by
  have e : g d (cutH d H) j = g d (H.set 0 (g d H (H.length - 1))) j := by
    unfold g cutH
    rw [List.getD_eq_getElem?_getD, List.getElem?_take_of_lt h, ← List.getD_eq_getElem?_getD]; rfl
  rw [e, g_set d _ _ _ _ (by omega)]
theorem cut_down (H : List (It α)) (h : isHeap d H) : downOk d (cutH d H) 0 := by
  refine ⟨fun j j0 hj hne => ?_, fun j j0 hj _ h0 => by omega⟩
  rw [cutH_length] at hj
  have := par_lt j0
  rw [g_cut d H j hj, g_cut d H (par j) (by omega), if_neg hne, if_neg (by omega)]
  exact h j j0 (by omega)
theorem del_perm (M : List (It α)) (k : Nat) (h : k < M.length) : M.Perm (g d M k :: (M.take k ++ M.drop (k + 1))) := by
  have e : M = M.take k ++ g d M k :: M.drop (k + 1) := by
    rw [g_get d M k h, ← List.drop_eq_getElem_cons h, List.take_append_drop]
  have := List.perm_middle (a := g d M k) (l₁ := M.take k) (l₂ := M.drop (k + 1))
  rw [← e] at this
  exact this
theorem take_perm {H M : List (It α)} {n : Int} (h : QI d H M n) (h0 : 0 < H.length) (H2 : List (It α)) (hp : H2.Perm (cutH d H)) (hh : isHeap d H2) :
    QI d H2 (M.take (tk d M M.length) ++ M.drop (tk d M M.length + 1)) n := by
  have hl := h.len
  have htl := tk_lt d M M.length (by omega)
  have e := first_eq d h h0
  have p1 := cutH_perm d H h0
  have p2 := del_perm d M _ htl
  have p3 : (g d H 0 :: cutH d H).Perm (g d H 0 :: (M.take (tk d M M.length) ++ M.drop (tk d M M.length + 1))) := by
    have := (p1.symm.trans h.perm).trans p2
    rw [← e] at this
    exact this
  have hsub : (M.take (tk d M M.length) ++ M.drop (tk d M M.length + 1)).Sublist M := by
    have h1 : (M.drop (tk d M M.length + 1)).Sublist (M.drop (tk d M M.length)) := by
      rw [← List.drop_drop]; exact List.drop_sublist _ _
    have := (List.Sublist.refl (M.take (tk d M M.length))).append h1
    rwa [List.take_append_drop] at this
  exact ⟨hp.trans p3.cons_inv, hh, h.sorted.sublist hsub, fun x hx => h.bound x (hsub.subset hx)⟩
end Go.Qp
