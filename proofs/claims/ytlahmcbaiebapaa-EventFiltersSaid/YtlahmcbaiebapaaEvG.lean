/- Insertion into a sorted list, as a plain function; a row of one's own changed in place; event.Counts. -/
import Derived.Test.YtlahmcbaiebapaaEvD
import Derived.Test.YtlahmcbaiebapaaEvI
import Derived.Test.YtlahmcbaiebapaaRegSt2
namespace Go.Proofs.Ytlahmcbaiebapaa
open Go.ChangeShapes Go.WideShapes Go.ChangeAt Go.RowKit Go.Mem Go.Slt
set_option linter.unusedVariables false
def insG {α : Type} (cf : α → Int) (upd : α → α) (new : α) : List α → List α
  | [] => [new]
  | y :: r => if cf y < 0 then y :: insG cf upd new r else if cf y = 0 then upd y :: r else new :: y :: r
theorem insG_yes {α : Type} (cf : α → Int) (upd : α → α) (new : α) : ∀ (L : List α) (i : Nat) (hi : i < L.length), (∀ t (h : t < L.length), t < i → cf L[t] < 0) → cf L[i] = 0 → insG cf upd new L = L.set i (upd L[i])
  | y :: r, 0, _, _, h2 => by
    have h : cf y = 0 := h2
    unfold insG
    rw [if_neg (by omega), if_pos h]; rfl
  | y :: r, i + 1, hi, h1, h2 => by
    have h : cf y < 0 := h1 0 (by simp) (by omega)
    unfold insG
    rw [if_pos h, insG_yes cf upd new r i (by simpa using hi) (fun t ht hti => by have := h1 (t + 1) (by simpa using ht) (by omega); simpa using this) (by simpa using h2)]; rfl
theorem insG_no {α : Type} (cf : α → Int) (upd : α → α) (new : α) : ∀ (L : List α) (i : Nat) (hi : i ≤ L.length), (∀ t (h : t < L.length), t < i → cf L[t] < 0) → (∀ t (h : t < L.length), i ≤ t → 0 ≤ cf L[t]) → (¬ ∃ h : i < L.length, cf L[i] = 0) → insG cf upd new L = L.take i ++ [new] ++ L.drop i
  | [], 0, _, _, _, _ => rfl
  | [], i + 1, hi, _, _, _ => by simp at hi
  | y :: r, 0, _, _, h2, h3 => by
    have h : 0 ≤ cf y := h2 0 (by simp) (by omega)
    have h' : ¬ cf y = 0 := fun e => h3 ⟨by simp, e⟩
    unfold insG
    rw [if_neg (by omega), if_neg h']; rfl
  | y :: r, i + 1, hi, h1, h2, h3 => by
    have h : cf y < 0 := h1 0 (by simp) (by omega)
    unfold insG
    rw [if_pos h, insG_no cf upd new r i (by simpa using hi) (fun t ht hti => by have := h1 (t + 1) (by simpa using ht) (by omega); simpa using this) (fun t ht hti => by have := h2 (t + 1) (by simpa using ht) (by omega); simpa using this) (fun ⟨q, e⟩ => h3 ⟨by simpa using q, by simpa using e⟩)]; rfl
theorem insG_len {α : Type} (cf : α → Int) (upd : α → α) (new : α) : ∀ L : List α, L.length ≤ (insG cf upd new L).length ∧ (insG cf upd new L).length ≤ L.length + 1
  | [] => ⟨by simp, by simp [insG]⟩
  | y :: r => by
    have := insG_len cf upd new r
    unfold insG
    split
    · simp; omega
    · split <;> simp
theorem own_put {w : World} {base e k g n c : Nat} {xs : List Value} (h : w.ownsRow base e k (.slice (some ⟨g, 0, none⟩) n c) n xs) (j : Nat) (u : Value) : (w.setCell ⟨g, j, none⟩ u).ownsRow base e k (.slice (some ⟨g, 0, none⟩) n c) n (xs.set j u) := by
  refine ⟨by rw [List.length_set]; exact h.1, ?_⟩
  rcases h.2 with ⟨e, _⟩ | ⟨g', cap, cur, e, hbg, hh, hnc, hcm, hcz, htk⟩
  · cases e
  · injection e with e1 e2 e3
    injection e1 with e1
    injection e1 with e1
    subst e1 e3
    refine Or.inr ⟨g, c, cur.setIfInBounds j u, rfl, hbg, heap_set hh j u, hnc, hcm, by simpa using hcz, ?_⟩
    rw [Array.toList_setIfInBounds, List.take_set, htk]
theorem own_room {w : World} {base e k g n c : Nat} {xs : List Value} (h : w.ownsRow base e k (.slice (some ⟨g, 0, none⟩) n c) n xs) : ∃ cur, w.heap[g]? = some (.cells cur e (0, 0)) := by
  rcases h.2 with ⟨e, _⟩ | ⟨g', cap, cur, e, hbg, hh, hnc, hcm, hcz, htk⟩
  · cases e
  · injection e with e1 e2 e3
    injection e1 with e1
    injection e1 with e1
    subst e1
    exact ⟨cur, hh⟩
theorem entC_set : ∀ (E : List (Int × Int)) (i : Nat) (h : i < E.length) (c : Int), (entC E).set (i * 2 + 1) (.int .i64 c) = entC (E.set i (E[i].1, c))
  | x :: E, 0, _, c => rfl
  | x :: E, i + 1, h, c => by
    have h1 := entC_set E i (by simpa using h) c
    have e : entC (x :: E) = .int .i64 x.1 :: .int .i64 x.2 :: entC E := rfl
    rw [e, show (i + 1) * 2 + 1 = (i * 2 + 1) + 1 + 1 by omega, List.set_cons_succ, List.set_cons_succ, h1]
    rfl
theorem entC_split (E : List (Int × Int)) (i : Nat) (hi : i ≤ E.length) (y : Int × Int) : (entC E).take (i * 2) ++ [.int .i64 y.1, .int .i64 y.2] ++ (entC E).drop (i * 2) = entC (E.take i ++ [y] ++ E.drop i) := by
  have e1 : ∀ (E : List (Int × Int)) (i : Nat), (entC E).take (i * 2) = entC (E.take i) ∧ (entC E).drop (i * 2) = entC (E.drop i) := by
    intro E
    induction E with
    | nil => intro i; simp [entC]
    | cons x E ih =>
      intro i
      cases i with
      | zero => exact ⟨rfl, rfl⟩
      | succ i =>
        have e : entC (x :: E) = .int .i64 x.1 :: .int .i64 x.2 :: entC E := rfl
        obtain ⟨h1, h2⟩ := ih i
        rw [e, show (i + 1) * 2 = i * 2 + 1 + 1 by omega, List.take_succ_cons, List.take_succ_cons, List.drop_succ_cons, List.drop_succ_cons, h1, h2]
        exact ⟨rfl, rfl⟩
  obtain ⟨h1, h2⟩ := e1 E i
  rw [h1, h2]
  simp [entC]
theorem entC_one (E : List (Int × Int)) : ∀ v ∈ entC E, v.oneCell' = true := by
  intro v hv
  unfold entC at hv
  obtain ⟨x, _, hx⟩ := List.mem_flatMap.1 hv
  simp only [List.mem_cons, List.not_mem_nil, or_false] at hx
  rcases hx with rfl | rfl <;> rfl
def ctAdd (L : List (Int × Int)) (s : Int) : List (Int × Int) := insG (fun y => cmpI y.1 s) (fun y => (y.1, y.2 + 1)) (s, 1) L
def ctsOf (l : List EvV) : List (Int × Int) := l.foldl (fun L y => ctAdd L y.s) []
theorem ctsOf_succ (l : List EvV) (k : Nat) (h : k < l.length) : ctsOf (l.take (k + 1)) = ctAdd (ctsOf (l.take k)) l[k].s := by
  unfold ctsOf; rw [List.take_succ_eq_append_getElem h, List.foldl_append]; rfl
/-- strictly rising keys; counts from 0 up to k -/
def CtsOk (L : List (Int × Int)) (k : Nat) : Prop := L.Pairwise (fun a b => a.1 < b.1) ∧ (∀ y ∈ L, 0 ≤ y.2 ∧ y.2 ≤ k) ∧ L.length ≤ k
theorem cmpI_lt {x y : Int} : cmpI x y < 0 ↔ x < y := by unfold cmpI; split <;> (try split) <;> omega
theorem cmpI_eq {x y : Int} : cmpI x y = 0 ↔ x = y := by unfold cmpI; split <;> (try split) <;> omega
theorem ctAdd_mem {L : List (Int × Int)} {s : Int} : ∀ {y : Int × Int}, y ∈ ctAdd L s → (y.1 = s ∨ y ∈ L) := by
  unfold ctAdd
  induction L with
  | nil => intro y h; simp [insG] at h; left; rw [h]
  | cons x L ih =>
    intro y h
    unfold insG at h
    split at h
    · rcases List.mem_cons.1 h with rfl | h
      · right; simp
      · rcases ih h with h | h
        · exact .inl h
        · right; simp [h]
    · split at h
      · rename_i h2
        rcases List.mem_cons.1 h with rfl | h
        · left; exact cmpI_eq.1 h2
        · right; simp [h]
      · rcases List.mem_cons.1 h with rfl | h
        · left; rfl
        · right; exact h
theorem ctAdd_ok {L : List (Int × Int)} {k : Nat} (s : Int) (h : CtsOk L k) : CtsOk (ctAdd L s) (k + 1) := by
  obtain ⟨h1, h2, h3⟩ := h
  refine ⟨?_, ?_, by have := (insG_len (fun y : Int × Int => cmpI y.1 s) (fun y => (y.1, y.2 + 1)) (s, 1) L).2; unfold ctAdd; omega⟩
  · clear h2 h3
    induction L with
    | nil => simp [ctAdd, insG]
    | cons x L ih =>
      obtain ⟨h4, h5⟩ := List.pairwise_cons.1 h1
      have ih := ih h5
      unfold ctAdd insG
      split
      · rename_i hx
        refine List.pairwise_cons.2 ⟨fun y hy => ?_, ih⟩
        rcases ctAdd_mem (L := L) (s := s) hy with h | h
        · rw [h]; exact cmpI_lt.1 hx
        · exact h4 y h
      · rename_i hx
        split
        · exact List.pairwise_cons.2 ⟨fun y hy => h4 y hy, h5⟩
        · rename_i hx2
          refine List.pairwise_cons.2 ⟨fun y hy => ?_, h1⟩
          have h6 : s < x.1 := by
            have a1 : ¬ x.1 < s := fun e => hx (cmpI_lt.2 e)
            have a2 : ¬ x.1 = s := fun e => hx2 (cmpI_eq.2 e)
            omega
          rcases List.mem_cons.1 hy with rfl | h
          · exact h6
          · exact Int.lt_trans h6 (h4 y h)
  · clear h1 h3
    induction L with
    | nil => intro y hy; simp [ctAdd, insG] at hy; rw [hy]; simp only; omega
    | cons x L ih =>
      have ih := ih (fun y hy => h2 y (by simp [hy]))
      have hx0 := h2 x (by simp)
      intro y hy
      unfold ctAdd insG at hy
      split at hy
      · rcases List.mem_cons.1 hy with rfl | h
        · omega
        · exact ih y h
      · split at hy
        · rcases List.mem_cons.1 hy with rfl | h
          · simp only; omega
          · have := h2 y (by simp [h]); omega
        · rcases List.mem_cons.1 hy with rfl | h
          · simp only; omega
          · have := h2 y h; omega
theorem cfUp_ct {L : List (Int × Int)} (s : Int) (h : L.Pairwise (fun a b => a.1 < b.1)) : CfUp (fun y : Int × Int => cmpI y.1 s) L := by
  intro a b ha hb hab hlt
  rcases Nat.lt_or_ge a b with h2 | h2
  · have := List.pairwise_iff_getElem.1 h a b ha hb h2
    exact cmpI_lt.2 (Int.lt_trans this (cmpI_lt.1 hlt))
  · obtain rfl : a = b := by omega
    exact hlt
theorem ctsOf_ok (l : List EvV) : ∀ k, k ≤ l.length → CtsOk (ctsOf (l.take k)) k
  | 0, _ => ⟨by simp [ctsOf], by simp [ctsOf], by simp [ctsOf]⟩
  | k + 1, h => by rw [ctsOf_succ l k (by omega)]; exact ctAdd_ok _ (ctsOf_ok l k (by omega))
end Go.Proofs.Ytlahmcbaiebapaa
