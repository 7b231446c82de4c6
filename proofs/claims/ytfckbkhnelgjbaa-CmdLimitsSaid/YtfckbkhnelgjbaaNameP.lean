/- Names: what kind.Name and the reference's IsName say of a string. No program is named here. -/
import Derived.Lib.SlTrimSet
namespace Go.Nm
set_option linter.unusedVariables false
def alpha : List UInt8 := [97, 98, 99, 100, 101, 102, 103, 104, 105, 106, 107, 108, 109, 110, 111, 112, 113, 114, 115, 116, 117, 118, 119, 120, 121, 122, 48, 49, 50, 51, 52, 53, 54, 55, 56, 57]
def lowB (c : UInt8) : Bool := decide (97 ≤ c.toNat) && decide (c.toNat ≤ 122)
def digB (c : UInt8) : Bool := decide (48 ≤ c.toNat) && decide (c.toNat ≤ 57)
def nameB (l : List UInt8) : Bool := decide (0 < l.length) && (decide (l.length ≤ 16) && (lowB (l.getD 0 0) && l.all (fun c => lowB c || digB c)))
theorem alpha_fin : ∀ n : Fin 256, alpha.contains (UInt8.ofNat n.val) = (lowB (UInt8.ofNat n.val) || digB (UInt8.ofNat n.val)) := by decide +kernel
theorem alpha_iff (c : UInt8) : alpha.contains c = (lowB c || digB c) := by
  have := alpha_fin ⟨c.toNat, c.toNat_lt⟩
  simpa using this
theorem dropWhile_nil {α : Type} (p : α → Bool) (l : List α) : l.dropWhile p = [] ↔ l.all p = true := by
  induction l with
  | nil => simp
  | cons a l ih =>
    rw [List.dropWhile_cons]
    by_cases h : p a = true
    · rw [if_pos h, ih]; simp [h]
    · rw [if_neg h]; simp [h]
theorem trim_nil (l cs : List UInt8) : Lib.trimS l cs = [] ↔ l.all (cs.contains ·) = true := by
  unfold Lib.trimS Lib.trimLeftS
  rw [dropWhile_nil]
  unfold Lib.trimRightS
  constructor
  · intro h
    by_cases hr : l.reverse.dropWhile (cs.contains ·) = []
    · have := (dropWhile_nil _ _).1 hr
      simpa using this
    · exfalso
      obtain ⟨b, t, hbt⟩ := List.exists_cons_of_ne_nil hr
      have h1 : cs.contains b = false := by
        have := List.head?_dropWhile_not (p := (cs.contains ·)) (l := l.reverse)
        rw [hbt] at this
        simpa using this
      rw [hbt] at h
      simp at h
      have := h.2
      simp at h1
      exact h1 this
  · intro h
    have : l.reverse.dropWhile (cs.contains ·) = [] := (dropWhile_nil _ _).2 (by simpa using h)
    rw [this]; rfl
theorem name_ref (l : List UInt8) (h0 : 0 < l.length) (h1 : l.length ≤ 16) (h2 : Lib.trimS l alpha = []) : nameB l = decide (57 < (l.getD 0 0).toNat) := by
  have ha := (trim_nil l alpha).1 h2
  have hb : l.all (fun c => lowB c || digB c) = true := by
    rw [List.all_eq_true] at ha ⊢
    intro c hc
    rw [← alpha_iff]; exact ha c hc
  unfold nameB
  rw [hb, decide_eq_true h0, decide_eq_true h1, Bool.true_and, Bool.true_and, Bool.and_true]
  have hm : l.getD 0 0 ∈ l := by
    rw [List.getD_eq_getElem?_getD, List.getElem?_eq_getElem h0]; exact List.getElem_mem h0
  have hc := List.all_eq_true.1 hb _ hm
  generalize l.getD 0 0 = c at hc ⊢
  unfold lowB digB at *
  rw [Bool.eq_iff_iff]
  simp only [Bool.or_eq_true, Bool.and_eq_true, decide_eq_true_eq] at hc ⊢
  omega
theorem name_trim (l : List UInt8) (h2 : Lib.trimS l alpha ≠ []) : nameB l = false := by
  have : l.all (fun c => lowB c || digB c) = false := by
    rw [Bool.eq_false_iff]
    intro hb
    refine h2 ((trim_nil l alpha).2 ?_)
    rw [List.all_eq_true] at hb ⊢
    intro c hc
    rw [alpha_iff]; exact hb c hc
  unfold nameB
  rw [this]; simp
theorem name_long (l : List UInt8) (h : 16 < l.length) : nameB l = false := by unfold nameB; rw [decide_eq_false (show ¬ l.length ≤ 16 by omega)]; simp
theorem name_nil (l : List UInt8) (h : l.length = 0) : nameB l = false := by unfold nameB; rw [decide_eq_false (show ¬ 0 < l.length by omega)]; simp
/-- the code's test at place i -/
def okAt (l : List UInt8) (i : Nat) : Bool := lowB (l.getD i 0) || (decide (0 < i) && digB (l.getD i 0))
theorem name_bad (l : List UInt8) (i : Nat) (h : i < l.length) (hb : okAt l i = false) : nameB l = false := by
  have hm : l.getD i 0 ∈ l := by
    rw [List.getD_eq_getElem?_getD, List.getElem?_eq_getElem h]; exact List.getElem_mem h
  unfold okAt at hb
  by_cases hi : 0 < i
  · rw [decide_eq_true hi, Bool.true_and] at hb
    have : l.all (fun c => lowB c || digB c) = false := by
      rw [Bool.eq_false_iff]
      intro ha
      have := List.all_eq_true.1 ha _ hm
      rw [hb] at this
      exact absurd this (by decide)
    unfold nameB; rw [this]; simp
  · have h0 : i = 0 := by omega
    subst h0
    rw [decide_eq_false (by omega), Bool.false_and, Bool.or_false] at hb
    unfold nameB; rw [hb]; simp
theorem name_good (l : List UInt8) (h0 : 0 < l.length) (h1 : l.length ≤ 16) (h : ∀ i, i < l.length → okAt l i = true) : nameB l = true := by
  unfold nameB
  rw [decide_eq_true h0, decide_eq_true h1, Bool.true_and, Bool.true_and, Bool.and_eq_true]
  constructor
  · have := h 0 h0
    unfold okAt at this
    rw [decide_eq_false (by omega), Bool.false_and, Bool.or_false] at this
    exact this
  · rw [List.all_eq_true]
    intro c hc
    obtain ⟨i, hi, rfl⟩ := List.mem_iff_getElem.1 hc
    have := h i hi
    unfold okAt at this
    rw [List.getD_eq_getElem?_getD, List.getElem?_eq_getElem hi] at this
    simp only [Option.getD_some, Bool.or_eq_true, Bool.and_eq_true] at this ⊢
    rcases this with h | h
    · exact .inl h
    · exact .inr h.2
end Go.Nm
