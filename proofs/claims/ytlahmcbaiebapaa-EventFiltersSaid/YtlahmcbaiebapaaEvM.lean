/- Two maps of the law's own beside two sorted lists. -/
import Derived.Test.YtlahmcbaiebapaaEvL
import Derived.Test.YtlahmcbaiebapaaEvN
import Derived.OwnWalk
import Derived.WideKeyArgs2
import Derived.Maps.OwnSet
import Derived.Maps.OwnOps
import Derived.Maps.Views
import Derived.Maps.Ext
import Derived.DeepKeys4
import Derived.Carry
namespace Go.Proofs.Ytlahmcbaiebapaa
open Go.ChangeShapes Go.WideShapes Go.ChangeAt Go.RowKit Go.Mem Go.Slt Go.Maps
set_option linter.unusedVariables false
/-- strictly rising as to cf -/
def RiseG {α : Type} (cf : α → Int) (L : List α) : Prop := L.Pairwise (fun a b => 0 ≤ cf a → 0 < cf b)
theorem insG_mem {α : Type} (cf : α → Int) (upd : α → α) (new : α) (hn : cf new = 0) (hu : ∀ x, cf x = 0 → cf (upd x) = 0) : ∀ (L : List α), RiseG cf L → ∀ z, z ∈ insG cf upd new L ↔ (cf z ≠ 0 ∧ z ∈ L) ∨ (∃ x ∈ L, cf x = 0 ∧ z = upd x) ∨ ((¬ ∃ x ∈ L, cf x = 0) ∧ z = new)
  | [], _, z => by simp [insG]
  | y :: r, hS, z => by
    obtain ⟨h1, h2⟩ := List.pairwise_cons.1 hS
    have ih := insG_mem cf upd new hn hu r h2 z
    unfold insG
    split
    · rename_i hy
      rw [List.mem_cons, ih]
      constructor
      · rintro (rfl | ⟨a, b⟩ | ⟨x, a, b, c⟩ | ⟨a, b⟩)
        · exact .inl ⟨by omega, by simp⟩
        · exact .inl ⟨a, by simp [b]⟩
        · exact .inr (.inl ⟨x, by simp [a], b, c⟩)
        · refine .inr (.inr ⟨?_, b⟩)
          rintro ⟨x, hx, hx0⟩
          rcases List.mem_cons.1 hx with rfl | hx
          · omega
          · exact a ⟨x, hx, hx0⟩
      · rintro (⟨a, b⟩ | ⟨x, a, b, c⟩ | ⟨a, b⟩)
        · rcases List.mem_cons.1 b with rfl | b
          · exact .inl rfl
          · exact .inr (.inl ⟨a, b⟩)
        · rcases List.mem_cons.1 a with rfl | a
          · omega
          · exact .inr (.inr (.inl ⟨x, a, b, c⟩))
        · exact .inr (.inr (.inr ⟨fun ⟨x, hx, h0⟩ => a ⟨x, by simp [hx], h0⟩, b⟩))
    · rename_i hy
      have hr : ∀ x ∈ r, 0 < cf x := fun x hx => h1 x hx (by omega)
      split
      · rename_i hy0
        rw [List.mem_cons]
        constructor
        · rintro (rfl | b)
          · exact .inr (.inl ⟨y, by simp, hy0, rfl⟩)
          · exact .inl ⟨by have := hr z b; omega, by simp [b]⟩
        · rintro (⟨a, b⟩ | ⟨x, a, b, c⟩ | ⟨a, b⟩)
          · rcases List.mem_cons.1 b with rfl | b
            · exact (a hy0).elim
            · exact .inr b
          · rcases List.mem_cons.1 a with rfl | a
            · exact .inl c
            · have := hr x a; omega
          · exact (a ⟨y, by simp, hy0⟩).elim
      · rename_i hy0
        have hno : ¬ ∃ x ∈ y :: r, cf x = 0 := by
          rintro ⟨x, hx, h0⟩
          rcases List.mem_cons.1 hx with rfl | hx
          · exact hy0 h0
          · have := hr x hx; omega
        rw [List.mem_cons]
        constructor
        · rintro (rfl | b)
          · exact .inr (.inr ⟨hno, rfl⟩)
          · refine .inl ⟨fun h => hno ⟨z, b, h⟩, b⟩
        · rintro (⟨a, b⟩ | ⟨x, a, b, c⟩ | ⟨a, b⟩)
          · exact .inr b
          · exact (hno ⟨x, a, b⟩).elim
          · exact .inl b
theorem insG_len2 {α : Type} (cf : α → Int) (upd : α → α) (new : α) : ∀ (L : List α), RiseG cf L → ((∃ x ∈ L, cf x = 0) → (insG cf upd new L).length = L.length) ∧ ((¬ ∃ x ∈ L, cf x = 0) → (insG cf upd new L).length = L.length + 1)
  | [], _ => ⟨fun ⟨x, h, _⟩ => (by simp at h), fun _ => rfl⟩
  | y :: r, hS => by
    obtain ⟨h1, h2⟩ := List.pairwise_cons.1 hS
    obtain ⟨i1, i2⟩ := insG_len2 cf upd new r h2
    unfold insG
    split
    · rename_i hy
      refine ⟨fun ⟨x, hx, h0⟩ => ?_, fun h => ?_⟩
      · rcases List.mem_cons.1 hx with rfl | hx
        · omega
        · simp [i1 ⟨x, hx, h0⟩]
      · simp [i2 (fun ⟨x, hx, h0⟩ => h ⟨x, by simp [hx], h0⟩)]
    · rename_i hy
      split
      · rename_i hy0
        exact ⟨fun _ => by simp, fun h => (h ⟨y, by simp, hy0⟩).elim⟩
      · rename_i hy0
        refine ⟨fun ⟨x, hx, h0⟩ => ?_, fun _ => by simp⟩
        rcases List.mem_cons.1 hx with rfl | hx
        · exact (hy0 h0).elim
        · have := h1 x hx (by omega); omega
/-- a map, told by a list of its entries -/
structure MRel (D z : DataW Value) (E : List (Lit × Value)) : Prop where
  tidy : Tidy D
  size : Maps.size D = E.length
  at_ : ∀ p ∈ E, D.atKey p.1 z = .held p.2
  has_ : ∀ k, Maps.has D k = true ↔ ∃ p ∈ E, p.1 = k
theorem MRel.nil (z : DataW Value) : MRel (.map []) z [] := ⟨tidy_empty, rfl, fun p h => (by simp at h), fun k => ⟨fun h => (by simp [Maps.has] at h), fun ⟨p, h, _⟩ => (by simp at h)⟩⟩
theorem MRel.no {D z : DataW Value} {E : List (Lit × Value)} (h : MRel D z E) {k : Lit} (hk : ¬ ∃ p ∈ E, p.1 = k) : D.atKey k z = z :=
  atKey_of_not_has (by
    cases hh : Maps.has D k with
    | false => rfl
    | true => exact (hk ((h.has_ k).1 hh)).elim) z
theorem MRel.put {D z : DataW Value} {E E' : List (Lit × Value)} (h : MRel D z E) {k : Lit} (hk : WideAt.IsKeyLit k) (v : Value) (hl1 : (∃ p ∈ E, p.1 = k) → E'.length = E.length) (hl2 : (¬ ∃ p ∈ E, p.1 = k) → E'.length = E.length + 1) (hm : ∀ p, p ∈ E' ↔ p = (k, v) ∨ (p.1 ≠ k ∧ p ∈ E)) : MRel (D.put k (.held v)) z E' := by
  have hI := h.tidy.isMap
  refine ⟨h.tidy.put hk _, ?_, fun p hp => ?_, fun k' => ?_⟩
  · rw [size_put h.tidy, h.size]
    by_cases hh : ∃ p ∈ E, p.1 = k
    · rw [if_pos ((h.has_ k).2 hh), hl1 hh]
    · rw [if_neg (fun e => hh ((h.has_ k).1 e)), hl2 hh]
  · rcases (hm p).1 hp with rfl | ⟨h1, h2⟩
    · exact atKey_put_same hI hk _ _
    · rw [atKey_put_other h1]; exact h.at_ p h2
  · by_cases e : k' = k
    · subst e
      exact ⟨fun _ => ⟨(k', v), (hm _).2 (.inl rfl), rfl⟩, fun _ => has_put_same hI hk _⟩
    · rw [has_put_other e, h.has_ k']
      constructor
      · rintro ⟨p, h1, rfl⟩; exact ⟨p, (hm p).2 (.inr ⟨e, h1⟩), rfl⟩
      · rintro ⟨p, h1, rfl⟩
        rcases (hm p).1 h1 with h2 | ⟨_, h2⟩
        · rw [h2] at e; exact (e rfl).elim
        · exact ⟨p, h2, rfl⟩
/-- the counts' entries -/
def ctE (L : List (Int × Int)) : List (Lit × Value) := L.map fun y => (.int .i64 y.1, .int .i64 y.2)
theorem rise_ct {L : List (Int × Int)} (s : Int) (h : L.Pairwise (fun a b => a.1 < b.1)) : RiseG (fun y : Int × Int => cmpI y.1 s) L := by
  refine h.imp fun {a b} hab h0 => ?_
  change 0 ≤ cmpI a.1 s at h0
  change 0 < cmpI b.1 s
  rcases cmpI_cases a.1 s with ⟨c, e⟩ | ⟨c, e⟩ | ⟨c, e⟩
  · omega
  · rcases cmpI_cases b.1 s with ⟨c2, e2⟩ | ⟨c2, e2⟩ | ⟨c2, e2⟩ <;> omega
  · rcases cmpI_cases b.1 s with ⟨c2, e2⟩ | ⟨c2, e2⟩ | ⟨c2, e2⟩ <;> omega
theorem ct_put {D : DataW Value} {L : List (Int × Int)} (s c : Int) (hL : L.Pairwise (fun a b => a.1 < b.1)) (h : MRel D (.held (.int .i64 0)) (ctE L)) (hc : D.atKey (.int .i64 s) (.held (.int .i64 0)) = .held (.int .i64 c)) : MRel (D.put (.int .i64 s) (.held (.int .i64 (c + 1)))) (.held (.int .i64 0)) (ctE (ctAdd L s)) := by
  have hS := rise_ct s hL
  have hlen := insG_len2 (fun y : Int × Int => cmpI y.1 s) (fun y => (y.1, y.2 + 1)) (s, 1) L hS
  have hmem := insG_mem (fun y : Int × Int => cmpI y.1 s) (fun y => (y.1, y.2 + 1)) (s, 1) (cmpI_eq.2 rfl) (fun x hx => hx) L hS
  have key : (∃ p ∈ ctE L, p.1 = Lit.int .i64 s) ↔ ∃ x ∈ L, cmpI x.1 s = 0 := by
    unfold ctE
    constructor
    · rintro ⟨p, hp, e⟩
      obtain ⟨x, hx, rfl⟩ := List.mem_map.1 hp
      injection e with _ e
      exact ⟨x, hx, cmpI_eq.2 e⟩
    · rintro ⟨x, hx, e⟩
      exact ⟨_, List.mem_map.2 ⟨x, hx, rfl⟩, by rw [cmpI_eq.1 e]⟩
  have hold : ∀ x ∈ L, cmpI x.1 s = 0 → x.2 = c := fun x hx h0 => by
    have := h.at_ (.int .i64 x.1, .int .i64 x.2) (List.mem_map.2 ⟨x, hx, rfl⟩)
    simp only at this
    rw [cmpI_eq.1 h0, hc] at this
    injection this with this
    injection this with _ this
    exact this.symm
  refine h.put (k := .int .i64 s) (show WideAt.IsKeyLit (.int .i64 s) from trivial) _ (fun hh => ?_) (fun hh => ?_) (fun p => ?_)
  · unfold ctE ctAdd; rw [List.length_map, List.length_map]; exact hlen.1 (key.1 hh)
  · unfold ctE ctAdd; rw [List.length_map, List.length_map]; exact hlen.2 (fun q => hh (key.2 q))
  · unfold ctE ctAdd
    constructor
    · intro hp
      obtain ⟨z, hz, rfl⟩ := List.mem_map.1 hp
      rcases (hmem z).1 hz with ⟨h1, h2⟩ | ⟨x, h1, h2, rfl⟩ | ⟨h1, rfl⟩
      · right
        refine ⟨fun e => ?_, List.mem_map.2 ⟨z, h2, rfl⟩⟩
        injection e with _ e
        exact h1 (cmpI_eq.2 e)
      · left
        rw [hold x h1 h2, cmpI_eq.1 h2]
      · left
        have hno := h.no (k := .int .i64 s) (fun q => h1 (key.1 q))
        rw [hc] at hno
        injection hno with hno
        injection hno with _ hno
        rw [hno]; rfl
    · rintro (rfl | ⟨h1, h2⟩)
      · by_cases hh : ∃ x ∈ L, cmpI x.1 s = 0
        · obtain ⟨x, hx, h0⟩ := hh
          exact List.mem_map.2 ⟨(x.1, x.2 + 1), (hmem _).2 (.inr (.inl ⟨x, hx, h0, rfl⟩)), by rw [cmpI_eq.1 h0, hold x hx h0]⟩
        · have hno := h.no (k := .int .i64 s) (fun q => hh (key.1 q))
          rw [hc] at hno
          injection hno with hno
          injection hno with _ hno
          exact List.mem_map.2 ⟨(s, 1), (hmem _).2 (.inr (.inr ⟨hh, rfl⟩)), by rw [hno]; rfl⟩
      · obtain ⟨x, hx, rfl⟩ := List.mem_map.1 h2
        exact List.mem_map.2 ⟨x, (hmem x).2 (.inl ⟨fun e => h1 (by rw [cmpI_eq.1 e]), hx⟩), rfl⟩
end Go.Proofs.Ytlahmcbaiebapaa
