/- Plain: what the reference's Divided computes; a map of integers of the call's own, told by the entries in the order in which they were put. -/
import Derived.Test.YtembjokbhbdoeaaPlanRiP
import Derived.Test.YtembjokbhbdoeaaPlanSorted
import Derived.Maps.OwnSet
import Derived.Maps.OwnOps
import Derived.Maps.Views
namespace Go.Proofs.Ytembjokbhbdoeaa
open Go.RowKit Go.Mem
set_option linter.unusedVariables false
/-- the latest entry of a key -/
def look : List (Int × Int) → Int → Int
  | [], _ => 0
  | (a, d) :: r, k => if a = k then d else look r k
theorem look_cons (a d k : Int) (r : List (Int × Int)) : look ((a, d) :: r) k = if a = k then d else look r k := rfl
/-- how many keys differ -/
def distN : List Int → Nat
  | [] => 0
  | k :: r => if k ∈ r then distN r else distN r + 1
theorem distN_cons (k : Int) (r : List Int) : distN (k :: r) = if k ∈ r then distN r else distN r + 1 := rfl
def keysE (E : List (Int × Int)) : List Int := E.map Prod.fst
def MapIs (D : DataW Unit) (E : List (Int × Int)) : Prop :=
  (∀ k : Int, Maps.has D (.int .i64 k) = decide (k ∈ keysE E)) ∧ (∀ k : Int, D.atKey (.int .i64 k) (.lit (.int .i64 0)) = .lit (.int .i64 (look E k))) ∧ Maps.size D = distN (keysE E)
theorem MapIs.nil : MapIs (.map []) [] := ⟨fun k => rfl, fun k => rfl, rfl⟩
theorem MapIs.put {D : DataW Unit} {E : List (Int × Int)} (h : MapIs D E) (ht : Maps.Tidy D) (k d : Int) (hk : WideAt.IsKeyLit (.int .i64 k)) : MapIs (D.put (.int .i64 k) (.lit (.int .i64 d))) ((k, d) :: E) := by
  obtain ⟨h1, h2, h3⟩ := h
  refine ⟨fun q => ?_, fun q => ?_, ?_⟩
  · by_cases e : q = k
    · subst e
      rw [Maps.has_put_same ht.isMap hk]
      exact (decide_eq_true (by unfold keysE; simp)).symm
    · rw [Maps.has_put_other (by intro h; injection h with _ h; exact e h), h1]
      unfold keysE
      simp [e]
  · by_cases e : k = q
    · subst e
      rw [Maps.atKey_put_same ht.isMap hk, look_cons, if_pos rfl]
    · rw [Maps.atKey_put_other (by intro h; injection h with _ h; exact e h.symm), h2, look_cons, if_neg e]
  · rw [Maps.size_put ht, h1, h3]
    show _ = distN (k :: keysE E)
    rw [distN_cons]
    by_cases e : k ∈ keysE E
    · rw [if_pos (decide_eq_true e), if_pos e]
    · rw [if_neg (by simpa using e), if_neg e]
def rowE (d : Int) : List Int → List (Int × Int) → List (Int × Int)
  | [], E => E
  | k :: r, E => rowE d r ((k, d) :: E)
theorem rowE_nil (d : Int) (E : List (Int × Int)) : rowE d [] E = E := rfl
theorem rowE_cons (d k : Int) (r : List Int) (E : List (Int × Int)) : rowE d (k :: r) E = rowE d r ((k, d) :: E) := rfl
def rowsE : Nat → List (List Int) → List (Int × Int) → List (Int × Int)
  | _, [], E => E
  | d, x :: rs, E => rowsE (d + 1) rs (rowE d x E)
theorem rowsE_nil (d : Nat) (E : List (Int × Int)) : rowsE d [] E = E := rfl
theorem rowsE_cons (d : Nat) (x : List Int) (rs : List (List Int)) (E : List (Int × Int)) : rowsE d (x :: rs) E = rowsE (d + 1) rs (rowE d x E) := rfl
theorem rowE_len (d : Int) (x : List Int) : ∀ E, (rowE d x E).length = E.length + x.length := by
  induction x with
  | nil => intro E; rfl
  | cons k r ih => intro E; rw [rowE_cons, ih, List.length_cons, List.length_cons]; omega
theorem rowsE_len (ls : List (List Int)) : ∀ d E, (rowsE d ls E).length = E.length + lens ls := by
  induction ls with
  | nil => intro d E; rfl
  | cons x rs ih => intro d E; rw [rowsE_cons, ih, rowE_len, lens_cons]; omega
/-- what Divided says yes to -/
def DivS (l : List SysV) (m : Nat) (ls : List (List Int)) : Prop :=
  (∀ x ∈ ls, SortedL x) ∧ lens ls = m ∧ distN (keysE (rowsE 0 ls [])) = m ∧
  ∀ i : Nat, i < m → (i : Int) ∈ keysE (rowsE 0 ls []) ∧ ∀ j : Nat, j < i → confB (sysN l i) (sysN l j) = true → look (rowsE 0 ls []) j < look (rowsE 0 ls []) i
end Go.Proofs.Ytembjokbhbdoeaa
