/- The proof of a leaf, along the levels. -/
import Derived.Test.YtdhaaeaacbnghaaMerkleP4
namespace Go.Mk
variable (T : Int → Int → Int)
def sibs : List (List Int) → Nat → List Int
  | [], _ => []
  | l :: ls, i => (if sib i < l.length then [l.getD (sib i) 0] else []) ++ sibs ls (i / 2)
theorem sibs_levs : ∀ (n : Nat) (l : List Int) (i : Nat), l.length = n → i < n → sibs (levs T l) i = prov T l i := by
  intro n
  induction n using Nat.strongRecOn with
  | _ n ih =>
    intro l i hl hi
    by_cases h : n ≤ 1
    · obtain rfl : i = 0 := by omega
      rw [levs_short T l (by omega), prov_one T l 0 (by omega)]
      simp [sibs, sib]; omega
    · rw [levs_long T l (by omega), prov_pair T n l i hl (by omega) hi]
      simp only [sibs]
      rw [ih (pair T l).length (by rw [pair_length]; omega) (pair T l) (i / 2) rfl (by rw [pair_length]; omega), hl]
theorem sibs_drop (ls : List (List Int)) (k i : Nat) (h : k < ls.length) : sibs (ls.drop k) i = (if sib i < (ls.getD k []).length then [(ls.getD k []).getD (sib i) 0] else []) ++ sibs (ls.drop (k + 1)) (i / 2) := by
  rw [List.drop_eq_getElem_cons h]
  simp only [sibs]
  have e : ls.getD k [] = ls[k] := by rw [List.getD_eq_getElem?_getD, List.getElem?_eq_getElem h]; rfl
  rw [e]
theorem sibs_end (ls : List (List Int)) (k i : Nat) (h : ls.length ≤ k) : sibs (ls.drop k) i = [] := by
  rw [List.drop_eq_nil_of_le h]; rfl
end Go.Mk
