/- Plain: what plan.Right computes. -/
import Derived.Test.YtembjokbhbdoeaaPlanDepP
namespace Go.Proofs.Ytembjokbhbdoeaa
open Go.RowKit Go.Mem
set_option linter.unusedVariables false
def fillRow (m d : Nat) : Int → List Int → List Int → Option (List Int)
  | _, [], at_ => some at_
  | prev, k :: r, at_ => if k < 0 ∨ (m : Int) ≤ k ∨ 0 < at_.getD k.toNat 0 ∨ k ≤ prev then none else fillRow m d k r (at_.set k.toNat ((d : Int) + 1))
theorem fillRow_nil (m d : Nat) (prev : Int) (at_ : List Int) : fillRow m d prev [] at_ = some at_ := rfl
theorem fillRow_cons (m d : Nat) (prev k : Int) (r at_ : List Int) : fillRow m d prev (k :: r) at_ = if k < 0 ∨ (m : Int) ≤ k ∨ 0 < at_.getD k.toNat 0 ∨ k ≤ prev then none else fillRow m d k r (at_.set k.toNat ((d : Int) + 1)) := by rw [fillRow]
def fillRows (m : Nat) : Nat → List (List Int) → List Int → Option (List Int)
  | _, [], at_ => some at_
  | d, x :: rs, at_ => (fillRow m d (-1) x at_).bind fun a => fillRows m (d + 1) rs a
theorem fillRows_nil (m d : Nat) (at_ : List Int) : fillRows m d [] at_ = some at_ := rfl
theorem fillRows_cons (m d : Nat) (x : List Int) (rs : List (List Int)) (at_ : List Int) : fillRows m d (x :: rs) at_ = (fillRow m d (-1) x at_).bind fun a => fillRows m (d + 1) rs a := by rw [fillRows]
def lens (ls : List (List Int)) : Nat := (ls.map (·.length)).sum
theorem lens_cons (x : List Int) (rs : List (List Int)) : lens (x :: rs) = x.length + lens rs := by unfold lens; simp
/-- what Right says yes to -/
def RightS (l : List SysV) (m : Nat) (layers : List (List Int)) : Prop :=
  ∃ at_, fillRows m 0 layers (List.replicate m 0) = some at_ ∧ lens layers = m ∧ ∀ i j, j < i → i < m → confB (sysN l j) (sysN l i) = true → at_.getD j 0 < at_.getD i 0
theorem prev_at (x : List Int) (i : Nat) (h : i < x.length) : x.drop i = x.getD i 0 :: x.drop (i + 1) := by
  rw [List.drop_eq_getElem_cons h, List.getD_eq_getElem?_getD, List.getElem?_eq_getElem h]; rfl
def prevI (x : List Int) (i : Nat) : Int := if i = 0 then -1 else x.getD (i - 1) 0
theorem prevI_succ (x : List Int) (i : Nat) : prevI x (i + 1) = x.getD i 0 := by unfold prevI; rw [if_neg (by omega)]; rfl
theorem fillRow_len (m d : Nat) (x : List Int) : ∀ prev at_ a, fillRow m d prev x at_ = some a → a.length = at_.length := by
  induction x with
  | nil => intro prev at_ a h; injection h with h; rw [← h]
  | cons k r ih =>
    intro prev at_ a h
    rw [fillRow_cons] at h
    split at h
    · cases h
    · have := ih _ _ _ h; rw [this, List.length_set]
end Go.Proofs.Ytembjokbhbdoeaa
