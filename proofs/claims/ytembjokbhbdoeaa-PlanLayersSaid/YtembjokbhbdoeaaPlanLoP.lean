/- Plain: what the reference's Longest computes. -/
import Derived.Test.YtembjokbhbdoeaaPlanChP
namespace Go.Proofs.Ytembjokbhbdoeaa
open Go.RowKit Go.Mem
set_option linter.unusedVariables false
/-- the first longest of those that c admits -/
def pickG (c : Nat → Bool) (f : Nat → List Nat) : Nat → List Nat
  | 0 => []
  | q + 1 => if c q = true ∧ (pickG c f q).length < (f q).length then f q else pickG c f q
theorem pickG_succ (c : Nat → Bool) (f : Nat → List Nat) (q : Nat) : pickG c f (q + 1) = if c q = true ∧ (pickG c f q).length < (f q).length then f q else pickG c f q := rfl
theorem pickG_congr {c : Nat → Bool} {f g : Nat → List Nat} : ∀ q, (∀ p, p < q → f p = g p) → pickG c f q = pickG c g q := by
  intro q
  induction q with
  | zero => intro _; rfl
  | succ q ih =>
    intro h
    rw [pickG_succ, pickG_succ, ih (fun p hp => h p (by omega)), h q (by omega)]
/-- the chain from system i on (as deep as k) -/
def chF (l : List SysV) (m : Nat) : Nat → Nat → List Nat
  | 0, _ => []
  | k + 1, i => i :: pickG (fun q => confB (sysN l i) (sysN l (i + 1 + q))) (fun q => chF l m k (i + 1 + q)) (m - (i + 1))
theorem chF_succ (l : List SysV) (m k i : Nat) : chF l m (k + 1) i = i :: pickG (fun q => confB (sysN l i) (sysN l (i + 1 + q))) (fun q => chF l m k (i + 1 + q)) (m - (i + 1)) := rfl
theorem chF_deep (l : List SysV) (m : Nat) : ∀ k k2 i, i < m → m - i ≤ k → m - i ≤ k2 → chF l m k i = chF l m k2 i := by
  intro k
  induction k with
  | zero => intro k2 i hi h1 h2; omega
  | succ k ih =>
    intro k2 i hi h1 h2
    cases k2 with
    | zero => omega
    | succ k2 =>
      rw [chF_succ, chF_succ, pickG_congr (m - (i + 1)) (fun p hp => ih k2 (i + 1 + p) (by omega) (by omega) (by omega))]
def chC (l : List SysV) (m i : Nat) : List Nat := chF l m (m - i) i
theorem chC_eq (l : List SysV) (m i : Nat) (hi : i < m) : chC l m i = i :: pickG (fun q => confB (sysN l i) (sysN l (i + 1 + q))) (fun q => chC l m (i + 1 + q)) (m - (i + 1)) := by
  unfold chC
  obtain ⟨k, hk⟩ : ∃ k, m - i = k + 1 := ⟨m - i - 1, by omega⟩
  rw [hk, chF_succ, pickG_congr (m - (i + 1)) (fun p hp => chF_deep l m k _ (i + 1 + p) (by omega) (by omega) (Nat.le_refl _))]
/-- does the call for I (the system I - 1, or none) go on with the system I + q -/
def goC (l : List SysV) (I q : Nat) : Bool := decide (I = 0) || confB (sysN l (I - 1)) (sysN l (I + q))
/-- the best that the call has seen behind q systems -/
def bodC (l : List SysV) (m I q : Nat) : List Nat := pickG (goC l I) (fun q => chC l m (I + q)) q
theorem bodC_zero (l : List SysV) (m I : Nat) : bodC l m I 0 = [] := rfl
theorem bodC_succ (l : List SysV) (m I q : Nat) : bodC l m I (q + 1) = if goC l I q = true ∧ (bodC l m I q).length < (chC l m (I + q)).length then chC l m (I + q) else bodC l m I q := rfl
/-- what the call for I gives back -/
def froC (l : List SysV) (m I : Nat) : List Nat := if I = 0 then bodC l m 0 m else (I - 1) :: bodC l m I (m - I)
theorem froC_succ (l : List SysV) (m i : Nat) (hi : i < m) : froC l m (i + 1) = chC l m i := by
  unfold froC
  rw [if_neg (by omega), chC_eq l m i hi]
  unfold bodC goC
  rw [Nat.add_sub_cancel]
  have e : (fun q => decide (i + 1 = 0) || confB (sysN l i) (sysN l (i + 1 + q))) = fun q => confB (sysN l i) (sysN l (i + 1 + q)) := by
    funext q
    rw [decide_eq_false (by omega), Bool.false_or]
  rw [e]
theorem pickG_len {c : Nat → Bool} {f : Nat → List Nat} {b : Nat} : ∀ q, (∀ p, p < q → (f p).length ≤ b) → (pickG c f q).length ≤ b := by
  intro q
  induction q with
  | zero => intro _; exact Nat.zero_le _
  | succ q ih =>
    intro h
    rw [pickG_succ]
    split
    · exact h q (by omega)
    · exact ih (fun p hp => h p (by omega))
theorem chC_len (l : List SysV) (m : Nat) : ∀ d i, m - i = d → i < m → (chC l m i).length ≤ m - i := by
  intro d
  induction d using Nat.strongRecOn with
  | _ d ih =>
    intro i hd hi
    rw [chC_eq l m i hi, List.length_cons]
    have := pickG_len (c := fun q => confB (sysN l i) (sysN l (i + 1 + q))) (f := fun q => chC l m (i + 1 + q)) (b := m - (i + 1)) (m - (i + 1)) (fun p hp => by
      have := ih (m - (i + 1 + p)) (by omega) (i + 1 + p) rfl (by omega)
      show (chC l m (i + 1 + p)).length ≤ _
      omega)
    omega
theorem bodC_len (l : List SysV) (m I q : Nat) (h : I + q ≤ m) : (bodC l m I q).length ≤ m - I :=
  pickG_len q fun p hp => by
    have := chC_len l m _ (I + p) rfl (by omega)
    show (chC l m (I + p)).length ≤ _
    omega
end Go.Proofs.Ytembjokbhbdoeaa
