/- Numbers of varying length in a list of bits (plain). -/
import Derived.Test.YtdhaaeaacbnghaaBitsP
namespace Go.Bp
open Go.RowKit
/-- The group's four bits, and whether more follow. -/
def xg (L : List Bool) (p j : Nat) : Nat := bval (seg L (p + 5 * j) 4)
def fl (L : List Bool) (p j : Nat) : Bool := L.getD (p + 5 * j + 4) false
theorem xg_lt (L : List Bool) (p j : Nat) : xg L p j < 16 := seg_bval_lt L (p + 5 * j) 4
theorem seg5 (L : List Bool) (p j : Nat) (h : p + 5 * j + 5 ≤ L.length) : bval (seg L (p + 5 * j) 5) = xg L p j + 16 * (fl L p j).toNat := by
  rw [seg_bval_succ L (p + 5 * j) 4 (by omega)]; rfl
def valN (L : List Bool) (p : Nat) : Nat → Nat
  | 0 => 0
  | i + 1 => valN L p i + 16 ^ i * xg L p i
theorem valN_lt (L : List Bool) (p : Nat) : ∀ i, valN L p i < 16 ^ i
  | 0 => by simp [valN]
  | i + 1 => by
    have h1 := valN_lt L p i
    have h2 := xg_lt L p i
    have h3 : 16 ^ i * xg L p i ≤ 16 ^ i * 15 := Nat.mul_le_mul_left _ (by omega)
    show valN L p i + 16 ^ i * xg L p i < 16 ^ (i + 1)
    rw [Nat.pow_succ]; omega
def natF (L : List Bool) (p : Nat) : Nat → Nat → Nat × Nat × Nat
  | 0, _ => (0, 0, 0)
  | f + 1, i => if L.length < p + 5 * i + 5 then (0, 14, p) else if i = 16 ∨ (0 < i ∧ xg L p i = 0 ∧ fl L p i = false) then (0, 3, p)
      else if fl L p i = true then natF L p f (i + 1) else (valN L p (i + 1), 0, p + 5 * (i + 1))
/-- What is read: the number, the error, the place behind. -/
def natR (L : List Bool) (p : Nat) : Nat × Nat × Nat := natF L p 17 0
theorem natF_short (L : List Bool) (p f i : Nat) (h : L.length < p + 5 * i + 5) : natF L p (f + 1) i = (0, 14, p) := by simp only [natF]; rw [if_pos h]
theorem natF_form (L : List Bool) (p f i : Nat) (h : ¬ L.length < p + 5 * i + 5) (h2 : i = 16 ∨ (0 < i ∧ xg L p i = 0 ∧ fl L p i = false)) : natF L p (f + 1) i = (0, 3, p) := by simp only [natF]; rw [if_neg h, if_pos h2]
theorem natF_more (L : List Bool) (p f i : Nat) (h : ¬ L.length < p + 5 * i + 5) (h2 : i ≠ 16) (h3 : fl L p i = true) : natF L p (f + 1) i = natF L p f (i + 1) := by
  simp only [natF]; rw [if_neg h, if_neg (by rw [h3]; simp [h2]), if_pos h3]
theorem natF_end (L : List Bool) (p f i : Nat) (h : ¬ L.length < p + 5 * i + 5) (h2 : i ≠ 16) (h3 : fl L p i = false) (h4 : i = 0 ∨ xg L p i ≠ 0) : natF L p (f + 1) i = (valN L p (i + 1), 0, p + 5 * (i + 1)) := by
  simp only [natF]; rw [if_neg h, if_neg (by intro hh; rcases hh with hh | ⟨a, b, _⟩ <;> rcases h4 with h4 | h4 <;> omega), if_neg (by rw [h3]; simp)]
theorem natF_lt (L : List Bool) (p : Nat) (hp : p ≤ L.length) : ∀ f i, f + i = 17 → (natF L p f i).1 < 18446744073709551616 ∧ ((natF L p f i).2.1 = 0 ∨ (natF L p f i).2.1 = 3 ∨ (natF L p f i).2.1 = 14) ∧ (natF L p f i).2.2 ≤ L.length
  | 0, i, h => by simp [natF]
  | f + 1, i, h => by
    by_cases h1 : L.length < p + 5 * i + 5
    · rw [natF_short L p f i h1]; simp; omega
    · by_cases h2 : i = 16 ∨ (0 < i ∧ xg L p i = 0 ∧ fl L p i = false)
      · rw [natF_form L p f i h1 h2]; simp; omega
      · by_cases h3 : fl L p i = true
        · rw [natF_more L p f i h1 (fun e => h2 (.inl e)) h3]
          exact natF_lt L p hp f (i + 1) (by omega)
        · have h3' : fl L p i = false := by simpa using h3
          rw [natF_end L p f i h1 (fun e => h2 (.inl e)) h3' (by
            by_cases h4 : i = 0
            · exact .inl h4
            · exact .inr fun e => h2 (.inr ⟨by omega, e, h3'⟩))]
          have := valN_lt L p (i + 1)
          have h5 : 16 ^ (i + 1) ≤ 16 ^ 16 := Nat.pow_le_pow_right (by omega) (by
            have : i ≠ 16 := fun e => h2 (.inl e)
            omega)
          have h6 : 16 ^ 16 = 18446744073709551616 := by decide
          exact ⟨by show valN L p (i + 1) < _; omega, .inl rfl, by show p + 5 * (i + 1) ≤ _; omega⟩
theorem natR_lt (L : List Bool) (p : Nat) (hp : p ≤ L.length) : (natR L p).1 < 18446744073709551616 ∧ ((natR L p).2.1 = 0 ∨ (natR L p).2.1 = 3 ∨ (natR L p).2.1 = 14) ∧ (natR L p).2.2 ≤ L.length := natF_lt L p hp 17 0 rfl
theorem natF_val (L : List Bool) (p : Nat) : ∀ f i, f + i = 17 → (natF L p f i).2.1 ≠ 0 → (natF L p f i).1 = 0
  | 0, i, h => by simp [natF]
  | f + 1, i, h => by
    by_cases h1 : L.length < p + 5 * i + 5
    · rw [natF_short L p f i h1]; simp
    · by_cases h2 : i = 16 ∨ (0 < i ∧ xg L p i = 0 ∧ fl L p i = false)
      · rw [natF_form L p f i h1 h2]; simp
      · by_cases h3 : fl L p i = true
        · rw [natF_more L p f i h1 (fun e => h2 (.inl e)) h3]
          exact natF_val L p f (i + 1) (by omega)
        · have h3' : fl L p i = false := by simpa using h3
          rw [natF_end L p f i h1 (fun e => h2 (.inl e)) h3' (by
            by_cases h4 : i = 0
            · exact .inl h4
            · exact .inr fun e => h2 (.inr ⟨by omega, e, h3'⟩))]
          intro hh; exact absurd rfl hh
theorem natR_val (L : List Bool) (p : Nat) : (natR L p).2.1 ≠ 0 → (natR L p).1 = 0 := natF_val L p 17 0 rfl
theorem and15 (a : Nat) (h : a < 18446744073709551616) : bits .and .u64 (a : Int) 15 = ((a % 16 : Nat) : Int) := by
  have := W64.bits_and_u64 a 15 h (by omega)
  rw [show ((15 : Nat) : Int) = 15 from rfl] at this
  rw [this]; congr 1
  exact Nat.and_two_pow_sub_one_eq_mod a 4
/-- From the groups' end down. -/
def hiN (L : List Bool) (p N : Nat) : Nat → Nat
  | 0 => 0
  | d + 1 => 16 * hiN L p N d + xg L p (N - (d + 1))
theorem valN_hi (L : List Bool) (p N : Nat) : ∀ d, d ≤ N → valN L p N = valN L p (N - d) + 16 ^ (N - d) * hiN L p N d
  | 0, _ => by simp [hiN]
  | d + 1, h => by
    rw [valN_hi L p N d (by omega), show N - d = (N - (d + 1)) + 1 by omega]
    show valN L p (N - (d + 1)) + 16 ^ (N - (d + 1)) * xg L p (N - (d + 1)) + 16 ^ (N - (d + 1) + 1) * hiN L p N d = _
    simp only [hiN]
    rw [Nat.pow_succ, Nat.mul_add, Nat.mul_assoc]; omega
theorem hiN_lt (L : List Bool) (p N : Nat) : ∀ d, hiN L p N d < 16 ^ d
  | 0 => by simp [hiN]
  | d + 1 => by
    have := hiN_lt L p N d
    have h2 := xg_lt L p (N - (d + 1))
    simp only [hiN]
    rw [Nat.pow_succ]; omega
theorem nat_or (V x i : Nat) (hV : V < 16 ^ i) (hx : x < 16) (hi : i < 16) : bits .or .u64 (V : Int) (IntKind.u64.wrap ((x : Int) * 2 ^ (4 * i))) = ((V + 16 ^ i * x : Nat) : Int) := by
  have e : (2 : Nat) ^ (4 * i) = 16 ^ i := by rw [Nat.pow_mul]
  have h1 : 16 ^ i ≤ 16 ^ 15 := Nat.pow_le_pow_right (by omega) (by omega)
  have h2 : 16 ^ 15 = 1152921504606846976 := by decide
  have h3 : 16 ^ i * x ≤ 16 ^ i * 15 := Nat.mul_le_mul_left _ (by omega)
  have h4 : (V ||| (x <<< (4 * i))) = V + 16 ^ i * x := by
    rw [Nat.or_comm, ← Nat.shiftLeft_add_eq_or_of_lt (by rw [e]; exact hV), Nat.shiftLeft_eq, e, Nat.mul_comm, Nat.add_comm]
  rw [pow_cast, e, ← Int.natCast_mul, Nat.mul_comm x, W64.u_in _ (by omega), W64.bits_or_u64 V _ (by omega) (by omega), ← h4, Nat.shiftLeft_eq, e, Nat.mul_comm]
/-- Get's answer, every argument. -/
def getR (L : List Bool) (p : Nat) (n : Int) : Nat × Nat × Nat := if n < 0 ∨ 64 < n then (0, 1, p) else if L.length < p + n.toNat then (0, 14, p) else (bval (seg L p n.toNat), 0, p + n.toNat)
theorem getR_le (L : List Bool) (p : Nat) (n : Int) (h : p ≤ L.length) : (getR L p n).2.2 ≤ L.length := by
  unfold getR
  split
  · exact h
  · split
    · exact h
    · show p + n.toNat ≤ _; omega
theorem getR_lt (L : List Bool) (p : Nat) (n : Int) : (getR L p n).1 < 18446744073709551616 := by
  unfold getR
  split
  · simp
  · split
    · simp
    · have h := seg_bval_lt L p n.toNat
      have h2 : 2 ^ n.toNat ≤ 2 ^ 64 := Nat.pow_le_pow_right (by omega) (by omega)
      have h3 : 2 ^ 64 = 18446744073709551616 := by decide
      show bval _ < _
      omega
/-- The number with a sign. -/
def unz (v : Nat) : Int := if v % 2 = 1 then -((v / 2 : Nat) : Int) - 1 else ((v / 2 : Nat) : Int)
theorem seg_cons (L : List Bool) (p k : Nat) (h : p < L.length) : seg L p (k + 1) = L.getD p false :: seg L (p + 1) k := by
  unfold seg
  have e : L.getD p false = L[p] := by simp [List.getD_eq_getElem?_getD, h]
  rw [List.drop_eq_getElem_cons h, e, List.take_succ_cons]
theorem seg_bval_cons (L : List Bool) (p k : Nat) (h : p < L.length) : bval (seg L p (k + 1)) = (L.getD p false).toNat + 2 * bval (seg L (p + 1) k) := by
  rw [seg_cons L p k h]; rfl
end Go.Bp
