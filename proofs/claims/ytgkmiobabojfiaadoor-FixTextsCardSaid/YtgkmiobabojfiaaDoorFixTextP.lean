/- Plain laws, with no program in sight: the digits behind the point of a number of units are those that the reference finds by a product with 5^16 and by cutting zeros off. -/
import Derived.Lib.ItoaNum
import Derived.Lib.Repeat
import Derived.Lib.SlTrimSet
namespace Go.Proofs.YtgkmiobabojfiaaDoor
set_option linter.unusedVariables false
def dg (n : Nat) : UInt8 := UInt8.ofNat (48 + n)
theorem dg_toNat (n : Nat) (h : n < 208) : (dg n).toNat = 48 + n := by unfold dg; rw [UInt8.toNat_ofNat']; omega
theorem dg_inj (n : Nat) (h : n < 10) (h2 : dg n = 48) : n = 0 := by
  have := congrArg UInt8.toNat h2
  rw [dg_toNat n (by omega)] at this
  simpa using this
/-- the digits of g / 2^k -/
def fracD : Nat → Nat → List UInt8
  | 0, _ => []
  | k + 1, g => if g = 0 then [] else dg (g * 5 / 2 ^ k) :: fracD k (g * 5 % 2 ^ k)
theorem fracD_succ (k g : Nat) : fracD (k + 1) g = if g = 0 then [] else dg (g * 5 / 2 ^ k) :: fracD k (g * 5 % 2 ^ k) := rfl
theorem fracD_zero (k : Nat) : fracD k 0 = [] := by cases k <;> simp [fracD]
theorem fracD_nil (k g : Nat) (hg : g < 2 ^ k) (h : fracD k g = []) : g = 0 := by
  cases k with
  | zero => simp at hg; exact hg
  | succ k =>
    unfold fracD at h
    split at h
    · assumption
    · cases h
theorem fracD_len (k : Nat) : ∀ g, (fracD k g).length ≤ k := by
  induction k with
  | zero => intro g; simp [fracD]
  | succ k ih =>
    intro g
    unfold fracD
    split
    · simp
    · simp only [List.length_cons]
      have := ih (g * 5 % 2 ^ k)
      omega
/-- k digits of m, from the last one -/
def padR : Nat → Nat → List UInt8
  | 0, _ => []
  | k + 1, m => padR k (m / 10) ++ [dg (m % 10)]
theorem padR_zero (k : Nat) : padR k 0 = List.replicate k 48 := by
  induction k with
  | zero => rfl
  | succ k ih =>
    unfold padR
    rw [show 0 / 10 = 0 from rfl, ih, List.replicate_succ']
    rfl
theorem dec_pad (k : Nat) : ∀ m, m < 10 ^ k → 0 < k → List.replicate (k - (Lib.decDigits m).length) 48 ++ Lib.decDigits m = padR k m := by
  induction k with
  | zero => intro m h h0; omega
  | succ k ih =>
    intro m h _
    unfold padR
    by_cases h10 : m < 10
    · rw [Lib.decDigits, dif_pos h10, Nat.div_eq_of_lt h10, padR_zero, Nat.mod_eq_of_lt h10]
      rfl
    · have h2 : m / 10 < 10 ^ k := by rw [Nat.pow_succ] at h; omega
      have hk : 0 < k := by
        rcases Nat.eq_zero_or_pos k with rfl | hk
        · simp at h2; omega
        · exact hk
      have h3 := ih (m / 10) h2 hk
      rw [Lib.decDigits, dif_neg h10, ← h3, List.length_append, List.length_singleton, ← List.append_assoc]
      rw [show k + 1 - ((Lib.decDigits (m / 10)).length + 1) = k - (Lib.decDigits (m / 10)).length by omega]
      rfl
theorem padR_head (k : Nat) : ∀ m, m < 10 ^ (k + 1) → padR (k + 1) m = dg (m / 10 ^ k) :: padR k (m % 10 ^ k) := by
  induction k with
  | zero =>
    intro m h
    simp only [Nat.zero_add, Nat.pow_one] at h
    simp [padR, Nat.mod_eq_of_lt h]
  | succ k ih =>
    intro m h
    have h2 : m / 10 < 10 ^ (k + 1) := by rw [Nat.pow_succ] at h; omega
    have e1 : padR (k + 1 + 1) m = padR (k + 1) (m / 10) ++ [dg (m % 10)] := rfl
    have e2 : padR (k + 1) (m % 10 ^ (k + 1)) = padR k (m % 10 ^ (k + 1) / 10) ++ [dg (m % 10 ^ (k + 1) % 10)] := rfl
    rw [e1, ih _ h2, e2]
    have e3 : m % 10 ^ (k + 1) / 10 = m / 10 % 10 ^ k := by
      rw [Nat.pow_succ, Nat.mul_comm, Nat.mod_mul_right_div_self]
    have e4 : m % 10 ^ (k + 1) % 10 = m % 10 := Nat.mod_mod_of_dvd _ ⟨10 ^ k, by rw [Nat.pow_succ, Nat.mul_comm]⟩
    have e5 : m / 10 / 10 ^ k = m / 10 ^ (k + 1) := by rw [Nat.div_div_eq_div_mul, Nat.pow_succ, Nat.mul_comm]
    rw [e3, e4, e5]
    rfl
theorem trimR_cons (x : UInt8) (l : List UInt8) : Lib.trimRightS (x :: l) [48] = if Lib.trimRightS l [48] = [] then (if x = 48 then [] else [x]) else x :: Lib.trimRightS l [48] := by
  unfold Lib.trimRightS
  rw [List.reverse_cons, List.dropWhile_append]
  by_cases h : (l.reverse.dropWhile fun x => [(48 : UInt8)].contains x).isEmpty = true
  · rw [if_pos h, if_pos (by rw [List.reverse_eq_nil_iff]; exact List.isEmpty_iff.1 h)]
    by_cases hx : x = 48
    · subst hx; rfl
    · rw [if_neg hx, List.dropWhile_cons_of_neg (by simpa using hx)]
      rfl
  · rw [if_neg h, if_neg (by rw [List.reverse_eq_nil_iff]; exact fun h2 => h (by rw [h2]; rfl)), List.reverse_append]
    rfl
theorem trim_frac (k : Nat) : ∀ g, g < 2 ^ k → Lib.trimRightS (padR k (g * 5 ^ k)) [48] = fracD k g := by
  induction k with
  | zero => intro g h; rfl
  | succ k ih =>
    intro g h
    have p2 : 0 < 2 ^ k := Nat.pow_pos (by decide)
    have p5 : 0 < 5 ^ k := Nat.pow_pos (by decide)
    have e10 : 10 ^ k = 2 ^ k * 5 ^ k := by rw [← Nat.mul_pow]
    have eg : g * 5 ^ (k + 1) = g * 5 * 5 ^ k := by rw [Nat.pow_succ, Nat.mul_assoc, Nat.mul_comm 5]
    have hlt : g * 5 < 2 ^ k * 10 := by rw [Nat.pow_succ] at h; omega
    have hm : g * 5 ^ (k + 1) < 10 ^ (k + 1) := by
      have := (Nat.mul_lt_mul_right p5).2 hlt
      rw [eg, Nat.pow_succ, e10, Nat.mul_right_comm (2 ^ k)]
      exact this
    have d1 : g * 5 ^ (k + 1) / 10 ^ k = g * 5 / 2 ^ k := by rw [eg, e10, Nat.mul_div_mul_right _ _ p5]
    have d2 : g * 5 ^ (k + 1) % 10 ^ k = (g * 5 % 2 ^ k) * 5 ^ k := by rw [eg, e10, Nat.mul_mod_mul_right]
    have hml : g * 5 % 2 ^ k < 2 ^ k := Nat.mod_lt _ p2
    rw [padR_head _ _ hm, d1, d2, trimR_cons, ih _ hml]
    have hd : g * 5 / 2 ^ k < 10 := Nat.div_lt_of_lt_mul hlt
    have hdm := Nat.div_add_mod (g * 5) (2 ^ k)
    rw [fracD_succ]
    by_cases hg : g = 0
    · subst hg
      simp [fracD_zero, dg]
    · rw [if_neg hg]
      by_cases h0 : fracD k (g * 5 % 2 ^ k) = []
      · have hz := fracD_nil _ _ hml h0
        rw [if_pos h0, if_neg, h0]
        intro hc
        have := dg_inj _ hd hc
        rw [this, hz] at hdm
        simp at hdm
        omega
      · rw [if_neg h0]
/-- what Text computes -/
def textL (neg : Bool) (n : Nat) : List UInt8 := (if neg then [45] else []) ++ (Lib.decDigits (n / 65536) ++ if n % 65536 = 0 then [] else 46 :: fracD 16 (n % 65536))
/-- the reference's part behind the point -/
def partL (n : Nat) : List UInt8 := Lib.trimRightS (Lib.repeatL [48] (16 - (Lib.decDigits (n % 65536 * 152587890625)).length) ++ Lib.decDigits (n % 65536 * 152587890625)) [48]
theorem rep_one (n : Nat) : Lib.repeatL [48] n = List.replicate n 48 := by
  have := Lib.repeatL_replicate 48 1 n
  simpa using this
theorem partL_eq (n : Nat) : partL n = fracD 16 (n % 65536) := by
  have h1 : n % 65536 < 2 ^ 16 := by omega
  unfold partL
  rw [rep_one, dec_pad 16 _ (by omega) (by decide)]
  exact trim_frac 16 _ h1
theorem text_eq (neg : Bool) (n : Nat) : textL neg n = (if neg then [45] else []) ++ Lib.decDigits (n / 65536) ++ (if partL n = [] then [] else 46 :: partL n) := by
  unfold textL
  rw [partL_eq, List.append_assoc]
  by_cases h : n % 65536 = 0
  · rw [if_pos h, h, fracD_zero, if_pos rfl]
  · rw [if_neg h, if_neg (fun h2 => h (fracD_nil _ _ (by omega) h2))]
end Go.Proofs.YtgkmiobabojfiaaDoor
