/- Lemmas for the law TopBorderText: FixTextP, FixReadP, FixReadQ. No conditions. -/
import Derived.Lib.ItoaNum
import Derived.Lib.Repeat
import Derived.Lib.SlTrimSet
import Derived.Lib.IndexMore
import Derived.Lib.Atoi
/- Plain laws, with no program in sight: the digits behind the point of a number of units are those that the reference finds by a product with 5^16 and by cutting zeros off. -/
section
namespace Go.Proofs.Ytfckbkhnelgjbaa
set_option linter.unusedVariables false
def dg (n : Nat) : UInt8 := UInt8.ofNat (48 + n)
theorem dg_toNat (n : Nat) (h : n < 208) : (dg n).toNat = 48 + n := by unfold dg; rw [UInt8.toNat_ofNat']; omega
theorem dg_inj (n : Nat) (h : n < 10) (h2 : dg n = 48) : n = 0 := by
  have := congrArg UInt8.toNat h2
  rw [dg_toNat n (by omega)] at this
  simpa using this
/-- the digits of g / 2^k -/
def fracD : Nat → Nat → List UInt8
  | 0, _ => []
  | k + 1, g => if g = 0 then [] else dg (g * 5 / 2 ^ k) :: fracD k (g * 5 % 2 ^ k)
theorem fracD_succ (k g : Nat) : fracD (k + 1) g = if g = 0 then [] else dg (g * 5 / 2 ^ k) :: fracD k (g * 5 % 2 ^ k) := rfl
theorem fracD_zero (k : Nat) : fracD k 0 = [] := by cases k <;> simp [fracD]
theorem fracD_nil (k g : Nat) (hg : g < 2 ^ k) (h : fracD k g = []) : g = 0 := by
  cases k with
  | zero => simp at hg; exact hg
  | succ k =>
    unfold fracD at h
    split at h
    · assumption
    · cases h
theorem fracD_len (k : Nat) : ∀ g, (fracD k g).length ≤ k := by
  induction k with
  | zero => intro g; simp [fracD]
  | succ k ih =>
    intro g
    unfold fracD
    split
    · simp
    · simp only [List.length_cons]
      have := ih (g * 5 % 2 ^ k)
      omega
/-- k digits of m, from the last one -/
def padR : Nat → Nat → List UInt8
  | 0, _ => []
  | k + 1, m => padR k (m / 10) ++ [dg (m % 10)]
theorem padR_zero (k : Nat) : padR k 0 = List.replicate k 48 := by
  induction k with
  | zero => rfl
  | succ k ih =>
    unfold padR
    rw [show 0 / 10 = 0 from rfl, ih, List.replicate_succ']
    rfl
theorem dec_pad (k : Nat) : ∀ m, m < 10 ^ k → 0 < k → List.replicate (k - (Lib.decDigits m).length) 48 ++ Lib.decDigits m = padR k m := by
  induction k with
  | zero => intro m h h0; omega
  | succ k ih =>
    intro m h _
    unfold padR
    by_cases h10 : m < 10
    · rw [Lib.decDigits, dif_pos h10, Nat.div_eq_of_lt h10, padR_zero, Nat.mod_eq_of_lt h10]
      rfl
    · have h2 : m / 10 < 10 ^ k := by rw [Nat.pow_succ] at h; omega
      have hk : 0 < k := by
        rcases Nat.eq_zero_or_pos k with rfl | hk
        · simp at h2; omega
        · exact hk
      have h3 := ih (m / 10) h2 hk
      rw [Lib.decDigits, dif_neg h10, ← h3, List.length_append, List.length_singleton, ← List.append_assoc]
      rw [show k + 1 - ((Lib.decDigits (m / 10)).length + 1) = k - (Lib.decDigits (m / 10)).length by omega]
      rfl
theorem padR_head (k : Nat) : ∀ m, m < 10 ^ (k + 1) → padR (k + 1) m = dg (m / 10 ^ k) :: padR k (m % 10 ^ k) := by
  induction k with
  | zero =>
    intro m h
    simp only [Nat.zero_add, Nat.pow_one] at h
    simp [padR, Nat.mod_eq_of_lt h]
  | succ k ih =>
    intro m h
    have h2 : m / 10 < 10 ^ (k + 1) := by rw [Nat.pow_succ] at h; omega
    have e1 : padR (k + 1 + 1) m = padR (k + 1) (m / 10) ++ [dg (m % 10)] := rfl
    have e2 : padR (k + 1) (m % 10 ^ (k + 1)) = padR k (m % 10 ^ (k + 1) / 10) ++ [dg (m % 10 ^ (k + 1) % 10)] := rfl
    rw [e1, ih _ h2, e2]
    have e3 : m % 10 ^ (k + 1) / 10 = m / 10 % 10 ^ k := by
      rw [Nat.pow_succ, Nat.mul_comm, Nat.mod_mul_right_div_self]
    have e4 : m % 10 ^ (k + 1) % 10 = m % 10 := Nat.mod_mod_of_dvd _ ⟨10 ^ k, by rw [Nat.pow_succ, Nat.mul_comm]⟩
    have e5 : m / 10 / 10 ^ k = m / 10 ^ (k + 1) := by rw [Nat.div_div_eq_div_mul, Nat.pow_succ, Nat.mul_comm]
    rw [e3, e4, e5]
    rfl
theorem trimR_cons (x : UInt8) (l : List UInt8) : Lib.trimRightS (x :: l) [48] = if Lib.trimRightS l [48] = [] then (if x = 48 then [] else [x]) else x :: Lib.trimRightS l [48] := by
  unfold Lib.trimRightS
  rw [List.reverse_cons, List.dropWhile_append]
  by_cases h : (l.reverse.dropWhile fun x => [(48 : UInt8)].contains x).isEmpty = true
  · rw [if_pos h, if_pos (by rw [List.reverse_eq_nil_iff]; exact List.isEmpty_iff.1 h)]
    by_cases hx : x = 48
    · subst hx; rfl
    · rw [if_neg hx, List.dropWhile_cons_of_neg (by simpa using hx)]
      rfl
  · rw [if_neg h, if_neg (by rw [List.reverse_eq_nil_iff]; exact fun h2 => h (by rw [h2]; rfl)), List.reverse_append]
    rfl
theorem trim_frac (k : Nat) : ∀ g, g < 2 ^ k → Lib.trimRightS (padR k (g * 5 ^ k)) [48] = fracD k g := by
  induction k with
  | zero => intro g h; rfl
  | succ k ih =>
    intro g h
    have p2 : 0 < 2 ^ k := Nat.pow_pos (by decide)
    have p5 : 0 < 5 ^ k := Nat.pow_pos (by decide)
    have e10 : 10 ^ k = 2 ^ k * 5 ^ k := by rw [← Nat.mul_pow]
    have eg : g * 5 ^ (k + 1) = g * 5 * 5 ^ k := by rw [Nat.pow_succ, Nat.mul_assoc, Nat.mul_comm 5]
    have hlt : g * 5 < 2 ^ k * 10 := by rw [Nat.pow_succ] at h; omega
    have hm : g * 5 ^ (k + 1) < 10 ^ (k + 1) := by
      have := (Nat.mul_lt_mul_right p5).2 hlt
      rw [eg, Nat.pow_succ, e10, Nat.mul_right_comm (2 ^ k)]
      exact this
    have d1 : g * 5 ^ (k + 1) / 10 ^ k = g * 5 / 2 ^ k := by rw [eg, e10, Nat.mul_div_mul_right _ _ p5]
    have d2 : g * 5 ^ (k + 1) % 10 ^ k = (g * 5 % 2 ^ k) * 5 ^ k := by rw [eg, e10, Nat.mul_mod_mul_right]
    have hml : g * 5 % 2 ^ k < 2 ^ k := Nat.mod_lt _ p2
    rw [padR_head _ _ hm, d1, d2, trimR_cons, ih _ hml]
    have hd : g * 5 / 2 ^ k < 10 := Nat.div_lt_of_lt_mul hlt
    have hdm := Nat.div_add_mod (g * 5) (2 ^ k)
    rw [fracD_succ]
    by_cases hg : g = 0
    · subst hg
      simp [fracD_zero, dg]
    · rw [if_neg hg]
      by_cases h0 : fracD k (g * 5 % 2 ^ k) = []
      · have hz := fracD_nil _ _ hml h0
        rw [if_pos h0, if_neg, h0]
        intro hc
        have := dg_inj _ hd hc
        rw [this, hz] at hdm
        simp at hdm
        omega
      · rw [if_neg h0]
/-- what Text computes -/
def textL (neg : Bool) (n : Nat) : List UInt8 := (if neg then [45] else []) ++ (Lib.decDigits (n / 65536) ++ if n % 65536 = 0 then [] else 46 :: fracD 16 (n % 65536))
/-- the reference's part behind the point -/
def partL (n : Nat) : List UInt8 := Lib.trimRightS (Lib.repeatL [48] (16 - (Lib.decDigits (n % 65536 * 152587890625)).length) ++ Lib.decDigits (n % 65536 * 152587890625)) [48]
theorem rep_one (n : Nat) : Lib.repeatL [48] n = List.replicate n 48 := by
  have := Lib.repeatL_replicate 48 1 n
  simpa using this
theorem partL_eq (n : Nat) : partL n = fracD 16 (n % 65536) := by
  have h1 : n % 65536 < 2 ^ 16 := by omega
  unfold partL
  rw [rep_one, dec_pad 16 _ (by omega) (by decide)]
  exact trim_frac 16 _ h1
theorem text_eq (neg : Bool) (n : Nat) : textL neg n = (if neg then [45] else []) ++ Lib.decDigits (n / 65536) ++ (if partL n = [] then [] else 46 :: partL n) := by
  unfold textL
  rw [partL_eq, List.append_assoc]
  by_cases h : n % 65536 = 0
  · rw [if_pos h, h, fracD_zero, if_pos rfl]
  · rw [if_neg h, if_neg (fun h2 => h (fracD_nil _ _ (by omega) h2))]
end Go.Proofs.Ytfckbkhnelgjbaa
end
/- Plain laws, with no program in sight: what fix.Read computes of a row of bytes is what the reference's Number computes. -/
section
namespace Go.Proofs.Ytfckbkhnelgjbaa
set_option linter.unusedVariables false
def dgB (c : UInt8) : Bool := decide (48 ≤ c.toNat) && decide (c.toNat ≤ 57)
/-- the number that a row of digits spells, behind the number a -/
def valA (a : Nat) (l : List UInt8) : Nat := l.foldl (fun a c => a * 10 + (c.toNat - 48)) a
theorem valA_nil (a : Nat) : valA a [] = a := by unfold valA; rw [List.foldl_nil]
theorem valA_cons (a : Nat) (c : UInt8) (r : List UInt8) : valA a (c :: r) = valA (a * 10 + (c.toNat - 48)) r := by unfold valA; rw [List.foldl_cons]
theorem valA_cons0 (c : UInt8) (r : List UInt8) : valA 0 (c :: r) = valA (c.toNat - 48) r := by rw [valA_cons, Nat.zero_mul, Nat.zero_add]
theorem valA_app (p q : List UInt8) : ∀ a, valA a (p ++ q) = valA (valA a p) q := by
  induction p with
  | nil => intro a; rw [List.nil_append, valA_nil]
  | cons c r ih => intro a; rw [List.cons_append, valA_cons, valA_cons]; exact ih _
theorem valA_split (l : List UInt8) : ∀ a, valA a l = a * 10 ^ l.length + valA 0 l := by
  induction l with
  | nil => intro a; rw [valA_nil, valA_nil, List.length_nil]; omega
  | cons c r ih =>
    intro a
    rw [valA_cons, valA_cons0, ih (a * 10 + (c.toNat - 48)), ih (c.toNat - 48), List.length_cons, Nat.pow_succ, Nat.add_mul, Nat.mul_assoc, Nat.mul_comm 10, Nat.add_assoc]
theorem valA_lt (l : List UInt8) (h : l.all dgB = true) : valA 0 l < 10 ^ l.length := by
  induction l with
  | nil => rw [valA_nil]; decide
  | cons c r ih =>
    rw [List.all_cons, Bool.and_eq_true] at h
    rw [valA_cons0, valA_split, List.length_cons, Nat.pow_succ]
    have h1 := ih h.2
    have h2 : c.toNat - 48 ≤ 9 := by
      have := h.1
      unfold dgB at this
      simp only [Bool.and_eq_true, decide_eq_true_eq] at this
      omega
    have h3 := Nat.mul_le_mul_right (10 ^ r.length) h2
    omega
theorem decFrom_val (l : List UInt8) (h : l.all dgB = true) : ∀ a, Lib.decFrom a l = some (valA a l) := by
  induction l with
  | nil => intro a; rfl
  | cons c r ih =>
    intro a
    rw [List.all_cons, Bool.and_eq_true] at h
    have h2 := h.1
    unfold dgB at h2
    simp only [Bool.and_eq_true, decide_eq_true_eq] at h2
    have h3 : Lib.digitVal c = some (c.toNat - 48) := by unfold Lib.digitVal; rw [if_pos h2]
    unfold Lib.decFrom
    rw [h3]
    exact ih h.2 _
theorem atoi_val (l : List UInt8) (h : l.all dgB = true) (h0 : l ≠ []) : Lib.atoi l = some ((valA 0 l : Nat) : Int) := by
  cases l with
  | nil => exact absurd rfl h0
  | cons c r =>
    have h' := h
    rw [List.all_cons, Bool.and_eq_true] at h
    have h2 := h.1
    unfold dgB at h2
    simp only [Bool.and_eq_true, decide_eq_true_eq] at h2
    have n1 : (c == 45) = false := by
      rw [beq_eq_false_iff_ne]; rintro rfl; exact absurd h2.1 (by decide)
    have n2 : (c == 43) = false := by
      rw [beq_eq_false_iff_ne]; rintro rfl; exact absurd h2.1 (by decide)
    have n3 : Lib.atoi (c :: r) = (Lib.decNat (c :: r)).map fun (m : Nat) => (m : Int) := by
      unfold Lib.atoi
      simp only [n1, n2]
      rfl
    rw [n3]
    unfold Lib.decNat
    rw [decFrom_val _ h']
    rfl
/-- cut at the first point -/
def cutD : List UInt8 → List UInt8 × List UInt8 × Bool
  | [] => ([], [], false)
  | c :: r => if c = 46 then ([], r, true) else (c :: (cutD r).1, (cutD r).2.1, (cutD r).2.2)
theorem cutD_cons_ne (c : UInt8) (r : List UInt8) (h : c ≠ 46) : cutD (c :: r) = (c :: (cutD r).1, (cutD r).2.1, (cutD r).2.2) := by
  rw [cutD, if_neg h]
theorem cutD_cons_eq (r : List UInt8) : cutD (46 :: r) = ([], r, true) := by rw [cutD, if_pos rfl]
theorem cut_eq (l : List UInt8) : Lib.cut l [46] = cutD l := by
  induction l with
  | nil => rfl
  | cons c r ih =>
    by_cases h : c = 46
    · subst h
      rw [cutD_cons_eq]
      have : Lib.index (46 :: r) [46] = 0 := by
        unfold Lib.index
        rw [if_pos (by rfl)]
      unfold Lib.cut
      rw [this]
      simp
    · rw [cutD_cons_ne c r h, ← ih]
      have h1 : ([46] : List UInt8).isPrefixOf (c :: r) = false := by
        show ((46 == c) && List.isPrefixOf [] r) = false
        rw [beq_eq_false_iff_ne.2 (fun h2 => h h2.symm)]; rfl
      have hi : Lib.index (c :: r) [46] = if Lib.index r [46] == -1 then -1 else Lib.index r [46] + 1 := by
        conv => lhs; unfold Lib.index
        rw [h1]; rfl
      have hg := Lib.index_ge r [46]
      unfold Lib.cut
      rw [hi]
      by_cases hm : Lib.index r [46] = -1
      · rw [hm]; rfl
      · have hm2 : (Lib.index r [46] == -1) = false := by rw [beq_eq_false_iff_ne]; exact hm
        rw [hm2]
        obtain ⟨j, hj⟩ : ∃ j : Nat, Lib.index r [46] = j := ⟨(Lib.index r [46]).toNat, by omega⟩
        rw [hj]
        have e1 : ((if false = true then (-1 : Int) else (j : Int) + 1)) = ((j + 1 : Nat) : Int) := by simp
        rw [e1, if_pos (Int.natCast_nonneg _), if_pos (Int.natCast_nonneg _), Int.toNat_natCast, Int.toNat_natCast]
        rfl
theorem cutD_false (l : List UInt8) (h : (cutD l).2.2 = false) : (cutD l).1 = l ∧ (cutD l).2.1 = [] := by
  induction l with
  | nil => exact ⟨rfl, rfl⟩
  | cons c r ih =>
    by_cases hc : c = 46
    · subst hc; rw [cutD_cons_eq] at h; cases h
    · rw [cutD_cons_ne c r hc] at h ⊢
      obtain ⟨h1, h2⟩ := ih h
      exact ⟨by rw [h1], h2⟩
theorem cutD_true (l : List UInt8) (h : (cutD l).2.2 = true) : l = (cutD l).1 ++ 46 :: (cutD l).2.1 := by
  induction l with
  | nil => cases h
  | cons c r ih =>
    by_cases hc : c = 46
    · subst hc; rw [cutD_cons_eq]; rfl
    · rw [cutD_cons_ne c r hc] at h ⊢
      have := ih h
      show _ = c :: ((cutD r).1 ++ 46 :: (cutD r).2.1)
      rw [← this]
/-- the code's pass over the bytes -/
def scan : List UInt8 → Int → Nat → Int → Option (Nat × Int)
  | [], _, n, dot => some (n, dot)
  | c :: r, i, n, dot =>
    if c = 46 ∧ dot < 0 then scan r (i + 1) n i
    else if dgB c = false then none
    else if dot < 0 then scan r (i + 1) (min (n * 10 + (c.toNat - 48)) 1073741824) dot
    else scan r (i + 1) n dot
def capA (n : Nat) (l : List UInt8) : Nat := l.foldl (fun n c => min (n * 10 + (c.toNat - 48)) 1073741824) n
theorem capA_nil (n : Nat) : capA n [] = n := by unfold capA; rw [List.foldl_nil]
theorem capA_cons (n : Nat) (c : UInt8) (r : List UInt8) : capA n (c :: r) = capA (min (n * 10 + (c.toNat - 48)) 1073741824) r := by unfold capA; rw [List.foldl_cons]
theorem capA_val (l : List UInt8) : ∀ n, capA n l = if l = [] then n else min (valA n l) 1073741824 := by
  have top : ∀ l a, a ≤ valA a l := by
    intro l
    induction l with
    | nil => intro a; exact Nat.le_refl _
    | cons c r ih => intro a; have := ih (a * 10 + (c.toNat - 48)); rw [valA_cons]; omega
  have hm : ∀ (l : List UInt8) a, min (valA (min a 1073741824) l) 1073741824 = min (valA a l) 1073741824 := by
    intro l a
    by_cases h : a ≤ 1073741824
    · rw [Nat.min_eq_left h]
    · have h1 := top l 1073741824
      have h2 := top l a
      rw [Nat.min_eq_right (show 1073741824 ≤ a by omega)]
      rw [Nat.min_eq_right h1, Nat.min_eq_right (Nat.le_trans (show 1073741824 ≤ a by omega) h2)]
  induction l with
  | nil => intro n; rw [capA_nil, if_pos rfl]
  | cons c r ih =>
    intro n
    rw [if_neg (by simp), capA_cons, valA_cons, ih]
    split
    · rename_i h; subst h; rfl
    · exact hm _ _
theorem scan_nil (i : Int) (n : Nat) (dot : Int) : scan [] i n dot = some (n, dot) := rfl
theorem scan_cons (c : UInt8) (r : List UInt8) (i : Int) (n : Nat) (dot : Int) : scan (c :: r) i n dot =
    if c = 46 ∧ dot < 0 then scan r (i + 1) n i
    else if dgB c = false then none
    else if dot < 0 then scan r (i + 1) (min (n * 10 + (c.toNat - 48)) 1073741824) dot
    else scan r (i + 1) n dot := by rw [scan]
theorem scan_ge (l : List UInt8) : ∀ i n d, 0 ≤ d → scan l i n d = if l.all dgB = true then some (n, d) else none := by
  induction l with
  | nil => intro i n d h; rfl
  | cons c r ih =>
    intro i n d h
    rw [scan_cons, if_neg (by omega)]
    by_cases hc : dgB c = false
    · rw [if_pos hc, if_neg (by simp [hc])]
    · have hc2 : dgB c = true := by simpa using hc
      rw [if_neg hc, if_neg (by omega), ih _ _ _ h, List.all_cons, hc2, Bool.true_and]
theorem dg_point : dgB 46 = false := by decide
theorem scan_cut (l : List UInt8) : ∀ (i : Int) n, 0 ≤ i → scan l i n (-1) = if ((cutD l).1 ++ (cutD l).2.1).all dgB = true then some (capA n (cutD l).1, if (cutD l).2.2 = true then i + ((cutD l).1.length : Int) else -1) else none := by
  induction l with
  | nil => intro i n h; simp [cutD, scan_nil, capA_nil]
  | cons c r ih =>
    intro i n h
    rw [scan_cons]
    by_cases hc : c = 46
    · subst hc
      rw [if_pos ⟨rfl, by decide⟩, scan_ge _ _ _ _ h, cutD_cons_eq]
      simp only [List.nil_append, if_true, capA_nil, List.length_nil, Int.natCast_zero, Int.add_zero]
    · rw [if_neg (fun h2 => hc h2.1), cutD_cons_ne c r hc]
      by_cases hd : dgB c = false
      · rw [if_pos hd, if_neg]
        simp [hd]
      · have hd2 : dgB c = true := by simpa using hd
        rw [if_neg hd, if_pos (by decide), ih _ _ (by omega)]
        simp only [List.cons_append, List.all_cons, hd2, Bool.true_and, capA_cons, List.length_cons]
        have : i + 1 + ((cutD r).1.length : Int) = i + (((cutD r).1.length + 1 : Nat) : Int) := by omega
        rw [this]
def restL (s : List UInt8) : List UInt8 := if s.head? = some 45 then s.tail else s
def sgn (s : List UInt8) (n : Nat) : Int := if s.head? = some 45 then -(n : Int) else n
/-- what the code computes -/
def readP (s : List UInt8) : Int × Int :=
  if 40 < s.length then (0, 2)
  else match scan (restL s) 0 0 (-1) with
    | none => (0, 15)
    | some (n, d0) =>
      if (if d0 < 0 then ((restL s).length : Int) else d0) = 0 ∨ (if d0 < 0 then ((restL s).length : Int) else d0) = (restL s).length - 1 then (0, 15)
      else if 65536 * valA 0 ((restL s).drop (min ((if d0 < 0 then ((restL s).length : Int) else d0) + 1) (restL s).length).toNat) % 10 ^ ((restL s).drop (min ((if d0 < 0 then ((restL s).length : Int) else d0) + 1) (restL s).length).toNat).length ≠ 0 then (0, 3)
      else if 1099511627776 < n * 65536 + 65536 * valA 0 ((restL s).drop (min ((if d0 < 0 then ((restL s).length : Int) else d0) + 1) (restL s).length).toNat) / 10 ^ ((restL s).drop (min ((if d0 < 0 then ((restL s).length : Int) else d0) + 1) (restL s).length).toNat).length then (0, 2)
      else (sgn s (n * 65536 + 65536 * valA 0 ((restL s).drop (min ((if d0 < 0 then ((restL s).length : Int) else d0) + 1) (restL s).length).toNat) / 10 ^ ((restL s).drop (min ((if d0 < 0 then ((restL s).length : Int) else d0) + 1) (restL s).length).toNat).length), 0)
def longP (P : List UInt8) : List UInt8 := P ++ List.replicate 16 48
def unitP (P : List UInt8) : Nat := valA 0 ((longP P).take 16)
/-- what the reference computes -/
def numP (s : List UInt8) : Int × Int :=
  if 40 < s.length then (0, 2)
  else if (cutD (restL s)).1 = [] ∨ ((cutD (restL s)).2.2 = true ∧ (cutD (restL s)).2.1 = []) ∨ ((cutD (restL s)).1 ++ (cutD (restL s)).2.1).all dgB = false then (0, 15)
  else if ((longP (cutD (restL s)).2.1).drop 16).all (fun c => c == 48) = false ∨ unitP (cutD (restL s)).2.1 % 152587890625 ≠ 0 then (0, 3)
  else if 8 < ((cutD (restL s)).1.dropWhile (fun c => c == 48)).length then (0, 2)
  else if 16777216 < valA 0 ((cutD (restL s)).1.dropWhile (fun c => c == 48)) ∨ (valA 0 ((cutD (restL s)).1.dropWhile (fun c => c == 48)) = 16777216 ∧ 0 < unitP (cutD (restL s)).2.1 / 152587890625) then (0, 2)
  else (sgn s (valA 0 ((cutD (restL s)).1.dropWhile (fun c => c == 48)) * 65536 + unitP (cutD (restL s)).2.1 / 152587890625), 0)
theorem valA_zeros (k : Nat) : ∀ a, valA a (List.replicate k 48) = a * 10 ^ k := by
  induction k with
  | zero => intro a; simp [valA]
  | succ k ih =>
    intro a
    show valA (a * 10 + 0) _ = _
    rw [ih, Nat.pow_succ, Nat.add_zero, Nat.mul_assoc, Nat.mul_comm 10]
theorem valA_zero_iff (l : List UInt8) (h : l.all dgB = true) : valA 0 l = 0 ↔ l.all (fun c => c == 48) = true := by
  induction l with
  | nil => rw [valA_nil]; decide
  | cons c r ih =>
    rw [List.all_cons, Bool.and_eq_true] at h
    have h2 := h.1
    unfold dgB at h2
    simp only [Bool.and_eq_true, decide_eq_true_eq] at h2
    rw [valA_cons0, valA_split, List.all_cons, Bool.and_eq_true, ← ih h.2]
    have hp : 0 < 10 ^ r.length := Nat.pow_pos (by decide)
    constructor
    · intro h3
      have h4 : (c.toNat - 48) * 10 ^ r.length = 0 := by omega
      have h5 := (Nat.mul_eq_zero.1 h4).resolve_right (by omega)
      refine ⟨?_, by omega⟩
      rw [beq_iff_eq]
      apply UInt8.toNat_inj.1
      show c.toNat = 48
      omega
    · rintro ⟨h3, h4⟩
      rw [beq_iff_eq] at h3
      subst h3
      rw [h4]
      simp
theorem long_all (P : List UInt8) (h : P.all dgB = true) : (longP P).all dgB = true := by
  unfold longP
  rw [List.all_append, h, Bool.true_and, List.all_eq_true]
  intro c hc
  rw [List.eq_of_mem_replicate hc]
  decide
theorem all_sub {l m : List UInt8} {p : UInt8 → Bool} (h : l.all p = true) (hs : ∀ c ∈ m, c ∈ l) : m.all p = true := by
  rw [List.all_eq_true] at h ⊢
  exact fun c hc => h c (hs c hc)
/-- the two tests of the part behind the point are one, and give one number -/
theorem unit_law (P : List UInt8) (h : P.all dgB = true) : ((((longP P).drop 16).all (fun c => c == 48) = false ∨ unitP P % 152587890625 ≠ 0) ↔ 65536 * valA 0 P % 10 ^ P.length ≠ 0)
    ∧ (65536 * valA 0 P % 10 ^ P.length = 0 → 65536 * valA 0 P / 10 ^ P.length = unitP P / 152587890625) := by
  have ha := long_all P h
  have hd : ((longP P).drop 16).all dgB = true := all_sub ha (fun c hc => List.mem_of_mem_drop hc)
  have hz := valA_zero_iff _ hd
  have hlt := valA_lt _ hd
  have hlen : ((longP P).drop 16).length = P.length := by unfold longP; simp
  have hv : valA 0 (longP P) = unitP P * 10 ^ P.length + valA 0 ((longP P).drop 16) := by
    conv => lhs; rw [← List.take_append_drop 16 (longP P)]
    rw [valA_app, valA_split, hlen]
    rfl
  have hv2 : valA 0 (longP P) = valA 0 P * 10000000000000000 := by
    unfold longP
    rw [valA_app, valA_zeros]
  rw [hv2] at hv
  rw [hlen] at hlt
  generalize valA 0 ((longP P).drop 16) = T at *
  generalize unitP P = U at *
  generalize valA 0 P = V at *
  have e5 : (65536 : Nat) * 152587890625 = 10000000000000000 := rfl
  have hk : 0 < 10 ^ P.length := Nat.pow_pos (by decide)
  generalize 10 ^ P.length = K at *
  have key : 65536 * V % K = 0 → T = 0 ∧ U % 152587890625 = 0 ∧ 65536 * V / K = U / 152587890625 := by
    intro h0
    obtain ⟨q, hq⟩ := Nat.dvd_of_mod_eq_zero h0
    have e : (q * 152587890625) * K = U * K + T := by
      rw [← hv]
      have h3 : 65536 * V * 152587890625 = K * q * 152587890625 := by rw [hq]
      have h4 : K * q * 152587890625 = q * 152587890625 * K := by rw [Nat.mul_comm K q, Nat.mul_right_comm]
      rw [← h4, ← h3, Nat.mul_comm 65536 V, Nat.mul_assoc, e5]
    have eU : U = q * 152587890625 := by
      have h1 : (U * K + T) / K = U := by rw [Nat.mul_comm, Nat.mul_add_div hk, Nat.div_eq_of_lt hlt, Nat.add_zero]
      rw [← h1, ← e, Nat.mul_div_cancel _ hk]
    refine ⟨?_, ?_, ?_⟩
    · rw [eU] at e; omega
    · rw [eU]; exact Nat.mul_mod_left _ _
    · rw [hq, Nat.mul_div_cancel_left _ hk, eU, Nat.mul_div_cancel _ (by decide)]
  refine ⟨?_, fun h0 => (key h0).2.2⟩
  constructor
  · intro h1 h0
    obtain ⟨k1, k2, _⟩ := key h0
    rcases h1 with h1 | h1
    · rw [hz.1 k1] at h1; cases h1
    · exact h1 k2
  · intro h1
    by_cases hT : T = 0
    · refine Or.inr fun h2 => h1 ?_
      obtain ⟨q, rfl⟩ := Nat.dvd_of_mod_eq_zero h2
      rw [hT, Nat.add_zero] at hv
      have : 65536 * V = q * K := by
        have h4 : q * K * 152587890625 = 152587890625 * q * K := by rw [Nat.mul_right_comm, Nat.mul_comm q]
        have h3 : 65536 * V * 152587890625 = q * K * 152587890625 := by
          rw [h4, ← hv, Nat.mul_comm 65536 V, Nat.mul_assoc, e5]
        exact Nat.eq_of_mul_eq_mul_right (show 0 < 152587890625 by omega) h3
      rw [this]
      exact Nat.mul_mod_left _ _
    · left
      rw [Bool.eq_false_iff]
      exact fun h2 => hT (hz.2 h2)
theorem strip_val (l : List UInt8) : valA 0 (l.dropWhile (fun c => c == 48)) = valA 0 l := by
  induction l with
  | nil => rfl
  | cons c r ih =>
    by_cases hc : c = 48
    · subst hc
      rw [List.dropWhile_cons_of_pos (by decide), ih]
      rfl
    · rw [List.dropWhile_cons_of_neg (by simpa using hc)]
theorem strip_big (l : List UInt8) (h : l.all dgB = true) (h8 : 8 < (l.dropWhile (fun c => c == 48)).length) : 100000000 ≤ valA 0 l := by
  induction l with
  | nil => simp at h8
  | cons c r ih =>
    have h' := h
    rw [List.all_cons, Bool.and_eq_true] at h
    by_cases hc : c = 48
    · subst hc
      rw [List.dropWhile_cons_of_pos (by decide)] at h8
      exact ih h.2 h8
    · rw [List.dropWhile_cons_of_neg (by simpa using hc), List.length_cons] at h8
      have h2 := h.1
      unfold dgB at h2
      simp only [Bool.and_eq_true, decide_eq_true_eq] at h2
      have h3 : 1 ≤ c.toNat - 48 := by
        rcases Nat.lt_or_ge 48 c.toNat with h4 | h4
        · omega
        · exact absurd (UInt8.toNat_inj.1 (show c.toNat = (48 : UInt8).toNat by show c.toNat = 48; omega)) hc
      rw [valA_cons0, valA_split]
      have h5 : (10 : Nat) ^ 8 ≤ 10 ^ r.length := Nat.pow_le_pow_right (by decide) (by omega)
      have h6 := Nat.mul_le_mul_right (10 ^ r.length) h3
      omega
theorem restL_len (s : List UInt8) : (restL s).length ≤ s.length := by
  unfold restL
  split
  · simp
  · exact Nat.le_refl _
theorem read_eq (s : List UInt8) : readP s = numP s := by
  unfold readP numP
  by_cases h40 : 40 < s.length
  · rw [if_pos h40, if_pos h40]
  · rw [if_neg h40, if_neg h40, scan_cut _ _ _ (Int.le_refl 0)]
    generalize restL s = r
    obtain ⟨W, P, b, hc⟩ : ∃ W P b, cutD r = (W, P, b) := ⟨_, _, _, rfl⟩
    have hf := cutD_false r
    have ht := cutD_true r
    rw [hc] at hf ht ⊢
    simp only at hf ht ⊢
    by_cases hall : (W ++ P).all dgB = true
    · rw [if_pos hall]
      simp only
      have hP : P.all dgB = true := all_sub hall (fun c hc => List.mem_append_right _ hc)
      have hW : W.all dgB = true := all_sub hall (fun c hc => List.mem_append_left _ hc)
      -- the point's place and what is behind it
      have hd : (if (if b = true then (0 : Int) + (W.length : Int) else -1) < 0 then (r.length : Int) else (if b = true then (0 : Int) + (W.length : Int) else -1)) = (W.length : Int) := by
        cases b with
        | false => rw [(hf rfl).1]; simp
        | true => simp only [if_true]; rw [if_neg (by omega)]; omega
      have hbad : ((W.length : Int) = 0 ∨ (W.length : Int) = (r.length : Int) - 1) ↔ (W = [] ∨ (b = true ∧ P = []) ∨ (W ++ P).all dgB = false) := by
        cases b with
        | false =>
          have hall2 := hall
          rw [(hf rfl).1] at hall2
          rw [(hf rfl).1, hall2]
          constructor
          · rintro (h | h)
            · exact Or.inl (List.eq_nil_of_length_eq_zero (by omega))
            · omega
          · rintro (rfl | ⟨h, _⟩ | h)
            · exact Or.inl rfl
            · cases h
            · cases h
        | true =>
          have := ht rfl
          rw [this, hall, List.length_append, List.length_cons]
          constructor
          · rintro (h | h)
            · exact Or.inl (List.eq_nil_of_length_eq_zero (by omega))
            · exact Or.inr (Or.inl ⟨rfl, List.eq_nil_of_length_eq_zero (by omega)⟩)
          · rintro (rfl | ⟨_, rfl⟩ | h)
            · exact Or.inl rfl
            · right; simp
            · cases h
      have hdrop : r.drop (min ((W.length : Int) + 1) (r.length : Int)).toNat = P := by
        cases b with
        | false =>
          obtain ⟨h1, h2⟩ := hf rfl
          rw [h1, h2]
          rw [show (min ((r.length : Int) + 1) (r.length : Int)).toNat = r.length by omega]
          exact List.drop_length
        | true =>
          have := ht rfl
          rw [show (min ((W.length : Int) + 1) (r.length : Int)).toNat = W.length + 1 by rw [this, List.length_append, List.length_cons]; omega]
          rw [this, ← List.drop_drop, List.drop_left]
          rfl
      rw [hd, hdrop]
      by_cases hb : (W = [] ∨ (b = true ∧ P = []) ∨ (W ++ P).all dgB = false)
      · rw [if_pos hb, if_pos (hbad.2 hb)]
      · rw [if_neg hb, if_neg (fun h => hb (hbad.1 h))]
        obtain ⟨u1, u2⟩ := unit_law P hP
        by_cases hu : 65536 * valA 0 P % 10 ^ P.length ≠ 0
        · rw [if_pos hu, if_pos (u1.2 hu)]
        · have hu0 : 65536 * valA 0 P % 10 ^ P.length = 0 := by omega
          rw [if_neg hu, if_neg (fun h => hu (u1.1 h)), u2 hu0, strip_val]
          have hWn : W ≠ [] := fun h => hb (Or.inl h)
          rw [capA_val, if_neg hWn]
          have hq : unitP P / 152587890625 < 65536 := by
            rw [← u2 hu0]
            apply Nat.div_lt_of_lt_mul
            rw [Nat.mul_comm]
            exact (Nat.mul_lt_mul_right (by decide)).2 (valA_lt P hP)
          have hs := strip_big W hW
          generalize unitP P / 152587890625 = q at *
          generalize valA 0 W = n at *
          by_cases h8 : 8 < (W.dropWhile (fun c => c == 48)).length
          · have := hs h8
            rw [if_pos h8, if_pos (by omega)]
          · rw [if_neg h8]
            by_cases hl : 16777216 < n ∨ (n = 16777216 ∧ 0 < q)
            · rw [if_pos hl, if_pos (by omega)]
            · rw [if_neg hl, if_neg (by omega), Nat.min_eq_left (by omega)]
    · rw [if_neg hall, if_pos (Or.inr (Or.inr (by simpa using hall)))]
end Go.Proofs.Ytfckbkhnelgjbaa
end
/- Plain laws, with no program in sight: what fix.Read gives, case by case. -/
section
namespace Go.Proofs.Ytfckbkhnelgjbaa
set_option linter.unusedVariables false
theorem readP_large0 (s : List UInt8) (h : 40 < s.length) : readP s = (0, 2) := by unfold readP; rw [if_pos h]
theorem readP_none (s : List UInt8) (h0 : ¬ 40 < s.length) (h : scan (restL s) 0 0 (-1) = none) : readP s = (0, 15) := by unfold readP; rw [if_neg h0, h]
theorem readP_some (s l : List UInt8) (n D B : Nat) (d : Int) (h0 : ¬ 40 < s.length) (hl : l = restL s) (h : scan l 0 0 (-1) = some (n, d)) (hD : (D : Int) = if d < 0 then (l.length : Int) else d) (hB : min (D + 1) l.length = B) :
    readP s = if D = 0 ∨ D + 1 = l.length then (0, 15)
      else if 65536 * valA 0 (l.drop B) % 10 ^ (l.drop B).length ≠ 0 then (0, 3)
      else if 1099511627776 < n * 65536 + 65536 * valA 0 (l.drop B) / 10 ^ (l.drop B).length then (0, 2)
      else (sgn s (n * 65536 + 65536 * valA 0 (l.drop B) / 10 ^ (l.drop B).length), 0) := by
  subst hl
  unfold readP
  rw [if_neg h0, h]
  simp only
  rw [← hD]
  have e : (min ((D : Int) + 1) ((restL s).length : Int)).toNat = B := by omega
  rw [e]
  have e2 : ((D : Int) = 0 ∨ (D : Int) = ((restL s).length : Int) - 1) ↔ (D = 0 ∨ D + 1 = (restL s).length) := by omega
  by_cases h2 : D = 0 ∨ D + 1 = (restL s).length
  · rw [if_pos (e2.2 h2), if_pos h2]
  · rw [if_neg (fun h => h2 (e2.1 h)), if_neg h2]
theorem scan_tail (l : List UInt8) (n D B : Nat) (d : Int) (h : scan l 0 0 (-1) = some (n, d)) (hD : (D : Int) = if d < 0 then (l.length : Int) else d) (hB : min (D + 1) l.length = B) : (l.drop B).all dgB = true := by
  rw [scan_cut l 0 0 (Int.le_refl 0)] at h
  by_cases hall : ((cutD l).1 ++ (cutD l).2.1).all dgB = true
  · rw [if_pos hall] at h
    have hd := congrArg Prod.snd (Option.some.inj h)
    simp only at hd
    have hf := cutD_false l
    have ht := cutD_true l
    cases hb : (cutD l).2.2 with
    | false =>
      rw [hb] at hd
      simp only [if_false, Bool.false_eq_true] at hd
      subst hd
      rw [if_pos (by decide)] at hD
      have : B = l.length := by omega
      rw [this, List.drop_length]
      rfl
    | true =>
      have hl := ht hb
      rw [hb] at hd
      simp only [if_true] at hd
      subst hd
      rw [if_neg (by omega)] at hD
      have hln := congrArg List.length hl
      rw [List.length_append, List.length_cons] at hln
      have hBB : B = (cutD l).1.length + 1 := by omega
      have : l.drop B = (cutD l).2.1 := by
        conv => lhs; rw [hl]
        rw [hBB, ← List.drop_drop, List.drop_left]
        rfl
      rw [this]
      exact all_sub hall (fun c hc => List.mem_append_right _ hc)
  · rw [if_neg hall] at h; cases h
end Go.Proofs.Ytfckbkhnelgjbaa
end
