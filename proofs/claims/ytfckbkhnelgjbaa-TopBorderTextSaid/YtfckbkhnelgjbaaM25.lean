/- Lemmas for the law TopBorderText: TextBack, FloatP. No conditions. -/
import Derived.Test.YtfckbkhnelgjbaaM24
import Derived.WalkKit
import Derived.Laws.FloatArith
/- Plain law: the text of a number of units is read back as that number. No conditions besides its size. -/
section
namespace Go.Proofs.Ytfckbkhnelgjbaa
set_option linter.unusedVariables false
theorem dgB_dg (n : Nat) (h : n < 10) : dgB (dg n) = true := by
  unfold dgB
  rw [dg_toNat n (by omega)]
  simp; omega
theorem dg_ne46 {c : UInt8} (h : dgB c = true) : c ≠ 46 := fun e => by subst e; exact absurd h (by decide)
theorem dg_ne45 {c : UInt8} (h : dgB c = true) : c ≠ 45 := fun e => by subst e; exact absurd h (by decide)
theorem valA_one (a n : Nat) (h : n < 10) : valA a [dg n] = a * 10 + n := by
  rw [valA_cons, valA_nil, dg_toNat n (by omega)]; omega
theorem dec_all : ∀ n : Nat, (Lib.decDigits n).all dgB = true := by
  intro n
  induction n using Nat.strongRecOn with
  | ind n ih =>
    rw [Lib.decDigits]
    split
    · simp only [List.all_cons, List.all_nil, Bool.and_true]
      exact dgB_dg n (by assumption)
    · rw [List.all_append, ih (n / 10) (by omega)]
      simp only [List.all_cons, List.all_nil, Bool.and_true, Bool.true_and]
      exact dgB_dg (n % 10) (by omega)
theorem dec_val : ∀ n : Nat, valA 0 (Lib.decDigits n) = n := by
  intro n
  induction n using Nat.strongRecOn with
  | ind n ih =>
    rw [Lib.decDigits]
    split
    · have := valA_one 0 n (by assumption)
      unfold dg at this
      rw [this]; omega
    · have := valA_one (valA 0 (Lib.decDigits (n / 10))) (n % 10) (by omega)
      unfold dg at this
      rw [valA_app, this, ih (n / 10) (by omega)]
      omega
theorem dec_ne (n : Nat) : Lib.decDigits n ≠ [] := by
  rw [Lib.decDigits]
  split <;> simp
theorem padR_len (k : Nat) : ∀ m, (padR k m).length = k := by
  induction k with
  | zero => intro m; rfl
  | succ k ih => intro m; unfold padR; rw [List.length_append, ih]; rfl
theorem dec_le (n k : Nat) (hk : 0 < k) (h : n < 10 ^ k) : (Lib.decDigits n).length ≤ k := by
  have := congrArg List.length (dec_pad k n h hk)
  rw [List.length_append, List.length_replicate, padR_len] at this
  omega
theorem frac_all (k : Nat) : ∀ g, g < 2 ^ k → (fracD k g).all dgB = true := by
  induction k with
  | zero => intro g _; rfl
  | succ k ih =>
    intro g hg
    rw [fracD_succ]
    split
    · rfl
    · simp only [List.all_cons]
      have hp := Nat.two_pow_pos k
      rw [ih _ (Nat.mod_lt _ hp), Bool.and_true]
      refine dgB_dg _ ?_
      rw [Nat.div_lt_iff_lt_mul hp]
      rw [Nat.pow_succ] at hg
      omega
theorem frac_val (k : Nat) : ∀ g, g < 2 ^ k → valA 0 (fracD k g) * 2 ^ k = g * 10 ^ (fracD k g).length := by
  induction k with
  | zero => intro g hg; simp at hg; subst hg; rfl
  | succ k ih =>
    intro g hg
    rw [fracD_succ]
    split
    · rename_i h; subst h; simp [valA_nil]
    · have hp := Nat.two_pow_pos k
      have hr := ih (g * 5 % 2 ^ k) (Nat.mod_lt _ hp)
      have hd : g * 5 / 2 ^ k < 10 := by
        rw [Nat.div_lt_iff_lt_mul hp]
        rw [Nat.pow_succ] at hg
        omega
      have hm := Nat.div_add_mod (g * 5) (2 ^ k)
      rw [valA_cons0, dg_toNat _ (by omega), List.length_cons, valA_split, Nat.add_sub_cancel_left]
      generalize g * 5 / 2 ^ k = d at *
      generalize g * 5 % 2 ^ k = r at *
      generalize (fracD k r).length = L at *
      generalize valA 0 (fracD k r) = V at *
      rw [Nat.pow_succ, Nat.pow_succ]
      generalize 2 ^ k = P at *
      generalize 10 ^ L = T at *
      have e1 : (d * T + V) * (P * 2) = 2 * ((P * d) * T + V * P) := by
        rw [Nat.add_mul, Nat.mul_add]
        congr 1 <;> ac_rfl
      rw [e1, hr, ← Nat.add_mul, hm]
      rw [show g * (T * 10) = (g * T) * 10 by ac_rfl, show 2 * (g * 5 * T) = (g * T) * (2 * 5) by ac_rfl]
theorem cutD_digits : ∀ (l r : List UInt8), l.all dgB = true → cutD (l ++ 46 :: r) = (l, r, true)
  | [], r, _ => cutD_cons_eq r
  | c :: l, r, h => by
    simp only [List.all_cons, Bool.and_eq_true] at h
    rw [List.cons_append, cutD_cons_ne c _ (dg_ne46 h.1), cutD_digits l r h.2]
theorem cutD_plain : ∀ (l : List UInt8), l.all dgB = true → cutD l = (l, [], false)
  | [], _ => rfl
  | c :: l, h => by
    simp only [List.all_cons, Bool.and_eq_true] at h
    rw [cutD_cons_ne c _ (dg_ne46 h.1), cutD_plain l h.2]
theorem textL_cut (q g : Nat) (hg : g < 65536) : (cutD (Lib.decDigits q ++ if g = 0 then [] else 46 :: fracD 16 g)).1 = Lib.decDigits q ∧ (cutD (Lib.decDigits q ++ if g = 0 then [] else 46 :: fracD 16 g)).2.1 = fracD 16 g ∧ ((cutD (Lib.decDigits q ++ if g = 0 then [] else 46 :: fracD 16 g)).2.2 = true → g ≠ 0) := by
  by_cases h : g = 0
  · subst h
    rw [if_pos rfl, List.append_nil, cutD_plain _ (dec_all q), fracD_zero]
    exact ⟨rfl, rfl, fun h => by cases h⟩
  · rw [if_neg h, cutD_digits _ _ (dec_all q)]
    exact ⟨rfl, rfl, fun _ => h⟩
theorem text_rest (neg : Bool) (n : Nat) : restL (textL neg n) = Lib.decDigits (n / 65536) ++ (if n % 65536 = 0 then [] else 46 :: fracD 16 (n % 65536)) ∧ ∀ k, sgn (textL neg n) k = if neg then -(k : Int) else k := by
  unfold textL restL sgn
  cases neg with
  | true => simp
  | false =>
    have h : ((if false = true then [45] else []) ++ (Lib.decDigits (n / 65536) ++ if n % 65536 = 0 then [] else 46 :: fracD 16 (n % 65536)) : List UInt8).head? ≠ some 45 := by
      cases hd : Lib.decDigits (n / 65536) with
      | nil => exact absurd hd (dec_ne _)
      | cons c r =>
        have ha := dec_all (n / 65536)
        rw [hd] at ha
        simp only [List.all_cons, Bool.and_eq_true] at ha
        simp only [Bool.false_eq_true, if_false, List.nil_append, List.cons_append, List.head?_cons]
        intro e
        injection e with e
        exact dg_ne45 ha.1 e
    rw [if_neg h]
    refine ⟨rfl, fun k => ?_⟩
    rw [if_neg h]
    rfl
theorem frac16 (g : Nat) (hg : g < 65536) : ((longP (fracD 16 g)).drop 16).all (fun c => c == 48) = true ∧ unitP (fracD 16 g) = g * 152587890625 := by
  have hl := fracD_len 16 g
  have hv := frac_val 16 g hg
  unfold unitP longP
  constructor
  · rw [List.drop_append, List.drop_eq_nil_of_le hl, List.nil_append, List.drop_replicate]
    rw [List.all_eq_true]
    intro c hc
    rw [(List.mem_replicate.1 hc).2]
    rfl
  · rw [List.take_append, List.take_of_length_le hl, List.take_replicate, show min (16 - (fracD 16 g).length) 16 = 16 - (fracD 16 g).length by omega, valA_app, valA_zeros]
    generalize valA 0 (fracD 16 g) = V at *
    generalize (fracD 16 g).length = L at *
    have e : 10 ^ L * 10 ^ (16 - L) = 10 ^ 16 := by rw [← Nat.pow_add, show L + (16 - L) = 16 by omega]
    have h2 : (V * 10 ^ (16 - L)) * 2 ^ 16 = (g * 152587890625) * 2 ^ 16 := by
      rw [show (V * 10 ^ (16 - L)) * 2 ^ 16 = (V * 2 ^ 16) * 10 ^ (16 - L) by ac_rfl, hv, Nat.mul_assoc, e, Nat.mul_assoc]
    exact Nat.eq_of_mul_eq_mul_right (by decide) h2
theorem read_text (neg : Bool) (m : Nat) (hm : m ≤ 1099511627776) : readP (textL neg m) = (if neg then -(m : Int) else m, 0) := by
  obtain ⟨q, hq⟩ : ∃ q, q = m / 65536 := ⟨_, rfl⟩
  obtain ⟨g, hg⟩ : ∃ g, g = m % 65536 := ⟨_, rfl⟩
  have hg2 : g < 65536 := by omega
  have hq2 : q ≤ 16777216 := by omega
  have hqg : q = 16777216 → g = 0 := by omega
  have hmq : m = q * 65536 + g := by omega
  rw [read_eq]
  unfold numP
  obtain ⟨hr, hs⟩ := text_rest neg m
  have hlen : ¬ 40 < (textL neg m).length := by
    unfold textL
    have h1 := dec_le q 8 (by decide) (by omega)
    have h2 := fracD_len 16 g
    have h3 : (if neg = true then [45] else [] : List UInt8).length ≤ 1 := by cases neg <;> simp
    have h4 : (if g = 0 then [] else 46 :: fracD 16 g : List UInt8).length ≤ 17 := by split <;> simp; omega
    rw [← hq, ← hg, List.length_append, List.length_append]
    omega
  rw [if_neg hlen, hr, ← hq, ← hg]
  obtain ⟨c1, c2, c3⟩ := textL_cut q g hg2
  rw [c1, c2]
  obtain ⟨f1, f2⟩ := frac16 g hg2
  have hd := dec_all q
  have hf := frac_all 16 g hg2
  have hdl := dec_le q 8 (by decide) (by omega)
  have hst := strip_val (Lib.decDigits q)
  rw [dec_val] at hst
  have hsl : ¬ 8 < ((Lib.decDigits q).dropWhile (fun c => c == 48)).length := by
    have := (List.dropWhile_sublist (l := Lib.decDigits q) (fun c => c == 48)).length_le
    omega
  have e1 : ¬ (Lib.decDigits q = [] ∨ ((cutD (Lib.decDigits q ++ if g = 0 then [] else 46 :: fracD 16 g)).2.2 = true ∧ fracD 16 g = []) ∨ (Lib.decDigits q ++ fracD 16 g).all dgB = false) := by
    rintro (h | ⟨h, h2⟩ | h)
    · exact dec_ne _ h
    · exact c3 h (fracD_nil 16 g hg2 h2)
    · rw [List.all_append, hd, hf] at h; cases h
  have e2 : ¬ (((longP (fracD 16 g)).drop 16).all (fun c => c == 48) = false ∨ unitP (fracD 16 g) % 152587890625 ≠ 0) := by
    rw [f1, f2, Nat.mul_mod_left]
    rintro (h | h)
    · cases h
    · exact h rfl
  rw [if_neg e1, if_neg e2, if_neg hsl, hst, f2, Nat.mul_div_cancel _ (by decide), if_neg (by omega), hs, ← hmq]
end Go.Proofs.Ytfckbkhnelgjbaa
end
/- Floats of 64 bits: exact numbers, written and read. No program is named here. -/
section
namespace Go.Fl
open Ieee
set_option linter.unusedVariables false
def D : Format := Ieee.double
theorem sw : Ieee.double.signWeight = 9223372036854775808 := by decide
theorem bn : Ieee.double.binade = 4503599627370496 := by decide
theorem ir : Ieee.double.infRung = 9218868437227405312 := by decide
theorem lp : Ieee.double.leastPlace = -1074 := by decide
theorem fb : Ieee.double.fractionBits = 52 := rfl
/-- a significand and a place as the format has them -/
def Fit (K : Nat) (L : Int) : Prop := 0 < K ∧ K < 9007199254740992 ∧ -1074 ≤ L ∧ L ≤ 900 ∧ (4503599627370496 ≤ K ∨ L = -1074)
def rungOf (K : Nat) (L : Int) : Nat := (L + 1074).toNat * 4503599627370496 + K
theorem word_eq (s : Bool) (r : Nat) : Ieee.double.word s r = if s then 9223372036854775808 + r else r := by
  unfold Format.word; rw [sw]
theorem rung_lt {K : Nat} {L : Int} (h : Fit K L) : rungOf K L < 9218868437227405312 := by
  obtain ⟨h0, h1, h2, h3, h4⟩ := h
  unfold rungOf; omega
theorem read_fit (s : Bool) {K : Nat} {L : Int} (h : Fit K L) : Ieee.double.read (Ieee.double.word s (rungOf K L)) = .number s K L := by
  have hr := rung_lt h
  obtain ⟨h0, h1, h2, h3, h4⟩ := h
  unfold Format.read
  rw [word_eq, sw, bn, ir, lp]
  have hm : (if s = true then 9223372036854775808 + rungOf K L else rungOf K L) % 9223372036854775808 = rungOf K L := by
    cases s <;> simp <;> omega
  have hs : ((if s = true then 9223372036854775808 + rungOf K L else rungOf K L) / 9223372036854775808 % 2 == 1) = s := by
    cases s
    · have : rungOf K L / 9223372036854775808 = 0 := by omega
      simp [this]
    · have : (9223372036854775808 + rungOf K L) / 9223372036854775808 = 1 := by omega
      simp [this]
  simp only [hm, hs]
  by_cases hL : L = -1074
  · subst hL
    have hk : rungOf K (-1074) = K := by unfold rungOf; simp
    rw [hk]
    by_cases hk2 : K < 4503599627370496
    · rw [if_pos hk2]
    · have e1 : K / 4503599627370496 = 1 := by omega
      have e2 : 4503599627370496 + K % 4503599627370496 = K := by omega
      rw [if_neg hk2, if_pos (by omega), e1, e2]; rfl
  · have hk : 4503599627370496 ≤ K := by omega
    obtain ⟨n, hn⟩ : ∃ n : Nat, (L + 1074).toNat = n := ⟨_, rfl⟩
    have hr2 : rungOf K L = n * 4503599627370496 + K := by unfold rungOf; rw [hn]
    have e1 : rungOf K L / 4503599627370496 = n + 1 := by omega
    have e2 : 4503599627370496 + rungOf K L % 4503599627370496 = K := by omega
    rw [if_neg (by omega), if_pos hr, e1, e2]
    congr 1
    omega
theorem cut_exact (way : Toward) (s : Bool) (x d : Nat) : way.cut s (x * 2 ^ d) d = x := by
  unfold Toward.cut
  by_cases hx : x = 0
  · subst hx
    cases way <;> simp
  · have hl : d ≤ (x * 2 ^ d).log2 := by
      rw [Nat.le_log2 (by have := Nat.two_pow_pos d; exact Nat.mul_ne_zero hx (by omega))]
      exact Nat.le_mul_of_pos_left _ (by omega)
    rw [Nat.min_eq_left (by omega)]
    have hp : 0 < 2 ^ d := Nat.two_pow_pos d
    simp only [Nat.shiftLeft_eq, Nat.one_mul]
    rw [Nat.mul_div_cancel _ hp, Nat.mul_mod_left]
    cases way <;> simp <;> omega
theorem cut_zero (s : Bool) (n d : Nat) : Toward.zero.cut s n d = n / 2 ^ d := by
  unfold Toward.cut
  simp only [Bool.toNat_false, Nat.add_zero, Nat.shiftLeft_eq, Nat.one_mul]
  by_cases h : d ≤ n.log2 + 2
  · rw [Nat.min_eq_left h]
  · rw [Nat.min_eq_right (by omega)]
    have h1 : n < 2 ^ (n.log2 + 1) := Nat.lt_log2_self
    have h2 : 2 ^ (n.log2 + 1) ≤ 2 ^ (n.log2 + 2) := Nat.pow_le_pow_right (by omega) (by omega)
    have h3 : 2 ^ (n.log2 + 1) ≤ 2 ^ d := Nat.pow_le_pow_right (by omega) (by omega)
    rw [Nat.div_eq_of_lt (by omega), Nat.div_eq_of_lt (by omega)]
theorem log2_mul (x d : Nat) (hx : 0 < x) : (x * 2 ^ d).log2 = x.log2 + d := by
  have hp : 0 < 2 ^ d := Nat.two_pow_pos d
  have hne : x * 2 ^ d ≠ 0 := by exact Nat.mul_ne_zero (by omega) (by omega)
  have a : x.log2 + d ≤ (x * 2 ^ d).log2 := by
    rw [Nat.le_log2 hne, Nat.pow_add]
    exact Nat.mul_le_mul_right _ (Nat.log2_self_le (by omega))
  have b : (x * 2 ^ d).log2 < x.log2 + d + 1 := by
    rw [Nat.log2_lt hne, show x.log2 + d + 1 = x.log2 + 1 + d by omega, Nat.pow_add]
    exact Nat.mul_lt_mul_of_pos_right Nat.lt_log2_self hp
  omega
theorem log2_fit {K : Nat} (h : 4503599627370496 ≤ K) (h1 : K < 9007199254740992) : K.log2 = 52 := by
  have a : 52 ≤ K.log2 := by rw [Nat.le_log2 (by omega)]; omega
  have b : K.log2 < 53 := by rw [Nat.log2_lt (by omega)]; omega
  omega
theorem log2_low {K : Nat} (h0 : 0 < K) (h1 : K < 9007199254740992) : K.log2 ≤ 52 := by
  have b : K.log2 < 53 := by rw [Nat.log2_lt (by omega)]; omega
  omega
/-- A number that the format has is written as it is: from a greater place (K = mag * 2^p) .. -/
theorem write_up (s : Bool) {K : Nat} {L : Int} (h : Fit K L) (mag p : Nat) (e : K = mag * 2 ^ p) : Ieee.double.nearest s mag (L + p) = Ieee.double.word s (rungOf K L) := by
  have hr := rung_lt h
  obtain ⟨h0, h1, h2, h3, h4⟩ := h
  have hm : 0 < mag := by
    rcases Nat.eq_zero_or_pos mag with h | h
    · subst h; simp at e; omega
    · exact h
  have hl : K.log2 = mag.log2 + p := by rw [e]; exact log2_mul _ _ hm
  have hlast : max (L + (p : Int) + mag.log2 - 52) (-1074) = L := by
    rcases h4 with h | h
    · have := log2_fit h h1; omega
    · have := log2_low h0 h1; omega
  unfold Format.nearest
  rw [if_neg (by omega)]
  simp only [fb, lp, bn, ir]
  rw [show (((52 : Nat) : Int)) = 52 from rfl, hlast]
  rw [show (L + (p : Int) - L).toNat = p by omega, show (L - (L + (p : Int))).toNat = 0 by omega]
  have hc := cut_exact .even s K 0
  rw [Nat.pow_zero, Nat.mul_one] at hc
  rw [Nat.shiftLeft_eq, ← e, hc, show (L - -1074) = L + 1074 by omega]
  rw [show (L + 1074).toNat * 4503599627370496 + K = rungOf K L from rfl, Nat.min_eq_left (by omega)]
/-- .. and from a lower place (mag = K * 2^q). -/
theorem write_down (s : Bool) {K : Nat} {L : Int} (h : Fit K L) (q : Nat) : Ieee.double.nearest s (K * 2 ^ q) (L - q) = Ieee.double.word s (rungOf K L) := by
  have hr := rung_lt h
  obtain ⟨h0, h1, h2, h3, h4⟩ := h
  have hp : 0 < 2 ^ q := Nat.two_pow_pos q
  have hl : (K * 2 ^ q).log2 = K.log2 + q := log2_mul _ _ h0
  have hlast : max (L - (q : Int) + ((K * 2 ^ q).log2 : Int) - 52) (-1074) = L := by
    rw [hl]
    rcases h4 with h | h
    · have := log2_fit h h1; omega
    · have := log2_low h0 h1; omega
  unfold Format.nearest
  rw [if_neg (Nat.mul_ne_zero (by omega) (by omega))]
  simp only [fb, lp, bn, ir]
  rw [show (((52 : Nat) : Int)) = 52 from rfl, hlast]
  rw [show (L - (q : Int) - L).toNat = 0 by omega, show (L - (L - (q : Int))).toNat = q by omega]
  rw [Nat.shiftLeft_eq, Nat.pow_zero, Nat.mul_one, cut_exact, show (L - -1074) = L + 1074 by omega]
  rw [show (L + 1074).toNat * 4503599627370496 + K = rungOf K L from rfl, Nat.min_eq_left (by omega)]
/-- sign, exponent field, fraction of a word of 64 bits -/
def sg (b : Nat) : Bool := b / 9223372036854775808 % 2 == 1
def ex (b : Nat) : Nat := b / 4503599627370496 % 2048
def fr (b : Nat) : Nat := b % 4503599627370496
def mm (b : Nat) : Nat := if ex b = 0 then fr b else 4503599627370496 + fr b
def xp (b : Nat) : Nat := if ex b = 0 then 1 else ex b
theorem mm_lt (b : Nat) : mm b < 9007199254740992 := by unfold mm fr; split <;> omega
theorem mm_big {b : Nat} (h : ex b ≠ 0) : 4503599627370496 ≤ mm b := by unfold mm; rw [if_neg h]; omega
theorem xp_bd (b : Nat) : 1 ≤ xp b ∧ xp b ≤ 2047 := by unfold xp ex; split <;> omega
theorem read_num {b : Nat} (h : ex b ≠ 2047) : Ieee.double.read b = .number (sg b) (mm b) ((xp b : Int) - 1075) := by
  have hb : ex b < 2047 := by have : ex b < 2048 := Nat.mod_lt _ (by decide); omega
  unfold Format.read
  rw [sw, bn, ir, lp]
  have hr : b % 9223372036854775808 = ex b * 4503599627370496 + fr b := by unfold ex fr; omega
  have hf : fr b < 4503599627370496 := Nat.mod_lt _ (by decide)
  simp only [hr]
  by_cases h0 : ex b = 0
  · rw [h0, if_pos (by omega)]
    unfold mm xp
    rw [if_pos h0, if_pos h0]
    congr 1
    omega
  · rw [if_neg (by omega), if_pos (by omega)]
    unfold mm xp
    rw [if_neg h0, if_neg h0]
    have e1 : (ex b * 4503599627370496 + fr b) % 4503599627370496 = fr b := by omega
    have e2 : (ex b * 4503599627370496 + fr b) / 4503599627370496 = ex b := by omega
    rw [e1, e2]
    congr 1
    omega
theorem read_top {b : Nat} (h : ex b = 2047) : Ieee.double.read b = if fr b = 0 then .infinity (sg b) else .nan (sg b) (fr b) := by
  unfold Format.read
  rw [sw, bn, ir, lp]
  have hr : b % 9223372036854775808 = ex b * 4503599627370496 + fr b := by unfold ex fr; omega
  simp only [hr]
  rw [h, if_neg (by omega), if_neg (by omega)]
  by_cases h0 : fr b = 0
  · rw [if_pos (by omega), if_pos h0]; rfl
  · rw [if_neg (by omega), if_neg h0, show 2047 * 4503599627370496 + fr b - 9218868437227405312 = fr b by omega]; rfl
/-- the word without its sign -/
theorem abs_ex (b : Nat) : ex (b % 9223372036854775808) = ex b ∧ fr (b % 9223372036854775808) = fr b ∧ sg (b % 9223372036854775808) = false := by
  refine ⟨by unfold ex; omega, by unfold fr; omega, ?_⟩
  unfold sg
  rw [Nat.div_eq_of_lt (Nat.mod_lt _ (by decide))]; rfl
theorem abs_mm (b : Nat) : mm (b % 9223372036854775808) = mm b ∧ xp (b % 9223372036854775808) = xp b := by
  obtain ⟨h1, h2, _⟩ := abs_ex b
  unfold mm xp; rw [h1, h2]; exact ⟨rfl, rfl⟩
theorem order_self {b : Nat} (h : ex b ≠ 2047) : Ieee.double.order b b = some .eq := by
  unfold Format.order
  rw [read_num h]
  simp [Datum.order]
/-- nothing finite is above the greatest number; infinity is -/
theorem abs_inf {b : Nat} (h : ex b ≠ 2047) : Ieee.double.order (b % 9223372036854775808) 9218868437227405311 ≠ some .gt := by
  obtain ⟨h1, h2, h3⟩ := abs_ex b
  obtain ⟨h4, h5⟩ := abs_mm b
  unfold Format.order
  rw [read_num (by rw [h1]; exact h), h3, h4, h5, show Ieee.double.read 9218868437227405311 = .number false 9007199254740991 971 by decide]
  have hx : xp b ≤ 2046 := by unfold xp; have : ex b < 2048 := Nat.mod_lt _ (by decide); split <;> omega
  simp only [Datum.order, signed, Nat.shiftLeft_eq]
  rw [show min ((xp b : Int) - 1075) 971 = (xp b : Int) - 1075 by omega, show ((xp b : Int) - 1075 - ((xp b : Int) - 1075)).toNat = 0 by omega]
  have hp : 0 < 2 ^ (971 - ((xp b : Int) - 1075)).toNat := Nat.two_pow_pos _
  have hm := mm_lt b
  have hle : mm b * 2 ^ 0 ≤ 9007199254740991 * 2 ^ (971 - ((xp b : Int) - 1075)).toNat := by
    have := Nat.mul_le_mul_left 9007199254740991 hp
    omega
  generalize 9007199254740991 * 2 ^ (971 - ((xp b : Int) - 1075)).toNat = X at hle
  generalize mm b * 2 ^ 0 = Y at hle
  simp only [Bool.false_eq_true, if_false]
  intro hc
  have hc2 : compare (Y : Int) (X : Int) = .gt := Option.some.inj hc
  rw [Int.compare_eq_gt] at hc2
  omega
theorem top_self {b : Nat} (h : ex b = 2047) (h2 : Ieee.double.order b b = some .eq) : Ieee.double.order (b % 9223372036854775808) 9218868437227405311 = some .gt := by
  obtain ⟨h3, h4, h5⟩ := abs_ex b
  unfold Format.order at h2 ⊢
  rw [read_top h] at h2
  rw [read_top (by rw [h3]; exact h), h4, h5, show Ieee.double.read 9218868437227405311 = .number false 9007199254740991 971 by decide]
  by_cases h0 : fr b = 0
  · rw [if_pos h0]; rfl
  · rw [if_neg h0] at h2; simp [Datum.order] at h2
theorem cmp_gt (X Y : Nat) : (some (compare (X : Int) (Y : Int)) == some Ordering.gt) = decide (Y < X) := by
  by_cases h : Y < X
  · have : compare (X : Int) (Y : Int) = .gt := by rw [Int.compare_eq_gt]; omega
    rw [this]; simp [h]
  · have : compare (X : Int) (Y : Int) ≠ .gt := by rw [Ne, Int.compare_eq_gt]; omega
    simp [h, this]
theorem gt_scale (m n : Nat) (i j : Int) (hm : m < 2 * n) (hj : j < i → n ≤ m) (hn : 0 < n) : n * 2 ^ (j - min i j).toNat < m * 2 ^ (i - min i j).toNat ↔ (j < i ∨ i = j ∧ n < m) := by
  rcases Int.lt_trichotomy i j with hx | hx | hx
  · rw [Int.min_eq_left (by omega), show (i - i).toNat = 0 by omega]
    obtain ⟨k, hk⟩ : ∃ k, (j - i).toNat = k + 1 := ⟨(j - i).toNat - 1, by omega⟩
    rw [hk, Nat.pow_succ]
    have h1 : n * 2 ≤ n * (2 ^ k * 2) := Nat.mul_le_mul_left _ (by have := Nat.two_pow_pos k; omega)
    omega
  · subst hx
    rw [Int.min_eq_left (by omega), show (i - i).toNat = 0 by omega]
    omega
  · have := hj hx
    rw [Int.min_eq_right (by omega), show (j - j).toNat = 0 by omega]
    obtain ⟨k, hk⟩ : ∃ k, (i - j).toNat = k + 1 := ⟨(i - j).toNat - 1, by omega⟩
    rw [hk, Nat.pow_succ]
    have h1 : m * 2 ≤ m * (2 ^ k * 2) := Nat.mul_le_mul_left _ (by have := Nat.two_pow_pos k; omega)
    omega
/-- above 2^24 -/
theorem abs_gt {b : Nat} (h : ex b ≠ 2047) : (Ieee.double.order (b % 9223372036854775808) 4715268809856909312 == some .gt) = (decide (1047 < xp b) || (xp b == 1047) && decide (4503599627370496 < mm b)) := by
  obtain ⟨h1, h2, h3⟩ := abs_ex b
  obtain ⟨h4, h5⟩ := abs_mm b
  unfold Format.order
  rw [read_num (by rw [h1]; exact h), h3, h4, h5, show Ieee.double.read 4715268809856909312 = .number false 4503599627370496 (-28) by decide]
  have hm := mm_lt b
  have hbig : 1047 < xp b → 4503599627370496 ≤ mm b := fun hx => mm_big (by unfold xp at hx; intro h0; rw [if_pos h0] at hx; omega)
  simp only [Datum.order, signed, Nat.shiftLeft_eq, Bool.false_eq_true, if_false]
  have hG := gt_scale (mm b) 4503599627370496 ((xp b : Int) - 1075) (-28) (by omega) (fun hx => hbig (by omega)) (by decide)
  rw [cmp_gt]
  have hA : ((-28 : Int) < (xp b : Int) - 1075) ↔ 1047 < xp b := by omega
  have hB : ((xp b : Int) - 1075 = -28) ↔ xp b = 1047 := by omega
  rw [Bool.eq_iff_iff]
  simp only [decide_eq_true_eq, Bool.or_eq_true, Bool.and_eq_true, beq_iff_eq]
  rw [hG, hA, hB]
/-- what is left of a shift to the right -/
theorem not_dvd_small {K d : Nat} (h0 : 0 < K) (h : K < 2 ^ d) : K % 2 ^ d ≠ 0 := by rw [Nat.mod_eq_of_lt h]; omega
/-- the product with 2^16, of a number that is not 0 and not above 2^24: a word whose number is K at a place below -11; K's cut is m's cut -/
theorem mul_fit {b : Nat} (h : ex b ≠ 2047) (hx : xp b ≤ 1047) (hm : 0 < mm b) :
    ∃ K d : Nat, Fit K (-(d : Int)) ∧ 12 ≤ d ∧ Ieee.double.mul b 4679240012837945344 = some (Ieee.double.word (sg b) (rungOf K (-(d : Int)))) ∧
      (K % 2 ^ d = 0 ↔ mm b % 2 ^ (1059 - xp b) = 0) ∧ K / 2 ^ d = mm b / 2 ^ (1059 - xp b) := by
  have hlt := mm_lt b
  have h1 := (xp_bd b).1
  unfold Format.mul
  rw [read_num h, show Ieee.double.read 4679240012837945344 = .number false 4503599627370496 (-36) by decide]
  simp only [Datum.product, Option.map_some, Bool.xor_false, Format.write]
  by_cases hb : 4503599627370496 ≤ mm b
  · refine ⟨mm b, 1059 - xp b, ⟨hm, hlt, by omega, by omega, .inl hb⟩, by omega, ?_, Iff.rfl, rfl⟩
    have hF : Fit (mm b) (-((1059 - xp b : Nat) : Int)) := ⟨hm, hlt, by omega, by omega, .inl hb⟩
    rw [← write_down (sg b) hF 52]
    rw [show (2 : Nat) ^ 52 = 4503599627370496 from rfl, show -((1059 - xp b : Nat) : Int) - ((52 : Nat) : Int) = (xp b : Int) - 1075 + -36 by omega]
  · have hx0 : xp b = 1 := by
      by_cases h0 : ex b = 0
      · unfold xp; rw [if_pos h0]
      · exact absurd (mm_big h0) hb
    have hbig : ∀ K d : Nat, K < 9007199254740992 → 53 ≤ d → K < 2 ^ d := fun K d hK hd => by
      have : 2 ^ 53 ≤ 2 ^ d := Nat.pow_le_pow_right (by decide) hd
      have e : (2 : Nat) ^ 53 = 9007199254740992 := rfl
      omega
    have hmd : mm b < 2 ^ (1059 - xp b) := hbig _ _ (by omega) (by omega)
    by_cases hs : mm b * 65536 < 9007199254740992
    · obtain ⟨D, hD⟩ : ∃ D, D = 1074 := ⟨_, rfl⟩
      have hF : Fit (mm b * 65536) (-(D : Int)) := ⟨by omega, hs, by omega, by omega, .inr (by omega)⟩
      have hKd : mm b * 65536 < 2 ^ D := hbig _ _ hs (by omega)
      refine ⟨mm b * 65536, D, hF, by omega, ?_, ?_, ?_⟩
      · rw [← write_down (sg b) hF 36, hx0]
        rw [Nat.mul_assoc, show 65536 * 2 ^ 36 = 4503599627370496 from rfl, show -(D : Int) - ((36 : Nat) : Int) = ((1 : Nat) : Int) - 1075 + -36 by omega]
      · exact ⟨fun h => absurd h (not_dvd_small (by omega) hKd), fun h => absurd h (not_dvd_small hm hmd)⟩
      · rw [Nat.div_eq_of_lt hKd, Nat.div_eq_of_lt hmd]
    · obtain ⟨c, hc⟩ : ∃ c, (mm b).log2 = c := ⟨_, rfl⟩
      have c1 : 37 ≤ c := by rw [← hc, Nat.le_log2 (by omega)]; omega
      have c2 : c < 52 := by rw [← hc, Nat.log2_lt (by omega)]; omega
      have l1 : 2 ^ c ≤ mm b := by rw [← hc]; exact Nat.log2_self_le (by omega)
      have l2 : mm b < 2 ^ (c + 1) := by rw [← hc]; exact Nat.lt_log2_self
      have e1 : 2 ^ c * 2 ^ (52 - c) = 4503599627370496 := by rw [← Nat.pow_add, show c + (52 - c) = 52 by omega]
      have e2 : 2 ^ (c + 1) * 2 ^ (52 - c) = 9007199254740992 := by rw [← Nat.pow_add, show c + 1 + (52 - c) = 53 by omega]
      have k1 : 4503599627370496 ≤ mm b * 2 ^ (52 - c) := by rw [← e1]; exact Nat.mul_le_mul_right _ l1
      have k2 : mm b * 2 ^ (52 - c) < 9007199254740992 := by rw [← e2]; exact Nat.mul_lt_mul_of_pos_right l2 (Nat.two_pow_pos _)
      have hF : Fit (mm b * 2 ^ (52 - c)) (-((1110 - c : Nat) : Int)) := ⟨by omega, k2, by omega, by omega, .inl k1⟩
      have hKd : mm b * 2 ^ (52 - c) < 2 ^ (1110 - c) := hbig _ _ k2 (by omega)
      refine ⟨mm b * 2 ^ (52 - c), 1110 - c, hF, by omega, ?_, ?_, ?_⟩
      · rw [← write_down (sg b) hF c, hx0]
        rw [Nat.mul_assoc, ← Nat.pow_add, show 52 - c + c = 52 by omega, show (2 : Nat) ^ 52 = 4503599627370496 from rfl, show -((1110 - c : Nat) : Int) - (c : Int) = ((1 : Nat) : Int) - 1075 + -36 by omega]
      · exact ⟨fun h => absurd h (not_dvd_small (by omega) hKd), fun h => absurd h (not_dvd_small hm hmd)⟩
      · rw [Nat.div_eq_of_lt hKd, Nat.div_eq_of_lt hmd]
/-- a number cut to a whole one, as a word -/
def truncW (s : Bool) (K d : Nat) : Nat := Ieee.double.write ((Datum.number s K (-(d : Int))).integral .zero)
theorem integral_eq (s : Bool) (K d : Nat) : (Datum.number s K (-(d : Int))).integral .zero = .number s (K / 2 ^ d) 0 := by
  simp only [Datum.integral, Nat.shiftLeft_eq]
  rw [show (-(d : Int)).toNat = 0 by omega, show (- -(d : Int)).toNat = d by omega, cut_zero, Nat.pow_zero, Nat.mul_one]
theorem trunc_whole (s : Bool) {K d : Nat} (hF : Fit K (-(d : Int))) (h : K % 2 ^ d = 0) : truncW s K d = Ieee.double.word s (rungOf K (-(d : Int))) := by
  unfold truncW
  rw [integral_eq]
  have e : K = K / 2 ^ d * 2 ^ d := by
    have := Nat.div_add_mod K (2 ^ d)
    rw [h, Nat.add_zero, Nat.mul_comm] at this
    exact this.symm
  have := write_up s hF (K / 2 ^ d) d e
  rw [show -(d : Int) + (d : Int) = 0 by omega] at this
  exact this
theorem trunc_other (s : Bool) {K d : Nat} (hF : Fit K (-(d : Int))) (h : K % 2 ^ d ≠ 0) : Ieee.double.order (Ieee.double.word s (rungOf K (-(d : Int)))) (truncW s K d) ≠ some .eq := by
  unfold truncW Format.order
  rw [integral_eq, read_fit s hF]
  have hK := hF.1
  have hlt := hF.2.1
  by_cases h0 : K / 2 ^ d = 0
  · rw [h0]
    have e : Ieee.double.read (Ieee.double.write (.number s 0 0)) = .number s 0 (-1074) := by cases s <;> decide
    rw [e]
    simp only [Datum.order, signed, Nat.shiftLeft_eq, Nat.zero_mul]
    have hp : 0 < K * 2 ^ (-(d : Int) - min (-(d : Int)) (-1074)).toNat := Nat.mul_pos hK (Nat.two_pow_pos _)
    generalize K * 2 ^ (-(d : Int) - min (-(d : Int)) (-1074)).toNat = X at hp
    intro hc
    have hc2 := Option.some.inj hc
    rw [Int.compare_eq_eq] at hc2
    cases s <;> simp at hc2 <;> omega
  · obtain ⟨T, hT⟩ : ∃ T, K / 2 ^ d = T := ⟨_, rfl⟩
    have hTK : T ≤ K := by rw [← hT]; exact Nat.div_le_self _ _
    rw [hT] at h0 ⊢
    obtain ⟨c, hc⟩ : ∃ c, T.log2 = c := ⟨_, rfl⟩
    have c2 : c < 53 := by rw [← hc, Nat.log2_lt h0]; omega
    have l1 : 2 ^ c ≤ T := by rw [← hc]; exact Nat.log2_self_le (by omega)
    have l2 : T < 2 ^ (c + 1) := by rw [← hc]; exact Nat.lt_log2_self
    have e1 : 2 ^ c * 2 ^ (52 - c) = 4503599627370496 := by rw [← Nat.pow_add, show c + (52 - c) = 52 by omega]
    have e2 : 2 ^ (c + 1) * 2 ^ (52 - c) = 9007199254740992 := by rw [← Nat.pow_add, show c + 1 + (52 - c) = 53 by omega]
    have k1 : 4503599627370496 ≤ T * 2 ^ (52 - c) := by rw [← e1]; exact Nat.mul_le_mul_right _ l1
    have k2 : T * 2 ^ (52 - c) < 9007199254740992 := by rw [← e2]; exact Nat.mul_lt_mul_of_pos_right l2 (Nat.two_pow_pos _)
    obtain ⟨p, hp⟩ : ∃ p, 52 - c = p := ⟨_, rfl⟩
    rw [hp] at k1 k2
    have hG : Fit (T * 2 ^ p) (-(p : Int)) := ⟨by omega, k2, by omega, by omega, .inl k1⟩
    have hw := write_up s hG T p rfl
    rw [show -(p : Int) + (p : Int) = 0 by omega] at hw
    have hw2 : Ieee.double.write (.number s T 0) = Ieee.double.word s (rungOf (T * 2 ^ p) (-(p : Int))) := hw
    rw [hw2, read_fit s hG]
    simp only [Datum.order, signed, Nat.shiftLeft_eq]
    intro hcc
    have hc2 := Option.some.inj hcc
    rw [Int.compare_eq_eq] at hc2
    have hx : K * 2 ^ (-(d : Int) - min (-(d : Int)) (-(p : Int))).toNat = T * 2 ^ p * 2 ^ (-(p : Int) - min (-(d : Int)) (-(p : Int))).toNat := by
      cases s
      · simp only [Bool.false_eq_true, ↓reduceIte] at hc2; exact Int.ofNat_inj.1 hc2
      · simp only [↓reduceIte] at hc2; exact Int.ofNat_inj.1 (Int.neg_inj.1 hc2)
    rw [Nat.mul_assoc, ← Nat.pow_add] at hx
    obtain ⟨e, he, he2⟩ : ∃ e, (-(d : Int) - min (-(d : Int)) (-(p : Int))).toNat = e ∧ p + (-(p : Int) - min (-(d : Int)) (-(p : Int))).toNat = d + e := ⟨_, rfl, by omega⟩
    rw [he, he2, Nat.pow_add, ← Nat.mul_assoc] at hx
    have hKT : K = T * 2 ^ d := Nat.eq_of_mul_eq_mul_right (Nat.two_pow_pos e) hx
    rw [hKT, Nat.mul_mod_left] at h
    exact h rfl
theorem toInt_eq (s : Bool) (K d : Nat) : (Datum.number s K (-(d : Int))).toInt .zero = some (if s then -((K / 2 ^ d : Nat) : Int) else ((K / 2 ^ d : Nat) : Int)) := by
  unfold Datum.toInt
  rw [integral_eq]
  simp only [signed, Nat.shiftLeft_eq, Nat.pow_zero, Nat.mul_one]
/-- the whole number T as a word, and that word by 2^16 -/
theorem of_whole (s : Bool) {T p : Nat} (k1 : 4503599627370496 ≤ T * 2 ^ p) (k2 : T * 2 ^ p < 9007199254740992) (hp : p ≤ 900) : Ieee.double.write (.number s T 0) = Ieee.double.word s (rungOf (T * 2 ^ p) (-(p : Int))) := by
  have hG : Fit (T * 2 ^ p) (-(p : Int)) := ⟨by omega, k2, by omega, by omega, .inl k1⟩
  have hw := write_up s hG T p rfl
  rw [show -(p : Int) + (p : Int) = 0 by omega] at hw
  exact hw
theorem by_one (s : Bool) {K p : Nat} (k1 : 4503599627370496 ≤ K) (k2 : K < 9007199254740992) (hp : p ≤ 900) : Ieee.double.div (Ieee.double.word s (rungOf K (-(p : Int)))) 4679240012837945344 = some (Ieee.double.word s (rungOf K (-((p + 16 : Nat) : Int)))) := by
  have hF : Fit K (-(p : Int)) := ⟨by omega, k2, by omega, by omega, .inl k1⟩
  have hG : Fit K (-((p + 16 : Nat) : Int)) := ⟨by omega, k2, by omega, by omega, .inl k1⟩
  unfold Format.div
  rw [read_fit s hF, show Ieee.double.read 4679240012837945344 = .number false 4503599627370496 (-36) by decide, fb]
  simp only [Datum.quotient, Bool.xor_false]
  rw [if_neg (by decide), log2_fit k1 k2, show Nat.log2 4503599627370496 = 52 by decide, Nat.shiftLeft_eq, show 52 + 2 + 52 - 52 = 54 from rfl]
  have e1 : K * 2 ^ 54 / 4503599627370496 = K * 4 := by
    rw [show (2 : Nat) ^ 54 = 4 * 4503599627370496 from rfl, ← Nat.mul_assoc, Nat.mul_div_cancel _ (by decide)]
  have e2 : K * 2 ^ 54 % 4503599627370496 = 0 := by
    rw [show (2 : Nat) ^ 54 = 4 * 4503599627370496 from rfl, ← Nat.mul_assoc, Nat.mul_mod_left]
  rw [e1, e2]
  simp only [Option.map_some, Format.write]
  have hw := write_down s hG 3
  rw [show 2 * (K * 4) + (0 != 0).toNat = K * 2 ^ 3 by simp; omega, show -(p : Int) - -36 - ((54 : Nat) : Int) - 1 = -((p + 16 : Nat) : Int) - ((3 : Nat) : Int) by omega, hw]
theorem word_nat (s : Bool) (K p : Nat) (hp : p ≤ 900) : Ieee.double.word s (rungOf K (-((p + 16 : Nat) : Int))) = (if s then 9223372036854775808 else 0) + (1058 - p) * 4503599627370496 + K := by
  rw [word_eq]; unfold rungOf
  rw [show (-((p + 16 : Nat) : Int) + 1074).toNat = 1058 - p by omega]
  cases s <;> simp <;> omega
end Go.Fl
end
