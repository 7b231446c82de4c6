/- Bits packed into bytes; what a writer writes (plain). -/
import Derived.Test.YtdhaaeaacbnghaaBitsP2
namespace Go.Bp
open Go.RowKit
def packN (N : Nat) (L : List Bool) : List Int := (List.range N).map fun q => ((bval (seg L (8 * q) 8) : Nat) : Int)
def packB (L : List Bool) : List Int := packN ((L.length + 7) / 8) L
theorem packN_length (N : Nat) (L : List Bool) : (packN N L).length = N := by simp [packN]
theorem packN_get (N : Nat) (L : List Bool) (q : Nat) (h : q < N) : (packN N L).getD q 0 = ((bval (seg L (8 * q) 8) : Nat) : Int) := by
  simp [packN, List.getD_eq_getElem?_getD, h]
theorem seg_over (L : List Bool) (p k : Nat) (h : L.length ≤ p) : seg L p k = [] := by
  unfold seg; rw [List.drop_eq_nil_of_le h]; simp
theorem packN_succ (N : Nat) (L : List Bool) (h : L.length ≤ 8 * N) : packN (N + 1) L = packN N L ++ [0] := by
  unfold packN
  rw [List.range_succ, List.map_append, List.map_singleton, seg_over L _ _ h]; rfl
theorem packN_nil (N : Nat) : packN N [] = List.replicate N 0 := by
  unfold packN
  have : (fun q => ((bval (seg [] (8 * q) 8) : Nat) : Int)) = fun _ => 0 := by funext q; simp [seg, bval]
  rw [this, List.map_const', List.length_range]
theorem byte_lt (L : List Bool) (q : Nat) : bval (seg L (8 * q) 8) < 256 := seg_bval_lt L (8 * q) 8
theorem seg_snoc_low (L : List Bool) (b : Bool) (q : Nat) (h : 8 * q + 8 ≤ L.length) : seg (L ++ [b]) (8 * q) 8 = seg L (8 * q) 8 := by
  unfold seg
  rw [List.drop_append_of_le_length (by omega), List.take_append_of_le_length (by simp; omega)]
theorem seg_snoc_here (L : List Bool) (b : Bool) (q r : Nat) (h : L.length = 8 * q + r) (hr : r < 8) : bval (seg (L ++ [b]) (8 * q) 8) = bval (seg L (8 * q) 8) + 2 ^ r * b.toNat := by
  have e : seg (L ++ [b]) (8 * q) 8 = seg L (8 * q) 8 ++ [b] := by
    unfold seg
    rw [List.drop_append_of_le_length (by omega), List.take_append, List.length_drop, show L.length - 8 * q = r by omega]
    congr 1
    rw [List.take_of_length_le (by simp; omega)]
  have e2 : (seg L (8 * q) 8).length = r := by simp [seg]; omega
  rw [e, bval_snoc, e2]
theorem seg_lt_pow (L : List Bool) (q r : Nat) (h : L.length = 8 * q + r) : bval (seg L (8 * q) 8) < 2 ^ r := by
  have h1 := bval_lt (seg L (8 * q) 8)
  have e2 : (seg L (8 * q) 8).length ≤ r := by simp [seg]; omega
  exact Nat.lt_of_lt_of_le h1 (Nat.pow_le_pow_right (by omega) e2)
theorem packN_set (N : Nat) (L : List Bool) (b : Bool) (q r : Nat) (h : L.length = 8 * q + r) (hr : r < 8) :
    packN N (L ++ [b]) = (packN N L).set q (((bval (seg L (8 * q) 8) + 2 ^ r * b.toNat : Nat) : Int)) := by
  apply List.ext_getElem
  · rw [List.length_set, packN_length, packN_length]
  · intro i h1 h2
    rw [packN_length] at h1
    rw [List.getElem_set]
    by_cases hi : q = i
    · subst hi
      rw [if_pos rfl]
      simp only [packN, List.getElem_map, List.getElem_range]
      rw [seg_snoc_here L b q r h hr]
    · rw [if_neg hi]
      simp only [packN, List.getElem_map, List.getElem_range]
      by_cases hlt : i < q
      · rw [seg_snoc_low L b i (by omega)]
      · rw [seg_over (L ++ [b]) _ _ (by simp; omega), seg_over L _ _ (by omega)]
/-- The n lowest bits. -/
def bitsN (v n : Nat) : List Bool := (List.range n).map v.testBit
theorem bitsN_length (v n : Nat) : (bitsN v n).length = n := by simp [bitsN]
theorem bitsN_succ (v n : Nat) : bitsN v (n + 1) = bitsN v n ++ [v.testBit n] := by simp [bitsN, List.range_succ]
theorem bitsN_take (v n k : Nat) (h : k ≤ n) : (bitsN v n).take k = bitsN v k := by
  unfold bitsN
  rw [← List.map_take, List.take_range, Nat.min_eq_left h]
theorem testBit_dec (v k : Nat) : v.testBit k = decide (v / 2 ^ k % 2 = 1) := Nat.testBit_eq_decide_div_mod_eq
def putR (L : List Bool) (v : Nat) (n : Int) : Nat × List Bool := if n < 0 ∨ 64 < n ∨ v / 2 ^ n.toNat ≠ 0 then (1, L) else if 524288 < L.length + n.toNat then (6, L) else (0, L ++ bitsN v n.toNat)
/-- How many groups of four bits. -/
def grp (v : Nat) : Nat := v.log2 / 4 + 1
theorem log2_half (v : Nat) (h : 2 ≤ v) : v.log2 = (v / 2).log2 + 1 := by rw [Nat.log2_def, if_pos h]
theorem grp_small (v : Nat) (h : v < 16) : grp v = 1 := by
  unfold grp
  by_cases h0 : v = 0
  · subst h0; rfl
  · have := (Nat.log2_lt h0 (k := 4)).2 (by omega)
    omega
theorem grp_next (v : Nat) (h : 16 ≤ v) : grp v = grp (v / 16) + 1 := by
  unfold grp
  rw [log2_half v (by omega), log2_half (v / 2) (by omega), log2_half (v / 2 / 2) (by omega), log2_half (v / 2 / 2 / 2) (by omega), show v / 2 / 2 / 2 / 2 = v / 16 by omega]
  omega
theorem grp_pos (v : Nat) : 1 ≤ grp v := by unfold grp; omega
theorem grp_le (v k : Nat) (hk : 1 ≤ k) : grp v ≤ k ↔ v < 16 ^ k := by
  have e : (16 : Nat) ^ k = 2 ^ (4 * k) := by rw [Nat.pow_mul]
  by_cases h0 : v = 0
  · subst h0
    have h2 := Nat.two_pow_pos (4 * k)
    rw [e]; unfold grp; simp; omega
  · rw [e, ← Nat.log2_lt h0]; unfold grp; omega
theorem grp_lt (v i : Nat) : 0 < v / 16 ^ (i + 1) ↔ i + 1 < grp v := by
  have h := grp_le v (i + 1) (by omega)
  have hp : 0 < 16 ^ (i + 1) := Nat.pow_pos (by omega)
  rw [Nat.div_pos_iff]
  omega
theorem grp_16 (v : Nat) (h : v < 18446744073709551616) : grp v ≤ 16 := (grp_le v 16 (by omega)).2 (by rw [show 16 ^ 16 = 18446744073709551616 by decide]; exact h)
def group (v i : Nat) : List Bool := bitsN (v / 16 ^ i) 4 ++ [decide (i + 1 < grp v)]
theorem group_length (v i : Nat) : (group v i).length = 5 := by simp [group, bitsN_length]
def groups (v : Nat) : Nat → List Bool
  | 0 => []
  | i + 1 => groups v i ++ group v i
theorem groups_length (v : Nat) : ∀ i, (groups v i).length = 5 * i
  | 0 => rfl
  | i + 1 => by simp only [groups]; rw [List.length_append, groups_length v i, group_length]; omega
def natW (L : List Bool) (v : Nat) : Nat × List Bool := if 524288 < L.length + 5 * grp v then (6, L) else (0, L ++ groups v (grp v))
theorem dec_eq {a b : Nat} (h : a % 2 = b % 2) : decide (a % 2 = 1) = decide (b % 2 = 1) := by rw [h]
theorem dec_bit (a : Nat) (b : Bool) (h : a % 2 = b.toNat) : decide (a % 2 = 1) = b := by rw [h]; cases b <;> rfl
/-- A group as one number of five bits. -/
theorem five (u : Nat) (b : Bool) : bitsN (u % 16 + 16 * b.toNat) 5 = bitsN u 4 ++ [b] := by
  have h1 : b.toNat ≤ 1 := by cases b <;> simp
  unfold bitsN
  simp only [show List.range 5 = [0, 1, 2, 3, 4] from rfl, show List.range 4 = [0, 1, 2, 3] from rfl, List.map_cons, List.map_nil, List.cons_append, List.nil_append, testBit_dec]
  simp only [Nat.reducePow, Nat.div_one]
  obtain ⟨c, hc⟩ : ∃ c, c = b.toNat := ⟨_, rfl⟩
  rw [← hc] at h1 ⊢
  rw [dec_eq (show (u % 16 + 16 * c) % 2 = u % 2 by omega), dec_eq (show (u % 16 + 16 * c) / 2 % 2 = u / 2 % 2 by omega), dec_eq (show (u % 16 + 16 * c) / 4 % 2 = u / 4 % 2 by omega),
    dec_eq (show (u % 16 + 16 * c) / 8 % 2 = u / 8 % 2 by omega), dec_bit ((u % 16 + 16 * c) / 16) b (by omega)]
theorem group_put (v i : Nat) : bitsN ((v / 16 ^ i) % 16 + 16 * (decide (i + 1 < grp v)).toNat) 5 = group v i := five _ _
def zig (v : Int) : Nat := if v < 0 then 2 * (-(v + 1)).toNat + 1 else 2 * v.toNat
theorem or16 (a : Nat) (b : Bool) (h : a < 16) : bits .or .u64 (a : Int) (((16 * b.toNat : Nat)) : Int) = ((a + 16 * b.toNat : Nat) : Int) := by
  have h1 : b.toNat ≤ 1 := by cases b <;> simp
  rw [W64.bits_or_u64 a _ (by omega) (by omega)]
  congr 1
  have := bit_or a 4 b (by omega)
  rw [Nat.shiftLeft_eq, Nat.mul_comm] at this
  exact this
theorem bits_or_u8 (a b : Nat) (ha : a < 256) (hb : b < 256) : bits .or .u8 (a : Int) (b : Int) = ((a ||| b : Nat) : Int) := by
  have hx : a ||| b < 2 ^ 8 := Nat.or_lt_two_pow (by omega) (by omega)
  have h1 : (BitVec.ofInt 8 (a : Int)).toNat = a := by
    rw [BitVec.ofInt_natCast, BitVec.toNat_ofNat]; exact Nat.mod_eq_of_lt (by omega)
  have h2 : (BitVec.ofInt 8 (b : Int)).toNat = b := by
    rw [BitVec.ofInt_natCast, BitVec.toNat_ofNat]; exact Nat.mod_eq_of_lt (by omega)
  show IntKind.u8.wrap ((BitVec.ofInt 8 (a : Int) ||| BitVec.ofInt 8 (b : Int)).toNat : Int) = _
  rw [BitVec.toNat_or, h1, h2]
  simp [IntKind.wrap, IntKind.bits, IntKind.signed]; omega
theorem u8_in (n : Nat) (h : n < 256) : IntKind.u8.wrap (n : Int) = n := by
  simp [IntKind.wrap, IntKind.bits, IntKind.signed]; omega
theorem put_bit (z v k r : Nat) (hz : z < 2 ^ r) (hr : r < 8) (hv : v < 18446744073709551616) :
    bits .or .u8 (z : Int) (IntKind.u8.wrap (IntKind.u8.wrap (bits .and .u64 ((v : Int) / 2 ^ k) 1) * 2 ^ r)) = ((z + 2 ^ r * (v.testBit k).toNat : Nat) : Int) := by
  have h1 : v / 2 ^ k < 18446744073709551616 := Nat.lt_of_le_of_lt (Nat.div_le_self _ _) hv
  have ha := W64.bits_and_u64 (v / 2 ^ k) 1 h1 (by omega)
  rw [show ((1 : Nat) : Int) = 1 from rfl, Nat.and_one_is_mod, ← testBit_num] at ha
  have hb : (v.testBit k).toNat ≤ 1 := by cases v.testBit k <;> simp
  have h2 : 2 ^ r ≤ 2 ^ 7 := Nat.pow_le_pow_right (by omega) (by omega)
  have h3 : 2 ^ 7 = 128 := by decide
  have h4 : 2 ^ r * (v.testBit k).toNat ≤ 2 ^ r * 1 := Nat.mul_le_mul_left _ hb
  rw [div_cast, ha, u8_in _ (by omega), pow_cast, ← Int.natCast_mul, Nat.mul_comm, u8_in _ (by omega), bits_or_u8 _ _ (by omega) (by omega), ← bit_or z r _ hz, Nat.shiftLeft_eq, Nat.mul_comm]
theorem put_parts (z v k r : Nat) (hz : z < 2 ^ r) (hr : r < 8) (hv : v < 18446744073709551616) : ∃ bt sh Z : Nat,
    bits .and .u64 ((v : Int) / 2 ^ k) 1 = (bt : Int) ∧ IntKind.u8.wrap (bt : Int) = (bt : Int) ∧ IntKind.u8.wrap ((bt : Int) * 2 ^ r) = (sh : Int) ∧ bits .or .u8 (z : Int) (sh : Int) = (Z : Int) ∧ Z = z + 2 ^ r * (v.testBit k).toNat := by
  have h1 : v / 2 ^ k < 18446744073709551616 := Nat.lt_of_le_of_lt (Nat.div_le_self _ _) hv
  have ha := W64.bits_and_u64 (v / 2 ^ k) 1 h1 (by omega)
  rw [show ((1 : Nat) : Int) = 1 from rfl, Nat.and_one_is_mod, ← testBit_num] at ha
  have hb : (v.testBit k).toNat ≤ 1 := by cases v.testBit k <;> simp
  have h2 : 2 ^ r ≤ 2 ^ 7 := Nat.pow_le_pow_right (by omega) (by omega)
  have h3 : 2 ^ 7 = 128 := by decide
  have h4 : 2 ^ r * (v.testBit k).toNat ≤ 2 ^ r * 1 := Nat.mul_le_mul_left _ hb
  refine ⟨(v.testBit k).toNat, 2 ^ r * (v.testBit k).toNat, _, by rw [div_cast]; exact ha, u8_in _ (by omega), ?_, ?_, rfl⟩
  · rw [pow_cast, ← Int.natCast_mul, Nat.mul_comm, u8_in _ (by omega)]
  · rw [bits_or_u8 _ _ (by omega) (by omega), ← bit_or z r _ hz, Nat.shiftLeft_eq, Nat.mul_comm]
theorem byte_new (L : List Bool) (b : Bool) (q r : Nat) (h : L.length = 8 * q + r) (hr : r < 8) : bval (seg L (8 * q) 8) + 2 ^ r * b.toNat < 256 := by
  rw [← seg_snoc_here L b q r h hr]; exact byte_lt _ _
end Go.Bp
