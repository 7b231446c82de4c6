/- Bits of bytes, numbers of bits (plain). -/
import Derived.WalkKit
import Derived.Test.YtdhaaeaacbnghaaW64
namespace Go.Bp
open Go.RowKit
def bits8 (c : Nat) : List Bool := (List.range 8).map fun i => c.testBit i
def bitsOf (l : List Int) : List Bool := l.flatMap fun c => bits8 c.toNat
theorem bits8_length (c : Nat) : (bits8 c).length = 8 := by simp [bits8]
theorem bits8_get (c r : Nat) (h : r < 8) : (bits8 c).getD r false = c.testBit r := by simp [bits8, List.getD_eq_getElem?_getD, h]
theorem bitsOf_cons (c : Int) (l : List Int) : bitsOf (c :: l) = bits8 c.toNat ++ bitsOf l := by simp [bitsOf]
theorem bitsOf_append (l m : List Int) : bitsOf (l ++ m) = bitsOf l ++ bitsOf m := by simp [bitsOf]
theorem bitsOf_length : ∀ l : List Int, (bitsOf l).length = 8 * l.length
  | [] => rfl
  | c :: l => by rw [bitsOf_cons, List.length_append, bits8_length, bitsOf_length l, List.length_cons]; omega
theorem bitsOf_get : ∀ (l : List Int) (q r : Nat), r < 8 → (bitsOf l).getD (8 * q + r) false = (l.getD q 0).toNat.testBit r
  | [], q, r, h => by simp [bitsOf]
  | c :: l, 0, r, h => by
    rw [bitsOf_cons, List.getD_eq_getElem?_getD, List.getElem?_append_left (by rw [bits8_length]; omega), ← List.getD_eq_getElem?_getD, Nat.mul_zero, Nat.zero_add, bits8_get _ _ h]; rfl
  | c :: l, q + 1, r, h => by
    rw [bitsOf_cons, List.getD_eq_getElem?_getD, List.getElem?_append_right (by rw [bits8_length]; omega), ← List.getD_eq_getElem?_getD, bits8_length, show 8 * (q + 1) + r - 8 = 8 * q + r by omega, bitsOf_get l q r h]; rfl
theorem bitsOf_at (l : List Int) (p : Nat) : (bitsOf l).getD p false = (l.getD (p / 8) 0).toNat.testBit (p % 8) := by
  have := bitsOf_get l (p / 8) (p % 8) (by omega)
  rwa [show 8 * (p / 8) + p % 8 = p by omega] at this
/-- The number of bits, the lowest one first. -/
def bval : List Bool → Nat
  | [] => 0
  | b :: r => b.toNat + 2 * bval r
theorem bval_append : ∀ l m : List Bool, bval (l ++ m) = bval l + 2 ^ l.length * bval m
  | [], m => by simp [bval]
  | b :: l, m => by
    show b.toNat + 2 * bval (l ++ m) = b.toNat + 2 * bval l + 2 ^ (l.length + 1) * bval m
    rw [bval_append l m, Nat.pow_succ, Nat.mul_add, Nat.mul_comm (2 ^ l.length) 2, Nat.mul_assoc, Nat.add_assoc]
theorem bval_snoc (l : List Bool) (b : Bool) : bval (l ++ [b]) = bval l + 2 ^ l.length * b.toNat := by
  rw [bval_append]; simp [bval]
theorem bval_lt : ∀ l : List Bool, bval l < 2 ^ l.length
  | [] => by simp [bval]
  | b :: l => by
    have := bval_lt l
    have h : b.toNat ≤ 1 := by cases b <;> simp
    show b.toNat + 2 * bval l < 2 ^ (l.length + 1)
    rw [Nat.pow_succ]; omega
theorem take_snocB (l : List Bool) (k : Nat) (h : k < l.length) : l.take (k + 1) = l.take k ++ [l.getD k false] := by
  rw [List.take_succ_eq_append_getElem h]; simp [List.getD_eq_getElem?_getD, h]
/-- The bits from p on, k of them. -/
def seg (L : List Bool) (p k : Nat) : List Bool := (L.drop p).take k
theorem seg_length (L : List Bool) (p k : Nat) (h : p + k ≤ L.length) : (seg L p k).length = k := by simp [seg]; omega
theorem seg_snoc (L : List Bool) (p k : Nat) (h : p + k < L.length) : seg L p (k + 1) = seg L p k ++ [L.getD (p + k) false] := by
  unfold seg
  rw [take_snocB _ _ (by simp; omega)]
  simp [List.getD_eq_getElem?_getD]
theorem seg_zero (L : List Bool) (p : Nat) : seg L p 0 = [] := rfl
theorem seg_bval_lt (L : List Bool) (p k : Nat) : bval (seg L p k) < 2 ^ k := by
  have h := bval_lt (seg L p k)
  have h2 : (seg L p k).length ≤ k := by simp [seg]; omega
  exact Nat.lt_of_lt_of_le h (Nat.pow_le_pow_right (by omega) h2)
theorem seg_bval_succ (L : List Bool) (p k : Nat) (h : p + k < L.length) : bval (seg L p (k + 1)) = bval (seg L p k) + 2 ^ k * (L.getD (p + k) false).toNat := by
  rw [seg_snoc L p k h, bval_snoc, seg_length L p k (by omega)]
theorem seg_add (L : List Bool) (p j k : Nat) : seg L p (j + k) = seg L p j ++ seg L (p + j) k := by
  unfold seg
  rw [List.take_add, List.drop_drop]
theorem bit_or (V k : Nat) (b : Bool) (hV : V < 2 ^ k) : V ||| (b.toNat <<< k) = V + 2 ^ k * b.toNat := by
  rw [Nat.or_comm, ← Nat.shiftLeft_add_eq_or_of_lt hV, Nat.shiftLeft_eq, Nat.mul_comm, Nat.add_comm]
theorem bits_and_u8 (a : Nat) (ha : a < 256) : bits .and .u8 (a : Int) 1 = ((a % 2 : Nat) : Int) := by
  have h1 : (BitVec.ofInt 8 (a : Int)).toNat = a := by
    rw [BitVec.ofInt_natCast, BitVec.toNat_ofNat]; exact Nat.mod_eq_of_lt (by omega)
  show IntKind.u8.wrap ((BitVec.ofInt 8 (a : Int) &&& BitVec.ofInt 8 1).toNat : Int) = _
  rw [BitVec.toNat_and, h1, show (BitVec.ofInt 8 1).toNat = 1 from rfl, Nat.and_one_is_mod]
  simp [IntKind.wrap, IntKind.bits, IntKind.signed]; omega
theorem testBit_num (z r : Nat) : (z.testBit r).toNat = z / 2 ^ r % 2 := by
  rw [Nat.testBit_eq_decide_div_mod_eq]
  rcases Nat.mod_two_eq_zero_or_one (z / 2 ^ r) with h | h <;> rw [h] <;> rfl
theorem pow_cast (r : Nat) : ((2 : Int) ^ r) = ((2 ^ r : Nat) : Int) := by rw [Int.natCast_pow]; rfl
theorem div_cast (z r : Nat) : (z : Int) / 2 ^ r = ((z / 2 ^ r : Nat) : Int) := by rw [pow_cast]; exact (Int.natCast_ediv z (2 ^ r)).symm
theorem shl_bit (b : Bool) (k : Nat) (hk : k < 64) : IntKind.u64.wrap (((b.toNat : Nat) : Int) * 2 ^ k) = ((2 ^ k * b.toNat : Nat) : Int) := by
  rw [pow_cast, ← Int.natCast_mul, Nat.mul_comm]
  have h1 : 2 ^ k ≤ 2 ^ 63 := Nat.pow_le_pow_right (by omega) (by omega)
  have h2 : 2 ^ 63 = 9223372036854775808 := by decide
  have h : b.toNat ≤ 1 := by cases b <;> simp
  have h3 : 2 ^ k * b.toNat ≤ 2 ^ k * 1 := Nat.mul_le_mul_left _ h
  exact W64.u_in _ (by omega)
theorem or_bit (V k : Nat) (b : Bool) (hV : V < 2 ^ k) (hk : k < 64) : bits .or .u64 (V : Int) ((2 ^ k * b.toNat : Nat) : Int) = ((V + 2 ^ k * b.toNat : Nat) : Int) := by
  have h1 : 2 ^ k ≤ 2 ^ 63 := Nat.pow_le_pow_right (by omega) (by omega)
  have h2 : 2 ^ 63 = 9223372036854775808 := by decide
  have h : b.toNat ≤ 1 := by cases b <;> simp
  have h3 : 2 ^ k * b.toNat ≤ 2 ^ k * 1 := Nat.mul_le_mul_left _ h
  rw [W64.bits_or_u64 V _ (by omega) (by omega), ← bit_or V k b hV, Nat.shiftLeft_eq, Nat.mul_comm]
theorem get_bit (V z r k : Nat) (hV : V < 2 ^ k) (hk : k < 64) (hz : z < 256) :
    bits .or .u64 (V : Int) (IntKind.u64.wrap (IntKind.u64.wrap (bits .and .u8 ((z : Int) / 2 ^ r) 1) * 2 ^ k)) = ((V + 2 ^ k * (z.testBit r).toNat : Nat) : Int) := by
  have h1 : z / 2 ^ r < 256 := Nat.lt_of_le_of_lt (Nat.div_le_self _ _) hz
  rw [div_cast, bits_and_u8 _ h1, ← testBit_num, W64.u_in _ (by cases z.testBit r <;> simp), shl_bit _ _ hk, or_bit V k _ hV hk]
/-- Bytes. -/
def By8 (l : List Int) : Prop := ∀ z ∈ l, 0 ≤ z ∧ z < 256
theorem By8.at {l : List Int} (h : By8 l) (q : Nat) : ∃ z : Nat, l.getD q 0 = (z : Int) ∧ z < 256 := by
  by_cases hq : q < l.length
  · have := h (l.getD q 0) (by simp [hq])
    exact ⟨(l.getD q 0).toNat, by omega, by omega⟩
  · exact ⟨0, by rw [List.getD_eq_getElem?_getD, List.getElem?_eq_none (by omega)]; rfl, by omega⟩
end Go.Bp
