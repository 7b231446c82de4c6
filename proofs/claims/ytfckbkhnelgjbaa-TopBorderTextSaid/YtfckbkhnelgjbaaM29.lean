/- Lemmas for the law TopBorderText: Div. No conditions. -/
import Derived.Test.YtfckbkhnelgjbaaM26
import Derived.Test.YtfckbkhnelgjbaaM01
import Derived.Lib.BitFns
import Derived.Lib.Tables
import Derived.Lib.Hide
import Derived.Deep.CutBlock
import Derived.BigQuiet
import Derived.Deep.QuietTactic
/- math/bits: Len64, LeadingZeros64, Div64, for divisors up to 2^40. -/
section
namespace Go.Proofs.Ytfckbkhnelgjbaa
open Go.ChangeShapes Go.WideShapes Go.ChangeAt Go.RowKit Go.Mem
set_option linter.unusedVariables false

set_option maxHeartbeats 4000000 in
set_option maxRecDepth 100000 in
theorem bits_Len64 (x : Nat) (hx : x < 281474976710656) (w : World) :
    Calls Try.prog 128 #[.int .u64 x] w fun e w' => e = .returned (.int .i64 (Lib.bitLen x : Nat)) ∧ w = w' := by
  by_cases c8 : x < 256
  · have l := Lib.bitLen_le (x / 1) 8 (by omega) (by omega)
    have d0 : decide ((4294967296 : Int) ≤ (x : Int)) = false := decide_eq_false (by omega)
    have d1 : decide ((65536 : Int) ≤ (x : Int)) = false := decide_eq_false (by omega)
    have d2 : decide ((256 : Int) ≤ (x : Int)) = false := decide_eq_false (by omega)
    have u : IntKind.u8.wrap ((x : Int)) = (x : Int) := by rw [IntKind.wrap_u8]; omega
    have e : Lib.len8 ((x : Int)) = (Lib.bitLen (x / 1) : Nat) := by
      rw [Lib.len8_of _ (by omega) (by omega), show ((x : Int)).toNat = x / 1 by omega]
    have s : Lib.bitLen x = 0 + Lib.bitLen (x / 1) := by rw [Nat.div_one, Nat.zero_add]
    have U := Lib.hid u
    have E := Lib.hid e
    have S := Lib.hid s
    have b0 : 0 ≤ (x : Int) ∧ (x : Int) ≤ 255 := by omega
    clear u e s
    go_enter Try.func128, Try.ntmps128
    go_wp2_with fail
    go_ret
    refine ⟨ret_i ?_, rfl⟩
    rw [E.out, S.out]
    clear E S U b0
    unfold wrap64
    omega
  by_cases c16 : x < 65536
  · have l := Lib.bitLen_le (x / 256) 8 (by omega) (by omega)
    have d0 : decide ((4294967296 : Int) ≤ (x : Int)) = false := decide_eq_false (by omega)
    have d1 : decide ((65536 : Int) ≤ (x : Int)) = false := decide_eq_false (by omega)
    have d2 : decide ((256 : Int) ≤ (x : Int)) = true := decide_eq_true (by omega)
    have u : IntKind.u8.wrap ((x : Int) / 256) = (x : Int) / 256 := by rw [IntKind.wrap_u8]; omega
    have e : Lib.len8 ((x : Int) / 256) = (Lib.bitLen (x / 256) : Nat) := by
      rw [Lib.len8_of _ (by omega) (by omega), show ((x : Int) / 256).toNat = x / 256 by omega]
    have s := Lib.bitLen_shift8 x (by omega) (by omega)
    have U := Lib.hid u
    have E := Lib.hid e
    have S := Lib.hid s
    have b0 : 0 ≤ (x : Int) / 256 ∧ (x : Int) / 256 ≤ 255 := by omega
    clear u e s
    go_enter Try.func128, Try.ntmps128
    go_wp2_with fail
    go_ret
    refine ⟨ret_i ?_, rfl⟩
    rw [E.out, S.out]
    clear E S U b0
    unfold wrap64
    omega
  by_cases c24 : x < 16777216
  · have l := Lib.bitLen_le (x / 65536) 8 (by omega) (by omega)
    have d0 : decide ((4294967296 : Int) ≤ (x : Int)) = false := decide_eq_false (by omega)
    have d1 : decide ((65536 : Int) ≤ (x : Int)) = true := decide_eq_true (by omega)
    have d2 : decide ((256 : Int) ≤ (x : Int) / 65536) = false := decide_eq_false (by omega)
    have u : IntKind.u8.wrap ((x : Int) / 65536) = (x : Int) / 65536 := by rw [IntKind.wrap_u8]; omega
    have e : Lib.len8 ((x : Int) / 65536) = (Lib.bitLen (x / 65536) : Nat) := by
      rw [Lib.len8_of _ (by omega) (by omega), show ((x : Int) / 65536).toNat = x / 65536 by omega]
    have s := Lib.bitLen_shift16 x (by omega) (by omega)
    have U := Lib.hid u
    have E := Lib.hid e
    have S := Lib.hid s
    have b0 : 0 ≤ (x : Int) / 65536 ∧ (x : Int) / 65536 ≤ 255 := by omega
    clear u e s
    go_enter Try.func128, Try.ntmps128
    go_wp2_with fail
    go_ret
    refine ⟨ret_i ?_, rfl⟩
    rw [E.out, S.out]
    clear E S U b0
    unfold wrap64
    omega
  by_cases c32 : x < 4294967296
  · have l := Lib.bitLen_le (x / 16777216) 8 (by omega) (by omega)
    have d0 : decide ((4294967296 : Int) ≤ (x : Int)) = false := decide_eq_false (by omega)
    have d1 : decide ((65536 : Int) ≤ (x : Int)) = true := decide_eq_true (by omega)
    have d2 : decide ((256 : Int) ≤ (x : Int) / 65536) = true := decide_eq_true (by omega)
    have u : IntKind.u8.wrap ((x : Int) / 65536 / 256) = (x : Int) / 65536 / 256 := by rw [IntKind.wrap_u8]; omega
    have e : Lib.len8 ((x : Int) / 65536 / 256) = (Lib.bitLen (x / 16777216) : Nat) := by
      rw [Lib.len8_of _ (by omega) (by omega), show ((x : Int) / 65536 / 256).toNat = x / 16777216 by omega]
    have s := Lib.bitLen_shift24 x (by omega) (by omega)
    have U := Lib.hid u
    have E := Lib.hid e
    have S := Lib.hid s
    have b0 : 0 ≤ (x : Int) / 65536 / 256 ∧ (x : Int) / 65536 / 256 ≤ 255 := by omega
    clear u e s
    go_enter Try.func128, Try.ntmps128
    go_wp2_with fail
    go_ret
    refine ⟨ret_i ?_, rfl⟩
    rw [E.out, S.out]
    clear E S U b0
    unfold wrap64
    omega
  by_cases c40 : x < 1099511627776
  · have l := Lib.bitLen_le (x / 4294967296) 8 (by omega) (by omega)
    have d0 : decide ((4294967296 : Int) ≤ (x : Int)) = true := decide_eq_true (by omega)
    have d1 : decide ((65536 : Int) ≤ (x : Int) / 4294967296) = false := decide_eq_false (by omega)
    have d2 : decide ((256 : Int) ≤ (x : Int) / 4294967296) = false := decide_eq_false (by omega)
    have u : IntKind.u8.wrap ((x : Int) / 4294967296) = (x : Int) / 4294967296 := by rw [IntKind.wrap_u8]; omega
    have e : Lib.len8 ((x : Int) / 4294967296) = (Lib.bitLen (x / 4294967296) : Nat) := by
      rw [Lib.len8_of _ (by omega) (by omega), show ((x : Int) / 4294967296).toNat = x / 4294967296 by omega]
    have s := Lib.bitLen_shift32 x (by omega) (by omega)
    have U := Lib.hid u
    have E := Lib.hid e
    have S := Lib.hid s
    have b0 : 0 ≤ (x : Int) / 4294967296 ∧ (x : Int) / 4294967296 ≤ 255 := by omega
    clear u e s
    go_enter Try.func128, Try.ntmps128
    go_wp2_with fail
    go_ret
    refine ⟨ret_i ?_, rfl⟩
    rw [E.out, S.out]
    clear E S U b0
    unfold wrap64
    omega
  by_cases c48 : x < 281474976710656
  · have l := Lib.bitLen_le (x / 1099511627776) 8 (by omega) (by omega)
    have d0 : decide ((4294967296 : Int) ≤ (x : Int)) = true := decide_eq_true (by omega)
    have d1 : decide ((65536 : Int) ≤ (x : Int) / 4294967296) = false := decide_eq_false (by omega)
    have d2 : decide ((256 : Int) ≤ (x : Int) / 4294967296) = true := decide_eq_true (by omega)
    have u : IntKind.u8.wrap ((x : Int) / 4294967296 / 256) = (x : Int) / 4294967296 / 256 := by rw [IntKind.wrap_u8]; omega
    have e : Lib.len8 ((x : Int) / 4294967296 / 256) = (Lib.bitLen (x / 1099511627776) : Nat) := by
      rw [Lib.len8_of _ (by omega) (by omega), show ((x : Int) / 4294967296 / 256).toNat = x / 1099511627776 by omega]
    have s := Lib.bitLen_shift40 x (by omega) (by omega)
    have U := Lib.hid u
    have E := Lib.hid e
    have S := Lib.hid s
    have b0 : 0 ≤ (x : Int) / 4294967296 / 256 ∧ (x : Int) / 4294967296 / 256 ≤ 255 := by omega
    clear u e s
    go_enter Try.func128, Try.ntmps128
    go_wp2_with fail
    go_ret
    refine ⟨ret_i ?_, rfl⟩
    rw [E.out, S.out]
    clear E S U b0
    unfold wrap64
    omega
  · omega

theorem bitLen_facts (y : Nat) (h0 : 0 < y) (hy : y < 281474976710656) : ∃ n, n < 48 ∧ Lib.bitLen y = n + 1 ∧ 2 ^ n ≤ y ∧ y < 2 ^ (n + 1) := by
  have h1 := Nat.log2_self_le (show y ≠ 0 by omega)
  have h2 : y < 2 ^ (y.log2 + 1) := Nat.lt_log2_self
  refine ⟨y.log2, (Nat.log2_lt (by omega)).2 hy, ?_, h1, h2⟩
  rw [Lib.bitLen_shift _ y h1 (by omega)]
  have a : y / 2 ^ y.log2 < 2 := (Nat.div_lt_iff_lt_mul (Nat.two_pow_pos _)).2 (by rw [Nat.pow_succ, Nat.mul_comm] at h2; exact h2)
  have b : 1 ≤ y / 2 ^ y.log2 := (Nat.le_div_iff_mul_le (Nat.two_pow_pos _)).2 (by rw [Nat.one_mul]; exact h1)
  rw [show y / 2 ^ y.log2 = 1 from Nat.le_antisymm (Nat.le_of_lt_succ a) b]
  rfl

/-- How far Div64 shifts: 16 to 63. -/
theorem bits_LeadingZeros64 (y : Nat) (h0 : 0 < y) (hy : y < 281474976710656) (w : World) :
    Calls Try.prog 118 #[.int .u64 y] w fun e w' => ∃ s : Nat, e = .returned (.int .i64 s) ∧ 15 < s ∧ s < 64 ∧ 9223372036854775808 ≤ y * 2 ^ s ∧ y * 2 ^ s < 18446744073709551616 ∧ w = w' := by
  obtain ⟨n, hn, hl, h1, h2⟩ := bitLen_facts y h0 hy
  have HL := Lib.hid hl
  clear hl
  go_enter Try.func118, Try.ntmps118
  go_wp2_with (go_at_call 128; refine (bits_Len64 y hy _).mono ?_; rintro e w1 ⟨rfl, rfl⟩)
  go_ret
  refine ⟨63 - n, ret_i ?_, by omega, by omega, ?_, ?_, rfl⟩
  · rw [HL.out]; unfold wrap64; omega
  · have : 2 ^ n * 2 ^ (63 - n) = 9223372036854775808 := by rw [← Nat.pow_add, show n + (63 - n) = 63 by omega]
    exact this ▸ Nat.mul_le_mul_right _ h1
  · have : 2 ^ (n + 1) * 2 ^ (63 - n) = 18446744073709551616 := by rw [← Nat.pow_add, show n + 1 + (63 - n) = 64 by omega]
    exact this ▸ Nat.mul_lt_mul_of_pos_right h2 (Nat.two_pow_pos _)

/-- One digit of the division: the state of the loop that makes the guess smaller. -/
structure KInv (Y y1 y0 U n q r : Nat) : Prop where
  hY : Y = y1 * 4294967296 + y0
  l0 : y0 < 4294967296
  l1 : 2147483648 ≤ y1
  l2 : y1 < 4294967296
  hU : U < Y
  hn : n < 4294967296
  eq : q * y1 + r = U
  ge : (U * 4294967296 + n) / Y ≤ q
  le : q ≤ 4294967297
  hr : r < 8589934592
theorem KInv.prod {Y y1 y0 U n q r : Nat} (h : KInv Y y1 y0 U n q r) (k : Nat) : k * Y = k * y1 * 4294967296 + k * y0 := by rw [h.hY, Nat.mul_add, Nat.mul_assoc]
theorem KInv.start {Y y1 y0 U n : Nat} (hY : Y = y1 * 4294967296 + y0) (l0 : y0 < 4294967296) (l1 : 2147483648 ≤ y1) (l2 : y1 < 4294967296) (hU : U < Y) (hn : n < 4294967296) : KInv Y y1 y0 U n (U / y1) (U % y1) := by
  refine ⟨hY, l0, l1, l2, hU, hn, ?_, ?_, ?_, ?_⟩
  · rw [Nat.mul_comm]; exact Nat.div_add_mod U y1
  · rw [Nat.le_div_iff_mul_le (by omega)]
    have h1 := Nat.div_mul_le_self (U * 4294967296 + n) Y
    generalize (U * 4294967296 + n) / Y = Q at *
    have h2 : Q * Y = Q * y1 * 4294967296 + Q * y0 := by rw [hY, Nat.mul_add, Nat.mul_assoc]
    omega
  · have : U / y1 < 4294967298 := by rw [Nat.div_lt_iff_lt_mul (by omega)]; omega
    omega
  · have := Nat.mod_lt U (show 0 < y1 by omega); omega
theorem KInv.start_r {Y y1 y0 U n q r : Nat} (h : KInv Y y1 y0 U n q r) (hr : r < y1) : r < 4294967296 := by have := h.l2; omega
/-- The guess is too great: one less. -/
theorem KInv.dec {Y y1 y0 U n q r : Nat} (h : KInv Y y1 y0 U n q r) (hr : r < 4294967296) (c : 4294967296 ≤ q ∨ 4294967296 * r + n < q * y0) : 1 ≤ q ∧ KInv Y y1 y0 U n (q - 1) (r + y1) := by
  have p := h.prod q
  have hYp : 0 < Y := by have := h.hU; omega
  have hlt : (U * 4294967296 + n) / Y < q := by
    rw [Nat.div_lt_iff_lt_mul hYp]
    rcases c with c | c
    · have := h.hU; have := h.hn
      have : 4294967296 * Y ≤ q * Y := Nat.mul_le_mul_right _ c
      omega
    · have := h.eq
      omega
  have := h.eq
  have hq : 1 ≤ q := Nat.lt_of_le_of_lt (Nat.zero_le _) hlt
  have e : q * y1 = (q - 1) * y1 + y1 := by
    obtain ⟨k, rfl⟩ : ∃ k, q = k + 1 := ⟨q - 1, by omega⟩
    rw [Nat.add_sub_cancel, Nat.succ_mul]
  exact ⟨hq, h.hY, h.l0, h.l1, h.l2, h.hU, h.hn, by omega, Nat.le_sub_one_of_lt hlt, by have := h.le; omega, by have := h.l2; omega⟩
/-- The guess is right. -/
theorem KInv.done {Y y1 y0 U n q r : Nat} (h : KInv Y y1 y0 U n q r) (c : q * y0 ≤ 4294967296 * r + n) : q = (U * 4294967296 + n) / Y := by
  have p := h.prod q
  have hYp : 0 < Y := by have := h.hU; omega
  have := h.eq
  have h1 : q ≤ (U * 4294967296 + n) / Y := by
    rw [Nat.le_div_iff_mul_le hYp]; omega
  have := h.ge
  omega
theorem KInv.done2 {Y y1 y0 U n q r : Nat} (h : KInv Y y1 y0 U n q r) (hq : q ≤ 4294967296) (c : 4294967296 ≤ r) : q = (U * 4294967296 + n) / Y := by
  refine h.done ?_
  have : q * y0 ≤ 4294967296 * y0 := Nat.mul_le_mul_right _ hq
  have := h.l0
  omega
/-- Two digits. -/
theorem two_digits (Y U n1 n0 Q1 R1 : Nat) (hY : 0 < Y) (h1 : Q1 = (U * 4294967296 + n1) / Y) (h2 : R1 = (U * 4294967296 + n1) % Y) :
    (U * 18446744073709551616 + (n1 * 4294967296 + n0)) / Y = Q1 * 4294967296 + (R1 * 4294967296 + n0) / Y ∧ (U * 18446744073709551616 + (n1 * 4294967296 + n0)) % Y = (R1 * 4294967296 + n0) % Y := by
  have e := Nat.div_add_mod (U * 4294967296 + n1) Y
  rw [← h1, ← h2] at e
  have e2 : U * 18446744073709551616 + (n1 * 4294967296 + n0) = Y * (Q1 * 4294967296) + (R1 * 4294967296 + n0) := by
    rw [← Nat.mul_assoc]; omega
  rw [e2]
  exact ⟨Nat.mul_add_div hY _ _, Nat.mul_add_mod _ _ _⟩
theorem shifted (h l s : Nat) (hs : 1 ≤ s) (hs2 : s < 64) :
    (h * 2 ^ s + l / 2 ^ (64 - s)) * 18446744073709551616 + l * 2 ^ s % 18446744073709551616 = (h * 18446744073709551616 + l) * 2 ^ s := by
  have p : (18446744073709551616 : Nat) = 2 ^ (64 - s) * 2 ^ s := by rw [← Nat.pow_add, show 64 - s + s = 64 by omega]
  have e : l * 2 ^ s / 18446744073709551616 = l / 2 ^ (64 - s) := by
    conv => lhs; rw [p]
    exact Nat.mul_div_mul_right _ _ (Nat.two_pow_pos _)
  have := Nat.div_add_mod (l * 2 ^ s) 18446744073709551616
  rw [e] at this
  rw [Nat.add_mul (h * 18446744073709551616), Nat.mul_right_comm]
  omega
theorem or_shift (h l s : Nat) (hs2 : s < 64) (hs : 1 ≤ s) (hl : l < 18446744073709551616) (hh : h * 2 ^ s < 18446744073709551616) : bits .or .u64 ((h * 2 ^ s : Nat) : Int) ((l / 2 ^ (64 - s) : Nat) : Int) = ((h * 2 ^ s + l / 2 ^ (64 - s) : Nat) : Int) := by
  have p : (18446744073709551616 : Nat) = 2 ^ s * 2 ^ (64 - s) := by rw [← Nat.pow_add, show s + (64 - s) = 64 by omega]
  have lt : l / 2 ^ (64 - s) < 2 ^ s := by
    rw [Nat.div_lt_iff_lt_mul (Nat.two_pow_pos _), ← p]; exact hl
  have : l / 2 ^ (64 - s) ≤ l := Nat.div_le_self _ _
  rw [bits_or_u64_nat _ _ hh (by omega), Nat.mul_comm h, Nat.two_pow_add_eq_or_of_lt lt]

/-- The numbers that Div64 computes ahead of its loops. -/
structure DivFacts (h l y s Y y1 y0 U L n1 n0 H q m r : Nat) : Prop where
  eY : Y = y * 2 ^ s
  eT : U * 18446744073709551616 + (n1 * 4294967296 + n0) = (h * 18446744073709551616 + l) * 2 ^ s
  hY : Y = y1 * 4294967296 + y0
  l0 : y0 < 4294967296
  l1 : 2147483648 ≤ y1
  l2 : y1 < 4294967296
  hU : U < Y
  hn1 : n1 < 4294967296
  hn0 : n0 < 4294967296
  wy : IntKind.u64.wrap ((y : Int) * 2 ^ s) = Y
  wh : IntKind.u64.wrap ((h : Int) * 2 ^ s) = H
  or : bits .or .u64 (H : Int) ((l : Int) / 2 ^ (64 - s)) = U
  wl : IntKind.u64.wrap ((l : Int) * 2 ^ s) = L
  mY : bits .and .u64 (Y : Int) 4294967295 = y0
  mL : bits .and .u64 (L : Int) 4294967295 = n0
  dY : (Y : Int) / 4294967296 = y1
  dL : (L : Int) / 4294967296 = n1
  z1 : ((y1 : Int) == 0) = false
  z2 : ¬ y1 = 0
  tq : IntKind.u64.wrap ((U : Int) / (y1 : Int)) = q
  wm : IntKind.u64.wrap ((q : Int) * (y1 : Int)) = m
  ws : IntKind.u64.wrap ((U : Int) - (m : Int)) = r
  eq : q = U / y1
  er : r = U % y1
theorem div_facts (h l y s : Nat) (hh : h < y) (hl : l < 18446744073709551616) (s1 : 15 < s) (s2 : s < 64) (s3 : 9223372036854775808 ≤ y * 2 ^ s) (s4 : y * 2 ^ s < 18446744073709551616) :
    ∃ Y y1 y0 U L n1 n0 H q m r, DivFacts h l y s Y y1 y0 U L n1 n0 H q m r := by
  have pp := Nat.two_pow_pos s
  have hs : h * 2 ^ s < 18446744073709551616 := Nat.lt_of_le_of_lt (Nat.mul_le_mul_right _ (Nat.le_of_lt hh)) s4
  have hT := shifted h l s (by omega) s2
  have hor := or_shift h l s s2 (by omega) hl hs
  have hNY : (h * 18446744073709551616 + l) * 2 ^ s < y * 2 ^ s * 18446744073709551616 := by
    rw [Nat.mul_right_comm]
    exact Nat.mul_lt_mul_of_pos_right (by omega) pp
  have hU : h * 2 ^ s + l / 2 ^ (64 - s) < y * 2 ^ s := by omega
  have pc : ∀ n : Nat, ((2 : Int) ^ n) = ((2 ^ n : Nat) : Int) := fun n => by rw [Int.natCast_pow]; rfl
  obtain ⟨Y, hY⟩ : ∃ Y, Y = y * 2 ^ s := ⟨_, rfl⟩
  obtain ⟨U, hUe⟩ : ∃ U, U = h * 2 ^ s + l / 2 ^ (64 - s) := ⟨_, rfl⟩
  obtain ⟨L, hL⟩ : ∃ L, L = l * 2 ^ s % 18446744073709551616 := ⟨_, rfl⟩
  obtain ⟨H, hH⟩ : ∃ H, H = h * 2 ^ s := ⟨_, rfl⟩
  rw [← hY] at hU hNY s3 s4
  rw [← hUe] at hU hT hor
  rw [← hH] at hor hs
  rw [← hL] at hT
  have hLl : L < 18446744073709551616 := by omega
  have y1p : 0 < Y / 4294967296 := by omega
  have dm := Nat.div_add_mod U (Y / 4294967296)
  have hle : U / (Y / 4294967296) ≤ U := Nat.div_le_self _ _
  rw [Nat.mul_comm] at dm
  refine ⟨Y, Y / 4294967296, Y % 4294967296, U, L, L / 4294967296, L % 4294967296, H, U / (Y / 4294967296), U / (Y / 4294967296) * (Y / 4294967296), U % (Y / 4294967296),
    hY, by omega, by omega, by omega, by omega, by omega, hU, by omega, by omega, ?_, ?_, ?_, ?_, ?_, ?_, by omega, by omega, by simp; omega, by omega, ?_, ?_, ?_, rfl, rfl⟩
  · rw [pc, ← Int.natCast_mul, ← hY, IntKind.wrap_u64]; omega
  · rw [pc, ← Int.natCast_mul, ← hH, IntKind.wrap_u64]; omega
  · rw [pc, ← Int.natCast_ediv]; exact hor
  · rw [pc, ← Int.natCast_mul, hL, IntKind.wrap_u64]; omega
  · exact Mul64.maskN _ s4
  · exact Mul64.maskN _ hLl
  · rw [← Int.natCast_ediv]; exact Mul64.wrapN _ (by omega)
  · rw [← Int.natCast_mul]; exact Mul64.wrapN _ (by omega)
  · rw [show (U : Int) - ((U / (Y / 4294967296) * (Y / 4294967296) : Nat) : Int) = ((U % (Y / 4294967296) : Nat) : Int) by omega]
    exact Mul64.wrapN _ (by have := Nat.mod_le U (Y / 4294967296); omega)

theorem next_facts (U n1 Y y1 y0 : Nat) (hY : Y = y1 * 4294967296 + y0) (l0 : y0 < 4294967296) (l1 : 2147483648 ≤ y1) (l2 : y1 < 4294967296) (hU : U < Y) (hn1 : n1 < 4294967296) :
    ∃ R1 Q1 : Nat, Q1 = (U * 4294967296 + n1) / Y ∧ (∃ a1 a2 a3 q2 m2 r2 : Nat, IntKind.u64.wrap ((U : Int) * 4294967296) = a1 ∧ IntKind.u64.wrap ((a1 : Int) + (n1 : Int)) = a2 ∧ IntKind.u64.wrap ((Q1 : Int) * (Y : Int)) = a3 ∧ IntKind.u64.wrap ((a2 : Int) - (a3 : Int)) = R1 ∧
      IntKind.u64.wrap ((R1 : Int) / (y1 : Int)) = q2 ∧ IntKind.u64.wrap ((q2 : Int) * (y1 : Int)) = m2 ∧ IntKind.u64.wrap ((R1 : Int) - (m2 : Int)) = r2 ∧ RowKit.Hid (∀ n0, n0 < 4294967296 → KInv Y y1 y0 R1 n0 q2 r2) ∧ r2 < 4294967296) ∧ R1 = (U * 4294967296 + n1) % Y ∧ Q1 < 4294967296 := by
  have hYp : 0 < Y := by omega
  have e := Nat.div_add_mod (U * 4294967296 + n1) Y
  have hR := Nat.mod_lt (U * 4294967296 + n1) hYp
  have hQ : (U * 4294967296 + n1) / Y < 4294967296 := by rw [Nat.div_lt_iff_lt_mul hYp]; omega
  rw [Nat.mul_comm Y] at e
  obtain ⟨Q, hQe⟩ : ∃ Q, Q = (U * 4294967296 + n1) / Y := ⟨_, rfl⟩
  obtain ⟨R, hRe⟩ : ∃ R, R = (U * 4294967296 + n1) % Y := ⟨_, rfl⟩
  rw [← hQe, ← hRe] at e
  rw [← hQe] at hQ
  rw [← hRe] at hR
  have dm := Nat.div_add_mod R y1
  have hle : R / y1 ≤ R := Nat.div_le_self _ _
  have hml := Nat.mod_lt R (show 0 < y1 by omega)
  rw [Nat.mul_comm] at dm
  refine ⟨R, Q, hQe, ⟨U * 4294967296 % 18446744073709551616, (U * 4294967296 + n1) % 18446744073709551616, Q * Y % 18446744073709551616, R / y1, R / y1 * y1, R % y1, ?_, ?_, ?_, ?_, ?_, ?_, ?_, ?_, by omega⟩, hRe, hQ⟩
  · rw [IntKind.wrap_u64]; omega
  · rw [IntKind.wrap_u64]; omega
  · rw [← Int.natCast_mul]; exact Mul64.wrapM _
  · rw [IntKind.wrap_u64]; omega
  · rw [← Int.natCast_ediv]; exact Mul64.wrapN _ (by omega)
  · rw [← Int.natCast_mul]; exact Mul64.wrapN _ (by omega)
  · rw [show (R : Int) - ((R / y1 * y1 : Nat) : Int) = ((R % y1 : Nat) : Int) by omega]
    exact Mul64.wrapN _ (by omega)
  · show ∀ n0, _
    intro n0 hn0
    exact KInv.start hY l0 l1 l2 hR hn0

theorem end_facts (h l y s Y U n1 n0 Q1 R1 Q0 : Nat) (h0 : 0 < y) (eY : Y = y * 2 ^ s) (eT : U * 18446744073709551616 + (n1 * 4294967296 + n0) = (h * 18446744073709551616 + l) * 2 ^ s) (hU : U < Y) (hn1 : n1 < 4294967296) (hn0 : n0 < 4294967296)
    (hQ1 : Q1 = (U * 4294967296 + n1) / Y) (hR1 : R1 = (U * 4294967296 + n1) % Y) (hQ0 : Q0 = (R1 * 4294967296 + n0) / Y) (hYl : y * 2 ^ s < 18446744073709551616) :
    ∃ d1 d2 d3 d4 d5 R2 d6 : Nat, ((h * 18446744073709551616 + l) / y = d2 ∧ (h * 18446744073709551616 + l) % y = d6) ∧
      IntKind.u64.wrap ((Q1 : Int) * 4294967296) = d1 ∧ IntKind.u64.wrap ((d1 : Int) + (Q0 : Int)) = d2 ∧ IntKind.u64.wrap ((R1 : Int) * 4294967296) = d3 ∧ IntKind.u64.wrap ((d3 : Int) + (n0 : Int)) = d4 ∧
      IntKind.u64.wrap ((Q0 : Int) * (Y : Int)) = d5 ∧ IntKind.u64.wrap ((d4 : Int) - (d5 : Int)) = R2 ∧ (R2 : Int) / 2 ^ s = d6 := by
  have pp := Nat.two_pow_pos s
  have hYp : 0 < Y := by omega
  obtain ⟨t1, t2⟩ := two_digits Y U n1 n0 Q1 R1 hYp hQ1 hR1
  rw [← hQ0, eT, eY, Nat.mul_div_mul_right _ _ pp] at t1
  rw [eT, eY, Nat.mul_mod_mul_right, ← eY] at t2
  have hR1l : R1 < Y := by rw [hR1]; exact Nat.mod_lt _ hYp
  have hQ1l : Q1 < 4294967296 := by rw [hQ1, Nat.div_lt_iff_lt_mul hYp]; omega
  have hQ0l : Q0 < 4294967296 := by rw [hQ0, Nat.div_lt_iff_lt_mul hYp]; omega
  have hR2l := Nat.mod_lt (R1 * 4294967296 + n0) hYp
  have e := Nat.div_add_mod (R1 * 4294967296 + n0) Y
  rw [← hQ0, Nat.mul_comm] at e
  have pc : ((2 : Int) ^ s) = ((2 ^ s : Nat) : Int) := by rw [Int.natCast_pow]; rfl
  obtain ⟨R2, hR2⟩ : ∃ R2, R2 = (R1 * 4294967296 + n0) % Y := ⟨_, rfl⟩
  rw [← hR2] at t2 e hR2l
  rw [← eY] at hYl
  refine ⟨Q1 * 4294967296, Q1 * 4294967296 + Q0, R1 * 4294967296 % 18446744073709551616, (R1 * 4294967296 + n0) % 18446744073709551616, Q0 * Y % 18446744073709551616, R2, R2 / 2 ^ s, ⟨t1, ?_⟩, ?_, ?_, ?_, ?_, ?_, ?_, ?_⟩
  · rw [← t2, Nat.mul_div_cancel _ pp]
  · rw [IntKind.wrap_u64]; omega
  · rw [IntKind.wrap_u64]; omega
  · rw [IntKind.wrap_u64]; omega
  · rw [IntKind.wrap_u64]; omega
  · rw [← Int.natCast_mul]; exact Mul64.wrapM _
  · rw [IntKind.wrap_u64]; omega
  · rw [pc, ← Int.natCast_ediv]

theorem bits_Div64_0 (l y : Nat) (h0 : 0 < y) (hy : y < 281474976710656) (hl : l < 18446744073709551616) (w : World) :
    Calls Try.prog 94 #[.int .u64 0, .int .u64 l, .int .u64 y] w fun e w' => e = .returned (.tuple #[.int .u64 ((l / y : Nat) : Int), .int .u64 ((l % y : Nat) : Int)]) ∧ Below w.heap.size w w' := by
  have c1 : ((y : Int) == 0) = false := by simp; omega
  have c2 : decide ((y : Int) ≤ 0) = false := decide_eq_false (by omega)
  have q1 : IntKind.u64.wrap ((l : Int) / y) = ((l / y : Nat) : Int) := by
    rw [← Int.natCast_ediv]
    exact Mul64.wrapN _ (Nat.lt_of_le_of_lt (Nat.div_le_self _ _) hl)
  have Q1 := Lib.hid q1
  clear q1
  go_enter Try.func94, Try.ntmps94
  go_wp2_with fail
  go_quiet (fail)
  go_wp2_with fail
  go_ret2
  exact ⟨by rw [Q1.out, ← Int.natCast_emod]; rfl, below_drewN (Below.refl _ _) _⟩

set_option maxHeartbeats 4000000 in
theorem bits_Div64_1 (h l y : Nat) (h0 : 0 < y) (hy : y < 281474976710656) (z : h ≠ 0) (hh : h < y) (hl : l < 18446744073709551616) (w : World) :
    Calls Try.prog 94 #[.int .u64 h, .int .u64 l, .int .u64 y] w fun e w' => e = .returned (.tuple #[.int .u64 (((h * 18446744073709551616 + l) / y : Nat) : Int), .int .u64 (((h * 18446744073709551616 + l) % y : Nat) : Int)]) ∧ w = w' := by
  have c1 : ((y : Int) == 0) = false := by simp; omega
  have c2 : decide ((y : Int) ≤ h) = false := decide_eq_false (by omega)
  have c3 : ((h : Int) == 0) = false := by simp; omega
  go_enter Try.func94, Try.ntmps94
  go_upto_block 0 with (go_at_call 118; refine (bits_LeadingZeros64 y h0 hy _).mono ?_; rintro e w1 ⟨s, rfl, s1, s2, s3, s4, rfl⟩; obtain ⟨Y, y1, y0, U, L, n1, n0, H, q, m, r, F⟩ := div_facts h l y s hh hl s1 s2 s3 s4; have f1 := F.wy; have f2 := F.wh; have f3 := F.or; have f4 := F.wl; have f5 := F.mY; have f6 := F.mL; have f7 := F.dY; have f8 := F.dL; have f9 := F.z1; have f10 := F.tq; have f12 := F.wm; have f13 := F.ws; have f14 := F.z2)
  clear f1 f2 f3 f4 f5 f6 f7 f8 f9 f10 f12 f13 f14 c1 c2 c3
  have hk0 : KInv Y y1 y0 U n1 q r := by rw [F.eq, F.er]; exact KInv.start F.hY F.l0 F.l1 F.l2 F.hU F.hn1
  have hr0 : r < 4294967296 := by have := Nat.mod_lt U (show 0 < y1 by have := F.l1; omega); have := F.l2; have := F.er; omega
  have FF := Lib.hid F
  have HK0 := Lib.hid hk0
  clear F hk0
  go_cut [15, 16] from 67 to 85 (fun vq vr wx => ∃ rr : Nat, vq = .int .u64 ((U * 4294967296 + n1) / Y : Nat) ∧ vr = .int .u64 rr ∧ w = wx)
  case first =>
    go_wp2_with fail
    go_loopw [15, 16] (fun vq vr wx => ∃ q r : Nat, vq = .int .u64 q ∧ vr = .int .u64 r ∧ KInv Y y1 y0 U n1 q r ∧ r < 4294967296 ∧ w = wx) (fun vq _ _ => (intOf vq).toNat)
    case atStart => exact ⟨q, r, rfl, rfl, HK0.out, hr0, rfl⟩
    case round =>
      obtain ⟨q, r, rfl, rfl, hk, hr, rfl⟩ := hrel
      have k1 := hk.le
      have k2 := hk.l0
      have k3 := hk.hn
      have k4 := hk.l2
      by_cases b1 : 4294967296 ≤ q
      · obtain ⟨k5, hk2⟩ := hk.dec hr (Or.inl b1)
        have t1 : decide ((4294967296 : Int) ≤ q) = true := decide_eq_true (by omega)
        obtain ⟨qq, hqq⟩ : ∃ k, k = q - 1 := ⟨_, rfl⟩
        obtain ⟨rr, hrr⟩ : ∃ k, k = r + y1 := ⟨_, rfl⟩
        rw [← hqq, ← hrr] at hk2
        have e1 : IntKind.u64.wrap ((q : Int) - 1) = qq := by rw [IntKind.wrap_u64]; omega
        have e2 : IntKind.u64.wrap ((r : Int) + (y1 : Int)) = rr := by rw [IntKind.wrap_u64]; omega
        have hlt : qq < q := by omega
        have hq2 : qq ≤ 4294967296 := by omega
        have HK := Lib.hid hk2
        clear hk hk2 hqq hrr
        by_cases b2 : 4294967296 ≤ rr
        · have t2 : decide ((4294967296 : Int) ≤ rr) = true := decide_eq_true (by omega)
          go_wp2_with fail
          go_meet
          exact ⟨rr, by rw [← HK.out.done2 hq2 b2], rfl, by first | rfl | trivial⟩
        · have t2 : decide ((4294967296 : Int) ≤ rr) = false := decide_eq_false (by omega)
          go_wp2_with fail
          go_roundw
          case rel => exact ⟨qq, rr, rfl, rfl, HK.out, by omega, by first | rfl | trivial⟩
          case measure => simp [intOf]; omega
      · have t1 : decide ((4294967296 : Int) ≤ q) = false := decide_eq_false (by omega)
        have p1 : q * y0 ≤ 4294967295 * 4294967295 := Nat.mul_le_mul (by omega) (by omega)
        obtain ⟨m, hm⟩ : ∃ k, k = q * y0 := ⟨_, rfl⟩
        obtain ⟨m2, hm2⟩ : ∃ k, k = 4294967296 * r := ⟨_, rfl⟩
        obtain ⟨m3, hm3⟩ : ∃ k, k = m2 + n1 := ⟨_, rfl⟩
        rw [← hm] at p1
        have e3 : IntKind.u64.wrap ((q : Int) * (y0 : Int)) = m := by rw [← Int.natCast_mul, ← hm]; exact Mul64.wrapN _ (by omega)
        have e4 : IntKind.u64.wrap ((4294967296 : Int) * (r : Int)) = m2 := by rw [IntKind.wrap_u64]; omega
        have e5 : IntKind.u64.wrap ((m2 : Int) + (n1 : Int)) = m3 := by rw [IntKind.wrap_u64]; omega
        by_cases b3 : m3 < m
        · have t3 : decide ((m3 : Int) < m) = true := decide_eq_true (by omega)
          obtain ⟨k5, hk2⟩ := hk.dec hr (Or.inr (by omega))
          obtain ⟨qq, hqq⟩ : ∃ k, k = q - 1 := ⟨_, rfl⟩
          obtain ⟨rr, hrr⟩ : ∃ k, k = r + y1 := ⟨_, rfl⟩
          rw [← hqq, ← hrr] at hk2
          have e1 : IntKind.u64.wrap ((q : Int) - 1) = qq := by rw [IntKind.wrap_u64]; omega
          have e2 : IntKind.u64.wrap ((r : Int) + (y1 : Int)) = rr := by rw [IntKind.wrap_u64]; omega
          have hlt : qq < q := by omega
          have hq2 : qq ≤ 4294967296 := by omega
          have HK := Lib.hid hk2
          clear hk hk2 hqq hrr hm hm2 hm3
          by_cases b2 : 4294967296 ≤ rr
          · have t2 : decide ((4294967296 : Int) ≤ rr) = true := decide_eq_true (by omega)
            go_wp2_with fail
            go_meet
            exact ⟨rr, by rw [← HK.out.done2 hq2 b2], rfl, by first | rfl | trivial⟩
          · have t2 : decide ((4294967296 : Int) ≤ rr) = false := decide_eq_false (by omega)
            go_wp2_with fail
            go_roundw
            case rel => exact ⟨qq, rr, rfl, rfl, HK.out, by omega, by first | rfl | trivial⟩
            case measure => simp [intOf]; omega
        · have t3 : decide ((m3 : Int) < m) = false := decide_eq_false (by omega)
          have hd : q = _ := hk.done (by omega)
          have HD := Lib.hid hd
          clear hd hk hm hm2 hm3
          go_wp2_with fail
          go_meet
          exact ⟨r, by rw [← HD.out], rfl, by first | rfl | trivial⟩
  case rest =>
    obtain ⟨rr, rfl, rfl, rfl⟩ := hcut
    have F := FF.out
    obtain ⟨R1, Q1, hQ1, X⟩ := next_facts U n1 Y y1 y0 F.hY F.l0 F.l1 F.l2 F.hU F.hn1
    rw [← hQ1]
    have x1 := X.1
    have z1 := F.z1
    have z2 := F.z2
    obtain ⟨a1, a2, a3, q2, m2, r2, x1, x2, x3, x4, x5, x6, x7, x8, x9⟩ := x1
    have X2 := Lib.hid X.2
    have hn0 := F.hn0
    have HQ1 := Lib.hid hQ1
    clear X hQ1 F
    go_upto_block 2 with fail
    clear x1 x2 x3 x4 x5 x6 x7 z1 z2
    go_cut [18, 16] from 102 to 120 (fun vq vr wx => ∃ rr : Nat, vq = .int .u64 ((R1 * 4294967296 + n0) / Y : Nat) ∧ vr = .int .u64 rr ∧ w = wx)
    case first =>
      go_wp2_with fail
      go_loopw [18, 16] (fun vq vr wx => ∃ q r : Nat, vq = .int .u64 q ∧ vr = .int .u64 r ∧ KInv Y y1 y0 R1 n0 q r ∧ r < 4294967296 ∧ w = wx) (fun vq _ _ => (intOf vq).toNat)
      case atStart => exact ⟨q2, r2, rfl, rfl, x8.out n0 hn0, x9, rfl⟩
      case round =>
        obtain ⟨q, r, rfl, rfl, hk, hr, rfl⟩ := hrel
        have k1 := hk.le
        have k2 := hk.l0
        have k3 := hk.hn
        have k4 := hk.l2
        by_cases b1 : 4294967296 ≤ q
        · obtain ⟨k5, hk2⟩ := hk.dec hr (Or.inl b1)
          have t1 : decide ((4294967296 : Int) ≤ q) = true := decide_eq_true (by omega)
          obtain ⟨qq, hqq⟩ : ∃ k, k = q - 1 := ⟨_, rfl⟩
          obtain ⟨rr, hrr⟩ : ∃ k, k = r + y1 := ⟨_, rfl⟩
          rw [← hqq, ← hrr] at hk2
          have e1 : IntKind.u64.wrap ((q : Int) - 1) = qq := by rw [IntKind.wrap_u64]; omega
          have e2 : IntKind.u64.wrap ((r : Int) + (y1 : Int)) = rr := by rw [IntKind.wrap_u64]; omega
          have hlt : qq < q := by omega
          have hq2 : qq ≤ 4294967296 := by omega
          have HK := Lib.hid hk2
          clear hk hk2 hqq hrr
          by_cases b2 : 4294967296 ≤ rr
          · have t2 : decide ((4294967296 : Int) ≤ rr) = true := decide_eq_true (by omega)
            go_wp2_with fail
            go_meet
            exact ⟨rr, by rw [← HK.out.done2 hq2 b2], rfl, by first | rfl | trivial⟩
          · have t2 : decide ((4294967296 : Int) ≤ rr) = false := decide_eq_false (by omega)
            go_wp2_with fail
            go_roundw
            case rel => exact ⟨qq, rr, rfl, rfl, HK.out, by omega, by first | rfl | trivial⟩
            case measure => simp [intOf]; omega
        · have t1 : decide ((4294967296 : Int) ≤ q) = false := decide_eq_false (by omega)
          have p1 : q * y0 ≤ 4294967295 * 4294967295 := Nat.mul_le_mul (by omega) (by omega)
          obtain ⟨m, hm⟩ : ∃ k, k = q * y0 := ⟨_, rfl⟩
          obtain ⟨m2, hm2⟩ : ∃ k, k = 4294967296 * r := ⟨_, rfl⟩
          obtain ⟨m3, hm3⟩ : ∃ k, k = m2 + n0 := ⟨_, rfl⟩
          rw [← hm] at p1
          have e3 : IntKind.u64.wrap ((q : Int) * (y0 : Int)) = m := by rw [← Int.natCast_mul, ← hm]; exact Mul64.wrapN _ (by omega)
          have e4 : IntKind.u64.wrap ((4294967296 : Int) * (r : Int)) = m2 := by rw [IntKind.wrap_u64]; omega
          have e5 : IntKind.u64.wrap ((m2 : Int) + (n0 : Int)) = m3 := by rw [IntKind.wrap_u64]; omega
          by_cases b3 : m3 < m
          · have t3 : decide ((m3 : Int) < m) = true := decide_eq_true (by omega)
            obtain ⟨k5, hk2⟩ := hk.dec hr (Or.inr (by omega))
            obtain ⟨qq, hqq⟩ : ∃ k, k = q - 1 := ⟨_, rfl⟩
            obtain ⟨rr, hrr⟩ : ∃ k, k = r + y1 := ⟨_, rfl⟩
            rw [← hqq, ← hrr] at hk2
            have e1 : IntKind.u64.wrap ((q : Int) - 1) = qq := by rw [IntKind.wrap_u64]; omega
            have e2 : IntKind.u64.wrap ((r : Int) + (y1 : Int)) = rr := by rw [IntKind.wrap_u64]; omega
            have hlt : qq < q := by omega
            have hq2 : qq ≤ 4294967296 := by omega
            have HK := Lib.hid hk2
            clear hk hk2 hqq hrr hm hm2 hm3
            by_cases b2 : 4294967296 ≤ rr
            · have t2 : decide ((4294967296 : Int) ≤ rr) = true := decide_eq_true (by omega)
              go_wp2_with fail
              go_meet
              exact ⟨rr, by rw [← HK.out.done2 hq2 b2], rfl, by first | rfl | trivial⟩
            · have t2 : decide ((4294967296 : Int) ≤ rr) = false := decide_eq_false (by omega)
              go_wp2_with fail
              go_roundw
              case rel => exact ⟨qq, rr, rfl, rfl, HK.out, by omega, by first | rfl | trivial⟩
              case measure => simp [intOf]; omega
          · have t3 : decide ((m3 : Int) < m) = false := decide_eq_false (by omega)
            have hd : q = _ := hk.done (by omega)
            have HD := Lib.hid hd
            clear hd hk hm hm2 hm3
            go_wp2_with fail
            go_meet
            exact ⟨r, by rw [← HD.out], rfl, by first | rfl | trivial⟩
    case rest =>
      obtain ⟨rr, rfl, rfl, rfl⟩ := hcut
      have F := FF.out
      obtain ⟨Q0, hQ0⟩ : ∃ Q0, Q0 = (R1 * 4294967296 + n0) / Y := ⟨_, rfl⟩
      rw [← hQ0]
      obtain ⟨d1, d2, d3, d4, d5, R2, d6, e1, y1, y2, y3, y4, y5, y6, y7⟩ := end_facts h l y s Y U n1 n0 Q1 R1 Q0 h0 F.eY F.eT F.hU F.hn1 F.hn0 HQ1.out X2.out.1 hQ0 s4
      have E1 := Lib.hid e1
      clear e1 hQ0 F
      go_wp2_with fail
      go_ret2
      exact ⟨by rw [E1.out.1, E1.out.2]; rfl, rfl⟩

theorem bits_Div64 (h l y : Nat) (h0 : 0 < y) (hy : y < 281474976710656) (hh : h < y) (hl : l < 18446744073709551616) (w : World) :
    Calls Try.prog 94 #[.int .u64 h, .int .u64 l, .int .u64 y] w fun e w' => e = .returned (.tuple #[.int .u64 (((h * 18446744073709551616 + l) / y : Nat) : Int), .int .u64 (((h * 18446744073709551616 + l) % y : Nat) : Int)]) ∧ Below w.heap.size w w' := by
  by_cases z : h = 0
  · subst z
    refine (bits_Div64_0 l y h0 hy hl w).mono fun e w' hh => ?_
    rw [Nat.zero_mul, Nat.zero_add]
    exact hh
  · refine (bits_Div64_1 h l y h0 hy z hh hl w).mono fun e w' hh => ?_
    obtain ⟨h1, rfl⟩ := hh
    exact ⟨h1, Below.refl _ _⟩
end Go.Proofs.Ytfckbkhnelgjbaa
end
