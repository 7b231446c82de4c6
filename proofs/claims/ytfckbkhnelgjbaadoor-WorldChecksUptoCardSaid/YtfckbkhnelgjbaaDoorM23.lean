/- Lemmas for the law WorldChecks: Mix, W64, Sum, SumInts, WDig, WDesc. No conditions. -/
import Derived.WalkKit
import Derived.ProofKit
import Derived.Laws.Bits64b
import Derived.Lib.Hide
import Derived.LoopN
import Derived.Test.YtfckbkhnelgjbaaDoorRows
import Derived.Test.YtfckbkhnelgjbaaDoorM02
import Derived.Deep.RegionWith
import Derived.Deep.LoopGhost
import Derived.Deep.DeepMust
import Derived.OwnWalk
import Derived.Test.YtfckbkhnelgjbaaDoorM22
import Derived.Test.YtfckbkhnelgjbaaDoorM17
/- rnd: Mix; the reference's Scrambled. -/
section
namespace Go.Proofs.YtfckbkhnelgjbaaDoor
open Go.ChangeShapes Go.WideShapes Go.ChangeAt Go.RowKit
set_option linter.unusedVariables false

theorem xor_u64_nat (a b : Nat) (ha : a < 18446744073709551616) (hb : b < 18446744073709551616) : bits .xor .u64 (a : Int) (b : Int) = ((a ^^^ b : Nat) : Int) := by
  have hx : a ^^^ b < 2 ^ 64 := Nat.xor_lt_two_pow (by omega) (by omega)
  have h1 : (BitVec.ofInt 64 (a : Int)).toNat = a := by
    rw [BitVec.ofInt_natCast, BitVec.toNat_ofNat]; exact Nat.mod_eq_of_lt (by omega)
  have h2 : (BitVec.ofInt 64 (b : Int)).toNat = b := by
    rw [BitVec.ofInt_natCast, BitVec.toNat_ofNat]; exact Nat.mod_eq_of_lt (by omega)
  show IntKind.u64.wrap ((BitVec.ofInt 64 (a : Int) ^^^ BitVec.ofInt 64 (b : Int)).toNat : Int) = _
  rw [BitVec.toNat_xor, h1, h2, IntKind.wrap_u64]
  omega

/-- x with its upper bits laid over it. -/
def over (x k : Nat) : Nat := x ^^^ (x / k)
theorem over_lt (x k : Nat) (h : x < 18446744073709551616) : over x k < 18446744073709551616 := by
  have : x / k ≤ x := Nat.div_le_self _ _
  exact Nat.xor_lt_two_pow (n := 64) (by omega) (by omega)
def mix1 (x : Nat) : Nat := over x 2147483648 * 7640891576956012809 % 18446744073709551616
def mix2 (x : Nat) : Nat := over (mix1 x) 134217728 * 13503953896175478587 % 18446744073709551616
def mix (x : Nat) : Nat := over (mix2 x) 1073741824
theorem mix_lt (x : Nat) : mix x < 18446744073709551616 := over_lt _ _ (Nat.mod_lt _ (by omega))
theorem mix_zero : mix 0 = 0 := by decide

theorem over_eq (x k : Nat) (h : x < 18446744073709551616) : bits .xor .u64 (x : Int) ((x : Int) / (k : Int)) = over x k := by
  have : x / k ≤ x := Nat.div_le_self _ _
  rw [← Int.natCast_ediv]; exact xor_u64_nat x (x / k) h (by omega)

theorem rnd_Mix (x : Nat) (h1 : x < 18446744073709551616) (w : World) : Calls Tryd.prog 57 #[.int .u64 x] w fun e w' => e = .returned (.int .u64 (mix x : Nat)) ∧ w = w' := by
  obtain ⟨a1, ha1⟩ : ∃ k, k = over x 2147483648 := ⟨_, rfl⟩
  obtain ⟨a2, ha2⟩ : ∃ k, k = mix1 x := ⟨_, rfl⟩
  obtain ⟨b1, hb1⟩ : ∃ k, k = over a2 134217728 := ⟨_, rfl⟩
  obtain ⟨b2, hb2⟩ : ∃ k, k = mix2 x := ⟨_, rfl⟩
  obtain ⟨c1, hc1⟩ : ∃ k, k = mix x := ⟨_, rfl⟩
  have l2 : a2 < 18446744073709551616 := by rw [ha2]; exact Nat.mod_lt _ (by omega)
  have l3 : b2 < 18446744073709551616 := by rw [hb2]; exact Nat.mod_lt _ (by omega)
  have e1 : bits .xor .u64 (x : Int) ((x : Int) / 2147483648) = a1 := by rw [ha1]; exact over_eq x 2147483648 h1
  have e2 : IntKind.u64.wrap ((a1 : Int) * 7640891576956012809) = a2 := by rw [ha2, mix1, ← ha1, IntKind.wrap_u64]; omega
  have e3 : bits .xor .u64 (a2 : Int) ((a2 : Int) / 134217728) = b1 := by rw [hb1]; exact over_eq a2 134217728 l2
  have e4 : IntKind.u64.wrap ((b1 : Int) * 13503953896175478587) = b2 := by rw [hb2, mix2, ← ha2, ← hb1, IntKind.wrap_u64]; omega
  have e5 : bits .xor .u64 (b2 : Int) ((b2 : Int) / 1073741824) = c1 := by rw [hc1, mix, ← hb2]; exact over_eq b2 1073741824 l3
  rw [← hc1]
  clear ha1 ha2 hb1 hb2 hc1
  go_enter Tryd.func57, Tryd.ntmps57
  go_wp2
  go_ret
  exact ⟨rfl, rfl⟩

end Go.Proofs.YtfckbkhnelgjbaaDoor
end
/- Numbers of 64 bits: wraps, conversions, or with 1 (plain). -/
section
namespace Go.W64
open Go.RowKit
theorem uw (n : Int) : IntKind.u64.wrap (IntKind.i64.wrap n) = n % 18446744073709551616 := by
  rw [IntKind.wrap_u64, IntKind.wrap_i64]; omega
theorem uwN (k : Nat) : IntKind.u64.wrap (IntKind.i64.wrap (k : Int)) = ((k % 18446744073709551616 : Nat) : Int) := by
  rw [uw]; exact (Int.natCast_emod k 18446744073709551616).symm
theorem w1 (n : Int) : IntKind.i64.wrap (IntKind.i64.wrap n + 1) = IntKind.i64.wrap (n + 1) := by
  simp only [IntKind.wrap_i64]; omega
theorem w1N (k : Nat) : IntKind.i64.wrap (IntKind.i64.wrap (k : Int) + 1) = IntKind.i64.wrap ((k + 1 : Nat) : Int) := by
  rw [w1]; rfl
/-- The 64 bits of a number. -/
def u (n : Int) : Nat := (n % 18446744073709551616).toNat
theorem u_lt (n : Int) : u n < 18446744073709551616 := by unfold u; omega
theorem u_eq (n : Int) : IntKind.u64.wrap n = (u n : Int) := by rw [IntKind.wrap_u64]; unfold u; omega
theorem u_nat (n : Nat) (h : n < 18446744073709551616) : u (n : Int) = n := by unfold u; omega
theorem u_wrap (n : Nat) : IntKind.u64.wrap (n : Int) = ((n % 18446744073709551616 : Nat) : Int) := by rw [IntKind.wrap_u64]; exact (Int.natCast_emod n 18446744073709551616).symm
theorem u_in (n : Nat) (h : n < 18446744073709551616) : IntKind.u64.wrap (n : Int) = n := by rw [IntKind.wrap_u64]; omega
theorem or_one (b : Nat) : b ||| 1 = b / 2 * 2 + 1 := by
  apply Nat.eq_of_testBit_eq
  intro i
  rw [Nat.testBit_or]
  cases i with
  | zero => simp [Nat.testBit_zero]
  | succ i =>
    have e : (b / 2 * 2 + 1) / 2 = b / 2 := by omega
    rw [Nat.testBit_succ (b / 2 * 2 + 1), e, Nat.testBit_succ, Nat.testBit_succ]
    simp
theorem bits_or_u64 (a b : Nat) (ha : a < 18446744073709551616) (hb : b < 18446744073709551616) : bits .or .u64 (a : Int) (b : Int) = ((a ||| b : Nat) : Int) := by
  have hx : a ||| b < 2 ^ 64 := Nat.or_lt_two_pow (by omega) (by omega)
  have h1 : (BitVec.ofInt 64 (a : Int)).toNat = a := by
    rw [BitVec.ofInt_natCast, BitVec.toNat_ofNat]; exact Nat.mod_eq_of_lt (by omega)
  have h2 : (BitVec.ofInt 64 (b : Int)).toNat = b := by
    rw [BitVec.ofInt_natCast, BitVec.toNat_ofNat]; exact Nat.mod_eq_of_lt (by omega)
  show IntKind.u64.wrap ((BitVec.ofInt 64 (a : Int) ||| BitVec.ofInt 64 (b : Int)).toNat : Int) = _
  rw [BitVec.toNat_or, h1, h2, IntKind.wrap_u64]
  omega
theorem bits_xor_u64 (a b : Nat) (ha : a < 18446744073709551616) (hb : b < 18446744073709551616) : bits .xor .u64 (a : Int) (b : Int) = ((a ^^^ b : Nat) : Int) := by
  have hx : a ^^^ b < 2 ^ 64 := Nat.xor_lt_two_pow (by omega) (by omega)
  have h1 : (BitVec.ofInt 64 (a : Int)).toNat = a := by
    rw [BitVec.ofInt_natCast, BitVec.toNat_ofNat]; exact Nat.mod_eq_of_lt (by omega)
  have h2 : (BitVec.ofInt 64 (b : Int)).toNat = b := by
    rw [BitVec.ofInt_natCast, BitVec.toNat_ofNat]; exact Nat.mod_eq_of_lt (by omega)
  show IntKind.u64.wrap ((BitVec.ofInt 64 (a : Int) ^^^ BitVec.ofInt 64 (b : Int)).toNat : Int) = _
  rw [BitVec.toNat_xor, h1, h2, IntKind.wrap_u64]
  omega
theorem bits_and_u64 (a b : Nat) (ha : a < 18446744073709551616) (hb : b < 18446744073709551616) : bits .and .u64 (a : Int) (b : Int) = ((a &&& b : Nat) : Int) := by
  have hx : a &&& b < 2 ^ 64 := Nat.and_lt_two_pow _ (by omega)
  have h1 : (BitVec.ofInt 64 (a : Int)).toNat = a := by
    rw [BitVec.ofInt_natCast, BitVec.toNat_ofNat]; exact Nat.mod_eq_of_lt (by omega)
  have h2 : (BitVec.ofInt 64 (b : Int)).toNat = b := by
    rw [BitVec.ofInt_natCast, BitVec.toNat_ofNat]; exact Nat.mod_eq_of_lt (by omega)
  show IntKind.u64.wrap ((BitVec.ofInt 64 (a : Int) &&& BitVec.ofInt 64 (b : Int)).toNat : Int) = _
  rw [BitVec.toNat_and, h1, h2, IntKind.wrap_u64]
  omega
theorem i64_and_one (a : Int) (h0 : 0 ≤ a) (h1 : a ≤ 9223372036854775807) : bits .and .i64 a 1 = a % 2 := by
  obtain ⟨n, rfl⟩ := Int.eq_ofNat_of_zero_le h0
  have hn : (BitVec.ofInt 64 (n : Int)).toNat = n := by
    rw [BitVec.ofInt_natCast, BitVec.toNat_ofNat]; exact Nat.mod_eq_of_lt (by omega)
  show IntKind.i64.wrap ((BitVec.ofInt 64 (n : Int) &&& BitVec.ofInt 64 1).toNat : Int) = _
  rw [BitVec.toNat_and, hn, show (BitVec.ofInt 64 1).toNat = 1 from rfl, Nat.and_one_is_mod, IntKind.wrap_i64]
  omega
theorem xor_max (z : Nat) (h : z < 18446744073709551616) : bits .xor .u64 IntKind.u64.max (z : Int) = ((18446744073709551615 - z : Nat) : Int) := by
  have h1 : (BitVec.ofInt 64 (z : Int)).toNat = z := by
    rw [BitVec.ofInt_natCast, BitVec.toNat_ofNat]; exact Nat.mod_eq_of_lt (by omega)
  have h2 : BitVec.ofInt 64 IntKind.u64.max = BitVec.allOnes 64 := by decide
  show IntKind.u64.wrap ((BitVec.ofInt 64 IntKind.u64.max ^^^ BitVec.ofInt 64 (z : Int)).toNat : Int) = _
  rw [h2, BitVec.allOnes_xor, BitVec.toNat_not, h1, IntKind.wrap_u64]
  omega
end Go.W64
end
/- sum: Join, Words, Ints; the reference's Tied, Digest. -/
section
namespace Go.Proofs.YtfckbkhnelgjbaaDoor
open Go.ChangeShapes Go.WideShapes Go.ChangeAt Go.RowKit
set_option linter.unusedVariables false

/-- The digest of two digests. -/
def tied (a b : Nat) : Nat := mix ((mix ((a + 5840696475078001361) % 18446744073709551616) * 11170449401992604703 + b) % 18446744073709551616)
theorem tie_lt (a b : Nat) : tied a b < 18446744073709551616 := mix_lt _

theorem sum_Join (a b : Nat) (ha : a < 18446744073709551616) (hb : b < 18446744073709551616) (w : World) :
    Calls Tryd.prog 50 #[.int .u64 a, .int .u64 b] w fun e w' => e = .returned (.int .u64 (tied a b : Nat)) ∧ w = w' := by
  obtain ⟨A, hA⟩ : ∃ A, A = (a + 5840696475078001361) % 18446744073709551616 := ⟨_, rfl⟩
  have lA : A < 18446744073709551616 := by omega
  have e1 : IntKind.u64.wrap ((a : Int) + 5840696475078001361) = A := by rw [IntKind.wrap_u64]; omega
  have c1 := rnd_Mix A lA
  obtain ⟨M, hM⟩ : ∃ M, M = mix A := ⟨_, rfl⟩
  rw [← hM] at c1
  obtain ⟨B, hB⟩ : ∃ B, B = M * 11170449401992604703 % 18446744073709551616 := ⟨_, rfl⟩
  have lB : B < 18446744073709551616 := by omega
  have e2 : IntKind.u64.wrap ((M : Int) * 11170449401992604703) = B := by rw [IntKind.wrap_u64]; omega
  obtain ⟨C, hC⟩ : ∃ C, C = (B + b) % 18446744073709551616 := ⟨_, rfl⟩
  have lC : C < 18446744073709551616 := by omega
  have e3 : IntKind.u64.wrap ((B : Int) + (b : Int)) = C := by rw [IntKind.wrap_u64]; omega
  have c2 := rnd_Mix C lC
  have ht : tied a b = mix C := by
    rw [tied, ← hA, ← hM, hC, hB, Nat.mod_add_mod]
  obtain ⟨N, hN⟩ : ∃ N, N = mix C := ⟨_, rfl⟩
  rw [ht]
  rw [← hN] at c2 ⊢
  have C1 := Lib.hid c1
  have C2 := Lib.hid c2
  clear c1 c2 ht hA hM hB hC hN
  go_enter Tryd.func50, Tryd.ntmps50
  go_wp2_with (first
    | (go_at_call 57; (with_reducible refine (C1.out _).mono ?_); rintro e w1 ⟨rfl, rfl⟩)
    | (go_at_call 57; (with_reducible refine (C2.out _).mono ?_); rintro e w1 ⟨rfl, rfl⟩))
  go_ret
  exact ⟨rfl, rfl⟩

/-- The digest of a list, begun at d. -/
def dig1 : Nat → List Int → Nat
  | d, [] => d
  | d, n :: l => dig1 (tied d (W64.u n)) l
theorem dig1_snoc (d : Nat) (l : List Int) (n : Int) : dig1 d (l ++ [n]) = tied (dig1 d l) (W64.u n) := by
  induction l generalizing d with
  | nil => rfl
  | cons a l ih => exact ih _
theorem dig1_lt (d : Nat) (l : List Int) (h : d < 18446744073709551616) : dig1 d l < 18446744073709551616 := by
  induction l generalizing d with
  | nil => exact h
  | cons a l ih => exact ih _ (tie_lt _ _)
def dig (l : List Int) : Nat := dig1 (tied 5840696475078001361 l.length) l
theorem dig1_map (d : Nat) (l : List Int) : dig1 d (l.map fun z => (W64.u z : Int)) = dig1 d l := by
  induction l generalizing d with
  | nil => rfl
  | cons a l ih =>
    show dig1 (tied d (W64.u (W64.u a : Int))) _ = _
    rw [ih, W64.u_nat _ (W64.u_lt a)]; rfl
theorem dig_map (l : List Int) : dig (l.map fun z => (W64.u z : Int)) = dig l := by
  unfold dig; rw [dig1_map, List.length_map]
theorem take_snocS {α : Type} (l : List α) (k : Nat) (d : α) (h : k < l.length) : l.take (k + 1) = l.take k ++ [l.getD k d] := by
  rw [List.take_succ_eq_append_getElem h]; simp [h]
/-- All numbers are of 64 bits. -/
def U64s (l : List Int) : Prop := ∀ z ∈ l, 0 ≤ z ∧ z < 18446744073709551616
theorem U64s.get {l : List Int} (h : U64s l) (k : Nat) (hk : k < l.length) : ((W64.u (l.getD k 0) : Nat) : Int) = l.getD k 0 := by
  have hm : l.getD k 0 ∈ l := by simp [hk]
  obtain ⟨h1, h2⟩ := h _ hm
  unfold W64.u; omega

set_option maxHeartbeats 4000000 in
theorem sum_Words (a : Option Addr) (cap : Nat) (l : List Int) (hl : l.length ≤ 9223372036854775807) (hu : U64s l) (w : World) (hin : Mem.IntsAt .u64 w a l) :
    Calls Tryd.prog 37 #[.slice a l.length cap] w fun e w' => e = .returned (.int .u64 (dig l : Nat)) ∧ w = w' := by
  obtain ⟨n, hn⟩ : ∃ n, n = l.length := ⟨_, rfl⟩
  rw [← hn]
  have HN := Lib.hid hn
  have un : IntKind.u64.wrap (n : Int) = n := W64.u_in n (by omega)
  have cj := sum_Join 5840696475078001361 n (by omega) (by omega) w
  obtain ⟨D, hD⟩ : ∃ D, D = tied 5840696475078001361 n := ⟨_, rfl⟩
  rw [← hD] at cj
  have lD : D < 18446744073709551616 := by rw [hD]; exact tie_lt _ _
  have HD := Lib.hid hD
  have CJ := Lib.hid cj
  have HI := Lib.hid hin
  have h63 : n ≤ 9223372036854775807 := by omega
  have HU := Lib.hid hu
  clear hin hn hl cj hD hu
  go_enter Tryd.func37, Tryd.ntmps37
  go_wp2_with (go_at_call 50; refine (CJ.out).mono ?_; rintro e w1 ⟨rfl, rfl⟩)
  clear un
  go_loopg [3, 5, 12] n (fun gk vs _ vi wx => ∃ k : Nat, k ≤ n ∧ gk = n - k ∧ vi = .int .i64 k ∧ vs = .int .u64 (dig1 D (l.take k) : Nat) ∧ wx = w)
  case atStart => exact ⟨0, by omega, rfl, rfl, rfl, rfl⟩
  case round =>
    obtain ⟨k, h1, h2, rfl, rfl, rfl⟩ := hrel
    have H2 := Lib.hid h2
    clear h2
    have lS := dig1_lt D (l.take k) (by omega)
    by_cases hlt : k < n
    · obtain ⟨x, rfl, hx, hc⟩ := HI.out (by rw [← HN.out]; omega)
      have hcell := hc k (by rw [← HN.out]; omega)
      have hz := HU.out.get k (by rw [← HN.out]; omega)
      obtain ⟨S, hS⟩ : ∃ S, S = dig1 D (l.take k) := ⟨_, rfl⟩
      obtain ⟨Z, hZ⟩ : ∃ Z, Z = W64.u (l.getD k 0) := ⟨_, rfl⟩
      have lZ : Z < 18446744073709551616 := by rw [hZ]; exact W64.u_lt _
      rw [← hz, ← hZ] at hcell
      rw [← hS] at lS ⊢
      have HS := Lib.hid hS
      have HZ := Lib.hid hZ
      have ct := sum_Join S Z lS lZ wr
      obtain ⟨T, hT⟩ : ∃ T, T = tied S Z := ⟨_, rfl⟩
      rw [← hT] at ct
      have HT := Lib.hid hT
      have CT := Lib.hid ct
      clear hc hS hz hT hZ ct
      go_wp2_with (go_at_call 50; refine (CT.out).mono ?_; rintro e w1 ⟨rfl, rfl⟩)
      go_roundg (n - (k + 1))
      case measure => rw [H2.out]; omega
      case rel => exact ⟨k + 1, by omega, rfl, by go_num, by rw [take_snocS l k 0 (by rw [← HN.out]; omega), dig1_snoc, ← HS.out, ← HZ.out, ← HT.out], rfl⟩
    · obtain rfl : k = n := by omega
      have eS : dig1 D (l.take k) = dig l := by rw [List.take_of_length_le (by rw [← HN.out]; omega), dig, ← HN.out, HD.out]
      rw [eS]
      clear eS
      go_wp2
      go_ret
      exact ⟨rfl, rfl⟩

end Go.Proofs.YtfckbkhnelgjbaaDoor
end
/- sum.Ints. -/
section
namespace Go.Proofs.YtfckbkhnelgjbaaDoor
open Go.ChangeShapes Go.WideShapes Go.ChangeAt Go.RowKit Go.Mem
set_option linter.unusedVariables false

theorem dig_of_u (l o : List Int) (hl : o.length = l.length) (h : ∀ j, j < l.length → o.getD j 0 = (W64.u (l.getD j 0) : Int)) : dig o = dig l ∧ U64s o := by
  have e : o = l.map fun z => (W64.u z : Int) := by
    apply getD_eq_of_ext (by simpa using hl)
    intro j hj
    rw [h j (by omega)]
    have : j < l.length := by omega
    simp [this]
  subst e
  refine ⟨dig_map l, fun z hz => ?_⟩
  obtain ⟨y, _, rfl⟩ := List.mem_map.1 hz
  have := W64.u_lt y
  omega

set_option maxHeartbeats 4000000 in
theorem sum_Ints (a : Option Addr) (cap : Nat) (l : List Int) (hl : l.length ≤ 17592186044416) (w : World) (hin : Mem.IntsAt .i64 w a l) :
    Calls Tryd.prog 16 #[.slice a l.length cap] w fun e w' => e = .returned (.int .u64 (dig l : Nat)) ∧ Below w.heap.size w w' := by
  obtain ⟨n, hn⟩ : ∃ n, n = l.length := ⟨_, rfl⟩
  rw [← hn]
  have HN := Lib.hid hn
  have HI := Lib.hid hin
  have h63 : n ≤ 17592186044416 := by omega
  clear hin hn hl
  obtain ⟨i0, hi, hz0, hz1, hz2⟩ := info_parts (show (Tryd.prog.info? 40).map (fun i => (i.zero, i.size, i.bytes)) = some (some (.int .u64 0), 1, 8) by kernel_rfl)
  go_enter Tryd.func16, Tryd.ntmps16
  go_wp2_with (at_make; go_must (refine wpList_make_full _ rfl _ _ 78 rfl w.heap.size 40 i0 (.int .u64 0) 1 Tryd.underlying78 hi hz0 hz1 _ _ _ _ n rfl rfl rfl rfl ?b1 ?b2 ?b3 ?_))
  case b1 => rw [hz2]; omega
  case b2 => unfold maxLen; omega
  case b3 => omega
  intro w1 hown hgr
  rw [toList_madeCells_one, vints_replicate] at hown
  have hb1 : Below w.heap.size w w1 := (Below.refl _ _).grown hgr (Nat.le_refl _) (fun k hk => by cases hk)
  clear hgr hi hz0 hz1 hz2
  go_wp2
  go_loopg [4, 5, 11] n (fun gk _ _ vi wr => ∃ (k : Nat) (out : List Int), k ≤ n ∧ gk = n - k ∧ vi = .int .i64 k ∧ out.length = n ∧ (∀ j, j < k → out.getD j 0 = (W64.u (l.getD j 0) : Int)) ∧
      wr.ownsRow w.heap.size 40 1 (.slice (some ⟨w.heap.size, 0, none⟩) n n) n (vints .u64 out) ∧ Below w.heap.size w wr)
  case atStart => exact ⟨0, List.replicate n 0, by omega, rfl, rfl, by simp, fun j h => by omega, hown, hb1⟩
  case round =>
    clear hown hb1
    obtain ⟨k, out, hk, h2, rfl, hlen, hout, hown, hb⟩ := hrel
    have H2 := Lib.hid h2
    have HLEN := Lib.hid hlen
    have HOUT := Lib.hid hout
    clear h2 hout
    by_cases hlt : k < n
    · obtain ⟨x, rfl, hx, hc⟩ := (HI.out.below hb) (by rw [← HN.out]; omega)
      have hcell := hc k (by rw [← HN.out]; omega)
      obtain ⟨z, hz⟩ : ∃ z, z = l.getD k 0 := ⟨_, rfl⟩
      rw [← hz] at hcell
      have HZ := Lib.hid hz
      have eu : IntKind.u64.wrap z = W64.u z := W64.u_eq z
      have e1 := (hown.cellAt k (by omega)).trans (vints_get .u64 out k (by omega))
      have e2 := hown.frozenAt k
      have hst := (hown.stored k (.int .u64 (W64.u z : Nat)))
      rw [vints_set] at hst
      have HST := Lib.hid hst
      clear hc hz hst hown hlen
      go_wp2
      go_roundg (n - (k + 1))
      case measure => rw [H2.out]; omega
      case rel =>
        refine ⟨k + 1, out.set k (W64.u z), by omega, rfl, by go_num, by rw [List.length_set]; exact HLEN.out, fun j hj => ?_, HST.out.1, hb.setCell (by simp) _⟩
        by_cases q : j = k
        · subst q
          have := HLEN.out
          have h3 : j < out.length := by omega
          rw [← HZ.out]; simp [h3]
        · rw [List.getD_eq_getElem?_getD, List.getElem?_set_ne (by omega), ← List.getD_eq_getElem?_getD]
          exact HOUT.out j (by omega)
    · obtain rfl : k = n := by omega
      obtain ⟨q1, q2⟩ := dig_of_u l out (by rw [HLEN.out, HN.out]) (fun j hj => HOUT.out j (by rw [HN.out]; exact hj))
      have cw := sum_Words (some ⟨w.heap.size, 0, none⟩) k out (by rw [HLEN.out]; omega) q2 wr (IntsAt.of_own hown HLEN.out.symm)
      rw [HLEN.out, q1] at cw
      have CW := Lib.hid cw
      clear cw q1 q2 hlen hown
      go_wp2_with (go_at_call 37; refine (CW.out).mono ?_; rintro e w2 ⟨rfl, rfl⟩)
      go_ret
      exact ⟨rfl, hb⟩
end Go.Proofs.YtfckbkhnelgjbaaDoor
end
/- world.Digest. -/
section
namespace Go.Proofs.YtfckbkhnelgjbaaDoor
open Go.ChangeShapes Go.WideShapes Go.ChangeAt Go.RowKit Go.Nm Go.Mem
set_option linter.unusedVariables false
set_option maxHeartbeats 4000000 in
theorem world_Digest (y : WorldV) (v : Value) (W : World) (hv : WorldIn W v y) (hfn : FineW y) (hlen : (intsW y).length ≤ 17592186044416) : Calls Tryd.prog 15 #[v] W fun e w' => e = .returned (.int .u64 (dig (intsW y) : Nat)) ∧ Below W.heap.size W w' := by
  obtain ⟨ak, ck, ag, cg, ai, ci, rfl, q1, q2, q3, q4, q5⟩ := hv
  obtain ⟨nk, hnk⟩ : ∃ n, n = y.kinds.length := ⟨_, rfl⟩
  obtain ⟨ng, hng⟩ : ∃ n, n = y.gens.length := ⟨_, rfl⟩
  obtain ⟨ni, hni⟩ : ∃ n, n = y.items.length := ⟨_, rfl⟩
  have hb0 := (Below.refl W.heap.size W).alloc (Nat.le_refl _) (.cells #[.slice ak nk ck, .slice ag ng cg, .slice ai ni ci] 26)
  have hv' : WorldIn (W.alloc (.cells #[.slice ak nk ck, .slice ag ng cg, .slice ai ni ci] 26)) (.agg #[.slice ak nk ck, .slice ag ng cg, .slice ai ni ci]) y := by
    rw [hnk, hng, hni] at hb0 ⊢
    exact WorldIn.below ⟨ak, ck, ag, cg, ai, ci, rfl, q1, q2, q3, q4, q5⟩ hb0
  have HC := Lib.hid (world_Ints y _ _ hv' hfn)
  have HS := Lib.hid (fun a c w' h => sum_Ints a c (intsW y) hlen w' h)
  have HB0 := Lib.hid hb0
  obtain ⟨L, hL⟩ : ∃ L, L = intsW y := ⟨_, rfl⟩
  rw [← hL] at HC HS ⊢
  clear q1 q2 q3 hv' hb0 hfn hlen hL
  rw [← hnk, ← hng, ← hni]
  clear hnk hng hni q4
  go_enter Tryd.func15, Tryd.ntmps15
  go_wp2_with fail
  refine HC.out.mono ?_
  rintro e w1 ⟨⟨a, c, rfl, hi⟩, hb1⟩
  have HB1 := Lib.hid (HB0.out.trans (hb1.mono HB0.out.size))
  have HI := Lib.hid hi
  clear hi hb1
  go_wp2_with fail
  refine (HS.out a c _ HI.out).mono ?_
  rintro e w2 ⟨rfl, hb2⟩
  have HB2 := Lib.hid (HB1.out.trans (hb2.mono HB1.out.size))
  clear hb2
  go_wp2_with fail
  go_ret
  exact ⟨rfl, HB2.out⟩
end Go.Proofs.YtfckbkhnelgjbaaDoor
end
/- The reference's Described. -/
section
namespace Go.Proofs.YtfckbkhnelgjbaaDoor
open Go.ChangeShapes Go.WideShapes Go.ChangeAt Go.RowKit Go.Mem
set_option linter.unusedVariables false
theorem list10m {α : Type} {vs : List α} (h : vs.length = 10) : ∃ x0 x1 x2 x3 x4 x5 x6 x7 x8 x9, vs = [x0, x1, x2, x3, x4, x5, x6, x7, x8, x9] := by
  obtain ⟨x0, t0, rfl, h0⟩ := cons_of h
  obtain ⟨x1, t1, rfl, h1⟩ := cons_of h0
  obtain ⟨x2, t2, rfl, h2⟩ := cons_of h1
  obtain ⟨x3, t3, rfl, h3⟩ := cons_of h2
  obtain ⟨x4, t4, rfl, h4⟩ := cons_of h3
  obtain ⟨x5, t5, rfl, h5⟩ := cons_of h4
  obtain ⟨x6, t6, rfl, h6⟩ := cons_of h5
  obtain ⟨x7, t7, rfl, h7⟩ := cons_of h6
  obtain ⟨x8, t8, rfl, h8⟩ := cons_of h7
  obtain ⟨x9, t9, rfl, h9⟩ := cons_of h8
  exact ⟨x0, x1, x2, x3, x4, x5, x6, x7, x8, x9, by rw [List.eq_nil_of_length_eq_zero h9]⟩
theorem list12m {α : Type} {vs : List α} (h : vs.length = 12) : ∃ x0 x1 x2 x3 x4 x5 x6 x7 x8 x9 x10 x11, vs = [x0, x1, x2, x3, x4, x5, x6, x7, x8, x9, x10, x11] := by
  obtain ⟨x0, t0, rfl, h0⟩ := cons_of h
  obtain ⟨x1, t1, rfl, h1⟩ := cons_of h0
  obtain ⟨x2, t2, rfl, h2⟩ := cons_of h1
  obtain ⟨x3, t3, rfl, h3⟩ := cons_of h2
  obtain ⟨x4, t4, rfl, h4⟩ := cons_of h3
  obtain ⟨x5, t5, rfl, h5⟩ := cons_of h4
  obtain ⟨x6, t6, rfl, h6⟩ := cons_of h5
  obtain ⟨x7, t7, rfl, h7⟩ := cons_of h6
  obtain ⟨x8, t8, rfl, h8⟩ := cons_of h7
  obtain ⟨x9, t9, rfl, h9⟩ := cons_of h8
  obtain ⟨x10, t10, rfl, h10⟩ := cons_of h9
  obtain ⟨x11, t11, rfl, h11⟩ := cons_of h10
  exact ⟨x0, x1, x2, x3, x4, x5, x6, x7, x8, x9, x10, x11, by rw [List.eq_nil_of_length_eq_zero h11]⟩
def F_r16 (X WW ng cg : Nat) (ag : Option Addr) (u : Value) (L : List Int) (jq : Nat) (v : Value) (w : World) : Prop :=
  match jq with
  | 0 => v = u
  | 1 => v = .pointer (some ⟨WW, 1, none⟩)
  | 2 => v = .slice ag ng cg
  | 3 => v = .int .i64 (ng : Int)
  | 4 => ∃ b, v = .slice (some ⟨b, 0, none⟩) 1 1 ∧ IntsAt .i64 w (some ⟨b, 0, none⟩) [(ng : Int)] ∧ some b ≠ u.ownBlock
  | 5 => ∃ u5, v = u5 ∧ w.ownsRow X 3 1 u5 (L.length + 1) (vints .i64 (L ++ [(ng : Int)]))
  | 6 => v = .pointer (some ⟨WW, 1, none⟩)
  | 7 => v = .slice ag ng cg
  | _ => True
theorem F_r16_mono (X WW ng cg : Nat) (ag : Option Addr) (u : Value) (L : List Int) : FactsR (RI X X 5 u.ownBlock) (F_r16 X WW ng cg ag u L) := ⟨by
  intro i jq v w w' hij h hb
  unfold F_r16 at h ⊢
  split at h
  all_goals first
    | exact h
    | (obtain ⟨b, e, h1, h2⟩ := h; exact ⟨b, e, ints_gbo h1 hb.gb (fun x hx => by injection hx with hx; subst hx; exact h2), h2⟩)
    | (obtain ⟨u5, e, h1⟩ := h; exact ⟨u5, e, own_below h1 (hb.1 hij)⟩)
    | trivial⟩
def F_r25 (X KK nv cv : Nat) (kq : Int) (av : Option Addr) (u : Value) (L : List Int) (jq : Nat) (v : Value) (w : World) : Prop :=
  match jq with
  | 0 => v = u
  | 1 => v = .pointer (some ⟨KK, 0, none⟩)
  | 2 => v = .int .i64 kq
  | 3 => v = .pointer (some ⟨KK, 1, none⟩)
  | 4 => v = .slice av nv cv
  | 5 => v = .int .i64 (nv : Int)
  | 6 => ∃ b, v = .slice (some ⟨b, 0, none⟩) 2 2 ∧ IntsAt .i64 w (some ⟨b, 0, none⟩) [kq, (nv : Int)] ∧ some b ≠ u.ownBlock
  | 7 => ∃ u5, v = u5 ∧ w.ownsRow X 3 1 u5 (L.length + 2) (vints .i64 (L ++ [kq, (nv : Int)]))
  | 8 => v = .pointer (some ⟨KK, 1, none⟩)
  | 9 => v = .slice av nv cv
  | _ => True
theorem F_r25_mono (X KK nv cv : Nat) (kq : Int) (av : Option Addr) (u : Value) (L : List Int) : FactsR (RI X X 7 u.ownBlock) (F_r25 X KK nv cv kq av u L) := ⟨by
  intro i jq v w w' hij h hb
  unfold F_r25 at h ⊢
  split at h
  all_goals first
    | exact h
    | (obtain ⟨b, e, h1, h2⟩ := h; exact ⟨b, e, ints_gbo h1 hb.gb (fun x hx => by injection hx with hx; subst hx; exact h2), h2⟩)
    | (obtain ⟨u5, e, h1⟩ := h; exact ⟨u5, e, own_below h1 (hb.1 hij)⟩)
    | trivial⟩
set_option maxHeartbeats 16000000 in
set_option maxRecDepth 20000 in
theorem ref_Described (y : WorldV) (v : Value) (W : World) (hv : WorldIn W v y) (hfn : FineW y) : Calls Tryd.prog 14 #[v] W fun e w' => (∃ a c, e = .returned (.slice a (intsW y).length c) ∧ IntsAt .i64 w' a (intsW y)) ∧ Below W.heap.size W w' := by
  obtain ⟨ak, ck, ag, cg, ai, ci, rfl, hzk, hzg, hzi, hk1, hk2⟩ := hv
  have hdk := fun i (h : i < y.kinds.length) R => drop_flat kndI y.kinds i h R
  have hdi := fun i (h : i < y.items.length) R => drop_flat itemI y.items i h R
  have hek := drop_end kndI y.kinds
  have hei := drop_end itemI y.items
  obtain ⟨TOT, hTOT⟩ : ∃ T, T = intsW y := ⟨_, rfl⟩
  have htl := hfn.tot
  rw [← hTOT] at htl ⊢
  obtain ⟨TL, hTL⟩ : ∃ t, t = TOT.length := ⟨_, rfl⟩
  rw [← hTL] at htl
  have s1 := hfn.kl
  have s2 := hfn.gl
  have s3 := hfn.il
  have HK := Lib.hid hfn.k
  have HI := Lib.hid hfn.i
  unfold intsW at hTOT
  obtain ⟨nk, hnk⟩ : ∃ nk, nk = y.kinds.length := ⟨_, rfl⟩
  obtain ⟨ng, hng⟩ : ∃ ng, ng = y.gens.length := ⟨_, rfl⟩
  obtain ⟨ni, hni⟩ : ∃ ni, ni = y.items.length := ⟨_, rfl⟩
  rw [← hnk] at hk1 s1
  rw [← hng] at s2
  rw [← hni] at s3
  rw [← hnk, ← hng, ← hni]
  rw [← hnk, ← hng, ← hni] at hTOT
  rw [← hnk] at hek
  rw [← hni] at hei
  have hk0 : ((y.kinds.map kndI).flatten : List Int) = ((y.kinds.drop 0).map kndI).flatten := rfl
  have hi0 : ((y.items.map itemI).flatten : List Int) = ((y.items.drop 0).map itemI).flatten := rfl
  rw [hk0, hi0] at hTOT
  obtain ⟨FI, hFI⟩ : ∃ F : Nat → List Int, F = fun i => ((y.items.drop i).map itemI).flatten := ⟨_, rfl⟩
  obtain ⟨FK, hFK⟩ : ∃ F : Nat → List Int, F = fun i => ((y.kinds.drop i).map kndI).flatten := ⟨_, rfl⟩
  have hdk' : ∀ i (h : i < y.kinds.length) R, FK i ++ R = kndI y.kinds[i] ++ (FK (i + 1) ++ R) := fun i h R => by rw [hFK]; exact hdk i h R
  have hdi' : ∀ i (h : i < y.items.length) R, FI i ++ R = itemI y.items[i] ++ (FI (i + 1) ++ R) := fun i h R => by rw [hFI]; exact hdi i h R
  have hek' : ∀ R, FK nk ++ R = R := fun R => by rw [hFK]; exact hek R
  have hei' : ∀ R, FI ni ++ R = R := fun R => by rw [hFI]; exact hei R
  have hTOT' : [(nk : Int)] ++ (FK 0 ++ ([(ng : Int)] ++ (y.gens ++ ([(ni : Int)] ++ FI 0)))) = TOT := by rw [hFK, hFI]; exact hTOT.symm
  have DK := Lib.hid hdk'
  have DI := Lib.hid hdi'
  have EK := Lib.hid hek'
  have EI := Lib.hid hei'
  have HT0 := Lib.hid hTOT'
  have HTL := Lib.hid hTL
  have NK := Lib.hid hnk
  have NG := Lib.hid hng
  have NI := Lib.hid hni
  have ZK := Lib.hid hzk
  have ZG := Lib.hid hzg
  have ZI := Lib.hid hzi
  have LEN := Lib.hid (fun (L R : List Int) (h : L ++ R = TOT) => (show L.length ≤ TL from by rw [hTL]; exact len_le h))
  clear hdk hdi hek hei hk0 hi0 hTOT hFI hFK hdk' hdi' hek' hei' hTOT' hTL hnk hng hni hzk hzg hzi hfn
  obtain ⟨o1, ho1⟩ : ∃ o : Obj, o = .cells #[.slice ak nk ck, .slice ag ng cg, .slice ai ni ci] 26 (0, 0) := ⟨_, rfl⟩
  obtain ⟨o3, ho3⟩ : ∃ o : Obj, o = .cells #[.slice none 0 0] 23 (0, 0) := ⟨_, rfl⟩
  have g1 := row_first W o1 o3
  have g3 := row_second W o1 o3
  have gb := ((Below.refl W.heap.size W).alloc (Nat.le_refl _) o1).alloc (by simp) o3
  rw [ho1, ho3] at g1 g3 gb
  have hout0 : OutV ((W.alloc (.cells #[.slice ak nk ck, .slice ag ng cg, .slice ai ni ci] 26 (0, 0))).alloc (.cells #[.slice none 0 0] 23 (0, 0))) (W.heap.size + 1) (W.heap.size + 1) (.slice none 0 0) [] := ⟨Nat.le_refl _, g3, ⟨rfl, Or.inl ⟨rfl, rfl⟩⟩⟩
  have HOUTz := Lib.hid hout0
  have HROWz := Lib.hid g1
  have HBz := Lib.hid gb
  clear ho1 ho3 o1 o3 g1 g3 gb hout0
  have hT1 := Lib.hid HT0.out
  go_enter Tryd.func14, Tryd.ntmps14
  go_wp2_with (at_builtin; go_must (refine wpList_out rfl _ _ rfl rfl _ _ rfl (W.heap.size + 1) (W.heap.size + 1) (.slice none 0 0) [] rfl (HOUTz.out.below ((Below.refl _ _).alloc (Nat.le_refl _) _)) (some ⟨W.heap.size + 1 + 1, 0, none⟩) 1 1 [(nk : Int)] rfl rfl (by have h := new_ints1 ((W.alloc (.cells #[.slice ak nk ck, .slice ag ng cg, .slice ai ni ci] 26 (0, 0))).alloc (.cells #[.slice none 0 0] 23 (0, 0))) (nk : Int); rw [World.size_alloc, World.size_alloc] at h; exact h) (by simp) (fun u => rfl) (fun u => rfl) ?_); intro v0 W0 hout hfr; have HOUT0 := Lib.hid hout; have HFR0 := Lib.hid hfr; have q0 : W0.cell? ⟨W.heap.size, 0, none⟩ = some (.slice ak nk ck) := cell_of_row _ _ 0 _ _ _ (hfr.low (Nat.lt_succ_self _) (heap_keep HROWz.out _)); clear hout hfr)
  have HROW0 := Lib.hid (HFR0.out.low (Nat.lt_succ_self _) (heap_keep HROWz.out _))
  have HB0 := Lib.hid ((HBz.out.trans (((Below.refl ((W.alloc (.cells #[.slice ak nk ck, .slice ag ng cg, .slice ai ni ci] 26 (0, 0))).alloc (.cells #[.slice none 0 0] 23 (0, 0))).heap.size _).alloc (Nat.le_refl _) (.cells #[.int .i64 (nk : Int)] 3)).mono HBz.out.size)).trans (HFR0.out.bel.mono (Nat.le_succ _)))
  have hout0 := HOUT0.out
  clear HOUT0 HFR0 HOUTz HROWz HBz q0
  obtain ⟨X, hX⟩ : ∃ X, X = W.heap.size + 1 := ⟨_, rfl⟩
  rw [← hX] at hout0 ⊢
  have HOUT0 := Lib.hid hout0
  have hNB : W.heap.size < X := by omega
  have hBX : X ≤ X := Nat.le_refl _
  clear hX hout0
  have hT1 := step_eq hT1.out
  go_loopg [23, 6, 40, 8] nk (fun gk v1 _ _ _ wx => ∃ (i : Nat) (u : Value) (L : List Int), i ≤ nk ∧ gk = nk - i ∧ v1 = .int .i64 i ∧ OutV wx X X u L ∧ L ++ (FK i ++ ([(ng : Int)] ++ (y.gens ++ ([(ni : Int)] ++ FI 0)))) = TOT ∧ FrX X X W0 wx)
  case atStart => exact ⟨0, _, _, Nat.zero_le _, rfl, rfl, HOUT0.out, hT1, FrX.refl _ _ _⟩
  case round =>
    clear HOUT0 hT1
    obtain ⟨i, u, L, j1, j2, rfl, hout, hT, hfr⟩ := hrel
    have J2 := Lib.hid j2
    have HOUT := Lib.hid hout
    have HFR := Lib.hid hfr
    have HT := Lib.hid hT
    have hrowN := hfr.low hNB HROW0.out
    have HROWN := Lib.hid hrowN
    have hbW : Below W.heap.size W wr := HB0.out.trans (hfr.bel.mono (Nat.le_of_lt hNB))
    have HBW := Lib.hid hbW
    have hble := hout.ble
    clear j2 hout hfr hT hrowN
    by_cases hi : i < nk
    · obtain ⟨x, rfl, _, _⟩ := ZK.out (by rw [← NK.out]; omega)
      obtain ⟨kb, ko, rfl, af, cf, hclW, hnm, hnc, hcm, hfl⟩ := kind_cells ZK.out i (by rw [← NK.out]; exact hi)
      have hcl := hclW.below hbW
      clear hclW
      have hsz := HK.out _ (List.getElem_mem (by rw [← NK.out]; exact hi) : y.kinds[i]'(by rw [← NK.out]; exact hi) ∈ y.kinds)
      have hT := HT.out
      rw [DK.out i (by rw [← NK.out]; exact hi)] at hT
      obtain ⟨kk, hkk⟩ : ∃ kk, kk = y.kinds[i]'(by rw [← NK.out]; exact hi) := ⟨_, rfl⟩
      rw [← hkk] at hcl hnm hnc hfl hsz hT
      unfold kndI at hT
      obtain ⟨q1, q2, q3⟩ := hsz
      obtain ⟨FF, hFF⟩ : ∃ F : Nat → List Int, F = fun j => ((kk.fields.drop j).map fldI).flatten := ⟨_, rfl⟩
      have df : ∀ j (h : j < kk.fields.length) R, FF j ++ R = fldI kk.fields[j] ++ (FF (j + 1) ++ R) := fun j h R => by rw [hFF]; exact drop_flat fldI kk.fields j h R
      have ef : ∀ R, FF kk.fields.length ++ R = R := fun R => by rw [hFF]; exact drop_end fldI kk.fields R
      rw [show (kk.fields.map fldI).flatten = FF 0 from by rw [hFF]; rfl, List.append_assoc, List.append_assoc] at hT
      obtain ⟨nf, hnf⟩ : ∃ nf, nf = kk.fields.length := ⟨_, rfl⟩
      rw [← hnf] at hcl hT ef hnc q2
      obtain ⟨nm, hnmE⟩ : ∃ nm, nm = kk.name := ⟨_, rfl⟩
      rw [← hnmE] at hcl hT q1
      have e0 := hcl.at 0 (by simp)
      have e1 := hcl.at 1 (by simp)
      simp only [List.getElem_cons_zero, List.getElem_cons_succ, Nat.add_zero] at e0 e1
      have hrk := heap_alloc_new wr (.cells #[.string nm, .slice af nf cf] 55 (0, 0))
      have hbk : Below wr.heap.size wr (wr.alloc (.cells #[.string nm, .slice af nf cf] 55 (0, 0))) := (Below.refl _ _).alloc (Nat.le_refl _) _
      have hLl := LEN.out _ _ HT.out
      have CN := Lib.hid (desc_name nm q1 X X u L _ (HOUT.out.below hbk) (by omega))
      have HT1 := Lib.hid (step_eq hT)
      have hL1 := LEN.out _ _ HT1.out
      have HRK := Lib.hid hrk
      have HFL := Lib.hid hfl
      have HFK := Lib.hid (FrX.of_below (X := X) hble hbk)
      have DF := Lib.hid df
      have EF := Lib.hid ef
      have Q3 := Lib.hid q3
      have NF := Lib.hid hnf
      have hKX : wr.heap.size ≠ X := by have := HOUT.out.lt; omega
      obtain ⟨L1, hL1e⟩ : ∃ L1, L1 = L ++ nameI nm := ⟨_, rfl⟩
      rw [← hL1e] at CN HT1 hL1
      clear hcl hnm hnc hfl hkk hT hFF df ef hnf hnmE hrk hbk hL1e q3
      go_wp2_with (first
        | (go_at_call 36; refine CN.out.mono ?_; rintro e w2 ⟨rfl, ⟨v2, ho2⟩, hf2⟩; have HO2 := Lib.hid ho2; have HF2 := Lib.hid hf2; have c2 := ho2.cell; have rk2 := hf2.far _ _ _ _ HRK.out (by decide) hKX; have RK2 := Lib.hid rk2; have k21 := cell_of_row _ _ 1 _ _ _ rk2; clear ho2 hf2 rk2)
        | (at_builtin; go_must (refine wpList_out rfl _ _ rfl rfl _ _ rfl X X v2 L1 rfl (HO2.out.below ((Below.refl _ _).alloc (Nat.le_refl _) _)) (some ⟨w2.heap.size, 0, none⟩) 1 1 [(nf : Int)] rfl rfl (new_ints1 w2 (nf : Int)) (by omega) (fun u => rfl) (fun u => rfl) ?_); intro v3 w3 hout hfr; have HO3 := Lib.hid hout; have HF3 := Lib.hid ((FrX.of_below HO2.out.ble ((Below.refl w2.heap.size w2).alloc (Nat.le_refl _) (.cells #[.int .i64 (nf : Int)] 3))).trans hfr); have c3 := hout.cell; have rk3 := hfr.far _ _ _ _ (heap_keep RK2.out _) (by decide) hKX; have RK3 := Lib.hid rk3; have k31 := cell_of_row _ _ 1 _ _ _ rk3; clear rk3; clear hout hfr))
      have HT2 := Lib.hid (step_eq HT1.out)
      have hL2 := LEN.out _ _ HT2.out
      have HFA := Lib.hid (HFR.out.trans (HFK.out.trans (HF2.out.trans HF3.out)))
      clear CN HF2 HF3 HO2 RK2 HRK HFK c2 c3 k21 HROWN HT1
      obtain ⟨R1, hR1⟩ : ∃ R1, R1 = FK (i + 1) ++ ([(ng : Int)] ++ (y.gens ++ ([(ni : Int)] ++ FI 0))) := ⟨_, rfl⟩
      rw [← hR1] at HT2
      have HR1 := Lib.hid hR1
      clear hR1
      go_loopg [40, 8] nf (fun gk v1 _ wx => ∃ (j : Nat) (u : Value) (L : List Int), j ≤ nf ∧ gk = nf - j ∧ v1 = .int .i64 j ∧ OutV wx X X u L ∧ L ++ (FF j ++ R1) = TOT ∧ FrX X X W0 wx)
      case atStart => exact ⟨0, _, _, Nat.zero_le _, rfl, rfl, HO3.out, HT2.out, HFA.out⟩
      case round =>
        clear HO3 HT2 HFA RK3 k31 e0 e1
        obtain ⟨j, u, L, l1, l2, rfl, hout, hT, hfr⟩ := hrel
        have J3 := Lib.hid l2
        have HOUT := Lib.hid hout
        have HFR := Lib.hid hfr
        have HT := Lib.hid hT
        have hbW : Below W.heap.size W wr := HB0.out.trans (hfr.bel.mono (Nat.le_of_lt hNB))
        have hble := hout.ble
        have hLl := LEN.out _ _ hT
        clear l2 hout hfr hT
        by_cases hj : j < nf
        · obtain ⟨x, rfl, _, _⟩ := HFL.out (by rw [← NF.out]; omega)
          obtain ⟨fb, fo, rfl, hclW⟩ := fld_cells HFL.out j (by rw [← NF.out]; exact hj)
          have hcl := hclW.below hbW
          have hT := HT.out
          rw [DF.out j (by rw [← NF.out]; exact hj)] at hT
          have hsz := Q3.out _ (List.getElem_mem (by rw [← NF.out]; exact hj) : kk.fields[j]'(by rw [← NF.out]; exact hj) ∈ kk.fields)
          obtain ⟨ff, hff⟩ : ∃ ff, ff = kk.fields[j]'(by rw [← NF.out]; exact hj) := ⟨_, rfl⟩
          rw [← hff] at hcl hsz hT
          unfold fldI at hT
          rw [List.append_assoc] at hT
          obtain ⟨n2, hn2⟩ : ∃ n2, n2 = ff.name := ⟨_, rfl⟩
          obtain ⟨b2, hb2⟩ : ∃ b2, b2 = ff.bits := ⟨_, rfl⟩
          obtain ⟨l2, hl2⟩ : ∃ l2, l2 = ff.low := ⟨_, rfl⟩
          rw [← hn2] at hcl hsz hT
          rw [← hb2, ← hl2] at hcl hT
          have e0 := hcl.at 0 (by simp)
          have e1 := hcl.at 1 (by simp)
          have e2 := hcl.at 2 (by simp)
          simp only [List.getElem_cons_zero, List.getElem_cons_succ, Nat.add_zero] at e0 e1 e2
          have hrk := heap_alloc_new wr (.cells #[.string n2, .int .i64 b2, .int .i64 l2] 57 (0, 0))
          have hbk : Below wr.heap.size wr (wr.alloc (.cells #[.string n2, .int .i64 b2, .int .i64 l2] 57 (0, 0))) := (Below.refl _ _).alloc (Nat.le_refl _) _
          have CN := Lib.hid (desc_name n2 hsz X X u L _ (HOUT.out.below hbk) (by omega))
          have HT1 := Lib.hid (step_eq hT)
          have hL1 := LEN.out _ _ HT1.out
          have HRK := Lib.hid hrk
          have HFK := Lib.hid (FrX.of_below (X := X) hble hbk)
          have hKX : wr.heap.size ≠ X := by have := HOUT.out.lt; omega
          obtain ⟨L1, hL1e⟩ : ∃ L1, L1 = L ++ nameI n2 := ⟨_, rfl⟩
          rw [← hL1e] at CN HT1 hL1
          clear hcl hclW hff hT hn2 hb2 hl2 hrk hbk hL1e
          go_wp2_with (first
            | (go_at_call 36; refine CN.out.mono ?_; rintro e w2 ⟨rfl, ⟨v2, ho2⟩, hf2⟩; have HO2 := Lib.hid ho2; have HF2 := Lib.hid hf2; have c2 := ho2.cell; have rk2 := hf2.far _ _ _ _ HRK.out (by decide) hKX; have k21 := cell_of_row _ _ 1 _ _ _ rk2; have k22 := cell_of_row _ _ 2 _ _ _ rk2; clear ho2 hf2 rk2)
            | (at_builtin; go_must (refine wpList_out rfl _ _ rfl rfl _ _ rfl X X v2 L1 rfl (HO2.out.below ((Below.refl _ _).alloc (Nat.le_refl _) _)) (some ⟨w2.heap.size, 0, none⟩) 2 2 [b2, l2] rfl rfl (new_ints2 w2 b2 l2) (by omega) (fun u => rfl) (fun u => rfl) ?_); intro v3 w3 hout hfr; have HO3 := Lib.hid hout; have HF3 := Lib.hid ((FrX.of_below HO2.out.ble ((Below.refl w2.heap.size w2).alloc (Nat.le_refl _) (.cells #[.int .i64 b2, .int .i64 l2] 3))).trans hfr); skip; clear hout hfr))
          have HT2 := Lib.hid (step_eq HT1.out)
          have HFA := Lib.hid (HFR.out.trans (HFK.out.trans (HF2.out.trans HF3.out)))
          clear CN HF2 HF3 HO2 HRK HFK c2 k21 k22 HT1 e0 e1 e2
          go_roundg (nf - (j + 1))
          case measure => rw [J3.out]; omega
          case rel => exact ⟨j + 1, _, _, hj, rfl, by go_num, HO3.out, HT2.out, HFA.out⟩
        · obtain rfl : nf = j := by omega
          have hT := HT.out
          rw [EF.out, HR1.out] at hT
          have HT := Lib.hid hT
          clear hT
          go_wp2
          go_roundg (nk - (i + 1))
          case measure => rw [J2.out]; omega
          case rel => exact ⟨i + 1, _, _, hi, rfl, by go_num, HOUT.out, HT.out, HFR.out⟩
    · obtain rfl : nk = i := by omega
      have hT := HT.out
      rw [EK.out] at hT
      have HT0 := Lib.hid hT
      have HT1 := Lib.hid (step_eq hT)
      have HT2 := Lib.hid (step_eq HT1.out)
      have HT3 := Lib.hid (step_eq HT2.out)
      have hl0 := LEN.out _ _ HT0.out
      have hl1 := LEN.out _ _ HT1.out
      have hl2 := LEN.out _ _ HT2.out
      have hl3 := LEN.out _ _ HT3.out
      have c0 := HOUT.out.cell
      have r1 := cell_of_row _ _ 1 _ _ _ HROWN.out
      have r2 := cell_of_row _ _ 2 _ _ _ HROWN.out
      have ZGr := Lib.hid (ZG.out.below hbW)
      clear hT HT HT0

      have HBOX := Lib.hid HOUT.out.box
      have hne : ∀ b, wr.heap.size ≤ b → some b ≠ u.ownBlock := fun b hb e => by have := (HOUT.out.own b e.symm).2.1; omega
      have HNE := Lib.hid hne
      have hlb : L.length + 1 + ng ≤ TL := by have := hl2; rw [List.length_append, List.length_append, ← NG.out] at this; simpa using this
      clear hne
      go_wp2_with fail
      refine wp_region_facts_r rfl 8 (by kernel_rfl) (FrY X X) (FrY.drew _ _ _) (fun _ _ _ h h2 => h.trans h2) (RI X X 5 u.ownBlock) RI.sub (F_r16 X W.heap.size ng cg ag u L) (F_r16_mono X W.heap.size ng cg ag u L) 5 (fun w => w.ownsRow X 3 1 u L.length (vints .i64 L)) (HOUT.out.row).drew (fun i a b hi h ho => own_below ho (h.1 hi)) ?_ ?_
      · refine ⟨?_, ?_, ?_, ?_, ?_, ?_, ?_, ?_, trivial⟩
        · intro vs w' F hb hd hF hl hT hq
          have e := (hF 3).trans (look_out _ 3 _ _ (by kernel_rfl))
          exact one_load _ _ rfl rfl _ _ e (cell_of_row _ _ 0 _ _ _ (hb.box _ HBOX.out)) (by kernel_rfl) ⟨_, rfl, RI.same _ _ _ _ _ _, rfl⟩
        · intro vs w' F hb hd hF hl hT hq
          have e := (hF 1).trans (look_out _ 1 _ _ (by kernel_rfl))
          exact one_field _ _ _ rfl rfl _ _ e (1) (fun w => by kernel_rfl) ⟨_, rfl, RI.same _ _ _ _ _ _, rfl⟩
        · intro vs w' F hb hd hF hl hT hq
          have e := ((hF 58).trans (look_at _ 58 1 _ _ (by kernel_rfl) (by kernel_rfl) hl)).trans (dep_of (Fact := F_r16 X W.heap.size ng cg ag u L) hd 1 (by kernel_rfl))
          exact one_load _ _ rfl rfl _ _ e (cell_of_row _ _ 1 _ _ _ (hb.fr.low hNB HROWN.out)) (by kernel_rfl) ⟨_, rfl, RI.same _ _ _ _ _ _, rfl⟩
        · intro vs w' F hb hd hF hl hT hq
          have e := ((hF 59).trans (look_at _ 59 2 _ _ (by kernel_rfl) (by kernel_rfl) hl)).trans (dep_of (Fact := F_r16 X W.heap.size ng cg ag u L) hd 2 (by kernel_rfl))
          exact rg_len _ 23 3 rfl rfl Tryd.underlying23 ag (ng) (cg) e ⟨_, rfl, RI.same _ _ _ _ _ _, rfl⟩
        · intro vs w' F hb hd hF hl hT hq
          have hbB : X ≤ w'.heap.size := Nat.le_trans hble hb.fr.bel.size
          have ex := (((hF 60).trans (look_at _ 60 3 _ _ (by kernel_rfl) (by kernel_rfl) hl)).trans (dep_of (Fact := F_r16 X W.heap.size ng cg ag u L) hd 3 (by kernel_rfl)))
          exact rg_slice1 23 3 _ rfl rfl (ng : Int) ex Tryd.underlying23 (by kernel_rfl) ⟨_, rfl, RI.below (by decide) hbB ((Below.refl _ _).alloc (Nat.le_refl _) _), _, rfl, new_ints1 _ _, HNE.out _ hb.fr.bel.size⟩
        · intro vs w' F hb hd hF hl hT hq
          have hbB : X ≤ w'.heap.size := Nat.le_trans hble hb.fr.bel.size
          obtain ⟨b, e4, h4, hne⟩ := (dep_of (Fact := F_r16 X W.heap.size ng cg ag u L) hd 4 (by kernel_rfl))
          have g0 := (((hF 57).trans (look_at _ 57 0 _ _ (by kernel_rfl) (by kernel_rfl) hl)).trans (dep_of (Fact := F_r16 X W.heap.size ng cg ag u L) hd 0 (by kernel_rfl)))
          have g4 := ((hF 61).trans (look_at _ 61 4 _ _ (by kernel_rfl) (by kernel_rfl) hl)).trans e4
          have hbox := hb.box _ HBOX.out
          have hown := hq rfl
          refine wpList_append_ints rfl _ _ 23 rfl X 3 .i64 8 Tryd.underlying23 (by kernel_rfl) u L.length L g0 hown (some ⟨b, 0, none⟩) 1 1 [(ng : Int)] g4 rfl h4 (by unfold maxLen; omega) (by omega) hbB ?_
          intro v2 w2 hown2 hg2 hor2
          exact ⟨_, rfl, RI.at_ rfl hg2 (own_frY hbB hbox hown hg2), v2, rfl, hown2⟩
        · intro vs w' F hb hd hF hl hT hq
          have e := (hF 1).trans (look_out _ 1 _ _ (by kernel_rfl))
          exact one_field _ _ _ rfl rfl _ _ e (1) (fun w => by kernel_rfl) ⟨_, rfl, RI.same _ _ _ _ _ _, rfl⟩
        · intro vs w' F hb hd hF hl hT hq
          have e := ((hF 63).trans (look_at _ 63 6 _ _ (by kernel_rfl) (by kernel_rfl) hl)).trans (dep_of (Fact := F_r16 X W.heap.size ng cg ag u L) hd 6 (by kernel_rfl))
          exact one_load _ _ rfl rfl _ _ e (cell_of_row _ _ 1 _ _ _ (hb.fr.low hNB HROWN.out)) (by kernel_rfl) ⟨_, rfl, RI.same _ _ _ _ _ _, rfl⟩
      · intro vs8 W8 hl hb hI
        obtain ⟨u5, hv5, hown5⟩ := hI 5 (by omega)
        have hv7 : vs8.getD 7 undef = .slice ag ng cg := hI 7 (by omega)
        obtain ⟨x0, x1, x2, x3, x4, x5, x6, x7, x8, x9, hvs⟩ := list10m hl
        subst hvs
        replace hv5 : x5 = u5 := hv5
        replace hv7 : x7 = .slice ag ng cg := hv7
        subst hv5 hv7
        have hbox8 := hb.box _ HBOX.out
        have hbW8 := hbW.trans (hb.fr.bel.mono (Nat.le_of_lt hNB))
        have HBOX8 := Lib.hid hbox8
        have HOWN8 := Lib.hid (show W8.ownsRow X 3 1 x5 (L ++ [(ng : Int)]).length (vints .i64 (L ++ [(ng : Int)])) by rw [List.length_append]; exact hown5)
        have ZG8 := Lib.hid (ZG.out.below hbW8)
        have HF8 := Lib.hid hb.fr
        have HROWN8 := Lib.hid (hb.fr.low hNB HROWN.out)
        have HBW8 := Lib.hid hbW8
        clear hI hl hb hbox8 hbW8 hown5 HNE c0 r1 r2
        simp only [fillAll, Act.put, List.setIfInBounds_toArray, List.set_cons_succ, List.set_cons_zero, List.drop_succ_cons, List.drop_zero]
        go_wp2_with (first
          | (at_builtin; (refine wpList_out2 rfl _ _ rfl rfl _ _ rfl X X u x5 (L ++ [(ng : Int)]) rfl (Nat.le_refl _) HBOX8.out HOWN8.out ag ng cg y.gens rfl NG.out.symm ZG8.out (by rw [List.length_append]; simp; omega) (fun u => rfl) (fun u => rfl) ?_); intro v6 w6 hout hfr; have HO6 := Lib.hid hout; have HF6 := Lib.hid hfr; have HF5 := Lib.hid (FrX.refl X X w6); have HROWN6 := Lib.hid (hfr.low hNB HROWN8.out); have HBW6 := Lib.hid (HBW8.out.trans (hfr.bel.mono (Nat.le_of_lt hNB))); have c6 := hout.cell; have r16 := cell_of_row _ _ 1 _ _ _ HROWN6.out; have r26 := cell_of_row _ _ 2 _ _ _ HROWN6.out; clear hout hfr)
          | (at_builtin; (refine wpList_out rfl _ _ rfl rfl _ _ rfl X X v6 (L ++ [(ng : Int)] ++ y.gens) rfl (HO6.out.below ((Below.refl _ _).alloc (Nat.le_refl _) _)) (some ⟨w6.heap.size, 0, none⟩) 1 1 [(ni : Int)] rfl rfl (new_ints1 w6 (ni : Int)) (by omega) (fun u => rfl) (fun u => rfl) ?_); intro v7 w7 hout hfr; have HO7 := Lib.hid hout; have HF7 := Lib.hid ((FrX.of_below HO6.out.ble ((Below.refl w6.heap.size w6).alloc (Nat.le_refl _) (.cells #[.int .i64 (ni : Int)] 3))).trans hfr); have hbW7 := HBW6.out.trans (HF7.out.bel.mono (Nat.le_of_lt hNB)); have row7 := HF7.out.low hNB HROWN6.out; have c7 := hout.cell; have r17 := cell_of_row _ _ 1 _ _ _ row7; have r27 := cell_of_row _ _ 2 _ _ _ row7; have ZG7 := Lib.hid (ZG.out.below hbW7); have HROWN7 := Lib.hid row7; have HBW7 := Lib.hid hbW7; clear hbW7 row7; clear hout hfr))
        have HFB := Lib.hid (HFR.out.trans (HF8.out.trans (HF6.out.trans HF7.out)))
        have hT3 : (L ++ [(ng : Int)] ++ y.gens ++ [(ni : Int)]) ++ (FI 0 ++ []) = TOT := by rw [List.append_nil]; exact HT3.out
        clear HF5 HF6 HF7 HF8 HO6 c6 r16 r26 ZGr ZG8 ZG7 HT1 HT2 HT3 HROWN HROWN6 HROWN8 HBW HBW6 HBW8 hl0 hl1 hl2 HOUT HFR HBOX HBOX8 HOWN8
        go_loopg [75, 10, 94, 12] ni (fun gk v1 _ _ _ wx => ∃ (i : Nat) (u : Value) (L : List Int), i ≤ ni ∧ gk = ni - i ∧ v1 = .int .i64 i ∧ OutV wx X X u L ∧ L ++ (FI i ++ []) = TOT ∧ FrX X X W0 wx)
        case atStart => exact ⟨0, _, _, Nat.zero_le _, rfl, rfl, HO7.out, hT3, HFB.out⟩
        case round =>
          clear HO7 hT3 HFB hl3 c7 r17 r27 HROWN7 HBW7
          obtain ⟨i, u, L, j1, j2, rfl, hout, hT, hfr⟩ := hrel
          have J2 := Lib.hid j2
          have HOUT := Lib.hid hout
          have HFR := Lib.hid hfr
          have HT := Lib.hid hT
          have hbW : Below W.heap.size W wr := HB0.out.trans (hfr.bel.mono (Nat.le_of_lt hNB))
          have HBW := Lib.hid hbW
          have hble := hout.ble
          have c0 := hout.cell
          clear j2 hout hfr hT
          by_cases hi : i < ni
          · obtain ⟨x, rfl, _, _⟩ := ZI.out (by rw [← NI.out]; omega)
            obtain ⟨ib, io, rfl, ac, cc, hclW, hcoW⟩ := item_cells ZI.out i (by rw [← NI.out]; exact hi)
            have hcl := hclW.below hbW
            have hsz := HI.out _ (List.getElem_mem (by rw [← NI.out]; exact hi) : y.items[i]'(by rw [← NI.out]; exact hi) ∈ y.items)
            have hT := HT.out
            rw [DI.out i (by rw [← NI.out]; exact hi)] at hT
            obtain ⟨it, hit⟩ : ∃ it, it = y.items[i]'(by rw [← NI.out]; exact hi) := ⟨_, rfl⟩
            rw [← hit] at hcl hcoW hsz hT
            unfold itemI at hT
            obtain ⟨q1, q2⟩ := hsz
            obtain ⟨FC, hFC⟩ : ∃ F : Nat → List Int, F = fun j => ((it.comps.drop j).map compI).flatten := ⟨_, rfl⟩
            have df : ∀ j (h : j < it.comps.length) R, FC j ++ R = compI it.comps[j] ++ (FC (j + 1) ++ R) := fun j h R => by rw [hFC]; exact drop_flat compI it.comps j h R
            have ef : ∀ R, FC it.comps.length ++ R = R := fun R => by rw [hFC]; exact drop_end compI it.comps R
            rw [show (it.comps.map compI).flatten = FC 0 from by rw [hFC]; rfl, List.append_assoc] at hT
            obtain ⟨nc, hnc⟩ : ∃ nc, nc = it.comps.length := ⟨_, rfl⟩
            obtain ⟨kn, hkn⟩ : ∃ kn, kn = it.n := ⟨_, rfl⟩
            obtain ⟨kg, hkg⟩ : ∃ kg, kg = it.gen := ⟨_, rfl⟩
            rw [← hnc] at hcl hT ef q1
            rw [← hkn, ← hkg] at hcl hT
            have e0 := hcl.at 0 (by simp)
            have e1 := hcl.at 1 (by simp)
            have e2 := hcl.at 2 (by simp)
            simp only [List.getElem_cons_zero, List.getElem_cons_succ, Nat.add_zero] at e0 e1 e2
            have hrk := heap_alloc_new wr (.cells #[.int .i64 kn, .int .i64 kg, .slice ac nc cc] 47 (0, 0))
            have hbk : Below wr.heap.size wr (wr.alloc (.cells #[.int .i64 kn, .int .i64 kg, .slice ac nc cc] 47 (0, 0))) := (Below.refl _ _).alloc (Nat.le_refl _) _
            obtain ⟨WA, hWA⟩ : ∃ WA, WA = wr.alloc (.cells #[.int .i64 kn, .int .i64 kg, .slice ac nc cc] 47 (0, 0)) := ⟨_, rfl⟩
            have HT1 := Lib.hid (step_eq hT)
            have hLl := LEN.out _ _ HT.out
            have hL1 := LEN.out _ _ HT1.out
            have HRK := Lib.hid hrk
            have HOA := Lib.hid (HOUT.out.below hbk)
            have cA := (HOUT.out.below hbk).cell
            have HFA0 := Lib.hid (FrX.of_below (X := X) hble hbk)
            have DF := Lib.hid df
            have EF := Lib.hid ef
            have Q2 := Lib.hid q2
            have NC := Lib.hid hnc
            have HCO := Lib.hid hcoW
            have hKX : wr.heap.size ≠ X := by have := HOUT.out.lt; omega
            clear hcl hclW hcoW hit hT hFC df ef hnc hkn hkg hrk hbk hWA WA q2
            go_wp2_with (at_builtin; go_must (refine wpList_out rfl _ _ rfl rfl _ _ rfl X X u L rfl (HOA.out.below ((Below.refl _ _).alloc (Nat.le_refl _) _)) (some ⟨wr.heap.size + 1, 0, none⟩) 3 3 [kn, kg, (nc : Int)] rfl rfl (by have h := new_ints3 (wr.alloc (.cells #[.int .i64 kn, .int .i64 kg, .slice ac nc cc] 47 (0, 0))) kn kg (nc : Int); rw [World.size_alloc] at h; exact h) (by omega) (fun u => rfl) (fun u => rfl) ?_); intro v3 w3 hout hfr; have HO3 := Lib.hid hout; have HF3 := Lib.hid ((FrX.of_below HOA.out.ble ((Below.refl (wr.alloc (.cells #[.int .i64 kn, .int .i64 kg, .slice ac nc cc] 47 (0, 0))).heap.size (wr.alloc (.cells #[.int .i64 kn, .int .i64 kg, .slice ac nc cc] 47 (0, 0)))).alloc (Nat.le_refl _) (.cells #[.int .i64 kn, .int .i64 kg, .int .i64 (nc : Int)] 3))).trans hfr); have rk3 := hfr.far _ _ _ _ (heap_keep HRK.out _) (by decide) hKX; have k32 := cell_of_row _ _ 2 _ _ _ rk3; clear rk3; clear hout hfr)
            have HFB := Lib.hid (HFR.out.trans (HFA0.out.trans HF3.out))
            clear HFA0 HF3 HOA HRK c0 cA e0 e1 e2
            obtain ⟨R1, hR1⟩ : ∃ R1, R1 = FI (i + 1) ++ [] := ⟨_, rfl⟩
            rw [← hR1] at HT1
            have HR1 := Lib.hid hR1
            clear hR1
            go_loopg [94, 12] nc (fun gk v1 _ wx => ∃ (j : Nat) (u : Value) (L : List Int), j ≤ nc ∧ gk = nc - j ∧ v1 = .int .i64 j ∧ OutV wx X X u L ∧ L ++ (FC j ++ R1) = TOT ∧ FrX X X W0 wx)
            case atStart => exact ⟨0, _, _, Nat.zero_le _, rfl, rfl, HO3.out, HT1.out, HFB.out⟩
            case round =>
              clear HO3 HT1 HFB k32
              obtain ⟨j, u, L, l1, l2, rfl, hout, hT, hfr⟩ := hrel
              have J3 := Lib.hid l2
              have HOUT := Lib.hid hout
              have HFR := Lib.hid hfr
              have HT := Lib.hid hT
              have hbW : Below W.heap.size W wr := HB0.out.trans (hfr.bel.mono (Nat.le_of_lt hNB))
              have hble := hout.ble
              have c0 := hout.cell
              have hLl := LEN.out _ _ hT
              clear l2 hout hfr hT
              by_cases hj : j < nc
              · obtain ⟨x, rfl, _, _⟩ := HCO.out (by rw [← NC.out]; omega)
                obtain ⟨cb, co, rfl, av, cv, hclW, hvW⟩ := comp_cells HCO.out j (by rw [← NC.out]; exact hj)
                have hcl := hclW.below hbW
                have hT := HT.out
                rw [DF.out j (by rw [← NC.out]; exact hj)] at hT
                have hsz := Q2.out _ (List.getElem_mem (by rw [← NC.out]; exact hj) : it.comps[j]'(by rw [← NC.out]; exact hj) ∈ it.comps)
                obtain ⟨cm, hcm⟩ : ∃ cm, cm = it.comps[j]'(by rw [← NC.out]; exact hj) := ⟨_, rfl⟩
                rw [← hcm] at hcl hvW hsz hT
                unfold compI at hT
                rw [List.append_assoc] at hT
                obtain ⟨nv, hnv⟩ : ∃ nv, nv = cm.vals.length := ⟨_, rfl⟩
                obtain ⟨kq, hkq⟩ : ∃ kq, kq = cm.kind := ⟨_, rfl⟩
                rw [← hnv] at hcl hsz hT
                rw [← hkq] at hcl hT
                have e0 := hcl.at 0 (by simp)
                have e1 := hcl.at 1 (by simp)
                simp only [List.getElem_cons_zero, List.getElem_cons_succ, Nat.add_zero] at e0 e1
                have hrk := heap_alloc_new wr (.cells #[.int .i64 kq, .slice av nv cv] 51 (0, 0))
                have hbk : Below wr.heap.size wr (wr.alloc (.cells #[.int .i64 kq, .slice av nv cv] 51 (0, 0))) := (Below.refl _ _).alloc (Nat.le_refl _) _
                have HT1 := Lib.hid (step_eq hT)
                have HT2 := Lib.hid (step_eq HT1.out)
                have hL2 := LEN.out _ _ HT2.out
                have HRK := Lib.hid hrk
                have HOA := Lib.hid (HOUT.out.below hbk)
                have cA := (HOUT.out.below hbk).cell
                have HFA0 := Lib.hid (FrX.of_below (X := X) hble hbk)
                have HVW := Lib.hid hvW
                have NV := Lib.hid hnv
                have hKX : wr.heap.size ≠ X := by have := HOUT.out.lt; omega
                rw [List.length_append, ← NV.out] at hL2
                have hL2' : L.length + 2 + nv ≤ TL := by simpa using hL2
                clear hcl hclW hvW hcm hT hnv hkq hrk hbk hL2
                have HBOX := Lib.hid HOA.out.box
                have hne : ∀ b, (wr.alloc (.cells #[.int .i64 kq, .slice av nv cv] 51 (0, 0))).heap.size ≤ b → some b ≠ u.ownBlock := fun b hb e => by have := (HOA.out.own b e.symm).2.1; omega
                have HNE := Lib.hid hne
                have hbA : X ≤ (wr.alloc (.cells #[.int .i64 kq, .slice av nv cv] 51 (0, 0))).heap.size := HOA.out.ble
                clear hne
                go_wp2_with fail
                refine wp_region_facts_r rfl 10 (by kernel_rfl) (FrY X X) (FrY.drew _ _ _) (fun _ _ _ h h2 => h.trans h2) (RI X X 7 u.ownBlock) RI.sub (F_r25 X wr.heap.size nv cv kq av u L) (F_r25_mono X wr.heap.size nv cv kq av u L) 7 (fun w => w.ownsRow X 3 1 u L.length (vints .i64 L)) (HOA.out.row).drew (fun i a b hi h ho => own_below ho (h.1 hi)) ?_ ?_
                · refine ⟨?_, ?_, ?_, ?_, ?_, ?_, ?_, ?_, ?_, ?_, trivial⟩
                  · intro vs w' F hb hd hF hl hT hq
                    have e := (hF 3).trans (look_out _ 3 _ _ (by kernel_rfl))
                    exact one_load _ _ rfl rfl _ _ e (cell_of_row _ _ 0 _ _ _ (hb.box _ HBOX.out)) (by kernel_rfl) ⟨_, rfl, RI.same _ _ _ _ _ _, rfl⟩
                  · intro vs w' F hb hd hF hl hT hq
                    have e := (hF 12).trans (look_out _ 12 _ _ (by kernel_rfl))
                    exact one_field _ _ _ rfl rfl _ _ e (0) (fun w => by kernel_rfl) ⟨_, rfl, RI.same _ _ _ _ _ _, rfl⟩
                  · intro vs w' F hb hd hF hl hT hq
                    have e := ((hF 99).trans (look_at _ 99 1 _ _ (by kernel_rfl) (by kernel_rfl) hl)).trans (dep_of (Fact := F_r25 X wr.heap.size nv cv kq av u L) hd 1 (by kernel_rfl))
                    exact one_load _ _ rfl rfl _ _ e (cell_of_row _ _ 0 _ _ _ (hb.fr.far _ _ _ _ HRK.out (by decide) hKX)) (by kernel_rfl) ⟨_, rfl, RI.same _ _ _ _ _ _, rfl⟩
                  · intro vs w' F hb hd hF hl hT hq
                    have e := (hF 12).trans (look_out _ 12 _ _ (by kernel_rfl))
                    exact one_field _ _ _ rfl rfl _ _ e (1) (fun w => by kernel_rfl) ⟨_, rfl, RI.same _ _ _ _ _ _, rfl⟩
                  · intro vs w' F hb hd hF hl hT hq
                    have e := ((hF 101).trans (look_at _ 101 3 _ _ (by kernel_rfl) (by kernel_rfl) hl)).trans (dep_of (Fact := F_r25 X wr.heap.size nv cv kq av u L) hd 3 (by kernel_rfl))
                    exact one_load _ _ rfl rfl _ _ e (cell_of_row _ _ 1 _ _ _ (hb.fr.far _ _ _ _ HRK.out (by decide) hKX)) (by kernel_rfl) ⟨_, rfl, RI.same _ _ _ _ _ _, rfl⟩
                  · intro vs w' F hb hd hF hl hT hq
                    have e := ((hF 102).trans (look_at _ 102 4 _ _ (by kernel_rfl) (by kernel_rfl) hl)).trans (dep_of (Fact := F_r25 X wr.heap.size nv cv kq av u L) hd 4 (by kernel_rfl))
                    exact rg_len _ 23 3 rfl rfl Tryd.underlying23 av (nv) (cv) e ⟨_, rfl, RI.same _ _ _ _ _ _, rfl⟩
                  · intro vs w' F hb hd hF hl hT hq
                    have hbB : X ≤ w'.heap.size := Nat.le_trans hbA hb.fr.bel.size
                    have ex := (((hF 100).trans (look_at _ 100 2 _ _ (by kernel_rfl) (by kernel_rfl) hl)).trans (dep_of (Fact := F_r25 X wr.heap.size nv cv kq av u L) hd 2 (by kernel_rfl)))
                    have ey := (((hF 103).trans (look_at _ 103 5 _ _ (by kernel_rfl) (by kernel_rfl) hl)).trans (dep_of (Fact := F_r25 X wr.heap.size nv cv kq av u L) hd 5 (by kernel_rfl)))
                    exact rg_slice2 23 3 _ _ rfl rfl kq (nv : Int) ex ey Tryd.underlying23 (by kernel_rfl) ⟨_, rfl, RI.below (by decide) hbB ((Below.refl _ _).alloc (Nat.le_refl _) _), _, rfl, new_ints2 _ _ _, HNE.out _ hb.fr.bel.size⟩
                  · intro vs w' F hb hd hF hl hT hq
                    have hbB : X ≤ w'.heap.size := Nat.le_trans hbA hb.fr.bel.size
                    obtain ⟨b, e4, h4, hne⟩ := (dep_of (Fact := F_r25 X wr.heap.size nv cv kq av u L) hd 6 (by kernel_rfl))
                    have g0 := (((hF 98).trans (look_at _ 98 0 _ _ (by kernel_rfl) (by kernel_rfl) hl)).trans (dep_of (Fact := F_r25 X wr.heap.size nv cv kq av u L) hd 0 (by kernel_rfl)))
                    have g4 := ((hF 104).trans (look_at _ 104 6 _ _ (by kernel_rfl) (by kernel_rfl) hl)).trans e4
                    have hbox := hb.box _ HBOX.out
                    have hown := hq rfl
                    refine wpList_append_ints rfl _ _ 23 rfl X 3 .i64 8 Tryd.underlying23 (by kernel_rfl) u L.length L g0 hown (some ⟨b, 0, none⟩) 2 2 [kq, (nv : Int)] g4 rfl h4 (by unfold maxLen; omega) (by omega) hbB ?_
                    intro v2 w2 hown2 hg2 hor2
                    exact ⟨_, rfl, RI.at_ rfl hg2 (own_frY hbB hbox hown hg2), v2, rfl, hown2⟩
                  · intro vs w' F hb hd hF hl hT hq
                    have e := (hF 12).trans (look_out _ 12 _ _ (by kernel_rfl))
                    exact one_field _ _ _ rfl rfl _ _ e (1) (fun w => by kernel_rfl) ⟨_, rfl, RI.same _ _ _ _ _ _, rfl⟩
                  · intro vs w' F hb hd hF hl hT hq
                    have e := ((hF 106).trans (look_at _ 106 8 _ _ (by kernel_rfl) (by kernel_rfl) hl)).trans (dep_of (Fact := F_r25 X wr.heap.size nv cv kq av u L) hd 8 (by kernel_rfl))
                    exact one_load _ _ rfl rfl _ _ e (cell_of_row _ _ 1 _ _ _ (hb.fr.far _ _ _ _ HRK.out (by decide) hKX)) (by kernel_rfl) ⟨_, rfl, RI.same _ _ _ _ _ _, rfl⟩
                · intro vs8 W8 hl hb hI
                  obtain ⟨u5, hv5, hown5⟩ := hI 7 (by omega)
                  have hv7 : vs8.getD 9 undef = .slice av nv cv := hI 9 (by omega)
                  obtain ⟨x0, x1, x2, x3, x4, x5, x6, x7, x8, x9, x10, x11, hvs⟩ := list12m hl
                  subst hvs
                  replace hv5 : x7 = u5 := hv5
                  replace hv7 : x9 = .slice av nv cv := hv7
                  subst hv5 hv7
                  have hbox8 := hb.box _ HBOX.out
                  have hbW8 := hbW.trans ((HFA0.out.trans hb.fr).bel.mono (Nat.le_of_lt hNB))
                  have HBOX8 := Lib.hid hbox8
                  have HOWN8 := Lib.hid (show W8.ownsRow X 3 1 x7 (L ++ [kq, (nv : Int)]).length (vints .i64 (L ++ [kq, (nv : Int)])) by rw [List.length_append]; exact hown5)
                  have ZV8 := Lib.hid (HVW.out.below hbW8)
                  have HF8 := Lib.hid hb.fr
                  clear hI hl hb hbox8 hbW8 hown5 HNE c0 cA e0 e1
                  simp only [fillAll, Act.put, List.setIfInBounds_toArray, List.set_cons_succ, List.set_cons_zero, List.drop_succ_cons, List.drop_zero]
                  go_wp2_with (at_builtin; go_must (refine wpList_out2 rfl _ _ rfl rfl _ _ rfl X X u x7 (L ++ [kq, (nv : Int)]) rfl (Nat.le_refl _) HBOX8.out HOWN8.out av nv cv cm.vals rfl NV.out.symm ZV8.out (by rw [List.length_append]; simp; omega) (fun u => rfl) (fun u => rfl) ?_); intro v4 w4 hout hfr; have HO4 := Lib.hid hout; have HF4 := Lib.hid hfr; clear hout hfr)
                  have HFB := Lib.hid (HFR.out.trans (HFA0.out.trans (HF8.out.trans HF4.out)))
                  clear HF4 HF8 HFA0 HOA HRK HT1 HBOX HBOX8 HOWN8 ZV8
                  go_roundg (nc - (j + 1))
                  case measure => rw [J3.out]; omega
                  case rel => exact ⟨j + 1, _, _, hj, rfl, by go_num, HO4.out, HT2.out, HFB.out⟩
              · obtain rfl : nc = j := by omega
                have hT := HT.out
                rw [EF.out, HR1.out] at hT
                have HT := Lib.hid hT
                clear hT
                go_wp2
                go_roundg (ni - (i + 1))
                case measure => rw [J2.out]; omega
                case rel => exact ⟨i + 1, _, _, hi, rfl, by go_num, HOUT.out, HT.out, HFR.out⟩
          · obtain rfl : ni = i := by omega
            have hT := HT.out
            rw [EI.out, List.append_nil] at hT
            have HT := Lib.hid hT
            clear hT
            go_wp2
            go_ret
            obtain ⟨a9, c9, hu, hin⟩ := HOUT.out.ints
            rw [HT.out] at hu hin
            exact ⟨⟨a9, c9, by rw [hu]; rfl, hin⟩, HBW.out⟩
end Go.Proofs.YtfckbkhnelgjbaaDoor
end
