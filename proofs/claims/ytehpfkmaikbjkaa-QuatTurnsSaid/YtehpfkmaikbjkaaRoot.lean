/- Square roots: the program's and the reference's; the statement FixRoots' walk. -/
import Derived.Test.YtehpfkmaikbjkaaMost
import Derived.Test.YtehpfkmaikbjkaaNum
import Derived.Shelf.Abstract
namespace Go.Proofs.Ytehpfkmaikbjkaa
open Go.ChangeShapes Go.WideShapes Go.ChangeAt Go.RowKit Go.Mem

/-- The floor of the root. -/
def rt : Nat → Nat
  | 0 => 0
  | n + 1 => if (rt n + 1) * (rt n + 1) ≤ n + 1 then rt n + 1 else rt n
theorem rt_spec : ∀ n : Nat, rt n * rt n ≤ n ∧ n < (rt n + 1) * (rt n + 1)
  | 0 => by simp [rt]
  | n + 1 => by
    obtain ⟨h1, h2⟩ := rt_spec n
    unfold rt
    split
    · rename_i h
      refine ⟨h, ?_⟩
      have e : (rt n + 1 + 1) * (rt n + 1 + 1) = (rt n + 1) * (rt n + 1) + 2 * (rt n + 1) + 1 := by
        rw [Nat.add_mul, Nat.mul_add, Nat.mul_add]; omega
      omega
    · rename_i h
      exact ⟨by omega, by omega⟩
theorem sq_lt {a b : Nat} (h : a * a < b * b) : a < b := by
  rcases Nat.lt_or_ge a b with h' | h'
  · exact h'
  · have := Nat.mul_le_mul h' h'; omega
theorem rt_unique (n r : Nat) (h1 : r * r ≤ n) (h2 : n < (r + 1) * (r + 1)) : r = rt n := by
  obtain ⟨h3, h4⟩ := rt_spec n
  have a := sq_lt (Nat.lt_of_le_of_lt h1 h4)
  have b := sq_lt (Nat.lt_of_le_of_lt h3 h2)
  omega

/-- 'h < hi || h == hi && l <= lo' on the words of two numbers. -/
theorem words_le (hi lo X : Nat) (hlo : lo < 18446744073709551616) :
    ((X / 18446744073709551616 < hi) ∨ (X / 18446744073709551616 = hi ∧ X % 18446744073709551616 ≤ lo)) ↔ X ≤ hi * 18446744073709551616 + lo := by omega

theorem or_bit (o j : Nat) (h : o % 2 ^ (j + 1) = 0) : o ||| 2 ^ j = o + 2 ^ j := by
  have hk : o = (o / 2 ^ (j + 1)) * 2 ^ (j + 1) := by
    have := Nat.div_add_mod o (2 ^ (j + 1)); rw [h, Nat.mul_comm] at this; omega
  have e := Nat.two_pow_add_eq_or_of_lt (i := j + 1) (b := 2 ^ j) (Nat.pow_lt_pow_right (by omega) (by omega)) (o / 2 ^ (j + 1))
  rw [Nat.mul_comm, ← hk] at e
  exact e.symm


theorem mod_half (o j : Nat) (h : o % 2 ^ (j + 1) = 0) : o % 2 ^ j = 0 ∧ (o + 2 ^ j) % 2 ^ j = 0 := by
  obtain ⟨k, hk⟩ := Nat.dvd_of_mod_eq_zero h
  have e : o = 2 ^ j * (2 * k) := by rw [hk, Nat.pow_succ, Nat.mul_assoc]
  rw [e]
  exact ⟨Nat.mul_mod_right _ _, by rw [Nat.add_mod_right]; exact Nat.mul_mod_right _ _⟩

set_option maxHeartbeats 1000000 in
theorem fix_Root (hi lo : Nat) (hhi : hi < 18446744073709551616) (hlo : lo < 18446744073709551616) (w : World) :
    Calls Try.prog 19 #[.int .u64 hi, .int .u64 lo] w fun e w' => ∃ r : Nat, e = .returned (.int .u64 r) ∧ r * r ≤ hi * 18446744073709551616 + lo ∧ hi * 18446744073709551616 + lo < (r + 1) * (r + 1) ∧ r < 18446744073709551616 ∧ w = w' := by
  have hN : hi * 18446744073709551616 + lo < 18446744073709551616 * 18446744073709551616 := by omega
  obtain ⟨N, hNe⟩ : ∃ N, N = hi * 18446744073709551616 + lo := ⟨_, rfl⟩
  have HN := Lib.hid hNe
  rw [← hNe] at hN ⊢
  have HN2 := Lib.hid hN
  clear hNe hN
  go_enter Try.func19, Try.ntmps19
  go_wp2
  go_loop [5, 6, 7, 8, 9] (fun out b _ _ _ => ∃ j o : Nat, j ≤ 64 ∧ b = .int .u64 ((2 ^ j / 2 : Nat) : Int) ∧ out = .int .u64 (o : Int) ∧ o % 2 ^ j = 0 ∧ o * o ≤ N ∧ N < (o + 2 ^ j) * (o + 2 ^ j) ∧ o + 2 ^ j ≤ 18446744073709551616)
    (fun _ b _ _ _ => (intOf b).toNat)
  case atStart => exact ⟨64, 0, by omega, rfl, rfl, by simp, by simp, by simpa using HN2.out, by simp⟩
  case round =>
    obtain ⟨j, o, hj, rfl, rfl, hmod, hle, hgt, htop⟩ := hrel
    cases j with
    | zero =>
      have HL := Lib.hid hle
      have HG := Lib.hid hgt
      clear hle hgt hmod
      go_wp2
      go_ret
      exact ⟨o, rfl, HL.out, HG.out, by omega, rfl⟩
    | succ j =>
      have hs : 2 ^ (j + 1) / 2 = 2 ^ j := by rw [Nat.pow_succ]; omega
      have hs1 : 0 < 2 ^ j := Nat.two_pow_pos j
      have hor0 := or_bit o j hmod
      have hmods := mod_half o j hmod
      rw [Nat.pow_succ] at hgt htop
      rw [hs]
      clear hs hmod
      obtain ⟨s, hsj⟩ : ∃ s, s = 2 ^ j := ⟨_, rfl⟩
      rw [← hsj] at hgt htop hs1 hor0 hmods ⊢
      obtain ⟨x, hx⟩ : ∃ x, x = o + s := ⟨_, rfl⟩
      have hor : bits .or .u64 (o : Int) (s : Int) = (x : Int) := by rw [bits_or_u64_nat o s (by omega) (by omega), hor0, hx]
      have hxlt : x < 18446744073709551616 := by omega
      obtain ⟨H, hH⟩ : ∃ H, H = x * x / 18446744073709551616 := ⟨_, rfl⟩
      obtain ⟨L, hL⟩ : ∃ L, L = x * x % 18446744073709551616 := ⟨_, rfl⟩
      have hiff := words_le hi lo (x * x) hlo
      rw [← hH, ← hL, ← HN.out] at hiff
      have hLlt : L < 18446744073709551616 := by omega
      have hHlt : H < 18446744073709551616 := by
        have : x * x < 18446744073709551616 * 18446744073709551616 := Nat.mul_lt_mul'' hxlt hxlt
        omega
      have HS := Lib.hid hsj
      have HX := Lib.hid hx
      have HL := Lib.hid hle
      have HG := Lib.hid hgt
      have HM := Lib.hid hmods
      have HI := Lib.hid hiff
      have HH := Lib.hid hH
      have HLL := Lib.hid hL
      have HLT := Lib.hid hxlt
      clear hsj hx hle hgt hmods hiff hor0 hH hL hxlt
      have hyes : x * x ≤ N → ∃ j o : Nat, j ≤ 64 ∧ Value.int .u64 ((s / 2 : Nat) : Int) = .int .u64 ((2 ^ j / 2 : Nat) : Int) ∧ Value.int .u64 (x : Int) = .int .u64 (o : Int) ∧ o % 2 ^ j = 0 ∧ o * o ≤ N ∧ N < (o + 2 ^ j) * (o + 2 ^ j) ∧ o + 2 ^ j ≤ 18446744073709551616 := by
        intro h
        refine ⟨j, x, by omega, by rw [HS.out], rfl, ?_, h, ?_, ?_⟩
        · rw [HX.out, ← HS.out]; exact HM.out.2
        · rw [← HS.out, HX.out, show o + s + s = o + s * 2 by omega]; exact HG.out
        · rw [← HS.out, HX.out]; omega
      have hno : ¬ x * x ≤ N → ∃ j q : Nat, j ≤ 64 ∧ Value.int .u64 ((s / 2 : Nat) : Int) = .int .u64 ((2 ^ j / 2 : Nat) : Int) ∧ Value.int .u64 (o : Int) = .int .u64 (q : Int) ∧ q % 2 ^ j = 0 ∧ q * q ≤ N ∧ N < (q + 2 ^ j) * (q + 2 ^ j) ∧ q + 2 ^ j ≤ 18446744073709551616 := by
        intro h
        refine ⟨j, o, by omega, by rw [HS.out], rfl, ?_, HL.out, ?_, ?_⟩
        · rw [← HS.out]; exact HM.out.1
        · rw [← HS.out, ← HX.out]; omega
        · rw [← HS.out]; omega
      have HY := Lib.hid hyes
      have HNO := Lib.hid hno
      clear hyes hno
      by_cases c1 : H < hi
      · have c1' : ((H : Int) < (hi : Int)) := by omega
        go_wp2_with (go_at_call 20; refine (bits_Mul64 x x HLT.out HLT.out _).mono ?_; rintro e w' ⟨rfl, rfl⟩; rw [← HH.out, ← HLL.out])
        go_round
        case rel => exact HY.out (HI.out.1 (Or.inl c1))
        case measure => simp [intOf]; omega
      by_cases c2 : H = hi
      · have c2' : ((H : Int) == (hi : Int)) = true := by simp [c2]
        have C2 := Lib.hid c2
        clear c2
        by_cases c3 : L ≤ lo
        · go_wp2_with (go_at_call 20; refine (bits_Mul64 x x HLT.out HLT.out _).mono ?_; rintro e w' ⟨rfl, rfl⟩; rw [← HH.out, ← HLL.out])
          go_round
          case rel => exact HY.out (HI.out.1 (Or.inr ⟨C2.out, c3⟩))
          case measure => simp [intOf]; omega
        · go_wp2_with (go_at_call 20; refine (bits_Mul64 x x HLT.out HLT.out _).mono ?_; rintro e w' ⟨rfl, rfl⟩; rw [← HH.out, ← HLL.out])
          go_round
          case rel => exact HNO.out (fun h => by rcases HI.out.2 h with h' | h' <;> omega)
          case measure => simp [intOf]; omega
      · have c2' : ((H : Int) == (hi : Int)) = false := by simp; omega
        have C2 := Lib.hid c2
        clear c2
        go_wp2_with (go_at_call 20; refine (bits_Mul64 x x HLT.out HLT.out _).mono ?_; rintro e w' ⟨rfl, rfl⟩; rw [← HH.out, ← HLL.out])
        go_round
        case rel => exact HNO.out (fun h => by rcases HI.out.2 h with h' | h'; omega; exact C2.out h'.1)
        case measure => simp [intOf]; omega

/-- The same over integers. -/
theorem fix_RootI (hi lo : Int) (h0 : 0 ≤ hi) (h1 : hi < 18446744073709551616) (l0 : 0 ≤ lo) (l1 : lo < 18446744073709551616) (w : World) :
    Calls Try.prog 19 #[.int .u64 hi, .int .u64 lo] w fun e w' => e = .returned (.int .u64 (rt (hi * 18446744073709551616 + lo).toNat : Nat)) ∧ w = w' := by
  obtain ⟨hi, rfl⟩ := Int.eq_ofNat_of_zero_le h0
  obtain ⟨lo, rfl⟩ := Int.eq_ofNat_of_zero_le l0
  refine (fix_Root hi lo (by omega) (by omega) w).mono ?_
  rintro e w' ⟨r, rfl, h1, h2, _, rfl⟩
  have e : ((hi : Int) * 18446744073709551616 + (lo : Int)).toNat = hi * 18446744073709551616 + lo := by omega
  rw [e, ← rt_unique _ r h1 h2]
  exact ⟨rfl, rfl⟩

theorem rt_lt {n b : Nat} (h : n < b * b) : rt n < b := sq_lt (Nat.lt_of_le_of_lt (rt_spec n).1 h)

/-- The floor of the root of a number, in units; 0 for a number that is not positive. -/
def sqrtS (a : Int) : Int := rt ((lim a).toNat * 65536)
theorem sqrtS_bd (a : Int) : 0 ≤ sqrtS a ∧ sqrtS a ≤ 268435456 := by
  have h := lim_bd a
  have := rt_lt (n := (lim a).toNat * 65536) (b := 268435457) (by omega)
  unfold sqrtS; omega

theorem fix_Sqrt (a : Int) (w : World) : Calls Try.prog 18 #[.int .i64 a] w fun e w' => e = .returned (.int .i64 (sqrtS a)) ∧ w = w' := by
  have hb := lim_bd a
  by_cases c : lim a ≤ 0
  · have hs : sqrtS a = 0 := by unfold sqrtS; rw [show (lim a).toNat = 0 by omega]; rfl
    have HS := Lib.hid hs
    clear hs
    go_enter Try.func18, Try.ntmps18
    go_wp2_with (go_at_call 39; refine (fix_Clamp _ _).mono ?_; rintro e w' ⟨rfl, rfl⟩)
    go_ret
    exact ⟨ret_i HS.out.symm, rfl⟩
  · have hs : sqrtS a = ((rt (0 * 18446744073709551616 + lim a * 65536).toNat : Nat) : Int) := by unfold sqrtS; rw [show (0 * 18446744073709551616 + lim a * 65536).toNat = (lim a).toNat * 65536 by omega]
    have hbd := sqrtS_bd a
    rw [hs] at hbd
    have HS := Lib.hid hs
    have HB := Lib.hid hbd
    clear hs hbd
    go_enter Try.func18, Try.ntmps18
    go_wp2_with (first
      | (go_at_call 39; refine (fix_Clamp _ _).mono ?_; rintro e w' ⟨rfl, rfl⟩)
      | (go_at_call 19; refine (fix_RootI _ _ (by omega) (by omega) (by omega) (by omega) _).mono ?_; rintro e w' ⟨rfl, rfl⟩; rw [← HS.out]; have hq := sqrtS_bd a))
    go_ret
    exact ⟨rfl, rfl⟩

/-- The reference's test: a captured by a pointer. -/
theorem ref_Root1 (a n : Int) (B : Nat) (w : World) (hc : w.cell? ⟨B, 0, none⟩ = some (.int .i64 a)) (h0 : 0 ≤ n) (h1 : n ≤ 536870912) (b1 : -1099511627776 ≤ a) (b2 : a ≤ 1099511627776) :
    Calls Try.prog 68 #[.int .i64 n, .pointer (some ⟨B, 0, none⟩)] w fun e w' => e = .returned (.bool (decide (0 < a ∧ n * n ≤ a * 65536))) ∧ Below w.heap.size w w' := by
  have p1 : 0 ≤ n * n := Int.mul_nonneg h0 h0
  have p2 : n * n ≤ 536870912 * 536870912 := Int.mul_le_mul h1 h1 h0 (by omega)
  by_cases c : 0 < a
  · go_enter Try.func68, Try.ntmps68
    go_wp2
    go_ret
    exact ⟨ret_b (by simp [c]), Below.refl _ _⟩
  · go_enter Try.func68, Try.ntmps68
    go_wp2
    go_ret
    exact ⟨ret_b (by simp; omega), Below.refl _ _⟩

theorem ref_Root (a : Int) (w : World) : Calls Try.prog 22 #[.int .i64 a] w fun e w' => e = .returned (.int .i64 (sqrtS a)) ∧ Below w.heap.size w w' := by
  have hb := lim_bd a
  have he : ∀ args w, (callFunc 68 args).run Try.prog w = .ok (.enter 68 args) w  := enters_of Try.func68 (by kernel_rfl) rfl
  go_enter Try.func22, Try.ntmps22
  go_wp2_with (first
    | (go_at_call 27; refine (ref_Limit _ _).mono ?_; rintro e w' ⟨rfl, rfl⟩)
    | (go_at_call 67; refine (ref_most 68 #[.pointer (some ⟨w.heap.size, 0, none⟩)] (fun n => decide (0 < lim a ∧ n * n ≤ lim a * 65536)) 536870912 _ (by omega) (by omega) he ?hf).mono ?_))
  case hf =>
    intro n w1 h0 h1 hb1
    refine ref_Root1 (lim a) n w.heap.size w1 ?_ h0 h1 hb.1 hb.2
    rw [hb1.cell (by simp), World.cell?_alloc_at] <;> rfl
  rintro e w' ⟨r, rfl, h0, h1, hyes, hno, hb1⟩
  have hr : sqrtS a = r := by
    obtain ⟨r, rfl⟩ := Int.eq_ofNat_of_zero_le h0
    unfold sqrtS
    have q := rt_lt (n := (lim a).toNat * 65536) (b := 536870912) (by omega)
    have h2 : r * r ≤ (lim a).toNat * 65536 := by
      rcases hyes with h | h
      · have : r = 0 := by omega
        subst this; omega
      · simp only [decide_eq_true_eq] at h
        have := h.2; rw [← Int.natCast_mul] at this; omega
    obtain ⟨s1, s2⟩ := rt_spec ((lim a).toNat * 65536)
    have h3 : (lim a).toNat * 65536 < (r + 1) * (r + 1) := by
      rcases hno with h | h
      · have := sq_lt (Nat.lt_of_le_of_lt h2 s2); omega
      · simp only [decide_eq_false_iff_not] at h
        by_cases c : 0 < lim a
        · have e : ((r : Int) + 1) * ((r : Int) + 1) = (((r + 1) * (r + 1) : Nat) : Int) := by rw [Int.natCast_mul]; rfl
          rw [e] at h; omega
        · rw [show (lim a).toNat = 0 by omega]; simp
    rw [← rt_unique _ r h2 h3]
  have hbd := sqrtS_bd a
  rw [hr] at hbd
  have HR := Lib.hid hr
  have HB := Lib.hid (((Below.refl w.heap.size w).alloc (Nat.le_refl _) (.cells #[.int .i64 (lim a)] 3)).trans (hb1.mono (by simp)))
  clear hr hyes hno hb1
  go_wp2
  go_ret
  exact ⟨ret_i HR.out.symm, HB.out⟩

theorem law_FixRoots (a hi lo : Int) (h0 : 0 ≤ hi) (h1 : hi < 18446744073709551616) (l0 : 0 ≤ lo) (l1 : lo < 18446744073709551616) (w : World) :
    Calls Try.prog 5 #[.int .i64 a, .int .u64 hi, .int .u64 lo] w fun e w' => e = .returned (.bool true) ∧ Below w.heap.size w w' := by
  have e1 : sqrtS 262144 = 131072 := by
    unfold sqrtS
    rw [lim_id _ (by omega) (by omega), ← rt_unique _ 131072 (by decide) (by decide)]; rfl
  obtain ⟨r, hr⟩ : ∃ r : Nat, r = rt (hi * 18446744073709551616 + lo).toNat := ⟨_, rfl⟩
  obtain ⟨s1, s2⟩ := rt_spec (hi * 18446744073709551616 + lo).toNat
  rw [← hr] at s1 s2
  have hrlt : r < 18446744073709551616 := by rw [hr]; exact rt_lt (by omega)
  have e2 : (r + 1) * (r + 1) = r * r + 2 * r + 1 := by rw [Nat.add_mul, Nat.mul_add]; omega
  rw [e2] at s2
  have e3 : r * r ≤ 18446744073709551615 * r := Nat.mul_le_mul_right r (by omega)
  obtain ⟨X, hX⟩ : ∃ X, X = r * r := ⟨_, rfl⟩
  rw [← hX] at s1 s2 e3
  obtain ⟨H, hH⟩ : ∃ H, H = X / 18446744073709551616 := ⟨_, rfl⟩
  obtain ⟨L, hL⟩ : ∃ L, L = X % 18446744073709551616 := ⟨_, rfl⟩
  have hmul : ∀ w, Calls Try.prog 20 #[.int .u64 r, .int .u64 r] w fun e w' => e = .returned (.tuple #[.int .u64 H, .int .u64 L]) ∧ w = w' := by
    intro w; rw [hH, hL, hX]; exact bits_Mul64 r r hrlt hrlt w
  obtain ⟨n1, hn1⟩ : ∃ n : Nat, n = (L + r) % 18446744073709551616 := ⟨_, rfl⟩
  obtain ⟨c1, hc1⟩ : ∃ n : Nat, n = (L + r) / 18446744073709551616 := ⟨_, rfl⟩
  obtain ⟨m1, hm1⟩ : ∃ n : Nat, n = H + c1 := ⟨_, rfl⟩
  obtain ⟨n2, hn2⟩ : ∃ n : Nat, n = (n1 + r) % 18446744073709551616 := ⟨_, rfl⟩
  obtain ⟨c2, hc2⟩ : ∃ n : Nat, n = (n1 + r) / 18446744073709551616 := ⟨_, rfl⟩
  obtain ⟨m2, hm2⟩ : ∃ n : Nat, n = m1 + c2 := ⟨_, rfl⟩
  have A1 : ∀ w, (callFunc 21 #[.int .u64 L, .int .u64 r, .int .u64 0]).run Try.prog w = .ok (.value (.tuple #[.int .u64 n1, .int .u64 c1])) w := by
    intro w; rw [run_Add64_0 _ _ (by omega) (by omega), show ((L : Int) + r) % 18446744073709551616 = n1 by omega, show ((L : Int) + r) / 18446744073709551616 = c1 by omega]
  have A2 : ∀ w, (callFunc 21 #[.int .u64 H, .int .u64 0, .int .u64 c1]).run Try.prog w = .ok (.value (.tuple #[.int .u64 m1, .int .u64 0])) w := by
    intro w; rw [run_Add64 _ _ _ (by omega) (by omega) (by omega) (by omega), show ((H : Int) + 0 + c1) % 18446744073709551616 = m1 by omega, show ((H : Int) + 0 + c1) / 18446744073709551616 = 0 by omega]
  have A3 : ∀ w, (callFunc 21 #[.int .u64 n1, .int .u64 r, .int .u64 0]).run Try.prog w = .ok (.value (.tuple #[.int .u64 n2, .int .u64 c2])) w := by
    intro w; rw [run_Add64_0 _ _ (by omega) (by omega), show ((n1 : Int) + r) % 18446744073709551616 = n2 by omega, show ((n1 : Int) + r) / 18446744073709551616 = c2 by omega]
  have A4 : ∀ w, (callFunc 21 #[.int .u64 m1, .int .u64 0, .int .u64 c2]).run Try.prog w = .ok (.value (.tuple #[.int .u64 m2, .int .u64 0])) w := by
    intro w; rw [run_Add64 _ _ _ (by omega) (by omega) (by omega) (by omega), show ((m1 : Int) + 0 + c2) % 18446744073709551616 = m2 by omega, show ((m1 : Int) + 0 + c2) / 18446744073709551616 = 0 by omega]
  have low : (H : Int) < hi ∨ ((H : Int) = hi ∧ (L : Int) ≤ lo) := by omega
  have high : hi < (m2 : Int) ∨ ((m2 : Int) = hi ∧ lo ≤ (n2 : Int)) := by omega
  have HR := Lib.hid hr
  have E1 := Lib.hid e1
  have HM := Lib.hid hmul
  have b1 : n1 < 18446744073709551616 := by omega
  have b2 : L < 18446744073709551616 := by omega
  clear hr e1 hmul hm2 hc2 hn2 hm1 hc1 hn1 hL hH hX e3 e2 s1 s2
  have hB := Below.refl w.heap.size w
  have fin : ((H : Int) < hi ∨ ((H : Int) = hi ∧ (L : Int) ≤ lo)) → (hi < (m2 : Int) ∨ ((m2 : Int) = hi ∧ lo ≤ (n2 : Int))) → Calls Try.prog 5 #[.int .i64 a, .int .u64 hi, .int .u64 lo] w fun e w' => e = .returned (.bool true) ∧ Below w.heap.size w w' := by
    intro low high
    rcases low with g1 | ⟨g1, g2⟩
    · rcases high with g3 | ⟨g3, g4⟩
      · go_enter Try.func5, Try.ntmps5
        go_wp2_with (first
          | (go_at_call 18; refine (fix_Sqrt _ _).mono ?_; rintro e w' ⟨rfl, rfl⟩; try rw [E1.out])
          | (go_at_call 19; refine (fix_RootI _ _ h0 h1 l0 l1 _).mono ?_; rintro e w' ⟨rfl, rfl⟩; rw [← HR.out])
          | (go_at_call 20; refine (HM.out _).mono ?_; rintro e w' ⟨rfl, rfl⟩)
          | (go_at_call 22; refine (ref_Root _ _).mono ?_; rintro e w1 ⟨rfl, hb1⟩))
        go_ret
        exact ⟨rfl, by assumption⟩
      · have g5 : ((m2 : Int) == hi) = true := by rw [g3]; exact beq_self_eq_true _
        have g7 : ¬ hi < (m2 : Int) := by omega
        have G3 := Lib.hid g3
        clear g3
        go_enter Try.func5, Try.ntmps5
        go_wp2_with (first
          | (go_at_call 18; refine (fix_Sqrt _ _).mono ?_; rintro e w' ⟨rfl, rfl⟩; try rw [E1.out])
          | (go_at_call 19; refine (fix_RootI _ _ h0 h1 l0 l1 _).mono ?_; rintro e w' ⟨rfl, rfl⟩; rw [← HR.out])
          | (go_at_call 20; refine (HM.out _).mono ?_; rintro e w' ⟨rfl, rfl⟩)
          | (go_at_call 22; refine (ref_Root _ _).mono ?_; rintro e w1 ⟨rfl, hb1⟩))
        go_ret
        exact ⟨rfl, by assumption⟩
    · have g6 : ((H : Int) == hi) = true := by rw [g1]; exact beq_self_eq_true _
      have g8 : ¬ (H : Int) < hi := by omega
      have G1 := Lib.hid g1
      clear g1
      rcases high with g3 | ⟨g3, g4⟩
      · go_enter Try.func5, Try.ntmps5
        go_wp2_with (first
          | (go_at_call 18; refine (fix_Sqrt _ _).mono ?_; rintro e w' ⟨rfl, rfl⟩; try rw [E1.out])
          | (go_at_call 19; refine (fix_RootI _ _ h0 h1 l0 l1 _).mono ?_; rintro e w' ⟨rfl, rfl⟩; rw [← HR.out])
          | (go_at_call 20; refine (HM.out _).mono ?_; rintro e w' ⟨rfl, rfl⟩)
          | (go_at_call 22; refine (ref_Root _ _).mono ?_; rintro e w1 ⟨rfl, hb1⟩))
        go_ret
        exact ⟨rfl, by assumption⟩
      · have g5 : ((m2 : Int) == hi) = true := by rw [g3]; exact beq_self_eq_true _
        have g7 : ¬ hi < (m2 : Int) := by omega
        have G3 := Lib.hid g3
        clear g3
        go_enter Try.func5, Try.ntmps5
        go_wp2_with (first
          | (go_at_call 18; refine (fix_Sqrt _ _).mono ?_; rintro e w' ⟨rfl, rfl⟩; try rw [E1.out])
          | (go_at_call 19; refine (fix_RootI _ _ h0 h1 l0 l1 _).mono ?_; rintro e w' ⟨rfl, rfl⟩; rw [← HR.out])
          | (go_at_call 20; refine (HM.out _).mono ?_; rintro e w' ⟨rfl, rfl⟩)
          | (go_at_call 22; refine (ref_Root _ _).mono ?_; rintro e w1 ⟨rfl, hb1⟩))
        go_ret
        exact ⟨rfl, by assumption⟩
  exact fin (by omega) high
end Go.Proofs.Ytehpfkmaikbjkaa
