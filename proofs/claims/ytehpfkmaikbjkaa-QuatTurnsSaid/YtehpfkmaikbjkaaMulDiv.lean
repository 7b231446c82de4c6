/- fix: MulDiv, Mul, Div; the reference's Product. -/
import Derived.Test.YtehpfkmaikbjkaaDiv
import Derived.Test.YtehpfkmaikbjkaaThrough
namespace Go.Proofs.Ytehpfkmaikbjkaa
open Go.ChangeShapes Go.WideShapes Go.ChangeAt Go.RowKit Go.Mem
set_option linter.unusedVariables false

theorem rnd_eq (A B C : Int) (n3 : C ≠ 0) : rnd (A * B) C = if negAt 3 A B C then (-(2 * ((A.natAbs : Int) * B.natAbs)) + C.natAbs) / (2 * C.natAbs) else (2 * ((A.natAbs : Int) * B.natAbs) + C.natAbs) / (2 * C.natAbs) := by
  unfold rnd negAt
  simp only [show ¬ (3 < 1) by omega, show ¬ (3 < 2) by omega, show ¬ (3 < 3) by omega, if_false]
  have hp := prod_abs A B
  generalize (A.natAbs : Int) * B.natAbs = K at *
  generalize decide (B < 0) = b at *
  rcases hp with ⟨e1, e2⟩ | ⟨e1, e2⟩ <;> rw [e1] <;> rw [e2] <;> by_cases c : 0 < C
  · rw [if_pos c, show (C.natAbs : Int) = C by omega, decide_eq_false (show ¬ C < 0 by omega), show (b ^^ (b ^^ false)) = false by cases b <;> rfl]; rfl
  · rw [if_neg c, show (C.natAbs : Int) = -C by omega, decide_eq_true (show C < 0 by omega), show (b ^^ (b ^^ true)) = true by cases b <;> rfl, if_pos rfl]
    congr 1 <;> omega
  · rw [if_pos c, show (C.natAbs : Int) = C by omega, decide_eq_false (show ¬ C < 0 by omega), show (!b ^^ (b ^^ false)) = true by cases b <;> rfl, if_pos rfl]
    congr 1 <;> omega
  · rw [if_neg c, show (C.natAbs : Int) = -C by omega, decide_eq_true (show C < 0 by omega), show (!b ^^ (b ^^ true)) = false by cases b <;> rfl]
    show _ = (2 * K + -C) / (2 * -C)
    congr 1 <;> omega
/-- The quotient rounded, by the quotient and the remainder. -/
theorem up_pos (N D : Nat) (hD : 0 < D) : (2 * (N : Int) + D) / (2 * D) = if D ≤ 2 * (N % D) then ((N / D : Nat) : Int) + 1 else ((N / D : Nat) : Int) := by
  have e := Nat.div_add_mod N D
  have l := Nat.mod_lt N hD
  rw [Nat.mul_comm] at e
  obtain ⟨q, hq⟩ : ∃ q, q = N / D := ⟨_, rfl⟩
  obtain ⟨r, hr⟩ : ∃ r, r = N % D := ⟨_, rfl⟩
  rw [← hq, ← hr] at e ⊢
  rw [← hr] at l
  have e' : (N : Int) = q * D + r := by rw [← Int.natCast_mul]; omega
  have n1 : (q : Int) * (2 * D) = 2 * (q * D) := by rw [Int.mul_left_comm]
  have n2 : ((q : Int) + 1) * (2 * D) = 2 * (q * D) + 2 * D := by rw [Int.add_mul, n1, Int.one_mul]
  have n3 : ((q : Int) + 1 + 1) * (2 * D) = 2 * (q * D) + 2 * D + 2 * D := by rw [Int.add_mul, n2, Int.one_mul]
  split
  · refine Int.le_antisymm (Int.le_of_lt_add_one ?_) ?_
    · rw [Int.ediv_lt_iff_lt_mul (by omega)]; omega
    · rw [Int.le_ediv_iff_mul_le (by omega)]; omega
  · refine Int.le_antisymm (Int.le_of_lt_add_one ?_) ?_
    · rw [Int.ediv_lt_iff_lt_mul (by omega)]; omega
    · rw [Int.le_ediv_iff_mul_le (by omega)]; omega
theorem up_neg (N D : Nat) (hD : 0 < D) : (-(2 * (N : Int)) + D) / (2 * D) = -(if D < 2 * (N % D) then ((N / D : Nat) : Int) + 1 else ((N / D : Nat) : Int)) := by
  have e := Nat.div_add_mod N D
  have l := Nat.mod_lt N hD
  rw [Nat.mul_comm] at e
  obtain ⟨q, hq⟩ : ∃ q, q = N / D := ⟨_, rfl⟩
  obtain ⟨r, hr⟩ : ∃ r, r = N % D := ⟨_, rfl⟩
  rw [← hq, ← hr] at e ⊢
  rw [← hr] at l
  have e' : (N : Int) = q * D + r := by rw [← Int.natCast_mul]; omega
  have n1 : (q : Int) * (2 * D) = 2 * (q * D) := by rw [Int.mul_left_comm]
  have n2 : (-(q : Int)) * (2 * D) = -(2 * (q * D)) := by rw [Int.neg_mul, n1]
  have n3 : (-(q : Int) + 1) * (2 * D) = -(2 * (q * D)) + 2 * D := by rw [Int.add_mul, n2, Int.one_mul]
  have n4 : (-((q : Int) + 1)) * (2 * D) = -(2 * (q * D)) - 2 * D := by rw [Int.neg_mul, Int.add_mul, n1, Int.one_mul]; omega
  split
  · refine Int.le_antisymm (Int.le_of_lt_add_one ?_) ?_
    · rw [show -((q : Int) + 1) + 1 = -q by omega, Int.ediv_lt_iff_lt_mul (by omega)]; omega
    · rw [Int.le_ediv_iff_mul_le (by omega)]; omega
  · refine Int.le_antisymm (Int.le_of_lt_add_one ?_) ?_
    · rw [Int.ediv_lt_iff_lt_mul (by omega)]; omega
    · rw [Int.le_ediv_iff_mul_le (by omega)]; omega

/-- What MulDiv computes with. -/
structure MDFacts (A B C : Int) (NA NB D hi lo q rem : Nat) : Prop where
  dp : 0 < D
  dl : D ≤ 1099511627776
  hilo : hi * 18446744073709551616 + lo = NA * NB
  lol : lo < 18446744073709551616
  qE : q = NA * NB / D
  rE : rem = NA * NB % D
  rl : rem < D
  big : D ≤ hi → 1099511627776 < q
  eD : D = C.natAbs
  eA : NA = A.natAbs
  eB : NB = B.natAbs
  val : C ≠ 0 → lim (rnd (A * B) C) = if negAt 3 A B C then lim (-(if D < 2 * rem then (q : Int) + 1 else q)) else lim (if D ≤ 2 * rem then (q : Int) + 1 else q)
/-- What the answer is, by the sign and the rounding. -/
structure Ans (s : Bool) (R : Int) (D q rem : Nat) : Prop where
  bigT : 1099511627776 < q → s = true → -1099511627776 = R
  bigF : 1099511627776 < q → s = false → 1099511627776 = R
  upT : s = true → D < 2 * rem → lim (-((q : Int) + 1)) = R
  noT : s = true → ¬ D < 2 * rem → lim (-(q : Int)) = R
  upF : s = false → D ≤ 2 * rem → lim ((q : Int) + 1) = R
  noF : s = false → ¬ D ≤ 2 * rem → lim (q : Int) = R
theorem ans_of {s : Bool} {R : Int} {D q rem : Nat} (h : R = if s then lim (-(if D < 2 * rem then (q : Int) + 1 else q)) else lim (if D ≤ 2 * rem then (q : Int) + 1 else q)) : Ans s R D q rem := by
  subst h
  refine ⟨?_, ?_, ?_, ?_, ?_, ?_⟩
  · rintro hq rfl; rw [if_pos rfl]; unfold lim; split <;> omega
  · rintro hq rfl; rw [if_neg (by decide)]; unfold lim; split <;> omega
  · rintro rfl hd; rw [if_pos rfl, if_pos hd]
  · rintro rfl hd; rw [if_pos rfl, if_neg hd]
  · rintro rfl hd; rw [if_neg (by decide), if_pos hd]
  · rintro rfl hd; rw [if_neg (by decide), if_neg hd]
theorem md_facts (A B C : Int) (hA : -1099511627776 ≤ A ∧ A ≤ 1099511627776) (hB : -1099511627776 ≤ B ∧ B ≤ 1099511627776) (hC : -1099511627776 ≤ C ∧ C ≤ 1099511627776) (n3 : C ≠ 0) : ∃ NA NB D hi lo q rem, MDFacts A B C NA NB D hi lo q rem ∧ hi = NA * NB / 18446744073709551616 ∧ lo = NA * NB % 18446744073709551616 := by
  have hD : 0 < C.natAbs := by omega
  refine ⟨A.natAbs, B.natAbs, C.natAbs, A.natAbs * B.natAbs / 18446744073709551616, A.natAbs * B.natAbs % 18446744073709551616, A.natAbs * B.natAbs / C.natAbs, A.natAbs * B.natAbs % C.natAbs, ⟨hD, by omega, by omega, by omega, rfl, rfl, Nat.mod_lt _ hD, ?_, rfl, rfl, rfl, ?_⟩, rfl, rfl⟩
  · intro h
    have : 18446744073709551616 ≤ A.natAbs * B.natAbs / C.natAbs := by
      rw [Nat.le_div_iff_mul_le hD]; omega
    omega
  · intro _
    rw [rnd_eq A B C n3]
    have e : (A.natAbs : Int) * B.natAbs = ((A.natAbs * B.natAbs : Nat) : Int) := (Int.natCast_mul _ _).symm
    rw [e, up_pos _ _ hD, up_neg _ _ hD]
    cases negAt 3 A B C <;> rfl

set_option maxHeartbeats 4000000 in
set_option maxRecDepth 100000 in
theorem fix_MulDiv_raw (a b c A B C R : Int) (sa sb sc : Bool) (hA : lim a = A) (hB : lim b = B) (hC : lim c = C) (w : World) (n3 : C ≠ 0) (ha : decide (A < 0) = sa) (hb : decide (B < 0) = sb) (hc : decide (C < 0) = sc) (hR : lim (rnd (A * B) C) = R) :
    Calls Try.prog 45 #[.int .i64 a, .int .i64 b, .int .i64 c] w fun e w' => e = .returned (.int .i64 R) ∧ Below w.heap.size w w' := by
  have bA := lim_bd a
  have bB := lim_bd b
  have bC := lim_bd c
  rw [hA] at bA; rw [hB] at bB; rw [hC] at bC
  obtain ⟨NA, NB, D, hi, lo, q, rem, F, ehi, elo⟩ := md_facts A B C bA bB bC n3
  have hval := F.val n3
  have hs : negAt 3 A B C = (sa ^^ (sb ^^ sc)) := by
    simp only [negAt, ha, hb, hc, show ¬ (3 < 1) by omega, show ¬ (3 < 2) by omega, show ¬ (3 < 3) by omega, if_false]
  rw [hR, hs] at hval
  have kA : ∀ w, Calls Try.prog 39 #[.int .i64 a] w fun e w' => e = .returned (.int .i64 A) ∧ w = w' := fun w => by rw [← hA]; exact fix_Clamp a w
  have kB : ∀ w, Calls Try.prog 39 #[.int .i64 b] w fun e w' => e = .returned (.int .i64 B) ∧ w = w' := fun w => by rw [← hB]; exact fix_Clamp b w
  have kC : ∀ w, Calls Try.prog 39 #[.int .i64 c] w fun e w' => e = .returned (.int .i64 C) ∧ w = w' := fun w => by rw [← hC]; exact fix_Clamp c w
  have mA : ∀ w, Calls Try.prog 86 #[.int .i64 A] w fun e w' => e = .returned (.int .u64 NA) ∧ w = w' := fun w => by rw [F.eA]; exact fix_mag A bA.1 bA.2 w
  have mB : ∀ w, Calls Try.prog 86 #[.int .i64 B] w fun e w' => e = .returned (.int .u64 NB) ∧ w = w' := fun w => by rw [F.eB]; exact fix_mag B bB.1 bB.2 w
  have mC : ∀ w, Calls Try.prog 86 #[.int .i64 C] w fun e w' => e = .returned (.int .u64 D) ∧ w = w' := fun w => by rw [F.eD]; exact fix_mag C bC.1 bC.2 w
  have mM : ∀ w, Calls Try.prog 20 #[.int .u64 NA, .int .u64 NB] w fun e w' => e = .returned (.tuple #[.int .u64 hi, .int .u64 lo]) ∧ w = w' := fun w => by
    rw [ehi, elo]; exact bits_Mul64 NA NB (by rw [F.eA]; omega) (by rw [F.eB]; omega) w
  have mD : hi < D → ∀ w, Calls Try.prog 87 #[.int .u64 hi, .int .u64 lo, .int .u64 D] w fun e w' => e = .returned (.tuple #[.int .u64 q, .int .u64 rem]) ∧ Below w.heap.size w w' := fun h w => by
    have := bits_Div64 hi lo D F.dp (by have := F.dl; omega) h F.lol w
    rw [F.hilo] at this
    rw [F.qE, F.rE]; exact this
  have KA := Lib.hid kA
  have KB := Lib.hid kB
  have KC := Lib.hid kC
  have MA := Lib.hid mA
  have MB := Lib.hid mB
  have MC := Lib.hid mC
  have MM := Lib.hid mM
  have MD := Lib.hid mD
  have HV := Lib.hid (ans_of hval)
  have dp := F.dp
  have dl := F.dl
  have rl := F.rl
  have big := F.big
  have nz : (C == 0) = false := by simp [n3]
  clear kA kB kC mA mB mC mM mD hA hB hC hR hs hval ehi elo F n3
  have hB0 := Below.refl w.heap.size w
  go_enter Try.func45, Try.ntmps45
  by_cases hb1 : D ≤ hi
  · have t1 : decide ((D : Int) ≤ hi) = true := decide_eq_true (by omega)
    have BG := Lib.hid (big hb1)
    clear big MD
    cases sa <;> cases sb <;> cases sc
    all_goals
      go_wp2_with (first
        | (go_at_call 39; first | ((with_reducible refine (KA.out _).mono ?_); rintro e w1 ⟨rfl, rfl⟩) | ((with_reducible refine (KB.out _).mono ?_); rintro e w1 ⟨rfl, rfl⟩) | ((with_reducible refine (KC.out _).mono ?_); rintro e w1 ⟨rfl, rfl⟩) | (refine (fix_Clamp _ _).mono ?_; rintro e w1 ⟨rfl, rfl⟩))
        | (go_at_call 86; first | ((with_reducible refine (MA.out _).mono ?_); rintro e w1 ⟨rfl, rfl⟩) | ((with_reducible refine (MB.out _).mono ?_); rintro e w1 ⟨rfl, rfl⟩) | ((with_reducible refine (MC.out _).mono ?_); rintro e w1 ⟨rfl, rfl⟩))
        | (go_at_call 20; refine (MM.out _).mono ?_; rintro e w1 ⟨rfl, rfl⟩)
        | (go_at_call 87; refine (MD.out _).mono ?_; rintro e w1 ⟨rfl, hB0⟩))
      go_ret
      exact ⟨ret_i (by first | exact HV.out.bigT BG.out rfl | exact HV.out.bigF BG.out rfl), by assumption⟩
  · have t1 : decide ((D : Int) ≤ hi) = false := decide_eq_false (by omega)
    replace MD := Lib.hid (MD.out (by omega))
    by_cases hq : 1099511627776 < q
    · have t2 : decide ((1099511627776 : Int) < q) = true := decide_eq_true (by omega)
      have t3 : decide ((D : Int) ≤ 0) = false := decide_eq_false (by omega)
      have t4 : decide ((D : Int) < 0) = false := decide_eq_false (by omega)
      have e1 : IntKind.u64.wrap (D : Int) = D := Mul64.wrapN _ (by omega)
      cases sa <;> cases sb <;> cases sc
      all_goals
        go_wp2_with (first
        | (go_at_call 39; first | ((with_reducible refine (KA.out _).mono ?_); rintro e w1 ⟨rfl, rfl⟩) | ((with_reducible refine (KB.out _).mono ?_); rintro e w1 ⟨rfl, rfl⟩) | ((with_reducible refine (KC.out _).mono ?_); rintro e w1 ⟨rfl, rfl⟩) | (refine (fix_Clamp _ _).mono ?_; rintro e w1 ⟨rfl, rfl⟩))
        | (go_at_call 86; first | ((with_reducible refine (MA.out _).mono ?_); rintro e w1 ⟨rfl, rfl⟩) | ((with_reducible refine (MB.out _).mono ?_); rintro e w1 ⟨rfl, rfl⟩) | ((with_reducible refine (MC.out _).mono ?_); rintro e w1 ⟨rfl, rfl⟩))
        | (go_at_call 20; refine (MM.out _).mono ?_; rintro e w1 ⟨rfl, rfl⟩)
        | (go_at_call 87; refine (MD.out _).mono ?_; rintro e w1 ⟨rfl, hB0⟩))
        go_ret
        exact ⟨ret_i (by first | exact HV.out.bigT hq rfl | exact HV.out.bigF hq rfl), by assumption⟩
    · have t2 : decide ((1099511627776 : Int) < q) = false := decide_eq_false (by omega)
      have e2 : IntKind.i64.wrap (q : Int) = q := IntWalk.i64_in _ (by omega)
      have e3 : IntKind.i64.wrap ((q : Int) + 1) = q + 1 := IntWalk.i64_in _ (by omega)
      by_cases u1 : D ≤ 2 * rem
      · have t3 : decide ((D : Int) - rem ≤ rem) = true := decide_eq_true (by omega)
        by_cases u2 : D < 2 * rem
        · have t4 : decide ((D : Int) - rem < rem) = true := decide_eq_true (by omega)
          cases sa <;> cases sb <;> cases sc
          all_goals
            go_wp2_with (first
        | (go_at_call 39; first | ((with_reducible refine (KA.out _).mono ?_); rintro e w1 ⟨rfl, rfl⟩) | ((with_reducible refine (KB.out _).mono ?_); rintro e w1 ⟨rfl, rfl⟩) | ((with_reducible refine (KC.out _).mono ?_); rintro e w1 ⟨rfl, rfl⟩) | (refine (fix_Clamp _ _).mono ?_; rintro e w1 ⟨rfl, rfl⟩))
        | (go_at_call 86; first | ((with_reducible refine (MA.out _).mono ?_); rintro e w1 ⟨rfl, rfl⟩) | ((with_reducible refine (MB.out _).mono ?_); rintro e w1 ⟨rfl, rfl⟩) | ((with_reducible refine (MC.out _).mono ?_); rintro e w1 ⟨rfl, rfl⟩))
        | (go_at_call 20; refine (MM.out _).mono ?_; rintro e w1 ⟨rfl, rfl⟩)
        | (go_at_call 87; refine (MD.out _).mono ?_; rintro e w1 ⟨rfl, hB0⟩))
            go_ret
            exact ⟨ret_i (by first | (have g := HV.out.upT rfl u2; exact g) | (have g := HV.out.upF rfl u1; exact g)), by assumption⟩
        · have t4 : decide ((D : Int) - rem < rem) = false := decide_eq_false (by omega)
          cases sa <;> cases sb <;> cases sc
          all_goals
            go_wp2_with (first
        | (go_at_call 39; first | ((with_reducible refine (KA.out _).mono ?_); rintro e w1 ⟨rfl, rfl⟩) | ((with_reducible refine (KB.out _).mono ?_); rintro e w1 ⟨rfl, rfl⟩) | ((with_reducible refine (KC.out _).mono ?_); rintro e w1 ⟨rfl, rfl⟩) | (refine (fix_Clamp _ _).mono ?_; rintro e w1 ⟨rfl, rfl⟩))
        | (go_at_call 86; first | ((with_reducible refine (MA.out _).mono ?_); rintro e w1 ⟨rfl, rfl⟩) | ((with_reducible refine (MB.out _).mono ?_); rintro e w1 ⟨rfl, rfl⟩) | ((with_reducible refine (MC.out _).mono ?_); rintro e w1 ⟨rfl, rfl⟩))
        | (go_at_call 20; refine (MM.out _).mono ?_; rintro e w1 ⟨rfl, rfl⟩)
        | (go_at_call 87; refine (MD.out _).mono ?_; rintro e w1 ⟨rfl, hB0⟩))
            go_ret
            exact ⟨ret_i (by first | (have g := HV.out.noT rfl u2; exact g) | (have g := HV.out.upF rfl u1; exact g)), by assumption⟩
      · have t3 : decide ((D : Int) - rem ≤ rem) = false := decide_eq_false (by omega)
        have u2 : ¬ D < 2 * rem := by omega
        have t4 : decide ((D : Int) - rem < rem) = false := decide_eq_false (by omega)
        cases sa <;> cases sb <;> cases sc
        all_goals
          go_wp2_with (first
        | (go_at_call 39; first | ((with_reducible refine (KA.out _).mono ?_); rintro e w1 ⟨rfl, rfl⟩) | ((with_reducible refine (KB.out _).mono ?_); rintro e w1 ⟨rfl, rfl⟩) | ((with_reducible refine (KC.out _).mono ?_); rintro e w1 ⟨rfl, rfl⟩) | (refine (fix_Clamp _ _).mono ?_; rintro e w1 ⟨rfl, rfl⟩))
        | (go_at_call 86; first | ((with_reducible refine (MA.out _).mono ?_); rintro e w1 ⟨rfl, rfl⟩) | ((with_reducible refine (MB.out _).mono ?_); rintro e w1 ⟨rfl, rfl⟩) | ((with_reducible refine (MC.out _).mono ?_); rintro e w1 ⟨rfl, rfl⟩))
        | (go_at_call 20; refine (MM.out _).mono ?_; rintro e w1 ⟨rfl, rfl⟩)
        | (go_at_call 87; refine (MD.out _).mono ?_; rintro e w1 ⟨rfl, hB0⟩))
          go_ret
          exact ⟨ret_i (by first | (have g := HV.out.noT rfl u2; exact g) | (have g := HV.out.noF rfl u1; exact g)), by assumption⟩

theorem fix_MulDiv (a b c : Int) (w : World) : Calls Try.prog 45 #[.int .i64 a, .int .i64 b, .int .i64 c] w fun e w' => e = .returned (.int .i64 (thr a b c)) ∧ Below w.heap.size w w' := by
  by_cases n3 : lim c = 0
  · have kC : ∀ w, Calls Try.prog 39 #[.int .i64 c] w fun e w' => e = .returned (.int .i64 0) ∧ w = w' := fun w => by rw [← n3]; exact fix_Clamp c w
    have KC := Lib.hid kC
    have hz : thr a b c = 0 := by unfold thr; rw [if_pos n3]
    clear kC
    go_enter Try.func45, Try.ntmps45
    go_wp2_with (go_at_call 39; first | ((with_reducible refine (KC.out _).mono ?_); rintro e w1 ⟨rfl, rfl⟩) | (refine (fix_Clamp _ _).mono ?_; rintro e w1 ⟨rfl, rfl⟩))
    go_ret
    exact ⟨ret_i hz.symm, Below.refl _ _⟩
  · have hz : thr a b c = lim (rnd (lim a * lim b) (lim c)) := by unfold thr; rw [if_neg n3]
    rw [hz]
    exact fix_MulDiv_raw a b c _ _ _ _ _ _ _ rfl rfl rfl w n3 rfl rfl rfl rfl

theorem fix_Mul (a b : Int) (w : World) : Calls Try.prog 36 #[.int .i64 a, .int .i64 b] w fun e w' => e = .returned (.int .i64 (thr a b 65536)) ∧ Below w.heap.size w w' := by
  go_enter Try.func36, Try.ntmps36
  go_wp2_with (go_at_call 45; refine (fix_MulDiv _ _ _ _).mono ?_; rintro e w1 ⟨rfl, hB⟩)
  go_ret
  exact ⟨rfl, hB⟩
theorem ref_Product (a b : Int) (w : World) : Calls Try.prog 44 #[.int .i64 a, .int .i64 b] w fun e w' => e = .returned (.int .i64 (thr a b 65536)) ∧ Below w.heap.size w w' := by
  go_enter Try.func44, Try.ntmps44
  go_wp2_with (go_at_call 38; refine (ref_Through _ _ _ _).mono ?_; rintro e w1 ⟨rfl, hB⟩)
  go_ret
  exact ⟨rfl, hB⟩
theorem fix_Div (a b : Int) (w : World) : Calls Try.prog 37 #[.int .i64 a, .int .i64 b] w fun e w' => e = .returned (.tuple #[.int .i64 (if b = 0 then 0 else thr a 65536 b), .int .i64 (if b = 0 then 17 else 0)]) ∧ Below w.heap.size w w' := by
  have hB := Below.refl w.heap.size w
  by_cases z : b = 0
  · have nz : (b == 0) = true := by simp [z]
    rw [if_pos z, if_pos z]
    clear z
    go_enter Try.func37, Try.ntmps37
    go_wp2_with fail
    go_ret2
    exact ⟨rfl, hB⟩
  · have nz : (b == 0) = false := by simp [z]
    rw [if_neg z, if_neg z]
    clear z
    go_enter Try.func37, Try.ntmps37
    go_wp2_with (go_at_call 45; refine (fix_MulDiv _ _ _ _).mono ?_; rintro e w1 ⟨rfl, hB⟩)
    go_ret2
    exact ⟨rfl, hB⟩
end Go.Proofs.Ytehpfkmaikbjkaa
