/- rnd.Below; the reference's Under. -/
import Derived.Test.YtdhaaeaacbnghaaRnd
import Derived.Test.YtdhaaeaacbnghaaOdd
import Derived.Test.YtdhaaeaacbnghaaW64
import Derived.Deep.LoopGhost
namespace Go.Proofs.Ytdhaaeaacbnghaa
open Go.ChangeShapes Go.WideShapes Go.ChangeAt Go.RowKit
set_option linter.unusedVariables false

/-- A number counts if the whole block of m numbers in which it lies is below 2^64. -/
def good (m x : Nat) : Prop := x - x % m + (m - 1) < 18446744073709551616
/-- What is left of 2^64. -/
def rest (m : Nat) : Nat := 18446744073709551616 % m
theorem good_iff (m x : Nat) (hm : 1 ≤ m) (hm2 : m < 18446744073709551616) (hx : x < 18446744073709551616) : good m x ↔ x ≤ 18446744073709551615 - rest m := by
  unfold good rest
  have e := Nat.div_add_mod x m
  have l := Nat.mod_lt x (show 0 < m by omega)
  have e2 := Nat.div_add_mod 18446744073709551616 m
  have l2 := Nat.mod_lt 18446744073709551616 (show 0 < m by omega)
  have s1 : x - x % m = m * (x / m) := by omega
  rw [s1]
  constructor
  · intro h
    have h1 : m * (x / m + 1) ≤ 18446744073709551616 := by rw [Nat.mul_add]; omega
    have h2 : x / m + 1 ≤ 18446744073709551616 / m := (Nat.le_div_iff_mul_le (by omega)).2 (by rw [Nat.mul_comm]; exact h1)
    have h3 : m * (x / m + 1) ≤ m * (18446744073709551616 / m) := Nat.mul_le_mul_left _ h2
    rw [Nat.mul_add] at h3
    omega
  · intro h
    have h1 : x < m * (18446744073709551616 / m) := by omega
    have h2 : x / m < 18446744073709551616 / m := (Nat.div_lt_iff_lt_mul (by omega)).2 (by rw [Nat.mul_comm]; exact h1)
    have h3 : m * (x / m + 1) ≤ m * (18446744073709551616 / m) := Nat.mul_le_mul_left _ h2
    rw [Nat.mul_add] at h3
    omega
theorem rest_calc (m : Nat) (hm : 1 ≤ m) (hm2 : m < 9223372036854775808) : (18446744073709551615 % m + 1) % m = rest m := by
  unfold rest
  have : 18446744073709551616 % m = (18446744073709551615 % m + 1) % m := by
    rw [Nat.mod_add_mod]
  omega
theorem good_zero (m : Nat) (hm2 : m < 18446744073709551616) : good m 0 := by unfold good; simp; omega
theorem least {p : Nat → Prop} : ∀ n k : Nat, k ≤ n → 1 ≤ k → p k → ∃ k, 1 ≤ k ∧ p k ∧ ∀ j, 1 ≤ j → j < k → ¬ p j
  | 0, k, h, h1, _ => by omega
  | n + 1, k, h, h1, hp => by
    by_cases q : ∃ j, 1 ≤ j ∧ j < k ∧ p j
    · obtain ⟨j, a, b, c⟩ := q
      exact least n j (by omega) a c
    · exact ⟨k, h1, hp, fun j a b c => q ⟨j, a, b, c⟩⟩
theorem first_good (m s g : Nat) (hm2 : m < 18446744073709551616) (hg : g % 2 = 1) : ∃ k, 1 ≤ k ∧ good m (mix (st s g k)) ∧ ∀ j, 1 ≤ j → j < k → ¬ good m (mix (st s g j)) := by
  obtain ⟨k, h1, _, h3⟩ := Odd.reach s g hg
  refine least k k (Nat.le_refl _) h1 ?_
  have : st s g k = 0 := h3
  rw [this, mix_zero]
  exact good_zero m hm2

theorem st_mod (s g k : Nat) : st s g (k % 18446744073709551616) = st s g k := by
  unfold st
  rw [Nat.add_mod s, Nat.mod_mul_mod, ← Nat.add_mod]

set_option maxHeartbeats 4000000 in
theorem ref_Under (s g m k0 : Nat) (hs : s < 18446744073709551616) (hg : g < 18446744073709551616) (hm : 1 ≤ m) (hm2 : m < 9223372036854775808) (h0 : 1 ≤ k0) (hk : good m (mix (st s g k0))) (hno : ∀ j, 1 ≤ j → j < k0 → ¬ good m (mix (st s g j))) (w : World) :
    Calls Try.prog 17 #[.agg #[.int .u64 s, .int .u64 g], .int .i64 m] w fun e w' => e = .returned (.tuple #[.int .i64 (mix (st s g k0) % m : Nat), .int .i64 (IntKind.i64.wrap k0)]) ∧ Below w.heap.size w w' := by
  have um : IntKind.u64.wrap (m : Int) = m := by rw [IntKind.wrap_u64]; omega
  have HK := Lib.hid hk
  have HN := Lib.hid hno
  clear hk hno
  go_enter Try.func17, Try.ntmps17
  go_wp2
  have hc := heap_alloc_new w (.cells #[.int .u64 s, .int .u64 g] 24)
  have hb := (Below.refl w.heap.size w).alloc (Nat.le_refl _) (.cells #[.int .u64 s, .int .u64 g] 24)
  have hl : w.heap.size < (w.alloc (.cells #[.int .u64 s, .int .u64 g] 24)).heap.size := by simp
  generalize w.alloc (.cells #[.int .u64 s, .int .u64 g] 24) = W0 at *
  have HL := hl
  go_loopg [7] (k0 - 1) (fun gk vk wx => ∃ k : Nat, 1 ≤ k ∧ k ≤ k0 ∧ gk = k0 - k ∧ vk = .int .i64 (IntKind.i64.wrap k) ∧ w.heap.size < wx.heap.size ∧ wx.heap[w.heap.size]? = some (.cells #[.int .u64 s, .int .u64 g] 24 (0, 0)) ∧ Below w.heap.size w wx)
  case atStart => exact ⟨1, by omega, by omega, rfl, rfl, hl, hc, hb⟩
  case round =>
    clear hc hb
    obtain ⟨k, k1, k2, k3, rfl, hl, hc, hb⟩ := hrel
    obtain ⟨K, hK⟩ : ∃ K, K = IntKind.i64.wrap (k : Int) := ⟨_, rfl⟩
    rw [← hK]
    have uk : IntKind.u64.wrap K = (k % 18446744073709551616 : Nat) := by rw [hK]; exact W64.uwN k
    have K1 : IntKind.i64.wrap (K + 1) = IntKind.i64.wrap ((k + 1 : Nat) : Int) := by rw [hK]; exact W64.w1N k
    obtain ⟨K', hK'⟩ : ∃ K', K' = IntKind.i64.wrap ((k + 1 : Nat) : Int) := ⟨_, rfl⟩
    rw [← hK'] at K1
    obtain ⟨X, hX⟩ : ∃ X, X = mix (st s g k) := ⟨_, rfl⟩
    have lX : X < 18446744073709551616 := by rw [hX]; exact mix_lt _
    obtain ⟨Q, hQ⟩ : ∃ Q, Q = X % m := ⟨_, rfl⟩
    have lQ : Q ≤ X := by rw [hQ]; exact Nat.mod_le _ _
    have lQ2 : Q < m := by rw [hQ]; exact Nat.mod_lt _ (by omega)
    have eQ : (X : Int) % (m : Int) = (Q : Int) := by rw [hQ]; rfl
    have cn := ref_Number1 s g (k % 18446744073709551616) hs hg (Nat.mod_lt _ (by omega)) K uk wr
    rw [st_mod, ← hX] at cn
    have CN := Lib.hid cn
    have HKK := Lib.hid hK
    have HKK' := Lib.hid hK'
    have HX := Lib.hid hX
    have HQ := Lib.hid hQ
    have K3 := Lib.hid k3
    have HC := Lib.hid hc
    have hcc := cell_of_row wr _ 0 _ _ _ hc
    have hcd := cell_of_row wr _ 1 _ _ _ hc
    clear cn hK hK' hX hQ uk k3
    replace CN := CN.out
    go_wp2_with fail
    go_wp2_with (go_at_call 28; refine (CN).mono ?_; rintro e w1 ⟨rfl, hb1⟩)
    · have hy : (X : Int) - (Q : Int) ≤ IntKind.u64.wrap ((X : Int) - (Q : Int) + ((m : Int) - 1)) := by assumption
      have hg2 : good m (mix (st s g k)) := by
        unfold good
        rw [← HX.out, ← HQ.out]
        rw [IntKind.wrap_u64] at hy
        omega
      have e : k = k0 := by
        rcases Nat.lt_or_ge k k0 with h | h
        · exact absurd hg2 (HN.out k k1 h)
        · omega
      go_ret2
      exact ⟨by rw [← e, ← HX.out, ← HQ.out, HKK.out]; rfl, hb.trans (hb1.mono hb.size)⟩
    · have hy : IntKind.u64.wrap ((X : Int) - (Q : Int) + ((m : Int) - 1)) < (X : Int) - (Q : Int) := by assumption
      have hg2 : ¬ good m (mix (st s g k)) := by
        unfold good
        rw [← HX.out, ← HQ.out]
        rw [IntKind.wrap_u64] at hy
        omega
      have e : k < k0 := by
        rcases Nat.lt_or_ge k k0 with h | h
        · exact h
        · exact absurd HK.out (by rw [show k0 = k by omega]; exact hg2)
      go_roundg (k0 - (k + 1))
      case measure => rw [K3.out]; omega
      case rel => exact ⟨k + 1, by omega, by omega, rfl, by rw [← HKK'.out], Nat.lt_of_lt_of_le hl hb1.size, (hb1.block _ hl).trans HC.out, hb.trans (hb1.mono hb.size)⟩

theorem st_next (s g k : Nat) : st (st s g k) g 1 = st s g (k + 1) := by
  unfold st
  rw [Nat.mod_add_mod, Nat.add_mul, Nat.one_mul, Nat.add_assoc]

theorem st_zero (s g : Nat) (hs : s < 18446744073709551616) : st s g 0 = s := by
  unfold st; simp; exact hs

theorem rnd_Below_err (s g : Nat) (n : Int) (h : n < 1 ∨ g % 2 = 0) (w : World) :
    Calls Try.prog 16 #[.agg #[.int .u64 s, .int .u64 g], .int .i64 n] w fun e w' => e = .returned (.tuple #[.int .i64 0, .agg #[.int .u64 0, .int .u64 0], .int .i64 1]) ∧ Below w.heap.size w w' := by
  by_cases hn : n < 1
  · clear h
    go_enter Try.func16, Try.ntmps16
    go_wp2
    exact bodyPost_ret (Mem.results_tct Try.results16 _ _ (w.heap.size + 1) 24 #[.int .u64 0, .int .u64 0] (0, 0) _ rfl (Mem.row_second w _ _) Try.underlying24 rfl (by kernel_rfl)) rfl ⟨rfl, ((Below.refl _ _).alloc (Nat.le_refl _) _).alloc (by simp) _⟩
  · have hg : (g : Int) % 2 = 0 := by omega
    have HG : (((g : Int) % 2) == 0) = true := by simp [hg]
    clear h
    go_enter Try.func16, Try.ntmps16
    go_wp2
    exact bodyPost_ret (Mem.results_tct Try.results16 _ _ (w.heap.size + 1) 24 #[.int .u64 0, .int .u64 0] (0, 0) _ rfl (Mem.row_second w _ _) Try.underlying24 rfl (by kernel_rfl)) rfl ⟨rfl, ((Below.refl _ _).alloc (Nat.le_refl _) _).alloc (by simp) _⟩

set_option maxHeartbeats 4000000 in
theorem rnd_Below_ok (s g m k0 : Nat) (hs : s < 18446744073709551616) (hg : g < 18446744073709551616) (ho : g % 2 = 1) (hm : 1 ≤ m) (hm2 : m < 9223372036854775808) (h0 : 1 ≤ k0) (hk : good m (mix (st s g k0))) (hno : ∀ j, 1 ≤ j → j < k0 → ¬ good m (mix (st s g j))) (w : World) :
    Calls Try.prog 16 #[.agg #[.int .u64 s, .int .u64 g], .int .i64 m] w fun e w' => e = .returned (.tuple #[.int .i64 (mix (st s g k0) % m : Nat), .agg #[.int .u64 (st s g k0 : Nat), .int .u64 g], .int .i64 0]) ∧ Below w.heap.size w w' := by
  have um : IntKind.u64.wrap (m : Int) = m := by rw [IntKind.wrap_u64]; omega
  have HK := Lib.hid hk
  have HN := Lib.hid hno
  obtain ⟨R, hR⟩ : ∃ R, R = rest m := ⟨_, rfl⟩
  obtain ⟨R1, hR1⟩ : ∃ R1, R1 = 18446744073709551615 % m := ⟨_, rfl⟩
  have lR : R < m := by rw [hR]; exact Nat.mod_lt _ (by omega)
  have lR1 : R1 < m := by rw [hR1]; exact Nat.mod_lt _ (by omega)
  have e1 : (18446744073709551615 : Int) % (m : Int) = R1 := by rw [hR1]; rfl
  have e2 : ((R1 : Int) + 1) % (m : Int) = R := by
    have := rest_calc m hm hm2
    rw [← hR, ← hR1] at this
    rw [← this]; rfl
  have HG : (((g : Int) % 2) == 0) = false := by rw [beq_eq_false_iff_ne]; omega
  have hmm : ((m : Int) == 0) = false := by rw [beq_eq_false_iff_ne]; omega
  have HR := Lib.hid hR
  clear hk hno hR hR1 ho
  go_enter Try.func16, Try.ntmps16
  go_wp2
  simp only [e1, e2]
  clear e1 e2
  have hc := Mem.row_first w (.cells #[.int .u64 s, .int .u64 g] 24) (.cells #[.int .u64 0, .int .u64 0] 24)
  have hd := Mem.row_second w (.cells #[.int .u64 s, .int .u64 g] 24) (.cells #[.int .u64 0, .int .u64 0] 24)
  have hb := ((Below.refl w.heap.size w).alloc (Nat.le_refl _) (.cells #[.int .u64 s, .int .u64 g] 24)).alloc (by simp) (.cells #[.int .u64 0, .int .u64 0] 24)
  generalize (w.alloc (.cells #[.int .u64 s, .int .u64 g] 24)).alloc (.cells #[.int .u64 0, .int .u64 0] 24) = W0 at *
  go_loopg [9] k0 (fun gk vx wx => ∃ k : Nat, k < k0 ∧ gk = k0 - k ∧ wx.heap[w.heap.size]? = some (.cells #[.int .u64 (st s g k : Nat), .int .u64 g] 24 (0, 0)) ∧ wx.heap[w.heap.size + 1]? = some (.cells #[.int .u64 0, .int .u64 0] 24 (0, 0)) ∧ Below w.heap.size w wx)
  case atStart =>
    refine ⟨0, by omega, rfl, ?_, hd, hb⟩
    rw [st_zero s g hs]; exact hc
  case round =>
    clear hc hd hb
    obtain ⟨k, k1, k3, hc, hd, hb⟩ := hrel
    have K3 := Lib.hid k3
    have cn := rnd_Next (st s g k) g (st_lt _ _ _) hg wr
    rw [st_next] at cn
    obtain ⟨S, hS⟩ : ∃ S, S = st s g k := ⟨_, rfl⟩
    obtain ⟨T, hT⟩ : ∃ T, T = st s g (k + 1) := ⟨_, rfl⟩
    obtain ⟨X, hX⟩ : ∃ X, X = mix (st s g (k + 1)) := ⟨_, rfl⟩
    have lS : S < 18446744073709551616 := by rw [hS]; exact st_lt _ _ _
    have lT : T < 18446744073709551616 := by rw [hT]; exact st_lt _ _ _
    have lX : X < 18446744073709551616 := by rw [hX]; exact mix_lt _
    obtain ⟨Q, hQ⟩ : ∃ Q, Q = X % m := ⟨_, rfl⟩
    have lQ : Q < m := by rw [hQ]; exact Nat.mod_lt _ (by omega)
    have eQ : (X : Int) % (m : Int) = (Q : Int) := by rw [hQ]; rfl
    rw [← hX, ← hS, ← hT] at cn
    rw [← hS] at hc
    have HT := Lib.hid hT
    have HX := Lib.hid hX
    have HQ := Lib.hid hQ
    have HC := Lib.hid hc
    have HD := Lib.hid hd
    have l1 := Mem.lt_of_heap hd
    have c0 := cell_of_row wr _ 0 _ _ _ hc
    have c1 := cell_of_row wr _ 1 _ _ _ hc
    clear hT hX hQ hS k3 hd hc
    have CN := Lib.hid cn
    clear cn
    go_wp2_with fail
    refine CN.out.mono ?_
    rintro e w1 ⟨rfl, hb1⟩
    have hc1 := Lib.hid ((hb1.block _ (by omega)).trans HC.out)
    have hd1 := Lib.hid ((hb1.block _ (by omega)).trans HD.out)
    have hbw := hb.trans (hb1.mono hb.size)
    have l2 := Nat.lt_of_lt_of_le l1 hb1.size
    clear hb HC HD CN c0 c1
    go_wp2_with (refine Mem.wpList_store_rowP rfl 24 (.tmp 2) (.tmp 30) rfl w.heap.size #[.int .u64 T, .int .u64 g] rfl rfl _ _ hc1.out (by kernel_rfl) rfl (Mem.ones2 _ _ rfl rfl) ?_; intro w2 P2)
    rotate_left
    · have hy : 18446744073709551615 - (R : Int) < (X : Int) := by assumption
      have hg2 : ¬ good m (mix (st s g (k + 1))) := by
        rw [good_iff m _ hm (by omega) (mix_lt _), ← HX.out, ← HR.out]
        omega
      have e : k + 1 < k0 := by
        rcases Nat.lt_or_ge (k + 1) k0 with h | h
        · exact h
        · exact absurd HK.out (by rw [show k0 = k + 1 by omega]; exact hg2)
      go_roundg (k0 - (k + 1))
      case measure => rw [K3.out]; omega
      case rel => exact ⟨k + 1, by omega, rfl, by rw [← HT.out]; exact P2.here, (P2.else_ _ (by omega)).trans hd1.out, hbw.trans (P2.below (Nat.le_refl _))⟩
    · have hy : (X : Int) ≤ 18446744073709551615 - (R : Int) := by assumption
      have hg2 : good m (mix (st s g (k + 1))) := by
        rw [good_iff m _ hm (by omega) (mix_lt _), ← HX.out, ← HR.out]
        omega
      have e : k + 1 = k0 := by
        rcases Nat.lt_or_ge (k + 1) k0 with h | h
        · exact absurd hg2 (HN.out (k + 1) (by omega) h)
        · omega
      have E := Lib.hid e
      clear e
      have c0 := cell_of_row w2 w.heap.size 0 _ _ _ P2.here
      have c1 := cell_of_row w2 w.heap.size 1 _ _ _ P2.here
      have hd2 := (P2.else_ _ (by omega)).trans hd1.out
      have d0 := cell_of_row w2 (w.heap.size + 1) 0 _ _ _ hd2
      have d1 := cell_of_row w2 (w.heap.size + 1) 1 _ _ _ hd2
      have f0 : w2.frozen? ⟨w.heap.size + 1, 0, none⟩ = false := by exact Mem.frozen_of_row hd2 _
      have f1 : w2.frozen? ⟨w.heap.size + 1, 1, none⟩ = false := by exact Mem.frozen_of_row hd2 _
      have HB := Lib.hid hbw
      have HP := Lib.hid P2
      have HD := Lib.hid hd2
      clear hbw P2 hd2 hc1 hd1
      go_region
      go_wp2
      refine bodyPost_ret (Mem.results_tct Try.results16 _ _ (w.heap.size + 1) 24 #[.int .u64 T, .int .u64 g] (0, 0) _ rfl (Mem.heap_drew (Mem.heap_set2 HD.out _ _)) Try.underlying24 rfl (by kernel_rfl)) rfl ⟨?_, ?_⟩
      · rw [← E.out, ← HX.out, ← HQ.out, ← HT.out]; rfl
      · exact ((((HB.out.trans (HP.out.below (Nat.le_refl _))).setCell (by simp) _).setCell (by simp) _).drew)
end Go.Proofs.Ytdhaaeaacbnghaa
