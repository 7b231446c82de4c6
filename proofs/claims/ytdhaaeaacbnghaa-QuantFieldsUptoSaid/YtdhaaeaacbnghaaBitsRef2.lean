/- The reference's Bits: ReadNat, Unzigzag, and Read at every argument. -/
import Derived.Test.YtdhaaeaacbnghaaBitsRef
namespace Go.Proofs.Ytdhaaeaacbnghaa
open Go.ChangeShapes Go.WideShapes Go.ChangeAt Go.RowKit Go.Mem Go.Bp
set_option linter.unusedVariables false

theorem bs_Read_any (L : List Bool) (g m c p : Nat) (n : Int) (a : Option Addr) (w : World) (hl : L.length = m) (hm : m ≤ 1125899906842624) (hp : p ≤ m) (hin : BoolsAt w a L) (hg : BsBlock w g a m c p) :
    Calls Try.prog 38 #[.pointer (some ⟨g, 0, none⟩), .int .i64 n] w fun e w' => BsPost w g a m c (getR L p n).2.2 (.tuple #[.int .u64 (getR L p n).1, .int .i64 (getR L p n).2.1]) w' e := by
  unfold getR
  by_cases h1 : n < 0 ∨ 64 < n
  · rw [if_pos h1]
    exact (bs_Read_arg g n h1 w).mono fun e w' ⟨h2, h3⟩ => ⟨h2, by rw [← h3]; exact hg, by rw [← h3]; exact gb_refl _ _, by rw [h3]⟩
  · rw [if_neg h1]
    obtain ⟨k, rfl⟩ : ∃ k : Nat, n = k := ⟨n.toNat, by omega⟩
    rw [hl, Int.toNat_natCast]
    by_cases h2 : m < p + k
    · rw [if_pos h2]
      exact bs_Read_short g m c p k a w hm (by omega) h2 hp hg
    · rw [if_neg h2]
      exact bs_Read L g m c p k a w hl hm (by omega) (by omega) hin hg

set_option maxHeartbeats 4000000 in
theorem ref_Unzigzag (v : Nat) (h : v < 18446744073709551616) (w : World) : Calls Try.prog 42 #[.int .u64 v] w fun e w' => e = .returned (.int .i64 (unz v)) ∧ w = w' := by
  obtain ⟨U, hU⟩ : ∃ U, U = unz v := ⟨_, rfl⟩
  rw [← hU]
  unfold unz at hU
  obtain ⟨h2, hh2⟩ : ∃ h2, h2 = v / 2 := ⟨_, rfl⟩
  obtain ⟨r2, hr2⟩ : ∃ r2, r2 = v % 2 := ⟨_, rfl⟩
  rw [← hh2, ← hr2] at hU
  have e1 : (v : Int) / 2 = h2 := by omega
  have e2 : (v : Int) % 2 = r2 := by omega
  have b1 : h2 < 9223372036854775808 := by omega
  have b2 : IntKind.i64.wrap (h2 : Int) = h2 := by rw [IntKind.wrap_i64]; omega
  by_cases q : r2 = 1
  · rw [if_pos q] at hU
    have HU := Lib.hid hU
    subst q
    clear hh2 hr2 hU
    go_enter Try.func42, Try.ntmps42
    go_wp2
    go_ret
    exact ⟨by rw [HU.out]; rfl, rfl⟩
  · rw [if_neg q] at hU
    have HU := Lib.hid hU
    have hq : ((r2 : Int) == 1) = false := by rw [beq_eq_false_iff_ne]; omega
    clear hh2 hr2 hU
    go_enter Try.func42, Try.ntmps42
    go_wp2
    go_ret
    exact ⟨by rw [HU.out]; rfl, rfl⟩

set_option maxHeartbeats 16000000 in
set_option maxRecDepth 100000 in
theorem bs_ReadNat (L : List Bool) (g m c p : Nat) (a : Option Addr) (w : World) (hl : L.length = m) (hm : m ≤ 1125899906842624) (hp : p ≤ m) (hin : BoolsAt w a L) (hg : BsBlock w g a m c p) :
    Calls Try.prog 40 #[.pointer (some ⟨g, 0, none⟩)] w fun e w' => BsPost w g a m c (natR L p).2.2 (.tuple #[.int .u64 (natR L p).1, .int .i64 (natR L p).2.1]) w' e := by
  obtain ⟨R, hR⟩ : ∃ R, R = natR L p := ⟨_, rfl⟩
  rw [← hR]
  have HG := Lib.hid hg
  have HL := Lib.hid hl
  have HI := Lib.hid hin
  have HR := Lib.hid hR
  have c0 := hg.c0
  have c1 := hg.c1
  have f1 := hg.f1
  clear hg hl hin hR
  go_enter Try.func40, Try.ntmps40
  go_wp2_with fail
  go_loopg [4] 17 (fun gk vi wx => ∃ (i kq : Nat), i ≤ 16 ∧ gk = 17 - i ∧ vi = .int .i64 i ∧ p + 5 * i ≤ m ∧ natF L p (17 - i) i = R ∧ wx = w.drewN kq)
  case atStart => exact ⟨0, 0, by omega, rfl, rfl, hp, HR.out.symm, rfl⟩
  case round =>
    obtain ⟨i, kq, i16, g2, rfl, hpi, hnf, rfl⟩ := hrel
    have G2 := Lib.hid g2
    rw [show 17 - i = (16 - i) + 1 by omega] at hnf
    clear g2
    have q1 : IntKind.i64.wrap (5 * (i : Int)) = 5 * (i : Int) := by rw [IntKind.wrap_i64]; omega
    have q2 : IntKind.i64.wrap ((p : Int) + 5 * i) = (p : Int) + 5 * i := by rw [IntKind.wrap_i64]; omega
    have q3 : IntKind.i64.wrap ((p : Int) + 5 * i + 5) = (p : Int) + 5 * i + 5 := by rw [IntKind.wrap_i64]; omega
    by_cases hs : m < p + 5 * i + 5
    · rw [natF_short _ _ _ _ (by rw [HL.out]; exact hs)] at hnf
      subst hnf
      go_wp2_with fail
      go_quiet (fail)
      go_wp2
      go_ret2
      exact ⟨rfl, HG.out.drewN _, gb_drewN (gb_refl _ _) _, rfl⟩
    · have hnl : ¬ L.length < p + 5 * i + 5 := by rw [HL.out]; exact hs
      by_cases h16 : i = 16
      · rw [natF_form _ _ _ _ hnl (.inl h16)] at hnf
        subst hnf
        subst h16
        clear q1 hnl
        go_wp2_with fail
        go_quiet (fail)
        go_wp2
        go_ret2
        exact ⟨rfl, HG.out.drewN _, gb_drewN (gb_refl _ _) _, rfl⟩
      · have i15 : i < 16 := by omega
        obtain ⟨x, rfl, hx, hc⟩ := HI.out (by rw [HL.out]; omega)
        obtain ⟨t, ht⟩ : ∃ t, t = p + 5 * i + 4 := ⟨_, rfl⟩
        have hcell := hc t (by rw [HL.out]; omega)
        have hi6 : ((i : Int) == 16) = false := by rw [beq_eq_false_iff_ne]; omega
        have q4 : IntKind.i64.wrap (5 * ((i : Int) + 1)) = 5 * ((i : Int) + 1) := by rw [IntKind.wrap_i64]; omega
        have q5 : IntKind.i64.wrap ((p : Int) + 5 * ((i : Int) + 1)) = (p : Int) + 5 * ((i : Int) + 1) := by rw [IntKind.wrap_i64]; omega
        have q6 : IntKind.i64.wrap ((p : Int) + 5 * ((i : Int) + 1) - 1) = (p : Int) + 5 * ((i : Int) + 1) - 1 := by rw [IntKind.wrap_i64]; omega
        have q7 : ((p : Int) + 5 * ((i : Int) + 1) - 1).toNat = t := by omega
        have q8 : (0 : Int) ≤ (p : Int) + 5 * ((i : Int) + 1) - 1 := by omega
        have q8' : (1 : Int) ≤ (p : Int) + 5 * ((i : Int) + 1) := by omega
        have q9 : (p : Int) + 5 * ((i : Int) + 1) - 1 < m := by omega
        obtain ⟨f, hfe⟩ : ∃ f, f = fl L p i := ⟨_, rfl⟩
        have hfe' : f = L.getD t false := by rw [ht]; exact hfe
        rw [← hfe'] at hcell
        cases f with
        | true =>
          rw [natF_more _ _ _ _ hnl h16 hfe.symm] at hnf
          have HNF := Lib.hid hnf
          clear hfe hfe' hnf hnl h16 hc ht
          go_wp2_with fail
          go_quiet (fail)
          go_wp2_with fail
          go_quiet (fail)
          go_wp2
          go_roundg (17 - (i + 1))
          case measure => rw [G2.out]; omega
          case rel => exact ⟨i + 1, _, by omega, rfl, by go_num, by omega, by rw [show 17 - (i + 1) = 16 - i by omega]; exact HNF.out, World.drewN_drewN _ _ _⟩
        | false =>
          have HNF := Lib.hid hnf
          have HNL := Lib.hid hnl
          have HFE := Lib.hid hfe.symm
          have HC := Lib.hid hc
          clear hfe hfe' hnf hnl h16 hc ht
          go_wp2_with fail
          go_quiet (fail)
          go_wp2_with fail
          go_quiet (fail)
          go_wp2_with fail
          clear q1 q2 q3 q4 q5 q6 q7 q8 q8' q9 hcell G2
          have hN : ((i : Int) + 1) - 1 = i := by omega
          obtain ⟨N, hNe⟩ : ∃ N : Nat, N = i + 1 := ⟨_, rfl⟩
          have eN : (i : Int) + 1 = N := by omega
          have bN : 1 ≤ N := by omega
          have bN2 : N ≤ 16 := by omega
          have pN : p + 5 * N ≤ m := by omega
          have HNE := Lib.hid hNe
          rw [eN]
          clear hN eN hNe
          go_loopg [5, 6, 7, 8, 44] N (fun gk vv vk _ _ _ wx => ∃ (d k kq : Nat), d + k = N ∧ gk = k ∧ vk = .int .i64 ((k : Int) - 1) ∧ vv = .int .u64 (hiN L p N d : Nat) ∧ (d = 0 ∨ N = 1 ∨ xg L p (N - 1) ≠ 0) ∧ wx = w.drewN kq)
          case atStart => exact ⟨0, N, _, by omega, rfl, congrArg (Value.int .i64) (by have := HNE.out; omega), rfl, .inl rfl, rfl⟩
          case round =>
            obtain ⟨d, k, kq2, hdk, g2, rfl, rfl, hd0, rfl⟩ := hrel
            have G2 := Lib.hid g2
            clear g2
            have lH := hiN_lt L p N d
            rcases k with _ | k
            · obtain rfl : d = N := by omega
              have hv := valN_hi L p d d (Nat.le_refl _)
              rw [Nat.sub_self] at hv
              have hv2 : hiN L p d d = valN L p d := by rw [hv]; simp [valN]
              have HV := Lib.hid hv2
              obtain ⟨V, hV⟩ : ∃ V, V = hiN L p d d := ⟨_, rfl⟩
              rw [← hV]
              have hnf := HNF.out
              rw [natF_end _ _ _ _ HNL.out (by omega) HFE.out (by
                have := HNE.out
                rcases hd0 with h | h | h
                · omega
                · left; omega
                · right; rw [show d - 1 = i by omega] at h; exact h), ← HNE.out] at hnf
              subst hnf
              have HVE := Lib.hid (hV.trans hv2)
              clear hv hv2 hV lH hd0
              go_wp2
              go_ret2
              exact ⟨by rw [HVE.out]; rfl, by first | exact (HG.out.drewN kq2).set (p + 5 * d) | exact HG.out, gb_set (gb_drewN (gb_refl _ _) _) _ _, by simp⟩
            · obtain ⟨H, hH⟩ : ∃ H, H = hiN L p N d := ⟨_, rfl⟩
              rw [← hH] at lH ⊢
              have hsu : hiN L p N (d + 1) = 16 * H + xg L p k := by
                rw [hH]
                show 16 * hiN L p N d + xg L p (N - (d + 1)) = _
                rw [show N - (d + 1) = k by omega]
              have HSU := Lib.hid hsu
              have b1 : 16 ^ d ≤ 16 ^ 15 := Nat.pow_le_pow_right (by omega) (by omega)
              have b2 : 16 ^ 15 = 1152921504606846976 := by decide
              have lH2 : H < 1152921504606846976 := by omega
              have e1 : ((k + 1 : Nat) : Int) - 1 = k := by omega
              rw [e1]
              clear hH hsu b1 b2 lH e1
              go_wp2_with fail
              go_loopg [7, 8, 48] 4 (fun gj vx vi _ wx => ∃ (j kq3 : Nat), j ≤ 4 ∧ gj = j ∧ vi = .int .i64 ((j : Int) - 1) ∧ vx = .int .u64 (bval (seg L (p + 5 * k + j) (4 - j)) : Nat) ∧ wx = w.drewN kq3)
              case atStart => exact ⟨4, kq2, by omega, rfl, rfl, rfl, rfl⟩
              case round =>
                obtain ⟨j, kq3, j4, g3, rfl, rfl, rfl⟩ := hrel
                have G3 := Lib.hid g3
                clear g3
                rcases j with _ | j
                · rw [Nat.add_zero, Nat.sub_zero]
                  obtain ⟨X, hX⟩ : ∃ X, X = bval (seg L (p + 5 * k) 4) := ⟨_, rfl⟩
                  have hX' : X = xg L p k := hX
                  have lX : X < 16 := by rw [hX']; exact xg_lt L p k
                  rw [← hX]
                  have HX := Lib.hid hX'
                  clear hX hX'
                  have hcase : ((d = 0 ∧ 0 < k ∧ X = 0) ∨ (d = 0 ∧ 0 < k ∧ X ≠ 0)) ∨ ((d = 0 ∧ k = 0) ∨ 0 < d) := by omega
                  have t0 : ((0 : Nat) : Int) - 1 = -1 := by omega
                  rw [t0]
                  clear t0
                  rcases hcase with (⟨rfl, hk0, hX0⟩ | ⟨rfl, hk0, hX0⟩) | (⟨rfl, rfl⟩ | hd1)
                  · have hkn : ((k : Int) == (N : Int) - 1) = true := by simp; omega
                    have hx0 : ((X : Int) == 0) = true := by simp; omega
                    have hnf := HNF.out
                    have hki : i = k := by have := HNE.out; omega
                    rw [natF_form _ _ _ _ HNL.out (.inr ⟨by omega, by rw [hki, ← HX.out]; exact hX0, HFE.out⟩)] at hnf
                    subst hnf
                    clear hX0 hki hd0
                    go_wp2
                    go_ret2
                    exact ⟨rfl, HG.out.drewN _, gb_drewN (gb_refl _ _) _, rfl⟩
                  · have hkn : ((k : Int) == (N : Int) - 1) = true := by simp; omega
                    have hx0 : ((X : Int) == 0) = false := by rw [beq_eq_false_iff_ne]; omega
                    have HX0 := Lib.hid hX0
                    clear hX0 hd0
                    go_wp2
                    go_roundg k
                    case measure => rw [G2.out]; omega
                    case rel => exact ⟨1, k, _, by omega, rfl, rfl, by rw [HSU.out, HX.out]; go_num, .inr (.inr (by rw [show N - 1 = k by omega, ← HX.out]; exact HX0.out)), rfl⟩
                  · have hN1 : N = 1 := by omega
                    have hkn : (((0 : Nat) : Int) == (N : Int) - 1) = true := by simp; omega
                    have HN1 := Lib.hid hN1
                    clear hd0 hN1
                    go_wp2
                    go_roundg 0
                    case measure => rw [G2.out]; omega
                    case rel => exact ⟨1, 0, _, by omega, rfl, congrArg (Value.int .i64) (by have := HN1.out; omega), by rw [HSU.out, HX.out]; go_num, .inr (.inl HN1.out), rfl⟩
                  · have hkn : ((k : Int) == (N : Int) - 1) = false := by rw [beq_eq_false_iff_ne]; omega
                    have HD0 := Lib.hid (hd0.resolve_left (by omega))
                    clear hd0
                    go_wp2
                    go_roundg k
                    case measure => rw [G2.out]; omega
                    case rel => exact ⟨d + 1, k, _, by omega, rfl, rfl, by rw [HSU.out, HX.out]; go_num, .inr HD0.out, rfl⟩
                · have hs := seg_bval_cons L (p + 5 * k + j) (4 - (j + 1)) (by rw [HL.out]; omega)
                  rw [show 4 - (j + 1) + 1 = 4 - j by omega, show p + 5 * k + j + 1 = p + 5 * k + (j + 1) by omega] at hs
                  have lV := seg_bval_lt L (p + 5 * k + (j + 1)) (4 - (j + 1))
                  obtain ⟨V, hV⟩ : ∃ V, V = bval (seg L (p + 5 * k + (j + 1)) (4 - (j + 1))) := ⟨_, rfl⟩
                  rw [← hV] at hs lV ⊢
                  have l2 : 2 ^ (4 - (j + 1)) ≤ 2 ^ 4 := Nat.pow_le_pow_right (by omega) (by omega)
                  have l3 : 2 ^ 4 = 16 := by decide
                  have lV2 : V < 16 := by omega
                  obtain ⟨t2, ht2⟩ : ∃ t2, t2 = p + 5 * k + j := ⟨_, rfl⟩
                  rw [← ht2] at hs
                  have hcell2 := HC.out t2 (by rw [HL.out]; omega)
                  obtain ⟨b, hb⟩ : ∃ b, b = L.getD t2 false := ⟨_, rfl⟩
                  rw [← hb] at hs hcell2
                  have HS := Lib.hid hs
                  have HT2 := Lib.hid ht2
                  have e1 : ((j + 1 : Nat) : Int) - 1 = j := by omega
                  rw [e1]
                  have q1 : IntKind.i64.wrap (5 * (k : Int)) = 5 * (k : Int) := by rw [IntKind.wrap_i64]; omega
                  have q2 : IntKind.i64.wrap ((p : Int) + 5 * k) = (p : Int) + 5 * k := by rw [IntKind.wrap_i64]; omega
                  have q3 : IntKind.i64.wrap ((p : Int) + 5 * k + j) = (p : Int) + 5 * k + j := by rw [IntKind.wrap_i64]; omega
                  have q4 : (0 : Int) ≤ (p : Int) + 5 * k + j := by omega
                  have q5 : (p : Int) + 5 * k + j < m := by omega
                  have q6 : ((p : Int) + 5 * k + j).toNat = t2 := by omega
                  clear hs hV hb l2 l3 lV e1 ht2 hd0
                  cases b
                  all_goals
                    go_wp2_with fail
                    go_quiet (fail)
                    go_wp2
                    go_roundg j
                    case measure => rw [G3.out]; omega
                    case rel => exact ⟨j, _, by omega, rfl, rfl, by rw [← HT2.out, HS.out]; go_num, rfl⟩
end Go.Proofs.Ytdhaaeaacbnghaa
