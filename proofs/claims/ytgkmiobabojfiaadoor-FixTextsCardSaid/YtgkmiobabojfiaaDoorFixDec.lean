/- The reference's Decimal. -/
import Derived.Test.YtgkmiobabojfiaaDoorFixLib
import Derived.Test.YtgkmiobabojfiaaDoorFixTextP
import Derived.Test.YtgkmiobabojfiaaDoorLim
namespace Go.Proofs.YtgkmiobabojfiaaDoor
open Go.ChangeShapes Go.WideShapes Go.ChangeAt Go.RowKit Go.Mem
set_option linter.unusedVariables false
theorem app_list (a b : ByteArray) : (a ++ b).data.toList = a.data.toList ++ b.data.toList := by
  rw [ByteArray.data_append, Array.toList_append]
theorem list_bytes (a : ByteArray) (l : List UInt8) (h : a.data.toList = l) : a = ⟨l.toArray⟩ := by
  subst h; simp
theorem size_list (a : ByteArray) : a.size = a.data.toList.length := rfl
theorem itoa_nat (n : Nat) : Lib.itoa (n : Int) = Lib.decDigits n := by
  unfold Lib.itoa
  rw [if_neg (by omega), Int.toNat_natCast]
theorem dec_len (n k : Nat) (hk : 0 < k) (h : n < 10 ^ k) : (Lib.decDigits n).length ≤ k := by
  induction k generalizing n with
  | zero => omega
  | succ k ih =>
    rw [Lib.decDigits]
    split
    · simp
    · rename_i h2
      have hk2 : 0 < k := by
        rcases Nat.eq_zero_or_pos k with rfl | h3
        · simp at h; omega
        · exact h3
      have := ih (n / 10) hk2 (by rw [Nat.pow_succ] at h; omega)
      simp only [List.length_append, List.length_singleton]; omega
theorem empty_iff (s : ByteArray) : s.toList.isEmpty = s.data.toList.isEmpty := by rw [Lib.toList_data]
set_option maxHeartbeats 4000000 in
theorem ref_Decimal (a : Int) (w : World) (hp : PowAt w) : Calls Tryd.prog 7 #[.int .i64 a] w fun e w' => e = .returned (.string ⟨(textL (decide (lim a < 0)) (lim a).natAbs).toArray⟩) ∧ Below w.heap.size w w' := by
  have cl := ref_Limit a
  have hbd := lim_bd a
  obtain ⟨C, hC⟩ : ∃ C, C = lim a := ⟨_, rfl⟩
  rw [← hC] at cl hbd ⊢
  have CL := Lib.hid cl
  clear cl hC
  obtain ⟨N, hN⟩ : ∃ N, N = C.natAbs := ⟨_, rfl⟩
  have lN : N ≤ 1099511627776 := by omega
  rw [← hN]
  obtain ⟨g, hg⟩ : ∃ g, g = N % 65536 := ⟨_, rfl⟩
  have lg : g < 65536 := by omega
  have ci := Itoa_at ((g : Int) * 152587890625) (by omega) (by omega)
  rw [show (g : Int) * 152587890625 = ((g * 152587890625 : Nat) : Int) by omega, itoa_nat] at ci
  rw [show ((g * 152587890625 : Nat) : Int) = (g : Int) * 152587890625 by omega] at ci
  obtain ⟨P1, hP1⟩ : ∃ P1 : ByteArray, P1 = ⟨(Lib.decDigits (g * 152587890625)).toArray⟩ := ⟨_, rfl⟩
  have dP1 : P1.data.toList = Lib.decDigits (g * 152587890625) := by rw [hP1]
  have lP1 : P1.size ≤ 16 := by rw [size_list, dP1]; exact dec_len _ 16 (by decide) (by have : (10 : Nat) ^ 16 = 10000000000000000 := rfl; omega)
  rw [← hP1] at ci
  have cr := Repeat_zero (16 - P1.size) (by omega) (16 - (P1.size : Int)) (by omega)
  obtain ⟨R1, hR1⟩ : ∃ R1 : ByteArray, R1 = ⟨(Lib.repeatL [48] (16 - P1.size)).toArray⟩ := ⟨_, rfl⟩
  have dR1 : R1.data.toList = Lib.repeatL [48] (16 - P1.size) := by rw [hR1]
  rw [← hR1] at cr
  have lR1 : R1.size = 16 - P1.size := by rw [size_list, dR1, Lib.repeatL_length]; simp
  have ct := TrimRight_zero (R1 ++ P1) (by rw [size_list, app_list, List.length_append, ← size_list, ← size_list]; omega)
  obtain ⟨P2, hP2⟩ : ∃ P2 : ByteArray, P2 = ⟨(Lib.trimRightS (R1 ++ P1).data.toList [48]).toArray⟩ := ⟨_, rfl⟩
  have dP2 : P2.data.toList = partL N := by
    rw [hP2]
    show Lib.trimRightS (R1 ++ P1).data.toList [48] = _
    rw [app_list, dR1, size_list, dP1]
    unfold partL
    rw [← hg]
  rw [← hP2] at ct
  have cw := Itoa_at ((N : Int) / 65536) (by omega) (by omega)
  rw [show (N : Int) / 65536 = ((N / 65536 : Nat) : Int) by omega, itoa_nat] at cw
  rw [show ((N / 65536 : Nat) : Int) = (N : Int) / 65536 by omega] at cw
  obtain ⟨W1, hW1⟩ : ∃ W1 : ByteArray, W1 = ⟨(Lib.decDigits (N / 65536)).toArray⟩ := ⟨_, rfl⟩
  have dW1 : W1.data.toList = Lib.decDigits (N / 65536) := by rw [hW1]
  rw [← hW1] at cw
  have bR1 : R1.size ≤ 16 := by omega
  have bP2 : P2.size ≤ 16 := by rw [size_list, dP2, partL_eq]; exact fracD_len 16 _
  have bW1 : W1.size ≤ 20 := by rw [size_list, dW1]; exact dec_len _ 20 (by decide) (by omega)
  have CI := Lib.hid ci
  have CR := Lib.hid cr
  have CT := Lib.hid ct
  have CW := Lib.hid cw
  have HTX := Lib.hid (text_eq (decide (C < 0)) N)
  have DP2 := Lib.hid dP2
  have DW1 := Lib.hid dW1
  have m1 : (N : Int) % 65536 = g := by omega
  have m2 : IntKind.i64.wrap ((g : Int) * 152587890625) = g * 152587890625 := by rw [IntKind.wrap_i64]; omega
  have HP := Lib.hid hp
  clear ci cr ct cw hP1 dP1 hR1 dR1 lR1 hP2 dP2 hW1 dW1 hg hp
  obtain ⟨neg, hneg⟩ : ∃ neg, neg = decide (C < 0) := ⟨_, rfl⟩
  rw [← hneg] at HTX ⊢
  have HNEG := Lib.hid hneg
  clear hneg
  by_cases hc : C < 0
  · obtain rfl : C = -(N : Int) := by omega
    have HE := Lib.hid (show neg = true by rw [HNEG.out]; exact decide_eq_true hc)
    clear hN HNEG
    go_enter Tryd.func7, Tryd.ntmps7
    go_wp2_with fail
    refine (CL.out w).mono ?_
    rintro e _ ⟨rfl, rfl⟩
    go_wp2_with fail
    refine (CI.out w HP.out).mono ?_
    rintro e w1 ⟨rfl, hb1⟩
    go_wp2_with fail
    refine (CR.out w1).mono ?_
    rintro e w2 ⟨rfl, hb2⟩
    go_wp2_with fail
    refine (CT.out w2).mono ?_
    rintro e w3 ⟨rfl, hb3⟩
    have hb := bt (bt hb1 hb2) hb3
    have hpb := HP.out.below hb (Nat.le_refl _)
    by_cases p0 : partL N = []
    · have t0 : P2.toList.isEmpty = true := by rw [empty_iff, DP2.out, p0]; rfl
      go_wp2_with fail
      refine (CW.out w3 hpb).mono ?_
      rintro e w4 ⟨rfl, hb4⟩
      go_wp2
      go_ret
      refine ⟨?_, bt hb hb4⟩
      refine congrArg (fun s => Ending.returned (.string s)) (list_bytes _ _ ?_)
      rw [app_list, app_list, DP2.out, DW1.out, HTX.out, HE.out, if_pos p0, p0]
      rfl
    · have t0 : P2.toList.isEmpty = false := by
        rw [empty_iff, DP2.out]
        cases h : partL N with
        | nil => exact absurd h p0
        | cons c r => rfl
      go_wp2_with fail
      refine (CW.out w3 hpb).mono ?_
      rintro e w4 ⟨rfl, hb4⟩
      go_wp2
      go_ret
      refine ⟨?_, bt hb hb4⟩
      refine congrArg (fun s => Ending.returned (.string s)) (list_bytes _ _ ?_)
      rw [app_list, app_list, app_list, DP2.out, DW1.out, HTX.out, HE.out, if_neg p0]
      rfl
  · obtain rfl : C = (N : Int) := by omega
    have HE := Lib.hid (show neg = false by rw [HNEG.out]; exact decide_eq_false hc)
    clear hN HNEG
    go_enter Tryd.func7, Tryd.ntmps7
    go_wp2_with fail
    refine (CL.out w).mono ?_
    rintro e _ ⟨rfl, rfl⟩
    go_wp2_with fail
    refine (CI.out w HP.out).mono ?_
    rintro e w1 ⟨rfl, hb1⟩
    go_wp2_with fail
    refine (CR.out w1).mono ?_
    rintro e w2 ⟨rfl, hb2⟩
    go_wp2_with fail
    refine (CT.out w2).mono ?_
    rintro e w3 ⟨rfl, hb3⟩
    have hb := bt (bt hb1 hb2) hb3
    have hpb := HP.out.below hb (Nat.le_refl _)
    by_cases p0 : partL N = []
    · have t0 : P2.toList.isEmpty = true := by rw [empty_iff, DP2.out, p0]; rfl
      go_wp2_with fail
      refine (CW.out w3 hpb).mono ?_
      rintro e w4 ⟨rfl, hb4⟩
      go_wp2
      go_ret
      refine ⟨?_, bt hb hb4⟩
      refine congrArg (fun s => Ending.returned (.string s)) (list_bytes _ _ ?_)
      rw [app_list, app_list, DP2.out, DW1.out, HTX.out, HE.out, if_pos p0, p0]
      rfl
    · have t0 : P2.toList.isEmpty = false := by
        rw [empty_iff, DP2.out]
        cases h : partL N with
        | nil => exact absurd h p0
        | cons c r => rfl
      go_wp2_with fail
      refine (CW.out w3 hpb).mono ?_
      rintro e w4 ⟨rfl, hb4⟩
      go_wp2
      go_ret
      refine ⟨?_, bt hb hb4⟩
      refine congrArg (fun s => Ending.returned (.string s)) (list_bytes _ _ ?_)
      rw [app_list, app_list, app_list, DP2.out, DW1.out, HTX.out, HE.out, if_neg p0]
      rfl
end Go.Proofs.YtgkmiobabojfiaaDoor
