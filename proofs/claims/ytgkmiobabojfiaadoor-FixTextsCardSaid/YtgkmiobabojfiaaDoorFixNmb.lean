/- The reference's Number. -/
import Derived.Test.YtgkmiobabojfiaaDoorFixDec
namespace Go.Proofs.YtgkmiobabojfiaaDoor
open Go.ChangeShapes Go.WideShapes Go.ChangeAt Go.RowKit Go.Mem
set_option linter.unusedVariables false
theorem isE_t (b : ByteArray) (h : b.data.toList = []) : b.toList.isEmpty = true := by rw [empty_iff, h]; rfl
theorem isE_f (b : ByteArray) (h : b.data.toList ≠ []) : b.toList.isEmpty = false := by
  rw [empty_iff]
  cases h2 : b.data.toList with
  | nil => exact absurd h2 h
  | cons c r => rfl
/-- the reference's road behind the tests of form -/
def numQ (neg : Bool) (W P : List UInt8) : Int × Int :=
  if 8 < (W.dropWhile (fun c => c == 48)).length then (0, 2)
  else if 16777216 < valA 0 (W.dropWhile (fun c => c == 48)) ∨ (valA 0 (W.dropWhile (fun c => c == 48)) = 16777216 ∧ 0 < unitP P / 152587890625) then (0, 2)
  else ((if neg then -((valA 0 (W.dropWhile (fun c => c == 48)) * 65536 + unitP P / 152587890625 : Nat) : Int) else ((valA 0 (W.dropWhile (fun c => c == 48)) * 65536 + unitP P / 152587890625 : Nat) : Int)), 0)
theorem numP_cases (s : List UInt8) (h40 : ¬ 40 < s.length) (W P : List UInt8) (b : Bool) (hc : cutD (restL s) = (W, P, b)) :
    ((W = [] ∨ (b = true ∧ P = []) ∨ (W ++ P).all dgB = false) → numP s = (0, 15)) ∧
    (¬ (W = [] ∨ (b = true ∧ P = []) ∨ (W ++ P).all dgB = false) → (((longP P).drop 16).all (fun c => c == 48) = false ∨ unitP P % 152587890625 ≠ 0) → numP s = (0, 3)) ∧
    (¬ (W = [] ∨ (b = true ∧ P = []) ∨ (W ++ P).all dgB = false) → ¬ (((longP P).drop 16).all (fun c => c == 48) = false ∨ unitP P % 152587890625 ≠ 0) → numP s = numQ (decide (s.head? = some 45)) W P) := by
  unfold numP numQ sgn
  rw [hc, if_neg h40]
  refine ⟨fun h => by rw [if_pos h], fun h h2 => by rw [if_neg h, if_pos h2], fun h h2 => ?_⟩
  rw [if_neg h, if_neg h2]
  by_cases h3 : s.head? = some 45
  · simp only [h3, decide_true, if_true]
  · simp only [h3, decide_false, if_false, Bool.false_eq_true]
theorem take_list (b : ByteArray) (j : Nat) (h : j ≤ b.size) : (b.extract 0 j).data.toList = b.data.toList.take j := by
  rw [ByteArray.data_extract, Array.toList_extract]
  simp
theorem drop_list (b : ByteArray) (j : Nat) : (b.extract j b.size).data.toList = b.data.toList.drop j := by
  rw [ByteArray.data_extract, Array.toList_extract]
  simp [List.take_of_length_le]
theorem num_ret (a b : Int) (h : a = b) : Ending.returned (.tuple #[.int .i64 a, .int .i64 0]) = Ending.returned (.tuple #[.int .i64 (b, (0 : Int)).1, .int .i64 (b, (0 : Int)).2]) := by subst h; rfl
set_option maxHeartbeats 8000000 in
set_option maxRecDepth 20000 in
theorem ref_Number (s : ByteArray) (w : World) (hm : MaxAt w) : Calls Tryd.prog 6 #[.string s] w fun e w' => e = .returned (.tuple #[.int .i64 (numP s.data.toList).1, .int .i64 (numP s.data.toList).2]) ∧ Below w.heap.size w w' := by
  by_cases h40 : 40 < s.data.toList.length
  · have h40' : 40 < s.size := h40
    have HF := Lib.hid (show numP s.data.toList = (0, 2) by unfold numP; rw [if_pos h40])
    go_enter Tryd.func6, Tryd.ntmps6
    go_wp2
    go_ret2
    exact ⟨by rw [HF.out]; rfl, Below.refl _ _⟩
  · have h40' : ¬ 40 < s.size := h40
    have c1 := CutPrefix_minus s
    rw [rest_minus, prefix_minus] at c1
    obtain ⟨neg, hneg⟩ : ∃ neg, neg = decide (s.data.toList.head? = some 45) := ⟨_, rfl⟩
    obtain ⟨R, hR⟩ : ∃ R : ByteArray, R = ⟨(restL s.data.toList).toArray⟩ := ⟨_, rfl⟩
    have dR : R.data.toList = restL s.data.toList := by rw [hR]
    have lR : R.size ≤ 40 := by
      have := restL_len s.data.toList
      rw [size_list, dR]; omega
    rw [← hR, ← hneg] at c1
    have c2 := fun w => Cut_point R (by omega) w
    rw [dR] at c2
    obtain ⟨W, P, b, hc⟩ : ∃ W P b, cutD (restL s.data.toList) = (W, P, b) := ⟨_, _, _, rfl⟩
    obtain ⟨n1, n2, n3⟩ := numP_cases s.data.toList h40 W P b hc
    rw [hc] at c2
    simp only at c2
    have hlen : W.length + P.length ≤ 40 := by
      have hf := cutD_false (restL s.data.toList)
      have ht := cutD_true (restL s.data.toList)
      have hl := restL_len s.data.toList
      rw [hc] at hf ht
      cases b with
      | false =>
        obtain ⟨e1, e2⟩ := hf rfl
        simp only at e1 e2
        rw [e1, e2, List.length_nil]; omega
      | true =>
        have := congrArg List.length (ht rfl)
        simp only [List.length_append, List.length_cons] at this
        omega
    obtain ⟨WB, hW⟩ : ∃ WB : ByteArray, WB = ⟨W.toArray⟩ := ⟨_, rfl⟩
    obtain ⟨PB, hP⟩ : ∃ PB : ByteArray, PB = ⟨P.toArray⟩ := ⟨_, rfl⟩
    have dW : WB.data.toList = W := by rw [hW]
    have dP : PB.data.toList = P := by rw [hP]
    rw [← hW, ← hP] at c2
    have lWP : WB.size + PB.size ≤ 40 := by rw [size_list, size_list, dW, dP]; exact hlen
    have c3 := Trim_ten (WB ++ PB) (by rw [size_list, app_list, List.length_append, ← size_list, ← size_list]; omega)
    obtain ⟨T, hT⟩ : ∃ T : ByteArray, T = ⟨(Lib.trimS (WB ++ PB).data.toList ten).toArray⟩ := ⟨_, rfl⟩
    have dT : T.data.toList = Lib.trimS (W ++ P) ten := by
      rw [hT]
      show Lib.trimS (WB ++ PB).data.toList ten = _
      rw [app_list, dW, dP]
    rw [← hT] at c3
    have C1 := Lib.hid c1
    have C2 := Lib.hid c2
    have C3 := Lib.hid c3
    have N1 := Lib.hid n1
    have N2 := Lib.hid n2
    have N3 := Lib.hid n3
    have DW := Lib.hid dW
    have DP := Lib.hid dP
    have DT := Lib.hid dT
    have HNEG := Lib.hid hneg
    have HM := Lib.hid hm
    clear c1 c2 c3 n1 n2 n3 hneg hR dR hc hlen hW hP dW dP hT dT h40 hm
    by_cases hw0 : W = []
    · have HF := Lib.hid (N1.out (Or.inl hw0))
      have t0 := isE_t WB (by rw [DW.out, hw0])
      go_enter Tryd.func6, Tryd.ntmps6
      go_wp2_with fail
      refine (C1.out w).mono ?_
      rintro e _ ⟨rfl, rfl⟩
      go_wp2_with fail
      refine (C2.out _ HM.out).mono ?_
      rintro e w2 ⟨rfl, hb⟩
      go_wp2
      go_ret2
      exact ⟨by rw [HF.out]; rfl, hb⟩
    · have t0 := isE_f WB (by rw [DW.out]; exact hw0)
      by_cases hp0 : b = true ∧ P = []
      · obtain ⟨rfl, hp1⟩ := hp0
        have HF := Lib.hid (N1.out (Or.inr (Or.inl ⟨rfl, hp1⟩)))
        have t1 := isE_t PB (by rw [DP.out, hp1])
        go_enter Tryd.func6, Tryd.ntmps6
        go_wp2_with fail
        refine (C1.out w).mono ?_
        rintro e _ ⟨rfl, rfl⟩
        go_wp2_with fail
        refine (C2.out _ HM.out).mono ?_
        rintro e w2 ⟨rfl, hb⟩
        go_wp2
        go_ret2
        exact ⟨by rw [HF.out]; rfl, hb⟩
      · have HBP := Lib.hid hp0
        cases b with
        | false =>
          clear hp0
          go_enter Tryd.func6, Tryd.ntmps6
          go_wp2_with fail
          refine (C1.out w).mono ?_
          rintro e _ ⟨rfl, rfl⟩
          go_wp2_with fail
          refine (C2.out _ HM.out).mono ?_
          rintro e w2 ⟨rfl, hb2⟩
          go_wp2_with fail
          refine (C3.out _).mono ?_
          rintro e w3 ⟨rfl, hb3⟩
          have hb := bt hb2 hb3
          clear hb2 hb3
          by_cases hT0 : Lib.trimS (W ++ P) ten = []
          · have hall := (trim_ten _).1 hT0
            have t3 := isE_t T (by rw [DT.out, hT0])
            have hPd : P.all dgB = true := all_sub hall (fun c hc => List.mem_append_right _ hc)
            have hWd : W.all dgB = true := all_sub hall (fun c hc => List.mem_append_left _ hc)
            have hLd := long_all P hPd
            have c4 := Repeat_zero 16 (by decide) 16 rfl
            obtain ⟨Z16, hZ16⟩ : ∃ Z16 : ByteArray, Z16 = ⟨(Lib.repeatL [48] 16).toArray⟩ := ⟨_, rfl⟩
            have dZ : Z16.data.toList = List.replicate 16 48 := by rw [hZ16]; rfl
            rw [← hZ16] at c4
            have lZ : Z16.size = 16 := by rw [size_list, dZ]; rfl
            have dL : (PB ++ Z16).data.toList = longP P := by rw [app_list, DP.out, dZ]; rfl
            have lL : (PB ++ Z16).size = PB.size + 16 := by rw [size_list, app_list, List.length_append, ← size_list, ← size_list, lZ]
            obtain ⟨L, hL⟩ : ∃ L, L = PB ++ Z16 := ⟨_, rfl⟩
            rw [← hL] at dL lL
            obtain ⟨LA, hLA⟩ : ∃ LA, LA = L.extract 0 16 := ⟨_, rfl⟩
            have dA : LA.data.toList = (longP P).take 16 := by rw [hLA, take_list _ _ (by omega), dL]
            have lLP : (longP P).length = P.length + 16 := by unfold longP; simp
            have lA : LA.size = 16 := by rw [size_list, dA, List.length_take, lLP]; omega
            obtain ⟨LB, hLB⟩ : ∃ LB, LB = L.extract 16 L.size := ⟨_, rfl⟩
            have dB : LB.data.toList = (longP P).drop 16 := by rw [hLB, drop_list, dL]
            have lB : LB.size ≤ 40 := by
              have h1 : P.length = PB.size := by rw [size_list, DP.out]
              rw [size_list, dB, List.length_drop, lLP]
              omega
            have hAd : ((longP P).take 16).all dgB = true := all_sub hLd (fun c hc => List.mem_of_mem_take hc)
            have c5 := Atoi_at LA ((unitP P : Nat) : Int) (by omega) (by
              rw [dA]
              exact atoi_val _ hAd (by intro h; have := congrArg List.length h; rw [← dA, ← size_list, lA] at this; cases this))
            have lU : unitP P < 10000000000000000 := by
              have := valA_lt _ hAd
              rw [← dA, ← size_list, lA, dA] at this
              exact this
            have c6 := Trim_zero LB (by omega)
            obtain ⟨Z, hZ⟩ : ∃ Z : ByteArray, Z = ⟨(Lib.trimS LB.data.toList [48]).toArray⟩ := ⟨_, rfl⟩
            have dZZ : Z.data.toList = Lib.trimS ((longP P).drop 16) [48] := by rw [hZ, ← dB]
            rw [← hZ] at c6
            obtain ⟨U, hU⟩ : ∃ U, U = unitP P := ⟨_, rfl⟩
            have hz0 := trim_zero ((longP P).drop 16)
            have N2' := N2.out (by rintro (h | h | h); exact hw0 h; exact HBP.out h; rw [hall] at h; cases h)
            have N3' := N3.out (by rintro (h | h | h); exact hw0 h; exact HBP.out h; rw [hall] at h; cases h)
            unfold numQ at N3'
            rw [← hU] at c5 lU N2' N3'
            rw [hLA, hL] at c5
            rw [hLB, lL, hL] at c6
            rw [← HNEG.out] at N3'
            have C4 := Lib.hid c4
            have C5 := Lib.hid c5
            have C6 := Lib.hid c6
            have N2 := Lib.hid N2'
            have N3 := Lib.hid N3'
            have HZ0 := Lib.hid hz0
            have DZ := Lib.hid dZZ
            have HWd := Lib.hid hWd
            clear c4 c5 c6 N1 N2' N3' hz0 dZZ hWd hPd hall hT0 hLd hZ16 dZ dL lL hLA dA lLP lA hLB dB lB hAd hZ hU hL
            go_wp2_with fail
            refine (C4.out _).mono ?_
            rintro e w4 ⟨rfl, hb4⟩
            have hb' := bt hb hb4
            clear hb hb4
            go_wp2_with fail
            refine (C5.out _).mono ?_
            rintro e w5 ⟨rfl, hb5⟩
            have hb := bt hb' hb5
            clear hb' hb5
            go_wp2_with fail
            refine (C6.out _).mono ?_
            rintro e w6 ⟨rfl, hb6⟩
            have hb' := bt hb hb6
            clear hb hb6
            by_cases hz : Lib.trimS ((longP P).drop 16) [48] = []
            · have t4 := isE_t Z (by rw [DZ.out, hz])
              have hz1 := (HZ0.out).1 hz
              by_cases hu : U % 152587890625 = 0
              · have t5 : ((U : Int) % 152587890625 == 0) = true := by rw [beq_iff_eq]; omega
                have HQ := Lib.hid (N3.out (fun h => h.elim (fun h => by rw [hz1] at h; cases h) (fun h => h hu)))
                have c7 := TrimLeft_zero WB
                rw [DW.out, trimL_zero] at c7
                obtain ⟨V, hV⟩ : ∃ V, V = W.dropWhile (fun c => c == 48) := ⟨_, rfl⟩
                obtain ⟨VB, hVB⟩ : ∃ VB : ByteArray, VB = ⟨V.toArray⟩ := ⟨_, rfl⟩
                have dV : VB.data.toList = V := by rw [hVB]
                have hVd : V.all dgB = true := by
                  rw [hV]
                  exact all_sub HWd.out (fun c hc => (List.dropWhile_suffix _).subset hc)
                rw [← hV, ← hVB] at c7
                rw [← hV] at HQ
                obtain ⟨Q, hQ⟩ : ∃ Q, Q = U / 152587890625 := ⟨_, rfl⟩
                have lQ : Q < 65537 := by omega
                have m5 : (U : Int) / 152587890625 = Q := by omega
                rw [← hQ] at HQ
                have C7 := Lib.hid c7
                have DV := Lib.hid dV
                clear c7 hV hVB dV N2 N3 HZ0 DZ HWd hz hz1 hu hQ lU
                go_wp2_with fail
                refine (C7.out _).mono ?_
                rintro e w7 ⟨rfl, hb7⟩
                have hb := bt hb' hb7
                clear hb' hb7 t5
                by_cases hv0 : V = []
                · have t6 := isE_t VB (by rw [DV.out, hv0])
                  obtain ⟨Nv, hNv⟩ : ∃ Nv, Nv = valA 0 V := ⟨_, rfl⟩
                  obtain rfl : Nv = 0 := by rw [hNv, hv0, valA_nil]
                  have HQ1 := HQ.out
                  rw [← hNv] at HQ1
                  have HQ2 := Lib.hid (HQ1.trans (if_neg (by rw [hv0]; decide)))
                  have HF := Lib.hid (HQ2.out.trans (if_neg (by omega)))
                  clear hNv HQ1
                  cases neg with
                  | true =>
                    have HF2 := Lib.hid (HF.out.trans (by rw [if_pos rfl]))
                    go_wp2
                    go_ret2
                    exact ⟨by rw [HF2.out]; exact num_ret _ _ (by omega), hb⟩
                  | false =>
                    have HF2 := Lib.hid (HF.out.trans (by rw [if_neg (by decide)]))
                    go_wp2
                    go_ret2
                    exact ⟨by rw [HF2.out]; exact num_ret _ _ (by omega), hb⟩
                · have t6 := isE_f VB (by rw [DV.out]; exact hv0)
                  have hvl : V.length = VB.size := by rw [size_list, DV.out]
                  by_cases hv8 : 8 < V.length
                  · have hv8' : 8 < VB.size := by omega
                    have HF := Lib.hid (HQ.out.trans (if_pos hv8))
                    go_wp2
                    go_ret2
                    exact ⟨by rw [HF.out]; rfl, hb⟩
                  · have hv8' : ¬ 8 < VB.size := by omega
                    have c8 := Atoi_at VB ((valA 0 V : Nat) : Int) (by omega) (by rw [DV.out]; exact atoi_val _ hVd hv0)
                    have hlt := valA_lt V hVd
                    have h8 : (10 : Nat) ^ V.length ≤ 10 ^ 8 := Nat.pow_le_pow_right (by decide) (by omega)
                    obtain ⟨Nv, hNv⟩ : ∃ Nv, Nv = valA 0 V := ⟨_, rfl⟩
                    rw [← hNv] at c8 hlt
                    have HQ1 := HQ.out
                    rw [← hNv] at HQ1
                    have HQ2 := Lib.hid (HQ1.trans (if_neg hv8))
                    have lN : Nv < 100000000 := by have : (10 : Nat) ^ 8 = 100000000 := rfl; omega
                    have C8 := Lib.hid c8
                    clear c8 hlt h8 hNv HQ1 hVd
                    go_wp2_with fail
                    refine (C8.out _).mono ?_
                    rintro e w8 ⟨rfl, hb8⟩
                    have hb9 := bt hb hb8
                    clear hb hb8
                    by_cases x0 : 16777216 < Nv
                    · have HF := Lib.hid (HQ2.out.trans (if_pos (Or.inl x0)))
                      go_wp2
                      go_ret2
                      exact ⟨by rw [HF.out]; rfl, hb9⟩
                    · by_cases x1 : Nv = 16777216 ∧ 0 < Q
                      · have HF := Lib.hid (HQ2.out.trans (if_pos (Or.inr x1)))
                        obtain ⟨x2, x3⟩ := x1
                        have t8 : ((Nv : Int) == 16777216) = true := by rw [beq_iff_eq]; omega
                        go_wp2
                        go_ret2
                        exact ⟨by rw [HF.out]; rfl, hb9⟩
                      · have HF := Lib.hid (HQ2.out.trans (if_neg (fun h => h.elim x0 x1)))
                        by_cases x2 : Nv = 16777216
                        · have x3 : ¬ 0 < Q := fun h => x1 ⟨x2, h⟩
                          have t8 : ((Nv : Int) == 16777216) = true := by rw [beq_iff_eq]; omega
                          cases neg with
                          | true =>
                            have HF2 := Lib.hid (HF.out.trans (by rw [if_pos rfl]))
                            go_wp2
                            go_ret2
                            exact ⟨by rw [HF2.out]; exact num_ret _ _ (by omega), hb9⟩
                          | false =>
                            have HF2 := Lib.hid (HF.out.trans (by rw [if_neg (by decide)]))
                            go_wp2
                            go_ret2
                            exact ⟨by rw [HF2.out]; exact num_ret _ _ (by omega), hb9⟩
                        · have t8 : ((Nv : Int) == 16777216) = false := by rw [beq_eq_false_iff_ne]; omega
                          cases neg with
                          | true =>
                            have HF2 := Lib.hid (HF.out.trans (by rw [if_pos rfl]))
                            go_wp2
                            go_ret2
                            exact ⟨by rw [HF2.out]; exact num_ret _ _ (by omega), hb9⟩
                          | false =>
                            have HF2 := Lib.hid (HF.out.trans (by rw [if_neg (by decide)]))
                            go_wp2
                            go_ret2
                            exact ⟨by rw [HF2.out]; exact num_ret _ _ (by omega), hb9⟩
              · have t5 : ((U : Int) % 152587890625 == 0) = false := by rw [beq_eq_false_iff_ne]; omega
                have HF := Lib.hid (N2.out (Or.inr hu))
                go_wp2
                go_ret2
                exact ⟨by rw [HF.out]; rfl, hb'⟩
            · have t4 := isE_f Z (by rw [DZ.out]; exact hz)
              have hz1 : ((longP P).drop 16).all (fun c => c == 48) = false := by
                rw [Bool.eq_false_iff]
                exact fun h => hz ((HZ0.out).2 h)
              have HF := Lib.hid (N2.out (Or.inl hz1))
              go_wp2
              go_ret2
              exact ⟨by rw [HF.out]; rfl, hb'⟩
          · have t3 := isE_f T (by rw [DT.out]; exact hT0)
            have hall : (W ++ P).all dgB = false := by
              rw [Bool.eq_false_iff]
              exact fun h => hT0 ((trim_ten _).2 h)
            have HF := Lib.hid (N1.out (Or.inr (Or.inr hall)))
            go_wp2
            go_ret2
            exact ⟨by rw [HF.out]; rfl, hb⟩
        | true =>
          have t1 := isE_f PB (by rw [DP.out]; exact fun h => hp0 ⟨rfl, h⟩)
          clear hp0
          go_enter Tryd.func6, Tryd.ntmps6
          go_wp2_with fail
          refine (C1.out w).mono ?_
          rintro e _ ⟨rfl, rfl⟩
          go_wp2_with fail
          refine (C2.out _ HM.out).mono ?_
          rintro e w2 ⟨rfl, hb2⟩
          go_wp2_with fail
          refine (C3.out _).mono ?_
          rintro e w3 ⟨rfl, hb3⟩
          have hb := bt hb2 hb3
          clear hb2 hb3
          by_cases hT0 : Lib.trimS (W ++ P) ten = []
          · have hall := (trim_ten _).1 hT0
            have t3 := isE_t T (by rw [DT.out, hT0])
            have hPd : P.all dgB = true := all_sub hall (fun c hc => List.mem_append_right _ hc)
            have hWd : W.all dgB = true := all_sub hall (fun c hc => List.mem_append_left _ hc)
            have hLd := long_all P hPd
            have c4 := Repeat_zero 16 (by decide) 16 rfl
            obtain ⟨Z16, hZ16⟩ : ∃ Z16 : ByteArray, Z16 = ⟨(Lib.repeatL [48] 16).toArray⟩ := ⟨_, rfl⟩
            have dZ : Z16.data.toList = List.replicate 16 48 := by rw [hZ16]; rfl
            rw [← hZ16] at c4
            have lZ : Z16.size = 16 := by rw [size_list, dZ]; rfl
            have dL : (PB ++ Z16).data.toList = longP P := by rw [app_list, DP.out, dZ]; rfl
            have lL : (PB ++ Z16).size = PB.size + 16 := by rw [size_list, app_list, List.length_append, ← size_list, ← size_list, lZ]
            obtain ⟨L, hL⟩ : ∃ L, L = PB ++ Z16 := ⟨_, rfl⟩
            rw [← hL] at dL lL
            obtain ⟨LA, hLA⟩ : ∃ LA, LA = L.extract 0 16 := ⟨_, rfl⟩
            have dA : LA.data.toList = (longP P).take 16 := by rw [hLA, take_list _ _ (by omega), dL]
            have lLP : (longP P).length = P.length + 16 := by unfold longP; simp
            have lA : LA.size = 16 := by rw [size_list, dA, List.length_take, lLP]; omega
            obtain ⟨LB, hLB⟩ : ∃ LB, LB = L.extract 16 L.size := ⟨_, rfl⟩
            have dB : LB.data.toList = (longP P).drop 16 := by rw [hLB, drop_list, dL]
            have lB : LB.size ≤ 40 := by
              have h1 : P.length = PB.size := by rw [size_list, DP.out]
              rw [size_list, dB, List.length_drop, lLP]
              omega
            have hAd : ((longP P).take 16).all dgB = true := all_sub hLd (fun c hc => List.mem_of_mem_take hc)
            have c5 := Atoi_at LA ((unitP P : Nat) : Int) (by omega) (by
              rw [dA]
              exact atoi_val _ hAd (by intro h; have := congrArg List.length h; rw [← dA, ← size_list, lA] at this; cases this))
            have lU : unitP P < 10000000000000000 := by
              have := valA_lt _ hAd
              rw [← dA, ← size_list, lA, dA] at this
              exact this
            have c6 := Trim_zero LB (by omega)
            obtain ⟨Z, hZ⟩ : ∃ Z : ByteArray, Z = ⟨(Lib.trimS LB.data.toList [48]).toArray⟩ := ⟨_, rfl⟩
            have dZZ : Z.data.toList = Lib.trimS ((longP P).drop 16) [48] := by rw [hZ, ← dB]
            rw [← hZ] at c6
            obtain ⟨U, hU⟩ : ∃ U, U = unitP P := ⟨_, rfl⟩
            have hz0 := trim_zero ((longP P).drop 16)
            have N2' := N2.out (by rintro (h | h | h); exact hw0 h; exact HBP.out ⟨by trivial, h.2⟩; rw [hall] at h; cases h)
            have N3' := N3.out (by rintro (h | h | h); exact hw0 h; exact HBP.out ⟨by trivial, h.2⟩; rw [hall] at h; cases h)
            unfold numQ at N3'
            rw [← hU] at c5 lU N2' N3'
            rw [hLA, hL] at c5
            rw [hLB, lL, hL] at c6
            rw [← HNEG.out] at N3'
            have C4 := Lib.hid c4
            have C5 := Lib.hid c5
            have C6 := Lib.hid c6
            have N2 := Lib.hid N2'
            have N3 := Lib.hid N3'
            have HZ0 := Lib.hid hz0
            have DZ := Lib.hid dZZ
            have HWd := Lib.hid hWd
            clear c4 c5 c6 N1 N2' N3' hz0 dZZ hWd hPd hall hT0 hLd hZ16 dZ dL lL hLA dA lLP lA hLB dB lB hAd hZ hU hL
            go_wp2_with fail
            refine (C4.out _).mono ?_
            rintro e w4 ⟨rfl, hb4⟩
            have hb' := bt hb hb4
            clear hb hb4
            go_wp2_with fail
            refine (C5.out _).mono ?_
            rintro e w5 ⟨rfl, hb5⟩
            have hb := bt hb' hb5
            clear hb' hb5
            go_wp2_with fail
            refine (C6.out _).mono ?_
            rintro e w6 ⟨rfl, hb6⟩
            have hb' := bt hb hb6
            clear hb hb6
            by_cases hz : Lib.trimS ((longP P).drop 16) [48] = []
            · have t4 := isE_t Z (by rw [DZ.out, hz])
              have hz1 := (HZ0.out).1 hz
              by_cases hu : U % 152587890625 = 0
              · have t5 : ((U : Int) % 152587890625 == 0) = true := by rw [beq_iff_eq]; omega
                have HQ := Lib.hid (N3.out (fun h => h.elim (fun h => by rw [hz1] at h; cases h) (fun h => h hu)))
                have c7 := TrimLeft_zero WB
                rw [DW.out, trimL_zero] at c7
                obtain ⟨V, hV⟩ : ∃ V, V = W.dropWhile (fun c => c == 48) := ⟨_, rfl⟩
                obtain ⟨VB, hVB⟩ : ∃ VB : ByteArray, VB = ⟨V.toArray⟩ := ⟨_, rfl⟩
                have dV : VB.data.toList = V := by rw [hVB]
                have hVd : V.all dgB = true := by
                  rw [hV]
                  exact all_sub HWd.out (fun c hc => (List.dropWhile_suffix _).subset hc)
                rw [← hV, ← hVB] at c7
                rw [← hV] at HQ
                obtain ⟨Q, hQ⟩ : ∃ Q, Q = U / 152587890625 := ⟨_, rfl⟩
                have lQ : Q < 65537 := by omega
                have m5 : (U : Int) / 152587890625 = Q := by omega
                rw [← hQ] at HQ
                have C7 := Lib.hid c7
                have DV := Lib.hid dV
                clear c7 hV hVB dV N2 N3 HZ0 DZ HWd hz hz1 hu hQ lU
                go_wp2_with fail
                refine (C7.out _).mono ?_
                rintro e w7 ⟨rfl, hb7⟩
                have hb := bt hb' hb7
                clear hb' hb7 t5
                by_cases hv0 : V = []
                · have t6 := isE_t VB (by rw [DV.out, hv0])
                  obtain ⟨Nv, hNv⟩ : ∃ Nv, Nv = valA 0 V := ⟨_, rfl⟩
                  obtain rfl : Nv = 0 := by rw [hNv, hv0, valA_nil]
                  have HQ1 := HQ.out
                  rw [← hNv] at HQ1
                  have HQ2 := Lib.hid (HQ1.trans (if_neg (by rw [hv0]; decide)))
                  have HF := Lib.hid (HQ2.out.trans (if_neg (by omega)))
                  clear hNv HQ1
                  cases neg with
                  | true =>
                    have HF2 := Lib.hid (HF.out.trans (by rw [if_pos rfl]))
                    go_wp2
                    go_ret2
                    exact ⟨by rw [HF2.out]; exact num_ret _ _ (by omega), hb⟩
                  | false =>
                    have HF2 := Lib.hid (HF.out.trans (by rw [if_neg (by decide)]))
                    go_wp2
                    go_ret2
                    exact ⟨by rw [HF2.out]; exact num_ret _ _ (by omega), hb⟩
                · have t6 := isE_f VB (by rw [DV.out]; exact hv0)
                  have hvl : V.length = VB.size := by rw [size_list, DV.out]
                  by_cases hv8 : 8 < V.length
                  · have hv8' : 8 < VB.size := by omega
                    have HF := Lib.hid (HQ.out.trans (if_pos hv8))
                    go_wp2
                    go_ret2
                    exact ⟨by rw [HF.out]; rfl, hb⟩
                  · have hv8' : ¬ 8 < VB.size := by omega
                    have c8 := Atoi_at VB ((valA 0 V : Nat) : Int) (by omega) (by rw [DV.out]; exact atoi_val _ hVd hv0)
                    have hlt := valA_lt V hVd
                    have h8 : (10 : Nat) ^ V.length ≤ 10 ^ 8 := Nat.pow_le_pow_right (by decide) (by omega)
                    obtain ⟨Nv, hNv⟩ : ∃ Nv, Nv = valA 0 V := ⟨_, rfl⟩
                    rw [← hNv] at c8 hlt
                    have HQ1 := HQ.out
                    rw [← hNv] at HQ1
                    have HQ2 := Lib.hid (HQ1.trans (if_neg hv8))
                    have lN : Nv < 100000000 := by have : (10 : Nat) ^ 8 = 100000000 := rfl; omega
                    have C8 := Lib.hid c8
                    clear c8 hlt h8 hNv HQ1 hVd
                    go_wp2_with fail
                    refine (C8.out _).mono ?_
                    rintro e w8 ⟨rfl, hb8⟩
                    have hb9 := bt hb hb8
                    clear hb hb8
                    by_cases x0 : 16777216 < Nv
                    · have HF := Lib.hid (HQ2.out.trans (if_pos (Or.inl x0)))
                      go_wp2
                      go_ret2
                      exact ⟨by rw [HF.out]; rfl, hb9⟩
                    · by_cases x1 : Nv = 16777216 ∧ 0 < Q
                      · have HF := Lib.hid (HQ2.out.trans (if_pos (Or.inr x1)))
                        obtain ⟨x2, x3⟩ := x1
                        have t8 : ((Nv : Int) == 16777216) = true := by rw [beq_iff_eq]; omega
                        go_wp2
                        go_ret2
                        exact ⟨by rw [HF.out]; rfl, hb9⟩
                      · have HF := Lib.hid (HQ2.out.trans (if_neg (fun h => h.elim x0 x1)))
                        by_cases x2 : Nv = 16777216
                        · have x3 : ¬ 0 < Q := fun h => x1 ⟨x2, h⟩
                          have t8 : ((Nv : Int) == 16777216) = true := by rw [beq_iff_eq]; omega
                          cases neg with
                          | true =>
                            have HF2 := Lib.hid (HF.out.trans (by rw [if_pos rfl]))
                            go_wp2
                            go_ret2
                            exact ⟨by rw [HF2.out]; exact num_ret _ _ (by omega), hb9⟩
                          | false =>
                            have HF2 := Lib.hid (HF.out.trans (by rw [if_neg (by decide)]))
                            go_wp2
                            go_ret2
                            exact ⟨by rw [HF2.out]; exact num_ret _ _ (by omega), hb9⟩
                        · have t8 : ((Nv : Int) == 16777216) = false := by rw [beq_eq_false_iff_ne]; omega
                          cases neg with
                          | true =>
                            have HF2 := Lib.hid (HF.out.trans (by rw [if_pos rfl]))
                            go_wp2
                            go_ret2
                            exact ⟨by rw [HF2.out]; exact num_ret _ _ (by omega), hb9⟩
                          | false =>
                            have HF2 := Lib.hid (HF.out.trans (by rw [if_neg (by decide)]))
                            go_wp2
                            go_ret2
                            exact ⟨by rw [HF2.out]; exact num_ret _ _ (by omega), hb9⟩
              · have t5 : ((U : Int) % 152587890625 == 0) = false := by rw [beq_eq_false_iff_ne]; omega
                have HF := Lib.hid (N2.out (Or.inr hu))
                go_wp2
                go_ret2
                exact ⟨by rw [HF.out]; rfl, hb'⟩
            · have t4 := isE_f Z (by rw [DZ.out]; exact hz)
              have hz1 : ((longP P).drop 16).all (fun c => c == 48) = false := by
                rw [Bool.eq_false_iff]
                exact fun h => hz ((HZ0.out).2 h)
              have HF := Lib.hid (N2.out (Or.inl hz1))
              go_wp2
              go_ret2
              exact ⟨by rw [HF.out]; rfl, hb'⟩
          · have t3 := isE_f T (by rw [DT.out]; exact hT0)
            have hall : (W ++ P).all dgB = false := by
              rw [Bool.eq_false_iff]
              exact fun h => hT0 ((trim_ten _).2 h)
            have HF := Lib.hid (N1.out (Or.inr (Or.inr hall)))
            go_wp2
            go_ret2
            exact ⟨by rw [HF.out]; rfl, hb⟩
end Go.Proofs.YtgkmiobabojfiaaDoor
