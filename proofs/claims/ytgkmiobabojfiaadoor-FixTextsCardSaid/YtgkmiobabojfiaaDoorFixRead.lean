/- fix.Read. -/
import Derived.Test.YtgkmiobabojfiaaDoorFixFrac
import Derived.Test.YtgkmiobabojfiaaDoorFixReadQ
import Derived.Lib.Hide
import Derived.Lib.MinMax
namespace Go.Proofs.YtgkmiobabojfiaaDoor
open Go.ChangeShapes Go.WideShapes Go.ChangeAt Go.RowKit Go.Mem
set_option linter.unusedVariables false
theorem extract_list (s : ByteArray) (j : Nat) : (s.extract j s.size).data.toList = s.data.toList.drop j := by
  rw [ByteArray.data_extract, Array.toList_extract]
  simp [List.take_of_length_le]
set_option maxHeartbeats 8000000 in
set_option maxRecDepth 4000 in
theorem fix_Read (s : ByteArray) (w : World) : Calls Tryd.prog 5 #[.string s] w fun e w' => e = .returned (.tuple #[.int .i64 (readP s.data.toList).1, .int .i64 (readP s.data.toList).2]) ∧ Below w.heap.size w w' := by
  by_cases h40 : 40 < s.data.toList.length
  · have h40' : 40 < s.size := h40
    have HF := Lib.hid (readP_large0 _ h40)
    go_enter Tryd.func5, Tryd.ntmps5
    go_wp2
    go_ret2
    exact ⟨by rw [HF.out]; rfl, Below.refl _ _⟩
  · have h40' : ¬ 40 < s.size := h40
    by_cases h0 : s.size = 0
    · have e0 : s.data.toList = [] := List.eq_nil_of_length_eq_zero h0
      have e1 : s.toList.isEmpty = true := by rw [Lib.toList_data, e0]; rfl
      have HF := Lib.hid (show readP s.data.toList = (0, 15) by rw [e0]; decide)
      clear e0 h40
      go_enter Tryd.func5, Tryd.ntmps5
      go_wp2_with fail
      go_loopg [5, 6, 7] 0 (fun gk v5 v6 v7 wx => gk = 0 ∧ v5 = .int .i64 0 ∧ v6 = .int .i64 (-1) ∧ v7 = .int .i64 0 ∧ wx = w)
      case atStart => exact ⟨rfl, rfl, rfl, rfl, rfl⟩
      case round =>
        obtain ⟨rfl, rfl, rfl, rfl, rfl⟩ := hrel
        go_wp2
        go_ret2
        exact ⟨by rw [HF.out]; rfl, Below.refl _ _⟩
    · have e0 : s.toList ≠ [] := by
        rw [Lib.toList_data]; intro h; have := congrArg List.length h; exact h0 this
      have e1 : s.toList.isEmpty = false := by simpa using e0
      have hpos : 0 < s.size := by omega
      have hhd : s.data.toList.head? = some s[0] := by
        rw [List.head?_eq_getElem?, List.getElem?_eq_getElem (show 0 < s.data.toList.length from hpos)]; rfl
      by_cases h45 : s[0].toNat = 45
      · have t0 : ((s[0].toNat : Int) == 45) = true := by simp [h45]
        have h45b : s[0] = 45 := UInt8.toNat_inj.1 h45
        have HSG := Lib.hid (show s.data.toList.head? = some 45 by rw [hhd, h45b])
        obtain ⟨R, hR⟩ : ∃ R : ByteArray, R = s.extract 1 s.size := ⟨_, rfl⟩
        have hRL : R.data.toList = restL s.data.toList := by rw [hR, extract_list]; unfold restL; rw [if_pos HSG.out]; simp
        obtain ⟨l, hl⟩ : ∃ l, l = R.data.toList := ⟨_, rfl⟩
        have HLN := Lib.hid (show l.length = R.size by rw [hl]; rfl)
        have HR := Lib.hid (show l = restL s.data.toList from hl.trans hRL)
        have HRL := Lib.hid hl.symm
        have hm40 : R.size ≤ 40 := by
          have h1 := restL_len s.data.toList
          rw [← HR.out, HLN.out] at h1
          have h2 : s.data.toList.length = s.size := rfl
          omega
        clear hRL hl
        have HRX := Lib.hid hR
        clear hR hhd h45b e0
        go_enter Tryd.func5, Tryd.ntmps5
        go_wp2_with fail
        rw [← HRX.out]
        go_loopg [5, 6, 7] R.size (fun gk v5 v6 v7 wx => ∃ (k n : Nat) (d : Int), k ≤ R.size ∧ gk = R.size - k ∧ v5 = .int .i64 n ∧ v6 = .int .i64 d ∧ v7 = .int .i64 k ∧ n ≤ 1073741824 ∧ -1 ≤ d ∧ d < (k : Int) ∧ scan l 0 0 (-1) = scan (l.drop k) k n d ∧ wx = w)
        case atStart => exact ⟨0, 0, -1, Nat.zero_le _, rfl, rfl, rfl, rfl, by omega, by omega, by omega, rfl, rfl⟩
        case round =>
          obtain ⟨k, n, d, h1, h2, rfl, rfl, rfl, hn, hd1, hd2, hsc, rfl⟩ := hrel
          have HSC := Lib.hid hsc
          have H2 := Lib.hid h2
          clear hsc h2
          by_cases hlt : k < R.size
          · have hkR : k < R.size := hlt
            have hkl : k < l.length := by rw [HLN.out]; exact hlt
            have hg : R[k] = l[k] := by
              have : l[k] = R.data.toList[k]'(by rw [HRL.out]; exact hkl) := by simp only [HRL.out]
              rw [this]; rfl
            have hst := HSC.out
            rw [List.drop_eq_getElem_cons hkl, scan_cons] at hst
            rw [← hg] at hst
            have hz256 := (R[k]).toNat_lt
            have HE := Lib.hid (show R[k] = 46 ↔ (R[k]).toNat = 46 from ⟨fun h => by rw [h]; rfl, fun h => UInt8.toNat_inj.1 h⟩)
            have HDG := Lib.hid (show dgB R[k] = (decide (48 ≤ (R[k]).toNat) && decide ((R[k]).toNat ≤ 57)) from rfl)
            have HST := Lib.hid hst
            clear hst hg hkl
            by_cases c46 : (R[k]).toNat = 46
            · have p46 : (((R[k]).toNat : Int) == 46) = true := by simp [c46]
              by_cases cd : d < 0
              · have HN := Lib.hid (HST.out.trans (if_pos ⟨HE.out.2 c46, cd⟩))
                go_wp2
                go_roundg (R.size - (k + 1))
                case measure => rw [H2.out]; omega
                case rel => exact ⟨k + 1, n, (k : Int), by omega, rfl, rfl, rfl, by go_num, by omega, by omega, by omega, by rw [HN.out]; rfl, rfl⟩
              · have HN0 := Lib.hid (HST.out.trans (if_neg (fun h => cd h.2)))
                have HN := Lib.hid (HN0.out.trans (if_pos (by rw [HDG.out]; simp; omega)))
                have HF := Lib.hid (readP_none _ h40 (by rw [← HR.out]; exact HN.out))
                go_wp2
                go_ret2
                exact ⟨by rw [HF.out]; rfl, Below.refl _ _⟩
            · have p46 : (((R[k]).toNat : Int) == 46) = false := by rw [beq_eq_false_iff_ne]; omega
              have HN0 := Lib.hid (HST.out.trans (if_neg (fun h => c46 (HE.out.1 h.1))))
              by_cases cg : 48 ≤ (R[k]).toNat ∧ (R[k]).toNat ≤ 57
              · obtain ⟨g1, g2⟩ := cg
                have HN1 := Lib.hid (HN0.out.trans (if_neg (by rw [HDG.out]; simp; omega)))
                by_cases cd : d < 0
                · have HN := Lib.hid (HN1.out.trans (if_pos cd))
                  have m1 : IntKind.u8.wrap (((R[k]).toNat : Int) - 48) = (R[k]).toNat - 48 := by rw [IntKind.wrap_u8]; omega
                  go_wp2
                  go_roundg (R.size - (k + 1))
                  case measure => rw [H2.out]; omega
                  case rel => exact ⟨k + 1, min (n * 10 + ((R[k]).toNat - 48)) 1073741824, d, by omega, rfl, by go_num, rfl, by go_num, by omega, by omega, by omega, by rw [HN.out]; rfl, rfl⟩
                · have HN := Lib.hid (HN1.out.trans (if_neg cd))
                  go_wp2
                  go_roundg (R.size - (k + 1))
                  case measure => rw [H2.out]; omega
                  case rel => exact ⟨k + 1, n, d, by omega, rfl, rfl, rfl, by go_num, by omega, by omega, by omega, by rw [HN.out]; rfl, rfl⟩
              · have HN := Lib.hid (HN0.out.trans (if_pos (by rw [HDG.out]; simp; omega)))
                have HF := Lib.hid (readP_none _ h40 (by rw [← HR.out]; exact HN.out))
                by_cases cg1 : (R[k]).toNat < 48
                · go_wp2
                  go_ret2
                  exact ⟨by rw [HF.out]; rfl, Below.refl _ _⟩
                · go_wp2
                  go_ret2
                  exact ⟨by rw [HF.out]; rfl, Below.refl _ _⟩
          · have hk : k = R.size := by omega
            have hfin : scan l 0 0 (-1) = some (n, d) := by rw [HSC.out, hk, ← HLN.out, List.drop_length, scan_nil]
            replace HSC := Lib.hid hfin
            clear hfin H2
            by_cases cd : d < 0
            · have HDN := Lib.hid (show ((R.size : Nat) : Int) = if d < 0 then (l.length : Int) else d by rw [if_pos cd, HLN.out])
              obtain ⟨B, hB⟩ : ∃ B, B = min (R.size + 1) R.size := ⟨_, rfl⟩
              have hBm : B ≤ R.size := by omega
              have hall := scan_tail l n R.size B d HSC.out HDN.out (by rw [HLN.out]; exact hB.symm)
              have hP := readP_some s.data.toList l n R.size B d h40 HR.out HSC.out HDN.out (by rw [HLN.out]; exact hB.symm)
              rw [HLN.out] at hP
              have HP := Lib.hid hP
              have HALL := Lib.hid hall
              clear hP hall
              by_cases q0 : R.size = 0
              · have t0 : ((R.size : Int) == 0) = true := by simp [q0]
                have HF := Lib.hid (HP.out.trans (if_pos (Or.inl q0)))
                clear HP HALL hB
                go_wp2
                go_ret2
                exact ⟨by rw [HF.out]; rfl, Below.refl _ _⟩
              · have t0 : ((R.size : Int) == 0) = false := by rw [beq_eq_false_iff_ne]; omega
                by_cases q1 : R.size + 1 = R.size
                · have t1 : ((R.size : Int) == (R.size : Int) - 1) = true := by rw [beq_iff_eq]; omega
                  have HF := Lib.hid (HP.out.trans (if_pos (Or.inr q1)))
                  clear HP HALL hB
                  go_wp2
                  go_ret2
                  exact ⟨by rw [HF.out]; rfl, Below.refl _ _⟩
                · have t1 : ((R.size : Int) == (R.size : Int) - 1) = false := by rw [beq_eq_false_iff_ne]; omega
                  have HP2 := Lib.hid (HP.out.trans (if_neg (by omega)))
                  obtain ⟨R2, hR2⟩ : ∃ R2 : ByteArray, R2 = ByteArray.empty := ⟨_, rfl⟩
                  have hd2 : R2.data.toList = l.drop B := by rw [hR2, show B = l.length by rw [HLN.out]; omega, List.drop_length]; rfl
                  have hl2 : R2.size ≤ R.size := by
                    have := congrArg List.length hd2
                    rw [List.length_drop, HLN.out] at this
                    have h3 : R2.size = R2.data.toList.length := rfl
                    omega
                  have cf := fix_fraction R2 (by omega) (by rw [hd2]; exact HALL.out)
                  rw [hd2] at cf
                  have hFn := frac_num (l.drop B) HALL.out
                  have hFr := frac_rest (l.drop B) HALL.out
                  have hlt := dbls_lt 16 _ (dgs_digs _ HALL.out)
                  obtain ⟨T, hT⟩ : ∃ T, T = l.drop B := ⟨_, rfl⟩
                  rw [← hT] at cf hFn hFr hlt HP2
                  obtain ⟨N, hN⟩ : ∃ N, N = (dbls 16 (dgs T)).1 := ⟨_, rfl⟩
                  have hfp := fun e (h : FracPost T e) => h
                  unfold FracPost at hfp cf
                  rw [← hN] at hFn hlt cf
                  rw [← hFn, ← hFr] at HP2
                  obtain ⟨V, hV⟩ : ∃ V, V = vd (dbls 16 (dgs T)).2 := ⟨_, rfl⟩
                  rw [← hV] at HP2 cf
                  have lN : N < 65536 := by have : (2 : Nat) ^ 16 = 65536 := rfl; omega
                  rw [hR2] at cf
                  have CF := Lib.hid cf
                  have mB : min ((R.size : Int) + 1) (R.size : Int) = (B : Int) := by omega
                  have m1 : IntKind.i64.wrap ((n : Int) * 65536) = n * 65536 := by rw [IntKind.wrap_i64]; omega
                  clear cf hfp hFn hFr hlt hT hN hV hR2 hd2 HP HALL
                  go_wp2_with fail
                  refine (CF.out _).mono ?_
                  rintro e w2 ⟨⟨hv, rfl⟩ | ⟨hv, rfl⟩, hb2⟩
                  · have HF := Lib.hid (HP2.out.trans (if_pos hv))
                    go_wp2
                    go_ret2
                    exact ⟨by rw [HF.out]; rfl, hb2⟩
                  · have HP3 := Lib.hid (HP2.out.trans (if_neg (by omega)))
                    by_cases hbig : 1099511627776 < n * 65536 + N
                    · have HF := Lib.hid (HP3.out.trans (if_pos hbig))
                      go_wp2
                      go_ret2
                      exact ⟨by rw [HF.out]; rfl, hb2⟩
                    · have HF := Lib.hid (HP3.out.trans (if_neg hbig))
                      have HSV := Lib.hid (show sgn s.data.toList (n * 65536 + N) = -((n : Int) * 65536 + N) by unfold sgn; rw [if_pos HSG.out]; omega)
                      go_wp2
                      go_ret2
                      refine ⟨?_, hb2⟩
                      rw [HF.out]
                      show _ = Ending.returned (.tuple #[.int .i64 (sgn s.data.toList (n * 65536 + N)), .int .i64 0])
                      rw [HSV.out]
                      rfl
            · obtain ⟨Dn, rfl⟩ : ∃ Dn : Nat, d = Dn := ⟨d.toNat, by omega⟩
              have HDN := Lib.hid (show ((Dn : Nat) : Int) = if (Dn : Int) < 0 then (l.length : Int) else Dn by rw [if_neg cd])
              obtain ⟨B, hB⟩ : ∃ B, B = min (Dn + 1) R.size := ⟨_, rfl⟩
              have hBm : B ≤ R.size := by omega
              have hall := scan_tail l n Dn B (Dn : Int) HSC.out HDN.out (by rw [HLN.out]; exact hB.symm)
              have hP := readP_some s.data.toList l n Dn B (Dn : Int) h40 HR.out HSC.out HDN.out (by rw [HLN.out]; exact hB.symm)
              rw [HLN.out] at hP
              have HP := Lib.hid hP
              have HALL := Lib.hid hall
              clear hP hall
              by_cases q0 : Dn = 0
              · have t0 : ((Dn : Int) == 0) = true := by simp [q0]
                have HF := Lib.hid (HP.out.trans (if_pos (Or.inl q0)))
                clear HP HALL hB
                go_wp2
                go_ret2
                exact ⟨by rw [HF.out]; rfl, Below.refl _ _⟩
              · have t0 : ((Dn : Int) == 0) = false := by rw [beq_eq_false_iff_ne]; omega
                by_cases q1 : Dn + 1 = R.size
                · have t1 : ((Dn : Int) == (R.size : Int) - 1) = true := by rw [beq_iff_eq]; omega
                  have HF := Lib.hid (HP.out.trans (if_pos (Or.inr q1)))
                  clear HP HALL hB
                  go_wp2
                  go_ret2
                  exact ⟨by rw [HF.out]; rfl, Below.refl _ _⟩
                · have t1 : ((Dn : Int) == (R.size : Int) - 1) = false := by rw [beq_eq_false_iff_ne]; omega
                  have HP2 := Lib.hid (HP.out.trans (if_neg (by omega)))
                  obtain ⟨R2, hR2⟩ : ∃ R2 : ByteArray, R2 = R.extract (min (Dn + 1) R.size) R.size := ⟨_, rfl⟩
                  have hd2 : R2.data.toList = l.drop B := by rw [hR2, ← hB, extract_list, HRL.out]
                  have hl2 : R2.size ≤ R.size := by
                    have := congrArg List.length hd2
                    rw [List.length_drop, HLN.out] at this
                    have h3 : R2.size = R2.data.toList.length := rfl
                    omega
                  have cf := fix_fraction R2 (by omega) (by rw [hd2]; exact HALL.out)
                  rw [hd2] at cf
                  have hFn := frac_num (l.drop B) HALL.out
                  have hFr := frac_rest (l.drop B) HALL.out
                  have hlt := dbls_lt 16 _ (dgs_digs _ HALL.out)
                  obtain ⟨T, hT⟩ : ∃ T, T = l.drop B := ⟨_, rfl⟩
                  rw [← hT] at cf hFn hFr hlt HP2
                  obtain ⟨N, hN⟩ : ∃ N, N = (dbls 16 (dgs T)).1 := ⟨_, rfl⟩
                  have hfp := fun e (h : FracPost T e) => h
                  unfold FracPost at hfp cf
                  rw [← hN] at hFn hlt cf
                  rw [← hFn, ← hFr] at HP2
                  obtain ⟨V, hV⟩ : ∃ V, V = vd (dbls 16 (dgs T)).2 := ⟨_, rfl⟩
                  rw [← hV] at HP2 cf
                  have lN : N < 65536 := by have : (2 : Nat) ^ 16 = 65536 := rfl; omega
                  rw [hR2] at cf
                  have CF := Lib.hid cf
                  have mB : min ((Dn : Int) + 1) (R.size : Int) = (B : Int) := by omega
                  have m1 : IntKind.i64.wrap ((n : Int) * 65536) = n * 65536 := by rw [IntKind.wrap_i64]; omega
                  clear cf hfp hFn hFr hlt hT hN hV hR2 hd2 HP HALL
                  go_wp2_with fail
                  refine (CF.out _).mono ?_
                  rintro e w2 ⟨⟨hv, rfl⟩ | ⟨hv, rfl⟩, hb2⟩
                  · have HF := Lib.hid (HP2.out.trans (if_pos hv))
                    go_wp2
                    go_ret2
                    exact ⟨by rw [HF.out]; rfl, hb2⟩
                  · have HP3 := Lib.hid (HP2.out.trans (if_neg (by omega)))
                    by_cases hbig : 1099511627776 < n * 65536 + N
                    · have HF := Lib.hid (HP3.out.trans (if_pos hbig))
                      go_wp2
                      go_ret2
                      exact ⟨by rw [HF.out]; rfl, hb2⟩
                    · have HF := Lib.hid (HP3.out.trans (if_neg hbig))
                      have HSV := Lib.hid (show sgn s.data.toList (n * 65536 + N) = -((n : Int) * 65536 + N) by unfold sgn; rw [if_pos HSG.out]; omega)
                      go_wp2
                      go_ret2
                      refine ⟨?_, hb2⟩
                      rw [HF.out]
                      show _ = Ending.returned (.tuple #[.int .i64 (sgn s.data.toList (n * 65536 + N)), .int .i64 0])
                      rw [HSV.out]
                      rfl
      · have t0 : ((s[0].toNat : Int) == 45) = false := by rw [beq_eq_false_iff_ne]; omega
        have h45b : ¬ s[0] = 45 := fun h => h45 (by rw [h]; rfl)
        have HSG := Lib.hid (show ¬ s.data.toList.head? = some 45 by rw [hhd]; simpa using h45b)
        have hRL : s.data.toList = restL s.data.toList := by unfold restL; rw [if_neg HSG.out]
        obtain ⟨l, hl⟩ : ∃ l, l = s.data.toList := ⟨_, rfl⟩
        have HLN := Lib.hid (show l.length = s.size by rw [hl]; rfl)
        have HR := Lib.hid (show l = restL s.data.toList from hl.trans hRL)
        have HRL := Lib.hid hl.symm
        have hm40 : s.size ≤ 40 := by
          have h1 := restL_len s.data.toList
          rw [← HR.out, HLN.out] at h1
          have h2 : s.data.toList.length = s.size := rfl
          omega
        clear hRL hl
        clear hhd h45b e0
        go_enter Tryd.func5, Tryd.ntmps5
        go_wp2_with fail
        go_loopg [5, 6, 7] s.size (fun gk v5 v6 v7 wx => ∃ (k n : Nat) (d : Int), k ≤ s.size ∧ gk = s.size - k ∧ v5 = .int .i64 n ∧ v6 = .int .i64 d ∧ v7 = .int .i64 k ∧ n ≤ 1073741824 ∧ -1 ≤ d ∧ d < (k : Int) ∧ scan l 0 0 (-1) = scan (l.drop k) k n d ∧ wx = w)
        case atStart => exact ⟨0, 0, -1, Nat.zero_le _, rfl, rfl, rfl, rfl, by omega, by omega, by omega, rfl, rfl⟩
        case round =>
          obtain ⟨k, n, d, h1, h2, rfl, rfl, rfl, hn, hd1, hd2, hsc, rfl⟩ := hrel
          have HSC := Lib.hid hsc
          have H2 := Lib.hid h2
          clear hsc h2
          by_cases hlt : k < s.size
          · have hkR : k < s.size := hlt
            have hkl : k < l.length := by rw [HLN.out]; exact hlt
            have hg : s[k] = l[k] := by
              have : l[k] = s.data.toList[k]'(by rw [HRL.out]; exact hkl) := by simp only [HRL.out]
              rw [this]; rfl
            have hst := HSC.out
            rw [List.drop_eq_getElem_cons hkl, scan_cons] at hst
            rw [← hg] at hst
            have hz256 := (s[k]).toNat_lt
            have HE := Lib.hid (show s[k] = 46 ↔ (s[k]).toNat = 46 from ⟨fun h => by rw [h]; rfl, fun h => UInt8.toNat_inj.1 h⟩)
            have HDG := Lib.hid (show dgB s[k] = (decide (48 ≤ (s[k]).toNat) && decide ((s[k]).toNat ≤ 57)) from rfl)
            have HST := Lib.hid hst
            clear hst hg hkl
            by_cases c46 : (s[k]).toNat = 46
            · have p46 : (((s[k]).toNat : Int) == 46) = true := by simp [c46]
              by_cases cd : d < 0
              · have HN := Lib.hid (HST.out.trans (if_pos ⟨HE.out.2 c46, cd⟩))
                go_wp2
                go_roundg (s.size - (k + 1))
                case measure => rw [H2.out]; omega
                case rel => exact ⟨k + 1, n, (k : Int), by omega, rfl, rfl, rfl, by go_num, by omega, by omega, by omega, by rw [HN.out]; rfl, rfl⟩
              · have HN0 := Lib.hid (HST.out.trans (if_neg (fun h => cd h.2)))
                have HN := Lib.hid (HN0.out.trans (if_pos (by rw [HDG.out]; simp; omega)))
                have HF := Lib.hid (readP_none _ h40 (by rw [← HR.out]; exact HN.out))
                go_wp2
                go_ret2
                exact ⟨by rw [HF.out]; rfl, Below.refl _ _⟩
            · have p46 : (((s[k]).toNat : Int) == 46) = false := by rw [beq_eq_false_iff_ne]; omega
              have HN0 := Lib.hid (HST.out.trans (if_neg (fun h => c46 (HE.out.1 h.1))))
              by_cases cg : 48 ≤ (s[k]).toNat ∧ (s[k]).toNat ≤ 57
              · obtain ⟨g1, g2⟩ := cg
                have HN1 := Lib.hid (HN0.out.trans (if_neg (by rw [HDG.out]; simp; omega)))
                by_cases cd : d < 0
                · have HN := Lib.hid (HN1.out.trans (if_pos cd))
                  have m1 : IntKind.u8.wrap (((s[k]).toNat : Int) - 48) = (s[k]).toNat - 48 := by rw [IntKind.wrap_u8]; omega
                  go_wp2
                  go_roundg (s.size - (k + 1))
                  case measure => rw [H2.out]; omega
                  case rel => exact ⟨k + 1, min (n * 10 + ((s[k]).toNat - 48)) 1073741824, d, by omega, rfl, by go_num, rfl, by go_num, by omega, by omega, by omega, by rw [HN.out]; rfl, rfl⟩
                · have HN := Lib.hid (HN1.out.trans (if_neg cd))
                  go_wp2
                  go_roundg (s.size - (k + 1))
                  case measure => rw [H2.out]; omega
                  case rel => exact ⟨k + 1, n, d, by omega, rfl, rfl, rfl, by go_num, by omega, by omega, by omega, by rw [HN.out]; rfl, rfl⟩
              · have HN := Lib.hid (HN0.out.trans (if_pos (by rw [HDG.out]; simp; omega)))
                have HF := Lib.hid (readP_none _ h40 (by rw [← HR.out]; exact HN.out))
                by_cases cg1 : (s[k]).toNat < 48
                · go_wp2
                  go_ret2
                  exact ⟨by rw [HF.out]; rfl, Below.refl _ _⟩
                · go_wp2
                  go_ret2
                  exact ⟨by rw [HF.out]; rfl, Below.refl _ _⟩
          · have hk : k = s.size := by omega
            have hfin : scan l 0 0 (-1) = some (n, d) := by rw [HSC.out, hk, ← HLN.out, List.drop_length, scan_nil]
            replace HSC := Lib.hid hfin
            clear hfin H2
            by_cases cd : d < 0
            · have HDN := Lib.hid (show ((s.size : Nat) : Int) = if d < 0 then (l.length : Int) else d by rw [if_pos cd, HLN.out])
              obtain ⟨B, hB⟩ : ∃ B, B = min (s.size + 1) s.size := ⟨_, rfl⟩
              have hBm : B ≤ s.size := by omega
              have hall := scan_tail l n s.size B d HSC.out HDN.out (by rw [HLN.out]; exact hB.symm)
              have hP := readP_some s.data.toList l n s.size B d h40 HR.out HSC.out HDN.out (by rw [HLN.out]; exact hB.symm)
              rw [HLN.out] at hP
              have HP := Lib.hid hP
              have HALL := Lib.hid hall
              clear hP hall
              by_cases q0 : s.size = 0
              · have t0 : ((s.size : Int) == 0) = true := by simp [q0]
                have HF := Lib.hid (HP.out.trans (if_pos (Or.inl q0)))
                clear HP HALL hB
                go_wp2
                go_ret2
                exact ⟨by rw [HF.out]; rfl, Below.refl _ _⟩
              · have t0 : ((s.size : Int) == 0) = false := by rw [beq_eq_false_iff_ne]; omega
                by_cases q1 : s.size + 1 = s.size
                · have t1 : ((s.size : Int) == (s.size : Int) - 1) = true := by rw [beq_iff_eq]; omega
                  have HF := Lib.hid (HP.out.trans (if_pos (Or.inr q1)))
                  clear HP HALL hB
                  go_wp2
                  go_ret2
                  exact ⟨by rw [HF.out]; rfl, Below.refl _ _⟩
                · have t1 : ((s.size : Int) == (s.size : Int) - 1) = false := by rw [beq_eq_false_iff_ne]; omega
                  have HP2 := Lib.hid (HP.out.trans (if_neg (by omega)))
                  obtain ⟨R2, hR2⟩ : ∃ R2 : ByteArray, R2 = ByteArray.empty := ⟨_, rfl⟩
                  have hd2 : R2.data.toList = l.drop B := by rw [hR2, show B = l.length by rw [HLN.out]; omega, List.drop_length]; rfl
                  have hl2 : R2.size ≤ s.size := by
                    have := congrArg List.length hd2
                    rw [List.length_drop, HLN.out] at this
                    have h3 : R2.size = R2.data.toList.length := rfl
                    omega
                  have cf := fix_fraction R2 (by omega) (by rw [hd2]; exact HALL.out)
                  rw [hd2] at cf
                  have hFn := frac_num (l.drop B) HALL.out
                  have hFr := frac_rest (l.drop B) HALL.out
                  have hlt := dbls_lt 16 _ (dgs_digs _ HALL.out)
                  obtain ⟨T, hT⟩ : ∃ T, T = l.drop B := ⟨_, rfl⟩
                  rw [← hT] at cf hFn hFr hlt HP2
                  obtain ⟨N, hN⟩ : ∃ N, N = (dbls 16 (dgs T)).1 := ⟨_, rfl⟩
                  have hfp := fun e (h : FracPost T e) => h
                  unfold FracPost at hfp cf
                  rw [← hN] at hFn hlt cf
                  rw [← hFn, ← hFr] at HP2
                  obtain ⟨V, hV⟩ : ∃ V, V = vd (dbls 16 (dgs T)).2 := ⟨_, rfl⟩
                  rw [← hV] at HP2 cf
                  have lN : N < 65536 := by have : (2 : Nat) ^ 16 = 65536 := rfl; omega
                  rw [hR2] at cf
                  have CF := Lib.hid cf
                  have mB : min ((s.size : Int) + 1) (s.size : Int) = (B : Int) := by omega
                  have m1 : IntKind.i64.wrap ((n : Int) * 65536) = n * 65536 := by rw [IntKind.wrap_i64]; omega
                  clear cf hfp hFn hFr hlt hT hN hV hR2 hd2 HP HALL
                  go_wp2_with fail
                  refine (CF.out _).mono ?_
                  rintro e w2 ⟨⟨hv, rfl⟩ | ⟨hv, rfl⟩, hb2⟩
                  · have HF := Lib.hid (HP2.out.trans (if_pos hv))
                    go_wp2
                    go_ret2
                    exact ⟨by rw [HF.out]; rfl, hb2⟩
                  · have HP3 := Lib.hid (HP2.out.trans (if_neg (by omega)))
                    by_cases hbig : 1099511627776 < n * 65536 + N
                    · have HF := Lib.hid (HP3.out.trans (if_pos hbig))
                      go_wp2
                      go_ret2
                      exact ⟨by rw [HF.out]; rfl, hb2⟩
                    · have HF := Lib.hid (HP3.out.trans (if_neg hbig))
                      have HSV := Lib.hid (show sgn s.data.toList (n * 65536 + N) = (n : Int) * 65536 + N by unfold sgn; rw [if_neg HSG.out]; omega)
                      go_wp2
                      go_ret2
                      refine ⟨?_, hb2⟩
                      rw [HF.out]
                      show _ = Ending.returned (.tuple #[.int .i64 (sgn s.data.toList (n * 65536 + N)), .int .i64 0])
                      rw [HSV.out]
                      rfl
            · obtain ⟨Dn, rfl⟩ : ∃ Dn : Nat, d = Dn := ⟨d.toNat, by omega⟩
              have HDN := Lib.hid (show ((Dn : Nat) : Int) = if (Dn : Int) < 0 then (l.length : Int) else Dn by rw [if_neg cd])
              obtain ⟨B, hB⟩ : ∃ B, B = min (Dn + 1) s.size := ⟨_, rfl⟩
              have hBm : B ≤ s.size := by omega
              have hall := scan_tail l n Dn B (Dn : Int) HSC.out HDN.out (by rw [HLN.out]; exact hB.symm)
              have hP := readP_some s.data.toList l n Dn B (Dn : Int) h40 HR.out HSC.out HDN.out (by rw [HLN.out]; exact hB.symm)
              rw [HLN.out] at hP
              have HP := Lib.hid hP
              have HALL := Lib.hid hall
              clear hP hall
              by_cases q0 : Dn = 0
              · have t0 : ((Dn : Int) == 0) = true := by simp [q0]
                have HF := Lib.hid (HP.out.trans (if_pos (Or.inl q0)))
                clear HP HALL hB
                go_wp2
                go_ret2
                exact ⟨by rw [HF.out]; rfl, Below.refl _ _⟩
              · have t0 : ((Dn : Int) == 0) = false := by rw [beq_eq_false_iff_ne]; omega
                by_cases q1 : Dn + 1 = s.size
                · have t1 : ((Dn : Int) == (s.size : Int) - 1) = true := by rw [beq_iff_eq]; omega
                  have HF := Lib.hid (HP.out.trans (if_pos (Or.inr q1)))
                  clear HP HALL hB
                  go_wp2
                  go_ret2
                  exact ⟨by rw [HF.out]; rfl, Below.refl _ _⟩
                · have t1 : ((Dn : Int) == (s.size : Int) - 1) = false := by rw [beq_eq_false_iff_ne]; omega
                  have HP2 := Lib.hid (HP.out.trans (if_neg (by omega)))
                  obtain ⟨R2, hR2⟩ : ∃ R2 : ByteArray, R2 = s.extract (min (Dn + 1) s.size) s.size := ⟨_, rfl⟩
                  have hd2 : R2.data.toList = l.drop B := by rw [hR2, ← hB, extract_list, HRL.out]
                  have hl2 : R2.size ≤ s.size := by
                    have := congrArg List.length hd2
                    rw [List.length_drop, HLN.out] at this
                    have h3 : R2.size = R2.data.toList.length := rfl
                    omega
                  have cf := fix_fraction R2 (by omega) (by rw [hd2]; exact HALL.out)
                  rw [hd2] at cf
                  have hFn := frac_num (l.drop B) HALL.out
                  have hFr := frac_rest (l.drop B) HALL.out
                  have hlt := dbls_lt 16 _ (dgs_digs _ HALL.out)
                  obtain ⟨T, hT⟩ : ∃ T, T = l.drop B := ⟨_, rfl⟩
                  rw [← hT] at cf hFn hFr hlt HP2
                  obtain ⟨N, hN⟩ : ∃ N, N = (dbls 16 (dgs T)).1 := ⟨_, rfl⟩
                  have hfp := fun e (h : FracPost T e) => h
                  unfold FracPost at hfp cf
                  rw [← hN] at hFn hlt cf
                  rw [← hFn, ← hFr] at HP2
                  obtain ⟨V, hV⟩ : ∃ V, V = vd (dbls 16 (dgs T)).2 := ⟨_, rfl⟩
                  rw [← hV] at HP2 cf
                  have lN : N < 65536 := by have : (2 : Nat) ^ 16 = 65536 := rfl; omega
                  rw [hR2] at cf
                  have CF := Lib.hid cf
                  have mB : min ((Dn : Int) + 1) (s.size : Int) = (B : Int) := by omega
                  have m1 : IntKind.i64.wrap ((n : Int) * 65536) = n * 65536 := by rw [IntKind.wrap_i64]; omega
                  clear cf hfp hFn hFr hlt hT hN hV hR2 hd2 HP HALL
                  go_wp2_with fail
                  refine (CF.out _).mono ?_
                  rintro e w2 ⟨⟨hv, rfl⟩ | ⟨hv, rfl⟩, hb2⟩
                  · have HF := Lib.hid (HP2.out.trans (if_pos hv))
                    go_wp2
                    go_ret2
                    exact ⟨by rw [HF.out]; rfl, hb2⟩
                  · have HP3 := Lib.hid (HP2.out.trans (if_neg (by omega)))
                    by_cases hbig : 1099511627776 < n * 65536 + N
                    · have HF := Lib.hid (HP3.out.trans (if_pos hbig))
                      go_wp2
                      go_ret2
                      exact ⟨by rw [HF.out]; rfl, hb2⟩
                    · have HF := Lib.hid (HP3.out.trans (if_neg hbig))
                      have HSV := Lib.hid (show sgn s.data.toList (n * 65536 + N) = (n : Int) * 65536 + N by unfold sgn; rw [if_neg HSG.out]; omega)
                      go_wp2
                      go_ret2
                      refine ⟨?_, hb2⟩
                      rw [HF.out]
                      show _ = Ending.returned (.tuple #[.int .i64 (sgn s.data.toList (n * 65536 + N)), .int .i64 0])
                      rw [HSV.out]
                      rfl
end Go.Proofs.YtgkmiobabojfiaaDoor
