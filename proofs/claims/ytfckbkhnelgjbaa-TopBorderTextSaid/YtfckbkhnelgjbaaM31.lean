/- Lemmas for the law TopBorderText: BText. No conditions. -/
import Derived.Test.YtfckbkhnelgjbaaM23
import Derived.Test.YtfckbkhnelgjbaaM25
import Derived.Test.YtfckbkhnelgjbaaM26
import Derived.Test.YtfckbkhnelgjbaaM27
import Derived.Test.YtfckbkhnelgjbaaM28
import Derived.Test.YtfckbkhnelgjbaaM30
/- TopBorderText: the closure twice, and the law's walk. -/
section
namespace Go.Proofs.Ytfckbkhnelgjbaa
open Go.ChangeShapes Go.WideShapes Go.ChangeAt Go.RowKit Go.Mem
set_option linter.unusedVariables false
theorem text_back (a : Int) : readP (textL (decide (lim a < 0)) (lim a).natAbs) = (lim a, 0) := by
  have hb := lim_bd a
  rw [read_text _ _ (by omega)]
  congr 1
  by_cases h : lim a < 0
  · rw [decide_eq_true h]; simp; omega
  · rw [decide_eq_false h]; simp; omega
theorem half_text : textL (decide (lim (-98304) < 0)) (lim (-98304)).natAbs = [45, 49, 46, 53] := by
  have h1 : lim (-98304) = -98304 := by unfold lim; omega
  rw [h1]
  have h2 : Lib.decDigits 1 = [49] := by rw [Lib.decDigits]; rfl
  unfold textL
  simp [h2]
  decide
theorem thr_lim (a b c : Int) : thr (lim a) (lim b) c = thr a b c := by unfold thr; rw [lim_lim, lim_lim]
theorem lim_thr (a b c : Int) : lim (thr a b c) = thr a b c := by
  unfold thr
  split
  · rfl
  · exact lim_lim _
set_option maxRecDepth 20000 in
theorem twice_w (a : Int) (w : World) : Calls Try.prog 13 #[.int .i64 a] w fun e w' => e = .returned (.tuple #[.int .i64 (lim a), .bool true]) ∧ Below w.heap.size w w' := by
  obtain ⟨T, hT⟩ : ∃ T, T = textL (decide (lim a < 0)) (lim a).natAbs := ⟨_, rfl⟩
  have hr := text_back a
  rw [← hT] at hr
  have CT := fun w => fix_Text a w
  have CC := fun w => fix_Clamp a w
  obtain ⟨A, hA⟩ : ∃ A, A = lim a := ⟨_, rfl⟩
  have hAA : lim A = A := by rw [hA]; exact lim_lim a
  obtain ⟨b1, b2, b3⟩ := border_back A hAA
  rw [← hT] at CT
  rw [← hA] at CC hr ⊢
  have CR := fun w => fix_Read ⟨T.toArray⟩ w
  have e : (⟨T.toArray⟩ : ByteArray).data.toList = T := rfl
  rw [e, hr] at CR
  have CB := fun w => To_ok A hAA w
  have CF := fun w => From_any (wordF A) b3 w
  rw [b1, b2] at CF
  have HT := Lib.hid CT
  have HC := Lib.hid CC
  have HR := Lib.hid CR
  have HB := Lib.hid CB
  have HF := Lib.hid CF
  obtain ⟨WF, hWF⟩ : ∃ WF, WF = wordF A := ⟨_, rfl⟩
  rw [← hWF] at HB HF
  clear CT CC CR CB CF hT hr hA hAA b1 b2 b3 e hWF
  go_enter Try.func13, Try.ntmps13
  go_wp2_with fail
  refine (HT.out _).mono ?_
  rintro e w1 ⟨rfl, hb1⟩
  have HB1 := Lib.hid hb1
  clear hb1
  go_wp2_with fail
  refine (HR.out _).mono ?_
  rintro e w2 ⟨rfl, hb2⟩
  have HB2 := Lib.hid (bt HB1.out hb2)
  clear hb2
  go_wp2_with fail
  refine (HC.out _).mono ?_
  rintro e w3 ⟨rfl, rfl⟩
  go_wp2_with fail
  refine (HB.out _).mono ?_
  rintro e w4 ⟨rfl, rfl⟩
  go_wp2_with fail
  refine (HF.out _).mono ?_
  rintro e w5 ⟨rfl, rfl⟩
  go_wp2_with fail
  go_ret2
  exact ⟨rfl, HB2.out⟩
set_option maxRecDepth 20000 in
theorem walk_TopBorderText (a b : Int) (w : World) : Calls Try.prog 4 #[.int .i64 a, .int .i64 b] w fun e w' => e = .returned (.bool true) ∧ Below w.heap.size w w' := by
  have CT := fun w => fix_Text (-98304) w
  rw [half_text] at CT
  have HT := Lib.hid CT
  obtain ⟨A, hA⟩ : ∃ A, A = lim a := ⟨_, rfl⟩
  obtain ⟨B, hB⟩ : ∃ B, B = lim b := ⟨_, rfl⟩
  obtain ⟨SS, hS⟩ : ∃ S, S = lim (lim a + lim b) := ⟨_, rfl⟩
  obtain ⟨PP, hP⟩ : ∃ P, P = thr a b 65536 := ⟨_, rfl⟩
  have kA := fun w => twice_w a w
  have kB := fun w => twice_w b w
  have kS := fun w => twice_w SS w
  have kP := fun w => twice_w PP w
  have cS := fun w => fix_Add a b w
  have cP := fun w => fix_Mul a b w
  have dS := fun w => fix_Add A B w
  have dP := fun w => fix_Mul A B w
  have eS : lim (lim A + lim B) = SS := by rw [hA, hB, lim_lim, lim_lim, hS]
  have eP : thr A B 65536 = PP := by rw [hA, hB, thr_lim, hP]
  have fS : lim SS = SS := by rw [hS, lim_lim]
  have fP : lim PP = PP := by rw [hP, lim_thr]
  rw [fS] at kS
  rw [fP] at kP
  rw [eS] at dS
  rw [eP] at dP
  rw [← hS] at cS
  rw [← hP] at cP
  rw [← hA] at kA
  rw [← hB] at kB
  have KA := Lib.hid kA
  have KB := Lib.hid kB
  have KS := Lib.hid kS
  have KP := Lib.hid kP
  have CS := Lib.hid cS
  have CP := Lib.hid cP
  have DS := Lib.hid dS
  have DP := Lib.hid dP
  clear CT hA hB hS hP kA kB kS kP cS cP dS dP eS eP fS fP
  go_enter Try.func4, Try.ntmps4
  go_wp2_with fail
  refine (h6_begun _).mono ?_
  rintro e w1 ⟨rfl, hb1⟩
  have HB := Lib.hid hb1
  clear hb1
  go_wp2_with fail
  refine (HT.out _).mono ?_
  rintro e w2 ⟨rfl, hb2⟩
  replace HB := Lib.hid (bt HB.out hb2)
  clear hb2
  go_wp2_with fail
  refine (KA.out _).mono ?_
  rintro e w3 ⟨rfl, hb⟩
  replace HB := Lib.hid (bt HB.out hb)
  clear hb
  go_wp2_with fail
  refine (KB.out _).mono ?_
  rintro e w4 ⟨rfl, hb⟩
  replace HB := Lib.hid (bt HB.out hb)
  clear hb
  go_wp2_with fail
  refine (CS.out _).mono ?_
  rintro e w5 ⟨rfl, rfl⟩
  go_wp2_with fail
  refine (KS.out _).mono ?_
  rintro e w6 ⟨rfl, hb⟩
  replace HB := Lib.hid (bt HB.out hb)
  clear hb
  go_wp2_with fail
  refine (CP.out _).mono ?_
  rintro e w7 ⟨rfl, hb⟩
  replace HB := Lib.hid (bt HB.out hb)
  clear hb
  go_wp2_with fail
  refine (KP.out _).mono ?_
  rintro e w8 ⟨rfl, hb⟩
  replace HB := Lib.hid (bt HB.out hb)
  clear hb
  go_wp2_with fail
  refine (DS.out _).mono ?_
  rintro e w9 ⟨rfl, rfl⟩
  go_wp2_with fail
  refine (DP.out _).mono ?_
  rintro e w10 ⟨rfl, hb⟩
  replace HB := Lib.hid (bt HB.out hb)
  clear hb
  go_wp2_with fail
  go_ret
  exact ⟨rfl, HB.out⟩
end Go.Proofs.Ytfckbkhnelgjbaa
end
