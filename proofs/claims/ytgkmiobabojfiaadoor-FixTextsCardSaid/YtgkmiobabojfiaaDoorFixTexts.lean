/- The law FixTexts: the walk. -/
import Derived.Test.YtgkmiobabojfiaaDoorFixNmb
import Derived.Test.YtgkmiobabojfiaaDoorFixRead
import Derived.Test.YtgkmiobabojfiaaDoorFixText
namespace Go.Proofs.YtgkmiobabojfiaaDoor
open Go.ChangeShapes Go.WideShapes Go.ChangeAt Go.RowKit Go.Mem
set_option linter.unusedVariables false
theorem powAt_of (W : World) (h : laidMetH Tryd.prog Rows.fixTextsRow.laid W) : PowAt W := by
  rw [MakeChecks.laidMetH_plain _ _ _ (by kernel_rfl)] at h
  have h2 : laidMet Tryd.prog (("internal/strconv.uint64pow10", (Lib.tabData .u64 Lib.pow10Tab : DataW Unit)) :: Rows.fixTextsRow.laid.drop 3) W := by
    have e : ("internal/strconv.uint64pow10", (Lib.tabData .u64 Lib.pow10Tab : DataW Unit)) :: Rows.fixTextsRow.laid.drop 3 = Rows.fixTextsRow.laid.drop 2 := by kernel_rfl
    rw [e]
    exact laidMet.tail (laidMet.tail h)
  exact Lib.tabIs_of_head (g := 5) (t := 109) (e := 29) (n := 20) (by kernel_rfl) (by kernel_rfl) (by kernel_rfl) (by kernel_rfl) (by kernel_rfl) (by kernel_rfl) h2
theorem text_half : textL (decide (lim (-98304) < 0)) (lim (-98304)).natAbs = [45, 49, 46, 53] := by
  have h1 : lim (-98304) = -98304 := lim_id _ (by decide) (by decide)
  rw [h1]
  show textL true 98304 = _
  unfold textL
  rw [show 98304 / 65536 = 1 from rfl, show 98304 % 65536 = 32768 from rfl, Lib.decDigits, dif_pos (by decide)]
  decide
set_option maxHeartbeats 2000000 in
theorem walk_FixTexts (a : Int) (s : ByteArray) (W : World) (hL : laidMetH Tryd.prog Rows.fixTextsRow.laid W) (hsh : W.ShapedOpen Tryd.prog) : Calls Tryd.prog 3 #[.int .i64 a, .string s] W fun e W' => e = .returned (.bool true) ∧ Below W.heap.size W W' := by
  have HP := Lib.hid (powAt_of W hL)
  have HM := Lib.hid (maxAt_of W hsh)
  clear hL hsh
  have c1 := fix_Text (-98304)
  rw [text_half] at c1
  have c2 := fix_Read s
  have c3 := fun w => ref_Number s w
  rw [← read_eq] at c3
  obtain ⟨n, hn⟩ : ∃ n, n = (readP s.data.toList).1 := ⟨_, rfl⟩
  obtain ⟨f, hf⟩ : ∃ f, f = (readP s.data.toList).2 := ⟨_, rfl⟩
  rw [← hn, ← hf] at c2 c3
  have c4 := fix_Text a
  have c5 := fun w => ref_Decimal a w
  obtain ⟨X, hX⟩ : ∃ X : ByteArray, X = ⟨(textL (decide (lim a < 0)) (lim a).natAbs).toArray⟩ := ⟨_, rfl⟩
  rw [← hX] at c4 c5
  have C1 := Lib.hid c1
  have C2 := Lib.hid c2
  have C3 := Lib.hid c3
  have C4 := Lib.hid c4
  have C5 := Lib.hid c5
  clear c1 c2 c3 c4 c5 hn hf hX
  go_enter Tryd.func3, Tryd.ntmps3
  go_wp2_with fail
  refine (C1.out W).mono ?_
  rintro e w1 ⟨rfl, hb1⟩
  go_wp2_with fail
  refine (C2.out w1).mono ?_
  rintro e w2 ⟨rfl, hb2⟩
  have hb := bt hb1 hb2
  have hm := HM.out.below hb (Nat.le_refl _)
  clear hb1 hb2
  go_wp2_with fail
  refine (C3.out w2 hm).mono ?_
  rintro e w3 ⟨rfl, hb3⟩
  have hb' := bt hb hb3
  clear hb hb3 hm
  go_wp2_with fail
  refine (C4.out w3).mono ?_
  rintro e w4 ⟨rfl, hb4⟩
  have hb := bt hb' hb4
  have hp := HP.out.below hb (Nat.le_refl _)
  clear hb' hb4
  go_wp2_with fail
  refine (C5.out w4 hp).mono ?_
  rintro e w5 ⟨rfl, hb5⟩
  go_wp2
  go_ret
  exact ⟨by simp, bt hb hb5⟩
end Go.Proofs.YtgkmiobabojfiaaDoor
