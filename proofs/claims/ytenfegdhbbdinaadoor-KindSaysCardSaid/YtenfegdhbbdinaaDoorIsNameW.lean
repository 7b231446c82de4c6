/- ref IsName. -/
import Derived.Test.YtenfegdhbbdinaaDoorNameW
import Derived.Test.YtenfegdhbbdinaaDoorTrimL
import Derived.Below
namespace Go.Proofs.YtenfegdhbbdinaaDoor
open Go.ChangeShapes Go.WideShapes Go.ChangeAt Go.RowKit Go.Nm Go.Shelf Go.Lib
set_option linter.unusedVariables false
def alphaB : ByteArray := ⟨#[97, 98, 99, 100, 101, 102, 103, 104, 105, 106, 107, 108, 109, 110, 111, 112, 113, 114, 115, 116, 117, 118, 119, 120, 121, 122, 48, 49, 50, 51, 52, 53, 54, 55, 56, 57]⟩
theorem Trim_alpha (s : ByteArray) (hs : s.size ≤ 9223372036854775807) (w : World) : Calls Tryd.prog 41 #[.string s, .string ⟨#[97, 98, 99, 100, 101, 102, 103, 104, 105, 106, 107, 108, 109, 110, 111, 112, 113, 114, 115, 116, 117, 118, 119, 120, 121, 122, 48, 49, 50, 51, 52, 53, 54, 55, 56, 57]⟩] w fun e w' => e = .returned (.string ⟨(Lib.trimS s.data.toList alpha).toArray⟩) ∧ Below w.heap.size w w' :=
  Any.strings_Trim_laid Tryd.lays160 (by kernel_rfl) s alphaB w hs (by decide) (ascii_of_all (by decide))
set_option maxHeartbeats 1000000 in
theorem ref_IsName (s : ByteArray) (hs : s.size ≤ 9223372036854775807) (w : World) : Calls Tryd.prog 11 #[.string s] w fun e w' => e = .returned (.bool (nameB s.data.toList)) ∧ Below w.heap.size w w' := by
  obtain ⟨R, hR⟩ : ∃ R, R = nameB s.data.toList := ⟨_, rfl⟩
  rw [← hR]
  have HR := Lib.hid hR
  have HT := Lib.hid (Trim_alpha s hs)
  clear hR
  by_cases h0 : s.size = 0
  · have HF := Lib.hid (name_nil _ ((len_data s).trans h0))
    have e0 : s.toList = [] := by
      rw [Lib.toList_data]; exact List.eq_nil_of_length_eq_zero h0
    have e1 : s.toList.isEmpty = true := by rw [e0]; rfl
    go_enter Tryd.func11, Tryd.ntmps11
    go_wp2_with fail
    go_ret
    exact ⟨by rw [HR.out, HF.out]; rfl, Below.refl _ _⟩
  · have e0 : s.toList ≠ [] := by
      rw [Lib.toList_data]; intro h; have := congrArg List.length h; rw [len_data] at this; exact h0 this
    have e1 : s.toList.isEmpty = false := by simpa using e0
    have hpos : 0 < s.size := by omega
    by_cases h1 : 16 < s.size
    · have HF := Lib.hid (name_long _ (by rw [len_data]; exact h1))
      go_enter Tryd.func11, Tryd.ntmps11
      go_wp2_with fail
      go_ret
      exact ⟨by rw [HR.out, HF.out]; rfl, Below.refl _ _⟩
    · have h2 : s.size ≤ 16 := by omega
      clear h1
      obtain ⟨r, hr⟩ : ∃ r : ByteArray, r = ⟨(Lib.trimS s.data.toList alpha).toArray⟩ := ⟨_, rfl⟩
      have hrl : r.toList = Lib.trimS s.data.toList alpha := by rw [hr, Lib.toList_data]
      rw [← hr] at HT
      have HRL := Lib.hid hrl
      clear hr hrl
      by_cases h3 : Lib.trimS s.data.toList alpha = []
      · have r0 : r.toList = [] := by rw [HRL.out, h3]
        have r1 : r.toList.isEmpty = true := by rw [r0]; rfl
        have hn := name_ref s.data.toList (by rw [len_data]; exact hpos) (by rw [len_data]; exact h2) h3
        have hg : s.data.toList.getD 0 0 = s[0] := by
          rw [List.getD_eq_getElem?_getD, List.getElem?_eq_getElem hpos]; rfl
        rw [hg] at hn
        by_cases h4 : 57 < s[0].toNat
        · have HF := Lib.hid (hn.trans (decide_eq_true h4))
          have t4 : decide ((57 : Int) < (s[0].toNat : Int)) = true := decide_eq_true (by omega)
          clear hn hg h3
          go_enter Tryd.func11, Tryd.ntmps11
          go_wp2_with fail
          refine (HT.out _).mono ?_
          rintro e w1 ⟨rfl, hb1⟩
          go_wp2_with fail
          go_ret
          exact ⟨by rw [HR.out, HF.out]; rfl, hb1⟩
        · have HF := Lib.hid (hn.trans (decide_eq_false h4))
          have t4 : decide ((57 : Int) < (s[0].toNat : Int)) = false := decide_eq_false (by omega)
          clear hn hg h3
          go_enter Tryd.func11, Tryd.ntmps11
          go_wp2_with fail
          refine (HT.out _).mono ?_
          rintro e w1 ⟨rfl, hb1⟩
          go_wp2_with fail
          go_ret
          exact ⟨by rw [HR.out, HF.out]; rfl, hb1⟩
      · have HF := Lib.hid (name_trim s.data.toList h3)
        have r0 : r.toList ≠ [] := by rw [HRL.out]; exact h3
        have r1 : r.toList.isEmpty = false := by simpa using r0
        clear h3
        go_enter Tryd.func11, Tryd.ntmps11
        go_wp2_with fail
        refine (HT.out _).mono ?_
        rintro e w1 ⟨rfl, hb1⟩
        go_wp2_with fail
        go_ret
        exact ⟨by rw [HR.out, HF.out]; rfl, hb1⟩
end Go.Proofs.YtenfegdhbbdinaaDoor
