/- Lemmas for the law TopSlotWorld: WEq, KindOne, KindCheck, KindErr, HighW, KindFit. No conditions. -/
import Derived.Test.YtpilpkbblkhnaaaM10
import Derived.Test.YtpilpkbblkhnaaaM14
import Derived.Deep.LoopGhost
import Derived.BigQuiet
import Derived.Deep.QuietTactic
import Derived.Shelf.Abstract
import Derived.Deep.RegionHeld3
import Derived.Test.YtpilpkbblkhnaaaM03
import Derived.Test.YtpilpkbblkhnaaaM04
import Derived.Deep.DeepMust
import Derived.Lib.MinMax
import Derived.Test.YtpilpkbblkhnaaaM01
import Derived.Test.YtpilpkbblkhnaaaM02
import Derived.Test.YtpilpkbblkhnaaaM06
/- Components and items held against each other, by the reference and by the program. -/
section
namespace Go.Proofs.Ytpilpkbblkhnaaa
open Go.ChangeShapes Go.WideShapes Go.ChangeAt Go.RowKit Go.Mem
set_option linter.unusedVariables false
end Go.Proofs.Ytpilpkbblkhnaaa
end
/- kind.Find, kind.Field; kind.One. -/
section
namespace Go.Proofs.Ytpilpkbblkhnaaa
open Go.ChangeShapes Go.WideShapes Go.ChangeAt Go.RowKit Go.Nm Go.Mem
set_option linter.unusedVariables false
/-- the first place of a name, or -1 -/
def firstAt (names : List ByteArray) (s : ByteArray) (k : Nat) : Int := match names with
  | [] => -1
  | a :: r => if a.toList == s.toList then (k : Int) else firstAt r s (k + 1)
theorem firstAt_none (names : List ByteArray) (s : ByteArray) (k : Nat) (h : ∀ j (hj : j < names.length), (names[j].toList == s.toList) = false) : firstAt names s k = -1 := by
  induction names generalizing k with
  | nil => rfl
  | cons a r ih =>
    have h0 := h 0 (by simp)
    simp only [List.getElem_cons_zero] at h0
    unfold firstAt
    rw [h0]
    exact ih (k + 1) fun j hj => by have := h (j + 1) (by simp; omega); simpa using this
theorem firstAt_some (names : List ByteArray) (s : ByteArray) (k i : Nat) (hi : i < names.length) (h : ∀ j (hj : j < names.length), j < i → (names[j].toList == s.toList) = false) (h1 : (names[i].toList == s.toList) = true) : firstAt names s k = ((k + i : Nat) : Int) := by
  induction names generalizing k i with
  | nil => exact absurd hi (by simp)
  | cons a r ih =>
    unfold firstAt
    rcases i with _ | i
    · simp only [List.getElem_cons_zero] at h1
      rw [h1]; rfl
    · have h0 := h 0 (by simp) (by omega)
      simp only [List.getElem_cons_zero] at h0
      rw [h0]
      have := ih (k + 1) i (by simpa using hi) (fun j hj hji => by have := h (j + 1) (by simp; omega) (by omega); simpa using this) (by simpa using h1)
      rw [show (k + (i + 1)) = k + 1 + i by omega]
      exact this
set_option maxHeartbeats 4000000 in
theorem kind_Find (l : List KindV) (a : Option Addr) (n cap : Nat) (s : ByteArray) (hn : l.length = n) (h1 : n ≤ 17592186044000) (W : World) (hz : SlAt 2 KindAt W a l) :
    Calls Try.prog 64 #[.slice a n cap, .string s] W fun e w' => e = .returned (.int .i64 (firstAt (l.map (·.name)) s 0)) ∧ Below W.heap.size W w' := by
  obtain ⟨R, hR⟩ : ∃ R, R = firstAt (l.map (·.name)) s 0 := ⟨_, rfl⟩
  rw [← hR]
  have HR := Lib.hid hR
  have HN := Lib.hid hn
  have HZ := Lib.hid hz
  clear hR hn hz
  go_enter Try.func64, Try.ntmps64
  go_wp2_with fail
  go_loopg [5, 6, 9] n (fun gk v5 v6 vi wx => ∃ i : Nat, i ≤ n ∧ gk = n - i ∧ vi = .int .i64 i ∧ (∀ j (h : j < l.length), j < i → (l[j].name.toList == s.toList) = false) ∧ Below W.heap.size W wx)
  case atStart => exact ⟨0, Nat.zero_le _, rfl, rfl, fun j h h2 => absurd h2 (by omega), Below.refl _ _⟩
  case round =>
    obtain ⟨i, hi, g2, rfl, hat, hb⟩ := hrel
    have G2 := Lib.hid g2
    have HAT := Lib.hid hat
    have HB := Lib.hid hb
    have hbs := hb.size
    clear g2 hat hb
    by_cases hlt : i < n
    · obtain ⟨x, rfl, hx, hix⟩ := (HZ.out.below KindAt.abides HB.out) (by rw [HN.out]; omega)
      obtain ⟨k0, k1, ay, cy, k2, k3, k4, _⟩ := hix i (by rw [HN.out]; exact hlt)
      obtain ⟨y, hy⟩ : ∃ y, y = l[i]'(by rw [HN.out]; exact hlt) := ⟨_, rfl⟩
      rw [← hy] at k0 k1 k2 k3
      have HY := Lib.hid hy
      have HB2 := Lib.hid (HB.out.alloc hbs (.cells #[.string y.name, .slice ay y.fields.length cy] 58))
      clear hix hy
      by_cases he : (y.name.toList == s.toList) = true
      · have HF := Lib.hid (show R = (i : Int) by
          rw [HR.out]
          have := firstAt_some (l.map (·.name)) s 0 i (by rw [List.length_map, HN.out]; exact hlt) (fun j hj hji => by simpa using HAT.out j (by simpa using hj) hji) (by rw [List.getElem_map, ← HY.out]; exact he)
          rw [this]; simp)
        go_wp2_with fail
        go_ret
        exact ⟨by rw [HF.out]; rfl, HB2.out⟩
      · have he2 : (y.name.toList == s.toList) = false := by simpa using he
        have HE := Lib.hid he2
        clear he
        go_wp2_with fail
        go_roundg (n - (i + 1))
        case measure => rw [G2.out]; omega
        case rel => exact ⟨i + 1, hlt, rfl, by go_num, fun j h hj => by
          by_cases hji : j < i
          · exact HAT.out j h hji
          · obtain rfl : j = i := by omega
            rw [← HY.out]; exact HE.out, HB2.out⟩
    · have HF := Lib.hid (show R = -1 by
        rw [HR.out]
        exact firstAt_none _ _ _ fun j hj => by simpa using HAT.out j (by simpa using hj) (by have h2 : j < l.length := (by simpa using hj); rw [HN.out] at h2; omega))
      go_wp2_with fail
      go_ret
      exact ⟨by rw [HF.out]; rfl, HB.out⟩
theorem dup_none {names : List ByteArray} {i : Nat} (hi : i < names.length) (h : ∀ j (hj : j < i), (names[j].toList == names[i].toList) = false) : dupAt names i = false := by
  unfold dupAt
  rw [Bool.eq_false_iff]
  intro ha
  obtain ⟨s, hs, he⟩ := List.any_eq_true.1 ha
  obtain ⟨j, hj, rfl⟩ := List.mem_iff_getElem.1 hs
  rw [List.length_take] at hj
  rw [List.getElem_take, List.getD_eq_getElem?_getD, List.getElem?_eq_getElem hi] at he
  have := h j (by omega)
  simp only [Option.getD_some] at he
  rw [this] at he
  exact absurd he (by decide)
theorem dup_some {names : List ByteArray} {i j : Nat} (hi : i < names.length) (hj : j < i) (h : (names[j].toList == names[i].toList) = true) : dupAt names i = true := by
  unfold dupAt
  rw [List.any_eq_true]
  refine ⟨names[j], ?_, ?_⟩
  · rw [List.mem_iff_getElem]
    exact ⟨j, by rw [List.length_take]; omega, by rw [List.getElem_take]⟩
  · rw [List.getD_eq_getElem?_getD, List.getElem?_eq_getElem hi]; exact h
theorem getD_at {α : Type} [Inhabited α] (l : List α) (i : Nat) (h : i < l.length) : l.getD i default = l[i] := by
  rw [List.getD_eq_getElem?_getD, List.getElem?_eq_getElem h]; rfl
theorem fld_step (l : List FieldV) (k : Nat) (h0 : fldErr l k = 0) : fldErr l (k + 1) = if okF (l.getD k default) = false then 3 else if dupAt (l.map (·.name)) k = true then 5 else 0 := by
  show (if fldErr l k ≠ 0 then _ else _) = _
  rw [if_neg (by rw [h0]; simp)]
set_option maxHeartbeats 8000000 in
theorem kind_One (k : KindV) (a : Option Addr) (n cap : Nat) (hn : k.fields.length = n) (hnm : k.name.size ≤ 9223372036854775807) (hnc : n ≤ cap) (hcm : cap ≤ 9223372036854775807) (W : World) (hz : SlAt 3 FieldAt W a k.fields) :
    Calls Try.prog 63 #[.agg #[.string k.name, .slice a n cap]] W fun e w' => e = .returned (.int .i64 (kindE k)) ∧ Below W.heap.size W w' := by
  obtain ⟨nm, l⟩ := k
  simp only at hn hnm hz ⊢
  obtain ⟨R, hR⟩ : ∃ R, R = kindE ⟨nm, l⟩ := ⟨_, rfl⟩
  rw [← hR]
  have HR := Lib.hid hR
  have HN := Lib.hid hn
  have HZ := Lib.hid hz
  have HNM := Lib.hid (kind_Name nm hnm)
  have hb0 := (Below.refl W.heap.size W).alloc (Nat.le_refl _) (.cells #[.string nm, .slice a n cap] 58)
  have x0 := heap_alloc_new W (.cells #[.string nm, .slice a n cap] 58)
  have HB0 := Lib.hid hb0
  have HX0 := Lib.hid x0
  clear hR hn hz hnm hb0 x0
  cases hnb : nameB nm.data.toList
  · have HF := Lib.hid (show R = 3 by rw [HR.out]; unfold kindE; rw [if_pos hnb])
    rw [hnb] at HNM
    clear hnb
    go_enter Try.func63, Try.ntmps63
    go_wp2_with fail
    refine (HNM.out _).mono ?_
    rintro e w1 ⟨rfl, rfl⟩
    go_wp2_with fail
    go_ret
    exact ⟨by rw [HF.out]; rfl, HB0.out⟩
  · rw [hnb] at HNM
    by_cases h8 : 8 < n
    · have HF := Lib.hid (show R = 2 by rw [HR.out]; unfold kindE; rw [if_neg (by rw [hnb]; decide), if_pos (by rw [HN.out]; exact h8)])
      clear hnb
      go_enter Try.func63, Try.ntmps63
      go_wp2_with fail
      refine (HNM.out _).mono ?_
      rintro e w1 ⟨rfl, rfl⟩
      go_wp2_with fail
      go_ret
      exact ⟨by rw [HF.out]; rfl, HB0.out⟩
    · have HF := Lib.hid (show R = fldErr l n by rw [HR.out]; unfold kindE; rw [if_neg (by rw [hnb]; decide), if_neg (by rw [HN.out]; exact h8)]; rw [HN.out])
      have h8' : n ≤ 8 := by omega
      clear hnb h8
      go_enter Try.func63, Try.ntmps63
      go_wp2_with fail
      refine (HNM.out _).mono ?_
      rintro e w1 ⟨rfl, rfl⟩
      go_wp2_with fail
      go_loopg [3, 4, 5, 19] n (fun gk v3 v4 v5 vi wx => ∃ i : Nat, i ≤ n ∧ gk = n - i ∧ vi = .int .i64 i ∧ fldErr l i = 0 ∧ wx.heap[W.heap.size]? = some (.cells #[.string nm, .slice a n cap] 58 (0, 0)) ∧ Below W.heap.size W wx)
      case atStart => exact ⟨0, Nat.zero_le _, rfl, rfl, rfl, HX0.out, HB0.out⟩
      case round =>
        obtain ⟨i, hi, g2, rfl, hfe, hx0, hb⟩ := hrel
        have G2 := Lib.hid g2
        have HFE := Lib.hid hfe
        have HX := Lib.hid hx0
        have HB := Lib.hid hb
        have hbs := hb.size
        clear g2 hfe hx0 hb
        obtain ⟨Wo, rfl⟩ : ∃ Wo : World, Wo = wr := ⟨_, rfl⟩
        by_cases hlt : i < n
        · obtain ⟨x, rfl, hx, hix⟩ := (HZ.out.below FieldAt.abides HB.out) (by rw [HN.out]; omega)
          obtain ⟨k0, k1, k2, k3⟩ := hix i (by rw [HN.out]; exact hlt)
          obtain ⟨y, hy⟩ : ∃ y, y = l[i]'(by rw [HN.out]; exact hlt) := ⟨_, rfl⟩
          rw [← hy] at k0 k1 k2 k3
          have hb2 := (Below.refl Wo.heap.size Wo).alloc (Nat.le_refl _) (.cells #[.string y.name, .int .i64 y.bits, .int .i64 y.low] 55)
          have HC := Lib.hid (kind_field y.name y.bits y.low k3 (Wo.alloc (.cells #[.string y.name, .int .i64 y.bits, .int .i64 y.low] 55)))
          have HY := Lib.hid hy
          have HB2 := Lib.hid hb2
          clear hix hy hb2
          have hst := fld_step l i HFE.out
          rw [getD_at l i (by rw [HN.out]; exact hlt), ← HY.out] at hst
          unfold okF at hst
          by_cases hok : fieldB y.name y.bits y.low = true
          · rw [hok] at HC hst
            rw [if_neg (by decide)] at hst
            have HST := Lib.hid hst
            have HC2 : Hid (Calls Try.prog 76 #[.agg #[.string y.name, .int .i64 y.bits, .int .i64 y.low]] (Wo.alloc (.cells #[.string y.name, .int .i64 y.bits, .int .i64 y.low] 55)) fun e w' => e = .returned (.int .i64 0) ∧ Below (Wo.alloc (.cells #[.string y.name, .int .i64 y.bits, .int .i64 y.low] 55)).heap.size (Wo.alloc (.cells #[.string y.name, .int .i64 y.bits, .int .i64 y.low] 55)) w') := Lib.hid HC.out
            clear hst hok HC k3
            go_wp2_with fail
            refine HC2.out.mono ?_
            rintro e w2 ⟨rfl, hb3⟩
            have hyb := heap_below (heap_alloc_new Wo (.cells #[.string y.name, .int .i64 y.bits, .int .i64 y.low] 55)) hb3
            have hxb := heap_below HX.out (HB2.out.trans (hb3.mono (by simp)))
            have hBW := HB.out.trans ((HB2.out.trans (hb3.mono (by simp))).mono hbs)
            have d1 : w2.cell? ⟨W.heap.size, 1, none⟩ = some (.slice (some x) n cap) := by rw [cell_of_row _ _ 1 _ _ _ hxb]; rfl
            have HYB := Lib.hid hyb
            have HXB := Lib.hid hxb
            have HBW := Lib.hid hBW
            have hic : i ≤ cap := by omega
            clear hb3 hyb hxb hBW HC2 HX k0 k1 k2
            go_wp2_with fail
            clear d1
            go_loopg [7, 34] i (fun gk v7 vi wx => ∃ j : Nat, j ≤ i ∧ gk = i - j ∧ vi = .int .i64 j ∧ (∀ q (h : q < l.length), q < j → (l[q].name.toList == y.name.toList) = false) ∧ wx.heap[Wo.heap.size]? = some (.cells #[.string y.name, .int .i64 y.bits, .int .i64 y.low] 55 (0, 0)) ∧ wx.heap[W.heap.size]? = some (.cells #[.string nm, .slice (some x) n cap] 58 (0, 0)) ∧ Below W.heap.size W wx)
            case atStart => exact ⟨0, Nat.zero_le _, rfl, rfl, fun q h h2 => absurd h2 (by omega), HYB.out, HXB.out, HBW.out⟩
            case round =>
              obtain ⟨j, hj, g4, rfl, hat, hyb, hxb, hb⟩ := hrel
              have G4 := Lib.hid g4
              have HAT := Lib.hid hat
              have HYB2 := Lib.hid hyb
              have HXB2 := Lib.hid hxb
              have HB5 := Lib.hid hb
              have hbs5 := hb.size
              clear g4 hat hyb hxb hb
              by_cases hji : j < i
              · obtain ⟨z, hz, hzx, hiz⟩ := (HZ.out.below FieldAt.abides HB5.out) (by rw [HN.out]; omega)
                injection hz with hz
                subst hz
                obtain ⟨m0, m1, m2, m3⟩ := hiz j (by rw [HN.out]; omega)
                obtain ⟨o, ho⟩ : ∃ o, o = l[j]'(by rw [HN.out]; omega) := ⟨_, rfl⟩
                rw [← ho] at m0 m1 m2
                have HO := Lib.hid ho
                have n0 : wr.cell? ⟨Wo.heap.size, 0, none⟩ = some (.string y.name) := by rw [cell_of_row _ _ 0 _ _ _ HYB2.out]; rfl
                have hlt2 : Wo.heap.size < wr.heap.size := lt_of_heap HYB2.out
                have HK1 := Lib.hid (heap_keep HYB2.out (.cells #[.string o.name, .int .i64 o.bits, .int .i64 o.low] 55))
                have HK2 := Lib.hid (heap_keep HXB2.out (.cells #[.string o.name, .int .i64 o.bits, .int .i64 o.low] 55))
                have HB6 := Lib.hid (HB5.out.alloc hbs5 (.cells #[.string o.name, .int .i64 o.bits, .int .i64 o.low] 55))
                clear hiz ho m3
                by_cases he : (o.name.toList == y.name.toList) = true
                · have hR5 : R = 5 := by
                    have hd := dup_some (names := l.map (·.name)) (i := i) (j := j) (by rw [List.length_map, HN.out]; exact hlt) hji (by rw [List.getElem_map, List.getElem_map, ← HO.out, ← HY.out]; exact he)
                    have hs := HST.out
                    rw [if_pos hd] at hs
                    rw [HF.out, fldErr_stays l (i + 1) n hlt (by rw [hs]; decide), hs]
                  have HR5 := Lib.hid hR5
                  clear hR5
                  go_wp2_with fail
                  go_ret
                  exact ⟨by rw [HR5.out]; rfl, HB6.out⟩
                · have he2 : (o.name.toList == y.name.toList) = false := by simpa using he
                  have HE := Lib.hid he2
                  clear he
                  go_wp2_with fail
                  go_roundg (i - (j + 1))
                  case measure => rw [G4.out]; omega
                  case rel => exact ⟨j + 1, hji, rfl, by go_num, fun q h hq => by
                    by_cases hqj : q < j
                    · exact HAT.out q h hqj
                    · obtain rfl : q = j := by omega
                      rw [← HO.out]; exact HE.out, HK1.out, HK2.out, HB6.out⟩
              · have hje : j = i := by omega
                have hf2 : fldErr l (i + 1) = 0 := by
                  have hd := dup_none (names := l.map (·.name)) (i := i) (by rw [List.length_map, HN.out]; exact hlt) (fun q hq => by rw [List.getElem_map, List.getElem_map, ← HY.out]; exact HAT.out q (by rw [HN.out]; omega) (by omega))
                  have hs := HST.out
                  rw [if_neg (by rw [hd]; decide)] at hs
                  exact hs
                have HF2 := Lib.hid hf2
                clear hf2 hje
                go_wp2_with fail
                go_roundg (n - (i + 1))
                case measure => rw [G2.out]; omega
                case rel => exact ⟨i + 1, hlt, rfl, by go_num, HF2.out, HXB2.out, HB5.out⟩
          · have hok2 : fieldB y.name y.bits y.low = false := by simpa using hok
            rw [hok2] at HC hst
            rw [if_pos rfl] at hst
            have HST := Lib.hid hst
            have HC2 : Hid (Calls Try.prog 76 #[.agg #[.string y.name, .int .i64 y.bits, .int .i64 y.low]] (Wo.alloc (.cells #[.string y.name, .int .i64 y.bits, .int .i64 y.low] 55)) fun e w' => e = .returned (.int .i64 3) ∧ Below (Wo.alloc (.cells #[.string y.name, .int .i64 y.bits, .int .i64 y.low] 55)).heap.size (Wo.alloc (.cells #[.string y.name, .int .i64 y.bits, .int .i64 y.low] 55)) w') := Lib.hid HC.out
            clear hst hok hok2 HC k3
            go_wp2_with fail
            refine HC2.out.mono ?_
            rintro e w2 ⟨rfl, hb3⟩
            have HB3 := Lib.hid (HB2.out.trans (hb3.mono (by simp)))
            clear hb3
            go_wp2_with fail
            go_ret
            refine ⟨?_, HB.out.trans (HB3.out.mono hbs)⟩
            rw [HF.out, fldErr_stays l (i + 1) n hlt (by rw [HST.out]; decide), HST.out]; rfl
        · have hie : i = n := by omega
          have HF0 := Lib.hid (show R = 0 by rw [HF.out, ← hie]; exact HFE.out)
          clear hie
          go_wp2_with fail
          go_ret
          exact ⟨by rw [HF0.out]; rfl, HB.out⟩
end Go.Proofs.Ytpilpkbblkhnaaa
end
/- kind.Check. -/
section
namespace Go.Proofs.Ytpilpkbblkhnaaa
open Go.ChangeShapes Go.WideShapes Go.ChangeAt Go.RowKit Go.Nm Go.Mem
set_option linter.unusedVariables false
theorem firstAt_ge (names : List ByteArray) (s : ByteArray) (k : Nat) : decide (firstAt names s k ≥ 0) = names.any fun a => a.toList == s.toList := by
  induction names generalizing k with
  | nil => rfl
  | cons a r ih =>
    unfold firstAt
    by_cases h : (a.toList == s.toList) = true
    · rw [if_pos h, List.any_cons, h]; simp
    · rw [if_neg h, ih, List.any_cons]
      have h2 : (a.toList == s.toList) = false := by simpa using h
      rw [h2]; rfl
theorem dup_first (names : List ByteArray) (i : Nat) (h : i < names.length) : decide (firstAt (names.take i) names[i] 0 ≥ 0) = dupAt names i := by
  rw [firstAt_ge]
  unfold dupAt
  rw [List.getD_eq_getElem?_getD, List.getElem?_eq_getElem h]; rfl
theorem knd_step (l : List KindV) (k : Nat) (h0 : kndErr l k = 0) : kndErr l (k + 1) = if kindE (l.getD k default) ≠ 0 then kindE (l.getD k default) else if dupAt (l.map (·.name)) k = true then 5 else 0 := by
  show (if kndErr l k ≠ 0 then _ else _) = _
  rw [if_neg (by rw [h0]; simp)]
theorem SlAt.take {α : Type} {sz : Nat} {E : World → Addr → α → Prop} {w : World} {a : Option Addr} {l : List α} (h : SlAt sz E w a l) (k : Nat) : SlAt sz E w a (l.take k) := fun h0 => by
  rw [List.length_take] at h0
  obtain ⟨x, h1, h2, h3⟩ := h (by omega)
  exact ⟨x, h1, h2, fun i hi => by rw [List.length_take] at hi; rw [List.getElem_take]; exact h3 i (by omega)⟩
theorem keepF {w w1 w2 : World} {p : Addr} {v : Value} {a : Option Addr} {l : List KindV} (h : w1.cell? p = some v ∧ SlAt 2 KindAt w1 a l ∧ Below w.heap.size w w1) (hb : Below w1.heap.size w1 w2) : w2.cell? p = some v ∧ SlAt 2 KindAt w2 a l ∧ Below w.heap.size w w2 :=
  ⟨cell_abides h.1 hb, h.2.1.below KindAt.abides hb, h.2.2.trans (hb.mono h.2.2.size)⟩
set_option maxHeartbeats 8000000 in
theorem kind_Check (l : List KindV) (a : Option Addr) (n cap : Nat) (hn : l.length = n) (h1 : n ≤ 9223372036854775807) (hnc : n ≤ cap) (hcm : cap ≤ 9223372036854775807) (W : World) (hz : SlAt 2 KindAt W a l) :
    Calls Try.prog 40 #[.slice a n cap] W fun e w' => e = .returned (.int .i64 (kindsE l)) ∧ Below W.heap.size W w' := by
  obtain ⟨R, hR⟩ : ∃ R, R = kindsE l := ⟨_, rfl⟩
  rw [← hR]
  have HR := Lib.hid hR
  have HN := Lib.hid hn
  have HZ := Lib.hid hz
  clear hR hn hz
  by_cases h16 : 16 < n
  · have HF := Lib.hid (show R = 2 by rw [HR.out]; unfold kindsE; rw [if_pos (by rw [HN.out]; exact h16)])
    go_enter Try.func40, Try.ntmps40
    go_wp2_with fail
    go_ret
    exact ⟨by rw [HF.out]; rfl, Below.refl _ _⟩
  · have HF := Lib.hid (show R = kndErr l n by rw [HR.out]; unfold kindsE; rw [if_neg (by rw [HN.out]; exact h16), HN.out])
    have h16' : n ≤ 16 := by omega
    clear h16
    go_enter Try.func40, Try.ntmps40
    go_wp2_with fail
    go_loopg [3, 4, 5, 11] n (fun gk v3 v4 v5 vi wx => ∃ i : Nat, i ≤ n ∧ gk = n - i ∧ vi = .int .i64 i ∧ kndErr l i = 0 ∧ Below W.heap.size W wx)
    case atStart => exact ⟨0, Nat.zero_le _, rfl, rfl, rfl, Below.refl _ _⟩
    case round =>
      obtain ⟨i, hi, g2, rfl, hfe, hb⟩ := hrel
      have G2 := Lib.hid g2
      have HFE := Lib.hid hfe
      have HB := Lib.hid hb
      have hbs := hb.size
      clear g2 hfe hb
      obtain ⟨Wo, rfl⟩ : ∃ Wo : World, Wo = wr := ⟨_, rfl⟩
      by_cases hlt : i < n
      · obtain ⟨x, rfl, hx, hix⟩ := (HZ.out.below KindAt.abides HB.out) (by rw [HN.out]; omega)
        obtain ⟨k0, kn, ay, cy, k1, k2, k3, k4⟩ := hix i (by rw [HN.out]; exact hlt)
        obtain ⟨y, hy⟩ : ∃ y, y = l[i]'(by rw [HN.out]; exact hlt) := ⟨_, rfl⟩
        rw [← hy] at k0 kn k1 k2 k4
        have hb2 := (Below.refl Wo.heap.size Wo).alloc (Nat.le_refl _) (.cells #[.string y.name, .slice ay y.fields.length cy] 58)
        have hc := kind_One y ay _ cy rfl kn k2 k3 _ (k4.below FieldAt.abides hb2)
        have hst := knd_step l i HFE.out
        rw [getD_at l i (by rw [HN.out]; exact hlt), ← hy] at hst
        obtain ⟨e1, he1⟩ : ∃ e1, e1 = kindE y := ⟨_, rfl⟩
        rw [← he1] at hc hst
        have HC := Lib.hid hc
        have HST := Lib.hid hst
        have HY := Lib.hid hy
        have HB2 := Lib.hid hb2
        clear hix hy hb2 hc hst he1 kn k2 k3 k4
        by_cases he : e1 = 0
        · subst he
          go_wp2_with fail
          refine HC.out.mono ?_
          rintro e w2 ⟨rfl, hb3⟩
          have hyb := heap_below (heap_alloc_new Wo (.cells #[.string y.name, .slice ay y.fields.length cy] 58)) hb3
          have hBo := HB2.out.trans (hb3.mono (by simp))
          have hBW := HB.out.trans (hBo.mono hbs)
          have d0 : w2.cell? ⟨Wo.heap.size, 0, none⟩ = some (.string y.name) := by rw [cell_of_row _ _ 0 _ _ _ hyb]; rfl
          have hfnd := kind_Find (l.take i) (some x) i cap y.name (by rw [List.length_take, HN.out]; omega) (by omega)
          have hds := dup_first (l.map (·.name)) i (by rw [List.length_map, HN.out]; exact hlt)
          rw [List.getElem_map, ← HY.out, ← List.map_take] at hds
          obtain ⟨q, hq⟩ : ∃ q, q = firstAt ((l.take i).map (·.name)) y.name 0 := ⟨_, rfl⟩
          rw [← hq] at hfnd hds
          have HFND := Lib.hid hfnd
          have HDS := Lib.hid hds
          have HBW := Lib.hid hBW
          have hic : i ≤ cap := by omega
          have hzw := (HZ.out.take i).below KindAt.abides hBW
          have HZW := Lib.hid hzw
          clear hb3 hyb hBo hfnd hds hq hBW hzw k0 k1
          have hbx : Below W.heap.size W w2 := HBW.out
          go_wp2_with fail
          go_region_held3 (fun w' => w'.cell? ⟨Wo.heap.size, 0, none⟩ = some (.string y.name) ∧ SlAt 2 KindAt w' (some x) (l.take i) ∧ Below W.heap.size W w')
            (first | exact ⟨d0, HZW.out, hbx.drew⟩ | assumption | exact keepF (by assumption) (by assumption))
            ((go_at_call 64; refine (HFND.out _ (And.left (And.right (by assumption)))).mono ?_; rintro e w8 ⟨rfl, hb8⟩))
          rename_i hHeld
          have HB9 := Lib.hid hHeld.2.2
          clear hHeld hb8
          by_cases hq : 0 ≤ q
          · have hR : R = 5 := by
              have hd : dupAt (l.map (·.name)) i = true := HDS.out.symm.trans (decide_eq_true hq)
              have hs := HST.out
              rw [if_neg (by simp), if_pos hd] at hs
              rw [HF.out, kndErr_stays l (i + 1) n hlt (by rw [hs]; decide), hs]
            have HR5 := Lib.hid hR
            clear hR
            go_wp2_with fail
            go_ret
            exact ⟨by rw [HR5.out]; rfl, HB9.out⟩
          · have hk2 : kndErr l (i + 1) = 0 := by
              have hd : dupAt (l.map (·.name)) i = false := HDS.out.symm.trans (decide_eq_false hq)
              have hs := HST.out
              rw [if_neg (by simp), if_neg (by rw [hd]; decide)] at hs
              exact hs
            have HK2 := Lib.hid hk2
            clear hk2
            go_wp2_with fail
            go_roundg (n - (i + 1))
            case measure => rw [G2.out]; omega
            case rel => exact ⟨i + 1, hlt, rfl, by go_num, HK2.out, HB9.out⟩
        · have t1 : (e1 != 0) = true := by rw [bne_iff_ne]; exact he
          have hR : R = e1 := by
            have hs := HST.out
            rw [if_pos he] at hs
            rw [HF.out, kndErr_stays l (i + 1) n hlt (by rw [hs]; exact he), hs]
          have HR5 := Lib.hid hR
          clear hR he
          go_wp2_with fail
          refine HC.out.mono ?_
          rintro e w2 ⟨rfl, hb3⟩
          have HBW := Lib.hid (HB.out.trans ((HB2.out.trans (hb3.mono (by simp))).mono hbs))
          clear hb3
          go_wp2_with fail
          go_ret
          exact ⟨by rw [HR5.out]; rfl, HBW.out⟩
      · have hie : i = n := by omega
        have HF0 := Lib.hid (show R = 0 by rw [HF.out, ← hie]; exact HFE.out)
        clear hie
        go_wp2_with fail
        go_ret
        exact ⟨by rw [HF0.out]; rfl, HB.out⟩
end Go.Proofs.Ytpilpkbblkhnaaa
end
/- ref twice, KindError, KindsError. -/
section
namespace Go.Proofs.Ytpilpkbblkhnaaa
open Go.ChangeShapes Go.WideShapes Go.ChangeAt Go.RowKit Go.Nm Go.Mem
set_option linter.unusedVariables false
def StrsAt (w : World) (a : Option Addr) (l : List ByteArray) : Prop := SlAt 1 (fun w p s => w.cell? p = some (.string s)) w a l
theorem StrsAt.below {w w' : World} {a : Option Addr} {l : List ByteArray} (h : StrsAt w a l) (hb : Below w.heap.size w w') : StrsAt w' a l := SlAt.below (E := fun w p s => w.cell? p = some (.string s)) (fun _ _ _ _ h1 h2 => cell_abides h1 h2) h hb
end Go.Proofs.Ytpilpkbblkhnaaa
end
/- kind.High, Near; ref Top, Nearest. -/
section
namespace Go.Proofs.Ytpilpkbblkhnaaa
open Go.ChangeShapes Go.WideShapes Go.ChangeAt Go.RowKit Go.Nm Go.Mem
set_option linter.unusedVariables false
theorem pow_bd (n : Nat) (h : n ≤ 32) : 1 ≤ (2 : Int) ^ n ∧ (2 : Int) ^ n ≤ 4294967296 := by
  have h1 : 1 ≤ 2 ^ n := Nat.one_le_two_pow
  have h2 : 2 ^ n ≤ 2 ^ 32 := Nat.pow_le_pow_right (by decide) h
  have e : (2 : Int) ^ n = ((2 ^ n : Nat) : Int) := by simp
  rw [e]
  have e2 : (2 : Nat) ^ 32 = 4294967296 := rfl
  omega
theorem pow_in (n : Nat) (h : n ≤ 32) : wrap64 ((2 : Int) ^ n) = 2 ^ n := by
  have := pow_bd n h
  exact IntWalk.wrap64_in _ ⟨by omega, by omega⟩
set_option maxHeartbeats 1000000 in
theorem High_ok (s : ByteArray) (n : Nat) (l : Int) (hs : s.size ≤ 9223372036854775807) (hf : fieldB s n l = true) (h1 : 1 ≤ n) (h2 : n ≤ 32) (h3 : -4294967296 ≤ l) (h4 : l ≤ 4294967296) (w : World) : Calls Try.prog 77 #[.agg #[.string s, .int .i64 n, .int .i64 l]] w fun e w' => e = .returned (.int .i64 (l + (2 ^ n - 1))) ∧ Below w.heap.size w w' := by
  have C := fun W => kind_field s n l hs W
  rw [hf] at C
  have C := Lib.hid C
  clear hf hs
  go_enter Try.func77, Try.ntmps77
  go_wp2_with fail
  refine (C.out _).mono ?_
  rintro e w1 ⟨rfl, hb1⟩
  have c1 : w1.cell? ⟨w.heap.size, 1, none⟩ = some (.int .i64 n) := by rw [hb1.cell (p := ⟨w.heap.size, 1, none⟩) (by simp)]; simp
  have c2 : w1.cell? ⟨w.heap.size, 2, none⟩ = some (.int .i64 l) := by rw [hb1.cell (p := ⟨w.heap.size, 2, none⟩) (by simp)]; simp
  go_wp2_with fail
  go_quiet (fail)
  go_wp2_with fail
  go_ret
  refine ⟨?_, below_drewN (((Below.refl w.heap.size w).alloc (Nat.le_refl _) (.cells #[.string s, .int .i64 n, .int .i64 l] 55)).trans (hb1.mono (by simp))) _⟩
  rw [pow_in n h2]
  obtain ⟨P, hP⟩ : ∃ P : Int, P = 2 ^ n := ⟨_, rfl⟩
  have hb := pow_bd n h2
  rw [← hP] at hb ⊢
  show Ending.returned (.int .i64 (wrap64 (l + wrap64 (P - 1)))) = _
  rw [IntWalk.wrap64_in (P - 1) ⟨by omega, by omega⟩, IntWalk.wrap64_in _ ⟨by omega, by omega⟩]
def topF (n : Nat) (l : Int) : Int := l + (2 ^ n - 1)
def nearF (n : Nat) (l v : Int) : Int := max l (min v (topF n l))
set_option maxHeartbeats 2000000 in
theorem Near_ok (s : ByteArray) (n : Nat) (l v : Int) (hs : s.size ≤ 9223372036854775807) (hf : fieldB s n l = true) (h1 : 1 ≤ n) (h2 : n ≤ 32) (h3 : -4294967296 ≤ l) (h4 : l ≤ 4294967296) (w : World) : Calls Try.prog 71 #[.agg #[.string s, .int .i64 n, .int .i64 l], .int .i64 v] w fun e w' => e = .returned (.int .i64 (nearF n l v)) ∧ Below w.heap.size w w' := by
  have C := fun W => kind_field s n l hs W
  rw [hf] at C
  have C := Lib.hid C
  obtain ⟨T, hT⟩ : ∃ T, T = topF n l := ⟨_, rfl⟩
  have D := fun W => High_ok s n l hs hf h1 h2 h3 h4 W
  have hd : l + (2 ^ n - 1) = T := hT.symm
  rw [hd] at D
  have D := Lib.hid D
  unfold nearF
  rw [← hT]
  clear hf hs hd hT
  go_enter Try.func71, Try.ntmps71
  go_wp2_with fail
  refine (C.out _).mono ?_
  rintro e w1 ⟨rfl, hb1⟩
  have c0 : w1.cell? ⟨w.heap.size, 0, none⟩ = some (.string s) := by rw [hb1.cell (p := ⟨w.heap.size, 0, none⟩) (by simp)]; simp
  have c1 : w1.cell? ⟨w.heap.size, 1, none⟩ = some (.int .i64 n) := by rw [hb1.cell (p := ⟨w.heap.size, 1, none⟩) (by simp)]; simp
  have c2 : w1.cell? ⟨w.heap.size, 2, none⟩ = some (.int .i64 l) := by rw [hb1.cell (p := ⟨w.heap.size, 2, none⟩) (by simp)]; simp
  have hb : Below w.heap.size w w1 := ((Below.refl w.heap.size w).alloc (Nat.le_refl _) (.cells #[.string s, .int .i64 n, .int .i64 l] 55)).trans (hb1.mono (by simp))
  go_wp2_with fail
  go_region_held3 (fun w' => w'.cell? ⟨w.heap.size, 0, none⟩ = some (.string s) ∧ w'.cell? ⟨w.heap.size, 1, none⟩ = some (.int .i64 n) ∧ w'.cell? ⟨w.heap.size, 2, none⟩ = some (.int .i64 l) ∧ Below w.heap.size w w')
    (first | exact ⟨c0, c1, c2, hb.drew⟩ | assumption | exact keep3 (by assumption) (by assumption) (Nat.le_refl _))
    ((go_at_call 77; refine (D.out _).mono ?_; rintro e w8 ⟨rfl, hb8⟩))
  go_wp2
  go_ret
  exact ⟨rfl, lastk3 (by assumption)⟩
end Go.Proofs.Ytpilpkbblkhnaaa
end
/- kind.Fit. -/
section
namespace Go.Proofs.Ytpilpkbblkhnaaa
open Go.ChangeShapes Go.WideShapes Go.ChangeAt Go.RowKit Go.Nm Go.Mem
set_option linter.unusedVariables false
def nearV (f : FieldV) (v : Int) : Int := nearF f.bits.toNat f.low v
def fitL (l : List FieldV) (vals : List Int) : List Int := List.zipWith nearV l vals
def fitE (k : KindV) (vals : List Int) : Int := if kindE k ≠ 0 then kindE k else if vals.length ≠ k.fields.length then 1 else 0
theorem fld_ok (l : List FieldV) (n : Nat) (h : fldErr l n = 0) : ∀ i, i < n → okF (l.getD i default) = true := by
  induction n with
  | zero => intro i hi; omega
  | succ n ih =>
    have h0 : fldErr l n = 0 := by
      by_cases h1 : fldErr l n = 0
      · exact h1
      · rw [fldErr_stays l n (n + 1) (by omega) h1] at h; exact absurd h h1
    rw [fld_step l n h0] at h
    intro i hi
    by_cases hin : i < n
    · exact ih h0 i hin
    · obtain rfl : i = n := by omega
      by_cases ho : okF (l.getD i default) = false
      · rw [if_pos ho] at h; exact absurd h (by decide)
      · simpa using ho
theorem kind_ok {k : KindV} (h : kindE k = 0) : k.fields.length ≤ 8 ∧ ∀ i (hi : i < k.fields.length), okF k.fields[i] = true := by
  unfold kindE at h
  by_cases h1 : nameB k.name.data.toList = false
  · rw [if_pos h1] at h; exact absurd h (by decide)
  · rw [if_neg h1] at h
    by_cases h2 : 8 < k.fields.length
    · rw [if_pos h2] at h; exact absurd h (by decide)
    · rw [if_neg h2] at h
      refine ⟨by omega, fun i hi => ?_⟩
      have := fld_ok _ _ h i hi
      rw [getD_at _ _ hi] at this
      exact this
theorem okF_parts {f : FieldV} (h : okF f = true) : ∃ n : Nat, f.bits = (n : Int) ∧ 1 ≤ n ∧ n ≤ 32 ∧ -4294967296 ≤ f.low ∧ f.low ≤ 4294967296 ∧ f.bits.toNat = n := by
  unfold okF at h
  rcases field_cases f.name f.bits f.low with ⟨_, _, h1, h2, h3, h4⟩ | ⟨hf, _⟩
  · exact ⟨f.bits.toNat, by omega, by omega, by omega, h3, h4, rfl⟩
  · rw [hf] at h; exact absurd h (by decide)
theorem near_at (f : FieldV) (v : Int) (h : okF f = true) (hs : f.name.size ≤ 9223372036854775807) (w : World) : Calls Try.prog 71 #[.agg #[.string f.name, .int .i64 f.bits, .int .i64 f.low], .int .i64 v] w fun e w' => e = .returned (.int .i64 (nearV f v)) ∧ Below w.heap.size w w' := by
  obtain ⟨n, h1, h2, h3, h4, h5, h6⟩ := okF_parts h
  unfold okF at h
  unfold nearV
  rw [h6, h1]
  rw [h1] at h
  exact Near_ok f.name n f.low v hs h h2 h3 h4 h5 w
def FitPost (k : KindV) (vals : List Int) (W : World) (e : Ending) (w' : World) : Prop := (fitE k vals ≠ 0 → e = .returned (.tuple #[.slice none 0 0, .int .i64 (fitE k vals)])) ∧
  (fitE k vals = 0 → ∃ a c, e = .returned (.tuple #[.slice a vals.length c, .int .i64 0]) ∧ IntsAt .i64 w' a (fitL k.fields vals)) ∧ Below W.heap.size W w'
def F_fit (BB G i m cv : Nat) (u : Int) (z : Addr) (y : FieldV) (j : Nat) (v : Value) (w : World) : Prop :=
  match j with
  | 0 => v = .slice (some ⟨G, 0, none⟩) m m
  | 1 => v = .int .i64 i
  | 2 => v = .agg #[.string y.name, .int .i64 y.bits, .int .i64 y.low]
  | 3 => v = .slice (some z) m cv
  | 4 => v = .int .i64 i
  | 5 => v = .pointer (some (z.add i))
  | 6 => v = .int .i64 u
  | 7 => v = .int .i64 (nearV y u)
  | 8 => v = .pointer (some ⟨G, i, none⟩)
  | _ => True
theorem F_fit_mono (BB G i m cv : Nat) (u : Int) (z : Addr) (y : FieldV) : Facts (F_fit BB G i m cv u z y) := ⟨fun j v w w' h _ => by
  unfold F_fit at h ⊢
  split at h
  all_goals first | exact h | trivial⟩
set_option maxHeartbeats 8000000 in
theorem kind_Fit (k : KindV) (a : Option Addr) (n cap : Nat) (vals : List Int) (av : Option Addr) (m cv : Nat) (hn : k.fields.length = n) (hm : vals.length = m) (hm9 : m ≤ 9223372036854775807) (hnm : k.name.size ≤ 9223372036854775807) (hnc : n ≤ cap) (hcm : cap ≤ 9223372036854775807) (W : World) (hz : SlAt 3 FieldAt W a k.fields) (hv : IntsAt .i64 W av vals) :
    Calls Try.prog 55 #[.agg #[.string k.name, .slice a n cap], .slice av m cv] W (FitPost k vals W) := by
  have hb0 := (Below.refl W.heap.size W).alloc (Nat.le_refl _) (.cells #[.string k.name, .slice a n cap] 58)
  have hc := kind_One k a n cap hn hnm hnc hcm (W.alloc (.cells #[.string k.name, .slice a n cap] 58)) (hz.below FieldAt.abides hb0)
  have x0 := heap_alloc_new W (.cells #[.string k.name, .slice a n cap] 58)
  have HB0 := Lib.hid hb0
  have HX0 := Lib.hid x0
  have HN := Lib.hid hn
  have HM := Lib.hid hm
  have HZ := Lib.hid hz
  have HV := Lib.hid hv
  obtain ⟨nm, l⟩ := k
  simp only at hc HX0 HB0 hnm HN HZ ⊢
  obtain ⟨e1, he1⟩ : ∃ e1, e1 = kindE ⟨nm, l⟩ := ⟨_, rfl⟩
  rw [← he1] at hc
  have HE := Lib.hid he1
  have HC := Lib.hid hc
  clear hb0 hc x0 hn hm hz hv he1
  by_cases he : e1 = 0
  · subst he
    obtain ⟨hn8, hok⟩ := kind_ok HE.out.symm
    simp only at hn8 hok
    rw [HN.out] at hn8
    have HOK := Lib.hid hok
    clear hok
    go_enter Try.func55, Try.ntmps55
    go_wp2_with fail
    refine HC.out.mono ?_
    rintro e w1 ⟨rfl, hb1⟩
    have hx1 := heap_below HX0.out hb1
    have c1 : w1.cell? ⟨W.heap.size, 1, none⟩ = some (.slice a n cap) := by rw [cell_of_row _ _ 1 _ _ _ hx1]; rfl
    have hbw := HB0.out.trans (hb1.mono (by simp))
    have HB1 := Lib.hid hbw
    have HX1 := Lib.hid hx1
    have hs1 := hbw.size
    clear hb1 hx1 hbw HC HX0 HB0
    by_cases hmn : m = n
    · subst hmn
      have HFE := Lib.hid (show fitE ⟨nm, l⟩ vals = 0 by unfold fitE; rw [if_neg (by rw [← HE.out]; simp), if_neg (by simp only; rw [HM.out, HN.out]; simp)])
      have t0 : ((m : Int) != (m : Int)) = false := by simp
      go_wp2_with (at_make; go_must (refine wpList_make_rowB rfl _ _ 22 rfl 3 .i64 8 Try.underlying22 (by kernel_rfl) _ _ _ _ m rfl rfl rfl rfl ?b1 ?b2 ?_))
      case b1 => omega
      case b2 => unfold maxLen; omega
      intro w2 hrow hb2 hs2
      have c2 : w2.cell? ⟨W.heap.size, 1, none⟩ = some (.slice a m cap) := by rw [cell_of_row _ _ 1 _ _ _ (heap_below HX1.out hb2)]; rfl
      obtain ⟨G, hG⟩ : ∃ G, G = w1.heap.size := ⟨_, rfl⟩
      rw [← hG] at hrow hs2 ⊢
      have hWG : W.heap.size ≤ G := by rw [hG]; exact HB1.out.size
      have HROW := Lib.hid hrow
      have HB2 := Lib.hid (HB1.out.trans (hb2.mono HB1.out.size))
      clear hrow hb2 hG c1 hs2
      go_wp2_with fail
      clear c2
      go_loopg [8, 9, 27] m (fun gk v8 v9 vi wx => ∃ (i : Nat) (out : List Int), i ≤ m ∧ gk = m - i ∧ vi = .int .i64 i ∧ out.length = m ∧ (∀ j (h1 : j < l.length) (h2 : j < vals.length), j < i → out.getD j 0 = nearV l[j] vals[j]) ∧ RowB wx G 3 .i64 out ∧ Below W.heap.size W wx)
      case atStart => exact ⟨0, List.replicate m 0, Nat.zero_le _, rfl, rfl, by simp, fun j _ _ h => absurd h (by omega), HROW.out, HB2.out⟩
      case round =>
        obtain ⟨i, out, hi, g2, rfl, hol, hat, hrow, hb⟩ := hrel
        have G2 := Lib.hid g2
        have HOL := Lib.hid hol
        have HAT := Lib.hid hat
        have HROW2 := Lib.hid hrow
        have HB := Lib.hid hb
        have hbs := hb.size
        have hgl := hrow.lt
        clear g2 hol hat hrow hb HROW HB2
        by_cases hlt : i < m
        · obtain ⟨x, rfl, hx, hix⟩ := (HZ.out.below FieldAt.abides HB.out) (by rw [HN.out]; omega)
          obtain ⟨z, rfl, hzl, hiz⟩ := (HV.out.below HB.out) (by rw [HM.out]; omega)
          obtain ⟨k0, k1, k2, k3⟩ := hix i (by rw [HN.out]; exact hlt)
          have kv := hiz i (by rw [HM.out]; exact hlt)
          obtain ⟨y, hy⟩ : ∃ y, y = l[i]'(by rw [HN.out]; exact hlt) := ⟨_, rfl⟩
          rw [← hy] at k0 k1 k2 k3
          obtain ⟨u, hu⟩ : ∃ u, u = vals.getD i 0 := ⟨_, rfl⟩
          rw [← hu] at kv
          have hoky : okF y = true := by rw [hy]; exact HOK.out i (by rw [HN.out]; exact hlt)
          have HNR := Lib.hid (near_at y u hoky k3)
          have HY := Lib.hid hy
          have HU := Lib.hid hu
          clear hix hiz hy hu hoky k3
          go_wp2_with fail
          have hb0 := (Below.refl wr.heap.size wr).alloc (Nat.le_refl _) (.cells #[.string y.name, .int .i64 y.bits, .int .i64 y.low] 55)
          have B0 := heap_alloc_new wr (.cells #[.string y.name, .int .i64 y.bits, .int .i64 y.low] 55)
          have B1 := cell_abides kv hb0
          refine wp_region_facts rfl 9 (by kernel_rfl) (F_fit wr.heap.size G i m cv u z y) (F_fit_mono wr.heap.size G i m cv u z y) ?_ ?_
          · refine ⟨?_, ?_, ?_, ?_, ?_, ?_, ?_, ?_, ?_, trivial⟩
            · intro vs w' F hb hd hF hl
              have e := (hF 7).trans (look_out _ 7 _ _ (by kernel_rfl))
              exact one_move _ rfl (by first | exact Or.inl rfl | exact Or.inr rfl) ⟨_, rfl, Below.refl _ _, e⟩
            · intro vs w' F hb hd hF hl
              have e := (hF 8).trans (look_out _ 8 _ _ (by kernel_rfl))
              exact one_move _ rfl (by first | exact Or.inl rfl | exact Or.inr rfl) ⟨_, rfl, Below.refl _ _, e⟩
            · intro vs w' F hb hd hF hl
              have e := ((hF 9).trans (look_out _ 9 _ _ (by kernel_rfl)))
              exact one_load_row 55 _ rfl rfl wr.heap.size #[.string y.name, .int .i64 y.bits, .int .i64 y.low] 55 (0, 0) e (heap_below B0 hb) _ Try.underlying55 rfl (by kernel_rfl) ⟨_, rfl, Below.refl _ _, rfl⟩
            · intro vs w' F hb hd hF hl
              have e := (hF 1).trans (look_out _ 1 _ _ (by kernel_rfl))
              exact one_move _ rfl (by first | exact Or.inl rfl | exact Or.inr rfl) ⟨_, rfl, Below.refl _ _, e⟩
            · intro vs w' F hb hd hF hl
              have e := (hF 8).trans (look_out _ 8 _ _ (by kernel_rfl))
              exact one_move _ rfl (by first | exact Or.inl rfl | exact Or.inr rfl) ⟨_, rfl, Below.refl _ _, e⟩
            · intro vs w' F hb hd hF hl
              have ex := (((hF 35).trans (look_at _ 35 3 _ _ (by kernel_rfl) (by kernel_rfl) hl)).trans (dep_of (Fact := F_fit wr.heap.size G i m cv u z y) hd 3 (by kernel_rfl)))
              have ey := (((hF 36).trans (look_at _ 36 4 _ _ (by kernel_rfl) (by kernel_rfl) hl)).trans (dep_of (Fact := F_fit wr.heap.size G i m cv u z y) hd 4 (by kernel_rfl)))
              exact one_index 22 _ _ rfl rfl (.slice (some z) m cv) (.int .i64 i) (.pointer (some (z.add i))) ex ey (fun w => by clear hb hd hF hl ex ey; go_simp) ⟨_, rfl, Below.refl _ _, rfl⟩
            · intro vs w' F hb hd hF hl
              have e := (((hF 37).trans (look_at _ 37 5 _ _ (by kernel_rfl) (by kernel_rfl) hl)).trans (dep_of (Fact := F_fit wr.heap.size G i m cv u z y) hd 5 (by kernel_rfl)))
              exact one_load _ _ rfl rfl _ _ e (cell_abides B1 hb) (by kernel_rfl) ⟨_, rfl, Below.refl _ _, rfl⟩
            · intro vs w' F hb hd hF hl
              have e1 := (((hF 34).trans (look_at _ 34 2 _ _ (by kernel_rfl) (by kernel_rfl) hl)).trans (dep_of (Fact := F_fit wr.heap.size G i m cv u z y) hd 2 (by kernel_rfl)))
              have e2 := (((hF 38).trans (look_at _ 38 6 _ _ (by kernel_rfl) (by kernel_rfl) hl)).trans (dep_of (Fact := F_fit wr.heap.size G i m cv u z y) hd 6 (by kernel_rfl)))
              refine one_call _ _ rfl rfl (enters_of Try.func71 (by kernel_rfl) rfl) #[.agg #[.string y.name, .int .i64 y.bits, .int .i64 y.low], .int .i64 u] (eval2 e1 e2) ?_
              refine (HNR.out w').mono ?_
              rintro e3 w2 ⟨rfl, hb2⟩
              exact ⟨_, rfl, _, rfl, hb2, rfl⟩
            · intro vs w' F hb hd hF hl
              have ex := (((hF 32).trans (look_at _ 32 0 _ _ (by kernel_rfl) (by kernel_rfl) hl)).trans (dep_of (Fact := F_fit wr.heap.size G i m cv u z y) hd 0 (by kernel_rfl)))
              have ey := (((hF 33).trans (look_at _ 33 1 _ _ (by kernel_rfl) (by kernel_rfl) hl)).trans (dep_of (Fact := F_fit wr.heap.size G i m cv u z y) hd 1 (by kernel_rfl)))
              exact one_index 22 _ _ rfl rfl (.slice (some ⟨G, 0, none⟩) m m) (.int .i64 i) (.pointer (some ⟨G, i, none⟩)) ex ey (fun w => by clear hb hd hF hl ex ey; go_simp) ⟨_, rfl, Below.refl _ _, rfl⟩
          · intro vs W1 hl hb hI
            have i7 : vs.getD 7 undef = .int .i64 (nearV y u) := hI 7 (by omega)
            have i8 : vs.getD 8 undef = .pointer (some ⟨G, i, none⟩) := hI 8 (by omega)
            obtain ⟨v0, v1, v2, v3, v4, v5, v6, v7, v8, v9, rfl⟩ := list10 hl
            replace i7 : v7 = .int .i64 (nearV y u) := i7
            replace i8 : v8 = .pointer (some ⟨G, i, none⟩) := i8
            subst i7 i8
            have hrow1 := (HROW2.out.alloc (.cells #[.string y.name, .int .i64 y.bits, .int .i64 y.low] 55)).below hb
            have f0 := hrow1.cell i (by rw [HOL.out]; exact hlt)
            have f1 := hrow1.frozen i
            have hbw : Below wr.heap.size wr W1 := hb0.trans (hb.mono (by simp))
            have HBN := Lib.hid ((HB.out.trans (hbw.mono HB.out.size)).setCell (p := ⟨G, i, none⟩) hWG (.int .i64 (nearV y u)))
            have HRN := Lib.hid (hrow1.set i (nearV y u))
            have HATN : Hid (∀ j (h1 : j < l.length) (h2 : j < vals.length), j < i + 1 → (out.set i (nearV y u)).getD j 0 = nearV l[j] vals[j]) := Lib.hid (fun j h1 h2 hj => by
              by_cases hji : j < i
              · rw [List.getD_eq_getElem?_getD, List.getElem?_set_ne (by omega), ← List.getD_eq_getElem?_getD]
                exact HAT.out j h1 h2 hji
              · obtain rfl : j = i := by omega
                rw [List.getD_eq_getElem?_getD, List.getElem?_set_self (by rw [HOL.out]; exact hlt)]
                have e2 : vals[j] = u := by rw [HU.out, List.getD_eq_getElem?_getD, List.getElem?_eq_getElem h2]; rfl
                rw [e2, ← HY.out]; rfl)
            clear hI hl hb hbw hrow1 hb0 B0 B1
            simp only [fillAll, Act.put, List.setIfInBounds_toArray, List.set_cons_succ, List.set_cons_zero]
            go_wp2
            go_roundg (m - (i + 1))
            case measure => rw [G2.out]; omega
            case rel => exact ⟨i + 1, out.set i (nearV y u), hlt, rfl, by go_num, by rw [List.length_set]; exact HOL.out, HATN.out, HRN.out, HBN.out⟩
        · have hie : i = m := by omega
          have hfl : fitL l vals = out := by
            unfold fitL
            refine List.ext_getElem (by rw [List.length_zipWith, HN.out, HM.out, HOL.out]; omega) (fun j h1 h2 => ?_)
            rw [List.length_zipWith] at h1
            rw [List.getElem_zipWith]
            have := HAT.out j (by omega) (by omega) (by rw [HOL.out] at h2; omega)
            rw [List.getD_eq_getElem?_getD, List.getElem?_eq_getElem h2] at this
            exact this.symm
          have HFL := Lib.hid hfl
          clear hie hfl
          go_wp2_with fail
          go_ret2
          exact ⟨fun h => absurd HFE.out h, fun _ => ⟨_, m, by rw [HM.out]; rfl, by simp only; rw [HFL.out]; exact HROW2.out.ints⟩, HB.out⟩
    · have HFE := Lib.hid (show fitE ⟨nm, l⟩ vals = 1 by unfold fitE; rw [if_neg (by rw [← HE.out]; simp), if_pos (by simp only; rw [HM.out, HN.out]; exact hmn)])
      have t0 : ((m : Int) != (n : Int)) = true := by rw [bne_iff_ne]; omega
      clear hmn
      go_wp2_with fail
      go_ret2
      exact ⟨fun _ => by rw [HFE.out]; rfl, fun h => absurd (HFE.out.symm.trans h) (by decide), HB1.out⟩
  · have t1 : (e1 != 0) = true := by rw [bne_iff_ne]; exact he
    have HFE := Lib.hid (show fitE ⟨nm, l⟩ vals = e1 by unfold fitE; rw [if_pos (by rw [← HE.out]; exact he), ← HE.out])
    have HNE := Lib.hid he
    clear he
    go_enter Try.func55, Try.ntmps55
    go_wp2_with fail
    refine HC.out.mono ?_
    rintro e w1 ⟨rfl, hb1⟩
    have HB1 := Lib.hid (HB0.out.trans (hb1.mono (by simp)))
    clear hb1
    go_wp2_with fail
    go_ret2
    exact ⟨fun _ => by rw [HFE.out]; rfl, fun h => absurd (HFE.out.symm.trans h) HNE.out, HB1.out⟩
end Go.Proofs.Ytpilpkbblkhnaaa
end
