/- Lemmas for the law MigrateBack: KindOne, KindEqF, KindCheck, Own. No conditions. -/
import Derived.Test.YtijeninfmjhbnaaDoorM02
import Derived.Deep.LoopGhost
import Derived.Deep.RegionHeld3
import Derived.Test.YtijeninfmjhbnaaDoorM01
import Derived.Maps.AppendAt
import Derived.Deep.AppendLies
import Derived.OwnWalk
/- kind.Find, kind.Field; kind.One. -/
section
namespace Go.Proofs.YtijeninfmjhbnaaDoor
open Go.ChangeShapes Go.WideShapes Go.ChangeAt Go.RowKit Go.Nm Go.Mem
set_option linter.unusedVariables false
/-- the first place of a name, or -1 -/
def firstAt (names : List ByteArray) (s : ByteArray) (k : Nat) : Int := match names with
  | [] => -1
  | a :: r => if a.toList == s.toList then (k : Int) else firstAt r s (k + 1)
theorem firstAt_none (names : List ByteArray) (s : ByteArray) (k : Nat) (h : ∀ j (hj : j < names.length), (names[j].toList == s.toList) = false) : firstAt names s k = -1 := by
  induction names generalizing k with
  | nil => rfl
  | cons a r ih =>
    have h0 := h 0 (by simp)
    simp only [List.getElem_cons_zero] at h0
    unfold firstAt
    rw [h0]
    exact ih (k + 1) fun j hj => by have := h (j + 1) (by simp; omega); simpa using this
theorem firstAt_some (names : List ByteArray) (s : ByteArray) (k i : Nat) (hi : i < names.length) (h : ∀ j (hj : j < names.length), j < i → (names[j].toList == s.toList) = false) (h1 : (names[i].toList == s.toList) = true) : firstAt names s k = ((k + i : Nat) : Int) := by
  induction names generalizing k i with
  | nil => exact absurd hi (by simp)
  | cons a r ih =>
    unfold firstAt
    rcases i with _ | i
    · simp only [List.getElem_cons_zero] at h1
      rw [h1]; rfl
    · have h0 := h 0 (by simp) (by omega)
      simp only [List.getElem_cons_zero] at h0
      rw [h0]
      have := ih (k + 1) i (by simpa using hi) (fun j hj hji => by have := h (j + 1) (by simp; omega) (by omega); simpa using this) (by simpa using h1)
      rw [show (k + (i + 1)) = k + 1 + i by omega]
      exact this
set_option maxHeartbeats 4000000 in
theorem kind_Find (l : List KindV) (a : Option Addr) (n cap : Nat) (s : ByteArray) (hn : l.length = n) (h1 : n ≤ 17592186044000) (W : World) (hz : SlAt 2 KindAt W a l) :
    Calls Tryd.prog 39 #[.slice a n cap, .string s] W fun e w' => e = .returned (.int .i64 (firstAt (l.map (·.name)) s 0)) ∧ Below W.heap.size W w' := by
  obtain ⟨R, hR⟩ : ∃ R, R = firstAt (l.map (·.name)) s 0 := ⟨_, rfl⟩
  rw [← hR]
  have HR := Lib.hid hR
  have HN := Lib.hid hn
  have HZ := Lib.hid hz
  clear hR hn hz
  go_enter Tryd.func39, Tryd.ntmps39
  go_wp2_with fail
  go_loopg [5, 6, 9] n (fun gk v5 v6 vi wx => ∃ i : Nat, i ≤ n ∧ gk = n - i ∧ vi = .int .i64 i ∧ (∀ j (h : j < l.length), j < i → (l[j].name.toList == s.toList) = false) ∧ Below W.heap.size W wx)
  case atStart => exact ⟨0, Nat.zero_le _, rfl, rfl, fun j h h2 => absurd h2 (by omega), Below.refl _ _⟩
  case round =>
    obtain ⟨i, hi, g2, rfl, hat, hb⟩ := hrel
    have G2 := Lib.hid g2
    have HAT := Lib.hid hat
    have HB := Lib.hid hb
    have hbs := hb.size
    clear g2 hat hb
    by_cases hlt : i < n
    · obtain ⟨x, rfl, hx, hix⟩ := (HZ.out.below KindAt.abides HB.out) (by rw [HN.out]; omega)
      obtain ⟨k0, k1, ay, cy, k2, k3, k4, _⟩ := hix i (by rw [HN.out]; exact hlt)
      obtain ⟨y, hy⟩ : ∃ y, y = l[i]'(by rw [HN.out]; exact hlt) := ⟨_, rfl⟩
      rw [← hy] at k0 k1 k2 k3
      have HY := Lib.hid hy
      have HB2 := Lib.hid (HB.out.alloc hbs (.cells #[.string y.name, .slice ay y.fields.length cy] 43))
      clear hix hy
      by_cases he : (y.name.toList == s.toList) = true
      · have HF := Lib.hid (show R = (i : Int) by
          rw [HR.out]
          have := firstAt_some (l.map (·.name)) s 0 i (by rw [List.length_map, HN.out]; exact hlt) (fun j hj hji => by simpa using HAT.out j (by simpa using hj) hji) (by rw [List.getElem_map, ← HY.out]; exact he)
          rw [this]; simp)
        go_wp2_with fail
        go_ret
        exact ⟨by rw [HF.out]; rfl, HB2.out⟩
      · have he2 : (y.name.toList == s.toList) = false := by simpa using he
        have HE := Lib.hid he2
        clear he
        go_wp2_with fail
        go_roundg (n - (i + 1))
        case measure => rw [G2.out]; omega
        case rel => exact ⟨i + 1, hlt, rfl, by go_num, fun j h hj => by
          by_cases hji : j < i
          · exact HAT.out j h hji
          · obtain rfl : j = i := by omega
            rw [← HY.out]; exact HE.out, HB2.out⟩
    · have HF := Lib.hid (show R = -1 by
        rw [HR.out]
        exact firstAt_none _ _ _ fun j hj => by simpa using HAT.out j (by simpa using hj) (by have h2 : j < l.length := (by simpa using hj); rw [HN.out] at h2; omega))
      go_wp2_with fail
      go_ret
      exact ⟨by rw [HF.out]; rfl, HB.out⟩
set_option maxHeartbeats 4000000 in
theorem kind_Field (l : List FieldV) (a : Option Addr) (n cap : Nat) (s nm : ByteArray) (hn : l.length = n) (h1 : n ≤ 17592186044000) (W : World) (hz : SlAt 3 FieldAt W a l) :
    Calls Tryd.prog 79 #[.agg #[.string nm, .slice a n cap], .string s] W fun e w' => e = .returned (.int .i64 (firstAt (l.map (·.name)) s 0)) ∧ Below W.heap.size W w' := by
  obtain ⟨R, hR⟩ : ∃ R, R = firstAt (l.map (·.name)) s 0 := ⟨_, rfl⟩
  rw [← hR]
  have HR := Lib.hid hR
  have HN := Lib.hid hn
  have HZ := Lib.hid hz
  clear hR hn hz
  go_enter Tryd.func79, Tryd.ntmps79
  go_wp2_with fail
  go_loopg [5, 6, 10] n (fun gk v5 v6 vi wx => ∃ i : Nat, i ≤ n ∧ gk = n - i ∧ vi = .int .i64 i ∧ (∀ j (h : j < l.length), j < i → (l[j].name.toList == s.toList) = false) ∧ Below W.heap.size W wx)
  case atStart => exact ⟨0, Nat.zero_le _, rfl, rfl, fun j h h2 => absurd h2 (by omega), (Below.refl _ _).alloc (Nat.le_refl _) _⟩
  case round =>
    obtain ⟨i, hi, g2, rfl, hat, hb⟩ := hrel
    have G2 := Lib.hid g2
    have HAT := Lib.hid hat
    have HB := Lib.hid hb
    have hbs := hb.size
    clear g2 hat hb
    by_cases hlt : i < n
    · obtain ⟨x, rfl, hx, hix⟩ := (HZ.out.below FieldAt.abides HB.out) (by rw [HN.out]; omega)
      obtain ⟨k0, k1, k2, k3⟩ := hix i (by rw [HN.out]; exact hlt)
      obtain ⟨y, hy⟩ : ∃ y, y = l[i]'(by rw [HN.out]; exact hlt) := ⟨_, rfl⟩
      rw [← hy] at k0 k1 k2 k3
      have HY := Lib.hid hy
      have HB2 := Lib.hid (HB.out.alloc hbs (.cells #[.string y.name, .int .i64 y.bits, .int .i64 y.low] 40))
      clear hix hy
      by_cases he : (y.name.toList == s.toList) = true
      · have HF := Lib.hid (show R = (i : Int) by
          rw [HR.out]
          have := firstAt_some (l.map (·.name)) s 0 i (by rw [List.length_map, HN.out]; exact hlt) (fun j hj hji => by simpa using HAT.out j (by simpa using hj) hji) (by rw [List.getElem_map, ← HY.out]; exact he)
          rw [this]; simp)
        go_wp2_with fail
        go_ret
        exact ⟨by rw [HF.out]; rfl, HB2.out⟩
      · have he2 : (y.name.toList == s.toList) = false := by simpa using he
        have HE := Lib.hid he2
        clear he
        go_wp2_with fail
        go_roundg (n - (i + 1))
        case measure => rw [G2.out]; omega
        case rel => exact ⟨i + 1, hlt, rfl, by go_num, fun j h hj => by
          by_cases hji : j < i
          · exact HAT.out j h hji
          · obtain rfl : j = i := by omega
            rw [← HY.out]; exact HE.out, HB2.out⟩
    · have HF := Lib.hid (show R = -1 by
        rw [HR.out]
        exact firstAt_none _ _ _ fun j hj => by simpa using HAT.out j (by simpa using hj) (by have h2 : j < l.length := (by simpa using hj); rw [HN.out] at h2; omega))
      go_wp2_with fail
      go_ret
      exact ⟨by rw [HF.out]; rfl, HB.out⟩
theorem dup_none {names : List ByteArray} {i : Nat} (hi : i < names.length) (h : ∀ j (hj : j < i), (names[j].toList == names[i].toList) = false) : dupAt names i = false := by
  unfold dupAt
  rw [Bool.eq_false_iff]
  intro ha
  obtain ⟨s, hs, he⟩ := List.any_eq_true.1 ha
  obtain ⟨j, hj, rfl⟩ := List.mem_iff_getElem.1 hs
  rw [List.length_take] at hj
  rw [List.getElem_take, List.getD_eq_getElem?_getD, List.getElem?_eq_getElem hi] at he
  have := h j (by omega)
  simp only [Option.getD_some] at he
  rw [this] at he
  exact absurd he (by decide)
theorem dup_some {names : List ByteArray} {i j : Nat} (hi : i < names.length) (hj : j < i) (h : (names[j].toList == names[i].toList) = true) : dupAt names i = true := by
  unfold dupAt
  rw [List.any_eq_true]
  refine ⟨names[j], ?_, ?_⟩
  · rw [List.mem_iff_getElem]
    exact ⟨j, by rw [List.length_take]; omega, by rw [List.getElem_take]⟩
  · rw [List.getD_eq_getElem?_getD, List.getElem?_eq_getElem hi]; exact h
theorem getD_at {α : Type} [Inhabited α] (l : List α) (i : Nat) (h : i < l.length) : l.getD i default = l[i] := by
  rw [List.getD_eq_getElem?_getD, List.getElem?_eq_getElem h]; rfl
theorem fld_step (l : List FieldV) (k : Nat) (h0 : fldErr l k = 0) : fldErr l (k + 1) = if okF (l.getD k default) = false then 3 else if dupAt (l.map (·.name)) k = true then 5 else 0 := by
  show (if fldErr l k ≠ 0 then _ else _) = _
  rw [if_neg (by rw [h0]; simp)]
set_option maxHeartbeats 8000000 in
theorem kind_One (k : KindV) (a : Option Addr) (n cap : Nat) (hn : k.fields.length = n) (hnm : k.name.size ≤ 9223372036854775807) (hnc : n ≤ cap) (hcm : cap ≤ 9223372036854775807) (W : World) (hz : SlAt 3 FieldAt W a k.fields) :
    Calls Tryd.prog 38 #[.agg #[.string k.name, .slice a n cap]] W fun e w' => e = .returned (.int .i64 (kindE k)) ∧ Below W.heap.size W w' := by
  obtain ⟨nm, l⟩ := k
  simp only at hn hnm hz ⊢
  obtain ⟨R, hR⟩ : ∃ R, R = kindE ⟨nm, l⟩ := ⟨_, rfl⟩
  rw [← hR]
  have HR := Lib.hid hR
  have HN := Lib.hid hn
  have HZ := Lib.hid hz
  have HNM := Lib.hid (kind_Name nm hnm)
  have hb0 := (Below.refl W.heap.size W).alloc (Nat.le_refl _) (.cells #[.string nm, .slice a n cap] 43)
  have x0 := heap_alloc_new W (.cells #[.string nm, .slice a n cap] 43)
  have HB0 := Lib.hid hb0
  have HX0 := Lib.hid x0
  clear hR hn hz hnm hb0 x0
  cases hnb : nameB nm.data.toList
  · have HF := Lib.hid (show R = 3 by rw [HR.out]; unfold kindE; rw [if_pos hnb])
    rw [hnb] at HNM
    clear hnb
    go_enter Tryd.func38, Tryd.ntmps38
    go_wp2_with fail
    refine (HNM.out _).mono ?_
    rintro e w1 ⟨rfl, rfl⟩
    go_wp2_with fail
    go_ret
    exact ⟨by rw [HF.out]; rfl, HB0.out⟩
  · rw [hnb] at HNM
    by_cases h8 : 8 < n
    · have HF := Lib.hid (show R = 2 by rw [HR.out]; unfold kindE; rw [if_neg (by rw [hnb]; decide), if_pos (by rw [HN.out]; exact h8)])
      clear hnb
      go_enter Tryd.func38, Tryd.ntmps38
      go_wp2_with fail
      refine (HNM.out _).mono ?_
      rintro e w1 ⟨rfl, rfl⟩
      go_wp2_with fail
      go_ret
      exact ⟨by rw [HF.out]; rfl, HB0.out⟩
    · have HF := Lib.hid (show R = fldErr l n by rw [HR.out]; unfold kindE; rw [if_neg (by rw [hnb]; decide), if_neg (by rw [HN.out]; exact h8)]; rw [HN.out])
      have h8' : n ≤ 8 := by omega
      clear hnb h8
      go_enter Tryd.func38, Tryd.ntmps38
      go_wp2_with fail
      refine (HNM.out _).mono ?_
      rintro e w1 ⟨rfl, rfl⟩
      go_wp2_with fail
      go_loopg [3, 4, 5, 19] n (fun gk v3 v4 v5 vi wx => ∃ i : Nat, i ≤ n ∧ gk = n - i ∧ vi = .int .i64 i ∧ fldErr l i = 0 ∧ wx.heap[W.heap.size]? = some (.cells #[.string nm, .slice a n cap] 43 (0, 0)) ∧ Below W.heap.size W wx)
      case atStart => exact ⟨0, Nat.zero_le _, rfl, rfl, rfl, HX0.out, HB0.out⟩
      case round =>
        obtain ⟨i, hi, g2, rfl, hfe, hx0, hb⟩ := hrel
        have G2 := Lib.hid g2
        have HFE := Lib.hid hfe
        have HX := Lib.hid hx0
        have HB := Lib.hid hb
        have hbs := hb.size
        clear g2 hfe hx0 hb
        obtain ⟨Wo, rfl⟩ : ∃ Wo : World, Wo = wr := ⟨_, rfl⟩
        by_cases hlt : i < n
        · obtain ⟨x, rfl, hx, hix⟩ := (HZ.out.below FieldAt.abides HB.out) (by rw [HN.out]; omega)
          obtain ⟨k0, k1, k2, k3⟩ := hix i (by rw [HN.out]; exact hlt)
          obtain ⟨y, hy⟩ : ∃ y, y = l[i]'(by rw [HN.out]; exact hlt) := ⟨_, rfl⟩
          rw [← hy] at k0 k1 k2 k3
          have hb2 := (Below.refl Wo.heap.size Wo).alloc (Nat.le_refl _) (.cells #[.string y.name, .int .i64 y.bits, .int .i64 y.low] 40)
          have HC := Lib.hid (kind_field y.name y.bits y.low k3 (Wo.alloc (.cells #[.string y.name, .int .i64 y.bits, .int .i64 y.low] 40)))
          have HY := Lib.hid hy
          have HB2 := Lib.hid hb2
          clear hix hy hb2
          have hst := fld_step l i HFE.out
          rw [getD_at l i (by rw [HN.out]; exact hlt), ← HY.out] at hst
          unfold okF at hst
          by_cases hok : fieldB y.name y.bits y.low = true
          · rw [hok] at HC hst
            rw [if_neg (by decide)] at hst
            have HST := Lib.hid hst
            have HC2 : Hid (Calls Tryd.prog 65 #[.agg #[.string y.name, .int .i64 y.bits, .int .i64 y.low]] (Wo.alloc (.cells #[.string y.name, .int .i64 y.bits, .int .i64 y.low] 40)) fun e w' => e = .returned (.int .i64 0) ∧ Below (Wo.alloc (.cells #[.string y.name, .int .i64 y.bits, .int .i64 y.low] 40)).heap.size (Wo.alloc (.cells #[.string y.name, .int .i64 y.bits, .int .i64 y.low] 40)) w') := Lib.hid HC.out
            clear hst hok HC k3
            go_wp2_with fail
            refine HC2.out.mono ?_
            rintro e w2 ⟨rfl, hb3⟩
            have hyb := heap_below (heap_alloc_new Wo (.cells #[.string y.name, .int .i64 y.bits, .int .i64 y.low] 40)) hb3
            have hxb := heap_below HX.out (HB2.out.trans (hb3.mono (by simp)))
            have hBW := HB.out.trans ((HB2.out.trans (hb3.mono (by simp))).mono hbs)
            have d1 : w2.cell? ⟨W.heap.size, 1, none⟩ = some (.slice (some x) n cap) := by rw [cell_of_row _ _ 1 _ _ _ hxb]; rfl
            have HYB := Lib.hid hyb
            have HXB := Lib.hid hxb
            have HBW := Lib.hid hBW
            have hic : i ≤ cap := by omega
            clear hb3 hyb hxb hBW HC2 HX k0 k1 k2
            go_wp2_with fail
            clear d1
            go_loopg [7, 34] i (fun gk v7 vi wx => ∃ j : Nat, j ≤ i ∧ gk = i - j ∧ vi = .int .i64 j ∧ (∀ q (h : q < l.length), q < j → (l[q].name.toList == y.name.toList) = false) ∧ wx.heap[Wo.heap.size]? = some (.cells #[.string y.name, .int .i64 y.bits, .int .i64 y.low] 40 (0, 0)) ∧ wx.heap[W.heap.size]? = some (.cells #[.string nm, .slice (some x) n cap] 43 (0, 0)) ∧ Below W.heap.size W wx)
            case atStart => exact ⟨0, Nat.zero_le _, rfl, rfl, fun q h h2 => absurd h2 (by omega), HYB.out, HXB.out, HBW.out⟩
            case round =>
              obtain ⟨j, hj, g4, rfl, hat, hyb, hxb, hb⟩ := hrel
              have G4 := Lib.hid g4
              have HAT := Lib.hid hat
              have HYB2 := Lib.hid hyb
              have HXB2 := Lib.hid hxb
              have HB5 := Lib.hid hb
              have hbs5 := hb.size
              clear g4 hat hyb hxb hb
              by_cases hji : j < i
              · obtain ⟨z, hz, hzx, hiz⟩ := (HZ.out.below FieldAt.abides HB5.out) (by rw [HN.out]; omega)
                injection hz with hz
                subst hz
                obtain ⟨m0, m1, m2, m3⟩ := hiz j (by rw [HN.out]; omega)
                obtain ⟨o, ho⟩ : ∃ o, o = l[j]'(by rw [HN.out]; omega) := ⟨_, rfl⟩
                rw [← ho] at m0 m1 m2
                have HO := Lib.hid ho
                have n0 : wr.cell? ⟨Wo.heap.size, 0, none⟩ = some (.string y.name) := by rw [cell_of_row _ _ 0 _ _ _ HYB2.out]; rfl
                have hlt2 : Wo.heap.size < wr.heap.size := lt_of_heap HYB2.out
                have HK1 := Lib.hid (heap_keep HYB2.out (.cells #[.string o.name, .int .i64 o.bits, .int .i64 o.low] 40))
                have HK2 := Lib.hid (heap_keep HXB2.out (.cells #[.string o.name, .int .i64 o.bits, .int .i64 o.low] 40))
                have HB6 := Lib.hid (HB5.out.alloc hbs5 (.cells #[.string o.name, .int .i64 o.bits, .int .i64 o.low] 40))
                clear hiz ho m3
                by_cases he : (o.name.toList == y.name.toList) = true
                · have hR5 : R = 5 := by
                    have hd := dup_some (names := l.map (·.name)) (i := i) (j := j) (by rw [List.length_map, HN.out]; exact hlt) hji (by rw [List.getElem_map, List.getElem_map, ← HO.out, ← HY.out]; exact he)
                    have hs := HST.out
                    rw [if_pos hd] at hs
                    rw [HF.out, fldErr_stays l (i + 1) n hlt (by rw [hs]; decide), hs]
                  have HR5 := Lib.hid hR5
                  clear hR5
                  go_wp2_with fail
                  go_ret
                  exact ⟨by rw [HR5.out]; rfl, HB6.out⟩
                · have he2 : (o.name.toList == y.name.toList) = false := by simpa using he
                  have HE := Lib.hid he2
                  clear he
                  go_wp2_with fail
                  go_roundg (i - (j + 1))
                  case measure => rw [G4.out]; omega
                  case rel => exact ⟨j + 1, hji, rfl, by go_num, fun q h hq => by
                    by_cases hqj : q < j
                    · exact HAT.out q h hqj
                    · obtain rfl : q = j := by omega
                      rw [← HO.out]; exact HE.out, HK1.out, HK2.out, HB6.out⟩
              · have hje : j = i := by omega
                have hf2 : fldErr l (i + 1) = 0 := by
                  have hd := dup_none (names := l.map (·.name)) (i := i) (by rw [List.length_map, HN.out]; exact hlt) (fun q hq => by rw [List.getElem_map, List.getElem_map, ← HY.out]; exact HAT.out q (by rw [HN.out]; omega) (by omega))
                  have hs := HST.out
                  rw [if_neg (by rw [hd]; decide)] at hs
                  exact hs
                have HF2 := Lib.hid hf2
                clear hf2 hje
                go_wp2_with fail
                go_roundg (n - (i + 1))
                case measure => rw [G2.out]; omega
                case rel => exact ⟨i + 1, hlt, rfl, by go_num, HF2.out, HXB2.out, HB5.out⟩
          · have hok2 : fieldB y.name y.bits y.low = false := by simpa using hok
            rw [hok2] at HC hst
            rw [if_pos rfl] at hst
            have HST := Lib.hid hst
            have HC2 : Hid (Calls Tryd.prog 65 #[.agg #[.string y.name, .int .i64 y.bits, .int .i64 y.low]] (Wo.alloc (.cells #[.string y.name, .int .i64 y.bits, .int .i64 y.low] 40)) fun e w' => e = .returned (.int .i64 3) ∧ Below (Wo.alloc (.cells #[.string y.name, .int .i64 y.bits, .int .i64 y.low] 40)).heap.size (Wo.alloc (.cells #[.string y.name, .int .i64 y.bits, .int .i64 y.low] 40)) w') := Lib.hid HC.out
            clear hst hok hok2 HC k3
            go_wp2_with fail
            refine HC2.out.mono ?_
            rintro e w2 ⟨rfl, hb3⟩
            have HB3 := Lib.hid (HB2.out.trans (hb3.mono (by simp)))
            clear hb3
            go_wp2_with fail
            go_ret
            refine ⟨?_, HB.out.trans (HB3.out.mono hbs)⟩
            rw [HF.out, fldErr_stays l (i + 1) n hlt (by rw [HST.out]; decide), HST.out]; rfl
        · have hie : i = n := by omega
          have HF0 := Lib.hid (show R = 0 by rw [HF.out, ← hie]; exact HFE.out)
          clear hie
          go_wp2_with fail
          go_ret
          exact ⟨by rw [HF0.out]; rfl, HB.out⟩
end Go.Proofs.YtijeninfmjhbnaaDoor
end
/- A field is equal to itself. -/
section
namespace Go.Proofs.YtijeninfmjhbnaaDoor
open Go.ChangeShapes Go.WideShapes Go.ChangeAt Go.RowKit Go.Nm Go.Mem
set_option linter.unusedVariables false
theorem fld_same (s : ByteArray) (b l : Int) (w : World) : (Op.equalIn 10000 40 (.agg #[.string s, .int .i64 b, .int .i64 l]) (.agg #[.string s, .int .i64 b, .int .i64 l])).run Tryd.prog w = .ok true w := by
  have u3 := Tryd.underlying3
  have u4 := Tryd.underlying9
  have a3 := Tryd.isAgg3
  have z3 := Tryd.sizeOf3
  have a4 := Tryd.isAgg9
  have z4 := Tryd.sizeOf9
  rw [show (10000 : Nat) = 9999 + 1 from rfl, Op.equalIn]
  simp only [Sem.run_bind, run_underlying Tryd.underlying40, Result.andThen_ok]
  go_simp
theorem fld_neq (s : ByteArray) (b l : Int) (w : World) : (binOp .neq 40 (.agg #[.string s, .int .i64 b, .int .i64 l]) (.agg #[.string s, .int .i64 b, .int .i64 l])).run Tryd.prog w = .ok (.bool false) w := by
  have h := fld_same s b l
  simp [binOp, Op.equal, Op.maxDepth, h]
theorem fld_guard (x y : Operand) (s : ByteArray) (b l : Int) (w : World) : (eqGuard .neq 40 x y (.agg #[.string s, .int .i64 b, .int .i64 l]) (.agg #[.string s, .int .i64 b, .int .i64 l])).run Tryd.prog w = .ok () w := by
  have h : Tryd.prog.eqGuardType Tryd.prog.depth 40 = false := by kernel_rfl
  simp [eqGuard, h]
theorem fld_eql (s : ByteArray) (b l : Int) (w : World) : (binOp .eql 40 (.agg #[.string s, .int .i64 b, .int .i64 l]) (.agg #[.string s, .int .i64 b, .int .i64 l])).run Tryd.prog w = .ok (.bool true) w := by
  have h := fld_same s b l
  simp [binOp, Op.equal, Op.maxDepth, h]
theorem fld_guard_eql (x y : Operand) (s : ByteArray) (b l : Int) (w : World) : (eqGuard .eql 40 x y (.agg #[.string s, .int .i64 b, .int .i64 l]) (.agg #[.string s, .int .i64 b, .int .i64 l])).run Tryd.prog w = .ok () w := by
  have h : Tryd.prog.eqGuardType Tryd.prog.depth 40 = false := by kernel_rfl
  simp [eqGuard, h]
end Go.Proofs.YtijeninfmjhbnaaDoor
end
/- kind.Check. -/
section
namespace Go.Proofs.YtijeninfmjhbnaaDoor
open Go.ChangeShapes Go.WideShapes Go.ChangeAt Go.RowKit Go.Nm Go.Mem
set_option linter.unusedVariables false
theorem firstAt_ge (names : List ByteArray) (s : ByteArray) (k : Nat) : decide (firstAt names s k ≥ 0) = names.any fun a => a.toList == s.toList := by
  induction names generalizing k with
  | nil => rfl
  | cons a r ih =>
    unfold firstAt
    by_cases h : (a.toList == s.toList) = true
    · rw [if_pos h, List.any_cons, h]; simp
    · rw [if_neg h, ih, List.any_cons]
      have h2 : (a.toList == s.toList) = false := by simpa using h
      rw [h2]; rfl
theorem dup_first (names : List ByteArray) (i : Nat) (h : i < names.length) : decide (firstAt (names.take i) names[i] 0 ≥ 0) = dupAt names i := by
  rw [firstAt_ge]
  unfold dupAt
  rw [List.getD_eq_getElem?_getD, List.getElem?_eq_getElem h]; rfl
theorem knd_step (l : List KindV) (k : Nat) (h0 : kndErr l k = 0) : kndErr l (k + 1) = if kindE (l.getD k default) ≠ 0 then kindE (l.getD k default) else if dupAt (l.map (·.name)) k = true then 5 else 0 := by
  show (if kndErr l k ≠ 0 then _ else _) = _
  rw [if_neg (by rw [h0]; simp)]
theorem SlAt.take {α : Type} {sz : Nat} {E : World → Addr → α → Prop} {w : World} {a : Option Addr} {l : List α} (h : SlAt sz E w a l) (k : Nat) : SlAt sz E w a (l.take k) := fun h0 => by
  rw [List.length_take] at h0
  obtain ⟨x, h1, h2, h3⟩ := h (by omega)
  exact ⟨x, h1, h2, fun i hi => by rw [List.length_take] at hi; rw [List.getElem_take]; exact h3 i (by omega)⟩
theorem keepF {w w1 w2 : World} {p : Addr} {v : Value} {a : Option Addr} {l : List KindV} (h : w1.cell? p = some v ∧ SlAt 2 KindAt w1 a l ∧ Below w.heap.size w w1) (hb : Below w1.heap.size w1 w2) : w2.cell? p = some v ∧ SlAt 2 KindAt w2 a l ∧ Below w.heap.size w w2 :=
  ⟨cell_abides h.1 hb, h.2.1.below KindAt.abides hb, h.2.2.trans (hb.mono h.2.2.size)⟩
set_option maxHeartbeats 8000000 in
theorem kind_Check (l : List KindV) (a : Option Addr) (n cap : Nat) (hn : l.length = n) (h1 : n ≤ 9223372036854775807) (hnc : n ≤ cap) (hcm : cap ≤ 9223372036854775807) (W : World) (hz : SlAt 2 KindAt W a l) :
    Calls Tryd.prog 16 #[.slice a n cap] W fun e w' => e = .returned (.int .i64 (kindsE l)) ∧ Below W.heap.size W w' := by
  obtain ⟨R, hR⟩ : ∃ R, R = kindsE l := ⟨_, rfl⟩
  rw [← hR]
  have HR := Lib.hid hR
  have HN := Lib.hid hn
  have HZ := Lib.hid hz
  clear hR hn hz
  by_cases h16 : 16 < n
  · have HF := Lib.hid (show R = 2 by rw [HR.out]; unfold kindsE; rw [if_pos (by rw [HN.out]; exact h16)])
    go_enter Tryd.func16, Tryd.ntmps16
    go_wp2_with fail
    go_ret
    exact ⟨by rw [HF.out]; rfl, Below.refl _ _⟩
  · have HF := Lib.hid (show R = kndErr l n by rw [HR.out]; unfold kindsE; rw [if_neg (by rw [HN.out]; exact h16), HN.out])
    have h16' : n ≤ 16 := by omega
    clear h16
    go_enter Tryd.func16, Tryd.ntmps16
    go_wp2_with fail
    go_loopg [3, 4, 5, 11] n (fun gk v3 v4 v5 vi wx => ∃ i : Nat, i ≤ n ∧ gk = n - i ∧ vi = .int .i64 i ∧ kndErr l i = 0 ∧ Below W.heap.size W wx)
    case atStart => exact ⟨0, Nat.zero_le _, rfl, rfl, rfl, Below.refl _ _⟩
    case round =>
      obtain ⟨i, hi, g2, rfl, hfe, hb⟩ := hrel
      have G2 := Lib.hid g2
      have HFE := Lib.hid hfe
      have HB := Lib.hid hb
      have hbs := hb.size
      clear g2 hfe hb
      obtain ⟨Wo, rfl⟩ : ∃ Wo : World, Wo = wr := ⟨_, rfl⟩
      by_cases hlt : i < n
      · obtain ⟨x, rfl, hx, hix⟩ := (HZ.out.below KindAt.abides HB.out) (by rw [HN.out]; omega)
        obtain ⟨k0, kn, ay, cy, k1, k2, k3, k4⟩ := hix i (by rw [HN.out]; exact hlt)
        obtain ⟨y, hy⟩ : ∃ y, y = l[i]'(by rw [HN.out]; exact hlt) := ⟨_, rfl⟩
        rw [← hy] at k0 kn k1 k2 k4
        have hb2 := (Below.refl Wo.heap.size Wo).alloc (Nat.le_refl _) (.cells #[.string y.name, .slice ay y.fields.length cy] 43)
        have hc := kind_One y ay _ cy rfl kn k2 k3 _ (k4.below FieldAt.abides hb2)
        have hst := knd_step l i HFE.out
        rw [getD_at l i (by rw [HN.out]; exact hlt), ← hy] at hst
        obtain ⟨e1, he1⟩ : ∃ e1, e1 = kindE y := ⟨_, rfl⟩
        rw [← he1] at hc hst
        have HC := Lib.hid hc
        have HST := Lib.hid hst
        have HY := Lib.hid hy
        have HB2 := Lib.hid hb2
        clear hix hy hb2 hc hst he1 kn k2 k3 k4
        by_cases he : e1 = 0
        · subst he
          go_wp2_with fail
          refine HC.out.mono ?_
          rintro e w2 ⟨rfl, hb3⟩
          have hyb := heap_below (heap_alloc_new Wo (.cells #[.string y.name, .slice ay y.fields.length cy] 43)) hb3
          have hBo := HB2.out.trans (hb3.mono (by simp))
          have hBW := HB.out.trans (hBo.mono hbs)
          have d0 : w2.cell? ⟨Wo.heap.size, 0, none⟩ = some (.string y.name) := by rw [cell_of_row _ _ 0 _ _ _ hyb]; rfl
          have hfnd := kind_Find (l.take i) (some x) i cap y.name (by rw [List.length_take, HN.out]; omega) (by omega)
          have hds := dup_first (l.map (·.name)) i (by rw [List.length_map, HN.out]; exact hlt)
          rw [List.getElem_map, ← HY.out, ← List.map_take] at hds
          obtain ⟨q, hq⟩ : ∃ q, q = firstAt ((l.take i).map (·.name)) y.name 0 := ⟨_, rfl⟩
          rw [← hq] at hfnd hds
          have HFND := Lib.hid hfnd
          have HDS := Lib.hid hds
          have HBW := Lib.hid hBW
          have hic : i ≤ cap := by omega
          have hzw := (HZ.out.take i).below KindAt.abides hBW
          have HZW := Lib.hid hzw
          clear hb3 hyb hBo hfnd hds hq hBW hzw k0 k1
          have hbx : Below W.heap.size W w2 := HBW.out
          go_wp2_with fail
          go_region_held3 (fun w' => w'.cell? ⟨Wo.heap.size, 0, none⟩ = some (.string y.name) ∧ SlAt 2 KindAt w' (some x) (l.take i) ∧ Below W.heap.size W w')
            (first | exact ⟨d0, HZW.out, hbx.drew⟩ | assumption | exact keepF (by assumption) (by assumption))
            ((go_at_call 39; refine (HFND.out _ (And.left (And.right (by assumption)))).mono ?_; rintro e w8 ⟨rfl, hb8⟩))
          rename_i hHeld
          have HB9 := Lib.hid hHeld.2.2
          clear hHeld hb8
          by_cases hq : 0 ≤ q
          · have hR : R = 5 := by
              have hd : dupAt (l.map (·.name)) i = true := HDS.out.symm.trans (decide_eq_true hq)
              have hs := HST.out
              rw [if_neg (by simp), if_pos hd] at hs
              rw [HF.out, kndErr_stays l (i + 1) n hlt (by rw [hs]; decide), hs]
            have HR5 := Lib.hid hR
            clear hR
            go_wp2_with fail
            go_ret
            exact ⟨by rw [HR5.out]; rfl, HB9.out⟩
          · have hk2 : kndErr l (i + 1) = 0 := by
              have hd : dupAt (l.map (·.name)) i = false := HDS.out.symm.trans (decide_eq_false hq)
              have hs := HST.out
              rw [if_neg (by simp), if_neg (by rw [hd]; decide)] at hs
              exact hs
            have HK2 := Lib.hid hk2
            clear hk2
            go_wp2_with fail
            go_roundg (n - (i + 1))
            case measure => rw [G2.out]; omega
            case rel => exact ⟨i + 1, hlt, rfl, by go_num, HK2.out, HB9.out⟩
        · have t1 : (e1 != 0) = true := by rw [bne_iff_ne]; exact he
          have hR : R = e1 := by
            have hs := HST.out
            rw [if_pos he] at hs
            rw [HF.out, kndErr_stays l (i + 1) n hlt (by rw [hs]; exact he), hs]
          have HR5 := Lib.hid hR
          clear hR he
          go_wp2_with fail
          refine HC.out.mono ?_
          rintro e w2 ⟨rfl, hb3⟩
          have HBW := Lib.hid (HB.out.trans ((HB2.out.trans (hb3.mono (by simp))).mono hbs))
          clear hb3
          go_wp2_with fail
          go_ret
          exact ⟨by rw [HR5.out]; rfl, HBW.out⟩
      · have hie : i = n := by omega
        have HF0 := Lib.hid (show R = 0 by rw [HF.out, ← hie]; exact HFE.out)
        clear hie
        go_wp2_with fail
        go_ret
        exact ⟨by rw [HF0.out]; rfl, HB.out⟩
end Go.Proofs.YtijeninfmjhbnaaDoor
end
/- Rows of the call's own: kept, apart from each other; an append of a slice of integers. No program is named here. -/
section
namespace Go
open Go.RowKit
namespace Mem

/-! More on rows of the call's own. -/
theorem own_keep {w w2 : World} {base e size n : Nat} {v : Value} {xs : List Value} (h : w.ownsRow base e size v n xs) (hk : ∀ g, v.ownBlock = some g → w2.heap[g]? = w.heap[g]?) : w2.ownsRow base e size v n xs := by
  refine ⟨h.1, ?_⟩
  rcases h.2 with h2 | ⟨g, cap, cur, h1, h2, h3, h4⟩
  · exact .inl h2
  · exact .inr ⟨g, cap, cur, h1, h2, (hk g (by rw [h1]; rfl)).trans h3, h4⟩
theorem own_lt {w : World} {base e size n : Nat} {v : Value} {xs : List Value} (h : w.ownsRow base e size v n xs) (g : Nat) (hg : v.ownBlock = some g) : base ≤ g ∧ g < w.heap.size := by
  rcases h.2 with ⟨h2, _⟩ | ⟨g', cap, cur, h1, h2, h3, h4⟩
  · rw [h2] at hg; cases hg
  · rw [h1] at hg
    obtain rfl : g' = g := by simpa [Value.ownBlock] using hg
    exact ⟨h2, lt_of_heap h3⟩
theorem own_below {w w2 : World} {base e size n : Nat} {v : Value} {xs : List Value} (h : w.ownsRow base e size v n xs) (hb : Below w.heap.size w w2) : w2.ownsRow base e size v n xs :=
  own_keep h fun g hg => hb.block g (own_lt h g hg).2
theorem own_grown {w w2 : World} {base e size n : Nat} {v : Value} {xs : List Value} {row : Option Nat} (h : w.ownsRow base e size v n xs) (hg : w.grownBy w2 row) (hne : ∀ g, v.ownBlock = some g → some g ≠ row) : w2.ownsRow base e size v n xs :=
  own_keep h fun g hv => hg.block g (own_lt h g hv).2 (hne g hv)
/-- Rows of different element types lie in different blocks. -/
theorem own_other {w : World} {base base2 e e2 size size2 n n2 : Nat} {v v2 : Value} {xs ys : List Value} (h : w.ownsRow base e size v n xs) (h2 : w.ownsRow base2 e2 size2 v2 n2 ys) (hne : e ≠ e2) (g : Nat) (hg : v.ownBlock = some g) : some g ≠ v2.ownBlock := by
  intro he
  rcases h.2 with ⟨h3, _⟩ | ⟨g', cap, cur, h3, _, h4, _⟩
  · rw [h3] at hg; cases hg
  · rw [h3] at hg
    obtain rfl : g' = g := by simpa [Value.ownBlock] using hg
    rcases h2.2 with ⟨h5, _⟩ | ⟨g'', cap2, cur2, h5, _, h6, _⟩
    · rw [h5] at he; cases he
    · rw [h5] at he
      obtain rfl : g' = g'' := by simpa [Value.ownBlock] using he
      rw [h4] at h6
      injection h6 with h6
      injection h6 with _ ht
      exact hne ht
theorem own_base {w : World} {base base2 e size n : Nat} {v : Value} {xs : List Value} (h : w.ownsRow base e size v n xs) (hb : ∀ g, v.ownBlock = some g → base2 ≤ g) : w.ownsRow base2 e size v n xs := by
  refine ⟨h.1, ?_⟩
  rcases h.2 with h2 | ⟨g, cap, cur, h1, h2, h3⟩
  · exact .inl h2
  · exact .inr ⟨g, cap, cur, h1, hb g (by rw [h1]; rfl), h3⟩
theorem own_lower {w : World} {base base2 e size n : Nat} {v : Value} {xs : List Value} (h : w.ownsRow base e size v n xs) (hb : base2 ≤ base) : w.ownsRow base2 e size v n xs := own_base h fun g hg => Nat.le_trans hb (own_lt h g hg).1
/-- 'append(v, s...)' of a slice of integers, whatever it is, v nil or the call's own. -/
theorem wpList_append_ints {P : Program} {w : World} {ops : Array Oper} {rest : List Oper} {o : Oper} {a : Act} {Q : Exit → Act → World → Prop} (hgd : o.guard = none) (s x : Operand) (t : TypeId)
    (ho : o.op = .call { callee := .builtin .append, args := #[s, x], argTypes := #[t, t] })
    (base : Nat) (e : TypeId) (k : IntKind) (bytes : Nat) (ht : P.underlying t = some (.slice e)) (hi : (P.info? e).map (fun i => (i.zero, i.size, i.bytes)) = some (some (.int k 0), 1, bytes))
    (v : Value) (n : Nat) (xs : List Int) (hs : a.eval s = v) (hown : w.ownsRow base e 1 v n (vints k xs))
    (A : Option Addr) (m c : Nat) (zs : List Int) (hx : a.eval x = .slice A m c) (hm : zs.length = m) (hr : IntsAt k w A zs)
    (hn : n + m ≤ maxLen) (hbytes : (n + m) * bytes ≤ 140737488355328) (hbase : base ≤ w.heap.size)
    (h : ∀ v' w', w'.ownsRow base e 1 v' (n + m) (vints k (xs ++ zs)) → w.grownBy w' v.ownBlock → (v'.ownBlock = v.ownBlock ∨ v'.ownBlock = some w.heap.size) → wpList P ops Q rest (a.put o.dst v') w') :
    wpList P ops Q (o :: rest) a w := by
  obtain ⟨i, hi1, hi2, hi3, hi4⟩ := info_parts hi
  have key : ∃ v' w', (Builtin.append_ #[t, t] o.type #[v, .slice A m c]).run P w = .ok v' w' ∧ w'.ownsRow base e 1 v' (n + m) (vints k (xs ++ zs)) ∧ w.grownBy w' v.ownBlock ∧ (v'.ownBlock = v.ownBlock ∨ v'.ownBlock = some w.heap.size) := by
    by_cases h0 : m = 0
    · subst h0
      have hz : zs = [] := List.eq_nil_of_length_eq_zero hm
      subst hz
      rcases A with _ | ad
      · refine ⟨v, w, ?_, by simpa using hown, World.grownBy.refl w _, .inl rfl⟩
        rcases hown.2 with ⟨rfl, rfl⟩ | ⟨g, cap, cur, rfl, _, _, hnc, _⟩
        · simp [Builtin.append_, run_underlying ht, sizeOf, typeInfo, hi1, Builtin.lenOf, Builtin.firstCells]
        · simp [Builtin.append_, run_underlying ht, sizeOf, typeInfo, hi1, Builtin.lenOf, Builtin.firstCells, hnc, storeCells]
      · obtain ⟨v', w', hrun, h2, h3, _, h5⟩ := run_append_own_at (P := P) w base t o.type e i (.int k 0) 1 bytes ht hi1 hi2 hi3 hi4 rfl (by omega) v n _ hown ad 0 c [] rfl (by simp) (by simp) hn hbytes hbase
        exact ⟨v', w', hrun, by simpa using h2, h3, h5⟩
    · obtain ⟨ad, rfl, _, hc⟩ := hr (by omega)
      have hnews : ∀ j u, (vints k zs)[j]? = some u → w.cell? (ad.add j) = some u := by
        intro j u hu
        have hj : j < zs.length := by
          have := (List.getElem?_eq_some_iff.1 hu).1
          rwa [vints_length] at this
        rw [hc j hj]
        rw [vints_get k zs j hj] at hu
        exact hu
      obtain ⟨v', w', hrun, h2, h3, _, h5⟩ := run_append_own_at (P := P) w base t o.type e i (.int k 0) 1 bytes ht hi1 hi2 hi3 hi4 rfl (by omega) v n _ hown ad m c (vints k zs) (by rw [vints_length, hm, Nat.mul_one]) hnews (vints_one k zs) hn hbytes hbase
      rw [vints_append] at h2
      exact ⟨v', w', hrun, h2, h3, h5⟩
  obtain ⟨v', w', hrun, h2, h3, h4⟩ := key
  refine wpList_plain hgd fun K hK => ?_
  unfold Oper.wp execOp
  simp only [ho, resolve, invoke, builtin, Sem.run_bind, Sem.run_pure, Result.andThen_ok, List.map_toArray, List.map_cons, List.map_nil, hs, hx, hrun]
  exact hK _ _ (h v' w' h2 h3 h4)
end Mem
end Go
end
