/- Lemmas for the law MigrateBack: CloneI, KindErr, Keep. No conditions. -/
import Derived.Test.YtijeninfmjhbnaaDoorM01
import Derived.Test.YtijeninfmjhbnaaDoorRows
import Derived.Test.YtijeninfmjhbnaaDoorM03
import Derived.Deep.DeepMust
import Derived.WalkSpells
import Derived.Lib.LazyBuf
import Derived.Great.BuildSlice
import Derived.WalkKit
import Derived.ProofKit
/- slices.Clone of ints. -/
section
namespace Go.Proofs.YtijeninfmjhbnaaDoor
open Go.ChangeShapes Go.WideShapes Go.ChangeAt Go.RowKit Go.Mem
set_option linter.unusedVariables false

/-- A slice of ints that the call owns. -/
def OwnPost (zs : List Int) (n : Nat) (w : World) (e : Ending) (w' : World) : Prop := ∃ v, e = .returned v ∧ w'.ownsRow w.heap.size 3 1 v n (vints .i64 zs) ∧ Below w.heap.size w w'

theorem own_slice {w : World} {base e size n : Nat} {v : Value} {xs : List Value} (h : w.ownsRow base e size v n xs) : ∃ a c, v = .slice a n c := by
  rcases h.2 with ⟨rfl, rfl⟩ | ⟨g, cap, cur, rfl, _⟩
  · exact ⟨none, 0, rfl⟩
  · exact ⟨_, cap, rfl⟩
/-- the clone, as a list in new memory -/
def ClonePost (l : List Int) (n : Nat) (w : World) (e : Ending) (w' : World) : Prop := ∃ a c, e = .returned (.slice a n c) ∧ IntsAt .i64 w' a l ∧ (∀ x, a = some x → w.heap.size ≤ x.block) ∧ Below w.heap.size w w'
end Go.Proofs.YtijeninfmjhbnaaDoor
end
/- ref twice, KindError, KindsError. -/
section
namespace Go.Proofs.YtijeninfmjhbnaaDoor
open Go.ChangeShapes Go.WideShapes Go.ChangeAt Go.RowKit Go.Nm Go.Mem
set_option linter.unusedVariables false
def vstrs (l : List ByteArray) : List Value := l.map Value.string
def StrsAt (w : World) (a : Option Addr) (l : List ByteArray) : Prop := SlAt 1 (fun w p s => w.cell? p = some (.string s)) w a l
theorem StrsAt.below {w w' : World} {a : Option Addr} {l : List ByteArray} (h : StrsAt w a l) (hb : Below w.heap.size w w') : StrsAt w' a l := SlAt.below (E := fun w p s => w.cell? p = some (.string s)) (fun _ _ _ _ h1 h2 => cell_abides h1 h2) h hb
theorem strs_own {w : World} {base e : Nat} {a : Option Addr} {n cap : Nat} {l : List ByteArray} (h : w.ownsRow base e 1 (.slice a n cap) n (vstrs l)) (hn : l.length = n) : StrsAt w a l := fun h0 => by
  obtain ⟨g, cap', hv, _, hlt⟩ := h.form (by omega)
  injection hv with hv
  subst hv
  refine ⟨_, rfl, hlt, fun i hi => ?_⟩
  rw [Nat.mul_one]
  exact h.cells (g := g) rfl i _ (by unfold vstrs; rw [List.getElem?_map, List.getElem?_eq_getElem hi]; rfl)
set_option maxHeartbeats 4000000 in
theorem index_strs (l : List ByteArray) (a : Option Addr) (n cap : Nat) (s : ByteArray) (hn : l.length = n) (h1 : n ≤ 17592186044000) (W : World) (hz : StrsAt W a l) :
    Calls Tryd.prog 90 #[.slice a n cap, .string s] W fun e w' => e = .returned (.int .i64 (firstAt l s 0)) ∧ Below W.heap.size W w' := by
  obtain ⟨R, hR⟩ : ∃ R, R = firstAt l s 0 := ⟨_, rfl⟩
  rw [← hR]
  have HR := Lib.hid hR
  have HN := Lib.hid hn
  have HZ := Lib.hid hz
  clear hR hn hz
  go_enter Tryd.func90, Tryd.ntmps90
  go_wp2_with fail
  go_loopg [5, 8] n (fun gk v5 vi wx => ∃ i : Nat, i ≤ n ∧ gk = n - i ∧ vi = .int .i64 i ∧ (∀ j (h : j < l.length), j < i → (l[j].toList == s.toList) = false) ∧ Below W.heap.size W wx)
  case atStart => exact ⟨0, Nat.zero_le _, rfl, rfl, fun j h h2 => absurd h2 (by omega), Below.refl _ _⟩
  case round =>
    obtain ⟨i, hi, g2, rfl, hat, hb⟩ := hrel
    have G2 := Lib.hid g2
    have HAT := Lib.hid hat
    have HB := Lib.hid hb
    clear g2 hat hb
    by_cases hlt : i < n
    · obtain ⟨x, rfl, hx, hix⟩ := (HZ.out.below HB.out) (by rw [HN.out]; omega)
      have k0 := hix i (by rw [HN.out]; exact hlt)
      simp only [Nat.mul_one] at k0
      obtain ⟨y, hy⟩ : ∃ y, y = l[i]'(by rw [HN.out]; exact hlt) := ⟨_, rfl⟩
      rw [← hy] at k0
      have HY := Lib.hid hy
      clear hix hy
      by_cases he : (y.toList == s.toList) = true
      · have he3 : (s.toList == y.toList) = true := by rw [beq_iff_eq] at he ⊢; exact he.symm
        have HF := Lib.hid (show R = (i : Int) by
          rw [HR.out]
          have := firstAt_some l s 0 i (by rw [HN.out]; exact hlt) (fun j hj hji => HAT.out j hj hji) (by rw [← HY.out]; exact he)
          rw [this]; simp)
        go_wp2_with fail
        go_ret
        exact ⟨by rw [HF.out]; rfl, HB.out⟩
      · have he2 : (y.toList == s.toList) = false := by simpa using he
        have he3 : (s.toList == y.toList) = false := by rw [beq_eq_false_iff_ne] at he2 ⊢; exact he2.symm
        have HE := Lib.hid he2
        clear he
        go_wp2_with fail
        go_roundg (n - (i + 1))
        case measure => rw [G2.out]; omega
        case rel => exact ⟨i + 1, hlt, rfl, by go_num, fun j h hj => by
          by_cases hji : j < i
          · exact HAT.out j h hji
          · obtain rfl : j = i := by omega
            rw [← HY.out]; exact HE.out, HB.out⟩
    · have HF := Lib.hid (show R = -1 by
        rw [HR.out]
        exact firstAt_none _ _ _ fun j hj => HAT.out j hj (by rw [HN.out] at hj; omega))
      go_wp2_with fail
      go_ret
      exact ⟨by rw [HF.out]; rfl, HB.out⟩
theorem contains_strs (l : List ByteArray) (a : Option Addr) (n cap : Nat) (s : ByteArray) (hn : l.length = n) (h1 : n ≤ 17592186044000) (W : World) (hz : StrsAt W a l) :
    Calls Tryd.prog 53 #[.slice a n cap, .string s] W fun e w' => e = .returned (.bool (l.any fun a => a.toList == s.toList)) ∧ Below W.heap.size W w' := by
  have hc := index_strs l a n cap s hn h1 W hz
  obtain ⟨q, hq⟩ : ∃ q, q = firstAt l s 0 := ⟨_, rfl⟩
  have hd := firstAt_ge l s 0
  rw [← hq] at hc hd
  have HC := Lib.hid hc
  have HD := Lib.hid hd
  clear hc hd hq hn hz
  go_enter Tryd.func53, Tryd.ntmps53
  go_wp2_with (first | (go_at_call 90; refine HC.out.mono ?_; rintro e w1 ⟨rfl, hb1⟩) | go_in)
  go_ret
  exact ⟨by rw [← HD.out]; rfl, hb1⟩
theorem vstrs_snoc (l : List ByteArray) (s : ByteArray) : vstrs l ++ #[Value.string s].toList = vstrs (l ++ [s]) := by simp [vstrs]
theorem take_snoc' {α : Type} (l : List α) (j : Nat) (h : j < l.length) : l.take (j + 1) = l.take j ++ [l[j]] := by
  rw [List.take_add_one, List.getElem?_eq_getElem h]; rfl
theorem dup_any (names : List ByteArray) (i : Nat) (h : i < names.length) : ((names.take i).any fun a => a.toList == names[i].toList) = dupAt names i := by
  unfold dupAt
  rw [List.getD_eq_getElem?_getD, List.getElem?_eq_getElem h]; rfl
set_option maxHeartbeats 8000000 in
theorem ref_KindError (k : KindV) (a : Option Addr) (n cap : Nat) (hn : k.fields.length = n) (hnm : k.name.size ≤ 9223372036854775807) (hn9 : n ≤ 9223372036854775807) (W : World) (hz : SlAt 3 FieldAt W a k.fields) :
    Calls Tryd.prog 52 #[.agg #[.string k.name, .slice a n cap]] W fun e w' => e = .returned (.int .i64 (kindE k)) ∧ Below W.heap.size W w' := by
  obtain ⟨nm, l⟩ := k
  simp only at hn hnm hz ⊢
  obtain ⟨R, hR⟩ : ∃ R, R = kindE ⟨nm, l⟩ := ⟨_, rfl⟩
  rw [← hR]
  have HR := Lib.hid hR
  have HN := Lib.hid hn
  have HZ := Lib.hid hz
  have HNM := Lib.hid (ref_IsName nm hnm)
  have hb0 := (Below.refl W.heap.size W).alloc (Nat.le_refl _) (.cells #[.string nm, .slice a n cap] 43)
  have x0 := heap_alloc_new W (.cells #[.string nm, .slice a n cap] 43)
  have HB0 := Lib.hid hb0
  have HX0 := Lib.hid x0
  clear hR hn hz hnm hb0 x0
  cases hnb : nameB nm.data.toList
  · have HF := Lib.hid (show R = 3 by rw [HR.out]; unfold kindE; rw [if_pos hnb])
    rw [hnb] at HNM
    clear hnb
    go_enter Tryd.func52, Tryd.ntmps52
    go_wp2_with fail
    refine (HNM.out _).mono ?_
    rintro e w1 ⟨rfl, hb1⟩
    go_wp2_with fail
    go_ret
    exact ⟨by rw [HF.out]; rfl, HB0.out.trans (hb1.mono (by simp))⟩
  · rw [hnb] at HNM
    by_cases h8 : 8 < n
    · have HF := Lib.hid (show R = 2 by rw [HR.out]; unfold kindE; rw [if_neg (by rw [hnb]; decide), if_pos (by rw [HN.out]; exact h8)])
      clear hnb
      go_enter Tryd.func52, Tryd.ntmps52
      go_wp2_with fail
      refine (HNM.out _).mono ?_
      rintro e w1 ⟨rfl, hb1⟩
      have c1 : w1.cell? ⟨W.heap.size, 1, none⟩ = some (.slice a n cap) := by rw [cell_of_row _ _ 1 _ _ _ (heap_below HX0.out hb1)]; rfl
      have HB1 := Lib.hid (HB0.out.trans (hb1.mono (by simp)))
      clear hb1
      go_wp2_with fail
      go_ret
      exact ⟨by rw [HF.out]; rfl, HB1.out⟩
    · have HF := Lib.hid (show R = fldErr l n by rw [HR.out]; unfold kindE; rw [if_neg (by rw [hnb]; decide), if_neg (by rw [HN.out]; exact h8)]; rw [HN.out])
      have h8' : n ≤ 8 := by omega
      clear hnb h8
      go_enter Tryd.func52, Tryd.ntmps52
      go_wp2_with fail
      refine (HNM.out _).mono ?_
      rintro e w1 ⟨rfl, hb1⟩
      have c1 : w1.cell? ⟨W.heap.size, 1, none⟩ = some (.slice a n cap) := by rw [cell_of_row _ _ 1 _ _ _ (heap_below HX0.out hb1)]; rfl
      have HB1 := Lib.hid (HB0.out.trans (hb1.mono (by simp)))
      have hs1 : W.heap.size ≤ w1.heap.size := HB1.out.size
      clear hb1
      go_wp2_with fail
      clear c1
      go_loopg [3, 5, 17] n (fun gk v3 v5 vi wx => ∃ i : Nat, i ≤ n ∧ gk = n - i ∧ vi = .int .i64 i ∧ fldErr l i = 0 ∧ wx.ownsRow W.heap.size 9 1 v3 i (vstrs ((l.map (·.name)).take i)) ∧ Below W.heap.size W wx)
      case atStart => exact ⟨0, Nat.zero_le _, rfl, rfl, rfl, World.ownsRow_nil _ _ _ _, HB1.out⟩
      case round =>
        obtain ⟨i, hi, g2, rfl, hfe, hown, hb⟩ := hrel
        have G2 := Lib.hid g2
        have HFE := Lib.hid hfe
        have HB := Lib.hid hb
        have HO := Lib.hid hown
        have hbs := hb.size
        obtain ⟨av, cv, rfl⟩ := own_slice hown
        clear g2 hfe hown hb
        obtain ⟨Wo, rfl⟩ : ∃ Wo : World, Wo = wr := ⟨_, rfl⟩
        by_cases hlt : i < n
        · obtain ⟨x, rfl, hx, hix⟩ := (HZ.out.below FieldAt.abides HB.out) (by rw [HN.out]; omega)
          obtain ⟨k0, k1, k2, k3⟩ := hix i (by rw [HN.out]; exact hlt)
          obtain ⟨y, hy⟩ : ∃ y, y = l[i]'(by rw [HN.out]; exact hlt) := ⟨_, rfl⟩
          rw [← hy] at k0 k1 k2 k3
          have hb2 := (Below.refl Wo.heap.size Wo).alloc (Nat.le_refl _) (.cells #[.string y.name, .int .i64 y.bits, .int .i64 y.low] 40)
          have hc := ref_FieldOK y.name y.bits y.low k3 (Wo.alloc (.cells #[.string y.name, .int .i64 y.bits, .int .i64 y.low] 40))
          have HY := Lib.hid hy
          have HB2 := Lib.hid hb2
          clear hix hb2 k3
          have hst := fld_step l i HFE.out
          rw [getD_at l i (by rw [HN.out]; exact hlt), ← HY.out] at hst
          have hnames : i < (l.map (·.name)).length := by rw [List.length_map, HN.out]; exact hlt
          have hgn : (l.map (·.name))[i] = y.name := by rw [List.getElem_map, ← hy]
          have hda := dup_any (l.map (·.name)) i hnames
          rw [hgn] at hda
          have htk := take_snoc' (l.map (·.name)) i hnames
          rw [hgn] at htk
          have hnl : ((l.map (·.name)).take i).length = i := by rw [List.length_take]; omega
          unfold okF at hst
          obtain ⟨NM, hNM⟩ : ∃ NM, NM = (l.map (·.name)).take i := ⟨_, rfl⟩
          rw [← hNM] at HO hda htk hnl
          obtain ⟨dv, hdv⟩ : ∃ dv, dv = dupAt (l.map (·.name)) i := ⟨_, rfl⟩
          rw [← hdv] at hst hda
          have HDA := Lib.hid hda
          have HTK := Lib.hid htk
          have HNL := Lib.hid hnl
          obtain ⟨ok, hok⟩ : ∃ ok, ok = fieldB y.name y.bits y.low := ⟨_, rfl⟩
          rw [← hok] at hst hc
          have HC := Lib.hid hc
          have HST := Lib.hid hst
          clear hy hst hc hok hnames hgn hda htk hnl hNM hdv
          cases ok
          · go_wp2_with fail
            refine HC.out.mono ?_
            rintro e w2 ⟨rfl, hb3⟩
            have HB3 := Lib.hid (HB.out.trans ((HB2.out.trans (hb3.mono (by simp))).mono hbs))
            clear hb3
            go_wp2_with fail
            go_ret
            refine ⟨?_, HB3.out⟩
            have hs := HST.out
            simp at hs
            rw [HF.out, fldErr_stays l (i + 1) n hlt (by rw [hs]; decide), hs]; rfl
          · go_wp2_with fail
            refine HC.out.mono ?_
            rintro e w2 ⟨rfl, hb3⟩
            have hyb := heap_below (heap_alloc_new Wo (.cells #[.string y.name, .int .i64 y.bits, .int .i64 y.low] 40)) hb3
            have hBo := HB2.out.trans (hb3.mono (by simp))
            have d0 : w2.cell? ⟨Wo.heap.size, 0, none⟩ = some (.string y.name) := by rw [cell_of_row _ _ 0 _ _ _ hyb]; rfl
            have ho2 := own_below HO.out hBo
            have htw := contains_strs NM av i cv y.name HNL.out (by omega) w2 (strs_own ho2 HNL.out)
            rw [HDA.out] at htw
            have HTW := Lib.hid htw
            have HYB := Lib.hid hyb
            have HO2 := Lib.hid ho2
            have HBW := Lib.hid (HB.out.trans (hBo.mono hbs))
            clear hb3 hyb hBo ho2 htw HO
            go_wp2_with fail
            refine HTW.out.mono ?_
            rintro e w3 ⟨rfl, hb4⟩
            have e0 : w3.cell? ⟨Wo.heap.size, 0, none⟩ = some (.string y.name) := by rw [cell_of_row _ _ 0 _ _ _ (heap_below HYB.out hb4)]; rfl
            have ho3 := own_below HO2.out hb4
            have hb5 := HBW.out.trans (hb4.mono HBW.out.size)
            have HB5 := Lib.hid hb5
            have hs5 := hb5.size
            clear d0 hb4 hb5
            cases dv
            · have hf2 : fldErr l (i + 1) = 0 := by
                have hs := HST.out
                simp at hs
                exact hs
              have HF2 := Lib.hid hf2
              clear hf2
              go_wp2_with (at_builtin; go_must (refine wpList_append_new rfl _ _ 97 rfl W.heap.size 9 (.string ByteArray.empty) 1 16 Tryd.underlying97 (by kernel_rfl) rfl (by decide) _ _ _ rfl ho3 _ _ rfl rfl rfl (by omega) (by decide) hs5 ?_))
              intro g' cap' w' hown' hg hor hlt'
              rw [vstrs_snoc, ← HTK.out] at hown'
              have HO4 := Lib.hid hown'
              have HB6 := Lib.hid (HB5.out.grown hg hs5 (fun g hg2 => (own_lt ho3 g hg2).1))
              clear hown' hg hor ho3
              go_wp2_with fail
              go_roundg (n - (i + 1))
              case measure => rw [G2.out]; omega
              case rel => exact ⟨i + 1, hlt, rfl, by go_num, HF2.out, HO4.out, HB6.out⟩
            · go_wp2_with fail
              go_ret
              refine ⟨?_, HB5.out⟩
              have hs := HST.out
              simp at hs
              rw [HF.out, fldErr_stays l (i + 1) n hlt (by rw [hs]; decide), hs]; rfl
        · have hie : i = n := by omega
          have HF0 := Lib.hid (show R = 0 by rw [HF.out, ← hie]; exact HFE.out)
          clear hie
          go_wp2_with fail
          go_ret
          exact ⟨by rw [HF0.out]; rfl, HB.out⟩
set_option maxHeartbeats 8000000 in
theorem ref_KindsError (l : List KindV) (a : Option Addr) (n cap : Nat) (hn : l.length = n) (hn9 : n ≤ 9223372036854775807) (W : World) (hz : SlAt 2 KindAt W a l) :
    Calls Tryd.prog 26 #[.slice a n cap] W fun e w' => e = .returned (.int .i64 (kindsE l)) ∧ Below W.heap.size W w' := by
  obtain ⟨R, hR⟩ : ∃ R, R = kindsE l := ⟨_, rfl⟩
  rw [← hR]
  have HR := Lib.hid hR
  have HN := Lib.hid hn
  have HZ := Lib.hid hz
  clear hR hn hz
  by_cases h16 : 16 < n
  · have HF := Lib.hid (show R = 2 by rw [HR.out]; unfold kindsE; rw [if_pos (by rw [HN.out]; exact h16)])
    go_enter Tryd.func26, Tryd.ntmps26
    go_wp2_with fail
    go_ret
    exact ⟨by rw [HF.out]; rfl, Below.refl _ _⟩
  · have HF := Lib.hid (show R = kndErr l n by rw [HR.out]; unfold kindsE; rw [if_neg (by rw [HN.out]; exact h16), HN.out])
    have h16' : n ≤ 16 := by omega
    clear h16
    go_enter Tryd.func26, Tryd.ntmps26
    go_wp2_with fail
    go_loopg [3, 5, 6, 12] n (fun gk v3 v5 v6 vi wx => ∃ i : Nat, i ≤ n ∧ gk = n - i ∧ vi = .int .i64 i ∧ kndErr l i = 0 ∧ wx.ownsRow W.heap.size 9 1 v3 i (vstrs ((l.map (·.name)).take i)) ∧ Below W.heap.size W wx)
    case atStart => exact ⟨0, Nat.zero_le _, rfl, rfl, rfl, World.ownsRow_nil _ _ _ _, Below.refl _ _⟩
    case round =>
      obtain ⟨i, hi, g2, rfl, hfe, hown, hb⟩ := hrel
      have G2 := Lib.hid g2
      have HFE := Lib.hid hfe
      have HB := Lib.hid hb
      have HO := Lib.hid hown
      have hbs := hb.size
      obtain ⟨av, cv, rfl⟩ := own_slice hown
      clear g2 hfe hown hb
      obtain ⟨Wo, rfl⟩ : ∃ Wo : World, Wo = wr := ⟨_, rfl⟩
      by_cases hlt : i < n
      · obtain ⟨x, rfl, hx, hix⟩ := (HZ.out.below KindAt.abides HB.out) (by rw [HN.out]; omega)
        obtain ⟨k0, kn, ay, cy, k1, k2, k3, k4⟩ := hix i (by rw [HN.out]; exact hlt)
        obtain ⟨y, hy⟩ : ∃ y, y = l[i]'(by rw [HN.out]; exact hlt) := ⟨_, rfl⟩
        rw [← hy] at k0 kn k1 k2 k4
        have hb2 := (Below.refl Wo.heap.size Wo).alloc (Nat.le_refl _) (.cells #[.string y.name, .slice ay y.fields.length cy] 43)
        have hc := ref_KindError y ay _ cy rfl kn (by omega) _ (k4.below FieldAt.abides hb2)
        have HY := Lib.hid hy
        have HB2 := Lib.hid hb2
        have hst := knd_step l i HFE.out
        rw [getD_at l i (by rw [HN.out]; exact hlt), ← hy] at hst
        have hnames : i < (l.map (·.name)).length := by rw [List.length_map, HN.out]; exact hlt
        have hgn : (l.map (·.name))[i] = y.name := by rw [List.getElem_map, ← hy]
        have hda := dup_any (l.map (·.name)) i hnames
        rw [hgn] at hda
        have htk := take_snoc' (l.map (·.name)) i hnames
        rw [hgn] at htk
        have hnl : ((l.map (·.name)).take i).length = i := by rw [List.length_take]; omega
        obtain ⟨NM, hNM⟩ : ∃ NM, NM = (l.map (·.name)).take i := ⟨_, rfl⟩
        rw [← hNM] at HO hda htk hnl
        obtain ⟨dv, hdv⟩ : ∃ dv, dv = dupAt (l.map (·.name)) i := ⟨_, rfl⟩
        rw [← hdv] at hst hda
        have HDA := Lib.hid hda
        have HTK := Lib.hid htk
        have HNL := Lib.hid hnl
        obtain ⟨e1, he1⟩ : ∃ e1, e1 = kindE y := ⟨_, rfl⟩
        rw [← he1] at hst hc
        have HC := Lib.hid hc
        have HST := Lib.hid hst
        clear hix hb2 hy hst hc he1 hnames hgn hda htk hnl hNM hdv kn k2 k3 k4
        by_cases he : e1 = 0
        · subst he
          go_wp2_with fail
          refine HC.out.mono ?_
          rintro e w2 ⟨rfl, hb3⟩
          have hyb := heap_below (heap_alloc_new Wo (.cells #[.string y.name, .slice ay y.fields.length cy] 43)) hb3
          have hBo := HB2.out.trans (hb3.mono (by simp))
          have d0 : w2.cell? ⟨Wo.heap.size, 0, none⟩ = some (.string y.name) := by rw [cell_of_row _ _ 0 _ _ _ hyb]; rfl
          have ho2 := own_below HO.out hBo
          have htw := contains_strs NM av i cv y.name HNL.out (by omega) w2 (strs_own ho2 HNL.out)
          rw [HDA.out] at htw
          have HTW := Lib.hid htw
          have HYB := Lib.hid hyb
          have HO2 := Lib.hid ho2
          have HBW := Lib.hid (HB.out.trans (hBo.mono hbs))
          clear hb3 hyb hBo ho2 htw HO
          go_wp2_with fail
          refine HTW.out.mono ?_
          rintro e w3 ⟨rfl, hb4⟩
          have e0 : w3.cell? ⟨Wo.heap.size, 0, none⟩ = some (.string y.name) := by rw [cell_of_row _ _ 0 _ _ _ (heap_below HYB.out hb4)]; rfl
          have ho3 := own_below HO2.out hb4
          have hb5 := HBW.out.trans (hb4.mono HBW.out.size)
          have HB5 := Lib.hid hb5
          have hs5 := hb5.size
          clear d0 hb4 hb5
          cases dv
          · have hf2 : kndErr l (i + 1) = 0 := by
              have hs := HST.out
              simp at hs
              exact hs
            have HF2 := Lib.hid hf2
            clear hf2
            go_wp2_with (at_builtin; go_must (refine wpList_append_new rfl _ _ 97 rfl W.heap.size 9 (.string ByteArray.empty) 1 16 Tryd.underlying97 (by kernel_rfl) rfl (by decide) _ _ _ rfl ho3 _ _ rfl rfl rfl (by omega) (by decide) hs5 ?_))
            intro g' cap' w' hown' hg hor hlt'
            rw [vstrs_snoc, ← HTK.out] at hown'
            have HO4 := Lib.hid hown'
            have HB6 := Lib.hid (HB5.out.grown hg hs5 (fun g hg2 => (own_lt ho3 g hg2).1))
            clear hown' hg hor ho3
            go_wp2_with fail
            go_roundg (n - (i + 1))
            case measure => rw [G2.out]; omega
            case rel => exact ⟨i + 1, hlt, rfl, by go_num, HF2.out, HO4.out, HB6.out⟩
          · go_wp2_with fail
            go_ret
            refine ⟨?_, HB5.out⟩
            have hs := HST.out
            simp at hs
            rw [HF.out, kndErr_stays l (i + 1) n hlt (by rw [hs]; decide), hs]; rfl
        · have t1 : (e1 != 0) = true := by rw [bne_iff_ne]; exact he
          have hR : R = e1 := by
            have hs := HST.out
            rw [if_pos he] at hs
            rw [HF.out, kndErr_stays l (i + 1) n hlt (by rw [hs]; exact he), hs]
          have HR5 := Lib.hid hR
          clear hR he
          go_wp2_with fail
          refine HC.out.mono ?_
          rintro e w2 ⟨rfl, hb3⟩
          have HBW := Lib.hid (HB.out.trans ((HB2.out.trans (hb3.mono (by simp))).mono hbs))
          clear hb3
          go_wp2_with fail
          go_ret
          exact ⟨by rw [HR5.out]; rfl, HBW.out⟩
      · have hie : i = n := by omega
        have HF0 := Lib.hid (show R = 0 by rw [HF.out, ← hie]; exact HFE.out)
        clear hie
        go_wp2_with fail
        go_ret
        exact ⟨by rw [HF0.out]; rfl, HB.out⟩
end Go.Proofs.YtijeninfmjhbnaaDoor
end
/- What memory keeps while it grows: n cells at once. No program is named here. -/
section
namespace Go
open Go.RowKit
namespace Mem
theorem keep1 {w w1 w2 : World} {B : Nat} {A0 : Addr} {v0 : Value} (h : w1.cell? A0 = some v0 ∧ Below B w w1) (hb : Below w1.heap.size w1 w2) (hB : B ≤ w.heap.size) : w2.cell? A0 = some v0 ∧ Below B w w2 := by
  obtain ⟨h0, hh⟩ := h
  have k : ∀ {A : Addr} {v : Value}, w1.cell? A = some v → w2.cell? A = some v := fun {A v} h => (hb.cell (World.block_lt_of_cell? w1 _ h)).trans h
  exact ⟨k h0, hh.trans (hb.mono (Nat.le_trans hB hh.size))⟩
theorem keeps1 {w1 w2 : World} {p : World → Prop} {A0 : Addr} {v0 : Value} (h : w1.cell? A0 = some v0 ∧ p w1) (hb : Below w1.heap.size w1 w2) (hp : p w1 → Below w1.heap.size w1 w2 → p w2) : w2.cell? A0 = some v0 ∧ p w2 := by
  obtain ⟨h0, hh⟩ := h
  have k : ∀ {A : Addr} {v : Value}, w1.cell? A = some v → w2.cell? A = some v := fun {A v} h => (hb.cell (World.block_lt_of_cell? w1 _ h)).trans h
  exact ⟨k h0, hp hh hb⟩
theorem lastk1 {p0 q : Prop} (h : p0 ∧ q) : q := h.2
theorem midk1 {p0 q r : Prop} (h : p0 ∧ q ∧ r) : q := h.2.1
theorem keep2 {w w1 w2 : World} {B : Nat} {A0 A1 : Addr} {v0 v1 : Value} (h : w1.cell? A0 = some v0 ∧ w1.cell? A1 = some v1 ∧ Below B w w1) (hb : Below w1.heap.size w1 w2) (hB : B ≤ w.heap.size) : w2.cell? A0 = some v0 ∧ w2.cell? A1 = some v1 ∧ Below B w w2 := by
  obtain ⟨h0, h1, hh⟩ := h
  have k : ∀ {A : Addr} {v : Value}, w1.cell? A = some v → w2.cell? A = some v := fun {A v} h => (hb.cell (World.block_lt_of_cell? w1 _ h)).trans h
  exact ⟨k h0, k h1, hh.trans (hb.mono (Nat.le_trans hB hh.size))⟩
theorem keeps2 {w1 w2 : World} {p : World → Prop} {A0 A1 : Addr} {v0 v1 : Value} (h : w1.cell? A0 = some v0 ∧ w1.cell? A1 = some v1 ∧ p w1) (hb : Below w1.heap.size w1 w2) (hp : p w1 → Below w1.heap.size w1 w2 → p w2) : w2.cell? A0 = some v0 ∧ w2.cell? A1 = some v1 ∧ p w2 := by
  obtain ⟨h0, h1, hh⟩ := h
  have k : ∀ {A : Addr} {v : Value}, w1.cell? A = some v → w2.cell? A = some v := fun {A v} h => (hb.cell (World.block_lt_of_cell? w1 _ h)).trans h
  exact ⟨k h0, k h1, hp hh hb⟩
theorem lastk2 {p0 p1 q : Prop} (h : p0 ∧ p1 ∧ q) : q := h.2.2
theorem midk2 {p0 p1 q r : Prop} (h : p0 ∧ p1 ∧ q ∧ r) : q := h.2.2.1
theorem keep3 {w w1 w2 : World} {B : Nat} {A0 A1 A2 : Addr} {v0 v1 v2 : Value} (h : w1.cell? A0 = some v0 ∧ w1.cell? A1 = some v1 ∧ w1.cell? A2 = some v2 ∧ Below B w w1) (hb : Below w1.heap.size w1 w2) (hB : B ≤ w.heap.size) : w2.cell? A0 = some v0 ∧ w2.cell? A1 = some v1 ∧ w2.cell? A2 = some v2 ∧ Below B w w2 := by
  obtain ⟨h0, h1, h2, hh⟩ := h
  have k : ∀ {A : Addr} {v : Value}, w1.cell? A = some v → w2.cell? A = some v := fun {A v} h => (hb.cell (World.block_lt_of_cell? w1 _ h)).trans h
  exact ⟨k h0, k h1, k h2, hh.trans (hb.mono (Nat.le_trans hB hh.size))⟩
theorem keeps3 {w1 w2 : World} {p : World → Prop} {A0 A1 A2 : Addr} {v0 v1 v2 : Value} (h : w1.cell? A0 = some v0 ∧ w1.cell? A1 = some v1 ∧ w1.cell? A2 = some v2 ∧ p w1) (hb : Below w1.heap.size w1 w2) (hp : p w1 → Below w1.heap.size w1 w2 → p w2) : w2.cell? A0 = some v0 ∧ w2.cell? A1 = some v1 ∧ w2.cell? A2 = some v2 ∧ p w2 := by
  obtain ⟨h0, h1, h2, hh⟩ := h
  have k : ∀ {A : Addr} {v : Value}, w1.cell? A = some v → w2.cell? A = some v := fun {A v} h => (hb.cell (World.block_lt_of_cell? w1 _ h)).trans h
  exact ⟨k h0, k h1, k h2, hp hh hb⟩
theorem lastk3 {p0 p1 p2 q : Prop} (h : p0 ∧ p1 ∧ p2 ∧ q) : q := h.2.2.2
theorem midk3 {p0 p1 p2 q r : Prop} (h : p0 ∧ p1 ∧ p2 ∧ q ∧ r) : q := h.2.2.2.1
theorem keep4 {w w1 w2 : World} {B : Nat} {A0 A1 A2 A3 : Addr} {v0 v1 v2 v3 : Value} (h : w1.cell? A0 = some v0 ∧ w1.cell? A1 = some v1 ∧ w1.cell? A2 = some v2 ∧ w1.cell? A3 = some v3 ∧ Below B w w1) (hb : Below w1.heap.size w1 w2) (hB : B ≤ w.heap.size) : w2.cell? A0 = some v0 ∧ w2.cell? A1 = some v1 ∧ w2.cell? A2 = some v2 ∧ w2.cell? A3 = some v3 ∧ Below B w w2 := by
  obtain ⟨h0, h1, h2, h3, hh⟩ := h
  have k : ∀ {A : Addr} {v : Value}, w1.cell? A = some v → w2.cell? A = some v := fun {A v} h => (hb.cell (World.block_lt_of_cell? w1 _ h)).trans h
  exact ⟨k h0, k h1, k h2, k h3, hh.trans (hb.mono (Nat.le_trans hB hh.size))⟩
theorem keeps4 {w1 w2 : World} {p : World → Prop} {A0 A1 A2 A3 : Addr} {v0 v1 v2 v3 : Value} (h : w1.cell? A0 = some v0 ∧ w1.cell? A1 = some v1 ∧ w1.cell? A2 = some v2 ∧ w1.cell? A3 = some v3 ∧ p w1) (hb : Below w1.heap.size w1 w2) (hp : p w1 → Below w1.heap.size w1 w2 → p w2) : w2.cell? A0 = some v0 ∧ w2.cell? A1 = some v1 ∧ w2.cell? A2 = some v2 ∧ w2.cell? A3 = some v3 ∧ p w2 := by
  obtain ⟨h0, h1, h2, h3, hh⟩ := h
  have k : ∀ {A : Addr} {v : Value}, w1.cell? A = some v → w2.cell? A = some v := fun {A v} h => (hb.cell (World.block_lt_of_cell? w1 _ h)).trans h
  exact ⟨k h0, k h1, k h2, k h3, hp hh hb⟩
theorem lastk4 {p0 p1 p2 p3 q : Prop} (h : p0 ∧ p1 ∧ p2 ∧ p3 ∧ q) : q := h.2.2.2.2
theorem midk4 {p0 p1 p2 p3 q r : Prop} (h : p0 ∧ p1 ∧ p2 ∧ p3 ∧ q ∧ r) : q := h.2.2.2.2.1
theorem keep5 {w w1 w2 : World} {B : Nat} {A0 A1 A2 A3 A4 : Addr} {v0 v1 v2 v3 v4 : Value} (h : w1.cell? A0 = some v0 ∧ w1.cell? A1 = some v1 ∧ w1.cell? A2 = some v2 ∧ w1.cell? A3 = some v3 ∧ w1.cell? A4 = some v4 ∧ Below B w w1) (hb : Below w1.heap.size w1 w2) (hB : B ≤ w.heap.size) : w2.cell? A0 = some v0 ∧ w2.cell? A1 = some v1 ∧ w2.cell? A2 = some v2 ∧ w2.cell? A3 = some v3 ∧ w2.cell? A4 = some v4 ∧ Below B w w2 := by
  obtain ⟨h0, h1, h2, h3, h4, hh⟩ := h
  have k : ∀ {A : Addr} {v : Value}, w1.cell? A = some v → w2.cell? A = some v := fun {A v} h => (hb.cell (World.block_lt_of_cell? w1 _ h)).trans h
  exact ⟨k h0, k h1, k h2, k h3, k h4, hh.trans (hb.mono (Nat.le_trans hB hh.size))⟩
theorem keeps5 {w1 w2 : World} {p : World → Prop} {A0 A1 A2 A3 A4 : Addr} {v0 v1 v2 v3 v4 : Value} (h : w1.cell? A0 = some v0 ∧ w1.cell? A1 = some v1 ∧ w1.cell? A2 = some v2 ∧ w1.cell? A3 = some v3 ∧ w1.cell? A4 = some v4 ∧ p w1) (hb : Below w1.heap.size w1 w2) (hp : p w1 → Below w1.heap.size w1 w2 → p w2) : w2.cell? A0 = some v0 ∧ w2.cell? A1 = some v1 ∧ w2.cell? A2 = some v2 ∧ w2.cell? A3 = some v3 ∧ w2.cell? A4 = some v4 ∧ p w2 := by
  obtain ⟨h0, h1, h2, h3, h4, hh⟩ := h
  have k : ∀ {A : Addr} {v : Value}, w1.cell? A = some v → w2.cell? A = some v := fun {A v} h => (hb.cell (World.block_lt_of_cell? w1 _ h)).trans h
  exact ⟨k h0, k h1, k h2, k h3, k h4, hp hh hb⟩
theorem lastk5 {p0 p1 p2 p3 p4 q : Prop} (h : p0 ∧ p1 ∧ p2 ∧ p3 ∧ p4 ∧ q) : q := h.2.2.2.2.2
theorem midk5 {p0 p1 p2 p3 p4 q r : Prop} (h : p0 ∧ p1 ∧ p2 ∧ p3 ∧ p4 ∧ q ∧ r) : q := h.2.2.2.2.2.1
theorem keep6 {w w1 w2 : World} {B : Nat} {A0 A1 A2 A3 A4 A5 : Addr} {v0 v1 v2 v3 v4 v5 : Value} (h : w1.cell? A0 = some v0 ∧ w1.cell? A1 = some v1 ∧ w1.cell? A2 = some v2 ∧ w1.cell? A3 = some v3 ∧ w1.cell? A4 = some v4 ∧ w1.cell? A5 = some v5 ∧ Below B w w1) (hb : Below w1.heap.size w1 w2) (hB : B ≤ w.heap.size) : w2.cell? A0 = some v0 ∧ w2.cell? A1 = some v1 ∧ w2.cell? A2 = some v2 ∧ w2.cell? A3 = some v3 ∧ w2.cell? A4 = some v4 ∧ w2.cell? A5 = some v5 ∧ Below B w w2 := by
  obtain ⟨h0, h1, h2, h3, h4, h5, hh⟩ := h
  have k : ∀ {A : Addr} {v : Value}, w1.cell? A = some v → w2.cell? A = some v := fun {A v} h => (hb.cell (World.block_lt_of_cell? w1 _ h)).trans h
  exact ⟨k h0, k h1, k h2, k h3, k h4, k h5, hh.trans (hb.mono (Nat.le_trans hB hh.size))⟩
theorem keeps6 {w1 w2 : World} {p : World → Prop} {A0 A1 A2 A3 A4 A5 : Addr} {v0 v1 v2 v3 v4 v5 : Value} (h : w1.cell? A0 = some v0 ∧ w1.cell? A1 = some v1 ∧ w1.cell? A2 = some v2 ∧ w1.cell? A3 = some v3 ∧ w1.cell? A4 = some v4 ∧ w1.cell? A5 = some v5 ∧ p w1) (hb : Below w1.heap.size w1 w2) (hp : p w1 → Below w1.heap.size w1 w2 → p w2) : w2.cell? A0 = some v0 ∧ w2.cell? A1 = some v1 ∧ w2.cell? A2 = some v2 ∧ w2.cell? A3 = some v3 ∧ w2.cell? A4 = some v4 ∧ w2.cell? A5 = some v5 ∧ p w2 := by
  obtain ⟨h0, h1, h2, h3, h4, h5, hh⟩ := h
  have k : ∀ {A : Addr} {v : Value}, w1.cell? A = some v → w2.cell? A = some v := fun {A v} h => (hb.cell (World.block_lt_of_cell? w1 _ h)).trans h
  exact ⟨k h0, k h1, k h2, k h3, k h4, k h5, hp hh hb⟩
theorem lastk6 {p0 p1 p2 p3 p4 p5 q : Prop} (h : p0 ∧ p1 ∧ p2 ∧ p3 ∧ p4 ∧ p5 ∧ q) : q := h.2.2.2.2.2.2
theorem midk6 {p0 p1 p2 p3 p4 p5 q r : Prop} (h : p0 ∧ p1 ∧ p2 ∧ p3 ∧ p4 ∧ p5 ∧ q ∧ r) : q := h.2.2.2.2.2.2.1
theorem keep7 {w w1 w2 : World} {B : Nat} {A0 A1 A2 A3 A4 A5 A6 : Addr} {v0 v1 v2 v3 v4 v5 v6 : Value} (h : w1.cell? A0 = some v0 ∧ w1.cell? A1 = some v1 ∧ w1.cell? A2 = some v2 ∧ w1.cell? A3 = some v3 ∧ w1.cell? A4 = some v4 ∧ w1.cell? A5 = some v5 ∧ w1.cell? A6 = some v6 ∧ Below B w w1) (hb : Below w1.heap.size w1 w2) (hB : B ≤ w.heap.size) : w2.cell? A0 = some v0 ∧ w2.cell? A1 = some v1 ∧ w2.cell? A2 = some v2 ∧ w2.cell? A3 = some v3 ∧ w2.cell? A4 = some v4 ∧ w2.cell? A5 = some v5 ∧ w2.cell? A6 = some v6 ∧ Below B w w2 := by
  obtain ⟨h0, h1, h2, h3, h4, h5, h6, hh⟩ := h
  have k : ∀ {A : Addr} {v : Value}, w1.cell? A = some v → w2.cell? A = some v := fun {A v} h => (hb.cell (World.block_lt_of_cell? w1 _ h)).trans h
  exact ⟨k h0, k h1, k h2, k h3, k h4, k h5, k h6, hh.trans (hb.mono (Nat.le_trans hB hh.size))⟩
theorem keeps7 {w1 w2 : World} {p : World → Prop} {A0 A1 A2 A3 A4 A5 A6 : Addr} {v0 v1 v2 v3 v4 v5 v6 : Value} (h : w1.cell? A0 = some v0 ∧ w1.cell? A1 = some v1 ∧ w1.cell? A2 = some v2 ∧ w1.cell? A3 = some v3 ∧ w1.cell? A4 = some v4 ∧ w1.cell? A5 = some v5 ∧ w1.cell? A6 = some v6 ∧ p w1) (hb : Below w1.heap.size w1 w2) (hp : p w1 → Below w1.heap.size w1 w2 → p w2) : w2.cell? A0 = some v0 ∧ w2.cell? A1 = some v1 ∧ w2.cell? A2 = some v2 ∧ w2.cell? A3 = some v3 ∧ w2.cell? A4 = some v4 ∧ w2.cell? A5 = some v5 ∧ w2.cell? A6 = some v6 ∧ p w2 := by
  obtain ⟨h0, h1, h2, h3, h4, h5, h6, hh⟩ := h
  have k : ∀ {A : Addr} {v : Value}, w1.cell? A = some v → w2.cell? A = some v := fun {A v} h => (hb.cell (World.block_lt_of_cell? w1 _ h)).trans h
  exact ⟨k h0, k h1, k h2, k h3, k h4, k h5, k h6, hp hh hb⟩
theorem lastk7 {p0 p1 p2 p3 p4 p5 p6 q : Prop} (h : p0 ∧ p1 ∧ p2 ∧ p3 ∧ p4 ∧ p5 ∧ p6 ∧ q) : q := h.2.2.2.2.2.2.2
theorem midk7 {p0 p1 p2 p3 p4 p5 p6 q r : Prop} (h : p0 ∧ p1 ∧ p2 ∧ p3 ∧ p4 ∧ p5 ∧ p6 ∧ q ∧ r) : q := h.2.2.2.2.2.2.2.1
theorem keep8 {w w1 w2 : World} {B : Nat} {A0 A1 A2 A3 A4 A5 A6 A7 : Addr} {v0 v1 v2 v3 v4 v5 v6 v7 : Value} (h : w1.cell? A0 = some v0 ∧ w1.cell? A1 = some v1 ∧ w1.cell? A2 = some v2 ∧ w1.cell? A3 = some v3 ∧ w1.cell? A4 = some v4 ∧ w1.cell? A5 = some v5 ∧ w1.cell? A6 = some v6 ∧ w1.cell? A7 = some v7 ∧ Below B w w1) (hb : Below w1.heap.size w1 w2) (hB : B ≤ w.heap.size) : w2.cell? A0 = some v0 ∧ w2.cell? A1 = some v1 ∧ w2.cell? A2 = some v2 ∧ w2.cell? A3 = some v3 ∧ w2.cell? A4 = some v4 ∧ w2.cell? A5 = some v5 ∧ w2.cell? A6 = some v6 ∧ w2.cell? A7 = some v7 ∧ Below B w w2 := by
  obtain ⟨h0, h1, h2, h3, h4, h5, h6, h7, hh⟩ := h
  have k : ∀ {A : Addr} {v : Value}, w1.cell? A = some v → w2.cell? A = some v := fun {A v} h => (hb.cell (World.block_lt_of_cell? w1 _ h)).trans h
  exact ⟨k h0, k h1, k h2, k h3, k h4, k h5, k h6, k h7, hh.trans (hb.mono (Nat.le_trans hB hh.size))⟩
theorem keeps8 {w1 w2 : World} {p : World → Prop} {A0 A1 A2 A3 A4 A5 A6 A7 : Addr} {v0 v1 v2 v3 v4 v5 v6 v7 : Value} (h : w1.cell? A0 = some v0 ∧ w1.cell? A1 = some v1 ∧ w1.cell? A2 = some v2 ∧ w1.cell? A3 = some v3 ∧ w1.cell? A4 = some v4 ∧ w1.cell? A5 = some v5 ∧ w1.cell? A6 = some v6 ∧ w1.cell? A7 = some v7 ∧ p w1) (hb : Below w1.heap.size w1 w2) (hp : p w1 → Below w1.heap.size w1 w2 → p w2) : w2.cell? A0 = some v0 ∧ w2.cell? A1 = some v1 ∧ w2.cell? A2 = some v2 ∧ w2.cell? A3 = some v3 ∧ w2.cell? A4 = some v4 ∧ w2.cell? A5 = some v5 ∧ w2.cell? A6 = some v6 ∧ w2.cell? A7 = some v7 ∧ p w2 := by
  obtain ⟨h0, h1, h2, h3, h4, h5, h6, h7, hh⟩ := h
  have k : ∀ {A : Addr} {v : Value}, w1.cell? A = some v → w2.cell? A = some v := fun {A v} h => (hb.cell (World.block_lt_of_cell? w1 _ h)).trans h
  exact ⟨k h0, k h1, k h2, k h3, k h4, k h5, k h6, k h7, hp hh hb⟩
theorem lastk8 {p0 p1 p2 p3 p4 p5 p6 p7 q : Prop} (h : p0 ∧ p1 ∧ p2 ∧ p3 ∧ p4 ∧ p5 ∧ p6 ∧ p7 ∧ q) : q := h.2.2.2.2.2.2.2.2
theorem midk8 {p0 p1 p2 p3 p4 p5 p6 p7 q r : Prop} (h : p0 ∧ p1 ∧ p2 ∧ p3 ∧ p4 ∧ p5 ∧ p6 ∧ p7 ∧ q ∧ r) : q := h.2.2.2.2.2.2.2.2.1
theorem keep9 {w w1 w2 : World} {B : Nat} {A0 A1 A2 A3 A4 A5 A6 A7 A8 : Addr} {v0 v1 v2 v3 v4 v5 v6 v7 v8 : Value} (h : w1.cell? A0 = some v0 ∧ w1.cell? A1 = some v1 ∧ w1.cell? A2 = some v2 ∧ w1.cell? A3 = some v3 ∧ w1.cell? A4 = some v4 ∧ w1.cell? A5 = some v5 ∧ w1.cell? A6 = some v6 ∧ w1.cell? A7 = some v7 ∧ w1.cell? A8 = some v8 ∧ Below B w w1) (hb : Below w1.heap.size w1 w2) (hB : B ≤ w.heap.size) : w2.cell? A0 = some v0 ∧ w2.cell? A1 = some v1 ∧ w2.cell? A2 = some v2 ∧ w2.cell? A3 = some v3 ∧ w2.cell? A4 = some v4 ∧ w2.cell? A5 = some v5 ∧ w2.cell? A6 = some v6 ∧ w2.cell? A7 = some v7 ∧ w2.cell? A8 = some v8 ∧ Below B w w2 := by
  obtain ⟨h0, h1, h2, h3, h4, h5, h6, h7, h8, hh⟩ := h
  have k : ∀ {A : Addr} {v : Value}, w1.cell? A = some v → w2.cell? A = some v := fun {A v} h => (hb.cell (World.block_lt_of_cell? w1 _ h)).trans h
  exact ⟨k h0, k h1, k h2, k h3, k h4, k h5, k h6, k h7, k h8, hh.trans (hb.mono (Nat.le_trans hB hh.size))⟩
theorem keeps9 {w1 w2 : World} {p : World → Prop} {A0 A1 A2 A3 A4 A5 A6 A7 A8 : Addr} {v0 v1 v2 v3 v4 v5 v6 v7 v8 : Value} (h : w1.cell? A0 = some v0 ∧ w1.cell? A1 = some v1 ∧ w1.cell? A2 = some v2 ∧ w1.cell? A3 = some v3 ∧ w1.cell? A4 = some v4 ∧ w1.cell? A5 = some v5 ∧ w1.cell? A6 = some v6 ∧ w1.cell? A7 = some v7 ∧ w1.cell? A8 = some v8 ∧ p w1) (hb : Below w1.heap.size w1 w2) (hp : p w1 → Below w1.heap.size w1 w2 → p w2) : w2.cell? A0 = some v0 ∧ w2.cell? A1 = some v1 ∧ w2.cell? A2 = some v2 ∧ w2.cell? A3 = some v3 ∧ w2.cell? A4 = some v4 ∧ w2.cell? A5 = some v5 ∧ w2.cell? A6 = some v6 ∧ w2.cell? A7 = some v7 ∧ w2.cell? A8 = some v8 ∧ p w2 := by
  obtain ⟨h0, h1, h2, h3, h4, h5, h6, h7, h8, hh⟩ := h
  have k : ∀ {A : Addr} {v : Value}, w1.cell? A = some v → w2.cell? A = some v := fun {A v} h => (hb.cell (World.block_lt_of_cell? w1 _ h)).trans h
  exact ⟨k h0, k h1, k h2, k h3, k h4, k h5, k h6, k h7, k h8, hp hh hb⟩
theorem lastk9 {p0 p1 p2 p3 p4 p5 p6 p7 p8 q : Prop} (h : p0 ∧ p1 ∧ p2 ∧ p3 ∧ p4 ∧ p5 ∧ p6 ∧ p7 ∧ p8 ∧ q) : q := h.2.2.2.2.2.2.2.2.2
theorem midk9 {p0 p1 p2 p3 p4 p5 p6 p7 p8 q r : Prop} (h : p0 ∧ p1 ∧ p2 ∧ p3 ∧ p4 ∧ p5 ∧ p6 ∧ p7 ∧ p8 ∧ q ∧ r) : q := h.2.2.2.2.2.2.2.2.2.1
theorem keep10 {w w1 w2 : World} {B : Nat} {A0 A1 A2 A3 A4 A5 A6 A7 A8 A9 : Addr} {v0 v1 v2 v3 v4 v5 v6 v7 v8 v9 : Value} (h : w1.cell? A0 = some v0 ∧ w1.cell? A1 = some v1 ∧ w1.cell? A2 = some v2 ∧ w1.cell? A3 = some v3 ∧ w1.cell? A4 = some v4 ∧ w1.cell? A5 = some v5 ∧ w1.cell? A6 = some v6 ∧ w1.cell? A7 = some v7 ∧ w1.cell? A8 = some v8 ∧ w1.cell? A9 = some v9 ∧ Below B w w1) (hb : Below w1.heap.size w1 w2) (hB : B ≤ w.heap.size) : w2.cell? A0 = some v0 ∧ w2.cell? A1 = some v1 ∧ w2.cell? A2 = some v2 ∧ w2.cell? A3 = some v3 ∧ w2.cell? A4 = some v4 ∧ w2.cell? A5 = some v5 ∧ w2.cell? A6 = some v6 ∧ w2.cell? A7 = some v7 ∧ w2.cell? A8 = some v8 ∧ w2.cell? A9 = some v9 ∧ Below B w w2 := by
  obtain ⟨h0, h1, h2, h3, h4, h5, h6, h7, h8, h9, hh⟩ := h
  have k : ∀ {A : Addr} {v : Value}, w1.cell? A = some v → w2.cell? A = some v := fun {A v} h => (hb.cell (World.block_lt_of_cell? w1 _ h)).trans h
  exact ⟨k h0, k h1, k h2, k h3, k h4, k h5, k h6, k h7, k h8, k h9, hh.trans (hb.mono (Nat.le_trans hB hh.size))⟩
theorem keeps10 {w1 w2 : World} {p : World → Prop} {A0 A1 A2 A3 A4 A5 A6 A7 A8 A9 : Addr} {v0 v1 v2 v3 v4 v5 v6 v7 v8 v9 : Value} (h : w1.cell? A0 = some v0 ∧ w1.cell? A1 = some v1 ∧ w1.cell? A2 = some v2 ∧ w1.cell? A3 = some v3 ∧ w1.cell? A4 = some v4 ∧ w1.cell? A5 = some v5 ∧ w1.cell? A6 = some v6 ∧ w1.cell? A7 = some v7 ∧ w1.cell? A8 = some v8 ∧ w1.cell? A9 = some v9 ∧ p w1) (hb : Below w1.heap.size w1 w2) (hp : p w1 → Below w1.heap.size w1 w2 → p w2) : w2.cell? A0 = some v0 ∧ w2.cell? A1 = some v1 ∧ w2.cell? A2 = some v2 ∧ w2.cell? A3 = some v3 ∧ w2.cell? A4 = some v4 ∧ w2.cell? A5 = some v5 ∧ w2.cell? A6 = some v6 ∧ w2.cell? A7 = some v7 ∧ w2.cell? A8 = some v8 ∧ w2.cell? A9 = some v9 ∧ p w2 := by
  obtain ⟨h0, h1, h2, h3, h4, h5, h6, h7, h8, h9, hh⟩ := h
  have k : ∀ {A : Addr} {v : Value}, w1.cell? A = some v → w2.cell? A = some v := fun {A v} h => (hb.cell (World.block_lt_of_cell? w1 _ h)).trans h
  exact ⟨k h0, k h1, k h2, k h3, k h4, k h5, k h6, k h7, k h8, k h9, hp hh hb⟩
theorem lastk10 {p0 p1 p2 p3 p4 p5 p6 p7 p8 p9 q : Prop} (h : p0 ∧ p1 ∧ p2 ∧ p3 ∧ p4 ∧ p5 ∧ p6 ∧ p7 ∧ p8 ∧ p9 ∧ q) : q := h.2.2.2.2.2.2.2.2.2.2
theorem midk10 {p0 p1 p2 p3 p4 p5 p6 p7 p8 p9 q r : Prop} (h : p0 ∧ p1 ∧ p2 ∧ p3 ∧ p4 ∧ p5 ∧ p6 ∧ p7 ∧ p8 ∧ p9 ∧ q ∧ r) : q := h.2.2.2.2.2.2.2.2.2.2.1
theorem keep11 {w w1 w2 : World} {B : Nat} {A0 A1 A2 A3 A4 A5 A6 A7 A8 A9 A10 : Addr} {v0 v1 v2 v3 v4 v5 v6 v7 v8 v9 v10 : Value} (h : w1.cell? A0 = some v0 ∧ w1.cell? A1 = some v1 ∧ w1.cell? A2 = some v2 ∧ w1.cell? A3 = some v3 ∧ w1.cell? A4 = some v4 ∧ w1.cell? A5 = some v5 ∧ w1.cell? A6 = some v6 ∧ w1.cell? A7 = some v7 ∧ w1.cell? A8 = some v8 ∧ w1.cell? A9 = some v9 ∧ w1.cell? A10 = some v10 ∧ Below B w w1) (hb : Below w1.heap.size w1 w2) (hB : B ≤ w.heap.size) : w2.cell? A0 = some v0 ∧ w2.cell? A1 = some v1 ∧ w2.cell? A2 = some v2 ∧ w2.cell? A3 = some v3 ∧ w2.cell? A4 = some v4 ∧ w2.cell? A5 = some v5 ∧ w2.cell? A6 = some v6 ∧ w2.cell? A7 = some v7 ∧ w2.cell? A8 = some v8 ∧ w2.cell? A9 = some v9 ∧ w2.cell? A10 = some v10 ∧ Below B w w2 := by
  obtain ⟨h0, h1, h2, h3, h4, h5, h6, h7, h8, h9, h10, hh⟩ := h
  have k : ∀ {A : Addr} {v : Value}, w1.cell? A = some v → w2.cell? A = some v := fun {A v} h => (hb.cell (World.block_lt_of_cell? w1 _ h)).trans h
  exact ⟨k h0, k h1, k h2, k h3, k h4, k h5, k h6, k h7, k h8, k h9, k h10, hh.trans (hb.mono (Nat.le_trans hB hh.size))⟩
theorem keeps11 {w1 w2 : World} {p : World → Prop} {A0 A1 A2 A3 A4 A5 A6 A7 A8 A9 A10 : Addr} {v0 v1 v2 v3 v4 v5 v6 v7 v8 v9 v10 : Value} (h : w1.cell? A0 = some v0 ∧ w1.cell? A1 = some v1 ∧ w1.cell? A2 = some v2 ∧ w1.cell? A3 = some v3 ∧ w1.cell? A4 = some v4 ∧ w1.cell? A5 = some v5 ∧ w1.cell? A6 = some v6 ∧ w1.cell? A7 = some v7 ∧ w1.cell? A8 = some v8 ∧ w1.cell? A9 = some v9 ∧ w1.cell? A10 = some v10 ∧ p w1) (hb : Below w1.heap.size w1 w2) (hp : p w1 → Below w1.heap.size w1 w2 → p w2) : w2.cell? A0 = some v0 ∧ w2.cell? A1 = some v1 ∧ w2.cell? A2 = some v2 ∧ w2.cell? A3 = some v3 ∧ w2.cell? A4 = some v4 ∧ w2.cell? A5 = some v5 ∧ w2.cell? A6 = some v6 ∧ w2.cell? A7 = some v7 ∧ w2.cell? A8 = some v8 ∧ w2.cell? A9 = some v9 ∧ w2.cell? A10 = some v10 ∧ p w2 := by
  obtain ⟨h0, h1, h2, h3, h4, h5, h6, h7, h8, h9, h10, hh⟩ := h
  have k : ∀ {A : Addr} {v : Value}, w1.cell? A = some v → w2.cell? A = some v := fun {A v} h => (hb.cell (World.block_lt_of_cell? w1 _ h)).trans h
  exact ⟨k h0, k h1, k h2, k h3, k h4, k h5, k h6, k h7, k h8, k h9, k h10, hp hh hb⟩
theorem lastk11 {p0 p1 p2 p3 p4 p5 p6 p7 p8 p9 p10 q : Prop} (h : p0 ∧ p1 ∧ p2 ∧ p3 ∧ p4 ∧ p5 ∧ p6 ∧ p7 ∧ p8 ∧ p9 ∧ p10 ∧ q) : q := h.2.2.2.2.2.2.2.2.2.2.2
theorem midk11 {p0 p1 p2 p3 p4 p5 p6 p7 p8 p9 p10 q r : Prop} (h : p0 ∧ p1 ∧ p2 ∧ p3 ∧ p4 ∧ p5 ∧ p6 ∧ p7 ∧ p8 ∧ p9 ∧ p10 ∧ q ∧ r) : q := h.2.2.2.2.2.2.2.2.2.2.2.1
theorem keep12 {w w1 w2 : World} {B : Nat} {A0 A1 A2 A3 A4 A5 A6 A7 A8 A9 A10 A11 : Addr} {v0 v1 v2 v3 v4 v5 v6 v7 v8 v9 v10 v11 : Value} (h : w1.cell? A0 = some v0 ∧ w1.cell? A1 = some v1 ∧ w1.cell? A2 = some v2 ∧ w1.cell? A3 = some v3 ∧ w1.cell? A4 = some v4 ∧ w1.cell? A5 = some v5 ∧ w1.cell? A6 = some v6 ∧ w1.cell? A7 = some v7 ∧ w1.cell? A8 = some v8 ∧ w1.cell? A9 = some v9 ∧ w1.cell? A10 = some v10 ∧ w1.cell? A11 = some v11 ∧ Below B w w1) (hb : Below w1.heap.size w1 w2) (hB : B ≤ w.heap.size) : w2.cell? A0 = some v0 ∧ w2.cell? A1 = some v1 ∧ w2.cell? A2 = some v2 ∧ w2.cell? A3 = some v3 ∧ w2.cell? A4 = some v4 ∧ w2.cell? A5 = some v5 ∧ w2.cell? A6 = some v6 ∧ w2.cell? A7 = some v7 ∧ w2.cell? A8 = some v8 ∧ w2.cell? A9 = some v9 ∧ w2.cell? A10 = some v10 ∧ w2.cell? A11 = some v11 ∧ Below B w w2 := by
  obtain ⟨h0, h1, h2, h3, h4, h5, h6, h7, h8, h9, h10, h11, hh⟩ := h
  have k : ∀ {A : Addr} {v : Value}, w1.cell? A = some v → w2.cell? A = some v := fun {A v} h => (hb.cell (World.block_lt_of_cell? w1 _ h)).trans h
  exact ⟨k h0, k h1, k h2, k h3, k h4, k h5, k h6, k h7, k h8, k h9, k h10, k h11, hh.trans (hb.mono (Nat.le_trans hB hh.size))⟩
theorem keeps12 {w1 w2 : World} {p : World → Prop} {A0 A1 A2 A3 A4 A5 A6 A7 A8 A9 A10 A11 : Addr} {v0 v1 v2 v3 v4 v5 v6 v7 v8 v9 v10 v11 : Value} (h : w1.cell? A0 = some v0 ∧ w1.cell? A1 = some v1 ∧ w1.cell? A2 = some v2 ∧ w1.cell? A3 = some v3 ∧ w1.cell? A4 = some v4 ∧ w1.cell? A5 = some v5 ∧ w1.cell? A6 = some v6 ∧ w1.cell? A7 = some v7 ∧ w1.cell? A8 = some v8 ∧ w1.cell? A9 = some v9 ∧ w1.cell? A10 = some v10 ∧ w1.cell? A11 = some v11 ∧ p w1) (hb : Below w1.heap.size w1 w2) (hp : p w1 → Below w1.heap.size w1 w2 → p w2) : w2.cell? A0 = some v0 ∧ w2.cell? A1 = some v1 ∧ w2.cell? A2 = some v2 ∧ w2.cell? A3 = some v3 ∧ w2.cell? A4 = some v4 ∧ w2.cell? A5 = some v5 ∧ w2.cell? A6 = some v6 ∧ w2.cell? A7 = some v7 ∧ w2.cell? A8 = some v8 ∧ w2.cell? A9 = some v9 ∧ w2.cell? A10 = some v10 ∧ w2.cell? A11 = some v11 ∧ p w2 := by
  obtain ⟨h0, h1, h2, h3, h4, h5, h6, h7, h8, h9, h10, h11, hh⟩ := h
  have k : ∀ {A : Addr} {v : Value}, w1.cell? A = some v → w2.cell? A = some v := fun {A v} h => (hb.cell (World.block_lt_of_cell? w1 _ h)).trans h
  exact ⟨k h0, k h1, k h2, k h3, k h4, k h5, k h6, k h7, k h8, k h9, k h10, k h11, hp hh hb⟩
theorem lastk12 {p0 p1 p2 p3 p4 p5 p6 p7 p8 p9 p10 p11 q : Prop} (h : p0 ∧ p1 ∧ p2 ∧ p3 ∧ p4 ∧ p5 ∧ p6 ∧ p7 ∧ p8 ∧ p9 ∧ p10 ∧ p11 ∧ q) : q := h.2.2.2.2.2.2.2.2.2.2.2.2
theorem midk12 {p0 p1 p2 p3 p4 p5 p6 p7 p8 p9 p10 p11 q r : Prop} (h : p0 ∧ p1 ∧ p2 ∧ p3 ∧ p4 ∧ p5 ∧ p6 ∧ p7 ∧ p8 ∧ p9 ∧ p10 ∧ p11 ∧ q ∧ r) : q := h.2.2.2.2.2.2.2.2.2.2.2.2.1
theorem keep13 {w w1 w2 : World} {B : Nat} {A0 A1 A2 A3 A4 A5 A6 A7 A8 A9 A10 A11 A12 : Addr} {v0 v1 v2 v3 v4 v5 v6 v7 v8 v9 v10 v11 v12 : Value} (h : w1.cell? A0 = some v0 ∧ w1.cell? A1 = some v1 ∧ w1.cell? A2 = some v2 ∧ w1.cell? A3 = some v3 ∧ w1.cell? A4 = some v4 ∧ w1.cell? A5 = some v5 ∧ w1.cell? A6 = some v6 ∧ w1.cell? A7 = some v7 ∧ w1.cell? A8 = some v8 ∧ w1.cell? A9 = some v9 ∧ w1.cell? A10 = some v10 ∧ w1.cell? A11 = some v11 ∧ w1.cell? A12 = some v12 ∧ Below B w w1) (hb : Below w1.heap.size w1 w2) (hB : B ≤ w.heap.size) : w2.cell? A0 = some v0 ∧ w2.cell? A1 = some v1 ∧ w2.cell? A2 = some v2 ∧ w2.cell? A3 = some v3 ∧ w2.cell? A4 = some v4 ∧ w2.cell? A5 = some v5 ∧ w2.cell? A6 = some v6 ∧ w2.cell? A7 = some v7 ∧ w2.cell? A8 = some v8 ∧ w2.cell? A9 = some v9 ∧ w2.cell? A10 = some v10 ∧ w2.cell? A11 = some v11 ∧ w2.cell? A12 = some v12 ∧ Below B w w2 := by
  obtain ⟨h0, h1, h2, h3, h4, h5, h6, h7, h8, h9, h10, h11, h12, hh⟩ := h
  have k : ∀ {A : Addr} {v : Value}, w1.cell? A = some v → w2.cell? A = some v := fun {A v} h => (hb.cell (World.block_lt_of_cell? w1 _ h)).trans h
  exact ⟨k h0, k h1, k h2, k h3, k h4, k h5, k h6, k h7, k h8, k h9, k h10, k h11, k h12, hh.trans (hb.mono (Nat.le_trans hB hh.size))⟩
theorem keeps13 {w1 w2 : World} {p : World → Prop} {A0 A1 A2 A3 A4 A5 A6 A7 A8 A9 A10 A11 A12 : Addr} {v0 v1 v2 v3 v4 v5 v6 v7 v8 v9 v10 v11 v12 : Value} (h : w1.cell? A0 = some v0 ∧ w1.cell? A1 = some v1 ∧ w1.cell? A2 = some v2 ∧ w1.cell? A3 = some v3 ∧ w1.cell? A4 = some v4 ∧ w1.cell? A5 = some v5 ∧ w1.cell? A6 = some v6 ∧ w1.cell? A7 = some v7 ∧ w1.cell? A8 = some v8 ∧ w1.cell? A9 = some v9 ∧ w1.cell? A10 = some v10 ∧ w1.cell? A11 = some v11 ∧ w1.cell? A12 = some v12 ∧ p w1) (hb : Below w1.heap.size w1 w2) (hp : p w1 → Below w1.heap.size w1 w2 → p w2) : w2.cell? A0 = some v0 ∧ w2.cell? A1 = some v1 ∧ w2.cell? A2 = some v2 ∧ w2.cell? A3 = some v3 ∧ w2.cell? A4 = some v4 ∧ w2.cell? A5 = some v5 ∧ w2.cell? A6 = some v6 ∧ w2.cell? A7 = some v7 ∧ w2.cell? A8 = some v8 ∧ w2.cell? A9 = some v9 ∧ w2.cell? A10 = some v10 ∧ w2.cell? A11 = some v11 ∧ w2.cell? A12 = some v12 ∧ p w2 := by
  obtain ⟨h0, h1, h2, h3, h4, h5, h6, h7, h8, h9, h10, h11, h12, hh⟩ := h
  have k : ∀ {A : Addr} {v : Value}, w1.cell? A = some v → w2.cell? A = some v := fun {A v} h => (hb.cell (World.block_lt_of_cell? w1 _ h)).trans h
  exact ⟨k h0, k h1, k h2, k h3, k h4, k h5, k h6, k h7, k h8, k h9, k h10, k h11, k h12, hp hh hb⟩
theorem lastk13 {p0 p1 p2 p3 p4 p5 p6 p7 p8 p9 p10 p11 p12 q : Prop} (h : p0 ∧ p1 ∧ p2 ∧ p3 ∧ p4 ∧ p5 ∧ p6 ∧ p7 ∧ p8 ∧ p9 ∧ p10 ∧ p11 ∧ p12 ∧ q) : q := h.2.2.2.2.2.2.2.2.2.2.2.2.2
theorem midk13 {p0 p1 p2 p3 p4 p5 p6 p7 p8 p9 p10 p11 p12 q r : Prop} (h : p0 ∧ p1 ∧ p2 ∧ p3 ∧ p4 ∧ p5 ∧ p6 ∧ p7 ∧ p8 ∧ p9 ∧ p10 ∧ p11 ∧ p12 ∧ q ∧ r) : q := h.2.2.2.2.2.2.2.2.2.2.2.2.2.1
theorem keep14 {w w1 w2 : World} {B : Nat} {A0 A1 A2 A3 A4 A5 A6 A7 A8 A9 A10 A11 A12 A13 : Addr} {v0 v1 v2 v3 v4 v5 v6 v7 v8 v9 v10 v11 v12 v13 : Value} (h : w1.cell? A0 = some v0 ∧ w1.cell? A1 = some v1 ∧ w1.cell? A2 = some v2 ∧ w1.cell? A3 = some v3 ∧ w1.cell? A4 = some v4 ∧ w1.cell? A5 = some v5 ∧ w1.cell? A6 = some v6 ∧ w1.cell? A7 = some v7 ∧ w1.cell? A8 = some v8 ∧ w1.cell? A9 = some v9 ∧ w1.cell? A10 = some v10 ∧ w1.cell? A11 = some v11 ∧ w1.cell? A12 = some v12 ∧ w1.cell? A13 = some v13 ∧ Below B w w1) (hb : Below w1.heap.size w1 w2) (hB : B ≤ w.heap.size) : w2.cell? A0 = some v0 ∧ w2.cell? A1 = some v1 ∧ w2.cell? A2 = some v2 ∧ w2.cell? A3 = some v3 ∧ w2.cell? A4 = some v4 ∧ w2.cell? A5 = some v5 ∧ w2.cell? A6 = some v6 ∧ w2.cell? A7 = some v7 ∧ w2.cell? A8 = some v8 ∧ w2.cell? A9 = some v9 ∧ w2.cell? A10 = some v10 ∧ w2.cell? A11 = some v11 ∧ w2.cell? A12 = some v12 ∧ w2.cell? A13 = some v13 ∧ Below B w w2 := by
  obtain ⟨h0, h1, h2, h3, h4, h5, h6, h7, h8, h9, h10, h11, h12, h13, hh⟩ := h
  have k : ∀ {A : Addr} {v : Value}, w1.cell? A = some v → w2.cell? A = some v := fun {A v} h => (hb.cell (World.block_lt_of_cell? w1 _ h)).trans h
  exact ⟨k h0, k h1, k h2, k h3, k h4, k h5, k h6, k h7, k h8, k h9, k h10, k h11, k h12, k h13, hh.trans (hb.mono (Nat.le_trans hB hh.size))⟩
theorem keeps14 {w1 w2 : World} {p : World → Prop} {A0 A1 A2 A3 A4 A5 A6 A7 A8 A9 A10 A11 A12 A13 : Addr} {v0 v1 v2 v3 v4 v5 v6 v7 v8 v9 v10 v11 v12 v13 : Value} (h : w1.cell? A0 = some v0 ∧ w1.cell? A1 = some v1 ∧ w1.cell? A2 = some v2 ∧ w1.cell? A3 = some v3 ∧ w1.cell? A4 = some v4 ∧ w1.cell? A5 = some v5 ∧ w1.cell? A6 = some v6 ∧ w1.cell? A7 = some v7 ∧ w1.cell? A8 = some v8 ∧ w1.cell? A9 = some v9 ∧ w1.cell? A10 = some v10 ∧ w1.cell? A11 = some v11 ∧ w1.cell? A12 = some v12 ∧ w1.cell? A13 = some v13 ∧ p w1) (hb : Below w1.heap.size w1 w2) (hp : p w1 → Below w1.heap.size w1 w2 → p w2) : w2.cell? A0 = some v0 ∧ w2.cell? A1 = some v1 ∧ w2.cell? A2 = some v2 ∧ w2.cell? A3 = some v3 ∧ w2.cell? A4 = some v4 ∧ w2.cell? A5 = some v5 ∧ w2.cell? A6 = some v6 ∧ w2.cell? A7 = some v7 ∧ w2.cell? A8 = some v8 ∧ w2.cell? A9 = some v9 ∧ w2.cell? A10 = some v10 ∧ w2.cell? A11 = some v11 ∧ w2.cell? A12 = some v12 ∧ w2.cell? A13 = some v13 ∧ p w2 := by
  obtain ⟨h0, h1, h2, h3, h4, h5, h6, h7, h8, h9, h10, h11, h12, h13, hh⟩ := h
  have k : ∀ {A : Addr} {v : Value}, w1.cell? A = some v → w2.cell? A = some v := fun {A v} h => (hb.cell (World.block_lt_of_cell? w1 _ h)).trans h
  exact ⟨k h0, k h1, k h2, k h3, k h4, k h5, k h6, k h7, k h8, k h9, k h10, k h11, k h12, k h13, hp hh hb⟩
theorem lastk14 {p0 p1 p2 p3 p4 p5 p6 p7 p8 p9 p10 p11 p12 p13 q : Prop} (h : p0 ∧ p1 ∧ p2 ∧ p3 ∧ p4 ∧ p5 ∧ p6 ∧ p7 ∧ p8 ∧ p9 ∧ p10 ∧ p11 ∧ p12 ∧ p13 ∧ q) : q := h.2.2.2.2.2.2.2.2.2.2.2.2.2.2
theorem midk14 {p0 p1 p2 p3 p4 p5 p6 p7 p8 p9 p10 p11 p12 p13 q r : Prop} (h : p0 ∧ p1 ∧ p2 ∧ p3 ∧ p4 ∧ p5 ∧ p6 ∧ p7 ∧ p8 ∧ p9 ∧ p10 ∧ p11 ∧ p12 ∧ p13 ∧ q ∧ r) : q := h.2.2.2.2.2.2.2.2.2.2.2.2.2.2.1
theorem keep15 {w w1 w2 : World} {B : Nat} {A0 A1 A2 A3 A4 A5 A6 A7 A8 A9 A10 A11 A12 A13 A14 : Addr} {v0 v1 v2 v3 v4 v5 v6 v7 v8 v9 v10 v11 v12 v13 v14 : Value} (h : w1.cell? A0 = some v0 ∧ w1.cell? A1 = some v1 ∧ w1.cell? A2 = some v2 ∧ w1.cell? A3 = some v3 ∧ w1.cell? A4 = some v4 ∧ w1.cell? A5 = some v5 ∧ w1.cell? A6 = some v6 ∧ w1.cell? A7 = some v7 ∧ w1.cell? A8 = some v8 ∧ w1.cell? A9 = some v9 ∧ w1.cell? A10 = some v10 ∧ w1.cell? A11 = some v11 ∧ w1.cell? A12 = some v12 ∧ w1.cell? A13 = some v13 ∧ w1.cell? A14 = some v14 ∧ Below B w w1) (hb : Below w1.heap.size w1 w2) (hB : B ≤ w.heap.size) : w2.cell? A0 = some v0 ∧ w2.cell? A1 = some v1 ∧ w2.cell? A2 = some v2 ∧ w2.cell? A3 = some v3 ∧ w2.cell? A4 = some v4 ∧ w2.cell? A5 = some v5 ∧ w2.cell? A6 = some v6 ∧ w2.cell? A7 = some v7 ∧ w2.cell? A8 = some v8 ∧ w2.cell? A9 = some v9 ∧ w2.cell? A10 = some v10 ∧ w2.cell? A11 = some v11 ∧ w2.cell? A12 = some v12 ∧ w2.cell? A13 = some v13 ∧ w2.cell? A14 = some v14 ∧ Below B w w2 := by
  obtain ⟨h0, h1, h2, h3, h4, h5, h6, h7, h8, h9, h10, h11, h12, h13, h14, hh⟩ := h
  have k : ∀ {A : Addr} {v : Value}, w1.cell? A = some v → w2.cell? A = some v := fun {A v} h => (hb.cell (World.block_lt_of_cell? w1 _ h)).trans h
  exact ⟨k h0, k h1, k h2, k h3, k h4, k h5, k h6, k h7, k h8, k h9, k h10, k h11, k h12, k h13, k h14, hh.trans (hb.mono (Nat.le_trans hB hh.size))⟩
theorem keeps15 {w1 w2 : World} {p : World → Prop} {A0 A1 A2 A3 A4 A5 A6 A7 A8 A9 A10 A11 A12 A13 A14 : Addr} {v0 v1 v2 v3 v4 v5 v6 v7 v8 v9 v10 v11 v12 v13 v14 : Value} (h : w1.cell? A0 = some v0 ∧ w1.cell? A1 = some v1 ∧ w1.cell? A2 = some v2 ∧ w1.cell? A3 = some v3 ∧ w1.cell? A4 = some v4 ∧ w1.cell? A5 = some v5 ∧ w1.cell? A6 = some v6 ∧ w1.cell? A7 = some v7 ∧ w1.cell? A8 = some v8 ∧ w1.cell? A9 = some v9 ∧ w1.cell? A10 = some v10 ∧ w1.cell? A11 = some v11 ∧ w1.cell? A12 = some v12 ∧ w1.cell? A13 = some v13 ∧ w1.cell? A14 = some v14 ∧ p w1) (hb : Below w1.heap.size w1 w2) (hp : p w1 → Below w1.heap.size w1 w2 → p w2) : w2.cell? A0 = some v0 ∧ w2.cell? A1 = some v1 ∧ w2.cell? A2 = some v2 ∧ w2.cell? A3 = some v3 ∧ w2.cell? A4 = some v4 ∧ w2.cell? A5 = some v5 ∧ w2.cell? A6 = some v6 ∧ w2.cell? A7 = some v7 ∧ w2.cell? A8 = some v8 ∧ w2.cell? A9 = some v9 ∧ w2.cell? A10 = some v10 ∧ w2.cell? A11 = some v11 ∧ w2.cell? A12 = some v12 ∧ w2.cell? A13 = some v13 ∧ w2.cell? A14 = some v14 ∧ p w2 := by
  obtain ⟨h0, h1, h2, h3, h4, h5, h6, h7, h8, h9, h10, h11, h12, h13, h14, hh⟩ := h
  have k : ∀ {A : Addr} {v : Value}, w1.cell? A = some v → w2.cell? A = some v := fun {A v} h => (hb.cell (World.block_lt_of_cell? w1 _ h)).trans h
  exact ⟨k h0, k h1, k h2, k h3, k h4, k h5, k h6, k h7, k h8, k h9, k h10, k h11, k h12, k h13, k h14, hp hh hb⟩
theorem lastk15 {p0 p1 p2 p3 p4 p5 p6 p7 p8 p9 p10 p11 p12 p13 p14 q : Prop} (h : p0 ∧ p1 ∧ p2 ∧ p3 ∧ p4 ∧ p5 ∧ p6 ∧ p7 ∧ p8 ∧ p9 ∧ p10 ∧ p11 ∧ p12 ∧ p13 ∧ p14 ∧ q) : q := h.2.2.2.2.2.2.2.2.2.2.2.2.2.2.2
theorem midk15 {p0 p1 p2 p3 p4 p5 p6 p7 p8 p9 p10 p11 p12 p13 p14 q r : Prop} (h : p0 ∧ p1 ∧ p2 ∧ p3 ∧ p4 ∧ p5 ∧ p6 ∧ p7 ∧ p8 ∧ p9 ∧ p10 ∧ p11 ∧ p12 ∧ p13 ∧ p14 ∧ q ∧ r) : q := h.2.2.2.2.2.2.2.2.2.2.2.2.2.2.2.1
theorem keep16 {w w1 w2 : World} {B : Nat} {A0 A1 A2 A3 A4 A5 A6 A7 A8 A9 A10 A11 A12 A13 A14 A15 : Addr} {v0 v1 v2 v3 v4 v5 v6 v7 v8 v9 v10 v11 v12 v13 v14 v15 : Value} (h : w1.cell? A0 = some v0 ∧ w1.cell? A1 = some v1 ∧ w1.cell? A2 = some v2 ∧ w1.cell? A3 = some v3 ∧ w1.cell? A4 = some v4 ∧ w1.cell? A5 = some v5 ∧ w1.cell? A6 = some v6 ∧ w1.cell? A7 = some v7 ∧ w1.cell? A8 = some v8 ∧ w1.cell? A9 = some v9 ∧ w1.cell? A10 = some v10 ∧ w1.cell? A11 = some v11 ∧ w1.cell? A12 = some v12 ∧ w1.cell? A13 = some v13 ∧ w1.cell? A14 = some v14 ∧ w1.cell? A15 = some v15 ∧ Below B w w1) (hb : Below w1.heap.size w1 w2) (hB : B ≤ w.heap.size) : w2.cell? A0 = some v0 ∧ w2.cell? A1 = some v1 ∧ w2.cell? A2 = some v2 ∧ w2.cell? A3 = some v3 ∧ w2.cell? A4 = some v4 ∧ w2.cell? A5 = some v5 ∧ w2.cell? A6 = some v6 ∧ w2.cell? A7 = some v7 ∧ w2.cell? A8 = some v8 ∧ w2.cell? A9 = some v9 ∧ w2.cell? A10 = some v10 ∧ w2.cell? A11 = some v11 ∧ w2.cell? A12 = some v12 ∧ w2.cell? A13 = some v13 ∧ w2.cell? A14 = some v14 ∧ w2.cell? A15 = some v15 ∧ Below B w w2 := by
  obtain ⟨h0, h1, h2, h3, h4, h5, h6, h7, h8, h9, h10, h11, h12, h13, h14, h15, hh⟩ := h
  have k : ∀ {A : Addr} {v : Value}, w1.cell? A = some v → w2.cell? A = some v := fun {A v} h => (hb.cell (World.block_lt_of_cell? w1 _ h)).trans h
  exact ⟨k h0, k h1, k h2, k h3, k h4, k h5, k h6, k h7, k h8, k h9, k h10, k h11, k h12, k h13, k h14, k h15, hh.trans (hb.mono (Nat.le_trans hB hh.size))⟩
theorem keeps16 {w1 w2 : World} {p : World → Prop} {A0 A1 A2 A3 A4 A5 A6 A7 A8 A9 A10 A11 A12 A13 A14 A15 : Addr} {v0 v1 v2 v3 v4 v5 v6 v7 v8 v9 v10 v11 v12 v13 v14 v15 : Value} (h : w1.cell? A0 = some v0 ∧ w1.cell? A1 = some v1 ∧ w1.cell? A2 = some v2 ∧ w1.cell? A3 = some v3 ∧ w1.cell? A4 = some v4 ∧ w1.cell? A5 = some v5 ∧ w1.cell? A6 = some v6 ∧ w1.cell? A7 = some v7 ∧ w1.cell? A8 = some v8 ∧ w1.cell? A9 = some v9 ∧ w1.cell? A10 = some v10 ∧ w1.cell? A11 = some v11 ∧ w1.cell? A12 = some v12 ∧ w1.cell? A13 = some v13 ∧ w1.cell? A14 = some v14 ∧ w1.cell? A15 = some v15 ∧ p w1) (hb : Below w1.heap.size w1 w2) (hp : p w1 → Below w1.heap.size w1 w2 → p w2) : w2.cell? A0 = some v0 ∧ w2.cell? A1 = some v1 ∧ w2.cell? A2 = some v2 ∧ w2.cell? A3 = some v3 ∧ w2.cell? A4 = some v4 ∧ w2.cell? A5 = some v5 ∧ w2.cell? A6 = some v6 ∧ w2.cell? A7 = some v7 ∧ w2.cell? A8 = some v8 ∧ w2.cell? A9 = some v9 ∧ w2.cell? A10 = some v10 ∧ w2.cell? A11 = some v11 ∧ w2.cell? A12 = some v12 ∧ w2.cell? A13 = some v13 ∧ w2.cell? A14 = some v14 ∧ w2.cell? A15 = some v15 ∧ p w2 := by
  obtain ⟨h0, h1, h2, h3, h4, h5, h6, h7, h8, h9, h10, h11, h12, h13, h14, h15, hh⟩ := h
  have k : ∀ {A : Addr} {v : Value}, w1.cell? A = some v → w2.cell? A = some v := fun {A v} h => (hb.cell (World.block_lt_of_cell? w1 _ h)).trans h
  exact ⟨k h0, k h1, k h2, k h3, k h4, k h5, k h6, k h7, k h8, k h9, k h10, k h11, k h12, k h13, k h14, k h15, hp hh hb⟩
theorem lastk16 {p0 p1 p2 p3 p4 p5 p6 p7 p8 p9 p10 p11 p12 p13 p14 p15 q : Prop} (h : p0 ∧ p1 ∧ p2 ∧ p3 ∧ p4 ∧ p5 ∧ p6 ∧ p7 ∧ p8 ∧ p9 ∧ p10 ∧ p11 ∧ p12 ∧ p13 ∧ p14 ∧ p15 ∧ q) : q := h.2.2.2.2.2.2.2.2.2.2.2.2.2.2.2.2
theorem midk16 {p0 p1 p2 p3 p4 p5 p6 p7 p8 p9 p10 p11 p12 p13 p14 p15 q r : Prop} (h : p0 ∧ p1 ∧ p2 ∧ p3 ∧ p4 ∧ p5 ∧ p6 ∧ p7 ∧ p8 ∧ p9 ∧ p10 ∧ p11 ∧ p12 ∧ p13 ∧ p14 ∧ p15 ∧ q ∧ r) : q := h.2.2.2.2.2.2.2.2.2.2.2.2.2.2.2.2.1
end Mem
end Go
end
