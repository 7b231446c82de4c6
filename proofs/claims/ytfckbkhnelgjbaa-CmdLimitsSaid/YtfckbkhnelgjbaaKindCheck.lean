/- kind.Check. -/
import Derived.Test.YtfckbkhnelgjbaaKindOne
import Derived.Deep.RegionHeld3
namespace Go.Proofs.Ytfckbkhnelgjbaa
open Go.ChangeShapes Go.WideShapes Go.ChangeAt Go.RowKit Go.Nm Go.Mem
set_option linter.unusedVariables false
theorem firstAt_ge (names : List ByteArray) (s : ByteArray) (k : Nat) : decide (firstAt names s k ≥ 0) = names.any fun a => a.toList == s.toList := by
  induction names generalizing k with
  | nil => rfl
  | cons a r ih =>
    unfold firstAt
    by_cases h : (a.toList == s.toList) = true
    · rw [if_pos h, List.any_cons, h]; simp
    · rw [if_neg h, ih, List.any_cons]
      have h2 : (a.toList == s.toList) = false := by simpa using h
      rw [h2]; rfl
theorem dup_first (names : List ByteArray) (i : Nat) (h : i < names.length) : decide (firstAt (names.take i) names[i] 0 ≥ 0) = dupAt names i := by
  rw [firstAt_ge]
  unfold dupAt
  rw [List.getD_eq_getElem?_getD, List.getElem?_eq_getElem h]; rfl
theorem knd_step (l : List KindV) (k : Nat) (h0 : kndErr l k = 0) : kndErr l (k + 1) = if kindE (l.getD k default) ≠ 0 then kindE (l.getD k default) else if dupAt (l.map (·.name)) k = true then 5 else 0 := by
  show (if kndErr l k ≠ 0 then _ else _) = _
  rw [if_neg (by rw [h0]; simp)]
theorem SlAt.take {α : Type} {sz : Nat} {E : World → Addr → α → Prop} {w : World} {a : Option Addr} {l : List α} (h : SlAt sz E w a l) (k : Nat) : SlAt sz E w a (l.take k) := fun h0 => by
  rw [List.length_take] at h0
  obtain ⟨x, h1, h2, h3⟩ := h (by omega)
  exact ⟨x, h1, h2, fun i hi => by rw [List.length_take] at hi; rw [List.getElem_take]; exact h3 i (by omega)⟩
theorem keepF {w w1 w2 : World} {p : Addr} {v : Value} {a : Option Addr} {l : List KindV} (h : w1.cell? p = some v ∧ SlAt 2 KindAt w1 a l ∧ Below w.heap.size w w1) (hb : Below w1.heap.size w1 w2) : w2.cell? p = some v ∧ SlAt 2 KindAt w2 a l ∧ Below w.heap.size w w2 :=
  ⟨cell_abides h.1 hb, h.2.1.below KindAt.abides hb, h.2.2.trans (hb.mono h.2.2.size)⟩
set_option maxHeartbeats 8000000 in
theorem kind_Check (l : List KindV) (a : Option Addr) (n cap : Nat) (hn : l.length = n) (h1 : n ≤ 9223372036854775807) (hnc : n ≤ cap) (hcm : cap ≤ 9223372036854775807) (W : World) (hz : SlAt 2 KindAt W a l) :
    Calls Try.prog 69 #[.slice a n cap] W fun e w' => e = .returned (.int .i64 (kindsE l)) ∧ Below W.heap.size W w' := by
  obtain ⟨R, hR⟩ : ∃ R, R = kindsE l := ⟨_, rfl⟩
  rw [← hR]
  have HR := Lib.hid hR
  have HN := Lib.hid hn
  have HZ := Lib.hid hz
  clear hR hn hz
  by_cases h16 : 16 < n
  · have HF := Lib.hid (show R = 2 by rw [HR.out]; unfold kindsE; rw [if_pos (by rw [HN.out]; exact h16)])
    go_enter Try.func69, Try.ntmps69
    go_wp2_with fail
    go_ret
    exact ⟨by rw [HF.out]; rfl, Below.refl _ _⟩
  · have HF := Lib.hid (show R = kndErr l n by rw [HR.out]; unfold kindsE; rw [if_neg (by rw [HN.out]; exact h16), HN.out])
    have h16' : n ≤ 16 := by omega
    clear h16
    go_enter Try.func69, Try.ntmps69
    go_wp2_with fail
    go_loopg [3, 4, 5, 11] n (fun gk v3 v4 v5 vi wx => ∃ i : Nat, i ≤ n ∧ gk = n - i ∧ vi = .int .i64 i ∧ kndErr l i = 0 ∧ Below W.heap.size W wx)
    case atStart => exact ⟨0, Nat.zero_le _, rfl, rfl, rfl, Below.refl _ _⟩
    case round =>
      obtain ⟨i, hi, g2, rfl, hfe, hb⟩ := hrel
      have G2 := Lib.hid g2
      have HFE := Lib.hid hfe
      have HB := Lib.hid hb
      have hbs := hb.size
      clear g2 hfe hb
      obtain ⟨Wo, rfl⟩ : ∃ Wo : World, Wo = wr := ⟨_, rfl⟩
      by_cases hlt : i < n
      · obtain ⟨x, rfl, hx, hix⟩ := (HZ.out.below KindAt.abides HB.out) (by rw [HN.out]; omega)
        obtain ⟨k0, kn, ay, cy, k1, k2, k3, k4⟩ := hix i (by rw [HN.out]; exact hlt)
        obtain ⟨y, hy⟩ : ∃ y, y = l[i]'(by rw [HN.out]; exact hlt) := ⟨_, rfl⟩
        rw [← hy] at k0 kn k1 k2 k4
        have hb2 := (Below.refl Wo.heap.size Wo).alloc (Nat.le_refl _) (.cells #[.string y.name, .slice ay y.fields.length cy] 102)
        have hc := kind_One y ay _ cy rfl kn k2 k3 _ (k4.below FieldAt.abides hb2)
        have hst := knd_step l i HFE.out
        rw [getD_at l i (by rw [HN.out]; exact hlt), ← hy] at hst
        obtain ⟨e1, he1⟩ : ∃ e1, e1 = kindE y := ⟨_, rfl⟩
        rw [← he1] at hc hst
        have HC := Lib.hid hc
        have HST := Lib.hid hst
        have HY := Lib.hid hy
        have HB2 := Lib.hid hb2
        clear hix hy hb2 hc hst he1 kn k2 k3 k4
        by_cases he : e1 = 0
        · subst he
          go_wp2_with fail
          refine HC.out.mono ?_
          rintro e w2 ⟨rfl, hb3⟩
          have hyb := heap_below (heap_alloc_new Wo (.cells #[.string y.name, .slice ay y.fields.length cy] 102)) hb3
          have hBo := HB2.out.trans (hb3.mono (by simp))
          have hBW := HB.out.trans (hBo.mono hbs)
          have d0 : w2.cell? ⟨Wo.heap.size, 0, none⟩ = some (.string y.name) := by rw [cell_of_row _ _ 0 _ _ _ hyb]; rfl
          have hfnd := kind_Find (l.take i) (some x) i cap y.name (by rw [List.length_take, HN.out]; omega) (by omega)
          have hds := dup_first (l.map (·.name)) i (by rw [List.length_map, HN.out]; exact hlt)
          rw [List.getElem_map, ← HY.out, ← List.map_take] at hds
          obtain ⟨q, hq⟩ : ∃ q, q = firstAt ((l.take i).map (·.name)) y.name 0 := ⟨_, rfl⟩
          rw [← hq] at hfnd hds
          have HFND := Lib.hid hfnd
          have HDS := Lib.hid hds
          have HBW := Lib.hid hBW
          have hic : i ≤ cap := by omega
          have hzw := (HZ.out.take i).below KindAt.abides hBW
          have HZW := Lib.hid hzw
          clear hb3 hyb hBo hfnd hds hq hBW hzw k0 k1
          have hbx : Below W.heap.size W w2 := HBW.out
          go_wp2_with fail
          go_region_held3 (fun w' => w'.cell? ⟨Wo.heap.size, 0, none⟩ = some (.string y.name) ∧ SlAt 2 KindAt w' (some x) (l.take i) ∧ Below W.heap.size W w')
            (first | exact ⟨d0, HZW.out, hbx.drew⟩ | assumption | exact keepF (by assumption) (by assumption))
            ((go_at_call 97; refine (HFND.out _ (And.left (And.right (by assumption)))).mono ?_; rintro e w8 ⟨rfl, hb8⟩))
          rename_i hHeld
          have HB9 := Lib.hid hHeld.2.2
          clear hHeld hb8
          by_cases hq : 0 ≤ q
          · have hR : R = 5 := by
              have hd : dupAt (l.map (·.name)) i = true := HDS.out.symm.trans (decide_eq_true hq)
              have hs := HST.out
              rw [if_neg (by simp), if_pos hd] at hs
              rw [HF.out, kndErr_stays l (i + 1) n hlt (by rw [hs]; decide), hs]
            have HR5 := Lib.hid hR
            clear hR
            go_wp2_with fail
            go_ret
            exact ⟨by rw [HR5.out]; rfl, HB9.out⟩
          · have hk2 : kndErr l (i + 1) = 0 := by
              have hd : dupAt (l.map (·.name)) i = false := HDS.out.symm.trans (decide_eq_false hq)
              have hs := HST.out
              rw [if_neg (by simp), if_neg (by rw [hd]; decide)] at hs
              exact hs
            have HK2 := Lib.hid hk2
            clear hk2
            go_wp2_with fail
            go_roundg (n - (i + 1))
            case measure => rw [G2.out]; omega
            case rel => exact ⟨i + 1, hlt, rfl, by go_num, HK2.out, HB9.out⟩
        · have t1 : (e1 != 0) = true := by rw [bne_iff_ne]; exact he
          have hR : R = e1 := by
            have hs := HST.out
            rw [if_pos he] at hs
            rw [HF.out, kndErr_stays l (i + 1) n hlt (by rw [hs]; exact he), hs]
          have HR5 := Lib.hid hR
          clear hR he
          go_wp2_with fail
          refine HC.out.mono ?_
          rintro e w2 ⟨rfl, hb3⟩
          have HBW := Lib.hid (HB.out.trans ((HB2.out.trans (hb3.mono (by simp))).mono hbs))
          clear hb3
          go_wp2_with fail
          go_ret
          exact ⟨by rw [HR5.out]; rfl, HBW.out⟩
      · have hie : i = n := by omega
        have HF0 := Lib.hid (show R = 0 by rw [HF.out, ← hie]; exact HFE.out)
        clear hie
        go_wp2_with fail
        go_ret
        exact ⟨by rw [HF0.out]; rfl, HB.out⟩
end Go.Proofs.Ytfckbkhnelgjbaa
