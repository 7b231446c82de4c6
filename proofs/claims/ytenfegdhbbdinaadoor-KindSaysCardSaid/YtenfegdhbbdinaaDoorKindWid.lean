/- kind.Width. -/
import Derived.Test.YtenfegdhbbdinaaDoorKindOne
namespace Go.Proofs.YtenfegdhbbdinaaDoor
open Go.ChangeShapes Go.WideShapes Go.ChangeAt Go.RowKit Go.Nm Go.Mem
set_option linter.unusedVariables false
/-- the bits of the first fields, summed as the machine sums -/
def wsum (l : List FieldV) : Nat → Int
  | 0 => 0
  | k + 1 => wrap64 (wsum l k + (l.getD k default).bits)
def widE (k : KindV) : Int := if kindE k = 0 then wsum k.fields k.fields.length else 0
set_option maxHeartbeats 8000000 in
theorem kind_Width (k : KindV) (a : Option Addr) (n cap : Nat) (hn : k.fields.length = n) (hnm : k.name.size ≤ 9223372036854775807) (hnc : n ≤ cap) (hcm : cap ≤ 9223372036854775807) (W : World) (hz : SlAt 3 FieldAt W a k.fields) :
    Calls Tryd.prog 16 #[.agg #[.string k.name, .slice a n cap]] W fun e w' => e = .returned (.tuple #[.int .i64 (widE k), .int .i64 (kindE k)]) ∧ Below W.heap.size W w' := by
  have hb0 := (Below.refl W.heap.size W).alloc (Nat.le_refl _) (.cells #[.string k.name, .slice a n cap] 25)
  have hc := kind_One k a n cap hn hnm hnc hcm (W.alloc (.cells #[.string k.name, .slice a n cap] 25)) (hz.below FieldAt.abides hb0)
  have x0 := heap_alloc_new W (.cells #[.string k.name, .slice a n cap] 25)
  have HB0 := Lib.hid hb0
  have HX0 := Lib.hid x0
  have HN := Lib.hid hn
  have HZ := Lib.hid hz
  obtain ⟨R, hR⟩ : ∃ R, R = widE k := ⟨_, rfl⟩
  rw [← hR]
  obtain ⟨nm, l⟩ := k
  simp only at hc HX0 HB0 hnm HN HZ ⊢
  obtain ⟨e1, he1⟩ : ∃ e1, e1 = kindE ⟨nm, l⟩ := ⟨_, rfl⟩
  rw [← he1] at hc ⊢
  have HE := Lib.hid he1
  have HR := Lib.hid hR
  have HC := Lib.hid hc
  clear hb0 hc x0 hn hz he1 hR
  by_cases he : e1 = 0
  · subst he
    have HW := Lib.hid (show R = wsum l n by rw [HR.out]; unfold widE; rw [if_pos HE.out.symm]; simp only; rw [HN.out])
    go_enter Tryd.func16, Tryd.ntmps16
    go_wp2_with fail
    refine HC.out.mono ?_
    rintro e w1 ⟨rfl, hb1⟩
    have hx1 := heap_below HX0.out hb1
    have c1 : w1.cell? ⟨W.heap.size, 1, none⟩ = some (.slice a n cap) := by rw [cell_of_row _ _ 1 _ _ _ hx1]; rfl
    have hbw := HB0.out.trans (hb1.mono (by simp))
    have HB1 := Lib.hid hbw
    clear hb1 hx1 hbw HC HX0 HB0
    go_wp2_with fail
    clear c1
    go_loopg [5, 7, 16] n (fun gk v5 v7 vi wx => ∃ i : Nat, i ≤ n ∧ gk = n - i ∧ vi = .int .i64 i ∧ v5 = .int .i64 (wsum l i) ∧ Below W.heap.size W wx)
    case atStart => exact ⟨0, Nat.zero_le _, rfl, rfl, rfl, HB1.out⟩
    case round =>
      obtain ⟨i, hi, g2, rfl, rfl, hb⟩ := hrel
      have G2 := Lib.hid g2
      have HB := Lib.hid hb
      have hbs := hb.size
      clear g2 hb
      by_cases hlt : i < n
      · obtain ⟨x, rfl, hx, hix⟩ := (HZ.out.below FieldAt.abides HB.out) (by rw [HN.out]; omega)
        obtain ⟨k0, k1, k2, k3⟩ := hix i (by rw [HN.out]; exact hlt)
        obtain ⟨y, hy⟩ : ∃ y, y = l[i]'(by rw [HN.out]; exact hlt) := ⟨_, rfl⟩
        rw [← hy] at k0 k1 k2 k3
        have HB2 := Lib.hid (HB.out.alloc hbs (.cells #[.string y.name, .int .i64 y.bits, .int .i64 y.low] 39))
        have HST := Lib.hid (show wsum l (i + 1) = wrap64 (wsum l i + y.bits) by
          show wrap64 (wsum l i + (l.getD i default).bits) = _
          rw [getD_at l i (by rw [HN.out]; exact hlt), ← hy])
        obtain ⟨S, hS⟩ : ∃ S, S = wsum l i := ⟨_, rfl⟩
        rw [← hS] at HST ⊢
        clear hix hy k3 hS
        go_wp2_with fail
        go_roundg (n - (i + 1))
        case measure => rw [G2.out]; omega
        case rel => exact ⟨i + 1, hlt, rfl, by go_num, by rw [HST.out], HB2.out⟩
      · have hie : i = n := by omega
        have HF := Lib.hid (show R = wsum l i by rw [hie]; exact HW.out)
        clear hie
        obtain ⟨S, hS⟩ : ∃ S, S = wsum l i := ⟨_, rfl⟩
        rw [← hS] at HF ⊢
        clear hS
        go_wp2_with fail
        go_ret2
        exact ⟨by rw [HF.out]; rfl, HB.out⟩
  · have t1 : (e1 != 0) = true := by rw [bne_iff_ne]; exact he
    have HW := Lib.hid (show R = 0 by rw [HR.out]; unfold widE; rw [if_neg (by rw [← HE.out]; exact he)])
    clear he
    go_enter Tryd.func16, Tryd.ntmps16
    go_wp2_with fail
    refine HC.out.mono ?_
    rintro e w1 ⟨rfl, hb1⟩
    have HB1 := Lib.hid (HB0.out.trans (hb1.mono (by simp)))
    clear hb1
    go_wp2_with fail
    go_ret2
    exact ⟨by rw [HW.out]; rfl, HB1.out⟩
end Go.Proofs.YtenfegdhbbdinaaDoor
