/- ref SameKind: a kind held against itself; slices.EqualFunc at kinds: a list against itself, against a list of another length. -/
import Derived.Test.YtenfegdhbbdinaaDoorKindEq
namespace Go.Proofs.YtenfegdhbbdinaaDoor
open Go.ChangeShapes Go.WideShapes Go.ChangeAt Go.RowKit Go.Nm Go.Mem
set_option linter.unusedVariables false
set_option maxHeartbeats 4000000 in
theorem same_kind (y : KindV) (a b : Option Addr) (n ca cb : Nat) (hn : y.fields.length = n) (h1 : n ≤ 9223372036854775807) (W : World) (hz : SlAt 3 FieldAt W a y.fields) (hy : SlAt 3 FieldAt W b y.fields) :
    Calls Tryd.prog 26 #[.agg #[.string y.name, .slice a n ca], .agg #[.string y.name, .slice b n cb]] W fun e w' => e = .returned (.bool true) ∧ Below W.heap.size W w' := by
  obtain ⟨nm, l⟩ := y
  simp only at hn hz hy ⊢
  have t1 : (nm.toList == nm.toList) = true := beq_self_eq_true _
  have hb0 := ((Below.refl W.heap.size W).alloc (Nat.le_refl _) (.cells #[.string nm, .slice a n ca] 25)).alloc (by simp) (.cells #[.string nm, .slice b n cb] 25)
  have HB0 := Lib.hid hb0
  have HC := Lib.hid (eq_flds l a b n ca cb hn h1 _ (hz.below FieldAt.abides hb0) (hy.below FieldAt.abides hb0))
  clear hn hz hy hb0
  go_enter Tryd.func26, Tryd.ntmps26
  go_wp2_with fail
  refine HC.out.mono ?_
  rintro e w1 ⟨rfl, hb1⟩
  have HB1 := Lib.hid (HB0.out.trans (hb1.mono (by simp; omega)))
  clear hb1
  go_wp2_with fail
  go_ret
  exact ⟨rfl, HB1.out⟩
set_option maxHeartbeats 4000000 in
theorem eqf_kinds_ne (a b : Option Addr) (n m ca cb : Nat) (h1 : n ≤ 17592186044001) (h2 : m ≤ 17592186044001) (hnm : n ≠ m) (W : World) :
    Calls Tryd.prog 24 #[.slice a n ca, .slice b m cb, .func (.func 26) #[] #[]] W fun e w' => e = .returned (.bool false) ∧ Below W.heap.size W w' := by
  have t0 : ((n : Int) != (m : Int)) = true := by rw [bne_iff_ne]; omega
  clear hnm
  go_enter Tryd.func24, Tryd.ntmps24
  go_wp2_with fail
  go_ret
  exact ⟨rfl, Below.refl _ _⟩
set_option maxHeartbeats 4000000 in
theorem eqf_kinds (l : List KindV) (a b : Option Addr) (n ca cb : Nat) (hn : l.length = n) (h1 : n ≤ 17592186044000) (W : World) (hz : SlAt 2 KindAt W a l) (hy : SlAt 2 KindAt W b l) :
    Calls Tryd.prog 24 #[.slice a n ca, .slice b n cb, .func (.func 26) #[] #[]] W fun e w' => e = .returned (.bool true) ∧ Below W.heap.size W w' := by
  have HN := Lib.hid hn
  have HZ := Lib.hid hz
  have HY := Lib.hid hy
  clear hn hz hy
  have t0 : ((n : Int) != (n : Int)) = false := by simp
  go_enter Tryd.func24, Tryd.ntmps24
  go_wp2_with fail
  go_loopg [7, 8, 9, 17] n (fun gk v7 v8 v9 vi wx => ∃ i : Nat, i ≤ n ∧ gk = n - i ∧ vi = .int .i64 i ∧ Below W.heap.size W wx)
  case atStart => exact ⟨0, Nat.zero_le _, rfl, rfl, Below.refl _ _⟩
  case round =>
    obtain ⟨i, hi, g2, rfl, hb⟩ := hrel
    have G2 := Lib.hid g2
    have HB := Lib.hid hb
    clear g2 hb
    by_cases hlt : i < n
    · obtain ⟨x, rfl, hx, hix⟩ := (HZ.out.below KindAt.abides HB.out) (by rw [HN.out]; omega)
      obtain ⟨y, rfl, hy, hiy⟩ := (HY.out.below KindAt.abides HB.out) (by rw [HN.out]; omega)
      have kx := hix i (by rw [HN.out]; exact hlt)
      have ky := hiy i (by rw [HN.out]; exact hlt)
      obtain ⟨X, hX⟩ : ∃ X, X = l[i]'(by rw [HN.out]; exact hlt) := ⟨_, rfl⟩
      rw [← hX] at kx ky
      clear hix hiy hX
      obtain ⟨x0, xn, ax, cx, x1, x2, x3, xi⟩ := kx
      obtain ⟨y0, yn, ay, cy, y1, y2, y3, yi⟩ := ky
      have hb1 := (Below.refl wr.heap.size wr).alloc (Nat.le_refl _) (.cells #[.string X.name, .slice ax X.fields.length cx] 25)
      have hb2 := hb1.alloc (by simp) (.cells #[.string X.name, .slice ay X.fields.length cy] 25)
      have z0 := cell_abides y0 hb1
      have z1 := cell_abides y1 hb1
      have HC := Lib.hid (same_kind X ax ay _ cx cy rfl (by omega) _ (xi.below FieldAt.abides hb2) (yi.below FieldAt.abides hb2))
      have HB2 := Lib.hid hb2
      clear hb1 hb2 xi yi y0 y1 x2 x3 y2 y3 xn yn
      go_wp2_with fail
      refine HC.out.mono ?_
      rintro e w1 ⟨rfl, hb1⟩
      have HB3 := Lib.hid (HB.out.trans ((HB2.out.trans (hb1.mono (by simp; omega))).mono HB.out.size))
      clear hb1 HC
      go_wp2_with fail
      go_roundg (n - (i + 1))
      case measure => rw [G2.out]; omega
      case rel => exact ⟨i + 1, hlt, rfl, by go_num, HB3.out⟩
    · go_wp2_with fail
      go_ret
      exact ⟨rfl, HB.out⟩
end Go.Proofs.YtenfegdhbbdinaaDoor
