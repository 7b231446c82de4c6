/- Lemmas for the law TopBorderText: WEq, WSame, MapsW. No conditions. -/
import Derived.Test.YtfckbkhnelgjbaaM04
import Derived.Test.YtfckbkhnelgjbaaM08
import Derived.Deep.LoopGhost
import Derived.BigQuiet
import Derived.Deep.QuietTactic
import Derived.Shelf.Abstract
import Derived.Test.YtfckbkhnelgjbaaM13
import Derived.Test.YtfckbkhnelgjbaaM10
import Derived.Test.YtfckbkhnelgjbaaM06
import Derived.Deep.DeepMust
import Derived.OwnWalk
import Derived.WideKeyArgs2
import Derived.Maps.OwnSet
import Derived.Maps.OwnOps
import Derived.Maps.Views
import Derived.Carry
/- Components and items held against each other, by the reference and by the program. -/
section
namespace Go.Proofs.Ytfckbkhnelgjbaa
open Go.ChangeShapes Go.WideShapes Go.ChangeAt Go.RowKit Go.Mem
set_option linter.unusedVariables false
theorem eq_intsN (a b : Option Addr) (ca cb n m : Nat) (zs ys : List Int) (hn : zs.length = n) (hm : ys.length = m) (h1 : n ≤ 9223372036854775807) (h2 : m ≤ 9223372036854775807) (w : World) (ha : IntsAt .i64 w a zs) (hb : IntsAt .i64 w b ys) :
    Calls Try.prog 40 #[.slice a n ca, .slice b m cb] w fun e w' => e = .returned (.bool (decide (zs = ys))) ∧ Below w.heap.size w w' := by
  subst hn hm
  exact eq_ints a b ca cb zs ys h1 h2 w ha hb
theorem eqf_comps_ne {l k : List CompV} {n : Nat} (hl : l.length = n) (hk : k.length = n) (i : Nat) (hi : i < n) (h : l[i]'(by omega) ≠ k[i]'(by omega)) : decide (l = k) = false := by
  rw [decide_eq_false_iff_not]; rintro rfl; exact h rfl
theorem eqf_comps_eq {l k : List CompV} {n : Nat} (hl : l.length = n) (hk : k.length = n) (h : ∀ i (hi : i < n), l[i]'(by omega) = k[i]'(by omega)) : decide (l = k) = true := by
  rw [decide_eq_true_iff]; exact List.ext_getElem (by omega) (fun i h1 h2 => h i (by omega))
set_option maxHeartbeats 4000000 in
theorem same_comp_w (x y : CompV) (ax ay : Option Addr) (n m cx cy : Nat) (hn : x.vals.length = n) (hm : y.vals.length = m) (h1 : n ≤ 1048576) (h2 : m ≤ 1048576) (W : World) (hx : IntsAt .i64 W ax x.vals) (hy : IntsAt .i64 W ay y.vals) :
    Calls Try.prog 100 #[.agg #[.int .i64 x.kind, .slice ax n cx], .agg #[.int .i64 y.kind, .slice ay m cy]] W fun e w' => e = .returned (.bool (decide (x = y))) ∧ Below W.heap.size W w' := by
  obtain ⟨p, l⟩ := x
  obtain ⟨q, k⟩ := y
  simp only at hn hm hx hy ⊢
  obtain ⟨R, hR⟩ : ∃ R, R = decide ((⟨p, l⟩ : CompV) = ⟨q, k⟩) := ⟨_, rfl⟩
  rw [← hR]
  have HC := Lib.hid (eq_intsN ax ay cx cy n m l k hn hm (by omega) (by omega))
  have HX := Lib.hid hx
  have HY := Lib.hid hy
  have HR := Lib.hid hR
  clear hn hm hx hy hR
  by_cases hk : p = q
  · have t1 : (p == q) = true := by rw [hk]; exact beq_self_eq_true q
    have hb0 := ((Below.refl W.heap.size W).alloc (Nat.le_refl _) (.cells #[.int .i64 p, .slice ax n cx] 95)).alloc (by simp) (.cells #[.int .i64 q, .slice ay m cy] 95)
    have HB0 := Lib.hid hb0
    clear hb0
    obtain ⟨S, hS⟩ : ∃ S, S = decide (l = k) := ⟨_, rfl⟩
    rw [← hS] at HC
    have HRS := Lib.hid (show R = S by rw [HR.out, hS, hk]; simp)
    clear hS hk
    go_enter Try.func100, Try.ntmps100
    go_wp2_with fail
    refine (HC.out _ (HX.out.below HB0.out) (HY.out.below HB0.out)).mono ?_
    rintro e w1 ⟨rfl, hb1⟩
    have HB1 := Lib.hid (HB0.out.trans (hb1.mono (by simp; omega)))
    clear hb1
    go_wp2_with fail
    go_ret
    exact ⟨by rw [HRS.out]; rfl, HB1.out⟩
  · have t1 : (p == q) = false := by rw [beq_eq_false_iff_ne]; exact hk
    have HF := Lib.hid (show R = false by rw [HR.out]; simp [hk])
    clear hk
    go_enter Try.func100, Try.ntmps100
    go_wp2_with fail
    go_ret
    exact ⟨by rw [HF.out]; rfl, ((Below.refl W.heap.size W).alloc (Nat.le_refl _) _).alloc (by simp) _⟩
set_option maxHeartbeats 4000000 in
theorem eqf_comps_w (l k : List CompV) (a b : Option Addr) (n m ca cb : Nat) (hn : l.length = n) (hm : k.length = m) (h1 : n ≤ 1048576) (h2 : m ≤ 1048576) (hvl : ∀ z ∈ l, z.vals.length ≤ 1048576) (hvk : ∀ z ∈ k, z.vals.length ≤ 1048576) (W : World) (hz : SlAt 2 CompAt W a l) (hy : SlAt 2 CompAt W b k) :
    Calls Try.prog 99 #[.slice a n ca, .slice b m cb, .func (.func 100) #[] #[]] W fun e w' => e = .returned (.bool (decide (l = k))) ∧ Below W.heap.size W w' := by
  obtain ⟨R, hR⟩ : ∃ R, R = decide (l = k) := ⟨_, rfl⟩
  rw [← hR]
  have HR := Lib.hid hR
  have HN := Lib.hid hn
  have HM := Lib.hid hm
  have HZ := Lib.hid hz
  have HY := Lib.hid hy
  have HVL := Lib.hid hvl
  have HVK := Lib.hid hvk
  clear hR hn hm hz hy hvl hvk
  by_cases hnm : n = m
  · subst hnm
    have t0 : ((n : Int) != (n : Int)) = false := by simp
    go_enter Try.func99, Try.ntmps99
    go_wp2_with fail
    go_loopg [7, 8, 9, 17] n (fun gk v7 v8 v9 vi wx => ∃ i : Nat, i ≤ n ∧ gk = n - i ∧ vi = .int .i64 i ∧ (∀ j (h : j < n), j < i → l[j]'(by rw [HN.out]; exact h) = k[j]'(by rw [HM.out]; exact h)) ∧ Below W.heap.size W wx)
    case atStart => exact ⟨0, Nat.zero_le _, rfl, rfl, fun j h h2 => absurd h2 (by omega), Below.refl _ _⟩
    case round =>
      obtain ⟨i, hi, g2, rfl, hat, hb⟩ := hrel
      have G2 := Lib.hid g2
      have HAT := Lib.hid hat
      have HB := Lib.hid hb
      clear g2 hat hb
      by_cases hlt : i < n
      · obtain ⟨x, rfl, hx, hix⟩ := (HZ.out.below CompAt.abides HB.out) (by rw [HN.out]; omega)
        obtain ⟨y, rfl, hy, hiy⟩ := (HY.out.below CompAt.abides HB.out) (by rw [HM.out]; omega)
        have kx := hix i (by rw [HN.out]; exact hlt)
        have ky := hiy i (by rw [HM.out]; exact hlt)
        obtain ⟨X, hX⟩ : ∃ X, X = l[i]'(by rw [HN.out]; exact hlt) := ⟨_, rfl⟩
        obtain ⟨Y, hY⟩ : ∃ Y, Y = k[i]'(by rw [HM.out]; exact hlt) := ⟨_, rfl⟩
        rw [← hX] at kx
        rw [← hY] at ky
        have HX := Lib.hid hX
        have HY2 := Lib.hid hY
        clear hix hiy hX hY
        obtain ⟨x0, ax, cx, x1, xi⟩ := kx
        obtain ⟨y0, ay, cy, y1, yi⟩ := ky
        have hv1 : X.vals.length ≤ 1048576 := HVL.out X (by rw [HX.out]; exact List.getElem_mem _)
        have hv2 : Y.vals.length ≤ 1048576 := HVK.out Y (by rw [HY2.out]; exact List.getElem_mem _)
        have hb1 := (Below.refl wr.heap.size wr).alloc (Nat.le_refl _) (.cells #[.int .i64 X.kind, .slice ax X.vals.length cx] 95)
        have hb2 := hb1.alloc (by simp) (.cells #[.int .i64 Y.kind, .slice ay Y.vals.length cy] 95)
        have y2 := cell_abides y0 hb1
        have y3 := cell_abides y1 hb1
        obtain ⟨S, hS⟩ : ∃ S, S = decide (X = Y) := ⟨_, rfl⟩
        have HC := Lib.hid (same_comp_w X Y ax ay _ _ cx cy rfl rfl hv1 hv2 _ (xi.below hb2) (yi.below hb2))
        rw [← hS] at HC
        have HS := Lib.hid hS
        have HB2 := Lib.hid hb2
        clear hb1 hb2 hS xi yi y0 y1 hv1 hv2
        go_wp2_with fail
        refine HC.out.mono ?_
        rintro e w1 ⟨rfl, hb1⟩
        have HB3 := Lib.hid (HB.out.trans ((HB2.out.trans (hb1.mono (by simp; omega))).mono HB.out.size))
        clear hb1 HC
        cases S
        · have HF := Lib.hid (show R = false by rw [HR.out]; exact eqf_comps_ne HN.out HM.out i hlt (by rw [← HX.out, ← HY2.out]; exact of_decide_eq_false HS.out.symm))
          go_wp2_with fail
          go_ret
          exact ⟨by rw [HF.out]; rfl, HB3.out⟩
        · have HE := Lib.hid (of_decide_eq_true HS.out.symm)
          go_wp2_with fail
          go_roundg (n - (i + 1))
          case measure => rw [G2.out]; omega
          case rel => exact ⟨i + 1, hlt, rfl, by go_num, fun j h hj => by
            by_cases hji : j < i
            · exact HAT.out j h hji
            · obtain rfl : j = i := by omega
              rw [← HX.out, ← HY2.out]; exact HE.out, HB3.out⟩
      · have hie : i = n := by omega
        have HF := Lib.hid (show R = true by rw [HR.out]; exact eqf_comps_eq HN.out HM.out (fun j h => HAT.out j h (by omega)))
        clear hie
        go_wp2_with fail
        go_ret
        exact ⟨by rw [HF.out]; rfl, HB.out⟩
  · have t0 : ((n : Int) != (m : Int)) = true := by rw [bne_iff_ne]; omega
    have HF := Lib.hid (show R = false by rw [HR.out, decide_eq_false_iff_not]; rintro rfl; exact hnm (HN.out.symm.trans HM.out))
    clear hnm
    go_enter Try.func99, Try.ntmps99
    go_wp2_with fail
    go_ret
    exact ⟨by rw [HF.out]; rfl, Below.refl _ _⟩
set_option maxHeartbeats 4000000 in
theorem same_comps_w (l k : List CompV) (a b : Option Addr) (n m ca cb : Nat) (hn : l.length = n) (hm : k.length = m) (h1 : n ≤ 1048576) (h2 : m ≤ 1048576) (hvl : ∀ z ∈ l, z.vals.length ≤ 1048576) (hvk : ∀ z ∈ k, z.vals.length ≤ 1048576) (W : World) (hz : SlAt 2 CompAt W a l) (hy : SlAt 2 CompAt W b k) :
    Calls Try.prog 74 #[.slice a n ca, .slice b m cb] W fun e w' => e = .returned (.bool (decide (l = k))) ∧ Below W.heap.size W w' := by
  have HC := Lib.hid (eqf_comps_w l k a b n m ca cb hn hm h1 h2 hvl hvk W hz hy)
  clear hn hm hz hy hvl hvk
  go_enter Try.func74, Try.ntmps74
  go_wp2_with fail
  refine HC.out.mono ?_
  rintro e w1 ⟨rfl, hb1⟩
  go_wp2_with fail
  go_ret
  exact ⟨rfl, hb1⟩
theorem eqEnt (a b c d : Int) (w : World) : (Op.equalIn 10000 24 (.agg #[.int .i64 a, .int .i64 b]) (.agg #[.int .i64 c, .int .i64 d])).run Try.prog w = .ok (decide (a = c) && decide (b = d)) w := by
  have u3 := Try.underlying3
  have a3 := Try.isAgg3
  have z3 := Try.sizeOf3
  rw [show (10000 : Nat) = 9999 + 1 from rfl, Op.equalIn]
  simp only [Sem.run_bind, run_underlying Try.underlying24, Result.andThen_ok]
  go_simp
  by_cases h1 : a = c <;> by_cases h2 : b = d <;> simp [h1, h2]
set_option maxHeartbeats 4000000 in
theorem same_item_w (x y : ItemV) (ax ay : Option Addr) (n m cx cy : Nat) (hn : x.comps.length = n) (hm : y.comps.length = m) (h1 : n ≤ 1048576) (h2 : m ≤ 1048576) (hvl : ∀ z ∈ x.comps, z.vals.length ≤ 1048576) (hvk : ∀ z ∈ y.comps, z.vals.length ≤ 1048576) (W : World) (hx : SlAt 2 CompAt W ax x.comps) (hy : SlAt 2 CompAt W ay y.comps) :
    Calls Try.prog 73 #[.agg #[.int .i64 x.n, .int .i64 x.gen, .slice ax n cx], .agg #[.int .i64 y.n, .int .i64 y.gen, .slice ay m cy]] W fun e w' => e = .returned (.bool (decide (x = y))) ∧ Below W.heap.size W w' := by
  obtain ⟨p, g, l⟩ := x
  obtain ⟨q, f, k⟩ := y
  simp only at hn hm hx hy hvl hvk ⊢
  obtain ⟨R, hR⟩ : ∃ R, R = decide ((⟨p, g, l⟩ : ItemV) = ⟨q, f, k⟩) := ⟨_, rfl⟩
  rw [← hR]
  have hb0 := ((Below.refl W.heap.size W).alloc (Nat.le_refl _) (.cells #[.int .i64 p, .int .i64 g, .slice ax n cx] 72)).alloc (by simp) (.cells #[.int .i64 q, .int .i64 f, .slice ay m cy] 72)
  have HC := Lib.hid (same_comps_w l k ax ay n m cx cy hn hm h1 h2 hvl hvk _ (hx.below CompAt.abides hb0) (hy.below CompAt.abides hb0))
  have HB0 := Lib.hid hb0
  have HR := Lib.hid hR
  have he := eqEnt p g q f
  obtain ⟨S, hS⟩ : ∃ S, S = (decide (p = q) && decide (g = f)) := ⟨_, rfl⟩
  rw [← hS] at he
  have HS := Lib.hid hS
  clear hn hm hx hy hR hvl hvk hb0 hS
  obtain ⟨T, hT⟩ : ∃ T, T = decide (l = k) := ⟨_, rfl⟩
  rw [← hT] at HC
  have HT := Lib.hid hT
  clear hT
  cases S with
  | true =>
    have HRS := Lib.hid (show R = T by
      have h := HS.out
      have h' : decide (p = q) = true ∧ decide (g = f) = true := by rw [← Bool.and_eq_true]; exact h.symm
      rw [HR.out, HT.out, of_decide_eq_true h'.1, of_decide_eq_true h'.2]; simp)
    go_enter Try.func73, Try.ntmps73
    go_wp2_with fail
    refine HC.out.mono ?_
    rintro e w1 ⟨rfl, hb1⟩
    have HB1 := Lib.hid (HB0.out.trans (hb1.mono (by simp; omega)))
    clear hb1
    go_wp2_with fail
    go_ret
    exact ⟨by rw [HRS.out]; rfl, HB1.out⟩
  | false =>
    have HF := Lib.hid (show R = false by
      rw [HR.out, decide_eq_false_iff_not]
      rintro h
      injection h with h1 h2 h3
      have h := HS.out
      rw [h1, h2] at h
      simp at h)
    go_enter Try.func73, Try.ntmps73
    go_wp2_with fail
    go_ret
    exact ⟨by rw [HF.out]; rfl, HB0.out⟩
theorem eqf_items_ne {l k : List ItemV} {n : Nat} (hl : l.length = n) (hk : k.length = n) (i : Nat) (hi : i < n) (h : l[i]'(by omega) ≠ k[i]'(by omega)) : decide (l = k) = false := by
  rw [decide_eq_false_iff_not]; rintro rfl; exact h rfl
theorem eqf_items_eq {l k : List ItemV} {n : Nat} (hl : l.length = n) (hk : k.length = n) (h : ∀ i (hi : i < n), l[i]'(by omega) = k[i]'(by omega)) : decide (l = k) = true := by
  rw [decide_eq_true_iff]; exact List.ext_getElem (by omega) (fun i h1 h2 => h i (by omega))
set_option maxHeartbeats 4000000 in
theorem eqf_items_w (l k : List ItemV) (a b : Option Addr) (n m ca cb : Nat) (hn : l.length = n) (hm : k.length = m) (h1 : n ≤ 1048576) (h2 : m ≤ 1048576) (hvl : ∀ z ∈ l, z.comps.length ≤ 1048576 ∧ ∀ c ∈ z.comps, c.vals.length ≤ 1048576) (hvk : ∀ z ∈ k, z.comps.length ≤ 1048576 ∧ ∀ c ∈ z.comps, c.vals.length ≤ 1048576) (W : World) (hz : SlAt 3 ItemAt W a l) (hy : SlAt 3 ItemAt W b k) :
    Calls Try.prog 72 #[.slice a n ca, .slice b m cb, .func (.func 73) #[] #[]] W fun e w' => e = .returned (.bool (decide (l = k))) ∧ Below W.heap.size W w' := by
  obtain ⟨R, hR⟩ : ∃ R, R = decide (l = k) := ⟨_, rfl⟩
  rw [← hR]
  have HR := Lib.hid hR
  have HN := Lib.hid hn
  have HM := Lib.hid hm
  have HZ := Lib.hid hz
  have HY := Lib.hid hy
  have HVL := Lib.hid hvl
  have HVK := Lib.hid hvk
  clear hR hn hm hz hy hvl hvk
  by_cases hnm : n = m
  · subst hnm
    have t0 : ((n : Int) != (n : Int)) = false := by simp
    go_enter Try.func72, Try.ntmps72
    go_wp2_with fail
    go_loopg [7, 8, 9, 17] n (fun gk v7 v8 v9 vi wx => ∃ i : Nat, i ≤ n ∧ gk = n - i ∧ vi = .int .i64 i ∧ (∀ j (h : j < n), j < i → l[j]'(by rw [HN.out]; exact h) = k[j]'(by rw [HM.out]; exact h)) ∧ Below W.heap.size W wx)
    case atStart => exact ⟨0, Nat.zero_le _, rfl, rfl, fun j h h2 => absurd h2 (by omega), Below.refl _ _⟩
    case round =>
      obtain ⟨i, hi, g2, rfl, hat, hb⟩ := hrel
      have G2 := Lib.hid g2
      have HAT := Lib.hid hat
      have HB := Lib.hid hb
      clear g2 hat hb
      by_cases hlt : i < n
      · obtain ⟨x, rfl, hx, hix⟩ := (HZ.out.below ItemAt.abides HB.out) (by rw [HN.out]; omega)
        obtain ⟨y, rfl, hy, hiy⟩ := (HY.out.below ItemAt.abides HB.out) (by rw [HM.out]; omega)
        have kx := hix i (by rw [HN.out]; exact hlt)
        have ky := hiy i (by rw [HM.out]; exact hlt)
        obtain ⟨X, hX⟩ : ∃ X, X = l[i]'(by rw [HN.out]; exact hlt) := ⟨_, rfl⟩
        obtain ⟨Y, hY⟩ : ∃ Y, Y = k[i]'(by rw [HM.out]; exact hlt) := ⟨_, rfl⟩
        rw [← hX] at kx
        rw [← hY] at ky
        have HX := Lib.hid hX
        have HY2 := Lib.hid hY
        clear hix hiy hX hY
        obtain ⟨x0, xg, ax, cx, x1, xi⟩ := kx
        obtain ⟨y0, yg, ay, cy, y1, yi⟩ := ky
        have hv1 := HVL.out X (by rw [HX.out]; exact List.getElem_mem _)
        have hv2 := HVK.out Y (by rw [HY2.out]; exact List.getElem_mem _)
        have hb1 := (Below.refl wr.heap.size wr).alloc (Nat.le_refl _) (.cells #[.int .i64 X.n, .int .i64 X.gen, .slice ax X.comps.length cx] 72)
        have hb2 := hb1.alloc (by simp) (.cells #[.int .i64 Y.n, .int .i64 Y.gen, .slice ay Y.comps.length cy] 72)
        have y2 := cell_abides y0 hb1
        have y3 := cell_abides yg hb1
        have y4 := cell_abides y1 hb1
        obtain ⟨S, hS⟩ : ∃ S, S = decide (X = Y) := ⟨_, rfl⟩
        have HC := Lib.hid (same_item_w X Y ax ay _ _ cx cy rfl rfl hv1.1 hv2.1 hv1.2 hv2.2 _ (xi.below CompAt.abides hb2) (yi.below CompAt.abides hb2))
        rw [← hS] at HC
        have HS := Lib.hid hS
        have HB2 := Lib.hid hb2
        clear hb1 hb2 hS xi yi y0 y1 yg hv1 hv2
        go_wp2_with fail
        refine HC.out.mono ?_
        rintro e w1 ⟨rfl, hb1⟩
        have HB3 := Lib.hid (HB.out.trans ((HB2.out.trans (hb1.mono (by simp; omega))).mono HB.out.size))
        clear hb1 HC
        cases S
        · have HF := Lib.hid (show R = false by rw [HR.out]; exact eqf_items_ne HN.out HM.out i hlt (by rw [← HX.out, ← HY2.out]; exact of_decide_eq_false HS.out.symm))
          go_wp2_with fail
          go_ret
          exact ⟨by rw [HF.out]; rfl, HB3.out⟩
        · have HE := Lib.hid (of_decide_eq_true HS.out.symm)
          go_wp2_with fail
          go_roundg (n - (i + 1))
          case measure => rw [G2.out]; omega
          case rel => exact ⟨i + 1, hlt, rfl, by go_num, fun j h hj => by
            by_cases hji : j < i
            · exact HAT.out j h hji
            · obtain rfl : j = i := by omega
              rw [← HX.out, ← HY2.out]; exact HE.out, HB3.out⟩
      · have hie : i = n := by omega
        have HF := Lib.hid (show R = true by rw [HR.out]; exact eqf_items_eq HN.out HM.out (fun j h => HAT.out j h (by omega)))
        clear hie
        go_wp2_with fail
        go_ret
        exact ⟨by rw [HF.out]; rfl, HB.out⟩
  · have t0 : ((n : Int) != (m : Int)) = true := by rw [bne_iff_ne]; omega
    have HF := Lib.hid (show R = false by rw [HR.out, decide_eq_false_iff_not]; rintro rfl; exact hnm (HN.out.symm.trans HM.out))
    clear hnm
    go_enter Try.func72, Try.ntmps72
    go_wp2_with fail
    go_ret
    exact ⟨by rw [HF.out]; rfl, Below.refl _ _⟩
end Go.Proofs.Ytfckbkhnelgjbaa
end
/- Worlds held against each other: ref SameWorld, world.Same. -/
section
namespace Go.Proofs.Ytfckbkhnelgjbaa
open Go.ChangeShapes Go.WideShapes Go.ChangeAt Go.RowKit Go.Nm Go.Mem
set_option linter.unusedVariables false
def sameB (y z : WorldV) : Bool := eqL keqB y.kinds z.kinds && (decide (y.gens = z.gens) && decide (y.items = z.items))
theorem box2w {w w2 : World} {o1 o2 : Array Value} {t : TypeId} (h : Below ((w.alloc (.cells o1 t)).alloc (.cells o2 t)).heap.size ((w.alloc (.cells o1 t)).alloc (.cells o2 t)) w2) :
    w2.heap[w.heap.size]? = some (.cells o1 t) ∧ w2.heap[w.heap.size + 1]? = some (.cells o2 t) := by
  refine ⟨heap_below (heap_alloc2_old _ _ _) h, heap_below ?_ h⟩
  have := heap_alloc_new (w.alloc (.cells o1 t)) (.cells o2 t)
  rw [World.size_alloc] at this
  exact this
theorem sameB_refl (y : WorldV) : sameB y y = true := by unfold sameB; rw [eqL_refl keqB_refl]; simp
set_option maxHeartbeats 8000000 in
theorem world_Same (y z : WorldV) (u v : Value) (W : World) (hu : WorldIn W u y) (hv : WorldIn W v z) (hs1 : SmallW y) (hs2 : SmallW z) :
    Calls Try.prog 29 #[u, v] W fun e w' => e = .returned (.bool (sameB y z)) ∧ Below W.heap.size W w' := by
  obtain ⟨R, hR⟩ : ∃ R, R = sameB y z := ⟨_, rfl⟩
  rw [← hR]
  have HR := Lib.hid hR
  obtain ⟨ak, ck, ag, cg, ai, ci, rfl, q1, q2, q3, q4, q5⟩ := hu
  obtain ⟨bk, dk, bg, dg, bi, di, rfl, p1, p2, p3, p4, p5⟩ := hv
  have b0 := ((Below.refl W.heap.size W).alloc (Nat.le_refl _) (.cells #[.slice ak y.kinds.length ck, .slice ag y.gens.length cg, .slice ai y.items.length ci] 37)).alloc (by simp) (.cells #[.slice bk z.kinds.length dk, .slice bg z.gens.length dg, .slice bi z.items.length di] 37)
  obtain ⟨nk, hnk⟩ : ∃ n, n = y.kinds.length := ⟨_, rfl⟩
  obtain ⟨ng, hng⟩ : ∃ n, n = y.gens.length := ⟨_, rfl⟩
  obtain ⟨ni, hni⟩ : ∃ n, n = y.items.length := ⟨_, rfl⟩
  obtain ⟨mk, hmk⟩ : ∃ n, n = z.kinds.length := ⟨_, rfl⟩
  obtain ⟨mg, hmg⟩ : ∃ n, n = z.gens.length := ⟨_, rfl⟩
  obtain ⟨mi, hmi⟩ : ∃ n, n = z.items.length := ⟨_, rfl⟩
  rw [← hnk, ← hng, ← hni, ← hmk, ← hmg, ← hmi] at b0
  rw [← hnk, ← hng, ← hni, ← hmk, ← hmg, ← hmi]
  have S1 := hs1
  have S2 := hs2
  obtain ⟨s1, s2, s3, s4⟩ := hs1
  obtain ⟨r1, r2, r3, r4⟩ := hs2
  rw [← hnk] at s1
  rw [← hng] at s2
  rw [← hni] at s3
  rw [← hmk] at r1
  rw [← hmg] at r2
  rw [← hmi] at r3
  have HK := Lib.hid (kind_Sameg y.kinds z.kinds ak bk nk mk ck dk hnk.symm hmk.symm s1 r1)
  have HG := Lib.hid (eq_intsN ag bg cg dg ng mg y.gens z.gens hng.symm hmg.symm (by omega) (by omega))
  have HI := Lib.hid (eqf_items_w y.items z.items ai bi ni mi ci di hni.symm hmi.symm s3 r3 s4 r4)
  obtain ⟨T1, hT1⟩ : ∃ T, T = eqL keqB y.kinds z.kinds := ⟨_, rfl⟩
  obtain ⟨T2, hT2⟩ : ∃ T, T = decide (y.gens = z.gens) := ⟨_, rfl⟩
  obtain ⟨T3, hT3⟩ : ∃ T, T = decide (y.items = z.items) := ⟨_, rfl⟩
  rw [← hT1] at HK
  rw [← hT2] at HG
  rw [← hT3] at HI
  have HRT := Lib.hid (show R = (T1 && (T2 && T3)) by rw [hR]; unfold sameB; rw [hT1, hT2, hT3])
  have HB0 := Lib.hid b0
  have Q1 := Lib.hid q1
  have Q2 := Lib.hid q2
  have Q3 := Lib.hid q3
  have P1 := Lib.hid p1
  have P2 := Lib.hid p2
  have P3 := Lib.hid p3
  clear hR HR hnk hng hni hmk hmg hmi s4 r4 S1 S2 hT1 hT2 hT3 b0 q1 q2 q3 p1 p2 p3
  go_enter Try.func29, Try.ntmps29
  go_wp2_with fail
  refine (HK.out _ (Q1.out.below KindAt.abides HB0.out) (P1.out.below KindAt.abides HB0.out)).mono ?_
  rintro e w1 ⟨rfl, hb1⟩
  have HB1 := Lib.hid (HB0.out.trans (hb1.mono HB0.out.size))
  cases T1 with
  | false =>
    have HF := Lib.hid (show R = false by rw [HRT.out]; rfl)
    clear hb1
    go_wp2_with fail
    go_ret
    exact ⟨by rw [HF.out]; rfl, HB1.out⟩
  | true =>
    obtain ⟨row1, row2⟩ := box2w hb1
    have xa : w1.cell? ⟨W.heap.size, 1, none⟩ = some (.slice ag ng cg) := by rw [cell_of_row _ _ 1 _ _ _ row1]; rfl
    have xb : w1.cell? ⟨W.heap.size + 1, 1, none⟩ = some (.slice bg mg dg) := by rw [cell_of_row _ _ 1 _ _ _ row2]; rfl
    clear row1 row2
    go_wp2_with fail
    refine (HG.out _ (Q2.out.below HB1.out) (P2.out.below HB1.out)).mono ?_
    rintro e w2 ⟨rfl, hb2⟩
    have HB2 := Lib.hid (HB1.out.trans (hb2.mono HB1.out.size))
    cases T2 with
    | false =>
      have HF := Lib.hid (show R = false by rw [HRT.out]; rfl)
      clear hb1 hb2
      go_wp2_with fail
      go_ret
      exact ⟨by rw [HF.out]; rfl, HB2.out⟩
    | true =>
      have HF := Lib.hid (show R = T3 by rw [HRT.out]; rfl)
      obtain ⟨row1, row2⟩ := box2w (hb1.trans (hb2.mono hb1.size))
      have xa : w2.cell? ⟨W.heap.size, 2, none⟩ = some (.slice ai ni ci) := by rw [cell_of_row _ _ 2 _ _ _ row1]; rfl
      have xb : w2.cell? ⟨W.heap.size + 1, 2, none⟩ = some (.slice bi mi di) := by rw [cell_of_row _ _ 2 _ _ _ row2]; rfl
      clear row1 row2
      go_wp2_with fail
      refine (HI.out _ (Q3.out.below ItemAt.abides HB2.out) (P3.out.below ItemAt.abides HB2.out)).mono ?_
      rintro e w3 ⟨rfl, hb3⟩
      have HB3 := Lib.hid (HB2.out.trans (hb3.mono HB2.out.size))
      clear hb1 hb2 hb3
      go_wp2_with fail
      go_ret
      exact ⟨by rw [HF.out]; rfl, HB3.out⟩
end Go.Proofs.Ytfckbkhnelgjbaa
end
/- Maps of the call's own, told as functions of natural keys: map[int][]int (MapI), map[int]map[int][]int (MapO). -/
section
namespace Go.Proofs.Ytfckbkhnelgjbaa
open Go.ChangeShapes Go.WideShapes Go.ChangeAt Go.RowKit Go.Nm Go.Mem Go.Maps
set_option linter.unusedVariables false
theorem keyInt : Keyed Try.prog 3 := int_keyed Try.underlying3
theorem zeroRow (w : World) : (zeroValue 34).run Try.prog w = .ok (.slice none 0 0) w := by kernel_rfl
abbrev RV (v : Value) : Option (DataW Value × List MemPlace) := some (.held v, [])
abbrev OwnV (w : World) (M n : Nat) (D : DataW Value) : Prop := w.ownsMap Try.prog 3 RV M n D
abbrev keyN (i : Nat) : Lit := .int .i64 (i : Int)
theorem keyN_ne {i j : Nat} (h : i ≠ j) : keyN i ≠ keyN j := by
  intro e
  injection e with _ e
  omega
theorem keyN_of {i : Nat} (h : i ≤ 9223372036854775807) : keyOf Try.prog 3 (.int .i64 (i : Int)) = some (keyN i) := keyOf_int_mk Try.underlying3 (by simp [Lit.wf, IntKind.min, IntKind.max, IntKind.bits, IntKind.signed]; omega)
theorem below_gn {w w' : World} (h : Below w.heap.size w w') (row : Option Nat) : w.grownBy w' row := ⟨h.os, h.tape, h.output, h.size, fun k hk _ => h.block k hk⟩
theorem own_block {w : World} {b n : Nat} {D : DataW Value} (h : OwnV w b n D) : ∃ es c, w.heap[b]? = some (.map es c) := by
  obtain ⟨es, c, h, _⟩ := h
  exact ⟨es, c, h⟩
theorem own_nocell {w : World} {b n : Nat} {D : DataW Value} (h : OwnV w b n D) (q : Nat) (s) : w.cell? ⟨b, q, s⟩ = none := by
  obtain ⟨es, c, h⟩ := own_block h
  simp [World.cell?, h]
theorem ints_own {w w' : World} {a : Option Addr} {L : List Int} {b n : Nat} {D : DataW Value} (h : IntsAt .i64 w a L) (hm : OwnV w b n D) (hg : w.grownBy w' (some b)) : IntsAt .i64 w' a L := by
  intro hn
  obtain ⟨x, rfl, hx, hc⟩ := h hn
  have hne : x.block ≠ b := by
    intro e
    have h0 := hc 0 hn
    obtain ⟨xb, xo, xs⟩ := x
    simp only at e
    subst e
    unfold Addr.add at h0
    split at h0
    · rw [own_nocell hm] at h0
      cases h0
    · rw [own_nocell hm] at h0
      cases h0
  refine ⟨x, rfl, Nat.lt_of_lt_of_le hx hg.size, fun i hi => ?_⟩
  rw [World.cell?_of_block (w := w) (hg.block _ (by rw [block_of_add]; exact hx) (fun e => hne (by rw [block_of_add] at e; injection e)))]
  exact hc i hi
abbrev Part := Nat → Option (List Int)
def updF {α : Type} (F : Nat → Option α) (k : Nat) (v : α) : Nat → Option α := fun i => if i = k then some v else F i
theorem updF_same {α : Type} (F : Nat → Option α) (k : Nat) (v : α) : updF F k v k = some v := if_pos rfl
theorem updF_other {α : Type} (F : Nat → Option α) {k i : Nat} (v : α) (h : i ≠ k) : updF F k v i = F i := if_neg h
/-- ints that lie in the blocks from lo on -/
structure IntsU (lo : Nat) (w : World) (a : Option Addr) (L : List Int) : Prop where
  ints : IntsAt .i64 w a L
  lo : ∀ x, a = some x → lo ≤ x.block
theorem IntsU.below {lo : Nat} {w w' : World} {a : Option Addr} {L : List Int} (h : IntsU lo w a L) (hb : Below w.heap.size w w') : IntsU lo w' a L := ⟨h.ints.below hb, h.lo⟩
theorem IntsU.own {lo : Nat} {w w' : World} {a : Option Addr} {L : List Int} {b n : Nat} {D : DataW Value} (h : IntsU lo w a L) (hm : OwnV w b n D) (hg : w.grownBy w' (some b)) : IntsU lo w' a L := ⟨ints_own h.ints hm hg, h.lo⟩
def MapI (w : World) (b n : Nat) (F : Part) : Prop := ∃ D, OwnV w b n D ∧ ∀ i : Nat, Maps.has D (keyN i) = (F i).isSome ∧ ∀ L, F i = some L → ∃ a c, D.atKey (keyN i) (.held (.slice none 0 0)) = .held (.slice a L.length c) ∧ IntsU b w a L
theorem MapI.lt {w : World} {b n : Nat} {F : Part} (h : MapI w b n F) : b < w.heap.size := by
  obtain ⟨D, h, _⟩ := h
  exact World.ownsMap.lt h
theorem MapI.new (w : World) : MapI (w.alloc (.map #[] 0)) w.heap.size 0 (fun _ => none) := ⟨_, World.ownsMap_made w Try.prog 3 RV, fun i => ⟨rfl, fun L h => by cases h⟩⟩
theorem MapI.below {w w' : World} {b n : Nat} {F : Part} (h : MapI w b n F) (hb : Below w.heap.size w w') : MapI w' b n F := by
  obtain ⟨D, h, hF⟩ := h
  refine ⟨D, h.kept (row := none) (below_gn hb _) (by simp), fun i => ⟨(hF i).1, fun L hL => ?_⟩⟩
  obtain ⟨a, c, h1, h2⟩ := (hF i).2 L hL
  exact ⟨a, c, h1, h2.below hb⟩
/-- another map is written -/
theorem MapI.beside {w w' : World} {b n b2 n2 : Nat} {F : Part} {D2 : DataW Value} (h : MapI w b n F) (h2 : OwnV w b2 n2 D2) (hne : b ≠ b2) (hg : w.grownBy w' (some b2)) : MapI w' b n F := by
  obtain ⟨D, h, hF⟩ := h
  refine ⟨D, h.kept hg (fun e => hne (by injection e)), fun i => ⟨(hF i).1, fun L hL => ?_⟩⟩
  obtain ⟨a, c, h3, h4⟩ := (hF i).2 L hL
  exact ⟨a, c, h3, h4.own h2 hg⟩
theorem MapI.put {w w' : World} {b n : Nat} {F : Part} {D : DataW Value} (hD : OwnV w b n D) (hF : ∀ i : Nat, Maps.has D (keyN i) = (F i).isSome ∧ ∀ L, F i = some L → ∃ a c, D.atKey (keyN i) (.held (.slice none 0 0)) = .held (.slice a L.length c) ∧ IntsU b w a L)
    (k : Nat) (L : List Int) (a : Option Addr) (c : Nat) (hL : IntsU b w a L) (h' : OwnV w' b (n + 1) (D.put (keyN k) (.held (.slice a L.length c)))) (hg : w.grownBy w' (some b)) : MapI w' b (n + 1) (updF F k L) := by
  refine ⟨_, h', fun i => ?_⟩
  by_cases e : i = k
  · subst e
    refine ⟨?_, fun L' hL' => ?_⟩
    · rw [updF_same, Maps.has_put_same (World.ownsMap.isMap hD) (show WideAt.IsKeyLit (keyN i) from trivial)]; rfl
    · rw [updF_same] at hL'
      injection hL' with hL'
      subst hL'
      exact ⟨a, c, Maps.atKey_put_same (World.ownsMap.isMap hD) (show WideAt.IsKeyLit (keyN i) from trivial) _ _, hL.own hD hg⟩
  · refine ⟨?_, fun L' hL' => ?_⟩
    · rw [updF_other F L e, Maps.has_put_other (keyN_ne e)]; exact (hF i).1
    · rw [updF_other F L e] at hL'
      obtain ⟨a2, c2, h1, h2⟩ := (hF i).2 L' hL'
      exact ⟨a2, c2, by rw [Maps.atKey_put_other (keyN_ne e)]; exact h1, h2.own hD hg⟩
def MapO (w : World) (base b n : Nat) (G : Nat → Option Part) : Prop := ∃ (D : DataW Value) (B : Nat → Nat), OwnV w b n D ∧ ∀ i : Nat, Maps.has D (keyN i) = (G i).isSome ∧ (G i = none → D.atKey (keyN i) (.held (.map none)) = .held (.map none)) ∧ ∀ F, G i = some F → D.atKey (keyN i) (.held (.map none)) = .held (.map (some (B i))) ∧ base ≤ B i ∧ B i ≠ b ∧ (∃ m, MapI w (B i) m F) ∧ ∀ j, (G j).isSome = true → B j = B i → j = i
theorem MapO.lt {w : World} {base b n : Nat} {G : Nat → Option Part} (h : MapO w base b n G) : b < w.heap.size := by
  obtain ⟨D, B, h, _⟩ := h
  exact World.ownsMap.lt h
theorem MapO.new (w : World) (base : Nat) : MapO (w.alloc (.map #[] 0)) base w.heap.size 0 (fun _ => none) := ⟨_, fun _ => 0, World.ownsMap_made w Try.prog 3 RV, fun i => ⟨rfl, fun _ => rfl, fun L h => by cases h⟩⟩
theorem MapO.below {w w' : World} {base b n : Nat} {G : Nat → Option Part} (h : MapO w base b n G) (hb : Below w.heap.size w w') : MapO w' base b n G := by
  obtain ⟨D, B, h, hG⟩ := h
  refine ⟨D, B, h.kept (row := none) (below_gn hb _) (by simp), fun i => ⟨(hG i).1, (hG i).2.1, fun F hF => ?_⟩⟩
  obtain ⟨h1, h0, h2, ⟨m, h3⟩, h4⟩ := (hG i).2.2 F hF
  exact ⟨h1, h0, h2, ⟨m, h3.below hb⟩, h4⟩
theorem MapO.put {w w' : World} {base b n : Nat} {G : Nat → Option Part} {D : DataW Value} {B : Nat → Nat} (hD : OwnV w b n D) (hG : ∀ i : Nat, Maps.has D (keyN i) = (G i).isSome ∧ (G i = none → D.atKey (keyN i) (.held (.map none)) = .held (.map none)) ∧ ∀ F, G i = some F → D.atKey (keyN i) (.held (.map none)) = .held (.map (some (B i))) ∧ base ≤ B i ∧ B i ≠ b ∧ (∃ m, MapI w (B i) m F) ∧ ∀ j, (G j).isSome = true → B j = B i → j = i)
    (k : Nat) (F : Part) (bi m : Nat) (hF : MapI w bi m F) (hbb : base ≤ bi) (hbi : bi ≠ b) (hfr : ∀ j F', G j = some F' → B j ≠ bi) (h' : OwnV w' b (n + 1) (D.put (keyN k) (.held (.map (some bi))))) (hg : w.grownBy w' (some b)) : MapO w' base b (n + 1) (updF G k F) := by
  refine ⟨_, fun i => if i = k then bi else B i, h', fun i => ?_⟩
  by_cases e : i = k
  · subst e
    refine ⟨?_, ?_, fun F' hF' => ?_⟩
    · rw [updF_same, Maps.has_put_same (World.ownsMap.isMap hD) (show WideAt.IsKeyLit (keyN i) from trivial)]; rfl
    · rw [updF_same]; intro h; cases h
    · rw [updF_same] at hF'
      injection hF' with hF'
      subst hF'
      simp only [if_pos]
      refine ⟨Maps.atKey_put_same (World.ownsMap.isMap hD) (show WideAt.IsKeyLit (keyN i) from trivial) _ _, hbb, hbi, ⟨m, hF.beside hD hbi hg⟩, fun j hj hB => ?_⟩
      by_cases ej : j = i
      · exact ej
      · rw [updF_other G F ej] at hj
        rw [if_neg ej] at hB
        obtain ⟨F2, hF2⟩ := Option.isSome_iff_exists.1 hj
        exact absurd hB (hfr j F2 hF2)
  · refine ⟨?_, ?_, fun F' hF' => ?_⟩
    · rw [updF_other G F e, Maps.has_put_other (keyN_ne e)]; exact (hG i).1
    · rw [updF_other G F e, Maps.atKey_put_other (keyN_ne e)]; exact (hG i).2.1
    · rw [updF_other G F e] at hF'
      obtain ⟨h1, h0, h2, ⟨m2, h3⟩, h4⟩ := (hG i).2.2 F' hF'
      simp only [if_neg e]
      refine ⟨by rw [Maps.atKey_put_other (keyN_ne e)]; exact h1, h0, h2, ⟨m2, h3.beside hD h2 hg⟩, fun j hj hB => ?_⟩
      by_cases ej : j = k
      · subst ej
        rw [if_pos rfl] at hB
        exact absurd hB.symm (hfr i F' hF')
      · rw [updF_other G F ej] at hj
        rw [if_neg ej] at hB
        exact h4 j hj hB
end Go.Proofs.Ytfckbkhnelgjbaa
end
