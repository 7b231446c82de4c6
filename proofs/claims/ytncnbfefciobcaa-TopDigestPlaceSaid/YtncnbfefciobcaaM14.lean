/- Lemmas for the law TopDigestPlace: WEq, KindOne, KindCheck, KindErr, HighW. No conditions. -/
import Derived.Test.YtncnbfefciobcaaM07
import Derived.Test.YtncnbfefciobcaaM13
import Derived.Deep.LoopGhost
import Derived.BigQuiet
import Derived.Deep.QuietTactic
import Derived.Shelf.Abstract
import Derived.Test.YtncnbfefciobcaaM06
import Derived.Deep.RegionHeld3
import Derived.Test.YtncnbfefciobcaaM03
import Derived.Test.YtncnbfefciobcaaM09
import Derived.Deep.DeepMust
import Derived.Lib.MinMax
import Derived.Test.YtncnbfefciobcaaM01
import Derived.Test.YtncnbfefciobcaaM02
/- Components and items held against each other, by the reference and by the program. -/
section
namespace Go.Proofs.Ytncnbfefciobcaa
open Go.ChangeShapes Go.WideShapes Go.ChangeAt Go.RowKit Go.Mem
set_option linter.unusedVariables false
theorem eq_intsN (a b : Option Addr) (ca cb n m : Nat) (zs ys : List Int) (hn : zs.length = n) (hm : ys.length = m) (h1 : n ≤ 9223372036854775807) (h2 : m ≤ 9223372036854775807) (w : World) (ha : IntsAt .i64 w a zs) (hb : IntsAt .i64 w b ys) :
    Calls Try.prog 34 #[.slice a n ca, .slice b m cb] w fun e w' => e = .returned (.bool (decide (zs = ys))) ∧ Below w.heap.size w w' := by
  subst hn hm
  exact eq_ints a b ca cb zs ys h1 h2 w ha hb
theorem eqf_comps_ne {l k : List CompV} {n : Nat} (hl : l.length = n) (hk : k.length = n) (i : Nat) (hi : i < n) (h : l[i]'(by omega) ≠ k[i]'(by omega)) : decide (l = k) = false := by
  rw [decide_eq_false_iff_not]; rintro rfl; exact h rfl
theorem eqf_comps_eq {l k : List CompV} {n : Nat} (hl : l.length = n) (hk : k.length = n) (h : ∀ i (hi : i < n), l[i]'(by omega) = k[i]'(by omega)) : decide (l = k) = true := by
  rw [decide_eq_true_iff]; exact List.ext_getElem (by omega) (fun i h1 h2 => h i (by omega))
set_option maxHeartbeats 4000000 in
theorem same_comp_w (x y : CompV) (ax ay : Option Addr) (n m cx cy : Nat) (hn : x.vals.length = n) (hm : y.vals.length = m) (h1 : n ≤ 1048576) (h2 : m ≤ 1048576) (W : World) (hx : IntsAt .i64 W ax x.vals) (hy : IntsAt .i64 W ay y.vals) :
    Calls Try.prog 50 #[.agg #[.int .i64 x.kind, .slice ax n cx], .agg #[.int .i64 y.kind, .slice ay m cy]] W fun e w' => e = .returned (.bool (decide (x = y))) ∧ Below W.heap.size W w' := by
  obtain ⟨p, l⟩ := x
  obtain ⟨q, k⟩ := y
  simp only at hn hm hx hy ⊢
  obtain ⟨R, hR⟩ : ∃ R, R = decide ((⟨p, l⟩ : CompV) = ⟨q, k⟩) := ⟨_, rfl⟩
  rw [← hR]
  have HC := Lib.hid (eq_intsN ax ay cx cy n m l k hn hm (by omega) (by omega))
  have HX := Lib.hid hx
  have HY := Lib.hid hy
  have HR := Lib.hid hR
  clear hn hm hx hy hR
  by_cases hk : p = q
  · have t1 : (p == q) = true := by rw [hk]; exact beq_self_eq_true q
    have hb0 := ((Below.refl W.heap.size W).alloc (Nat.le_refl _) (.cells #[.int .i64 p, .slice ax n cx] 59)).alloc (by simp) (.cells #[.int .i64 q, .slice ay m cy] 59)
    have HB0 := Lib.hid hb0
    clear hb0
    obtain ⟨S, hS⟩ : ∃ S, S = decide (l = k) := ⟨_, rfl⟩
    rw [← hS] at HC
    have HRS := Lib.hid (show R = S by rw [HR.out, hS, hk]; simp)
    clear hS hk
    go_enter Try.func50, Try.ntmps50
    go_wp2_with fail
    refine (HC.out _ (HX.out.below HB0.out) (HY.out.below HB0.out)).mono ?_
    rintro e w1 ⟨rfl, hb1⟩
    have HB1 := Lib.hid (HB0.out.trans (hb1.mono (by simp; omega)))
    clear hb1
    go_wp2_with fail
    go_ret
    exact ⟨by rw [HRS.out]; rfl, HB1.out⟩
  · have t1 : (p == q) = false := by rw [beq_eq_false_iff_ne]; exact hk
    have HF := Lib.hid (show R = false by rw [HR.out]; simp [hk])
    clear hk
    go_enter Try.func50, Try.ntmps50
    go_wp2_with fail
    go_ret
    exact ⟨by rw [HF.out]; rfl, ((Below.refl W.heap.size W).alloc (Nat.le_refl _) _).alloc (by simp) _⟩
set_option maxHeartbeats 4000000 in
theorem eqf_comps_w (l k : List CompV) (a b : Option Addr) (n m ca cb : Nat) (hn : l.length = n) (hm : k.length = m) (h1 : n ≤ 1048576) (h2 : m ≤ 1048576) (hvl : ∀ z ∈ l, z.vals.length ≤ 1048576) (hvk : ∀ z ∈ k, z.vals.length ≤ 1048576) (W : World) (hz : SlAt 2 CompAt W a l) (hy : SlAt 2 CompAt W b k) :
    Calls Try.prog 49 #[.slice a n ca, .slice b m cb, .func (.func 50) #[] #[]] W fun e w' => e = .returned (.bool (decide (l = k))) ∧ Below W.heap.size W w' := by
  obtain ⟨R, hR⟩ : ∃ R, R = decide (l = k) := ⟨_, rfl⟩
  rw [← hR]
  have HR := Lib.hid hR
  have HN := Lib.hid hn
  have HM := Lib.hid hm
  have HZ := Lib.hid hz
  have HY := Lib.hid hy
  have HVL := Lib.hid hvl
  have HVK := Lib.hid hvk
  clear hR hn hm hz hy hvl hvk
  by_cases hnm : n = m
  · subst hnm
    have t0 : ((n : Int) != (n : Int)) = false := by simp
    go_enter Try.func49, Try.ntmps49
    go_wp2_with fail
    go_loopg [7, 8, 9, 17] n (fun gk v7 v8 v9 vi wx => ∃ i : Nat, i ≤ n ∧ gk = n - i ∧ vi = .int .i64 i ∧ (∀ j (h : j < n), j < i → l[j]'(by rw [HN.out]; exact h) = k[j]'(by rw [HM.out]; exact h)) ∧ Below W.heap.size W wx)
    case atStart => exact ⟨0, Nat.zero_le _, rfl, rfl, fun j h h2 => absurd h2 (by omega), Below.refl _ _⟩
    case round =>
      obtain ⟨i, hi, g2, rfl, hat, hb⟩ := hrel
      have G2 := Lib.hid g2
      have HAT := Lib.hid hat
      have HB := Lib.hid hb
      clear g2 hat hb
      by_cases hlt : i < n
      · obtain ⟨x, rfl, hx, hix⟩ := (HZ.out.below CompAt.abides HB.out) (by rw [HN.out]; omega)
        obtain ⟨y, rfl, hy, hiy⟩ := (HY.out.below CompAt.abides HB.out) (by rw [HM.out]; omega)
        have kx := hix i (by rw [HN.out]; exact hlt)
        have ky := hiy i (by rw [HM.out]; exact hlt)
        obtain ⟨X, hX⟩ : ∃ X, X = l[i]'(by rw [HN.out]; exact hlt) := ⟨_, rfl⟩
        obtain ⟨Y, hY⟩ : ∃ Y, Y = k[i]'(by rw [HM.out]; exact hlt) := ⟨_, rfl⟩
        rw [← hX] at kx
        rw [← hY] at ky
        have HX := Lib.hid hX
        have HY2 := Lib.hid hY
        clear hix hiy hX hY
        obtain ⟨x0, ax, cx, x1, xi⟩ := kx
        obtain ⟨y0, ay, cy, y1, yi⟩ := ky
        have hv1 : X.vals.length ≤ 1048576 := HVL.out X (by rw [HX.out]; exact List.getElem_mem _)
        have hv2 : Y.vals.length ≤ 1048576 := HVK.out Y (by rw [HY2.out]; exact List.getElem_mem _)
        have hb1 := (Below.refl wr.heap.size wr).alloc (Nat.le_refl _) (.cells #[.int .i64 X.kind, .slice ax X.vals.length cx] 59)
        have hb2 := hb1.alloc (by simp) (.cells #[.int .i64 Y.kind, .slice ay Y.vals.length cy] 59)
        have y2 := cell_abides y0 hb1
        have y3 := cell_abides y1 hb1
        obtain ⟨S, hS⟩ : ∃ S, S = decide (X = Y) := ⟨_, rfl⟩
        have HC := Lib.hid (same_comp_w X Y ax ay _ _ cx cy rfl rfl hv1 hv2 _ (xi.below hb2) (yi.below hb2))
        rw [← hS] at HC
        have HS := Lib.hid hS
        have HB2 := Lib.hid hb2
        clear hb1 hb2 hS xi yi y0 y1 hv1 hv2
        go_wp2_with fail
        refine HC.out.mono ?_
        rintro e w1 ⟨rfl, hb1⟩
        have HB3 := Lib.hid (HB.out.trans ((HB2.out.trans (hb1.mono (by simp; omega))).mono HB.out.size))
        clear hb1 HC
        cases S
        · have HF := Lib.hid (show R = false by rw [HR.out]; exact eqf_comps_ne HN.out HM.out i hlt (by rw [← HX.out, ← HY2.out]; exact of_decide_eq_false HS.out.symm))
          go_wp2_with fail
          go_ret
          exact ⟨by rw [HF.out]; rfl, HB3.out⟩
        · have HE := Lib.hid (of_decide_eq_true HS.out.symm)
          go_wp2_with fail
          go_roundg (n - (i + 1))
          case measure => rw [G2.out]; omega
          case rel => exact ⟨i + 1, hlt, rfl, by go_num, fun j h hj => by
            by_cases hji : j < i
            · exact HAT.out j h hji
            · obtain rfl : j = i := by omega
              rw [← HX.out, ← HY2.out]; exact HE.out, HB3.out⟩
      · have hie : i = n := by omega
        have HF := Lib.hid (show R = true by rw [HR.out]; exact eqf_comps_eq HN.out HM.out (fun j h => HAT.out j h (by omega)))
        clear hie
        go_wp2_with fail
        go_ret
        exact ⟨by rw [HF.out]; rfl, HB.out⟩
  · have t0 : ((n : Int) != (m : Int)) = true := by rw [bne_iff_ne]; omega
    have HF := Lib.hid (show R = false by rw [HR.out, decide_eq_false_iff_not]; rintro rfl; exact hnm (HN.out.symm.trans HM.out))
    clear hnm
    go_enter Try.func49, Try.ntmps49
    go_wp2_with fail
    go_ret
    exact ⟨by rw [HF.out]; rfl, Below.refl _ _⟩
set_option maxHeartbeats 4000000 in
theorem same_comps_w (l k : List CompV) (a b : Option Addr) (n m ca cb : Nat) (hn : l.length = n) (hm : k.length = m) (h1 : n ≤ 1048576) (h2 : m ≤ 1048576) (hvl : ∀ z ∈ l, z.vals.length ≤ 1048576) (hvk : ∀ z ∈ k, z.vals.length ≤ 1048576) (W : World) (hz : SlAt 2 CompAt W a l) (hy : SlAt 2 CompAt W b k) :
    Calls Try.prog 37 #[.slice a n ca, .slice b m cb] W fun e w' => e = .returned (.bool (decide (l = k))) ∧ Below W.heap.size W w' := by
  have HC := Lib.hid (eqf_comps_w l k a b n m ca cb hn hm h1 h2 hvl hvk W hz hy)
  clear hn hm hz hy hvl hvk
  go_enter Try.func37, Try.ntmps37
  go_wp2_with fail
  refine HC.out.mono ?_
  rintro e w1 ⟨rfl, hb1⟩
  go_wp2_with fail
  go_ret
  exact ⟨rfl, hb1⟩
theorem eqEnt (a b c d : Int) (w : World) : (Op.equalIn 10000 55 (.agg #[.int .i64 a, .int .i64 b]) (.agg #[.int .i64 c, .int .i64 d])).run Try.prog w = .ok (decide (a = c) && decide (b = d)) w := by
  have u3 := Try.underlying3
  have a3 := Try.isAgg3
  have z3 := Try.sizeOf3
  rw [show (10000 : Nat) = 9999 + 1 from rfl, Op.equalIn]
  simp only [Sem.run_bind, run_underlying Try.underlying55, Result.andThen_ok]
  go_simp
  by_cases h1 : a = c <;> by_cases h2 : b = d <;> simp [h1, h2]
set_option maxHeartbeats 4000000 in
theorem same_item_w (x y : ItemV) (ax ay : Option Addr) (n m cx cy : Nat) (hn : x.comps.length = n) (hm : y.comps.length = m) (h1 : n ≤ 1048576) (h2 : m ≤ 1048576) (hvl : ∀ z ∈ x.comps, z.vals.length ≤ 1048576) (hvk : ∀ z ∈ y.comps, z.vals.length ≤ 1048576) (W : World) (hx : SlAt 2 CompAt W ax x.comps) (hy : SlAt 2 CompAt W ay y.comps) :
    Calls Try.prog 36 #[.agg #[.int .i64 x.n, .int .i64 x.gen, .slice ax n cx], .agg #[.int .i64 y.n, .int .i64 y.gen, .slice ay m cy]] W fun e w' => e = .returned (.bool (decide (x = y))) ∧ Below W.heap.size W w' := by
  obtain ⟨p, g, l⟩ := x
  obtain ⟨q, f, k⟩ := y
  simp only at hn hm hx hy hvl hvk ⊢
  obtain ⟨R, hR⟩ : ∃ R, R = decide ((⟨p, g, l⟩ : ItemV) = ⟨q, f, k⟩) := ⟨_, rfl⟩
  rw [← hR]
  have hb0 := ((Below.refl W.heap.size W).alloc (Nat.le_refl _) (.cells #[.int .i64 p, .int .i64 g, .slice ax n cx] 70)).alloc (by simp) (.cells #[.int .i64 q, .int .i64 f, .slice ay m cy] 70)
  have HC := Lib.hid (same_comps_w l k ax ay n m cx cy hn hm h1 h2 hvl hvk _ (hx.below CompAt.abides hb0) (hy.below CompAt.abides hb0))
  have HB0 := Lib.hid hb0
  have HR := Lib.hid hR
  have he := eqEnt p g q f
  obtain ⟨S, hS⟩ : ∃ S, S = (decide (p = q) && decide (g = f)) := ⟨_, rfl⟩
  rw [← hS] at he
  have HS := Lib.hid hS
  clear hn hm hx hy hR hvl hvk hb0 hS
  obtain ⟨T, hT⟩ : ∃ T, T = decide (l = k) := ⟨_, rfl⟩
  rw [← hT] at HC
  have HT := Lib.hid hT
  clear hT
  cases S with
  | true =>
    have HRS := Lib.hid (show R = T by
      have h := HS.out
      have h' : decide (p = q) = true ∧ decide (g = f) = true := by rw [← Bool.and_eq_true]; exact h.symm
      rw [HR.out, HT.out, of_decide_eq_true h'.1, of_decide_eq_true h'.2]; simp)
    go_enter Try.func36, Try.ntmps36
    go_wp2_with fail
    refine HC.out.mono ?_
    rintro e w1 ⟨rfl, hb1⟩
    have HB1 := Lib.hid (HB0.out.trans (hb1.mono (by simp; omega)))
    clear hb1
    go_wp2_with fail
    go_ret
    exact ⟨by rw [HRS.out]; rfl, HB1.out⟩
  | false =>
    have HF := Lib.hid (show R = false by
      rw [HR.out, decide_eq_false_iff_not]
      rintro h
      injection h with h1 h2 h3
      have h := HS.out
      rw [h1, h2] at h
      simp at h)
    go_enter Try.func36, Try.ntmps36
    go_wp2_with fail
    go_ret
    exact ⟨by rw [HF.out]; rfl, HB0.out⟩
theorem eqf_items_ne {l k : List ItemV} {n : Nat} (hl : l.length = n) (hk : k.length = n) (i : Nat) (hi : i < n) (h : l[i]'(by omega) ≠ k[i]'(by omega)) : decide (l = k) = false := by
  rw [decide_eq_false_iff_not]; rintro rfl; exact h rfl
theorem eqf_items_eq {l k : List ItemV} {n : Nat} (hl : l.length = n) (hk : k.length = n) (h : ∀ i (hi : i < n), l[i]'(by omega) = k[i]'(by omega)) : decide (l = k) = true := by
  rw [decide_eq_true_iff]; exact List.ext_getElem (by omega) (fun i h1 h2 => h i (by omega))
set_option maxHeartbeats 4000000 in
theorem eqf_items_w (l k : List ItemV) (a b : Option Addr) (n m ca cb : Nat) (hn : l.length = n) (hm : k.length = m) (h1 : n ≤ 1048576) (h2 : m ≤ 1048576) (hvl : ∀ z ∈ l, z.comps.length ≤ 1048576 ∧ ∀ c ∈ z.comps, c.vals.length ≤ 1048576) (hvk : ∀ z ∈ k, z.comps.length ≤ 1048576 ∧ ∀ c ∈ z.comps, c.vals.length ≤ 1048576) (W : World) (hz : SlAt 3 ItemAt W a l) (hy : SlAt 3 ItemAt W b k) :
    Calls Try.prog 35 #[.slice a n ca, .slice b m cb, .func (.func 36) #[] #[]] W fun e w' => e = .returned (.bool (decide (l = k))) ∧ Below W.heap.size W w' := by
  obtain ⟨R, hR⟩ : ∃ R, R = decide (l = k) := ⟨_, rfl⟩
  rw [← hR]
  have HR := Lib.hid hR
  have HN := Lib.hid hn
  have HM := Lib.hid hm
  have HZ := Lib.hid hz
  have HY := Lib.hid hy
  have HVL := Lib.hid hvl
  have HVK := Lib.hid hvk
  clear hR hn hm hz hy hvl hvk
  by_cases hnm : n = m
  · subst hnm
    have t0 : ((n : Int) != (n : Int)) = false := by simp
    go_enter Try.func35, Try.ntmps35
    go_wp2_with fail
    go_loopg [7, 8, 9, 17] n (fun gk v7 v8 v9 vi wx => ∃ i : Nat, i ≤ n ∧ gk = n - i ∧ vi = .int .i64 i ∧ (∀ j (h : j < n), j < i → l[j]'(by rw [HN.out]; exact h) = k[j]'(by rw [HM.out]; exact h)) ∧ Below W.heap.size W wx)
    case atStart => exact ⟨0, Nat.zero_le _, rfl, rfl, fun j h h2 => absurd h2 (by omega), Below.refl _ _⟩
    case round =>
      obtain ⟨i, hi, g2, rfl, hat, hb⟩ := hrel
      have G2 := Lib.hid g2
      have HAT := Lib.hid hat
      have HB := Lib.hid hb
      clear g2 hat hb
      by_cases hlt : i < n
      · obtain ⟨x, rfl, hx, hix⟩ := (HZ.out.below ItemAt.abides HB.out) (by rw [HN.out]; omega)
        obtain ⟨y, rfl, hy, hiy⟩ := (HY.out.below ItemAt.abides HB.out) (by rw [HM.out]; omega)
        have kx := hix i (by rw [HN.out]; exact hlt)
        have ky := hiy i (by rw [HM.out]; exact hlt)
        obtain ⟨X, hX⟩ : ∃ X, X = l[i]'(by rw [HN.out]; exact hlt) := ⟨_, rfl⟩
        obtain ⟨Y, hY⟩ : ∃ Y, Y = k[i]'(by rw [HM.out]; exact hlt) := ⟨_, rfl⟩
        rw [← hX] at kx
        rw [← hY] at ky
        have HX := Lib.hid hX
        have HY2 := Lib.hid hY
        clear hix hiy hX hY
        obtain ⟨x0, xg, ax, cx, x1, xi⟩ := kx
        obtain ⟨y0, yg, ay, cy, y1, yi⟩ := ky
        have hv1 := HVL.out X (by rw [HX.out]; exact List.getElem_mem _)
        have hv2 := HVK.out Y (by rw [HY2.out]; exact List.getElem_mem _)
        have hb1 := (Below.refl wr.heap.size wr).alloc (Nat.le_refl _) (.cells #[.int .i64 X.n, .int .i64 X.gen, .slice ax X.comps.length cx] 70)
        have hb2 := hb1.alloc (by simp) (.cells #[.int .i64 Y.n, .int .i64 Y.gen, .slice ay Y.comps.length cy] 70)
        have y2 := cell_abides y0 hb1
        have y3 := cell_abides yg hb1
        have y4 := cell_abides y1 hb1
        obtain ⟨S, hS⟩ : ∃ S, S = decide (X = Y) := ⟨_, rfl⟩
        have HC := Lib.hid (same_item_w X Y ax ay _ _ cx cy rfl rfl hv1.1 hv2.1 hv1.2 hv2.2 _ (xi.below CompAt.abides hb2) (yi.below CompAt.abides hb2))
        rw [← hS] at HC
        have HS := Lib.hid hS
        have HB2 := Lib.hid hb2
        clear hb1 hb2 hS xi yi y0 y1 yg hv1 hv2
        go_wp2_with fail
        refine HC.out.mono ?_
        rintro e w1 ⟨rfl, hb1⟩
        have HB3 := Lib.hid (HB.out.trans ((HB2.out.trans (hb1.mono (by simp; omega))).mono HB.out.size))
        clear hb1 HC
        cases S
        · have HF := Lib.hid (show R = false by rw [HR.out]; exact eqf_items_ne HN.out HM.out i hlt (by rw [← HX.out, ← HY2.out]; exact of_decide_eq_false HS.out.symm))
          go_wp2_with fail
          go_ret
          exact ⟨by rw [HF.out]; rfl, HB3.out⟩
        · have HE := Lib.hid (of_decide_eq_true HS.out.symm)
          go_wp2_with fail
          go_roundg (n - (i + 1))
          case measure => rw [G2.out]; omega
          case rel => exact ⟨i + 1, hlt, rfl, by go_num, fun j h hj => by
            by_cases hji : j < i
            · exact HAT.out j h hji
            · obtain rfl : j = i := by omega
              rw [← HX.out, ← HY2.out]; exact HE.out, HB3.out⟩
      · have hie : i = n := by omega
        have HF := Lib.hid (show R = true by rw [HR.out]; exact eqf_items_eq HN.out HM.out (fun j h => HAT.out j h (by omega)))
        clear hie
        go_wp2_with fail
        go_ret
        exact ⟨by rw [HF.out]; rfl, HB.out⟩
  · have t0 : ((n : Int) != (m : Int)) = true := by rw [bne_iff_ne]; omega
    have HF := Lib.hid (show R = false by rw [HR.out, decide_eq_false_iff_not]; rintro rfl; exact hnm (HN.out.symm.trans HM.out))
    clear hnm
    go_enter Try.func35, Try.ntmps35
    go_wp2_with fail
    go_ret
    exact ⟨by rw [HF.out]; rfl, Below.refl _ _⟩
end Go.Proofs.Ytncnbfefciobcaa
end
/- kind.Find, kind.Field; kind.One. -/
section
namespace Go.Proofs.Ytncnbfefciobcaa
open Go.ChangeShapes Go.WideShapes Go.ChangeAt Go.RowKit Go.Nm Go.Mem
set_option linter.unusedVariables false
/-- the first place of a name, or -1 -/
def firstAt (names : List ByteArray) (s : ByteArray) (k : Nat) : Int := match names with
  | [] => -1
  | a :: r => if a.toList == s.toList then (k : Int) else firstAt r s (k + 1)
theorem firstAt_none (names : List ByteArray) (s : ByteArray) (k : Nat) (h : ∀ j (hj : j < names.length), (names[j].toList == s.toList) = false) : firstAt names s k = -1 := by
  induction names generalizing k with
  | nil => rfl
  | cons a r ih =>
    have h0 := h 0 (by simp)
    simp only [List.getElem_cons_zero] at h0
    unfold firstAt
    rw [h0]
    exact ih (k + 1) fun j hj => by have := h (j + 1) (by simp; omega); simpa using this
theorem firstAt_some (names : List ByteArray) (s : ByteArray) (k i : Nat) (hi : i < names.length) (h : ∀ j (hj : j < names.length), j < i → (names[j].toList == s.toList) = false) (h1 : (names[i].toList == s.toList) = true) : firstAt names s k = ((k + i : Nat) : Int) := by
  induction names generalizing k i with
  | nil => exact absurd hi (by simp)
  | cons a r ih =>
    unfold firstAt
    rcases i with _ | i
    · simp only [List.getElem_cons_zero] at h1
      rw [h1]; rfl
    · have h0 := h 0 (by simp) (by omega)
      simp only [List.getElem_cons_zero] at h0
      rw [h0]
      have := ih (k + 1) i (by simpa using hi) (fun j hj hji => by have := h (j + 1) (by simp; omega) (by omega); simpa using this) (by simpa using h1)
      rw [show (k + (i + 1)) = k + 1 + i by omega]
      exact this
set_option maxHeartbeats 4000000 in
theorem kind_Find (l : List KindV) (a : Option Addr) (n cap : Nat) (s : ByteArray) (hn : l.length = n) (h1 : n ≤ 17592186044000) (W : World) (hz : SlAt 2 KindAt W a l) :
    Calls Try.prog 47 #[.slice a n cap, .string s] W fun e w' => e = .returned (.int .i64 (firstAt (l.map (·.name)) s 0)) ∧ Below W.heap.size W w' := by
  obtain ⟨R, hR⟩ : ∃ R, R = firstAt (l.map (·.name)) s 0 := ⟨_, rfl⟩
  rw [← hR]
  have HR := Lib.hid hR
  have HN := Lib.hid hn
  have HZ := Lib.hid hz
  clear hR hn hz
  go_enter Try.func47, Try.ntmps47
  go_wp2_with fail
  go_loopg [5, 6, 9] n (fun gk v5 v6 vi wx => ∃ i : Nat, i ≤ n ∧ gk = n - i ∧ vi = .int .i64 i ∧ (∀ j (h : j < l.length), j < i → (l[j].name.toList == s.toList) = false) ∧ Below W.heap.size W wx)
  case atStart => exact ⟨0, Nat.zero_le _, rfl, rfl, fun j h h2 => absurd h2 (by omega), Below.refl _ _⟩
  case round =>
    obtain ⟨i, hi, g2, rfl, hat, hb⟩ := hrel
    have G2 := Lib.hid g2
    have HAT := Lib.hid hat
    have HB := Lib.hid hb
    have hbs := hb.size
    clear g2 hat hb
    by_cases hlt : i < n
    · obtain ⟨x, rfl, hx, hix⟩ := (HZ.out.below KindAt.abides HB.out) (by rw [HN.out]; omega)
      obtain ⟨k0, k1, ay, cy, k2, k3, k4, _⟩ := hix i (by rw [HN.out]; exact hlt)
      obtain ⟨y, hy⟩ : ∃ y, y = l[i]'(by rw [HN.out]; exact hlt) := ⟨_, rfl⟩
      rw [← hy] at k0 k1 k2 k3
      have HY := Lib.hid hy
      have HB2 := Lib.hid (HB.out.alloc hbs (.cells #[.string y.name, .slice ay y.fields.length cy] 53))
      clear hix hy
      by_cases he : (y.name.toList == s.toList) = true
      · have HF := Lib.hid (show R = (i : Int) by
          rw [HR.out]
          have := firstAt_some (l.map (·.name)) s 0 i (by rw [List.length_map, HN.out]; exact hlt) (fun j hj hji => by simpa using HAT.out j (by simpa using hj) hji) (by rw [List.getElem_map, ← HY.out]; exact he)
          rw [this]; simp)
        go_wp2_with fail
        go_ret
        exact ⟨by rw [HF.out]; rfl, HB2.out⟩
      · have he2 : (y.name.toList == s.toList) = false := by simpa using he
        have HE := Lib.hid he2
        clear he
        go_wp2_with fail
        go_roundg (n - (i + 1))
        case measure => rw [G2.out]; omega
        case rel => exact ⟨i + 1, hlt, rfl, by go_num, fun j h hj => by
          by_cases hji : j < i
          · exact HAT.out j h hji
          · obtain rfl : j = i := by omega
            rw [← HY.out]; exact HE.out, HB2.out⟩
    · have HF := Lib.hid (show R = -1 by
        rw [HR.out]
        exact firstAt_none _ _ _ fun j hj => by simpa using HAT.out j (by simpa using hj) (by have h2 : j < l.length := (by simpa using hj); rw [HN.out] at h2; omega))
      go_wp2_with fail
      go_ret
      exact ⟨by rw [HF.out]; rfl, HB.out⟩
theorem dup_none {names : List ByteArray} {i : Nat} (hi : i < names.length) (h : ∀ j (hj : j < i), (names[j].toList == names[i].toList) = false) : dupAt names i = false := by
  unfold dupAt
  rw [Bool.eq_false_iff]
  intro ha
  obtain ⟨s, hs, he⟩ := List.any_eq_true.1 ha
  obtain ⟨j, hj, rfl⟩ := List.mem_iff_getElem.1 hs
  rw [List.length_take] at hj
  rw [List.getElem_take, List.getD_eq_getElem?_getD, List.getElem?_eq_getElem hi] at he
  have := h j (by omega)
  simp only [Option.getD_some] at he
  rw [this] at he
  exact absurd he (by decide)
theorem dup_some {names : List ByteArray} {i j : Nat} (hi : i < names.length) (hj : j < i) (h : (names[j].toList == names[i].toList) = true) : dupAt names i = true := by
  unfold dupAt
  rw [List.any_eq_true]
  refine ⟨names[j], ?_, ?_⟩
  · rw [List.mem_iff_getElem]
    exact ⟨j, by rw [List.length_take]; omega, by rw [List.getElem_take]⟩
  · rw [List.getD_eq_getElem?_getD, List.getElem?_eq_getElem hi]; exact h
theorem getD_at {α : Type} [Inhabited α] (l : List α) (i : Nat) (h : i < l.length) : l.getD i default = l[i] := by
  rw [List.getD_eq_getElem?_getD, List.getElem?_eq_getElem h]; rfl
theorem fld_step (l : List FieldV) (k : Nat) (h0 : fldErr l k = 0) : fldErr l (k + 1) = if okF (l.getD k default) = false then 3 else if dupAt (l.map (·.name)) k = true then 5 else 0 := by
  show (if fldErr l k ≠ 0 then _ else _) = _
  rw [if_neg (by rw [h0]; simp)]
set_option maxHeartbeats 8000000 in
theorem kind_One (k : KindV) (a : Option Addr) (n cap : Nat) (hn : k.fields.length = n) (hnm : k.name.size ≤ 9223372036854775807) (hnc : n ≤ cap) (hcm : cap ≤ 9223372036854775807) (W : World) (hz : SlAt 3 FieldAt W a k.fields) :
    Calls Try.prog 46 #[.agg #[.string k.name, .slice a n cap]] W fun e w' => e = .returned (.int .i64 (kindE k)) ∧ Below W.heap.size W w' := by
  obtain ⟨nm, l⟩ := k
  simp only at hn hnm hz ⊢
  obtain ⟨R, hR⟩ : ∃ R, R = kindE ⟨nm, l⟩ := ⟨_, rfl⟩
  rw [← hR]
  have HR := Lib.hid hR
  have HN := Lib.hid hn
  have HZ := Lib.hid hz
  have HNM := Lib.hid (kind_Name nm hnm)
  have hb0 := (Below.refl W.heap.size W).alloc (Nat.le_refl _) (.cells #[.string nm, .slice a n cap] 53)
  have x0 := heap_alloc_new W (.cells #[.string nm, .slice a n cap] 53)
  have HB0 := Lib.hid hb0
  have HX0 := Lib.hid x0
  clear hR hn hz hnm hb0 x0
  cases hnb : nameB nm.data.toList
  · have HF := Lib.hid (show R = 3 by rw [HR.out]; unfold kindE; rw [if_pos hnb])
    rw [hnb] at HNM
    clear hnb
    go_enter Try.func46, Try.ntmps46
    go_wp2_with fail
    refine (HNM.out _).mono ?_
    rintro e w1 ⟨rfl, rfl⟩
    go_wp2_with fail
    go_ret
    exact ⟨by rw [HF.out]; rfl, HB0.out⟩
  · rw [hnb] at HNM
    by_cases h8 : 8 < n
    · have HF := Lib.hid (show R = 2 by rw [HR.out]; unfold kindE; rw [if_neg (by rw [hnb]; decide), if_pos (by rw [HN.out]; exact h8)])
      clear hnb
      go_enter Try.func46, Try.ntmps46
      go_wp2_with fail
      refine (HNM.out _).mono ?_
      rintro e w1 ⟨rfl, rfl⟩
      go_wp2_with fail
      go_ret
      exact ⟨by rw [HF.out]; rfl, HB0.out⟩
    · have HF := Lib.hid (show R = fldErr l n by rw [HR.out]; unfold kindE; rw [if_neg (by rw [hnb]; decide), if_neg (by rw [HN.out]; exact h8)]; rw [HN.out])
      have h8' : n ≤ 8 := by omega
      clear hnb h8
      go_enter Try.func46, Try.ntmps46
      go_wp2_with fail
      refine (HNM.out _).mono ?_
      rintro e w1 ⟨rfl, rfl⟩
      go_wp2_with fail
      go_loopg [3, 4, 5, 19] n (fun gk v3 v4 v5 vi wx => ∃ i : Nat, i ≤ n ∧ gk = n - i ∧ vi = .int .i64 i ∧ fldErr l i = 0 ∧ wx.heap[W.heap.size]? = some (.cells #[.string nm, .slice a n cap] 53 (0, 0)) ∧ Below W.heap.size W wx)
      case atStart => exact ⟨0, Nat.zero_le _, rfl, rfl, rfl, HX0.out, HB0.out⟩
      case round =>
        obtain ⟨i, hi, g2, rfl, hfe, hx0, hb⟩ := hrel
        have G2 := Lib.hid g2
        have HFE := Lib.hid hfe
        have HX := Lib.hid hx0
        have HB := Lib.hid hb
        have hbs := hb.size
        clear g2 hfe hx0 hb
        obtain ⟨Wo, rfl⟩ : ∃ Wo : World, Wo = wr := ⟨_, rfl⟩
        by_cases hlt : i < n
        · obtain ⟨x, rfl, hx, hix⟩ := (HZ.out.below FieldAt.abides HB.out) (by rw [HN.out]; omega)
          obtain ⟨k0, k1, k2, k3⟩ := hix i (by rw [HN.out]; exact hlt)
          obtain ⟨y, hy⟩ : ∃ y, y = l[i]'(by rw [HN.out]; exact hlt) := ⟨_, rfl⟩
          rw [← hy] at k0 k1 k2 k3
          have hb2 := (Below.refl Wo.heap.size Wo).alloc (Nat.le_refl _) (.cells #[.string y.name, .int .i64 y.bits, .int .i64 y.low] 50)
          have HC := Lib.hid (kind_field y.name y.bits y.low k3 (Wo.alloc (.cells #[.string y.name, .int .i64 y.bits, .int .i64 y.low] 50)))
          have HY := Lib.hid hy
          have HB2 := Lib.hid hb2
          clear hix hy hb2
          have hst := fld_step l i HFE.out
          rw [getD_at l i (by rw [HN.out]; exact hlt), ← HY.out] at hst
          unfold okF at hst
          by_cases hok : fieldB y.name y.bits y.low = true
          · rw [hok] at HC hst
            rw [if_neg (by decide)] at hst
            have HST := Lib.hid hst
            have HC2 : Hid (Calls Try.prog 61 #[.agg #[.string y.name, .int .i64 y.bits, .int .i64 y.low]] (Wo.alloc (.cells #[.string y.name, .int .i64 y.bits, .int .i64 y.low] 50)) fun e w' => e = .returned (.int .i64 0) ∧ Below (Wo.alloc (.cells #[.string y.name, .int .i64 y.bits, .int .i64 y.low] 50)).heap.size (Wo.alloc (.cells #[.string y.name, .int .i64 y.bits, .int .i64 y.low] 50)) w') := Lib.hid HC.out
            clear hst hok HC k3
            go_wp2_with fail
            refine HC2.out.mono ?_
            rintro e w2 ⟨rfl, hb3⟩
            have hyb := heap_below (heap_alloc_new Wo (.cells #[.string y.name, .int .i64 y.bits, .int .i64 y.low] 50)) hb3
            have hxb := heap_below HX.out (HB2.out.trans (hb3.mono (by simp)))
            have hBW := HB.out.trans ((HB2.out.trans (hb3.mono (by simp))).mono hbs)
            have d1 : w2.cell? ⟨W.heap.size, 1, none⟩ = some (.slice (some x) n cap) := by rw [cell_of_row _ _ 1 _ _ _ hxb]; rfl
            have HYB := Lib.hid hyb
            have HXB := Lib.hid hxb
            have HBW := Lib.hid hBW
            have hic : i ≤ cap := by omega
            clear hb3 hyb hxb hBW HC2 HX k0 k1 k2
            go_wp2_with fail
            clear d1
            go_loopg [7, 34] i (fun gk v7 vi wx => ∃ j : Nat, j ≤ i ∧ gk = i - j ∧ vi = .int .i64 j ∧ (∀ q (h : q < l.length), q < j → (l[q].name.toList == y.name.toList) = false) ∧ wx.heap[Wo.heap.size]? = some (.cells #[.string y.name, .int .i64 y.bits, .int .i64 y.low] 50 (0, 0)) ∧ wx.heap[W.heap.size]? = some (.cells #[.string nm, .slice (some x) n cap] 53 (0, 0)) ∧ Below W.heap.size W wx)
            case atStart => exact ⟨0, Nat.zero_le _, rfl, rfl, fun q h h2 => absurd h2 (by omega), HYB.out, HXB.out, HBW.out⟩
            case round =>
              obtain ⟨j, hj, g4, rfl, hat, hyb, hxb, hb⟩ := hrel
              have G4 := Lib.hid g4
              have HAT := Lib.hid hat
              have HYB2 := Lib.hid hyb
              have HXB2 := Lib.hid hxb
              have HB5 := Lib.hid hb
              have hbs5 := hb.size
              clear g4 hat hyb hxb hb
              by_cases hji : j < i
              · obtain ⟨z, hz, hzx, hiz⟩ := (HZ.out.below FieldAt.abides HB5.out) (by rw [HN.out]; omega)
                injection hz with hz
                subst hz
                obtain ⟨m0, m1, m2, m3⟩ := hiz j (by rw [HN.out]; omega)
                obtain ⟨o, ho⟩ : ∃ o, o = l[j]'(by rw [HN.out]; omega) := ⟨_, rfl⟩
                rw [← ho] at m0 m1 m2
                have HO := Lib.hid ho
                have n0 : wr.cell? ⟨Wo.heap.size, 0, none⟩ = some (.string y.name) := by rw [cell_of_row _ _ 0 _ _ _ HYB2.out]; rfl
                have hlt2 : Wo.heap.size < wr.heap.size := lt_of_heap HYB2.out
                have HK1 := Lib.hid (heap_keep HYB2.out (.cells #[.string o.name, .int .i64 o.bits, .int .i64 o.low] 50))
                have HK2 := Lib.hid (heap_keep HXB2.out (.cells #[.string o.name, .int .i64 o.bits, .int .i64 o.low] 50))
                have HB6 := Lib.hid (HB5.out.alloc hbs5 (.cells #[.string o.name, .int .i64 o.bits, .int .i64 o.low] 50))
                clear hiz ho m3
                by_cases he : (o.name.toList == y.name.toList) = true
                · have hR5 : R = 5 := by
                    have hd := dup_some (names := l.map (·.name)) (i := i) (j := j) (by rw [List.length_map, HN.out]; exact hlt) hji (by rw [List.getElem_map, List.getElem_map, ← HO.out, ← HY.out]; exact he)
                    have hs := HST.out
                    rw [if_pos hd] at hs
                    rw [HF.out, fldErr_stays l (i + 1) n hlt (by rw [hs]; decide), hs]
                  have HR5 := Lib.hid hR5
                  clear hR5
                  go_wp2_with fail
                  go_ret
                  exact ⟨by rw [HR5.out]; rfl, HB6.out⟩
                · have he2 : (o.name.toList == y.name.toList) = false := by simpa using he
                  have HE := Lib.hid he2
                  clear he
                  go_wp2_with fail
                  go_roundg (i - (j + 1))
                  case measure => rw [G4.out]; omega
                  case rel => exact ⟨j + 1, hji, rfl, by go_num, fun q h hq => by
                    by_cases hqj : q < j
                    · exact HAT.out q h hqj
                    · obtain rfl : q = j := by omega
                      rw [← HO.out]; exact HE.out, HK1.out, HK2.out, HB6.out⟩
              · have hje : j = i := by omega
                have hf2 : fldErr l (i + 1) = 0 := by
                  have hd := dup_none (names := l.map (·.name)) (i := i) (by rw [List.length_map, HN.out]; exact hlt) (fun q hq => by rw [List.getElem_map, List.getElem_map, ← HY.out]; exact HAT.out q (by rw [HN.out]; omega) (by omega))
                  have hs := HST.out
                  rw [if_neg (by rw [hd]; decide)] at hs
                  exact hs
                have HF2 := Lib.hid hf2
                clear hf2 hje
                go_wp2_with fail
                go_roundg (n - (i + 1))
                case measure => rw [G2.out]; omega
                case rel => exact ⟨i + 1, hlt, rfl, by go_num, HF2.out, HXB2.out, HB5.out⟩
          · have hok2 : fieldB y.name y.bits y.low = false := by simpa using hok
            rw [hok2] at HC hst
            rw [if_pos rfl] at hst
            have HST := Lib.hid hst
            have HC2 : Hid (Calls Try.prog 61 #[.agg #[.string y.name, .int .i64 y.bits, .int .i64 y.low]] (Wo.alloc (.cells #[.string y.name, .int .i64 y.bits, .int .i64 y.low] 50)) fun e w' => e = .returned (.int .i64 3) ∧ Below (Wo.alloc (.cells #[.string y.name, .int .i64 y.bits, .int .i64 y.low] 50)).heap.size (Wo.alloc (.cells #[.string y.name, .int .i64 y.bits, .int .i64 y.low] 50)) w') := Lib.hid HC.out
            clear hst hok hok2 HC k3
            go_wp2_with fail
            refine HC2.out.mono ?_
            rintro e w2 ⟨rfl, hb3⟩
            have HB3 := Lib.hid (HB2.out.trans (hb3.mono (by simp)))
            clear hb3
            go_wp2_with fail
            go_ret
            refine ⟨?_, HB.out.trans (HB3.out.mono hbs)⟩
            rw [HF.out, fldErr_stays l (i + 1) n hlt (by rw [HST.out]; decide), HST.out]; rfl
        · have hie : i = n := by omega
          have HF0 := Lib.hid (show R = 0 by rw [HF.out, ← hie]; exact HFE.out)
          clear hie
          go_wp2_with fail
          go_ret
          exact ⟨by rw [HF0.out]; rfl, HB.out⟩
end Go.Proofs.Ytncnbfefciobcaa
end
/- kind.Check. -/
section
namespace Go.Proofs.Ytncnbfefciobcaa
open Go.ChangeShapes Go.WideShapes Go.ChangeAt Go.RowKit Go.Nm Go.Mem
set_option linter.unusedVariables false
theorem firstAt_ge (names : List ByteArray) (s : ByteArray) (k : Nat) : decide (firstAt names s k ≥ 0) = names.any fun a => a.toList == s.toList := by
  induction names generalizing k with
  | nil => rfl
  | cons a r ih =>
    unfold firstAt
    by_cases h : (a.toList == s.toList) = true
    · rw [if_pos h, List.any_cons, h]; simp
    · rw [if_neg h, ih, List.any_cons]
      have h2 : (a.toList == s.toList) = false := by simpa using h
      rw [h2]; rfl
theorem dup_first (names : List ByteArray) (i : Nat) (h : i < names.length) : decide (firstAt (names.take i) names[i] 0 ≥ 0) = dupAt names i := by
  rw [firstAt_ge]
  unfold dupAt
  rw [List.getD_eq_getElem?_getD, List.getElem?_eq_getElem h]; rfl
theorem knd_step (l : List KindV) (k : Nat) (h0 : kndErr l k = 0) : kndErr l (k + 1) = if kindE (l.getD k default) ≠ 0 then kindE (l.getD k default) else if dupAt (l.map (·.name)) k = true then 5 else 0 := by
  show (if kndErr l k ≠ 0 then _ else _) = _
  rw [if_neg (by rw [h0]; simp)]
theorem SlAt.take {α : Type} {sz : Nat} {E : World → Addr → α → Prop} {w : World} {a : Option Addr} {l : List α} (h : SlAt sz E w a l) (k : Nat) : SlAt sz E w a (l.take k) := fun h0 => by
  rw [List.length_take] at h0
  obtain ⟨x, h1, h2, h3⟩ := h (by omega)
  exact ⟨x, h1, h2, fun i hi => by rw [List.length_take] at hi; rw [List.getElem_take]; exact h3 i (by omega)⟩
theorem keepF {w w1 w2 : World} {p : Addr} {v : Value} {a : Option Addr} {l : List KindV} (h : w1.cell? p = some v ∧ SlAt 2 KindAt w1 a l ∧ Below w.heap.size w w1) (hb : Below w1.heap.size w1 w2) : w2.cell? p = some v ∧ SlAt 2 KindAt w2 a l ∧ Below w.heap.size w w2 :=
  ⟨cell_abides h.1 hb, h.2.1.below KindAt.abides hb, h.2.2.trans (hb.mono h.2.2.size)⟩
set_option maxHeartbeats 8000000 in
theorem kind_Check (l : List KindV) (a : Option Addr) (n cap : Nat) (hn : l.length = n) (h1 : n ≤ 9223372036854775807) (hnc : n ≤ cap) (hcm : cap ≤ 9223372036854775807) (W : World) (hz : SlAt 2 KindAt W a l) :
    Calls Try.prog 31 #[.slice a n cap] W fun e w' => e = .returned (.int .i64 (kindsE l)) ∧ Below W.heap.size W w' := by
  obtain ⟨R, hR⟩ : ∃ R, R = kindsE l := ⟨_, rfl⟩
  rw [← hR]
  have HR := Lib.hid hR
  have HN := Lib.hid hn
  have HZ := Lib.hid hz
  clear hR hn hz
  by_cases h16 : 16 < n
  · have HF := Lib.hid (show R = 2 by rw [HR.out]; unfold kindsE; rw [if_pos (by rw [HN.out]; exact h16)])
    go_enter Try.func31, Try.ntmps31
    go_wp2_with fail
    go_ret
    exact ⟨by rw [HF.out]; rfl, Below.refl _ _⟩
  · have HF := Lib.hid (show R = kndErr l n by rw [HR.out]; unfold kindsE; rw [if_neg (by rw [HN.out]; exact h16), HN.out])
    have h16' : n ≤ 16 := by omega
    clear h16
    go_enter Try.func31, Try.ntmps31
    go_wp2_with fail
    go_loopg [3, 4, 5, 11] n (fun gk v3 v4 v5 vi wx => ∃ i : Nat, i ≤ n ∧ gk = n - i ∧ vi = .int .i64 i ∧ kndErr l i = 0 ∧ Below W.heap.size W wx)
    case atStart => exact ⟨0, Nat.zero_le _, rfl, rfl, rfl, Below.refl _ _⟩
    case round =>
      obtain ⟨i, hi, g2, rfl, hfe, hb⟩ := hrel
      have G2 := Lib.hid g2
      have HFE := Lib.hid hfe
      have HB := Lib.hid hb
      have hbs := hb.size
      clear g2 hfe hb
      obtain ⟨Wo, rfl⟩ : ∃ Wo : World, Wo = wr := ⟨_, rfl⟩
      by_cases hlt : i < n
      · obtain ⟨x, rfl, hx, hix⟩ := (HZ.out.below KindAt.abides HB.out) (by rw [HN.out]; omega)
        obtain ⟨k0, kn, ay, cy, k1, k2, k3, k4⟩ := hix i (by rw [HN.out]; exact hlt)
        obtain ⟨y, hy⟩ : ∃ y, y = l[i]'(by rw [HN.out]; exact hlt) := ⟨_, rfl⟩
        rw [← hy] at k0 kn k1 k2 k4
        have hb2 := (Below.refl Wo.heap.size Wo).alloc (Nat.le_refl _) (.cells #[.string y.name, .slice ay y.fields.length cy] 53)
        have hc := kind_One y ay _ cy rfl kn k2 k3 _ (k4.below FieldAt.abides hb2)
        have hst := knd_step l i HFE.out
        rw [getD_at l i (by rw [HN.out]; exact hlt), ← hy] at hst
        obtain ⟨e1, he1⟩ : ∃ e1, e1 = kindE y := ⟨_, rfl⟩
        rw [← he1] at hc hst
        have HC := Lib.hid hc
        have HST := Lib.hid hst
        have HY := Lib.hid hy
        have HB2 := Lib.hid hb2
        clear hix hy hb2 hc hst he1 kn k2 k3 k4
        by_cases he : e1 = 0
        · subst he
          go_wp2_with fail
          refine HC.out.mono ?_
          rintro e w2 ⟨rfl, hb3⟩
          have hyb := heap_below (heap_alloc_new Wo (.cells #[.string y.name, .slice ay y.fields.length cy] 53)) hb3
          have hBo := HB2.out.trans (hb3.mono (by simp))
          have hBW := HB.out.trans (hBo.mono hbs)
          have d0 : w2.cell? ⟨Wo.heap.size, 0, none⟩ = some (.string y.name) := by rw [cell_of_row _ _ 0 _ _ _ hyb]; rfl
          have hfnd := kind_Find (l.take i) (some x) i cap y.name (by rw [List.length_take, HN.out]; omega) (by omega)
          have hds := dup_first (l.map (·.name)) i (by rw [List.length_map, HN.out]; exact hlt)
          rw [List.getElem_map, ← HY.out, ← List.map_take] at hds
          obtain ⟨q, hq⟩ : ∃ q, q = firstAt ((l.take i).map (·.name)) y.name 0 := ⟨_, rfl⟩
          rw [← hq] at hfnd hds
          have HFND := Lib.hid hfnd
          have HDS := Lib.hid hds
          have HBW := Lib.hid hBW
          have hic : i ≤ cap := by omega
          have hzw := (HZ.out.take i).below KindAt.abides hBW
          have HZW := Lib.hid hzw
          clear hb3 hyb hBo hfnd hds hq hBW hzw k0 k1
          have hbx : Below W.heap.size W w2 := HBW.out
          go_wp2_with fail
          go_region_held3 (fun w' => w'.cell? ⟨Wo.heap.size, 0, none⟩ = some (.string y.name) ∧ SlAt 2 KindAt w' (some x) (l.take i) ∧ Below W.heap.size W w')
            (first | exact ⟨d0, HZW.out, hbx.drew⟩ | assumption | exact keepF (by assumption) (by assumption))
            ((go_at_call 47; refine (HFND.out _ (And.left (And.right (by assumption)))).mono ?_; rintro e w8 ⟨rfl, hb8⟩))
          rename_i hHeld
          have HB9 := Lib.hid hHeld.2.2
          clear hHeld hb8
          by_cases hq : 0 ≤ q
          · have hR : R = 5 := by
              have hd : dupAt (l.map (·.name)) i = true := HDS.out.symm.trans (decide_eq_true hq)
              have hs := HST.out
              rw [if_neg (by simp), if_pos hd] at hs
              rw [HF.out, kndErr_stays l (i + 1) n hlt (by rw [hs]; decide), hs]
            have HR5 := Lib.hid hR
            clear hR
            go_wp2_with fail
            go_ret
            exact ⟨by rw [HR5.out]; rfl, HB9.out⟩
          · have hk2 : kndErr l (i + 1) = 0 := by
              have hd : dupAt (l.map (·.name)) i = false := HDS.out.symm.trans (decide_eq_false hq)
              have hs := HST.out
              rw [if_neg (by simp), if_neg (by rw [hd]; decide)] at hs
              exact hs
            have HK2 := Lib.hid hk2
            clear hk2
            go_wp2_with fail
            go_roundg (n - (i + 1))
            case measure => rw [G2.out]; omega
            case rel => exact ⟨i + 1, hlt, rfl, by go_num, HK2.out, HB9.out⟩
        · have t1 : (e1 != 0) = true := by rw [bne_iff_ne]; exact he
          have hR : R = e1 := by
            have hs := HST.out
            rw [if_pos he] at hs
            rw [HF.out, kndErr_stays l (i + 1) n hlt (by rw [hs]; exact he), hs]
          have HR5 := Lib.hid hR
          clear hR he
          go_wp2_with fail
          refine HC.out.mono ?_
          rintro e w2 ⟨rfl, hb3⟩
          have HBW := Lib.hid (HB.out.trans ((HB2.out.trans (hb3.mono (by simp))).mono hbs))
          clear hb3
          go_wp2_with fail
          go_ret
          exact ⟨by rw [HR5.out]; rfl, HBW.out⟩
      · have hie : i = n := by omega
        have HF0 := Lib.hid (show R = 0 by rw [HF.out, ← hie]; exact HFE.out)
        clear hie
        go_wp2_with fail
        go_ret
        exact ⟨by rw [HF0.out]; rfl, HB.out⟩
end Go.Proofs.Ytncnbfefciobcaa
end
/- ref twice, KindError, KindsError. -/
section
namespace Go.Proofs.Ytncnbfefciobcaa
open Go.ChangeShapes Go.WideShapes Go.ChangeAt Go.RowKit Go.Nm Go.Mem
set_option linter.unusedVariables false
def vstrs (l : List ByteArray) : List Value := l.map Value.string
def StrsAt (w : World) (a : Option Addr) (l : List ByteArray) : Prop := SlAt 1 (fun w p s => w.cell? p = some (.string s)) w a l
theorem StrsAt.below {w w' : World} {a : Option Addr} {l : List ByteArray} (h : StrsAt w a l) (hb : Below w.heap.size w w') : StrsAt w' a l := SlAt.below (E := fun w p s => w.cell? p = some (.string s)) (fun _ _ _ _ h1 h2 => cell_abides h1 h2) h hb
theorem strs_own {w : World} {base e : Nat} {a : Option Addr} {n cap : Nat} {l : List ByteArray} (h : w.ownsRow base e 1 (.slice a n cap) n (vstrs l)) (hn : l.length = n) : StrsAt w a l := fun h0 => by
  obtain ⟨g, cap', hv, _, hlt⟩ := h.form (by omega)
  injection hv with hv
  subst hv
  refine ⟨_, rfl, hlt, fun i hi => ?_⟩
  rw [Nat.mul_one]
  exact h.cells (g := g) rfl i _ (by unfold vstrs; rw [List.getElem?_map, List.getElem?_eq_getElem hi]; rfl)
theorem vstrs_snoc (l : List ByteArray) (s : ByteArray) : vstrs l ++ #[Value.string s].toList = vstrs (l ++ [s]) := by simp [vstrs]
theorem take_snoc' {α : Type} (l : List α) (j : Nat) (h : j < l.length) : l.take (j + 1) = l.take j ++ [l[j]] := by
  rw [List.take_add_one, List.getElem?_eq_getElem h]; rfl
theorem dup_any (names : List ByteArray) (i : Nat) (h : i < names.length) : ((names.take i).any fun a => a.toList == names[i].toList) = dupAt names i := by
  unfold dupAt
  rw [List.getD_eq_getElem?_getD, List.getElem?_eq_getElem h]; rfl
end Go.Proofs.Ytncnbfefciobcaa
end
/- kind.High, Near; ref Top, Nearest. -/
section
namespace Go.Proofs.Ytncnbfefciobcaa
open Go.ChangeShapes Go.WideShapes Go.ChangeAt Go.RowKit Go.Nm Go.Mem
set_option linter.unusedVariables false
theorem pow_bd (n : Nat) (h : n ≤ 32) : 1 ≤ (2 : Int) ^ n ∧ (2 : Int) ^ n ≤ 4294967296 := by
  have h1 : 1 ≤ 2 ^ n := Nat.one_le_two_pow
  have h2 : 2 ^ n ≤ 2 ^ 32 := Nat.pow_le_pow_right (by decide) h
  have e : (2 : Int) ^ n = ((2 ^ n : Nat) : Int) := by simp
  rw [e]
  have e2 : (2 : Nat) ^ 32 = 4294967296 := rfl
  omega
theorem pow_in (n : Nat) (h : n ≤ 32) : wrap64 ((2 : Int) ^ n) = 2 ^ n := by
  have := pow_bd n h
  exact IntWalk.wrap64_in _ ⟨by omega, by omega⟩
set_option maxHeartbeats 1000000 in
theorem High_ok (s : ByteArray) (n : Nat) (l : Int) (hs : s.size ≤ 9223372036854775807) (hf : fieldB s n l = true) (h1 : 1 ≤ n) (h2 : n ≤ 32) (h3 : -4294967296 ≤ l) (h4 : l ≤ 4294967296) (w : World) : Calls Try.prog 67 #[.agg #[.string s, .int .i64 n, .int .i64 l]] w fun e w' => e = .returned (.int .i64 (l + (2 ^ n - 1))) ∧ Below w.heap.size w w' := by
  have C := fun W => kind_field s n l hs W
  rw [hf] at C
  have C := Lib.hid C
  clear hf hs
  go_enter Try.func67, Try.ntmps67
  go_wp2_with fail
  refine (C.out _).mono ?_
  rintro e w1 ⟨rfl, hb1⟩
  have c1 : w1.cell? ⟨w.heap.size, 1, none⟩ = some (.int .i64 n) := by rw [hb1.cell (p := ⟨w.heap.size, 1, none⟩) (by simp)]; simp
  have c2 : w1.cell? ⟨w.heap.size, 2, none⟩ = some (.int .i64 l) := by rw [hb1.cell (p := ⟨w.heap.size, 2, none⟩) (by simp)]; simp
  go_wp2_with fail
  go_quiet (fail)
  go_wp2_with fail
  go_ret
  refine ⟨?_, below_drewN (((Below.refl w.heap.size w).alloc (Nat.le_refl _) (.cells #[.string s, .int .i64 n, .int .i64 l] 50)).trans (hb1.mono (by simp))) _⟩
  rw [pow_in n h2]
  obtain ⟨P, hP⟩ : ∃ P : Int, P = 2 ^ n := ⟨_, rfl⟩
  have hb := pow_bd n h2
  rw [← hP] at hb ⊢
  show Ending.returned (.int .i64 (wrap64 (l + wrap64 (P - 1)))) = _
  rw [IntWalk.wrap64_in (P - 1) ⟨by omega, by omega⟩, IntWalk.wrap64_in _ ⟨by omega, by omega⟩]
set_option maxHeartbeats 1000000 in
theorem High_bad (s : ByteArray) (b l : Int) (hs : s.size ≤ 9223372036854775807) (hf : fieldB s b l = false) (w : World) : Calls Try.prog 67 #[.agg #[.string s, .int .i64 b, .int .i64 l]] w fun e w' => e = .returned (.int .i64 0) ∧ Below w.heap.size w w' := by
  have C := fun W => kind_field s b l hs W
  rw [hf] at C
  have C := Lib.hid C
  clear hf hs
  go_enter Try.func67, Try.ntmps67
  go_wp2_with fail
  refine (C.out _).mono ?_
  rintro e w1 ⟨rfl, hb1⟩
  go_wp2_with fail
  go_ret
  exact ⟨rfl, (((Below.refl w.heap.size w).alloc (Nat.le_refl _) (.cells #[.string s, .int .i64 b, .int .i64 l] 50)).trans (hb1.mono (by simp)))⟩
set_option maxHeartbeats 1000000 in
theorem Near_bad (s : ByteArray) (b l v : Int) (hs : s.size ≤ 9223372036854775807) (hf : fieldB s b l = false) (w : World) : Calls Try.prog 63 #[.agg #[.string s, .int .i64 b, .int .i64 l], .int .i64 v] w fun e w' => e = .returned (.int .i64 0) ∧ Below w.heap.size w w' := by
  have C := fun W => kind_field s b l hs W
  rw [hf] at C
  have C := Lib.hid C
  clear hf hs
  go_enter Try.func63, Try.ntmps63
  go_wp2_with fail
  refine (C.out _).mono ?_
  rintro e w1 ⟨rfl, hb1⟩
  go_wp2_with fail
  go_ret
  exact ⟨rfl, (((Below.refl w.heap.size w).alloc (Nat.le_refl _) (.cells #[.string s, .int .i64 b, .int .i64 l] 50)).trans (hb1.mono (by simp)))⟩
def topF (n : Nat) (l : Int) : Int := l + (2 ^ n - 1)
def nearF (n : Nat) (l v : Int) : Int := max l (min v (topF n l))
set_option maxHeartbeats 2000000 in
theorem Near_ok (s : ByteArray) (n : Nat) (l v : Int) (hs : s.size ≤ 9223372036854775807) (hf : fieldB s n l = true) (h1 : 1 ≤ n) (h2 : n ≤ 32) (h3 : -4294967296 ≤ l) (h4 : l ≤ 4294967296) (w : World) : Calls Try.prog 63 #[.agg #[.string s, .int .i64 n, .int .i64 l], .int .i64 v] w fun e w' => e = .returned (.int .i64 (nearF n l v)) ∧ Below w.heap.size w w' := by
  have C := fun W => kind_field s n l hs W
  rw [hf] at C
  have C := Lib.hid C
  obtain ⟨T, hT⟩ : ∃ T, T = topF n l := ⟨_, rfl⟩
  have D := fun W => High_ok s n l hs hf h1 h2 h3 h4 W
  have hd : l + (2 ^ n - 1) = T := hT.symm
  rw [hd] at D
  have D := Lib.hid D
  unfold nearF
  rw [← hT]
  clear hf hs hd hT
  go_enter Try.func63, Try.ntmps63
  go_wp2_with fail
  refine (C.out _).mono ?_
  rintro e w1 ⟨rfl, hb1⟩
  have c0 : w1.cell? ⟨w.heap.size, 0, none⟩ = some (.string s) := by rw [hb1.cell (p := ⟨w.heap.size, 0, none⟩) (by simp)]; simp
  have c1 : w1.cell? ⟨w.heap.size, 1, none⟩ = some (.int .i64 n) := by rw [hb1.cell (p := ⟨w.heap.size, 1, none⟩) (by simp)]; simp
  have c2 : w1.cell? ⟨w.heap.size, 2, none⟩ = some (.int .i64 l) := by rw [hb1.cell (p := ⟨w.heap.size, 2, none⟩) (by simp)]; simp
  have hb : Below w.heap.size w w1 := ((Below.refl w.heap.size w).alloc (Nat.le_refl _) (.cells #[.string s, .int .i64 n, .int .i64 l] 50)).trans (hb1.mono (by simp))
  go_wp2_with fail
  go_region_held3 (fun w' => w'.cell? ⟨w.heap.size, 0, none⟩ = some (.string s) ∧ w'.cell? ⟨w.heap.size, 1, none⟩ = some (.int .i64 n) ∧ w'.cell? ⟨w.heap.size, 2, none⟩ = some (.int .i64 l) ∧ Below w.heap.size w w')
    (first | exact ⟨c0, c1, c2, hb.drew⟩ | assumption | exact keep3 (by assumption) (by assumption) (Nat.le_refl _))
    ((go_at_call 67; refine (D.out _).mono ?_; rintro e w8 ⟨rfl, hb8⟩))
  go_wp2
  go_ret
  exact ⟨rfl, lastk3 (by assumption)⟩
end Go.Proofs.Ytncnbfefciobcaa
end
