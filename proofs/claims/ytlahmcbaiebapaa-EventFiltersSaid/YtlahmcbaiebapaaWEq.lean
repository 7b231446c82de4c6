/- Components and items held against each other, by the reference and by the program. -/
import Derived.Test.YtlahmcbaiebapaaApiItem
import Derived.Test.YtlahmcbaiebapaaEqI
import Derived.Deep.LoopGhost
import Derived.BigQuiet
import Derived.Deep.QuietTactic
import Derived.Shelf.Abstract
namespace Go.Proofs.Ytlahmcbaiebapaa
open Go.ChangeShapes Go.WideShapes Go.ChangeAt Go.RowKit Go.Mem
set_option linter.unusedVariables false
theorem eq_intsN (a b : Option Addr) (ca cb n m : Nat) (zs ys : List Int) (hn : zs.length = n) (hm : ys.length = m) (h1 : n ≤ 9223372036854775807) (h2 : m ≤ 9223372036854775807) (w : World) (ha : IntsAt .i64 w a zs) (hb : IntsAt .i64 w b ys) :
    Calls Try.prog 19 #[.slice a n ca, .slice b m cb] w fun e w' => e = .returned (.bool (decide (zs = ys))) ∧ Below w.heap.size w w' := by
  subst hn hm
  exact eq_ints a b ca cb zs ys h1 h2 w ha hb
theorem eqf_comps_ne {l k : List CompV} {n : Nat} (hl : l.length = n) (hk : k.length = n) (i : Nat) (hi : i < n) (h : l[i]'(by omega) ≠ k[i]'(by omega)) : decide (l = k) = false := by
  rw [decide_eq_false_iff_not]; rintro rfl; exact h rfl
theorem eqf_comps_eq {l k : List CompV} {n : Nat} (hl : l.length = n) (hk : k.length = n) (h : ∀ i (hi : i < n), l[i]'(by omega) = k[i]'(by omega)) : decide (l = k) = true := by
  rw [decide_eq_true_iff]; exact List.ext_getElem (by omega) (fun i h1 h2 => h i (by omega))
set_option maxHeartbeats 4000000 in
theorem same_comp_r (x y : CompV) (ax ay : Option Addr) (n m cx cy : Nat) (hn : x.vals.length = n) (hm : y.vals.length = m) (h1 : n ≤ 1048576) (h2 : m ≤ 1048576) (W : World) (hx : IntsAt .i64 W ax x.vals) (hy : IntsAt .i64 W ay y.vals) :
    Calls Try.prog 89 #[.agg #[.int .i64 x.kind, .slice ax n cx], .agg #[.int .i64 y.kind, .slice ay m cy]] W fun e w' => e = .returned (.bool (decide (x = y))) ∧ Below W.heap.size W w' := by
  obtain ⟨p, l⟩ := x
  obtain ⟨q, k⟩ := y
  simp only at hn hm hx hy ⊢
  obtain ⟨R, hR⟩ : ∃ R, R = decide ((⟨p, l⟩ : CompV) = ⟨q, k⟩) := ⟨_, rfl⟩
  rw [← hR]
  have HC := Lib.hid (eq_intsN ax ay cx cy n m l k hn hm (by omega) (by omega))
  have HX := Lib.hid hx
  have HY := Lib.hid hy
  have HR := Lib.hid hR
  clear hn hm hx hy hR
  by_cases hk : p = q
  · have t1 : (p == q) = true := by rw [hk]; exact beq_self_eq_true q
    have hb0 := ((Below.refl W.heap.size W).alloc (Nat.le_refl _) (.cells #[.int .i64 p, .slice ax n cx] 84)).alloc (by simp) (.cells #[.int .i64 q, .slice ay m cy] 84)
    have HB0 := Lib.hid hb0
    clear hb0
    obtain ⟨S, hS⟩ : ∃ S, S = decide (l = k) := ⟨_, rfl⟩
    rw [← hS] at HC
    have HRS := Lib.hid (show R = S by rw [HR.out, hS, hk]; simp)
    clear hS hk
    go_enter Try.func89, Try.ntmps89
    go_wp2_with fail
    refine (HC.out _ (HX.out.below HB0.out) (HY.out.below HB0.out)).mono ?_
    rintro e w1 ⟨rfl, hb1⟩
    have HB1 := Lib.hid (HB0.out.trans (hb1.mono (by simp; omega)))
    clear hb1
    go_wp2_with fail
    go_ret
    exact ⟨by rw [HRS.out]; rfl, HB1.out⟩
  · have t1 : (p == q) = false := by rw [beq_eq_false_iff_ne]; exact hk
    have HF := Lib.hid (show R = false by rw [HR.out]; simp [hk])
    clear hk
    go_enter Try.func89, Try.ntmps89
    go_wp2_with fail
    go_ret
    exact ⟨by rw [HF.out]; rfl, ((Below.refl W.heap.size W).alloc (Nat.le_refl _) _).alloc (by simp) _⟩
set_option maxHeartbeats 4000000 in
theorem eqf_comps_r (l k : List CompV) (a b : Option Addr) (n m ca cb : Nat) (hn : l.length = n) (hm : k.length = m) (h1 : n ≤ 1048576) (h2 : m ≤ 1048576) (hvl : ∀ z ∈ l, z.vals.length ≤ 1048576) (hvk : ∀ z ∈ k, z.vals.length ≤ 1048576) (W : World) (hz : SlAt 2 CompAt W a l) (hy : SlAt 2 CompAt W b k) :
    Calls Try.prog 88 #[.slice a n ca, .slice b m cb, .func (.func 89) #[] #[]] W fun e w' => e = .returned (.bool (decide (l = k))) ∧ Below W.heap.size W w' := by
  obtain ⟨R, hR⟩ : ∃ R, R = decide (l = k) := ⟨_, rfl⟩
  rw [← hR]
  have HR := Lib.hid hR
  have HN := Lib.hid hn
  have HM := Lib.hid hm
  have HZ := Lib.hid hz
  have HY := Lib.hid hy
  have HVL := Lib.hid hvl
  have HVK := Lib.hid hvk
  clear hR hn hm hz hy hvl hvk
  by_cases hnm : n = m
  · subst hnm
    have t0 : ((n : Int) != (n : Int)) = false := by simp
    go_enter Try.func88, Try.ntmps88
    go_wp2_with fail
    go_loopg [7, 8, 9, 17] n (fun gk v7 v8 v9 vi wx => ∃ i : Nat, i ≤ n ∧ gk = n - i ∧ vi = .int .i64 i ∧ (∀ j (h : j < n), j < i → l[j]'(by rw [HN.out]; exact h) = k[j]'(by rw [HM.out]; exact h)) ∧ Below W.heap.size W wx)
    case atStart => exact ⟨0, Nat.zero_le _, rfl, rfl, fun j h h2 => absurd h2 (by omega), Below.refl _ _⟩
    case round =>
      obtain ⟨i, hi, g2, rfl, hat, hb⟩ := hrel
      have G2 := Lib.hid g2
      have HAT := Lib.hid hat
      have HB := Lib.hid hb
      clear g2 hat hb
      by_cases hlt : i < n
      · obtain ⟨x, rfl, hx, hix⟩ := (HZ.out.below CompAt.abides HB.out) (by rw [HN.out]; omega)
        obtain ⟨y, rfl, hy, hiy⟩ := (HY.out.below CompAt.abides HB.out) (by rw [HM.out]; omega)
        have kx := hix i (by rw [HN.out]; exact hlt)
        have ky := hiy i (by rw [HM.out]; exact hlt)
        obtain ⟨X, hX⟩ : ∃ X, X = l[i]'(by rw [HN.out]; exact hlt) := ⟨_, rfl⟩
        obtain ⟨Y, hY⟩ : ∃ Y, Y = k[i]'(by rw [HM.out]; exact hlt) := ⟨_, rfl⟩
        rw [← hX] at kx
        rw [← hY] at ky
        have HX := Lib.hid hX
        have HY2 := Lib.hid hY
        clear hix hiy hX hY
        obtain ⟨x0, ax, cx, x1, xi⟩ := kx
        obtain ⟨y0, ay, cy, y1, yi⟩ := ky
        have hv1 : X.vals.length ≤ 1048576 := HVL.out X (by rw [HX.out]; exact List.getElem_mem _)
        have hv2 : Y.vals.length ≤ 1048576 := HVK.out Y (by rw [HY2.out]; exact List.getElem_mem _)
        have hb1 := (Below.refl wr.heap.size wr).alloc (Nat.le_refl _) (.cells #[.int .i64 X.kind, .slice ax X.vals.length cx] 84)
        have hb2 := hb1.alloc (by simp) (.cells #[.int .i64 Y.kind, .slice ay Y.vals.length cy] 84)
        have y2 := cell_abides y0 hb1
        have y3 := cell_abides y1 hb1
        obtain ⟨S, hS⟩ : ∃ S, S = decide (X = Y) := ⟨_, rfl⟩
        have HC := Lib.hid (same_comp_r X Y ax ay _ _ cx cy rfl rfl hv1 hv2 _ (xi.below hb2) (yi.below hb2))
        rw [← hS] at HC
        have HS := Lib.hid hS
        have HB2 := Lib.hid hb2
        clear hb1 hb2 hS xi yi y0 y1 hv1 hv2
        go_wp2_with fail
        refine HC.out.mono ?_
        rintro e w1 ⟨rfl, hb1⟩
        have HB3 := Lib.hid (HB.out.trans ((HB2.out.trans (hb1.mono (by simp; omega))).mono HB.out.size))
        clear hb1 HC
        cases S
        · have HF := Lib.hid (show R = false by rw [HR.out]; exact eqf_comps_ne HN.out HM.out i hlt (by rw [← HX.out, ← HY2.out]; exact of_decide_eq_false HS.out.symm))
          go_wp2_with fail
          go_ret
          exact ⟨by rw [HF.out]; rfl, HB3.out⟩
        · have HE := Lib.hid (of_decide_eq_true HS.out.symm)
          go_wp2_with fail
          go_roundg (n - (i + 1))
          case measure => rw [G2.out]; omega
          case rel => exact ⟨i + 1, hlt, rfl, by go_num, fun j h hj => by
            by_cases hji : j < i
            · exact HAT.out j h hji
            · obtain rfl : j = i := by omega
              rw [← HX.out, ← HY2.out]; exact HE.out, HB3.out⟩
      · have hie : i = n := by omega
        have HF := Lib.hid (show R = true by rw [HR.out]; exact eqf_comps_eq HN.out HM.out (fun j h => HAT.out j h (by omega)))
        clear hie
        go_wp2_with fail
        go_ret
        exact ⟨by rw [HF.out]; rfl, HB.out⟩
  · have t0 : ((n : Int) != (m : Int)) = true := by rw [bne_iff_ne]; omega
    have HF := Lib.hid (show R = false by rw [HR.out, decide_eq_false_iff_not]; rintro rfl; exact hnm (HN.out.symm.trans HM.out))
    clear hnm
    go_enter Try.func88, Try.ntmps88
    go_wp2_with fail
    go_ret
    exact ⟨by rw [HF.out]; rfl, Below.refl _ _⟩
theorem eqEnt (a b c d : Int) (w : World) : (Op.equalIn 10000 55 (.agg #[.int .i64 a, .int .i64 b]) (.agg #[.int .i64 c, .int .i64 d])).run Try.prog w = .ok (decide (a = c) && decide (b = d)) w := by
  have u3 := Try.underlying3
  have a3 := Try.isAgg3
  have z3 := Try.sizeOf3
  rw [show (10000 : Nat) = 9999 + 1 from rfl, Op.equalIn]
  simp only [Sem.run_bind, run_underlying Try.underlying55, Result.andThen_ok]
  go_simp
  by_cases h1 : a = c <;> by_cases h2 : b = d <;> simp [h1, h2]
set_option maxHeartbeats 4000000 in
theorem same_item_r (x y : ItemV) (ax ay : Option Addr) (n m cx cy : Nat) (hn : x.comps.length = n) (hm : y.comps.length = m) (h1 : n ≤ 1048576) (h2 : m ≤ 1048576) (hvl : ∀ z ∈ x.comps, z.vals.length ≤ 1048576) (hvk : ∀ z ∈ y.comps, z.vals.length ≤ 1048576) (W : World) (hx : SlAt 2 CompAt W ax x.comps) (hy : SlAt 2 CompAt W ay y.comps) :
    Calls Try.prog 48 #[.agg #[.int .i64 x.n, .int .i64 x.gen, .slice ax n cx], .agg #[.int .i64 y.n, .int .i64 y.gen, .slice ay m cy]] W fun e w' => e = .returned (.bool (decide (x = y))) ∧ Below W.heap.size W w' := by
  obtain ⟨p, g, l⟩ := x
  obtain ⟨q, f, k⟩ := y
  simp only at hn hm hx hy hvl hvk ⊢
  obtain ⟨R, hR⟩ : ∃ R, R = decide ((⟨p, g, l⟩ : ItemV) = ⟨q, f, k⟩) := ⟨_, rfl⟩
  rw [← hR]
  have hb0 := ((Below.refl W.heap.size W).alloc (Nat.le_refl _) (.cells #[.int .i64 p, .int .i64 g, .slice ax n cx] 80)).alloc (by simp) (.cells #[.int .i64 q, .int .i64 f, .slice ay m cy] 80)
  have HC := Lib.hid (eqf_comps_r l k ax ay n m cx cy hn hm h1 h2 hvl hvk _ (hx.below CompAt.abides hb0) (hy.below CompAt.abides hb0))
  have HB0 := Lib.hid hb0
  have HR := Lib.hid hR
  have he := eqEnt p g q f
  obtain ⟨S, hS⟩ : ∃ S, S = (decide (p = q) && decide (g = f)) := ⟨_, rfl⟩
  rw [← hS] at he
  have HS := Lib.hid hS
  clear hn hm hx hy hR hvl hvk hb0 hS
  obtain ⟨T, hT⟩ : ∃ T, T = decide (l = k) := ⟨_, rfl⟩
  rw [← hT] at HC
  have HT := Lib.hid hT
  clear hT
  cases S with
  | true =>
    have HRS := Lib.hid (show R = T by
      have h := HS.out
      have h' : decide (p = q) = true ∧ decide (g = f) = true := by rw [← Bool.and_eq_true]; exact h.symm
      rw [HR.out, HT.out, of_decide_eq_true h'.1, of_decide_eq_true h'.2]; simp)
    go_enter Try.func48, Try.ntmps48
    go_wp2_with fail
    refine HC.out.mono ?_
    rintro e w1 ⟨rfl, hb1⟩
    have HB1 := Lib.hid (HB0.out.trans (hb1.mono (by simp; omega)))
    clear hb1
    go_wp2_with fail
    go_ret
    exact ⟨by rw [HRS.out]; rfl, HB1.out⟩
  | false =>
    have HF := Lib.hid (show R = false by
      rw [HR.out, decide_eq_false_iff_not]
      rintro h
      injection h with h1 h2 h3
      have h := HS.out
      rw [h1, h2] at h
      simp at h)
    go_enter Try.func48, Try.ntmps48
    go_wp2_with fail
    go_ret
    exact ⟨by rw [HF.out]; rfl, HB0.out⟩
theorem eqf_items_ne {l k : List ItemV} {n : Nat} (hl : l.length = n) (hk : k.length = n) (i : Nat) (hi : i < n) (h : l[i]'(by omega) ≠ k[i]'(by omega)) : decide (l = k) = false := by
  rw [decide_eq_false_iff_not]; rintro rfl; exact h rfl
theorem eqf_items_eq {l k : List ItemV} {n : Nat} (hl : l.length = n) (hk : k.length = n) (h : ∀ i (hi : i < n), l[i]'(by omega) = k[i]'(by omega)) : decide (l = k) = true := by
  rw [decide_eq_true_iff]; exact List.ext_getElem (by omega) (fun i h1 h2 => h i (by omega))
end Go.Proofs.Ytlahmcbaiebapaa
