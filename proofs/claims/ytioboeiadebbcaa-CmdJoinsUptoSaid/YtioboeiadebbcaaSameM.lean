/- Commands held against each other: ref SameCmds; slices.EqualFunc at commands. -/
import Derived.Test.YtioboeiadebbcaaSameC
namespace Go.Proofs.Ytioboeiadebbcaa
open Go.ChangeShapes Go.WideShapes Go.ChangeAt Go.RowKit Go.Mem
set_option linter.unusedVariables false
set_option maxHeartbeats 4000000 in
theorem same_cmd (x y : CmdV) (ax ay : Option Addr) (n m cx cy : Nat) (hn : x.comps.length = n) (hm : y.comps.length = m) (h1 : n ≤ 1048576) (h2 : m ≤ 1048576) (hvx : ∀ z ∈ x.comps, z.vals.length ≤ 1048576) (hvy : ∀ z ∈ y.comps, z.vals.length ≤ 1048576) (W : World) (hx : SlAt 2 CompAt W ax x.comps) (hy : SlAt 2 CompAt W ay y.comps) :
    Calls Try.prog 108 #[.agg #[.int .i64 x.dod, .int .i64 x.n, .int .i64 x.gen, .int .i64 x.kind, .slice ax n cx], .agg #[.int .i64 y.dod, .int .i64 y.n, .int .i64 y.gen, .int .i64 y.kind, .slice ay m cy]] W fun e w' => e = .returned (.bool (decide (x = y))) ∧ Below W.heap.size W w' := by
  obtain ⟨d, p, g, q, l⟩ := x
  obtain ⟨d', p', g', q', k⟩ := y
  simp only at hn hm hx hy hvx hvy ⊢
  obtain ⟨R, hR⟩ : ∃ R, R = decide ((⟨d, p, g, q, l⟩ : CmdV) = ⟨d', p', g', q', k⟩) := ⟨_, rfl⟩
  rw [← hR]
  have HC := Lib.hid (eqf_comps l k ax ay n m cx cy hn hm h1 h2 hvx hvy)
  have HX := Lib.hid hx
  have HY := Lib.hid hy
  have HR := Lib.hid hR
  clear hn hm hx hy hR hvx hvy
  have hb0 := ((Below.refl W.heap.size W).alloc (Nat.le_refl _) (.cells #[.int .i64 d, .int .i64 p, .int .i64 g, .int .i64 q, .slice ax n cx] 75)).alloc (by simp) (.cells #[.int .i64 d', .int .i64 p', .int .i64 g', .int .i64 q', .slice ay m cy] 75)
  have HB0 := Lib.hid hb0
  clear hb0
  by_cases e1 : d = d'
  · subst e1
    by_cases e2 : p = p'
    · subst e2
      by_cases e3 : g = g'
      · subst e3
        by_cases e4 : q = q'
        · subst e4
          obtain ⟨S, hS⟩ : ∃ S, S = decide (l = k) := ⟨_, rfl⟩
          rw [← hS] at HC
          have HRS := Lib.hid (show R = S by rw [HR.out, hS]; simp)
          clear hS
          go_enter Try.func108, Try.ntmps108
          go_wp2_with fail
          refine (HC.out _ (HX.out.below CompAt.abides HB0.out) (HY.out.below CompAt.abides HB0.out)).mono ?_
          rintro e w1 ⟨rfl, hb1⟩
          have HB1 := Lib.hid (HB0.out.trans (hb1.mono (by simp; omega)))
          clear hb1
          go_wp2_with fail
          go_ret
          exact ⟨by rw [HRS.out]; rfl, HB1.out⟩
        · have t1 : (q == q') = false := by rw [beq_eq_false_iff_ne]; exact e4
          have HF := Lib.hid (show R = false by rw [HR.out, decide_eq_false_iff_not]; intro h; injection h; contradiction)
          clear e4
          go_enter Try.func108, Try.ntmps108
          go_wp2_with fail
          go_ret
          exact ⟨by rw [HF.out]; rfl, HB0.out⟩
      · have t1 : (g == g') = false := by rw [beq_eq_false_iff_ne]; exact e3
        have HF := Lib.hid (show R = false by rw [HR.out, decide_eq_false_iff_not]; intro h; injection h; contradiction)
        clear e3
        go_enter Try.func108, Try.ntmps108
        go_wp2_with fail
        go_ret
        exact ⟨by rw [HF.out]; rfl, HB0.out⟩
    · have t1 : (p == p') = false := by rw [beq_eq_false_iff_ne]; exact e2
      have HF := Lib.hid (show R = false by rw [HR.out, decide_eq_false_iff_not]; intro h; injection h; contradiction)
      clear e2
      go_enter Try.func108, Try.ntmps108
      go_wp2_with fail
      go_ret
      exact ⟨by rw [HF.out]; rfl, HB0.out⟩
  · have t1 : (d == d') = false := by rw [beq_eq_false_iff_ne]; exact e1
    have HF := Lib.hid (show R = false by rw [HR.out, decide_eq_false_iff_not]; intro h; injection h; contradiction)
    clear e1
    go_enter Try.func108, Try.ntmps108
    go_wp2_with fail
    go_ret
    exact ⟨by rw [HF.out]; rfl, HB0.out⟩
-- TURNED by gen_samem.py
theorem eqf_cmds_ne {l k : List CmdV} {n : Nat} (hl : l.length = n) (hk : k.length = n) (i : Nat) (hi : i < n) (h : l[i]'(by omega) ≠ k[i]'(by omega)) : decide (l = k) = false := by
  rw [decide_eq_false_iff_not]; rintro rfl; exact h rfl
theorem eqf_cmds_eq {l k : List CmdV} {n : Nat} (hl : l.length = n) (hk : k.length = n) (h : ∀ i (hi : i < n), l[i]'(by omega) = k[i]'(by omega)) : decide (l = k) = true := by
  rw [decide_eq_true_iff]; exact List.ext_getElem (by omega) (fun i h1 h2 => h i (by omega))
set_option maxHeartbeats 4000000 in
theorem eqf_cmds (l k : List CmdV) (a b : Option Addr) (n m ca cb : Nat) (hn : l.length = n) (hm : k.length = m) (h1 : n ≤ 1048576) (h2 : m ≤ 1048576) (hvl : ∀ z ∈ l, z.comps.length ≤ 1048576 ∧ ∀ c ∈ z.comps, c.vals.length ≤ 1048576) (hvk : ∀ z ∈ k, z.comps.length ≤ 1048576 ∧ ∀ c ∈ z.comps, c.vals.length ≤ 1048576) (W : World) (hz : SlAt 5 CmdAt W a l) (hy : SlAt 5 CmdAt W b k) :
    Calls Try.prog 107 #[.slice a n ca, .slice b m cb, .func (.func 108) #[] #[]] W fun e w' => e = .returned (.bool (decide (l = k))) ∧ Below W.heap.size W w' := by
  obtain ⟨R, hR⟩ : ∃ R, R = decide (l = k) := ⟨_, rfl⟩
  rw [← hR]
  have HR := Lib.hid hR
  have HN := Lib.hid hn
  have HM := Lib.hid hm
  have HZ := Lib.hid hz
  have HY := Lib.hid hy
  have HVL := Lib.hid hvl
  have HVK := Lib.hid hvk
  clear hR hn hm hz hy hvl hvk
  by_cases hnm : n = m
  · subst hnm
    have t0 : ((n : Int) != (n : Int)) = false := by simp
    go_enter Try.func107, Try.ntmps107
    go_wp2_with fail
    go_loopg [7, 8, 9, 17] n (fun gk v7 v8 v9 vi wx => ∃ i : Nat, i ≤ n ∧ gk = n - i ∧ vi = .int .i64 i ∧ (∀ j (h : j < n), j < i → l[j]'(by rw [HN.out]; exact h) = k[j]'(by rw [HM.out]; exact h)) ∧ Below W.heap.size W wx)
    case atStart => exact ⟨0, Nat.zero_le _, rfl, rfl, fun j h h2 => absurd h2 (by omega), Below.refl _ _⟩
    case round =>
      obtain ⟨i, hi, g2, rfl, hat, hb⟩ := hrel
      have G2 := Lib.hid g2
      have HAT := Lib.hid hat
      have HB := Lib.hid hb
      clear g2 hat hb
      by_cases hlt : i < n
      · obtain ⟨x, rfl, hx, hix⟩ := (HZ.out.below CmdAt.abides HB.out) (by rw [HN.out]; omega)
        obtain ⟨y, rfl, hy, hiy⟩ := (HY.out.below CmdAt.abides HB.out) (by rw [HM.out]; omega)
        have kx := hix i (by rw [HN.out]; exact hlt)
        have ky := hiy i (by rw [HM.out]; exact hlt)
        obtain ⟨X, hX⟩ : ∃ X, X = l[i]'(by rw [HN.out]; exact hlt) := ⟨_, rfl⟩
        obtain ⟨Y, hY⟩ : ∃ Y, Y = k[i]'(by rw [HM.out]; exact hlt) := ⟨_, rfl⟩
        rw [← hX] at kx
        rw [← hY] at ky
        have HX := Lib.hid hX
        have HY2 := Lib.hid hY
        clear hix hiy hX hY
        obtain ⟨x0, x1, x2, x3, ax, cx, x4, xi⟩ := kx
        obtain ⟨y0, y1, y2, y3, ay, cy, y4, yi⟩ := ky
        have hv1 := HVL.out X (by rw [HX.out]; exact List.getElem_mem _)
        have hv2 := HVK.out Y (by rw [HY2.out]; exact List.getElem_mem _)
        have hb1 := (Below.refl wr.heap.size wr).alloc (Nat.le_refl _) (.cells #[.int .i64 X.dod, .int .i64 X.n, .int .i64 X.gen, .int .i64 X.kind, .slice ax X.comps.length cx] 75)
        have hb2 := hb1.alloc (by simp) (.cells #[.int .i64 Y.dod, .int .i64 Y.n, .int .i64 Y.gen, .int .i64 Y.kind, .slice ay Y.comps.length cy] 75)
        have z0 := cell_abides y0 hb1
        have z1 := cell_abides y1 hb1
        have z2 := cell_abides y2 hb1
        have z3 := cell_abides y3 hb1
        have z4 := cell_abides y4 hb1
        obtain ⟨S, hS⟩ : ∃ S, S = decide (X = Y) := ⟨_, rfl⟩
        have HC := Lib.hid (same_cmd X Y ax ay _ _ cx cy rfl rfl hv1.1 hv2.1 hv1.2 hv2.2 _ (xi.below CompAt.abides hb2) (yi.below CompAt.abides hb2))
        rw [← hS] at HC
        have HS := Lib.hid hS
        have HB2 := Lib.hid hb2
        clear hb1 hb2 hS xi yi y0 y1 y2 y3 y4 hv1 hv2
        go_wp2_with fail
        refine HC.out.mono ?_
        rintro e w1 ⟨rfl, hb1⟩
        have HB3 := Lib.hid (HB.out.trans ((HB2.out.trans (hb1.mono (by simp; omega))).mono HB.out.size))
        clear hb1 HC
        cases S
        · have HF := Lib.hid (show R = false by rw [HR.out]; exact eqf_cmds_ne HN.out HM.out i hlt (by rw [← HX.out, ← HY2.out]; exact of_decide_eq_false HS.out.symm))
          go_wp2_with fail
          go_ret
          exact ⟨by rw [HF.out]; rfl, HB3.out⟩
        · have HE := Lib.hid (of_decide_eq_true HS.out.symm)
          go_wp2_with fail
          go_roundg (n - (i + 1))
          case measure => rw [G2.out]; omega
          case rel => exact ⟨i + 1, hlt, rfl, by go_num, fun j h hj => by
            by_cases hji : j < i
            · exact HAT.out j h hji
            · obtain rfl : j = i := by omega
              rw [← HX.out, ← HY2.out]; exact HE.out, HB3.out⟩
      · have hie : i = n := by omega
        have HF := Lib.hid (show R = true by rw [HR.out]; exact eqf_cmds_eq HN.out HM.out (fun j h => HAT.out j h (by omega)))
        clear hie
        go_wp2_with fail
        go_ret
        exact ⟨by rw [HF.out]; rfl, HB.out⟩
  · have t0 : ((n : Int) != (m : Int)) = true := by rw [bne_iff_ne]; omega
    have HF := Lib.hid (show R = false by rw [HR.out, decide_eq_false_iff_not]; rintro rfl; exact hnm (HN.out.symm.trans HM.out))
    clear hnm
    go_enter Try.func107, Try.ntmps107
    go_wp2_with fail
    go_ret
    exact ⟨by rw [HF.out]; rfl, Below.refl _ _⟩
theorem ref_SameCmds (l k : List CmdV) (a b : Option Addr) (n m ca cb : Nat) (hn : l.length = n) (hm : k.length = m) (h1 : n ≤ 1048576) (h2 : m ≤ 1048576) (hvl : ∀ z ∈ l, z.comps.length ≤ 1048576 ∧ ∀ c ∈ z.comps, c.vals.length ≤ 1048576) (hvk : ∀ z ∈ k, z.comps.length ≤ 1048576 ∧ ∀ c ∈ z.comps, c.vals.length ≤ 1048576) (W : World) (hz : SlAt 5 CmdAt W a l) (hy : SlAt 5 CmdAt W b k) :
    Calls Try.prog 52 #[.slice a n ca, .slice b m cb] W fun e w' => e = .returned (.bool (decide (l = k))) ∧ Below W.heap.size W w' := by
  have HC := Lib.hid (eqf_cmds l k a b n m ca cb hn hm h1 h2 hvl hvk W hz hy)
  obtain ⟨S, hS⟩ : ∃ S, S = decide (l = k) := ⟨_, rfl⟩
  rw [← hS] at HC ⊢
  clear hS hn hm h1 h2 hvl hvk hz hy
  go_enter Try.func52, Try.ntmps52
  go_wp2_with fail
  refine HC.out.mono ?_
  rintro e w1 ⟨rfl, hb1⟩
  go_wp2_with fail
  go_ret
  exact ⟨rfl, hb1⟩
end Go.Proofs.Ytioboeiadebbcaa
