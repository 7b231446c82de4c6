/- slices.Compare at two lists of one length; the law's ahead. -/
import Derived.Test.YtlahmcbaiebapaaEvL
namespace Go.Proofs.Ytlahmcbaiebapaa
open Go.ChangeShapes Go.WideShapes Go.ChangeAt Go.RowKit Go.Mem Go.Slt
set_option linter.unusedVariables false
set_option maxHeartbeats 4000000 in
theorem cmp_lists (xs ys : List Int) (a b : Option Addr) (n ca cb : Nat) (hn : xs.length = n) (hm : ys.length = n) (h1 : n ≤ 1048576) (W : World) (hx : IntsAt .i64 W a xs) (hy : IntsAt .i64 W b ys) :
    Calls Try.prog 108 #[.slice a n ca, .slice b n cb] W fun e w' => e = .returned (.int .i64 (orI (List.zipWith cmpI xs ys))) ∧ Below W.heap.size W w' := by
  have HN := Lib.hid hn
  have HM := Lib.hid hm
  have HX := Lib.hid hx
  have HY := Lib.hid hy
  have hzl : (List.zipWith cmpI xs ys).length = n := by rw [List.length_zipWith, hn, hm]; exact Nat.min_self n
  have HZL := Lib.hid hzl
  obtain ⟨zs, hzs⟩ : ∃ zs, zs = List.zipWith cmpI xs ys := ⟨_, rfl⟩
  rw [← hzs] at HZL ⊢
  have HZ := Lib.hid hzs
  clear hn hm hx hy hzl hzs
  go_enter Try.func108, Try.ntmps108
  go_wp2_with fail
  go_loopg [11] n (fun gk vi wx => ∃ i : Nat, i ≤ n ∧ gk = n - i ∧ vi = .int .i64 i ∧ Hid (∀ j (h : j < zs.length), j < i → zs[j] = 0) ∧ Hid (Below W.heap.size W wx))
  case atStart => exact ⟨0, Nat.zero_le _, rfl, rfl, Lib.hid (fun j h h2 => absurd h2 (by omega)), Lib.hid (Below.refl _ _)⟩
  case round =>
    obtain ⟨i, hi, g2, rfl, HAT, HB⟩ := hrel
    have G2 := Lib.hid g2
    clear g2
    by_cases hlt : i < n
    · obtain ⟨x, rfl, hx, hix⟩ := (HX.out.below HB.out) (by rw [HN.out]; omega)
      obtain ⟨y, rfl, hy, hiy⟩ := (HY.out.below HB.out) (by rw [HM.out]; omega)
      have c0 := hix i (by rw [HN.out]; exact hlt)
      have c1 := hiy i (by rw [HM.out]; exact hlt)
      obtain ⟨p, hp⟩ : ∃ p, p = xs.getD i 0 := ⟨_, rfl⟩
      obtain ⟨q, hq⟩ : ∃ p, p = ys.getD i 0 := ⟨_, rfl⟩
      have hz : zs[i]'(by rw [HZL.out]; exact hlt) = cmpI p q := by
        simp only [HZ.out, List.getElem_zipWith]
        rw [hp, hq, List.getD_eq_getElem?_getD, List.getElem?_eq_getElem (by rw [HN.out]; exact hlt), List.getD_eq_getElem?_getD, List.getElem?_eq_getElem (by rw [HM.out]; exact hlt)]
        rfl
      rw [← hp] at c0
      rw [← hq] at c1
      have HC := Lib.hid (cmp_ints p q wr)
      obtain ⟨k, hk⟩ : ∃ k, k = cmpI p q := ⟨_, rfl⟩
      rw [← hk] at HC hz
      have HK := Lib.hid hz
      have i1 : (0 : Int) ≤ (i : Int) := by omega
      have i2 : (i : Int) < (n : Int) := by omega
      clear hix hiy hp hq hk hz
      by_cases h0 : k = 0
      · have t1 : (k != 0) = false := by rw [h0]; rfl
        have HE := Lib.hid (HK.out.trans h0)
        clear h0
        go_wp2_with fail
        refine HC.out.mono ?_
        rintro e w5 ⟨rfl, rfl⟩
        go_wp2_with fail
        go_roundg (n - (i + 1))
        case measure => rw [G2.out]; omega
        case rel => exact ⟨i + 1, hlt, rfl, by go_num, Lib.hid (fun j h hj => by
          by_cases hji : j < i
          · exact HAT.out j h hji
          · obtain rfl : j = i := by omega
            exact HE.out), HB⟩
      · have t1 : (k != 0) = true := bne_iff_ne.2 h0
        have HE := Lib.hid (orI_at zs i (by rw [HZL.out]; exact hlt) HAT.out (by rw [HK.out]; exact h0))
        clear h0
        go_wp2_with fail
        refine HC.out.mono ?_
        rintro e w5 ⟨rfl, rfl⟩
        go_wp2_with fail
        go_ret
        exact ⟨by rw [HE.out, HK.out]; rfl, HB.out⟩
    · have HE := Lib.hid (orI_no zs (fun j hj => HAT.out j hj (by rw [HZL.out] at hj; omega)))
      go_wp2_with fail
      go_ret
      exact ⟨by rw [HE.out]; rfl, HB.out⟩
set_option maxHeartbeats 4000000 in
theorem l_ahead (x y : EvV) (W : World) :
    Calls Try.prog 60 #[evA x, evA y] W fun e w' => e = .returned (.bool (decide (ordE x y < 0))) ∧ Below W.heap.size W w' := by
  obtain ⟨xs, xn, xg, xv⟩ := x
  obtain ⟨ys, yn, yg, yv⟩ := y
  unfold evA ordE
  dsimp only
  have hb0 := ((((Below.refl W.heap.size W).alloc (Nat.le_refl _) (.cells #[.int .i64 xs, .int .i64 xn, .int .i64 xg, .int .i64 xv] 99)).alloc (by simp) (.cells #[.int .i64 ys, .int .i64 yn, .int .i64 yg, .int .i64 yv] 99)).alloc (by simp; omega) (.cells #[.int .i64 xs, .int .i64 xn, .int .i64 xg] 3)).alloc (by simp; omega) (.cells #[.int .i64 ys, .int .i64 yn, .int .i64 yg] 3)
  have HB0 := Lib.hid hb0
  have hr0 : RowB ((((W.alloc (.cells #[.int .i64 xs, .int .i64 xn, .int .i64 xg, .int .i64 xv] 99)).alloc (.cells #[.int .i64 ys, .int .i64 yn, .int .i64 yg, .int .i64 yv] 99)).alloc (.cells #[.int .i64 xs, .int .i64 xn, .int .i64 xg] 3)).alloc (.cells #[.int .i64 ys, .int .i64 yn, .int .i64 yg] 3)) (W.heap.size + 1 + 1) 3 .i64 [xs, xn, xg] := by
    have h := heap_keep (heap_alloc_new ((W.alloc (.cells #[.int .i64 xs, .int .i64 xn, .int .i64 xg, .int .i64 xv] 99)).alloc (.cells #[.int .i64 ys, .int .i64 yn, .int .i64 yg, .int .i64 yv] 99)) (.cells #[.int .i64 xs, .int .i64 xn, .int .i64 xg] 3)) (.cells #[.int .i64 ys, .int .i64 yn, .int .i64 yg] 3)
    simp only [World.size_alloc] at h
    exact h
  have hr1 : RowB ((((W.alloc (.cells #[.int .i64 xs, .int .i64 xn, .int .i64 xg, .int .i64 xv] 99)).alloc (.cells #[.int .i64 ys, .int .i64 yn, .int .i64 yg, .int .i64 yv] 99)).alloc (.cells #[.int .i64 xs, .int .i64 xn, .int .i64 xg] 3)).alloc (.cells #[.int .i64 ys, .int .i64 yn, .int .i64 yg] 3)) (W.heap.size + 1 + 1 + 1) 3 .i64 [ys, yn, yg] := by
    have h := heap_alloc_new (((W.alloc (.cells #[.int .i64 xs, .int .i64 xn, .int .i64 xg, .int .i64 xv] 99)).alloc (.cells #[.int .i64 ys, .int .i64 yn, .int .i64 yg, .int .i64 yv] 99)).alloc (.cells #[.int .i64 xs, .int .i64 xn, .int .i64 xg] 3)) (.cells #[.int .i64 ys, .int .i64 yn, .int .i64 yg] 3)
    simp only [World.size_alloc] at h
    exact h
  have CC := cmp_lists [xs, xn, xg] [ys, yn, yg] (some ⟨W.heap.size + 1 + 1, 0, none⟩) (some ⟨W.heap.size + 1 + 1 + 1, 0, none⟩) 3 3 3 rfl rfl (by decide) _ hr0.ints hr1.ints
  obtain ⟨R, hR⟩ : ∃ R, R = orI [cmpI xs ys, cmpI xn yn, cmpI xg yg] := ⟨_, rfl⟩
  rw [show orI (List.zipWith cmpI [xs, xn, xg] [ys, yn, yg]) = R from hR.symm] at CC
  rw [← hR]
  have HCC := Lib.hid CC
  clear hb0 hr0 hr1 CC hR
  go_enter Try.func60, Try.ntmps60
  go_wp2_with fail
  refine HCC.out.mono ?_
  rintro e w1 ⟨rfl, hb⟩
  have HB1 := Lib.hid (HB0.out.trans (hb.mono HB0.out.size))
  clear hb HCC
  by_cases h : R < 0
  · have HR := Lib.hid (decide_eq_true h)
    go_wp2_with fail
    go_ret
    exact ⟨by rw [HR.out]; rfl, HB1.out⟩
  · have HR := Lib.hid (decide_eq_false h)
    go_wp2_with fail
    go_ret
    exact ⟨by rw [HR.out]; rfl, HB1.out⟩
end Go.Proofs.Ytlahmcbaiebapaa
