/- Lemmas for the law SystemChecks: SystErr. No conditions. -/
import Derived.Test.YtijeninfmjhbnaaDoorM13
import Derived.Test.YtijeninfmjhbnaaDoorM19
import Derived.Test.YtijeninfmjhbnaaDoorM30
import Derived.Test.YtijeninfmjhbnaaDoorM11
import Derived.Test.YtijeninfmjhbnaaDoorM07
import Derived.Test.YtijeninfmjhbnaaDoorM03
/- tourref3.SystemError. -/
section
namespace Go.Proofs.YtijeninfmjhbnaaDoor
open Go.ChangeShapes Go.WideShapes Go.ChangeAt Go.RowKit Go.Nm Go.Mem Go.Maps
set_option linter.unusedVariables false
set_option maxHeartbeats 16000000 in
set_option maxRecDepth 100000 in
theorem ref_SystemError (ks : List KindV) (ka : Option Addr) (n kc : Nat) (hn : ks.length = n) (h1 : n ≤ 1048576) (s : SystV) (v : Value) (W : World) (hz : SlAt 2 KindAt W ka ks) (hv : SystIn W v s) (hs : SmallS s) :
    Calls Tryd.prog 8 #[.slice ka n kc, v] W fun e w' => e = .returned (.int .i64 (sysE ks s)) ∧ Below W.heap.size W w' := by
  obtain ⟨a1, c1, a2, c2, a3, c3, a4, c4, a5, c5, a6, c6, rfl, ⟨i1, i2, i3, i4, i5, i6⟩, ⟨p1, p2, p3, p4, p5, p6⟩, ⟨m1, m2, m3, m4, m5, m6⟩, m0⟩ := hv.out
  obtain ⟨R, hR⟩ : ∃ R, R = sysE ks s := ⟨_, rfl⟩
  rw [← hR]
  obtain ⟨nm, hnm⟩ : ∃ x, x = s.name := ⟨_, rfl⟩
  obtain ⟨n1, hn1⟩ : ∃ x, x = s.withs.length := ⟨_, rfl⟩
  obtain ⟨n2, hn2⟩ : ∃ x, x = s.without.length := ⟨_, rfl⟩
  obtain ⟨n3, hn3⟩ : ∃ x, x = s.reads.length := ⟨_, rfl⟩
  obtain ⟨n4, hn4⟩ : ∃ x, x = s.writes.length := ⟨_, rfl⟩
  obtain ⟨n5, hn5⟩ : ∃ x, x = s.ops.length := ⟨_, rfl⟩
  obtain ⟨n6, hn6⟩ : ∃ x, x = s.spawn.length := ⟨_, rfl⟩
  rw [← hnm, ← hn1, ← hn2, ← hn3, ← hn4, ← hn5, ← hn6]
  have hb0 := (Below.refl W.heap.size W).alloc (Nat.le_refl _) (.cells #[.string nm, .slice a1 n1 c1, .slice a2 n2 c2, .slice a3 n3 c3, .slice a4 n4 c4, .slice a5 n5 c5, .slice a6 n6 c6] 27)
  have hrow := heap_alloc_new W (.cells #[.string nm, .slice a1 n1 c1, .slice a2 n2 c2, .slice a3 n3 c3, .slice a4 n4 c4, .slice a5 n5 c5, .slice a6 n6 c6] 27)
  obtain ⟨w0, hw0⟩ : ∃ w, w = W.alloc (.cells #[.string nm, .slice a1 n1 c1, .slice a2 n2 c2, .slice a3 n3 c3, .slice a4 n4 c4, .slice a5 n5 c5, .slice a6 n6 c6] 27) := ⟨_, rfl⟩
  rw [← hw0] at hb0 hrow
  have HW0 := Lib.hid hw0
  obtain ⟨g, hg⟩ : ∃ g, g = W.heap.size := ⟨_, rfl⟩
  rw [← hg] at hrow
  have HG := Lib.hid hg
  have HB := Lib.hid hb0
  have HROW := Lib.hid hrow
  have HI1 := Lib.hid i1
  have HI2 := Lib.hid i2
  have HI3 := Lib.hid i3
  have HI4 := Lib.hid i4
  have HI5 := Lib.hid i5
  have HI6 := Lib.hid i6
  have HN := Lib.hid hn
  have H1 := Lib.hid h1
  have HZ := Lib.hid hz
  have HS := Lib.hid hs
  have HNM := Lib.hid hnm
  have HN1 := Lib.hid hn1
  have HN2 := Lib.hid hn2
  have HN3 := Lib.hid hn3
  have HN4 := Lib.hid hn4
  have HN5 := Lib.hid hn5
  have HN6 := Lib.hid hn6
  have HR := Lib.hid hR
  obtain ⟨K, hK⟩ : ∃ K, K = kindsE ks := ⟨_, rfl⟩
  have cK := ref_KindsError ks ka n kc hn (by omega) w0 (hz.below KindAt.abides hb0)
  rw [← hK] at cK
  have CK := Lib.hid cK
  have HK := Lib.hid hK
  clear hb0 hrow hw0 hg i1 i2 i3 i4 i5 i6 p1 p2 p3 p4 p5 p6 m1 m2 m3 m4 m5 m6 m0 hn h1 hz hs hnm hn1 hn2 hn3 hn4 hn5 hn6 hR cK hK hv
  go_enter Tryd.func8, Tryd.ntmps8
  go_wp2_with fail
  rw [← HW0.out, ← HG.out]
  refine CK.out.mono ?_
  rintro e w1 ⟨rfl, hb1⟩
  replace HB := Lib.hid (bt HB.out hb1)
  replace HROW := Lib.hid (heap_below HROW.out hb1)
  clear hb1 CK HW0
  by_cases hK0 : K = 0
  · have hR1 := HR.out
    unfold sysE at hR1
    rw [if_neg (by rw [← HK.out, hK0]; simp)] at hR1
    have HR1 := Lib.hid hR1
    subst hK0
    have t0 : ((0 : Int) != 0) = false := rfl
    obtain ⟨NB, hNB⟩ : ∃ b, b = nameB nm.data.toList := ⟨_, rfl⟩
    have cN := ref_IsName nm (by rw [HNM.out]; exact HS.out.nm) w1
    rw [← hNB] at cN
    have CN := Lib.hid cN
    have r0 := cell_of_row _ _ 0 _ _ _ HROW.out
    have HNB := Lib.hid hNB
    clear hR1 cN hNB HR
    go_wp2_with fail
    refine CN.out.mono ?_
    rintro e w1b ⟨rfl, hb1⟩
    replace HB := Lib.hid (bt HB.out hb1)
    replace HROW := Lib.hid (heap_below HROW.out hb1)
    have r5 := cell_of_row _ _ 5 _ _ _ HROW.out
    clear CN t0 r0 hb1
    cases NB with
    | false =>
      have HE := Lib.hid (show R = 3 by rw [HR1.out]; unfold sy1; rw [if_pos (by rw [← HNM.out]; exact HNB.out.symm)])
      clear HR1
      go_wp2_with fail
      go_ret
      exact ⟨by rw [HE.out]; rfl, HB.out⟩
    | true =>
      have hR2 := HR1.out
      unfold sy1 at hR2
      rw [if_neg (by rw [← HNM.out, ← HNB.out]; decide), ← HN5.out] at hR2
      by_cases h20 : 20 < n5
      · have HE := Lib.hid (show R = 2 by rw [hR2, if_pos h20])
        clear HR1 hR2
        go_wp2_with fail
        go_ret
        exact ⟨by rw [HE.out]; rfl, HB.out⟩
      · rw [if_neg h20] at hR2
        have HR2 := Lib.hid hR2
        have hbm := (Below.refl w1b.heap.size w1b).alloc (Nat.le_refl _) (.map #[] 0)
        have hmade := HasM.made w1b
        have hrowm := heap_below HROW.out hbm
        obtain ⟨wm, hwm⟩ : ∃ w, w = w1b.alloc (.map #[] 0) := ⟨_, rfl⟩
        rw [← hwm] at hbm hmade hrowm
        have hsz : wm.heap.size = w1b.heap.size + 1 := by rw [hwm, World.size_alloc]
        have r1 := cell_of_row _ _ 1 _ _ _ hrowm
        have r2 := cell_of_row _ _ 2 _ _ _ hrowm
        have r3 := cell_of_row _ _ 3 _ _ _ hrowm
        have r4 := cell_of_row _ _ 4 _ _ _ hrowm
        have hb2 := (Below.refl wm.heap.size wm).alloc (Nat.le_refl _) (.cells #[.slice a1 n1 c1, .slice a2 n2 c2, .slice a3 n3 c3, .slice a4 n4 c4] 23)
        have hl4 := heap_alloc_new wm (.cells #[.slice a1 n1 c1, .slice a2 n2 c2, .slice a3 n3 c3, .slice a4 n4 c4] 23)
        obtain ⟨w2, hw2⟩ : ∃ w, w = wm.alloc (.cells #[.slice a1 n1 c1, .slice a2 n2 c2, .slice a3 n3 c3, .slice a4 n4 c4] 23) := ⟨_, rfl⟩
        obtain ⟨M, hM⟩ : ∃ M, M = w1b.heap.size := ⟨_, rfl⟩
        rw [← hM] at hmade hsz
        obtain ⟨g4, hg4⟩ : ∃ g, g = M + 1 := ⟨_, rfl⟩
        rw [hsz, ← hg4] at hl4
        rw [← hw2] at hb2 hl4
        have hm2 : HasP w2 M 0 (PL s 0 0 []) := ⟨0, _, Nat.le_refl _, hmade.below hb2, fun z => ⟨fun h => (by cases h), fun h => absurd h (PL_start s [] z)⟩⟩
        rw [hwm] at r1 r2 r3 r4
        rw [hwm] at hw2
        have HL4 := Lib.hid hl4
        have HW2 := Lib.hid hw2
        have HM := Lib.hid hM
        have HG4 := Lib.hid hg4
        have HM2 := Lib.hid hm2
        have HBM := Lib.hid (show Below M w1b w2 by rw [hM]; exact bt hbm hb2)
        have hmk := @run_makeMap Tryd.prog
        clear hR2 HR1 hb2 hbm hl4 hw2 hg4 hmade hwm hsz hM hm2 hrowm
        go_wp2_with fail
        rw [← HW2.out, ← HM.out, ← HG4.out]
        clear r1 r2 r3 r4 r5 HW2 h20 hmk
        obtain ⟨SG, hSG⟩ : ∃ x, x = setsGo n (fourL s) := ⟨_, rfl⟩
        have hR3 := HR2.out
        unfold sy2 at hR3
        rw [HN.out, ← hSG] at hR3
        have HR3 := Lib.hid hR3
        have HSG := Lib.hid hSG
        have HFOUR := Lib.hid (show ∀ i, i < 4 → ∃ a c l, (fourL s).drop i = l :: (fourL s).drop (i + 1) ∧ (fourL s).getD i [] = l ∧ (∀ w : World, w.heap[g4]? = some (.cells #[.slice a1 n1 c1, .slice a2 n2 c2, .slice a3 n3 c3, .slice a4 n4 c4] 23) → w.cell? ⟨g4, i, none⟩ = some (.slice a l.length c)) ∧ IntsAt .i64 W a l ∧ l.length ≤ 1048576 from fun i hi => by
          rcases (show i = 0 ∨ i = 1 ∨ i = 2 ∨ i = 3 by omega) with rfl | rfl | rfl | rfl
          · exact ⟨a1, c1, s.withs, rfl, rfl, fun w h => by rw [← HN1.out]; exact cell_of_row _ _ 0 _ _ _ h, HI1.out, HS.out.w⟩
          · exact ⟨a2, c2, s.without, rfl, rfl, fun w h => by rw [← HN2.out]; exact cell_of_row _ _ 1 _ _ _ h, HI2.out, HS.out.wo⟩
          · exact ⟨a3, c3, s.reads, rfl, rfl, fun w h => by rw [← HN3.out]; exact cell_of_row _ _ 2 _ _ _ h, HI3.out, HS.out.r⟩
          · exact ⟨a4, c4, s.writes, rfl, rfl, fun w h => by rw [← HN4.out]; exact cell_of_row _ _ 3 _ _ _ h, HI4.out, HS.out.wr⟩)
        obtain ⟨BB, hBB⟩ : ∃ b, b = 1048576 := ⟨_, rfl⟩
        have HBB := Lib.hid hBB
        clear hR3 HR2 hSG HNB hBB
        go_loopg [7, 8, 9, 11, 45] 4 (fun gk _ _ _ _ vi wx => ∃ i : Nat, i ≤ 4 ∧ gk = 4 - i ∧ vi = .int .i64 i ∧ Hid (setsGo n ((fourL s).drop i) = SG) ∧ Hid (HasP wx M (i * BB) (PL s i 0 [])) ∧ Hid (Below M w1b wx) ∧ Hid (wx.heap[g4]? = some (.cells #[.slice a1 n1 c1, .slice a2 n2 c2, .slice a3 n3 c3, .slice a4 n4 c4] 23)))
        case atStart => exact ⟨0, by omega, rfl, rfl, Lib.hid HSG.out.symm, Lib.hid (HM2.out.iff (Nat.zero_le _) (fun z => Iff.rfl)), HBM, HL4⟩
        case round =>
          clear HM2 HBM HL4
          obtain ⟨i, hi, g2, rfl, HGO, HP, HBL, HL⟩ := hrel
          have G2 := Lib.hid g2
          clear g2
          by_cases hlt : i < 4
          · obtain ⟨la, lc, ll, hdr, hgd, hcl, hil, hll⟩ := HFOUR.out i hlt
            have q0 := hcl wr HL.out
            obtain ⟨lm, hlm⟩ : ∃ m, m = ll.length := ⟨_, rfl⟩
            rw [← hlm] at q0 hll
            have hgo := HGO.out
            rw [hdr] at hgo
            unfold setsGo at hgo
            obtain ⟨SE, hSE⟩ : ∃ x, x = setE n ll := ⟨_, rfl⟩
            rw [← hSE] at hgo
            have HGO2 := Lib.hid hgo
            have HSE := Lib.hid (show setGo n (-1) (ll.drop 0) = SE by rw [hSE]; rfl)
            have HLM := Lib.hid hlm
            have HLL := Lib.hid hll
            have HGD := Lib.hid hgd
            have HIL := Lib.hid hil
            have HLT := Lib.hid (show ∃ k, i + 1 + k = 4 from ⟨4 - (i + 1), by omega⟩)
            have HI4 := Lib.hid hlt
            have HPX := Lib.hid (show HasP wr M (i * BB + 0) (PL s i 0 ll) from HP.out.iff (Nat.le_refl _) (fun z => PL_zero))
            have tq := decide_eq_true (show (i : Int) < 4 by omega)
            clear hdr hcl hil hll hlm hgo hSE hgd HGO HP
            go_wp2_with fail
            clear q0
            go_loopg [9, 11, 52] lm (fun gk v9 _ vi wx => ∃ (q : Nat) (lx : Int), q ≤ lm ∧ gk = lm - q ∧ v9 = .int .i64 lx ∧ vi = .int .i64 q ∧ Hid (setGo n lx (ll.drop q) = SE) ∧ Hid (HasP wx M (i * BB + q) (PL s i q ll)) ∧ Hid (Below M w1b wx) ∧ Hid (wx.heap[g4]? = some (.cells #[.slice a1 n1 c1, .slice a2 n2 c2, .slice a3 n3 c3, .slice a4 n4 c4] 23)))
            case atStart => exact ⟨0, -1, Nat.zero_le _, rfl, rfl, rfl, HSE, HPX, HBL, HL⟩
            case round =>
              clear HSE HPX HBL HL
              obtain ⟨q, lx, hq, f2, rfl, rfl, HSQ, HP, HBL, HL⟩ := hrel
              have F2 := Lib.hid f2
              clear f2
              by_cases hql : q < lm
              · obtain ⟨x0, rfl, hx0, hcx⟩ := (HIL.out.below (bt HB.out (show Below w1b.heap.size w1b wr by rw [← HM.out]; exact HBL.out))) (by rw [← HLM.out]; omega)
                obtain ⟨x, hx⟩ : ∃ x, x = ll.getD q 0 := ⟨_, rfl⟩
                have cx := hcx q (by rw [← HLM.out]; exact hql)
                rw [← hx] at cx
                have hsq := HSQ.out
                rw [sysdrop_at ll q (by rw [← HLM.out]; exact hql), ← hx] at hsq
                unfold setGo at hsq
                have HX := Lib.hid hx
                have HQT := Lib.hid (show ∃ k, q + 1 + k = lm from ⟨lm - (q + 1), by omega⟩)
                clear hcx hx HSQ hx0
                by_cases hbad : x < 0 ∨ n ≤ x
                · rw [if_pos hbad] at hsq
                  have HE := Lib.hid (show R = 1 by rw [HR3.out]; have h := HGO2.out; rw [← hsq, if_pos (by decide)] at h; rw [← h, if_pos (by decide)])
                  have HEND := Lib.hid (bt HB.out (show Below w1b.heap.size w1b wr by rw [← HM.out]; exact HBL.out))
                  clear hsq HGO2 HR3
                  by_cases hx0 : x < 0
                  · clear hbad
                    go_wp2_with fail
                    go_ret
                    exact ⟨by rw [HE.out]; rfl, HEND.out⟩
                  · obtain ⟨nn, hnn⟩ : ∃ z, IntKind.i64.wrap ((n : Int) - 1) = z := ⟨_, rfl⟩
                    have hxn : nn < x := by
                      have := H1.out
                      have : IntKind.i64.wrap ((n : Int) - 1) = (n : Int) - 1 := by rw [IntKind.wrap_i64]; omega
                      omega
                    have t1 := decide_eq_false hx0
                    have t2 := decide_eq_true hxn
                    clear hbad hx0 hxn
                    go_wp2_with fail
                    go_ret
                    exact ⟨by rw [HE.out]; rfl, HEND.out⟩
                · rw [if_neg hbad] at hsq
                  have hx0 : ¬ x < 0 := fun h => hbad (Or.inl h)
                  have hxn : x < n := by
                    have : ¬ (n : Int) ≤ x := fun h => hbad (Or.inr h)
                    omega
                  obtain ⟨nn, hnn⟩ : ∃ z, IntKind.i64.wrap ((n : Int) - 1) = z := ⟨_, rfl⟩
                  have hxm : ¬ nn < x := by
                    have := H1.out
                    have : IntKind.i64.wrap ((n : Int) - 1) = (n : Int) - 1 := by rw [IntKind.wrap_i64]; omega
                    omega
                  have HXB := Lib.hid (show 0 ≤ x ∧ x < n ∧ n ≤ 1048576 from ⟨by omega, hxn, H1.out⟩)
                  have t1 := decide_eq_false hx0
                  have t2 := decide_eq_false hxm
                  by_cases hle : x ≤ lx
                  · rw [if_pos hle] at hsq
                    have HE := Lib.hid (show R = 9 by rw [HR3.out]; have h := HGO2.out; rw [← hsq, if_pos (by decide)] at h; rw [← h, if_pos (by decide)])
                    have HEND := Lib.hid (bt HB.out (show Below w1b.heap.size w1b wr by rw [← HM.out]; exact HBL.out))
                    have t3 := decide_eq_true hle
                    clear hsq HGO2 HR3 hbad hx0 hxn hxm
                    go_wp2_with fail
                    go_ret
                    exact ⟨by rw [HE.out]; rfl, HEND.out⟩
                  · rw [if_neg hle] at hsq
                    have HSQ2 := Lib.hid hsq
                    have t3 := decide_eq_false hle
                    obtain ⟨u, hu⟩ : ∃ u, u = 100 * (i : Int) := ⟨_, rfl⟩
                    have u1 : IntKind.i64.wrap (100 * (i : Int)) = u := by rw [IntKind.wrap_i64]; omega
                    obtain ⟨kz, hkz⟩ : ∃ z, z = u + x := ⟨_, rfl⟩
                    have u2 : IntKind.i64.wrap (u + x) = kz := by have := HXB.out; rw [IntKind.wrap_i64]; omega
                    obtain ⟨mm, H, hmm, ⟨D, hown, hD⟩, hiff⟩ := HP.out
                    have hkey := keyOf_int_mk Tryd.underlying3 (wf_int (z := kz) (by have := HXB.out; omega) (by have := HXB.out; omega))
                    have HKZ := Lib.hid (show kz = 100 * (i : Int) + ll.getD q 0 by rw [hkz, hu, HX.out])
                    have HMM := Lib.hid (And.intro hmm (show q ≤ 1048576 by have := HLL.out; omega))
                    have HIFF := Lib.hid hiff
                    have HDD := Lib.hid hD
                    have HI5X := Lib.hid hlt
                    have w9 : IntKind.i64.wrap ((q : Int) + 1) = ((q + 1 : Nat) : Int) := by have := HLL.out; rw [IntKind.wrap_i64]; omega
                    clear hsq hbad hx0 hxn hxm hle hu hkz hmm hD hiff HP
                    go_wp2_with (at_mapUpdate; go_must (refine wpList_mapUpdate_own _ rfl _ _ _ 69 rfl 3 4 keyInt Tryd.underlying69 RV M mm D rfl hown (by have h1 : maxLen = 9223372036854775807 := rfl; have h2 := HMM.out; have h3 := Nat.mul_le_mul_right BB (Nat.le_of_lt HI5X.out); have h4 := HBB.out; generalize i * BB = ib at *; omega) (.int .i64 kz) _ (.int .i64 kz) rfl rfl hkey (.held (.bool true)) [] rfl ?_))
                    intro w' hown' hg'
                    have hbM : Below M w1b w' := HBL.out.grown hg' (Nat.le_of_lt (World.ownsMap.lt hown)) (fun r h => by injection h with h; omega)
                    have hL' : w'.heap[g4]? = some (.cells #[.slice a1 n1 c1, .slice a2 n2 c2, .slice a3 n3 c3, .slice a4 n4 c4] 23) := by
                      rw [hg'.block g4 (lt_of_heap HL.out) (fun h => by injection h with h; have := HG4.out; omega)]
                      exact HL.out
                    have hP' : HasP w' M (i * BB + (q + 1)) (PL s i (q + 1) ll) := ⟨_, _, by have := HMM.out.1; omega, HasM.put hown' ⟨_, _, hown⟩ HDD.out, fun z => by
                      rw [PL_push, ← HKZ.out]
                      by_cases hz : z = kz
                      · rw [if_pos hz]; exact ⟨fun _ => Or.inl hz, fun _ => rfl⟩
                      · rw [if_neg hz, HIFF.out z]; exact ⟨Or.inr, fun h => h.resolve_left hz⟩⟩
                    have HBM' := Lib.hid hbM
                    have HL' := Lib.hid hL'
                    have HP' := Lib.hid hP'
                    clear hown hown' hg' hbM hL' hP' HL HBL t1 t2 t3 u1 u2 hkey cx HIFF HDD HMM hnn HI5X
                    go_wp2_with fail
                    go_roundg (lm - (q + 1))
                    case measure => rw [F2.out]; obtain ⟨k, hk⟩ := HQT.out; omega
                    case rel => obtain ⟨k, hk⟩ := HQT.out; exact ⟨q + 1, x, by omega, rfl, rfl, (by first | rfl | go_num | simp), HSQ2, HP', HBM', HL'⟩
              · obtain rfl : q = lm := by omega
                have hse0 : SE = 0 := by
                  have h := HSQ.out
                  rw [List.drop_eq_nil_of_le (by rw [← HLM.out]; exact Nat.le_refl _)] at h
                  exact h.symm
                have HN2' := Lib.hid (show setsGo n ((fourL s).drop (i + 1)) = SG by have := HGO2.out; rw [if_neg (by rw [hse0]; simp)] at this; exact this)
                have HP' := Lib.hid (show HasP wr M ((i + 1) * BB) (PL s (i + 1) 0 []) from HP.out.iff (by have h1 := HLL.out; have h4 := HBB.out; rw [Nat.succ_mul]; omega) (fun z => by rw [HLM.out]; exact PL_next HGD.out))
                clear hse0 HSQ HGO2 HP
                go_wp2_with fail
                go_roundg (4 - (i + 1))
                case measure => rw [G2.out]; obtain ⟨k, hk⟩ := HLT.out; omega
                case rel => obtain ⟨k, hk⟩ := HLT.out; exact ⟨i + 1, by omega, rfl, by go_num, HN2', HP', HBL, HL⟩
          · obtain rfl : i = 4 := by omega
            have hsg0 : SG = 0 := HGO.out.symm
            have hR4 := HR3.out
            rw [if_neg (by rw [hsg0]; simp)] at hR4
            unfold sy3 at hR4
            have hall := setsGo_all (by rw [← HSG.out]; exact hsg0 : setsGo n (fourL s) = 0)
            have hn16 : n ≤ 16 := by rw [← HN.out]; exact kindsE_len' HK.out.symm
            have HAT0 := Lib.hid (fun (x : Int) (h0 : 0 ≤ x) (h1 : x < n) => PL_is hn16 hall 0 (by omega) s.withs rfl 0 (by omega) x h0 h1)
            have HAT1 := Lib.hid (fun (x : Int) (h0 : 0 ≤ x) (h1 : x < n) => PL_is hn16 hall 1 (by omega) s.without rfl 100 (by omega) x h0 h1)
            have HAT2 := Lib.hid (fun (x : Int) (h0 : 0 ≤ x) (h1 : x < n) => PL_is hn16 hall 2 (by omega) s.reads rfl 200 (by omega) x h0 h1)
            have HAT3 := Lib.hid (fun (x : Int) (h0 : 0 ≤ x) (h1 : x < n) => PL_is hn16 hall 3 (by omega) s.writes rfl 300 (by omega) x h0 h1)
            have HFB := Lib.hid (And.intro (show ∀ x ∈ s.withs, 0 ≤ x ∧ x < n from four_bound hall 0) (And.intro (show ∀ x ∈ s.reads, 0 ≤ x ∧ x < n from four_bound hall 2) (show ∀ x ∈ s.writes, 0 ≤ x ∧ x < n from four_bound hall 3)))
            have HN16 := Lib.hid hn16
            obtain ⟨B1, hB1⟩ : ∃ b, b = s.withs.any fun x => inP x s.without := ⟨_, rfl⟩
            rw [← hB1] at hR4
            have HR4 := Lib.hid hR4
            have HB1 := Lib.hid hB1
            have HBW := Lib.hid (show Below w1b.heap.size w1b wr by rw [← HM.out]; exact HBL.out)
            obtain ⟨w3, hw3⟩ : ∃ w, w = wr := ⟨_, rfl⟩
            have HBT := Lib.hid (show Below W.heap.size W w3 by rw [hw3]; exact bt HB.out HBW.out)
            have HRW := Lib.hid (show w3.heap[g]? = some (.cells #[.string nm, .slice a1 n1 c1, .slice a2 n2 c2, .slice a3 n3 c3, .slice a4 n4 c4, .slice a5 n5 c5, .slice a6 n6 c6] 27) by rw [hw3]; exact heap_below HROW.out HBW.out)
            have HPM := Lib.hid (show HasP w3 M (4 * BB) (PL s 4 0 []) by rw [hw3]; exact HP.out)
            have HW3 := Lib.hid hw3
            clear hR4 HR3 hsg0 hn16 hB1 hall HGO HFOUR HSG G2 HROW HBL HP HBW HL hw3
            go_wp2_with fail
            rw [← HW3.out]
            clear HW3
            go_loopg [12, 78] n (fun gk _ vi wx => ∃ i : Nat, i ≤ n ∧ gk = n - i ∧ vi = .int .i64 i ∧ Hid (∀ x : Int, 0 ≤ x → x < i → ¬ (x ∈ s.withs ∧ x ∈ s.without)) ∧ wx = w3)
            case atStart => exact ⟨0, Nat.zero_le _, rfl, rfl, Lib.hid (fun x h0 h1 => by omega), rfl⟩
            case round =>
              obtain ⟨i, hi, g2, rfl, HNO, hq⟩ := hrel
              have G2 := Lib.hid g2
              rw [hq]
              clear g2 hq
              by_cases hlt : i < n
              · have h16 := HN16.out
                obtain ⟨b0, hb0, l0⟩ := HPM.out.look (i : Int) (by omega) (by omega)
                obtain ⟨kz, hkz⟩ : ∃ z : Int, z = 100 + (i : Int) := ⟨_, rfl⟩
                have u1 : IntKind.i64.wrap (100 + (i : Int)) = kz := by rw [IntKind.wrap_i64]; omega
                obtain ⟨b1, hb1, l1⟩ := HPM.out.look kz (by omega) (by omega)
                have m0 := HAT0.out (i : Int) (by omega) (by omega)
                rw [Int.zero_add] at m0
                rw [hkz, HAT1.out (i : Int) (by omega) (by omega)] at hb1
                rw [m0] at hb0
                have HB0 := Lib.hid hb0
                have HBB1 := Lib.hid hb1
                have HLT := Lib.hid (show ∃ k, i + 1 + k = n from ⟨n - (i + 1), by omega⟩)
                have w9 : IntKind.i64.wrap ((i : Int) + 1) = ((i + 1 : Nat) : Int) := by rw [IntKind.wrap_i64]; omega
                clear hb0 hb1 m0 hkz h16
                cases b0 with
                | false =>
                  have HNO2 := Lib.hid (show ∀ x : Int, 0 ≤ x → x < ((i + 1 : Nat) : Int) → ¬ (x ∈ s.withs ∧ x ∈ s.without) from fun x h0 h1 h => by
                    by_cases hx : x = (i : Int)
                    · rw [hx] at h; have := HB0.out.2 h.1; cases this
                    · exact HNO.out x h0 (by omega) h)
                  clear HB0 HBB1 HNO l1 u1
                  go_wp2_with fail
                  go_roundg (n - (i + 1))
                  case measure => rw [G2.out]; obtain ⟨k, hk⟩ := HLT.out; omega
                  case rel => obtain ⟨k, hk⟩ := HLT.out; exact ⟨i + 1, by omega, rfl, (by first | rfl | go_num | simp), HNO2, rfl⟩
                | true =>
                  cases b1 with
                  | true =>
                    have HE := Lib.hid (show R = 10 by rw [HR4.out, if_pos]; rw [HB1.out, any_inP]; exact ⟨_, HB0.out.1 rfl, HBB1.out.1 rfl⟩)
                    clear HB0 HBB1 HNO
                    go_wp2_with fail
                    go_ret
                    exact ⟨by rw [HE.out]; rfl, HBT.out⟩
                  | false =>
                    have HNO2 := Lib.hid (show ∀ x : Int, 0 ≤ x → x < ((i + 1 : Nat) : Int) → ¬ (x ∈ s.withs ∧ x ∈ s.without) from fun x h0 h1 h => by
                      by_cases hx : x = (i : Int)
                      · rw [hx] at h; have := HBB1.out.2 h.2; cases this
                      · exact HNO.out x h0 (by omega) h)
                    clear HB0 HBB1 HNO
                    go_wp2_with fail
                    go_roundg (n - (i + 1))
                    case measure => rw [G2.out]; obtain ⟨k, hk⟩ := HLT.out; omega
                    case rel => obtain ⟨k, hk⟩ := HLT.out; exact ⟨i + 1, by omega, rfl, (by first | rfl | go_num | simp), HNO2, rfl⟩
              · obtain rfl : i = n := by omega
                have hb1 : B1 = false := by
                  rw [HB1.out, Bool.eq_false_iff]
                  intro h
                  obtain ⟨x, h1, h2⟩ := any_inP.1 h
                  have := HFB.out.1 x h1
                  exact HNO.out x this.1 this.2 ⟨h1, h2⟩
                have hR5 := HR4.out
                rw [if_neg (by rw [hb1]; decide)] at hR5
                unfold sy4 at hR5
                obtain ⟨B2, hB2⟩ : ∃ b, b = (s.reads ++ s.writes).any fun x => outP x s.withs := ⟨_, rfl⟩
                rw [← hB2] at hR5
                have HR5 := Lib.hid hR5
                have HB2 := Lib.hid hB2
                clear hb1 hR5 hB2 HR4 HB1 HNO G2
                go_wp2_with fail
                go_loopg [13, 93] i (fun gk _ vi wx => ∃ j : Nat, j ≤ i ∧ gk = i - j ∧ vi = .int .i64 j ∧ Hid (∀ x : Int, 0 ≤ x → x < j → ¬ x ∈ s.withs → ¬ x ∈ s.reads ∧ ¬ x ∈ s.writes) ∧ wx = w3)
                case atStart => exact ⟨0, Nat.zero_le _, rfl, rfl, Lib.hid (fun x h0 h1 => by omega), rfl⟩
                case round =>
                  obtain ⟨j, hj, g2, rfl, HNO, hq⟩ := hrel
                  have G2 := Lib.hid g2
                  rw [hq]
                  clear g2 hq
                  by_cases hlt : j < i
                  · have h16 := HN16.out
                    obtain ⟨b0, hb0, l0⟩ := HPM.out.look (j : Int) (by omega) (by omega)
                    obtain ⟨k2, hk2⟩ : ∃ z : Int, z = 200 + (j : Int) := ⟨_, rfl⟩
                    obtain ⟨k3, hk3⟩ : ∃ z : Int, z = 300 + (j : Int) := ⟨_, rfl⟩
                    have u2 : IntKind.i64.wrap (200 + (j : Int)) = k2 := by rw [IntKind.wrap_i64]; omega
                    have u3 : IntKind.i64.wrap (300 + (j : Int)) = k3 := by rw [IntKind.wrap_i64]; omega
                    obtain ⟨b2, hb2, l2⟩ := HPM.out.look k2 (by omega) (by omega)
                    obtain ⟨b3, hb3, l3⟩ := HPM.out.look k3 (by omega) (by omega)
                    have m0 := HAT0.out (j : Int) (by omega) (by omega)
                    rw [Int.zero_add] at m0
                    rw [hk2, HAT2.out (j : Int) (by omega) (by omega)] at hb2
                    rw [hk3, HAT3.out (j : Int) (by omega) (by omega)] at hb3
                    rw [m0] at hb0
                    have HB0 := Lib.hid hb0
                    have HBB2 := Lib.hid hb2
                    have HBB3 := Lib.hid hb3
                    have HLT := Lib.hid (show ∃ k, j + 1 + k = i from ⟨i - (j + 1), by omega⟩)
                    have w9 : IntKind.i64.wrap ((j : Int) + 1) = ((j + 1 : Nat) : Int) := by rw [IntKind.wrap_i64]; omega
                    clear hb0 hb2 hb3 m0 hk2 hk3 h16
                    cases b0 with
                    | true =>
                      have HNO2 := Lib.hid (show ∀ x : Int, 0 ≤ x → x < ((j + 1 : Nat) : Int) → ¬ x ∈ s.withs → ¬ x ∈ s.reads ∧ ¬ x ∈ s.writes from fun x h0 h1 h => by
                        by_cases hx : x = (j : Int)
                        · rw [hx] at h; exact absurd (HB0.out.1 rfl) h
                        · exact HNO.out x h0 (by omega) h)
                      clear HB0 HBB2 HBB3 HNO l2 l3 u2 u3
                      go_wp2_with fail
                      go_roundg (i - (j + 1))
                      case measure => rw [G2.out]; obtain ⟨k, hk⟩ := HLT.out; omega
                      case rel => obtain ⟨k, hk⟩ := HLT.out; exact ⟨j + 1, by omega, rfl, (by first | rfl | go_num | simp), HNO2, rfl⟩
                    | false =>
                      have HNW := Lib.hid (show ¬ (j : Int) ∈ s.withs from fun h => by have := HB0.out.2 h; cases this)
                      cases b2 with
                      | true =>
                        have HE := Lib.hid (show R = 8 by rw [HR5.out, if_pos]; rw [HB2.out, any_outP]; exact ⟨_, List.mem_append_left _ (HBB2.out.1 rfl), HNW.out⟩)
                        clear HB0 HBB2 HBB3 HNO l3 u3
                        go_wp2_with fail
                        go_ret
                        exact ⟨by rw [HE.out]; rfl, HBT.out⟩
                      | false =>
                        cases b3 with
                        | true =>
                          have HE := Lib.hid (show R = 8 by rw [HR5.out, if_pos]; rw [HB2.out, any_outP]; exact ⟨_, List.mem_append_right _ (HBB3.out.1 rfl), HNW.out⟩)
                          clear HB0 HBB2 HBB3 HNO
                          go_wp2_with fail
                          go_ret
                          exact ⟨by rw [HE.out]; rfl, HBT.out⟩
                        | false =>
                          have HNO2 := Lib.hid (show ∀ x : Int, 0 ≤ x → x < ((j + 1 : Nat) : Int) → ¬ x ∈ s.withs → ¬ x ∈ s.reads ∧ ¬ x ∈ s.writes from fun x h0 h1 h => by
                            by_cases hx : x = (j : Int)
                            · rw [hx]; exact ⟨fun h => (by have := HBB2.out.2 h; cases this), fun h => (by have := HBB3.out.2 h; cases this)⟩
                            · exact HNO.out x h0 (by omega) h)
                          clear HB0 HBB2 HBB3 HNO HNW
                          go_wp2_with fail
                          go_roundg (i - (j + 1))
                          case measure => rw [G2.out]; obtain ⟨k, hk⟩ := HLT.out; omega
                          case rel => obtain ⟨k, hk⟩ := HLT.out; exact ⟨j + 1, by omega, rfl, (by first | rfl | go_num | simp), HNO2, rfl⟩
                  · obtain rfl : j = i := by omega
                    have hb2 : B2 = false := by
                      rw [HB2.out, Bool.eq_false_iff]
                      intro h
                      obtain ⟨x, h1, h2⟩ := any_outP.1 h
                      rcases List.mem_append.1 h1 with h1 | h1
                      · have := HFB.out.2.1 x h1
                        exact (HNO.out x this.1 this.2 h2).1 h1
                      · have := HFB.out.2.2 x h1
                        exact (HNO.out x this.1 this.2 h2).2 h1
                    have hR6 := HR5.out
                    rw [if_neg (by rw [hb2]; decide)] at hR6
                    unfold sy5 at hR6
                    obtain ⟨FE, hFE⟩ : ∃ x, x = fitAllE ks s.spawn := ⟨_, rfl⟩
                    rw [← hFE] at hR6
                    have HR6 := Lib.hid hR6
                    have r6 := cell_of_row _ _ 6 _ _ _ HRW.out
                    have cF := ref_FittedAll ks s.spawn ka a6 j kc n6 c6 HN.out HN6.out.symm H1.out (by rw [HN6.out]; exact HS.out.sp) HS.out.v w3 (HZ.out.below KindAt.abides HBT.out) (HI6.out.below CompAt.abides HBT.out)
                    unfold FitAllPost at cF
                    rw [← hFE] at cF
                    have CF := Lib.hid cF
                    clear hb2 hR6 HR5 HB2 HNO G2 hFE cF
                    go_wp2_with fail
                    refine CF.out.mono ?_
                    rintro e w7 ⟨hpost, hb7⟩
                    replace HBT := Lib.hid (bt HBT.out hb7)
                    replace HRW := Lib.hid (heap_below HRW.out hb7)
                    replace HPM := Lib.hid (HPM.out.below hb7)
                    clear hb7 CF r6
                    rcases hpost with ⟨hf0, rfl⟩ | ⟨hf0, fb, fn, rfl, _, _⟩
                    · have HE := Lib.hid (show R = FE by rw [HR6.out, if_pos hf0])
                      have t1 : (FE != 0) = true := by rw [bne_iff_ne]; exact hf0
                      clear HR6 hf0
                      go_wp2_with fail
                      go_ret
                      exact ⟨by rw [HE.out]; rfl, HBT.out⟩
                    · subst hf0
                      have hR7 := HR6.out
                      rw [if_neg (by simp)] at hR7
                      have HR7 := Lib.hid hR7
                      have t1 : ((0 : Int) != 0) = false := rfl
                      have r5 := cell_of_row _ _ 5 _ _ _ HRW.out
                      clear hR7 HR6
                      go_wp2_with fail
                      clear t1 r5
                      go_loopg [17, 18, 126] n5 (fun gk v17 v18 vi wx => ∃ i : Nat, i ≤ n5 ∧ gk = n5 - i ∧ vi = .int .i64 i ∧ Hid (opsGo ks s.reads s.writes (s.ops.drop i) = R) ∧ Hid (Below w7.heap.size w7 wx))
                      case atStart => exact ⟨0, Nat.zero_le _, rfl, rfl, Lib.hid (by rw [HR7.out]; rfl), Lib.hid (Below.refl _ _)⟩
                      case round =>
                        obtain ⟨i, hi, g2, rfl, HGO, HBL⟩ := hrel
                        have G2 := Lib.hid g2
                        clear g2
                        by_cases hlt : i < n5
                        · have hlo : i < s.ops.length := by rw [← HN5.out]; exact hlt
                          have hbk := bt HBT.out HBL.out
                          obtain ⟨x, rfl, _, _⟩ := HI5.out (by omega)
                          obtain ⟨xb, xo, rfl, hcl⟩ := op_cells (HI5.out.below OpAt.abides hbk) i hlo
                          obtain ⟨o, ho⟩ : ∃ o, o = s.ops[i] := ⟨_, rfl⟩
                          rw [← ho] at hcl
                          have q0 := hcl 0 _ rfl
                          have q1 := hcl 1 _ rfl
                          have q2 := hcl 2 _ rfl
                          have q3 := hcl 3 _ rfl
                          have q4 := hcl 4 _ rfl
                          have q5 := hcl 5 _ rfl
                          have q6 := hcl 6 _ rfl
                          have q7 := hcl 7 _ rfl
                          have q8 := hcl 8 _ rfl
                          have q9 := hcl 9 _ rfl
                          have q10 := hcl 10 _ rfl
                          rw [Nat.add_zero] at q0
                          have hgo := HGO.out
                          rw [List.drop_eq_getElem_cons hlo, ← ho] at hgo
                          unfold opsGo at hgo
                          obtain ⟨OE, hOE⟩ : ∃ x, x = opE ks s.reads s.writes o := ⟨_, rfl⟩
                          rw [← hOE] at hgo
                          have HGO2 := Lib.hid hgo
                          have hbo := (Below.refl wr.heap.size wr).alloc (Nat.le_refl _) (.cells #[.int .i64 o.do_, .int .i64 o.tk, .int .i64 o.tf, .bool o.a.has, .int .i64 o.a.n, .int .i64 o.a.rk, .int .i64 o.a.rf, .bool o.b.has, .int .i64 o.b.n, .int .i64 o.b.rk, .int .i64 o.b.rf] 57)
                          have HBO := Lib.hid (bt HBL.out hbo)
                          have hbk2 := bt HBT.out HBO.out
                          obtain ⟨m, H, hm, hM, hiff⟩ := HPM.out.below HBO.out
                          have cO := ref_op ks ka j kc HN.out H1.out M m H s.reads s.writes (fun x h0 h1 => by rw [Bool.eq_iff_iff, hiff, HAT2.out x h0 h1, decide_eq_true_eq]) (fun x h0 h1 => by rw [Bool.eq_iff_iff, hiff, HAT3.out x h0 h1, decide_eq_true_eq]) o _ (HZ.out.below KindAt.abides hbk2) hM
                          rw [← hOE] at cO
                          have CO := Lib.hid cO
                          have HLT := Lib.hid (show ∃ k, i + 1 + k = n5 from ⟨n5 - (i + 1), by omega⟩)
                          clear hbk hcl ho hgo hOE hbo hbk2 cO HGO hlo hm hM hiff
                          go_wp2_with fail
                          refine CO.out.mono ?_
                          rintro e w8 ⟨rfl, hb8⟩
                          have HB8 := Lib.hid (bt HBO.out hb8)
                          clear hb8 CO q0 q1 q2 q3 q4 q5 q6 q7 q8 q9 q10 HBO
                          by_cases hoe : OE = 0
                          · have HN2' := Lib.hid (show opsGo ks s.reads s.writes (s.ops.drop (i + 1)) = R by have := HGO2.out; rw [if_neg (by rw [hoe]; simp)] at this; exact this)
                            subst hoe
                            have h5 := HS.out.o
                            rw [← HN5.out] at h5
                            have w2' : IntKind.i64.wrap ((i : Int) + 1) = ((i + 1 : Nat) : Int) := by rw [IntKind.wrap_i64]; omega
                            clear HGO2 h5
                            go_wp2_with fail
                            go_roundg (n5 - (i + 1))
                            case measure => rw [G2.out]; obtain ⟨k, hk⟩ := HLT.out; omega
                            case rel => obtain ⟨k, hk⟩ := HLT.out; exact ⟨i + 1, by omega, rfl, (by first | rfl | go_num | simp), HN2', HB8⟩
                          · have HE := Lib.hid (show R = OE by have := HGO2.out; rw [if_pos hoe] at this; exact this.symm)
                            have t1 : (OE != 0) = true := by rw [bne_iff_ne]; exact hoe
                            clear HGO2 hoe
                            go_wp2_with fail
                            go_ret
                            exact ⟨by rw [HE.out]; rfl, bt HBT.out HB8.out⟩
                        · obtain rfl : i = n5 := by omega
                          have HE := Lib.hid (show R = 0 by have := HGO.out; rw [List.drop_eq_nil_of_le (by rw [← HN5.out]; exact Nat.le_refl _)] at this; exact this.symm)
                          clear HGO
                          go_wp2_with fail
                          go_ret
                          exact ⟨by rw [HE.out]; rfl, bt HBT.out HBL.out⟩
  · have HE := Lib.hid (show R = K by rw [HR.out]; unfold sysE; rw [← HK.out, if_pos hK0])
    have t0 : (K != 0) = true := by rw [bne_iff_ne]; exact hK0
    clear HR hK0
    go_wp2_with fail
    go_ret
    exact ⟨by rw [HE.out]; rfl, HB.out⟩
end Go.Proofs.YtijeninfmjhbnaaDoor
end
