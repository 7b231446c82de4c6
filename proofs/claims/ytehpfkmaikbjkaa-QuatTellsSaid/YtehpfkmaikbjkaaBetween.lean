/- The reference's Between. -/
import Derived.Test.YtehpfkmaikbjkaaBlend
import Derived.Deep.RegionHeld3
namespace Go.Proofs.Ytehpfkmaikbjkaa
open Go.ChangeShapes Go.WideShapes Go.ChangeAt Go.RowKit Go.Mem Go.Nb
set_option linter.unusedVariables false
theorem own_eq {w : World} {base e size n : Nat} {v : Value} {xs ys : List Value} (h : w.ownsRow base e size v n xs) (q : xs = ys) : w.ownsRow base e size v n ys := q ▸ h
theorem keep2b {w w1 w2 : World} {A1 A2 : Addr} {v1 v2 : Value} (h : w1.cell? A1 = some v1 ∧ w1.cell? A2 = some v2 ∧ Below w.heap.size w w1) (hb : Below w1.heap.size w1 w2) : w2.cell? A1 = some v1 ∧ w2.cell? A2 = some v2 ∧ Below w.heap.size w w2 :=
  ⟨keepc hb h.1, keepc hb h.2.1, bt h.2.2 hb⟩
set_option maxHeartbeats 16000000 in
set_option maxRecDepth 100000 in
theorem ref_Between (a b c d p q r s t : Int) (w : World) : Calls Try.prog 60 #[.agg #[.int .i64 a, .int .i64 b, .int .i64 c, .int .i64 d], .agg #[.int .i64 p, .int .i64 q, .int .i64 r, .int .i64 s], .int .i64 t] w fun e w' => e = .returned (.agg #[.int .i64 (u4 (blL a b c d p q r s (tcl t)) 0), .int .i64 (u4 (blL a b c d p q r s (tcl t)) 1), .int .i64 (u4 (blL a b c d p q r s (tcl t)) 2), .int .i64 (u4 (blL a b c d p q r s (tcl t)) 3)]) ∧ Below w.heap.size w w' := by
  obtain ⟨tM, ht1⟩ : ∃ tM, tM = max t 0 := ⟨_, rfl⟩
  obtain ⟨T, hT⟩ : ∃ T, T = tcl t := ⟨_, rfl⟩
  have hm1 : max t 0 = tM := ht1.symm
  have hm2 : min tM 65536 = T := by rw [hT, ht1]; rfl
  have hTb : 0 ≤ T ∧ T ≤ 65536 := by omega
  rw [← hT]
  obtain ⟨U, hU⟩ : ∃ U, U = Value.agg #[.int .i64 (u4 (blL a b c d p q r s T) 0), .int .i64 (u4 (blL a b c d p q r s T) 1), .int .i64 (u4 (blL a b c d p q r s T) 2), .int .i64 (u4 (blL a b c d p q r s T) 3)] := ⟨_, rfl⟩
  rw [← hU]
  have HU := Lib.hid hU
  clear hT ht1 hU
  go_enter Try.func60, Try.ntmps60
  go_wp2_with fail
  have t1 := ((four_new 62 w a b c d).alloc (.cells #[.int .i64 p, .int .i64 q, .int .i64 r, .int .i64 s] 62)).alloc (.cells #[.int .i64 0, .int .i64 0, .int .i64 0, .int .i64 0] 62)
  have t2 := (four_new2 62 w (.cells #[.int .i64 a, .int .i64 b, .int .i64 c, .int .i64 d] 62) p q r s).alloc (.cells #[.int .i64 0, .int .i64 0, .int .i64 0, .int .i64 0] 62)
  have t3 := four_new2 62 (w.alloc (.cells #[.int .i64 a, .int .i64 b, .int .i64 c, .int .i64 d] 62)) (.cells #[.int .i64 p, .int .i64 q, .int .i64 r, .int .i64 s] 62) 0 0 0 0
  have hB := ((((Below.refl w.heap.size w).alloc (Nat.le_refl _) (.cells #[.int .i64 a, .int .i64 b, .int .i64 c, .int .i64 d] 62)).alloc (by simp) (.cells #[.int .i64 p, .int .i64 q, .int .i64 r, .int .i64 s] 62)).alloc (by simp; omega) (.cells #[.int .i64 0, .int .i64 0, .int .i64 0, .int .i64 0] 62))
  rw [World.size_alloc] at t3
  generalize ((w.alloc (.cells #[.int .i64 a, .int .i64 b, .int .i64 c, .int .i64 d] 62)).alloc (.cells #[.int .i64 p, .int .i64 q, .int .i64 r, .int .i64 s] 62)).alloc (.cells #[.int .i64 0, .int .i64 0, .int .i64 0, .int .i64 0] 62) = W0 at *
  have l3 := t3.lt
  clear hm1 hm2
  refine wp_region_facts_new rfl 6 (by kernel_rfl) (FTwo W0.heap.size a b c d p q r s) nTwo (FTwo_mono _ _ _ _ _ _ _ _ _) ?_ ?_
  · refine ⟨?_, ?_, ?_, ?_, ?_, ?_, trivial⟩
    · intro vs w' F hb hd hF hl
      exact one_load_row _ _ rfl rfl w.heap.size #[.int .i64 a, .int .i64 b, .int .i64 c, .int .i64 d] 62 (0, 0) ((hF 3).trans (look_out _ 3 _ _ (by kernel_rfl))) (t1.mono hb) _ Try.underlying62 rfl (by kernel_rfl) ⟨_, rfl, Below.refl _ _, rfl, fun h => absurd h (by decide)⟩
    · intro vs w' F hb hd hF hl
      have e := (hF 17).trans ((look_at _ 17 0 _ _ (by kernel_rfl) (by kernel_rfl) hl).trans (dep_of (Fact := FTwo W0.heap.size a b c d p q r s) hd 0 (by kernel_rfl)))
      refine one_call _ _ rfl rfl (enters_of Try.func89 (by kernel_rfl) rfl) #[.agg #[.int .i64 a, .int .i64 b, .int .i64 c, .int .i64 d]] (eval1 e) ?_
      refine (ref_four a b c d _).mono ?_
      rintro e w2 ⟨rfl, hb2⟩
      exact ⟨_, rfl, _, rfl, hb2, rfl, fun h => absurd h (by decide)⟩
    · intro vs w' F hb hd hF hl
      exact one_load_row _ _ rfl rfl (w.heap.size + 1) #[.int .i64 p, .int .i64 q, .int .i64 r, .int .i64 s] 62 (0, 0) ((hF 4).trans (look_out _ 4 _ _ (by kernel_rfl))) (t2.mono hb) _ Try.underlying62 rfl (by kernel_rfl) ⟨_, rfl, Below.refl _ _, rfl, fun h => absurd h (by decide)⟩
    · intro vs w' F hb hd hF hl
      have e := (hF 19).trans ((look_at _ 19 2 _ _ (by kernel_rfl) (by kernel_rfl) hl).trans (dep_of (Fact := FTwo W0.heap.size a b c d p q r s) hd 2 (by kernel_rfl)))
      refine one_call _ _ rfl rfl (enters_of Try.func89 (by kernel_rfl) rfl) #[.agg #[.int .i64 p, .int .i64 q, .int .i64 r, .int .i64 s]] (eval1 e) ?_
      refine (ref_four p q r s _).mono ?_
      rintro e w2 ⟨rfl, hb2⟩
      exact ⟨_, rfl, _, rfl, hb2, rfl, fun h => absurd h (by decide)⟩
    · intro vs w' F hb hd hF hl
      exact one_alloc_agg _ rfl rfl (.agg #[.int .i64 0, .int .i64 0, .int .i64 0, .int .i64 0]) _ (by kernel_rfl) rfl ⟨_, rfl, (Below.refl _ _).alloc (Nat.le_refl _) _, ⟨_, rfl, hb.size, by simp, heap_alloc_new _ _⟩, fun _ k u hn hu => two_ne k u hn hu⟩
    · intro vs w' F hb hd hF hl
      exact one_alloc_agg _ rfl rfl (.agg #[.int .i64 0, .int .i64 0, .int .i64 0, .int .i64 0]) _ (by kernel_rfl) rfl ⟨_, rfl, (Below.refl _ _).alloc (Nat.le_refl _) _, ⟨_, rfl, hb.size, by simp, heap_alloc_new _ _⟩, fun _ k u hn hu => two_ne k u hn hu⟩
  · intro vs W1 hl hb hI hN
    obtain ⟨v0, v1, v2, v3, v4, v5, v6, v7, rfl⟩ := l_8 hl
    have i0 : v0 = .agg #[.int .i64 a, .int .i64 b, .int .i64 c, .int .i64 d] := hI 0 (by omega)
    have i1 : v1 = .agg #[.int .i64 a, .int .i64 b, .int .i64 c, .int .i64 d] := hI 1 (by omega)
    have i2 : v2 = .agg #[.int .i64 p, .int .i64 q, .int .i64 r, .int .i64 s] := hI 2 (by omega)
    have i3 : v3 = .agg #[.int .i64 p, .int .i64 q, .int .i64 r, .int .i64 s] := hI 3 (by omega)
    obtain ⟨X, i4, x1, x2, x3⟩ : NewRow W0.heap.size 89 #[.int .i64 0, .int .i64 0, .int .i64 0, .int .i64 0] v4 W1 := hI 4 (by omega)
    obtain ⟨Y, i5, y1, y2, y3⟩ : NewRow W0.heap.size 89 #[.int .i64 0, .int .i64 0, .int .i64 0, .int .i64 0] v5 W1 := hI 5 (by omega)
    have hne : v4 ≠ v5 := hN 4 5 (by omega) (by omega) (by omega) rfl rfl
    subst i0 i1 i2 i3 i4 i5
    have hXY : X ≠ Y := fun e => hne (by rw [e])
    have f3 := t3.mono hb
    have hB1 := hB.trans (hb.mono hB.size)
    clear hI hN hl hne hb t1 t2 t3 hB
    generalize hFF : fillAll _ _ _ = F
    have e1 : F.eval (.tmp 7) = .pointer (some ⟨X, 0, none⟩) := by rw [← hFF]; exact (eval_fill _ 7 _ _).trans rfl
    have e2 : F.eval (.tmp 18) = .agg #[.int .i64 a, .int .i64 b, .int .i64 c, .int .i64 d] := by rw [← hFF]; exact (eval_fill _ 18 _ _).trans rfl
    have e3 : F.eval (.tmp 8) = .pointer (some ⟨Y, 0, none⟩) := by rw [← hFF]; exact (eval_fill _ 8 _ _).trans rfl
    have e4 : F.eval (.tmp 20) = .agg #[.int .i64 p, .int .i64 q, .int .i64 r, .int .i64 s] := by rw [← hFF]; exact (eval_fill _ 20 _ _).trans rfl
    refine wpList_store_put rfl 89 (.tmp 7) (.tmp 18) rfl X #[.int .i64 a, .int .i64 b, .int .i64 c, .int .i64 d] e1 e2 _ _ x3 (by kernel_rfl) rfl (ones4 _ _ _ _) ?_
    intro W2 g1 p1 z1 o1
    have y4 := (o1 Y hXY.symm).trans y3
    have f4 : Four 62 W2 (w.heap.size + 1 + 1) 0 0 0 0 := (o1 _ (by omega)).trans f3
    have hB2 := hB1.trans (p1.mono (by omega))
    refine wpList_store_put rfl 89 (.tmp 8) (.tmp 20) rfl Y #[.int .i64 p, .int .i64 q, .int .i64 r, .int .i64 s] e3 e4 _ _ y4 (by kernel_rfl) rfl (ones4 _ _ _ _) ?_
    intro W3 g2 p2 z2 o2
    have fX : Four 89 W3 X a b c d := (o2 X hXY).trans g1
    have fY : Four 89 W3 Y p q r s := g2
    have fR : Four 62 W3 (w.heap.size + 1 + 1) 0 0 0 0 := (o2 _ (by omega)).trans f4
    have hB3 := hB2.trans (p2.mono (by omega))
    clear x2 x3 y2 y3 f3 hB1 e1 e2 e3 e4 g1 p1 z1 o1 y4 f4 hB2 g2 p2 z2 o2
    subst hFF
    simp only [fillAll, Act.put, List.setIfInBounds_toArray, List.set_cons_succ, List.set_cons_zero]
    have lX := fX.lt
    have lY := fY.lt
    have lR := fR.lt
    have cX : ∀ k, k < 4 → W3.cell? ⟨X, k, none⟩ = some (.int .i64 ([a, b, c, d].getD k 0)) := fun k hk => by
      rw [cell_of_row W3 X k _ _ _ fX]; rcases four_of hk with e | e | e | e <;> subst e <;> rfl
    have cY : ∀ k, k < 4 → W3.cell? ⟨Y, k, none⟩ = some (.int .i64 ([p, q, r, s].getD k 0)) := fun k hk => by
      rw [cell_of_row W3 Y k _ _ _ fY]; rcases four_of hk with e | e | e | e <;> subst e <;> rfl
    have CX := Lib.hid cX
    have CY := Lib.hid cY
    have FR := Lib.hid fR
    obtain ⟨dl, hdl⟩ : ∃ dl, dl = [qm a p, qm b q, qm c r, qm d s] := ⟨_, rfl⟩
    have hdll : dl.length = 4 := by rw [hdl]; rfl
    have hdle : ∀ k, k < 4 → qm ([a, b, c, d].getD k 0) ([p, q, r, s].getD k 0) = dl.getD k 0 := fun k hk => by
      rw [hdl]; rcases four_of hk with e | e | e | e <;> subst e <;> rfl
    have hdot : qsum dl = dot4 a b c d p q r s := by rw [hdl]; rfl
    have HDLL := Lib.hid hdll
    have HDLE := Lib.hid hdle
    have HDOT := Lib.hid hdot
    clear cX cY fX fY fR hdl hdll hdle hdot
    go_wp2_with fail
    go_loopg [9, 21] 4 (fun gk vd vi wx => ∃ i : Nat, i ≤ 4 ∧ gk = 4 - i ∧ vi = .int .i64 i ∧ vd = .int .i64 (qsum (dl.take i)) ∧ Below W3.heap.size W3 wx)
    case atStart => exact ⟨0, Nat.zero_le _, rfl, rfl, rfl, Below.refl _ _⟩
    case round =>
      obtain ⟨i, i4, g2, rfl, rfl, hb⟩ := hrel
      have G2 := Lib.hid g2
      clear g2
      by_cases hlt : i < 4
      · have e3 := (hb.cell (p := ⟨X, i, none⟩) (by simp; omega)).trans (CX.out i hlt)
        have e6 := (hb.cell (p := ⟨Y, i, none⟩) (by simp; omega)).trans (CY.out i hlt)
        have hde := HDLE.out i hlt
        have hqs := qsum_snoc (dl.take i) (dl.getD i 0)
        rw [← take_one (by rw [HDLL.out]; exact hlt)] at hqs
        obtain ⟨x, hx⟩ : ∃ x, x = [a, b, c, d].getD i 0 := ⟨_, rfl⟩
        obtain ⟨y, hy⟩ : ∃ y, y = [p, q, r, s].getD i 0 := ⟨_, rfl⟩
        obtain ⟨S, hS⟩ : ∃ S, S = qsum (dl.take i) := ⟨_, rfl⟩
        rw [← hx] at e3 hde
        rw [← hy] at e6 hde
        rw [← hS] at hqs ⊢
        rw [← hde] at hqs
        have HQS := Lib.hid hqs
        have i1 : (0 : Int) ≤ (i : Int) := by omega
        have i2 : (i : Int) < 4 := by omega
        have hbr := Below.refl wr.heap.size wr
        clear hde hx hy hS hqs
        go_wp2_with fail
        go_region_held3 (fun w' => w'.cell? ⟨X, i, none⟩ = some (.int .i64 x) ∧ w'.cell? ⟨Y, i, none⟩ = some (.int .i64 y) ∧ Below wr.heap.size wr w')
          (first | exact ⟨e3, e6, hbr.drew⟩ | assumption | exact keep2b (by assumption) (by assumption))
          (first
            | (go_at_call 44; refine (ref_Product' _ _ _).mono ?_; rintro e w7 ⟨rfl, hb7⟩)
            | (go_at_call 41; refine (ref_Sum _ _ _).mono ?_; rintro e w8 ⟨rfl, rfl⟩))
        go_wp2
        go_roundg (4 - (i + 1))
        case measure => rw [G2.out]; omega
        case rel => exact ⟨i + 1, hlt, rfl, by go_num, by rw [HQS.out], hb.trans ((show Below wr.heap.size wr _ from by first | exact (by assumption : _ ∧ _ ∧ Below wr.heap.size wr _).2.2 | assumption).mono hb.size)⟩
      · obtain rfl : i = 4 := by omega
        rw [List.take_of_length_le (by rw [HDLL.out]; exact Nat.le_refl _), HDOT.out]
        obtain ⟨bs, hbs⟩ : ∃ bs, bs = blL a b c d p q r s T := ⟨_, rfl⟩
        have hbl : bs.length = 4 := by rw [hbs]; rfl
        have hbe : ∀ k, k < 4 → bs.getD k 0 = bl1 T ([a, b, c, d].getD k 0) (sgn (dot4 a b c d p q r s) ([p, q, r, s].getD k 0)) := fun k hk => by
          rw [hbs]; rcases four_of hk with e | e | e | e <;> subst e <;> rfl
        have hfin : U = .agg #[.int .i64 (u4 bs 0), .int .i64 (u4 bs 1), .int .i64 (u4 bs 2), .int .i64 (u4 bs 3)] := by rw [HU.out, hbs]
        have hbs4 : bs = [bs.getD 0 0, bs.getD 1 0, bs.getD 2 0, bs.getD 3 0] := by rw [hbs]; rfl
        have HBS4 := Lib.hid hbs4
        obtain ⟨D, hD⟩ : ∃ D, D = dot4 a b c d p q r s := ⟨_, rfl⟩
        rw [← hD] at hbe ⊢
        have HBL := Lib.hid hbl
        have HBE := Lib.hid hbe
        have HFIN := Lib.hid hfin
        clear hbs hbl hbe hfin hD HDLL HDLE HDOT hbs4
        obtain ⟨i0, hi, hz0, hz1, hz2⟩ := info_parts (show (Try.prog.info? 3).map (fun i => (i.zero, i.size, i.bytes)) = some (some (.int .i64 0), 1, 8) by kernel_rfl)
        go_wp2_with (at_make; go_must (refine wpList_make_full _ rfl _ _ 38 rfl wr.heap.size 3 i0 (.int .i64 0) 1 Try.underlying38 hi hz0 hz1 _ _ _ _ 4 rfl rfl (by omega) (by omega) ?b1 ?b2 ?b3 ?_))
        case b1 => rw [hz2]; omega
        case b2 => unfold maxLen; omega
        case b3 => exact Nat.le_refl _
        intro w4 hown hgr
        rw [toList_madeCells_one] at hown
        have hb4 : Below wr.heap.size wr w4 := (Below.refl _ _).grown hgr (Nat.le_refl _) (fun j hj => by cases hj)
        have hz4 : wr.heap.size ≤ w4.heap.size := hb4.size
        have hb4' : Below W3.heap.size W3 w4 := hb.trans (hb4.mono hb.size)
        have hzb := hb.size
        obtain ⟨O, hO⟩ : ∃ O, O = wr.heap.size := ⟨_, rfl⟩
        rw [← hO] at hown hz4 hzb ⊢
        have hown0 : w4.ownsRow O 3 1 (.slice (some ⟨O, 0, none⟩) 4 4) 4 (vints .i64 (bs.take 0 ++ List.replicate (4 - 0) 0)) := hown
        have HO0 := Lib.hid hown0
        clear hown hown0 hgr hi hz0 hz1 hz2 hb4 hb hO
        go_wp2_with fail
        go_loopg [35] 4 (fun gk vi wx => ∃ k : Nat, k ≤ 4 ∧ gk = 4 - k ∧ vi = .int .i64 k ∧ wx.ownsRow O 3 1 (.slice (some ⟨O, 0, none⟩) 4 4) 4 (vints .i64 (bs.take k ++ List.replicate (4 - k) 0)) ∧ Below W3.heap.size W3 wx ∧ O ≤ wx.heap.size)
        case atStart => exact ⟨0, Nat.zero_le _, rfl, rfl, HO0.out, hb4', hz4⟩
        case round =>
          obtain ⟨k, k4, g3, rfl, hown, hb5, hz5⟩ := hrel
          have G3 := Lib.hid g3
          clear g3 HO0 hb4' hz4
          by_cases hk : k < 4
          · have c3 := (hb5.cell (p := ⟨X, k, none⟩) (by simp; omega)).trans (CX.out k hk)
            have c6 := (hb5.cell (p := ⟨Y, k, none⟩) (by simp; omega)).trans (CY.out k hk)
            have hbe := HBE.out k hk
            have htk := take_one (l := bs) (k := k) (by rw [HBL.out]; exact hk)
            obtain ⟨x, hx⟩ : ∃ x, x = [a, b, c, d].getD k 0 := ⟨_, rfl⟩
            obtain ⟨y, hy⟩ : ∃ y, y = [p, q, r, s].getD k 0 := ⟨_, rfl⟩
            rw [← hx] at c3 hbe
            rw [← hy] at c6 hbe
            have hln : (bs.take k).length = k := by rw [List.length_take, HBL.out]; omega
            have hset : ∀ V : Int, V = bs.getD k 0 → (bs.take k ++ List.replicate (4 - k) 0).set k V = bs.take (k + 1) ++ List.replicate (4 - (k + 1)) 0 := fun V hV => by
              rw [List.set_append_right _ _ (by rw [hln]; exact Nat.le_refl _), hln, Nat.sub_self, show 4 - k = (4 - (k + 1)) + 1 by omega, List.replicate_succ, List.set_cons_zero, htk, List.append_assoc, hV]; rfl
            have e1 := (hown.cellAt k (by omega)).trans (vints_get .i64 _ k (by rw [List.length_append, hln, List.length_replicate]; omega))
            obtain ⟨v1, hv1⟩ : ∃ v, v = ((bs.take k ++ List.replicate (4 - k) 0).getD k 0) := ⟨_, rfl⟩
            rw [← hv1] at e1
            have e2 := hown.frozenAt k
            have ly := lim_bd y
            have HSET := Lib.hid hset
            have HBEK := Lib.hid hbe
            have HOW := Lib.hid hown
            have i1 : (0 : Int) ≤ (k : Int) := by omega
            have i2 : (k : Int) < 4 := by omega
            clear hbe htk hx hy hln hset hv1 hown
            by_cases hd : D < 0
            all_goals
              go_wp2_with (first
                | (go_at_call 27; refine (ref_Limit _ _).mono ?_; rintro e w' ⟨rfl, rfl⟩)
                | (go_at_call 44; refine (ref_Product' _ _ _).mono ?_; rintro e w7 ⟨rfl, hb7⟩; replace e2 := (hb7.frozen (p := ⟨O, k, none⟩) (World.block_lt_of_cell? _ _ e1)).trans e2; replace e1 := keepc hb7 e1; replace hb5 := hb5.trans (hb7.mono hb5.size); replace hz5 := Nat.le_trans hz5 hb7.size; replace HOW := Lib.hid (own_below HOW.out hb7); clear hb7)
                | (go_at_call 41; refine (ref_Sum _ _ _).mono ?_; rintro e w8 ⟨rfl, rfl⟩))
              go_roundg (4 - (k + 1))
              case measure => rw [G3.out]; omega
              case rel => exact ⟨k + 1, hk, rfl, by go_num, own_eq (HOW.out.stored k (.int .i64 _)).1 ((vints_set .i64 _ k _).trans (congrArg (vints .i64) (HSET.out _ (by rw [HBEK.out]; unfold bl1 sgn; first | rw [if_pos hd] | rw [if_neg (Int.not_lt.2 hd)])))), hb5.setCell (by simp; omega) _, by simp; exact hz5⟩
          · obtain rfl : k = 4 := by omega
            rw [List.take_of_length_le (by rw [HBL.out]; exact Nat.le_refl _), Nat.sub_self, List.replicate_zero, List.append_nil] at hown
            have hqo := ref_quatOf bs O 4 HBL.out wr (IntsAt.of_own hown HBL.out.symm)
            have hu4 := fun W => ref_Unit4 (bs.getD 0 0) (bs.getD 1 0) (bs.getD 2 0) (bs.getD 3 0) W
            rw [← HBS4.out] at hu4
            have HU4 := Lib.hid hu4
            have HQO := Lib.hid hqo
            have fR : Four 62 wr (w.heap.size + 1 + 1) 0 0 0 0 := (hb5.block _ (by omega)).trans FR.out
            have hbw : Below w.heap.size w wr := hB3.trans (hb5.mono hB3.size)
            have FRW := Lib.hid fR
            clear hown hqo hu4 fR hb5
            go_wp2_with fail
            refine HQO.out.mono ?_
            rintro e w8 ⟨rfl, hb8⟩
            go_wp2_with fail
            refine (HU4.out _).mono ?_
            rintro e w9 ⟨rfl, hb9⟩
            have f9 : Four 62 w9 (w.heap.size + 1 + 1) 0 0 0 0 := heap_below (heap_below FRW.out hb8) hb9
            have F9 := Lib.hid f9
            have hB9 := bt (bt hbw hb8) hb9
            have b0 := f9.c0
            have b1 := f9.c1
            have b2 := f9.c2
            have b3 := f9.c3
            have g0 := f9.fr 0
            have g1 := f9.fr 1
            have g2 := f9.fr 2
            have g3 := f9.fr 3
            clear hb8 hb9 hbw f9
            go_wp2
            exact bodyPost_ret (v := .agg #[.int .i64 (u4 bs 0), .int .i64 (u4 bs 1), .int .i64 (u4 bs 2), .int .i64 (u4 bs 3)]) (res4 Try.results60 _ _ (w.heap.size + 1 + 1) _ _ _ _ rfl (F9.out.put (u4 bs 0) (u4 bs 1) (u4 bs 2) (u4 bs 3))) rfl ⟨by rw [HFIN.out], put4_below hB9 (by omega) _ _ _ _⟩
end Go.Proofs.Ytehpfkmaikbjkaa
