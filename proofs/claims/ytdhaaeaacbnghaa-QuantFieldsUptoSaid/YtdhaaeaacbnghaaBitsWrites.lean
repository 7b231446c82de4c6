/- The law BitsWrites. -/
import Derived.Test.YtdhaaeaacbnghaaBitsBegun
namespace Go.Proofs.Ytdhaaeaacbnghaa
open Go.ChangeShapes Go.WideShapes Go.ChangeAt Go.RowKit Go.Mem Go.Bp
set_option linter.unusedVariables false

theorem putR_len (L : List Bool) (v : Nat) (n : Int) (h : L.length ≤ 524288) : (putR L v n).2.length ≤ 524288 := by
  unfold putR
  split
  · exact h
  · split
    · exact h
    · show (L ++ bitsN v n.toNat).length ≤ _
      rw [List.length_append, bitsN_length]; omega
theorem natW_len (L : List Bool) (v : Nat) (h : L.length ≤ 524288) : (natW L v).2.length ≤ 524288 := by
  unfold natW
  split
  · exact h
  · show (L ++ Bp.groups v (grp v)).length ≤ _
    rw [List.length_append, groups_length]; omega
theorem row_ne2 {w : World} {g g2 t t2 : Nat} {cs cs2 : Array Value} (h : w.heap[g]? = some (.cells cs t (0, 0))) (h2 : w.heap[g2]? = some (.cells cs2 t2 (0, 0))) (hne : t ≠ t2) : some g ≠ some g2 := by
  intro e
  injection e with e
  subst e
  rw [h] at h2
  injection h2 with h2
  injection h2 with _ h2
  exact hne h2
theorem ne_own {w : World} {base e size n g t : Nat} {v : Value} {xs : List Value} {cs : Array Value} (h : w.ownsRow base e size v n xs) (hg : w.heap[g]? = some (.cells cs t (0, 0))) (hne : e ≠ t) : some g ≠ v.ownBlock := by
  intro he
  exact own_ne h hg hne g he.symm rfl
/-- Behind a call that wrote to the writer alone, the list of bits is as it was. -/
theorem Bs.keep {w w' : World} {D g g2 : Nat} {v v2 : Value} {L M : List Bool} (h : Bs w D g2 v2 M) (hw : Wr w D g v L) (hg : Gr2 w w' (some g) v.ownBlock) : Bs w' D g2 v2 M :=
  ⟨hg.heap h.block (row_ne2 h.block hw.block (by decide)) (ne_own hw.own h.block (by decide)), hg.own h.own (own_ne h.own hw.block (by decide)) (own_other h.own hw.own (by decide)), h.dg⟩
theorem Wr.keep {w w' : World} {D g g2 : Nat} {v v2 : Value} {L M : List Bool} (h : Wr w D g v L) (hb : Bs w D g2 v2 M) (hg : Gr2 w w' (some g2) v2.ownBlock) : Wr w' D g v L :=
  ⟨hg.heap h.block (row_ne2 h.block hb.block (by decide)) (ne_own hb.own h.block (by decide)), hg.own h.own (own_ne h.own hb.block (by decide)) (own_other h.own hb.own (by decide)), h.dg⟩
theorem Wr.belowG {w w' : World} {D g B : Nat} {v : Value} {L : List Bool} (h : Wr w D g v L) (hg : Gr2 w w' (some g) v.ownBlock) (hB : B ≤ D) (hs : B ≤ w.heap.size) : Below B w w' :=
  hg.below hs (fun k hk => by injection hk with hk; have := h.dg; omega) (fun k hk => Nat.le_trans hB (own_lt h.own k hk).1)
theorem Bs.belowG {w w' : World} {D g B : Nat} {v : Value} {L : List Bool} (h : Bs w D g v L) (hg : Gr2 w w' (some g) v.ownBlock) (hB : B ≤ D) (hs : B ≤ w.heap.size) : Below B w w' :=
  hg.below hs (fun k hk => by injection hk with hk; have := h.dg; omega) (fun k hk => Nat.le_trans hB (own_lt h.own k hk).1)
/-- The cells of the call's own array. -/
def At3 (w : World) (g : Nat) (A B C : Int) : Prop := w.heap[g]? = some (.cells #[.int .i64 A, .int .i64 B, .int .i64 C] 83 (0, 0))
theorem At3.c {w : World} {g : Nat} {A B C : Int} (h : At3 w g A B C) : w.cell? ⟨g, 0, none⟩ = some (.int .i64 A) ∧ w.cell? ⟨g, 1, none⟩ = some (.int .i64 B) :=
  ⟨by rw [cell_of_row w g 0 _ _ _ h]; rfl, by rw [cell_of_row w g 1 _ _ _ h]; rfl⟩
theorem At3.w {w w' : World} {D g gc : Nat} {v : Value} {L : List Bool} {A B C : Int} (h : At3 w gc A B C) (hw : Wr w D g v L) (hg : Gr2 w w' (some g) v.ownBlock) : At3 w' gc A B C :=
  hg.heap h (row_ne2 h hw.block (by decide)) (ne_own hw.own h (by decide))
theorem At3.b {w w' : World} {D g gc : Nat} {v : Value} {L : List Bool} {A B C : Int} (h : At3 w gc A B C) (hw : Bs w D g v L) (hg : Gr2 w w' (some g) v.ownBlock) : At3 w' gc A B C :=
  hg.heap h (row_ne2 h hw.block (by decide)) (ne_own hw.own h (by decide))

set_option maxHeartbeats 16000000 in
set_option maxRecDepth 100000 in
theorem law_BitsWrites (zs : List Int) (b : Option Addr) (nb cb : Nat) (hz : zs.length = nb * 3) (hwf : ∀ z ∈ zs, -9223372036854775808 ≤ z ∧ z ≤ 9223372036854775807) (hnb : nb ≤ 9223372036854775807)
    (w : World) (hzs : IntsAt .i64 w b zs) :
    Calls Try.prog 9 #[.slice b nb cb] w fun e w' => e = .returned (.bool true) ∧ Below w.heap.size w w' := by
  have HZS := Lib.hid hzs
  have HZ := Lib.hid hz
  have HWF := Lib.hid hwf
  clear hzs hz hwf
  go_enter Try.func9, Try.ntmps9
  go_wp2_with fail
  refine (law_bitsBegun _).mono ?_
  rintro e w1 ⟨rfl, hb1⟩
  have hw0 := new_Wr w1
  have hbs0 := new_Bs (w1.alloc (.cells #[.slice none 0 0, .int .i64 0] 82))
  have hbA := ((Below.refl w1.heap.size w1).alloc (Nat.le_refl _) (.cells #[.slice none 0 0, .int .i64 0] 82)).alloc (by simp) (.cells #[.slice none 0 0, .int .i64 0] 66)
  have hW : Wr ((w1.alloc (.cells #[.slice none 0 0, .int .i64 0] 82)).alloc (.cells #[.slice none 0 0, .int .i64 0] 66)) w1.heap.size w1.heap.size (.slice none 0 0) [] := hw0.below ((Below.refl _ _).alloc (Nat.le_refl _) _)
  have hB : Bs ((w1.alloc (.cells #[.slice none 0 0, .int .i64 0] 82)).alloc (.cells #[.slice none 0 0, .int .i64 0] 66)) w1.heap.size (w1.heap.size + 1) (.slice none 0 0) [] :=
    ⟨by have := hbs0.block; simpa using this, ⟨rfl, .inl ⟨rfl, rfl⟩⟩, by omega⟩
  have HW := Lib.hid hW
  have HB := Lib.hid hB
  have hbB := bt hb1 hbA
  have hD := hb1.size
  clear hw0 hbs0 hW hB hbA hb1
  go_wp2_with fail
  generalize (w1.alloc (.cells #[.slice none 0 0, .int .i64 0] 82)).alloc (.cells #[.slice none 0 0, .int .i64 0] 66) = W0 at *
  generalize w1.heap.size + 1 = g2 at *
  generalize w1.heap.size = D at *
  go_loopg [6, 7, 8, 15] nb (fun gk _ _ _ vi wx => ∃ (k : Nat) (L : List Bool) (v v2 : Value), k ≤ nb ∧ gk = nb - k ∧ vi = .int .i64 k ∧ L.length ≤ 524288 ∧ Wr wx D D v L ∧ Bs wx D g2 v2 L ∧ D ≤ wx.heap.size ∧ Below w.heap.size w wx)
  case atStart => exact ⟨0, [], _, _, by omega, rfl, rfl, by simp, HW.out, HB.out, by have := lt_of_heap HW.out.block; omega, hbB⟩
  case round =>
    clear HW HB hbB
    obtain ⟨k, L, v, v2, kn, g3, rfl, hL, hwr, hbs, hDs, hbw⟩ := hrel
    have G2 := Lib.hid g3
    have HW := Lib.hid hwr
    have HB := Lib.hid hbs
    have HL := Lib.hid hL
    clear g3 hwr hbs hL
    by_cases hlt : k < nb
    · obtain ⟨x, rfl, hx, hc⟩ := (HZS.out.below hbw) (by rw [HZ.out]; omega)
      have hc0 := hc (k * 3) (by rw [HZ.out]; omega)
      have hc1 := hc (k * 3 + 1) (by rw [HZ.out]; omega)
      have hc2 := hc (k * 3 + 2) (by rw [HZ.out]; omega)
      have hAw := HWF.out _ (mem_getD (i := k * 3) (by rw [HZ.out]; omega))
      obtain ⟨A, hA⟩ : ∃ A, A = zs.getD (k * 3) 0 := ⟨_, rfl⟩
      obtain ⟨B, hB⟩ : ∃ B, B = zs.getD (k * 3 + 1) 0 := ⟨_, rfl⟩
      obtain ⟨C, hC⟩ : ∃ C, C = zs.getD (k * 3 + 2) 0 := ⟨_, rfl⟩
      rw [← hA] at hc0 hAw
      rw [← hB, add_next] at hc1
      rw [← hC, add_next2] at hc2
      clear hc hA hB hC
      have hal := (Below.refl wr.heap.size wr).alloc (Nat.le_refl _) (.cells #[.int .i64 A, .int .i64 B, .int .i64 C] 83)
      have HW0 := Lib.hid (HW.out.below hal)
      have HB0 := Lib.hid (HB.out.below hal)
      have H3 := Lib.hid (show At3 (wr.alloc (.cells #[.int .i64 A, .int .i64 B, .int .i64 C] 83)) wr.heap.size A B C from heap_alloc_new wr _)
      have hbw0 := hbw.alloc hbw.size (.cells #[.int .i64 A, .int .i64 B, .int .i64 C] 83)
      have hDs0 : D ≤ (wr.alloc (.cells #[.int .i64 A, .int .i64 B, .int .i64 C] 83)).heap.size := by simp; omega
      obtain ⟨gc, hgc⟩ : ∃ gc, gc = wr.heap.size := ⟨_, rfl⟩
      have HGC := Lib.hid hgc
      clear hal HW HB hbw hgc
      rcases (show C = 0 ∨ C = 1 ∨ C = 2 ∨ (C ≠ 0 ∧ C ≠ 1 ∧ C ≠ 2) by omega) with rfl | rfl | rfl | ⟨hC0, hC1, hC2⟩
      · obtain ⟨U, hU⟩ : ∃ U, U = W64.u A := ⟨_, rfl⟩
        have eA : IntKind.u64.wrap A = (U : Int) := by rw [hU]; exact W64.u_eq A
        have lU : U < 18446744073709551616 := by rw [hU]; exact W64.u_lt A
        have cp := wr_Put (wr.alloc (.cells #[.int .i64 A, .int .i64 B, .int .i64 0] 83)).drew D D U B v L lU HL.out hDs0 HW0.out.drew
        have ca := fun (W : World) (hs : D ≤ W.heap.size) (h : Bs W D g2 v2 L) => bs_Add W D g2 U B v2 L lU HL.out hs h
        clear hU
        have hRL : (putR L U B).2.length ≤ 524288 := putR_len L U B HL.out
        obtain ⟨R, hR⟩ : ∃ R, R = putR L U B := ⟨_, rfl⟩
        rw [← hR] at hRL cp ca
        have HRL := Lib.hid hRL
        have CP := Lib.hid cp
        have CA := Lib.hid ca
        clear hRL cp ca hR
        go_wp2_with fail
        replace hbw0 := hbw0.drew
        have HWD := Lib.hid HW0.out.drew
        have HBD := Lib.hid HB0.out.drew
        have H3D := Lib.hid (show At3 (wr.alloc (.cells #[.int .i64 A, .int .i64 B, .int .i64 _] 83)).drew wr.heap.size A B _ from H3.out)
        go_region_held3 (fun w' => w'.cell? ⟨wr.heap.size, 0, none⟩ = some (.int .i64 A) ∧ w'.cell? ⟨wr.heap.size, 1, none⟩ = some (.int .i64 B))
          (first | exact H3D.out.c | exact (H3D.out.w HWD.out hg5).c | exact ((H3D.out.w HWD.out hg5).b hb5 hg6).c)
          (first
            | (go_at_call 54; (with_reducible refine CP.out.mono ?_); rintro e5 w5 ⟨rfl, y, hw5, hg5, hy5⟩)
            | (have hb5 := HBD.out.keep HWD.out hg5; have hs5 : D ≤ w5.heap.size := Nat.le_trans hDs0 hg5.size; go_at_call 55; (with_reducible refine (CA.out _ hs5 hb5).mono ?_); rintro e6 w6 ⟨rfl, y2, hb6, hg6, hy6⟩))
        have hbW := hbw0
        have hDW := hDs0
        have HW2 := Lib.hid (hw5.keep (hb5) hg6)
        have HB2 := Lib.hid hb6
        have hbn := (hbW.trans (HWD.out.belowG hg5 hD hbW.size)).trans (hb5.belowG hg6 hD (Nat.le_trans hbW.size hg5.size))
        have hDn : D ≤ w6.heap.size := Nat.le_trans hDW (Nat.le_trans hg5.size hg6.size)
        obtain ⟨va, vc, rfl, _, _⟩ := own_slice hb6.own
        obtain ⟨er, L2⟩ := R
        have HL2 := Lib.hid (show L2.length ≤ 524288 from HRL.out)
        obtain ⟨m2, hm2⟩ : ∃ m2, m2 = L2.length := ⟨_, rfl⟩
        have cl := fun (W : World) (h : Wr W D D y L2) => (wr_Len W D D y L2 h).mono fun e w' p => (⟨p.1, p.2.symm⟩ : _ ∧ w' = W)
        have b0 := HB2.out.c0
        replace b0 : w6.cell? ⟨g2, 0, none⟩ = some (.slice va L2.length vc) := b0
        rw [← hm2] at cl b0
        have CL := Lib.hid cl
        have t1 : ((er : Int) != er) = false := by simp
        have t2 : ((m2 : Int) != m2) = false := by simp
        clear hw5 hg5 hy5 hb5 hb6 hg6 hy6 cl hm2
        go_wp2_with fail
        go_quiet ((go_at_call 60; exact Calls.quiet_of_same (CL.out _ (HW2.out.drewN _))))
        go_wp2_with fail
        go_roundg (nb - (k + 1))
        case measure => rw [G2.out]; omega
        case rel => exact ⟨k + 1, L2, y, _, by omega, rfl, by go_num, HL2.out, HW2.out.drewN _, HB2.out.drewN _, hDn, below_drewN hbn _⟩
      · obtain ⟨U, hU⟩ : ∃ U, U = W64.u A := ⟨_, rfl⟩
        have eA : IntKind.u64.wrap A = (U : Int) := by rw [hU]; exact W64.u_eq A
        have lU : U < 18446744073709551616 := by rw [hU]; exact W64.u_lt A
        have cp := wr_Nat (wr.alloc (.cells #[.int .i64 A, .int .i64 B, .int .i64 1] 83)).drew D D U v L lU HL.out hDs0 HW0.out.drew
        have ca := fun (W : World) (hs : D ≤ W.heap.size) (h : Bs W D g2 v2 L) => bs_AddNat W D g2 U v2 L lU HL.out hs h
        clear hU
        have hRL : (natW L U).2.length ≤ 524288 := natW_len L U HL.out
        obtain ⟨R, hR⟩ : ∃ R, R = natW L U := ⟨_, rfl⟩
        rw [← hR] at hRL cp ca
        have HRL := Lib.hid hRL
        have CP := Lib.hid cp
        have CA := Lib.hid ca
        clear hRL cp ca hR
        go_wp2_with fail
        replace hbw0 := hbw0.drew
        have HWD := Lib.hid HW0.out.drew
        have HBD := Lib.hid HB0.out.drew
        have H3D := Lib.hid (show At3 (wr.alloc (.cells #[.int .i64 A, .int .i64 B, .int .i64 _] 83)).drew wr.heap.size A B _ from H3.out)
        go_region_held3 (fun w' => w'.cell? ⟨wr.heap.size, 0, none⟩ = some (.int .i64 A) ∧ w'.cell? ⟨wr.heap.size, 1, none⟩ = some (.int .i64 B))
          (first | exact H3D.out.c | exact (H3D.out.w HWD.out hg5).c | exact ((H3D.out.w HWD.out hg5).b hb5 hg6).c)
          (first
            | (go_at_call 56; (with_reducible refine CP.out.mono ?_); rintro e5 w5 ⟨rfl, y, hw5, hg5, hy5⟩)
            | (have hb5 := HBD.out.keep HWD.out hg5; have hs5 : D ≤ w5.heap.size := Nat.le_trans hDs0 hg5.size; go_at_call 57; (with_reducible refine (CA.out _ hs5 hb5).mono ?_); rintro e6 w6 ⟨rfl, y2, hb6, hg6, hy6⟩))
        have hbW := hbw0
        have hDW := hDs0
        have HW2 := Lib.hid (hw5.keep (hb5) hg6)
        have HB2 := Lib.hid hb6
        have hbn := (hbW.trans (HWD.out.belowG hg5 hD hbW.size)).trans (hb5.belowG hg6 hD (Nat.le_trans hbW.size hg5.size))
        have hDn : D ≤ w6.heap.size := Nat.le_trans hDW (Nat.le_trans hg5.size hg6.size)
        obtain ⟨va, vc, rfl, _, _⟩ := own_slice hb6.own
        obtain ⟨er, L2⟩ := R
        have HL2 := Lib.hid (show L2.length ≤ 524288 from HRL.out)
        obtain ⟨m2, hm2⟩ : ∃ m2, m2 = L2.length := ⟨_, rfl⟩
        have cl := fun (W : World) (h : Wr W D D y L2) => (wr_Len W D D y L2 h).mono fun e w' p => (⟨p.1, p.2.symm⟩ : _ ∧ w' = W)
        have b0 := HB2.out.c0
        replace b0 : w6.cell? ⟨g2, 0, none⟩ = some (.slice va L2.length vc) := b0
        rw [← hm2] at cl b0
        have CL := Lib.hid cl
        have t1 : ((er : Int) != er) = false := by simp
        have t2 : ((m2 : Int) != m2) = false := by simp
        clear hw5 hg5 hy5 hb5 hb6 hg6 hy6 cl hm2
        go_wp2_with fail
        go_quiet ((go_at_call 60; exact Calls.quiet_of_same (CL.out _ (HW2.out.drewN _))))
        go_wp2_with fail
        go_roundg (nb - (k + 1))
        case measure => rw [G2.out]; omega
        case rel => exact ⟨k + 1, L2, y, _, by omega, rfl, by go_num, HL2.out, HW2.out.drewN _, HB2.out.drewN _, hDn, below_drewN hbn _⟩
      · have lU := zig_lt A hAw.1 hAw.2
        have cp := wr_Int (wr.alloc (.cells #[.int .i64 A, .int .i64 B, .int .i64 2] 83)).drew D D A v L hAw.1 hAw.2 HL.out hDs0 HW0.out.drew
        have cz := fun W => ref_Zigzag A hAw.1 hAw.2 W
        obtain ⟨U, hU⟩ : ∃ U, U = zig A := ⟨_, rfl⟩
        rw [← hU] at lU cp cz
        have ca := fun (W : World) (hs : D ≤ W.heap.size) (h : Bs W D g2 v2 L) => bs_AddNat W D g2 U v2 L lU HL.out hs h
        have CZ := Lib.hid cz
        clear hU cz
        have hRL : (natW L U).2.length ≤ 524288 := natW_len L U HL.out
        obtain ⟨R, hR⟩ : ∃ R, R = natW L U := ⟨_, rfl⟩
        rw [← hR] at hRL cp ca
        have HRL := Lib.hid hRL
        have CP := Lib.hid cp
        have CA := Lib.hid ca
        clear hRL cp ca hR
        go_wp2_with fail
        replace hbw0 := hbw0.drew
        have HWD := Lib.hid HW0.out.drew
        have HBD := Lib.hid HB0.out.drew
        have H3D := Lib.hid (show At3 (wr.alloc (.cells #[.int .i64 A, .int .i64 B, .int .i64 _] 83)).drew wr.heap.size A B _ from H3.out)
        go_region_held3 (fun w' => w'.cell? ⟨wr.heap.size, 0, none⟩ = some (.int .i64 A) ∧ w'.cell? ⟨wr.heap.size, 1, none⟩ = some (.int .i64 B))
          (first | exact H3D.out.c | exact (H3D.out.w HWD.out hg5).c | exact ((H3D.out.w HWD.out hg5).b hb5 hg6).c)
          (first
            | (go_at_call 58; (with_reducible refine CP.out.mono ?_); rintro e5 w5 ⟨rfl, y, hw5, hg5, hy5⟩)
            | (go_at_call 59; (with_reducible refine (CZ.out _).mono ?_); rintro e7 w7 ⟨rfl, rfl⟩)
            | (have hb5 := HBD.out.keep HWD.out hg5; have hs5 : D ≤ w5.heap.size := Nat.le_trans hDs0 hg5.size; go_at_call 57; (with_reducible refine (CA.out _ hs5 hb5).mono ?_); rintro e6 w6 ⟨rfl, y2, hb6, hg6, hy6⟩))
        have hbW := hbw0
        have hDW := hDs0
        have HW2 := Lib.hid (hw5.keep (hb5) hg6)
        have HB2 := Lib.hid hb6
        have hbn := (hbW.trans (HWD.out.belowG hg5 hD hbW.size)).trans (hb5.belowG hg6 hD (Nat.le_trans hbW.size hg5.size))
        have hDn : D ≤ w6.heap.size := Nat.le_trans hDW (Nat.le_trans hg5.size hg6.size)
        obtain ⟨va, vc, rfl, _, _⟩ := own_slice hb6.own
        obtain ⟨er, L2⟩ := R
        have HL2 := Lib.hid (show L2.length ≤ 524288 from HRL.out)
        obtain ⟨m2, hm2⟩ : ∃ m2, m2 = L2.length := ⟨_, rfl⟩
        have cl := fun (W : World) (h : Wr W D D y L2) => (wr_Len W D D y L2 h).mono fun e w' p => (⟨p.1, p.2.symm⟩ : _ ∧ w' = W)
        have b0 := HB2.out.c0
        replace b0 : w6.cell? ⟨g2, 0, none⟩ = some (.slice va L2.length vc) := b0
        rw [← hm2] at cl b0
        have CL := Lib.hid cl
        have t1 : ((er : Int) != er) = false := by simp
        have t2 : ((m2 : Int) != m2) = false := by simp
        clear hw5 hg5 hy5 hb5 hb6 hg6 hy6 cl hm2
        go_wp2_with fail
        go_quiet ((go_at_call 60; exact Calls.quiet_of_same (CL.out _ (HW2.out.drewN _))))
        go_wp2_with fail
        go_roundg (nb - (k + 1))
        case measure => rw [G2.out]; omega
        case rel => exact ⟨k + 1, L2, y, _, by omega, rfl, by go_num, HL2.out, HW2.out.drewN _, HB2.out.drewN _, hDn, below_drewN hbn _⟩
      · have e0 : (C == 0) = false := by rw [beq_eq_false_iff_ne]; exact hC0
        have e1 : (C == 1) = false := by rw [beq_eq_false_iff_ne]; exact hC1
        have e2 : (C == 2) = false := by rw [beq_eq_false_iff_ne]; exact hC2
        obtain ⟨va, vc, rfl, _, _⟩ := own_slice HB0.out.own
        obtain ⟨m2, hm2⟩ : ∃ m2, m2 = L.length := ⟨_, rfl⟩
        have cl := fun (W : World) (h : Wr W D D v L) => (wr_Len W D D v L h).mono fun e w' p => (⟨p.1, p.2.symm⟩ : _ ∧ w' = W)
        have b0 := HB0.out.c0
        rw [← hm2] at cl b0
        have CL := Lib.hid cl
        have t2 : ((m2 : Int) != m2) = false := by simp
        clear cl hm2 hC0 hC1 hC2
        go_wp2_with fail
        go_quiet ((go_at_call 60; exact Calls.quiet_of_same (CL.out _ (HW0.out.drewN _))))
        go_wp2_with fail
        go_roundg (nb - (k + 1))
        case measure => rw [G2.out]; omega
        case rel => exact ⟨k + 1, L, v, _, by omega, rfl, by go_num, HL.out, HW0.out.drewN _, HB0.out.drewN _, hDs0, below_drewN hbw0 _⟩
    · have hd : decide (k < nb) = false := by simp; omega
      have CB := Lib.hid (wr_Bytes wr D D v L HL.out HW.out)
      go_wp2_with fail
      refine CB.out.mono ?_
      rintro e w2 ⟨a, c, rfl, hc, hi, hb3⟩
      have CB2 := Lib.hid (bs_Bytes w2 D g2 v2 L HL.out (HB.out.below hb3))
      have hbx := bt hbw hb3
      have HI := Lib.hid hi
      clear hi hbw
      go_wp2_with fail
      refine CB2.out.mono ?_
      rintro e w3 ⟨a2, rfl, hi2, hb4⟩
      have ce := eq_bytes a a2 c (packB L).length (packB L) (packB L) (by have := HL.out; unfold packB; rw [packN_length]; omega) (by have := HL.out; unfold packB; rw [packN_length]; omega) w3 (HI.out.below hb4) hi2
      rw [decide_eq_true (rfl : packB L = packB L)] at ce
      have CE := Lib.hid ce
      have hby := bt hbx hb4
      clear hi2 ce hbx
      go_wp2_with fail
      refine CE.out.mono ?_
      rintro e w4 ⟨rfl, hb5⟩
      have hbz := bt hby hb5
      go_wp2_with fail
      go_ret
      exact ⟨rfl, hbz⟩
theorem wf_i64' {z : Int} (h : (Lit.int .i64 z).wf = true) : -9223372036854775808 ≤ z ∧ z ≤ 9223372036854775807 := by
  simpa [Lit.wf, IntKind.min, IntKind.max, IntKind.signed, IntKind.bits] using h
end Go.Proofs.Ytdhaaeaacbnghaa
