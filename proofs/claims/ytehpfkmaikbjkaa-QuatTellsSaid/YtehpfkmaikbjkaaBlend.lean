/- quat.Blend. -/
import Derived.Test.YtehpfkmaikbjkaaQuatTimes
namespace Go.Proofs.Ytehpfkmaikbjkaa
open Go.ChangeShapes Go.WideShapes Go.ChangeAt Go.RowKit Go.Mem Go.Nb
set_option linter.unusedVariables false
theorem qm_lim (x y : Int) : qm (lim x) y = qm x y := by unfold qm thr; rw [lim_lim]
def bl1 (T x n : Int) : Int := lim (lim (qm x (65536 - T)) + lim (qm n T))
def dot4 (a b c d p q r s : Int) : Int := qsum [qm a p, qm b q, qm c r, qm d s]
def sgn (D y : Int) : Int := if D < 0 then -lim y else lim y
def blL (a b c d p q r s T : Int) : List Int := [bl1 T a (sgn (dot4 a b c d p q r s) p), bl1 T b (sgn (dot4 a b c d p q r s) q), bl1 T c (sgn (dot4 a b c d p q r s) r), bl1 T d (sgn (dot4 a b c d p q r s) s)]
theorem blL_neg {a b c d p q r s T : Int} (h : dot4 a b c d p q r s < 0) : blL a b c d p q r s T = [bl1 T a (-lim p), bl1 T b (-lim q), bl1 T c (-lim r), bl1 T d (-lim s)] := by simp [blL, sgn, h]
theorem blL_pos {a b c d p q r s T : Int} (h : ¬ dot4 a b c d p q r s < 0) : blL a b c d p q r s T = [bl1 T a p, bl1 T b q, bl1 T c r, bl1 T d s] := by
  have e : ∀ x y, bl1 T x (lim y) = bl1 T x y := fun x y => by unfold bl1; rw [qm_lim]
  unfold blL sgn
  rw [if_neg h, if_neg h, if_neg h, if_neg h, e, e, e, e]
def tcl (t : Int) : Int := min (max t 0) 65536
def F_blend3 (BB : Nat) (a b c d p q r s T : Int) (j : Nat) (v : Value) (w : World) : Prop := if j = 24 then NewInts [(qm a p), (qm b q), (qm c r), (qm d s)] v w else v = ([.func (.func 36) #[] #[], .pointer (some ⟨BB, 0, none⟩), .int .i64 a, .pointer (some ⟨BB + 1, 0, none⟩), .int .i64 p, .int .i64 (qm a p), .func (.func 36) #[] #[], .pointer (some ⟨BB, 1, none⟩), .int .i64 b, .pointer (some ⟨BB + 1, 1, none⟩), .int .i64 q, .int .i64 (qm b q), .func (.func 36) #[] #[], .pointer (some ⟨BB, 2, none⟩), .int .i64 c, .pointer (some ⟨BB + 1, 2, none⟩), .int .i64 r, .int .i64 (qm c r), .func (.func 36) #[] #[], .pointer (some ⟨BB, 3, none⟩), .int .i64 d, .pointer (some ⟨BB + 1, 3, none⟩), .int .i64 s, .int .i64 (qm d s), undef, .int .i64 (qsum [(qm a p), (qm b q), (qm c r), (qm d s)]), .bool (decide ((qsum [(qm a p), (qm b q), (qm c r), (qm d s)]) < 0))] : List Value).getD j undef
theorem F_blend3_mono (BB : Nat) (a b c d p q r s T : Int) : Facts (F_blend3 BB a b c d p q r s T) := ⟨by
  intro j v w w' h hb
  unfold F_blend3 at *
  repeat' split
  all_goals first | (simp_all; done) | (simp_all; exact NewInts.mono (by assumption) hb)⟩
def F_blend6 (BB : Nat) (a b c d p q r s T : Int) (j : Nat) (v : Value) (w : World) : Prop := v = ([.func (.func 36) #[] #[], .pointer (some ⟨BB, 0, none⟩), .int .i64 a, .int .i64 (65536 - T), .int .i64 (qm a (65536 - T)), .func (.func 36) #[] #[], .pointer (some ⟨BB + 1, 0, none⟩), .int .i64 p, .int .i64 T, .int .i64 (qm p T), .int .i64 (lim (lim (qm a (65536 - T)) + lim (qm p T))), .func (.func 36) #[] #[], .pointer (some ⟨BB, 1, none⟩), .int .i64 b, .int .i64 (65536 - T), .int .i64 (qm b (65536 - T)), .func (.func 36) #[] #[], .pointer (some ⟨BB + 1, 1, none⟩), .int .i64 q, .int .i64 T, .int .i64 (qm q T), .int .i64 (lim (lim (qm b (65536 - T)) + lim (qm q T))), .func (.func 36) #[] #[], .pointer (some ⟨BB, 2, none⟩), .int .i64 c, .int .i64 (65536 - T), .int .i64 (qm c (65536 - T)), .func (.func 36) #[] #[], .pointer (some ⟨BB + 1, 2, none⟩), .int .i64 r, .int .i64 T, .int .i64 (qm r T), .int .i64 (lim (lim (qm c (65536 - T)) + lim (qm r T))), .func (.func 36) #[] #[], .pointer (some ⟨BB, 3, none⟩), .int .i64 d, .int .i64 (65536 - T), .int .i64 (qm d (65536 - T)), .func (.func 36) #[] #[], .pointer (some ⟨BB + 1, 3, none⟩), .int .i64 s, .int .i64 T, .int .i64 (qm s T), .int .i64 (lim (lim (qm d (65536 - T)) + lim (qm s T))), .agg #[.int .i64 (lim (lim (qm a (65536 - T)) + lim (qm p T))), .int .i64 (lim (lim (qm b (65536 - T)) + lim (qm q T))), .int .i64 (lim (lim (qm c (65536 - T)) + lim (qm r T))), .int .i64 (lim (lim (qm d (65536 - T)) + lim (qm s T)))], .agg #[.int .i64 (u4 [(lim (lim (qm a (65536 - T)) + lim (qm p T))), (lim (lim (qm b (65536 - T)) + lim (qm q T))), (lim (lim (qm c (65536 - T)) + lim (qm r T))), (lim (lim (qm d (65536 - T)) + lim (qm s T)))] 0), .int .i64 (u4 [(lim (lim (qm a (65536 - T)) + lim (qm p T))), (lim (lim (qm b (65536 - T)) + lim (qm q T))), (lim (lim (qm c (65536 - T)) + lim (qm r T))), (lim (lim (qm d (65536 - T)) + lim (qm s T)))] 1), .int .i64 (u4 [(lim (lim (qm a (65536 - T)) + lim (qm p T))), (lim (lim (qm b (65536 - T)) + lim (qm q T))), (lim (lim (qm c (65536 - T)) + lim (qm r T))), (lim (lim (qm d (65536 - T)) + lim (qm s T)))] 2), .int .i64 (u4 [(lim (lim (qm a (65536 - T)) + lim (qm p T))), (lim (lim (qm b (65536 - T)) + lim (qm q T))), (lim (lim (qm c (65536 - T)) + lim (qm r T))), (lim (lim (qm d (65536 - T)) + lim (qm s T)))] 3)]] : List Value).getD j undef
theorem F_blend6_mono (BB : Nat) (a b c d p q r s T : Int) : Facts (F_blend6 BB a b c d p q r s T) := ⟨fun _ _ _ _ h _ => h⟩
theorem list27 {vs : List Value} (h : vs.length = 27) : ∃ a0 a1 a2 a3 a4 a5 a6 a7 a8 a9 a10 a11 a12 a13 a14 a15 a16 a17 a18 a19 a20 a21 a22 a23 a24 a25 a26, vs = [a0, a1, a2, a3, a4, a5, a6, a7, a8, a9, a10, a11, a12, a13, a14, a15, a16, a17, a18, a19, a20, a21, a22, a23, a24, a25, a26] := by
  match vs, h with
  | [a0, a1, a2, a3, a4, a5, a6, a7, a8, a9, a10, a11, a12, a13, a14, a15, a16, a17, a18, a19, a20, a21, a22, a23, a24, a25, a26], _ => exact ⟨a0, a1, a2, a3, a4, a5, a6, a7, a8, a9, a10, a11, a12, a13, a14, a15, a16, a17, a18, a19, a20, a21, a22, a23, a24, a25, a26, rfl⟩

theorem heap_far4 {w : World} {x g : Nat} {o : Obj} (h : w.heap[x]? = some o) (hne : x ≠ g) {i1 i2 i3 i4 : Nat} {v1 v2 v3 v4 : Value} : ((((w.setCell ⟨g, i1, none⟩ v1).setCell ⟨g, i2, none⟩ v2).setCell ⟨g, i3, none⟩ v3).setCell ⟨g, i4, none⟩ v4).heap[x]? = some o :=
  heap_far (heap_far (heap_far (heap_far h hne _) hne _) hne _) hne _
set_option maxHeartbeats 8000000 in
set_option maxRecDepth 100000 in
theorem quat_Blend (a b c d p q r s t : Int) (w : World) : Calls Try.prog 59 #[.agg #[.int .i64 a, .int .i64 b, .int .i64 c, .int .i64 d], .agg #[.int .i64 p, .int .i64 q, .int .i64 r, .int .i64 s], .int .i64 t] w fun e w' => e = .returned (.agg #[.int .i64 (u4 (blL a b c d p q r s (tcl t)) 0), .int .i64 (u4 (blL a b c d p q r s (tcl t)) 1), .int .i64 (u4 (blL a b c d p q r s (tcl t)) 2), .int .i64 (u4 (blL a b c d p q r s (tcl t)) 3)]) ∧ Below w.heap.size w w' := by
  obtain ⟨tM, ht1⟩ : ∃ tM, tM = max t 0 := ⟨_, rfl⟩
  obtain ⟨T, hT⟩ : ∃ T, T = tcl t := ⟨_, rfl⟩
  have hm1 : max t 0 = tM := ht1.symm
  have hm2 : min tM 65536 = T := by rw [hT, ht1]; rfl
  have hTb : 0 ≤ T ∧ T ≤ 65536 := by omega
  rw [← hT]
  obtain ⟨U, hU⟩ : ∃ U, U = Value.agg #[.int .i64 (u4 (blL a b c d p q r s T) 0), .int .i64 (u4 (blL a b c d p q r s T) 1), .int .i64 (u4 (blL a b c d p q r s T) 2), .int .i64 (u4 (blL a b c d p q r s T) 3)] := ⟨_, rfl⟩
  rw [← hU]
  have HU := Lib.hid hU
  clear hT ht1 hU
  go_enter Try.func59, Try.ntmps59
  go_wp2_with fail
  have f1 := ((four_new 62 w a b c d).alloc (.cells #[.int .i64 p, .int .i64 q, .int .i64 r, .int .i64 s] 62)).alloc (.cells #[.int .i64 0, .int .i64 0, .int .i64 0, .int .i64 0] 62)
  have f2 := (four_new2 62 w (.cells #[.int .i64 a, .int .i64 b, .int .i64 c, .int .i64 d] 62) p q r s).alloc (.cells #[.int .i64 0, .int .i64 0, .int .i64 0, .int .i64 0] 62)
  have f3 := four_new2 62 (w.alloc (.cells #[.int .i64 a, .int .i64 b, .int .i64 c, .int .i64 d] 62)) (.cells #[.int .i64 p, .int .i64 q, .int .i64 r, .int .i64 s] 62) 0 0 0 0
  have hB := ((((Below.refl w.heap.size w).alloc (Nat.le_refl _) (.cells #[.int .i64 a, .int .i64 b, .int .i64 c, .int .i64 d] 62)).alloc (by simp) (.cells #[.int .i64 p, .int .i64 q, .int .i64 r, .int .i64 s] 62)).alloc (by simp; omega) (.cells #[.int .i64 0, .int .i64 0, .int .i64 0, .int .i64 0] 62))
  rw [World.size_alloc] at f3
  generalize ((w.alloc (.cells #[.int .i64 a, .int .i64 b, .int .i64 c, .int .i64 d] 62)).alloc (.cells #[.int .i64 p, .int .i64 q, .int .i64 r, .int .i64 s] 62)).alloc (.cells #[.int .i64 0, .int .i64 0, .int .i64 0, .int .i64 0] 62) = W0 at *
  clear hm1 hm2
  have t1 := f1
  have t2 := f2
  have t3 := f3
  clear f1 f2 f3
  refine wp_region_facts rfl 27 (by kernel_rfl) (F_blend3 w.heap.size a b c d p q r s T) (F_blend3_mono w.heap.size a b c d p q r s T) ?_ ?_
  · refine ⟨?_, ?_, ?_, ?_, ?_, ?_, ?_, ?_, ?_, ?_, ?_, ?_, ?_, ?_, ?_, ?_, ?_, ?_, ?_, ?_, ?_, ?_, ?_, ?_, ?_, ?_, ?_, trivial⟩
    · intro vs w' F hb hd hF hl
      have e := (hF 7).trans (look_out _ 7 _ _ (by kernel_rfl))
      exact one_move _ rfl (by first | exact Or.inl rfl | exact Or.inr rfl) ⟨_, rfl, Below.refl _ _, e⟩
    · intro vs w' F hb hd hF hl
      have e := (hF 3).trans (look_out _ 3 _ _ (by kernel_rfl))
      exact one_field _ _ _ rfl rfl _ _ e _ (fun w => by kernel_rfl) ⟨_, rfl, Below.refl _ _, rfl⟩
    · intro vs w' F hb hd hF hl
      have e := (hF 13).trans ((look_at _ 13 1 _ _ (by kernel_rfl) (by kernel_rfl) hl).trans (dep_of (Fact := F_blend3 w.heap.size a b c d p q r s T) hd 1 (by kernel_rfl)))
      exact one_load _ _ rfl rfl _ _ e ((t1.mono hb).c0) (by kernel_rfl) ⟨_, rfl, Below.refl _ _, rfl⟩
    · intro vs w' F hb hd hF hl
      have e := (hF 4).trans (look_out _ 4 _ _ (by kernel_rfl))
      exact one_field _ _ _ rfl rfl _ _ e _ (fun w => by kernel_rfl) ⟨_, rfl, Below.refl _ _, rfl⟩
    · intro vs w' F hb hd hF hl
      have e := (hF 15).trans ((look_at _ 15 3 _ _ (by kernel_rfl) (by kernel_rfl) hl).trans (dep_of (Fact := F_blend3 w.heap.size a b c d p q r s T) hd 3 (by kernel_rfl)))
      exact one_load _ _ rfl rfl _ _ e ((t2.mono hb).c0) (by kernel_rfl) ⟨_, rfl, Below.refl _ _, rfl⟩
    · intro vs w' F hb hd hF hl
      have ef := (hF 12).trans ((look_at _ 12 0 _ _ (by kernel_rfl) (by kernel_rfl) hl).trans (dep_of (Fact := F_blend3 w.heap.size a b c d p q r s T) hd 0 (by kernel_rfl)))
      refine one_callv _ _ _ rfl rfl ef (enters_of Try.func36 (by kernel_rfl) rfl) #[.int .i64 a, .int .i64 p] (eval2 ((hF 14).trans ((look_at _ 14 2 _ _ (by kernel_rfl) (by kernel_rfl) hl).trans (dep_of (Fact := F_blend3 w.heap.size a b c d p q r s T) hd 2 (by kernel_rfl)))) ((hF 16).trans ((look_at _ 16 4 _ _ (by kernel_rfl) (by kernel_rfl) hl).trans (dep_of (Fact := F_blend3 w.heap.size a b c d p q r s T) hd 4 (by kernel_rfl))))) ?_
      refine (fix_Mul' a p _).mono ?_
      rintro e w2 ⟨rfl, hb2⟩
      exact ⟨_, rfl, _, rfl, hb2, rfl⟩
    · intro vs w' F hb hd hF hl
      have e := (hF 7).trans (look_out _ 7 _ _ (by kernel_rfl))
      exact one_move _ rfl (by first | exact Or.inl rfl | exact Or.inr rfl) ⟨_, rfl, Below.refl _ _, e⟩
    · intro vs w' F hb hd hF hl
      have e := (hF 3).trans (look_out _ 3 _ _ (by kernel_rfl))
      exact one_field _ _ _ rfl rfl _ _ e _ (fun w => by kernel_rfl) ⟨_, rfl, Below.refl _ _, rfl⟩
    · intro vs w' F hb hd hF hl
      have e := (hF 19).trans ((look_at _ 19 7 _ _ (by kernel_rfl) (by kernel_rfl) hl).trans (dep_of (Fact := F_blend3 w.heap.size a b c d p q r s T) hd 7 (by kernel_rfl)))
      exact one_load _ _ rfl rfl _ _ e ((t1.mono hb).c1) (by kernel_rfl) ⟨_, rfl, Below.refl _ _, rfl⟩
    · intro vs w' F hb hd hF hl
      have e := (hF 4).trans (look_out _ 4 _ _ (by kernel_rfl))
      exact one_field _ _ _ rfl rfl _ _ e _ (fun w => by kernel_rfl) ⟨_, rfl, Below.refl _ _, rfl⟩
    · intro vs w' F hb hd hF hl
      have e := (hF 21).trans ((look_at _ 21 9 _ _ (by kernel_rfl) (by kernel_rfl) hl).trans (dep_of (Fact := F_blend3 w.heap.size a b c d p q r s T) hd 9 (by kernel_rfl)))
      exact one_load _ _ rfl rfl _ _ e ((t2.mono hb).c1) (by kernel_rfl) ⟨_, rfl, Below.refl _ _, rfl⟩
    · intro vs w' F hb hd hF hl
      have ef := (hF 18).trans ((look_at _ 18 6 _ _ (by kernel_rfl) (by kernel_rfl) hl).trans (dep_of (Fact := F_blend3 w.heap.size a b c d p q r s T) hd 6 (by kernel_rfl)))
      refine one_callv _ _ _ rfl rfl ef (enters_of Try.func36 (by kernel_rfl) rfl) #[.int .i64 b, .int .i64 q] (eval2 ((hF 20).trans ((look_at _ 20 8 _ _ (by kernel_rfl) (by kernel_rfl) hl).trans (dep_of (Fact := F_blend3 w.heap.size a b c d p q r s T) hd 8 (by kernel_rfl)))) ((hF 22).trans ((look_at _ 22 10 _ _ (by kernel_rfl) (by kernel_rfl) hl).trans (dep_of (Fact := F_blend3 w.heap.size a b c d p q r s T) hd 10 (by kernel_rfl))))) ?_
      refine (fix_Mul' b q _).mono ?_
      rintro e w2 ⟨rfl, hb2⟩
      exact ⟨_, rfl, _, rfl, hb2, rfl⟩
    · intro vs w' F hb hd hF hl
      have e := (hF 7).trans (look_out _ 7 _ _ (by kernel_rfl))
      exact one_move _ rfl (by first | exact Or.inl rfl | exact Or.inr rfl) ⟨_, rfl, Below.refl _ _, e⟩
    · intro vs w' F hb hd hF hl
      have e := (hF 3).trans (look_out _ 3 _ _ (by kernel_rfl))
      exact one_field _ _ _ rfl rfl _ _ e _ (fun w => by kernel_rfl) ⟨_, rfl, Below.refl _ _, rfl⟩
    · intro vs w' F hb hd hF hl
      have e := (hF 25).trans ((look_at _ 25 13 _ _ (by kernel_rfl) (by kernel_rfl) hl).trans (dep_of (Fact := F_blend3 w.heap.size a b c d p q r s T) hd 13 (by kernel_rfl)))
      exact one_load _ _ rfl rfl _ _ e ((t1.mono hb).c2) (by kernel_rfl) ⟨_, rfl, Below.refl _ _, rfl⟩
    · intro vs w' F hb hd hF hl
      have e := (hF 4).trans (look_out _ 4 _ _ (by kernel_rfl))
      exact one_field _ _ _ rfl rfl _ _ e _ (fun w => by kernel_rfl) ⟨_, rfl, Below.refl _ _, rfl⟩
    · intro vs w' F hb hd hF hl
      have e := (hF 27).trans ((look_at _ 27 15 _ _ (by kernel_rfl) (by kernel_rfl) hl).trans (dep_of (Fact := F_blend3 w.heap.size a b c d p q r s T) hd 15 (by kernel_rfl)))
      exact one_load _ _ rfl rfl _ _ e ((t2.mono hb).c2) (by kernel_rfl) ⟨_, rfl, Below.refl _ _, rfl⟩
    · intro vs w' F hb hd hF hl
      have ef := (hF 24).trans ((look_at _ 24 12 _ _ (by kernel_rfl) (by kernel_rfl) hl).trans (dep_of (Fact := F_blend3 w.heap.size a b c d p q r s T) hd 12 (by kernel_rfl)))
      refine one_callv _ _ _ rfl rfl ef (enters_of Try.func36 (by kernel_rfl) rfl) #[.int .i64 c, .int .i64 r] (eval2 ((hF 26).trans ((look_at _ 26 14 _ _ (by kernel_rfl) (by kernel_rfl) hl).trans (dep_of (Fact := F_blend3 w.heap.size a b c d p q r s T) hd 14 (by kernel_rfl)))) ((hF 28).trans ((look_at _ 28 16 _ _ (by kernel_rfl) (by kernel_rfl) hl).trans (dep_of (Fact := F_blend3 w.heap.size a b c d p q r s T) hd 16 (by kernel_rfl))))) ?_
      refine (fix_Mul' c r _).mono ?_
      rintro e w2 ⟨rfl, hb2⟩
      exact ⟨_, rfl, _, rfl, hb2, rfl⟩
    · intro vs w' F hb hd hF hl
      have e := (hF 7).trans (look_out _ 7 _ _ (by kernel_rfl))
      exact one_move _ rfl (by first | exact Or.inl rfl | exact Or.inr rfl) ⟨_, rfl, Below.refl _ _, e⟩
    · intro vs w' F hb hd hF hl
      have e := (hF 3).trans (look_out _ 3 _ _ (by kernel_rfl))
      exact one_field _ _ _ rfl rfl _ _ e _ (fun w => by kernel_rfl) ⟨_, rfl, Below.refl _ _, rfl⟩
    · intro vs w' F hb hd hF hl
      have e := (hF 31).trans ((look_at _ 31 19 _ _ (by kernel_rfl) (by kernel_rfl) hl).trans (dep_of (Fact := F_blend3 w.heap.size a b c d p q r s T) hd 19 (by kernel_rfl)))
      exact one_load _ _ rfl rfl _ _ e ((t1.mono hb).c3) (by kernel_rfl) ⟨_, rfl, Below.refl _ _, rfl⟩
    · intro vs w' F hb hd hF hl
      have e := (hF 4).trans (look_out _ 4 _ _ (by kernel_rfl))
      exact one_field _ _ _ rfl rfl _ _ e _ (fun w => by kernel_rfl) ⟨_, rfl, Below.refl _ _, rfl⟩
    · intro vs w' F hb hd hF hl
      have e := (hF 33).trans ((look_at _ 33 21 _ _ (by kernel_rfl) (by kernel_rfl) hl).trans (dep_of (Fact := F_blend3 w.heap.size a b c d p q r s T) hd 21 (by kernel_rfl)))
      exact one_load _ _ rfl rfl _ _ e ((t2.mono hb).c3) (by kernel_rfl) ⟨_, rfl, Below.refl _ _, rfl⟩
    · intro vs w' F hb hd hF hl
      have ef := (hF 30).trans ((look_at _ 30 18 _ _ (by kernel_rfl) (by kernel_rfl) hl).trans (dep_of (Fact := F_blend3 w.heap.size a b c d p q r s T) hd 18 (by kernel_rfl)))
      refine one_callv _ _ _ rfl rfl ef (enters_of Try.func36 (by kernel_rfl) rfl) #[.int .i64 d, .int .i64 s] (eval2 ((hF 32).trans ((look_at _ 32 20 _ _ (by kernel_rfl) (by kernel_rfl) hl).trans (dep_of (Fact := F_blend3 w.heap.size a b c d p q r s T) hd 20 (by kernel_rfl)))) ((hF 34).trans ((look_at _ 34 22 _ _ (by kernel_rfl) (by kernel_rfl) hl).trans (dep_of (Fact := F_blend3 w.heap.size a b c d p q r s T) hd 22 (by kernel_rfl))))) ?_
      refine (fix_Mul' d s _).mono ?_
      rintro e w2 ⟨rfl, hb2⟩
      exact ⟨_, rfl, _, rfl, hb2, rfl⟩
    · intro vs w' F hb hd hF hl
      have e0 := (hF 17).trans ((look_at _ 17 5 _ _ (by kernel_rfl) (by kernel_rfl) hl).trans (dep_of (Fact := F_blend3 w.heap.size a b c d p q r s T) hd 5 (by kernel_rfl)))
      have e1 := (hF 23).trans ((look_at _ 23 11 _ _ (by kernel_rfl) (by kernel_rfl) hl).trans (dep_of (Fact := F_blend3 w.heap.size a b c d p q r s T) hd 11 (by kernel_rfl)))
      have e2 := (hF 29).trans ((look_at _ 29 17 _ _ (by kernel_rfl) (by kernel_rfl) hl).trans (dep_of (Fact := F_blend3 w.heap.size a b c d p q r s T) hd 17 (by kernel_rfl)))
      have e3 := (hF 35).trans ((look_at _ 35 23 _ _ (by kernel_rfl) (by kernel_rfl) hl).trans (dep_of (Fact := F_blend3 w.heap.size a b c d p q r s T) hd 23 (by kernel_rfl)))
      exact one_slice4 38 _ _ _ _ _ rfl rfl _ _ _ _ e0 e1 e2 e3 Try.underlying38 (by kernel_rfl) ⟨_, rfl, (Below.refl _ _).alloc (Nat.le_refl _) _, ⟨_, rfl, ints4_new _ _ _ _ _⟩⟩
    · intro vs w' F hb hd hF hl
      obtain ⟨X, hX, hXi⟩ : NewInts [(qm a p), (qm b q), (qm c r), (qm d s)] (vs.getD 24 undef) w' := dep_of (Fact := F_blend3 w.heap.size a b c d p q r s T) hd 24 (by kernel_rfl)
      have e := (hF 36).trans ((look_at _ 36 24 _ _ (by kernel_rfl) (by kernel_rfl) hl).trans hX)
      refine one_call _ _ rfl rfl (enters_of Try.func88 (by kernel_rfl) rfl) #[.slice (some ⟨X, 0, none⟩) 4 4] (eval1 e) ?_
      refine (quat_sum [(qm a p), (qm b q), (qm c r), (qm d s)] _ 4 4 rfl (by decide) _ hXi).mono ?_
      rintro e w2 ⟨rfl, rfl⟩
      exact ⟨_, rfl, _, rfl, Below.refl _ _, rfl⟩
    · intro vs w' F hb hd hF hl
      have ex := (hF 37).trans ((look_at _ 37 25 _ _ (by kernel_rfl) (by kernel_rfl) hl).trans (dep_of (Fact := F_blend3 w.heap.size a b c d p q r s T) hd 25 (by kernel_rfl)))
      exact one_binop .lss 3 _ _ 3 rfl rfl (.int .i64 (qsum [(qm a p), (qm b q), (qm c r), (qm d s)])) (.int .i64 0) ex rfl (.bool (decide ((qsum [(qm a p), (qm b q), (qm c r), (qm d s)]) < 0))) (by go_simp) (by go_simp; try exact IntWalk.i64_in _ (by omega)) ⟨_, rfl, Below.refl _ _, rfl⟩
  · intro vs W1 hl hb hI
    have i38 := hI 26 (by omega)
    obtain ⟨v0, v1, v2, v3, v4, v5, v6, v7, v8, v9, v10, v11, v12, v13, v14, v15, v16, v17, v18, v19, v20, v21, v22, v23, v24, v25, v26, rfl⟩ := list27 hl
    replace i38 : v26 = .bool (decide (dot4 a b c d p q r s < 0)) := i38
    subst i38
    have g1 := t1.mono hb
    have g2 := t2.mono hb
    have g3 := t3.mono hb
    have hB1 := hB.trans (hb.mono hB.size)
    clear hI hl t1 t2 t3 hB hb
    have t1 := g1
    have t3 := g3
    have t2 := g2
    clear g1 g2 g3
    simp only [fillAll, Act.put, List.setIfInBounds_toArray, List.set_cons_succ, List.set_cons_zero, List.drop_succ_cons, List.drop_nil]
    by_cases hd : dot4 a b c d p q r s < 0
    · have hdb : decide (dot4 a b c d p q r s < 0) = true := decide_eq_true hd
      have HF := Lib.hid (blL_neg (T := T) hd)
      have k1 := lim_bd p
      have k2 := lim_bd q
      have k3 := lim_bd r
      have k4 := lim_bd s
      rw [hdb]
      clear hd hdb
      go_wp2_with fail
      have hBd : Below w.heap.size w W1.drew := hB1.drew
      have s1 : Four 62 W1.drew w.heap.size a b c d := t1
      have s2 : Four 62 W1.drew (w.heap.size + 1) p q r s := t2
      have s3 : Four 62 W1.drew (w.heap.size + 1 + 1) 0 0 0 0 := t3
      clear t1 t2 t3 hB1
      refine wp_region_still_tail 17 (by kernel_rfl) (by kernel_rfl) ?_
      simp only [List.take_succ_cons, List.take_zero, List.drop_succ_cons, List.drop_zero]
      change wpStill _ _ W1.drew (fun a' => wpList _ _ _ _ a' W1.drew) _ _
      generalize W1.drew = w2 at *
      have b0 := s2.c0
      have b1 := s2.c1
      have b2 := s2.c2
      have b3 := s2.c3
      have e0 := s2.fr 0
      have e1 := s2.fr 1
      have e2 := s2.fr 2
      have e3 := s2.fr 3
      have S1 := Lib.hid s1
      have S2 := Lib.hid s2
      have S3 := Lib.hid s3
      clear s1 s2 s3
      repeat (first | still_step | (still_call ((fix_Clamp _ _).mono fun _ _ h => ⟨h.1, h.2.symm⟩)))
      refine wpStill_nil ?_
      go_wp2_with fail
      have g2 := S2.out.put (-lim p) (-lim q) (-lim r) (-lim s)
      have g1 : Four 62 ((((w2.setCell ⟨w.heap.size + 1, 0, none⟩ (.int .i64 (-lim p))).setCell ⟨w.heap.size + 1, 1, none⟩ (.int .i64 (-lim q))).setCell ⟨w.heap.size + 1, 2, none⟩ (.int .i64 (-lim r))).setCell ⟨w.heap.size + 1, 3, none⟩ (.int .i64 (-lim s))) w.heap.size a b c d := heap_far4 S1.out (by omega)
      have g3 : Four 62 ((((w2.setCell ⟨w.heap.size + 1, 0, none⟩ (.int .i64 (-lim p))).setCell ⟨w.heap.size + 1, 1, none⟩ (.int .i64 (-lim q))).setCell ⟨w.heap.size + 1, 2, none⟩ (.int .i64 (-lim r))).setCell ⟨w.heap.size + 1, 3, none⟩ (.int .i64 (-lim s))) (w.heap.size + 1 + 1) 0 0 0 0 := heap_far4 S3.out (by omega)
      have hB2 := put4_below hBd (Nat.le_succ _) (.int .i64 (-lim p)) (.int .i64 (-lim q)) (.int .i64 (-lim r)) (.int .i64 (-lim s))
      clear hBd b0 b1 b2 b3 e0 e1 e2 e3 S1 S2 S3
      generalize ((((w2.setCell ⟨w.heap.size + 1, 0, none⟩ (.int .i64 (-lim p))).setCell ⟨w.heap.size + 1, 1, none⟩ (.int .i64 (-lim q))).setCell ⟨w.heap.size + 1, 2, none⟩ (.int .i64 (-lim r))).setCell ⟨w.heap.size + 1, 3, none⟩ (.int .i64 (-lim s))) = W3 at *
      have t1 := g1
      have t2 := g2
      have t3 := g3
      clear g1 g2 g3
      have hB := hB2
      clear hB2
      refine wp_region_facts rfl 46 (by kernel_rfl) (F_blend6 w.heap.size a b c d (-lim p) (-lim q) (-lim r) (-lim s) T) (F_blend6_mono w.heap.size a b c d (-lim p) (-lim q) (-lim r) (-lim s) T) ?_ ?_
      · refine ⟨?_, ?_, ?_, ?_, ?_, ?_, ?_, ?_, ?_, ?_, ?_, ?_, ?_, ?_, ?_, ?_, ?_, ?_, ?_, ?_, ?_, ?_, ?_, ?_, ?_, ?_, ?_, ?_, ?_, ?_, ?_, ?_, ?_, ?_, ?_, ?_, ?_, ?_, ?_, ?_, ?_, ?_, ?_, ?_, ?_, ?_, trivial⟩
        · intro vs w' F hb hd hF hl
          have e := (hF 7).trans (look_out _ 7 _ _ (by kernel_rfl))
          exact one_move _ rfl (by first | exact Or.inl rfl | exact Or.inr rfl) ⟨_, rfl, Below.refl _ _, e⟩
        · intro vs w' F hb hd hF hl
          have e := (hF 3).trans (look_out _ 3 _ _ (by kernel_rfl))
          exact one_field _ _ _ rfl rfl _ _ e _ (fun w => by kernel_rfl) ⟨_, rfl, Below.refl _ _, rfl⟩
        · intro vs w' F hb hd hF hl
          have e := (hF 59).trans ((look_at _ 59 1 _ _ (by kernel_rfl) (by kernel_rfl) hl).trans (dep_of (Fact := F_blend6 w.heap.size a b c d (-lim p) (-lim q) (-lim r) (-lim s) T) hd 1 (by kernel_rfl)))
          exact one_load _ _ rfl rfl _ _ e ((t1.mono hb).c0) (by kernel_rfl) ⟨_, rfl, Below.refl _ _, rfl⟩
        · intro vs w' F hb hd hF hl
          have e := (hF 8).trans (look_out _ 8 _ _ (by kernel_rfl))
          exact one_move _ rfl (by first | exact Or.inl rfl | exact Or.inr rfl) ⟨_, rfl, Below.refl _ _, e⟩
        · intro vs w' F hb hd hF hl
          have ef := (hF 58).trans ((look_at _ 58 0 _ _ (by kernel_rfl) (by kernel_rfl) hl).trans (dep_of (Fact := F_blend6 w.heap.size a b c d (-lim p) (-lim q) (-lim r) (-lim s) T) hd 0 (by kernel_rfl)))
          refine one_callv _ _ _ rfl rfl ef (enters_of Try.func36 (by kernel_rfl) rfl) #[.int .i64 a, .int .i64 (65536 - T)] (eval2 ((hF 60).trans ((look_at _ 60 2 _ _ (by kernel_rfl) (by kernel_rfl) hl).trans (dep_of (Fact := F_blend6 w.heap.size a b c d (-lim p) (-lim q) (-lim r) (-lim s) T) hd 2 (by kernel_rfl)))) ((hF 61).trans ((look_at _ 61 3 _ _ (by kernel_rfl) (by kernel_rfl) hl).trans (dep_of (Fact := F_blend6 w.heap.size a b c d (-lim p) (-lim q) (-lim r) (-lim s) T) hd 3 (by kernel_rfl))))) ?_
          refine (fix_Mul' a (65536 - T) _).mono ?_
          rintro e w2 ⟨rfl, hb2⟩
          exact ⟨_, rfl, _, rfl, hb2, rfl⟩
        · intro vs w' F hb hd hF hl
          have e := (hF 7).trans (look_out _ 7 _ _ (by kernel_rfl))
          exact one_move _ rfl (by first | exact Or.inl rfl | exact Or.inr rfl) ⟨_, rfl, Below.refl _ _, e⟩
        · intro vs w' F hb hd hF hl
          have e := (hF 4).trans (look_out _ 4 _ _ (by kernel_rfl))
          exact one_field _ _ _ rfl rfl _ _ e _ (fun w => by kernel_rfl) ⟨_, rfl, Below.refl _ _, rfl⟩
        · intro vs w' F hb hd hF hl
          have e := (hF 64).trans ((look_at _ 64 6 _ _ (by kernel_rfl) (by kernel_rfl) hl).trans (dep_of (Fact := F_blend6 w.heap.size a b c d (-lim p) (-lim q) (-lim r) (-lim s) T) hd 6 (by kernel_rfl)))
          exact one_load _ _ rfl rfl _ _ e ((t2.mono hb).c0) (by kernel_rfl) ⟨_, rfl, Below.refl _ _, rfl⟩
        · intro vs w' F hb hd hF hl
          have e := (hF 2).trans (look_out _ 2 _ _ (by kernel_rfl))
          exact one_move _ rfl (by first | exact Or.inl rfl | exact Or.inr rfl) ⟨_, rfl, Below.refl _ _, e⟩
        · intro vs w' F hb hd hF hl
          have ef := (hF 63).trans ((look_at _ 63 5 _ _ (by kernel_rfl) (by kernel_rfl) hl).trans (dep_of (Fact := F_blend6 w.heap.size a b c d (-lim p) (-lim q) (-lim r) (-lim s) T) hd 5 (by kernel_rfl)))
          refine one_callv _ _ _ rfl rfl ef (enters_of Try.func36 (by kernel_rfl) rfl) #[.int .i64 (-lim p), .int .i64 T] (eval2 ((hF 65).trans ((look_at _ 65 7 _ _ (by kernel_rfl) (by kernel_rfl) hl).trans (dep_of (Fact := F_blend6 w.heap.size a b c d (-lim p) (-lim q) (-lim r) (-lim s) T) hd 7 (by kernel_rfl)))) ((hF 66).trans ((look_at _ 66 8 _ _ (by kernel_rfl) (by kernel_rfl) hl).trans (dep_of (Fact := F_blend6 w.heap.size a b c d (-lim p) (-lim q) (-lim r) (-lim s) T) hd 8 (by kernel_rfl))))) ?_
          refine (fix_Mul' (-lim p) T _).mono ?_
          rintro e w2 ⟨rfl, hb2⟩
          exact ⟨_, rfl, _, rfl, hb2, rfl⟩
        · intro vs w' F hb hd hF hl
          refine one_call _ _ rfl rfl (enters_of Try.func40 (by kernel_rfl) rfl) #[.int .i64 (qm a (65536 - T)), .int .i64 (qm (-lim p) T)] (eval2 ((hF 62).trans ((look_at _ 62 4 _ _ (by kernel_rfl) (by kernel_rfl) hl).trans (dep_of (Fact := F_blend6 w.heap.size a b c d (-lim p) (-lim q) (-lim r) (-lim s) T) hd 4 (by kernel_rfl)))) ((hF 67).trans ((look_at _ 67 9 _ _ (by kernel_rfl) (by kernel_rfl) hl).trans (dep_of (Fact := F_blend6 w.heap.size a b c d (-lim p) (-lim q) (-lim r) (-lim s) T) hd 9 (by kernel_rfl))))) ?_
          refine (fix_Add (qm a (65536 - T)) (qm (-lim p) T) _).mono ?_
          rintro e w2 ⟨rfl, rfl⟩
          exact ⟨_, rfl, _, rfl, Below.refl _ _, rfl⟩
        · intro vs w' F hb hd hF hl
          have e := (hF 7).trans (look_out _ 7 _ _ (by kernel_rfl))
          exact one_move _ rfl (by first | exact Or.inl rfl | exact Or.inr rfl) ⟨_, rfl, Below.refl _ _, e⟩
        · intro vs w' F hb hd hF hl
          have e := (hF 3).trans (look_out _ 3 _ _ (by kernel_rfl))
          exact one_field _ _ _ rfl rfl _ _ e _ (fun w => by kernel_rfl) ⟨_, rfl, Below.refl _ _, rfl⟩
        · intro vs w' F hb hd hF hl
          have e := (hF 70).trans ((look_at _ 70 12 _ _ (by kernel_rfl) (by kernel_rfl) hl).trans (dep_of (Fact := F_blend6 w.heap.size a b c d (-lim p) (-lim q) (-lim r) (-lim s) T) hd 12 (by kernel_rfl)))
          exact one_load _ _ rfl rfl _ _ e ((t1.mono hb).c1) (by kernel_rfl) ⟨_, rfl, Below.refl _ _, rfl⟩
        · intro vs w' F hb hd hF hl
          have e := (hF 8).trans (look_out _ 8 _ _ (by kernel_rfl))
          exact one_move _ rfl (by first | exact Or.inl rfl | exact Or.inr rfl) ⟨_, rfl, Below.refl _ _, e⟩
        · intro vs w' F hb hd hF hl
          have ef := (hF 69).trans ((look_at _ 69 11 _ _ (by kernel_rfl) (by kernel_rfl) hl).trans (dep_of (Fact := F_blend6 w.heap.size a b c d (-lim p) (-lim q) (-lim r) (-lim s) T) hd 11 (by kernel_rfl)))
          refine one_callv _ _ _ rfl rfl ef (enters_of Try.func36 (by kernel_rfl) rfl) #[.int .i64 b, .int .i64 (65536 - T)] (eval2 ((hF 71).trans ((look_at _ 71 13 _ _ (by kernel_rfl) (by kernel_rfl) hl).trans (dep_of (Fact := F_blend6 w.heap.size a b c d (-lim p) (-lim q) (-lim r) (-lim s) T) hd 13 (by kernel_rfl)))) ((hF 72).trans ((look_at _ 72 14 _ _ (by kernel_rfl) (by kernel_rfl) hl).trans (dep_of (Fact := F_blend6 w.heap.size a b c d (-lim p) (-lim q) (-lim r) (-lim s) T) hd 14 (by kernel_rfl))))) ?_
          refine (fix_Mul' b (65536 - T) _).mono ?_
          rintro e w2 ⟨rfl, hb2⟩
          exact ⟨_, rfl, _, rfl, hb2, rfl⟩
        · intro vs w' F hb hd hF hl
          have e := (hF 7).trans (look_out _ 7 _ _ (by kernel_rfl))
          exact one_move _ rfl (by first | exact Or.inl rfl | exact Or.inr rfl) ⟨_, rfl, Below.refl _ _, e⟩
        · intro vs w' F hb hd hF hl
          have e := (hF 4).trans (look_out _ 4 _ _ (by kernel_rfl))
          exact one_field _ _ _ rfl rfl _ _ e _ (fun w => by kernel_rfl) ⟨_, rfl, Below.refl _ _, rfl⟩
        · intro vs w' F hb hd hF hl
          have e := (hF 75).trans ((look_at _ 75 17 _ _ (by kernel_rfl) (by kernel_rfl) hl).trans (dep_of (Fact := F_blend6 w.heap.size a b c d (-lim p) (-lim q) (-lim r) (-lim s) T) hd 17 (by kernel_rfl)))
          exact one_load _ _ rfl rfl _ _ e ((t2.mono hb).c1) (by kernel_rfl) ⟨_, rfl, Below.refl _ _, rfl⟩
        · intro vs w' F hb hd hF hl
          have e := (hF 2).trans (look_out _ 2 _ _ (by kernel_rfl))
          exact one_move _ rfl (by first | exact Or.inl rfl | exact Or.inr rfl) ⟨_, rfl, Below.refl _ _, e⟩
        · intro vs w' F hb hd hF hl
          have ef := (hF 74).trans ((look_at _ 74 16 _ _ (by kernel_rfl) (by kernel_rfl) hl).trans (dep_of (Fact := F_blend6 w.heap.size a b c d (-lim p) (-lim q) (-lim r) (-lim s) T) hd 16 (by kernel_rfl)))
          refine one_callv _ _ _ rfl rfl ef (enters_of Try.func36 (by kernel_rfl) rfl) #[.int .i64 (-lim q), .int .i64 T] (eval2 ((hF 76).trans ((look_at _ 76 18 _ _ (by kernel_rfl) (by kernel_rfl) hl).trans (dep_of (Fact := F_blend6 w.heap.size a b c d (-lim p) (-lim q) (-lim r) (-lim s) T) hd 18 (by kernel_rfl)))) ((hF 77).trans ((look_at _ 77 19 _ _ (by kernel_rfl) (by kernel_rfl) hl).trans (dep_of (Fact := F_blend6 w.heap.size a b c d (-lim p) (-lim q) (-lim r) (-lim s) T) hd 19 (by kernel_rfl))))) ?_
          refine (fix_Mul' (-lim q) T _).mono ?_
          rintro e w2 ⟨rfl, hb2⟩
          exact ⟨_, rfl, _, rfl, hb2, rfl⟩
        · intro vs w' F hb hd hF hl
          refine one_call _ _ rfl rfl (enters_of Try.func40 (by kernel_rfl) rfl) #[.int .i64 (qm b (65536 - T)), .int .i64 (qm (-lim q) T)] (eval2 ((hF 73).trans ((look_at _ 73 15 _ _ (by kernel_rfl) (by kernel_rfl) hl).trans (dep_of (Fact := F_blend6 w.heap.size a b c d (-lim p) (-lim q) (-lim r) (-lim s) T) hd 15 (by kernel_rfl)))) ((hF 78).trans ((look_at _ 78 20 _ _ (by kernel_rfl) (by kernel_rfl) hl).trans (dep_of (Fact := F_blend6 w.heap.size a b c d (-lim p) (-lim q) (-lim r) (-lim s) T) hd 20 (by kernel_rfl))))) ?_
          refine (fix_Add (qm b (65536 - T)) (qm (-lim q) T) _).mono ?_
          rintro e w2 ⟨rfl, rfl⟩
          exact ⟨_, rfl, _, rfl, Below.refl _ _, rfl⟩
        · intro vs w' F hb hd hF hl
          have e := (hF 7).trans (look_out _ 7 _ _ (by kernel_rfl))
          exact one_move _ rfl (by first | exact Or.inl rfl | exact Or.inr rfl) ⟨_, rfl, Below.refl _ _, e⟩
        · intro vs w' F hb hd hF hl
          have e := (hF 3).trans (look_out _ 3 _ _ (by kernel_rfl))
          exact one_field _ _ _ rfl rfl _ _ e _ (fun w => by kernel_rfl) ⟨_, rfl, Below.refl _ _, rfl⟩
        · intro vs w' F hb hd hF hl
          have e := (hF 81).trans ((look_at _ 81 23 _ _ (by kernel_rfl) (by kernel_rfl) hl).trans (dep_of (Fact := F_blend6 w.heap.size a b c d (-lim p) (-lim q) (-lim r) (-lim s) T) hd 23 (by kernel_rfl)))
          exact one_load _ _ rfl rfl _ _ e ((t1.mono hb).c2) (by kernel_rfl) ⟨_, rfl, Below.refl _ _, rfl⟩
        · intro vs w' F hb hd hF hl
          have e := (hF 8).trans (look_out _ 8 _ _ (by kernel_rfl))
          exact one_move _ rfl (by first | exact Or.inl rfl | exact Or.inr rfl) ⟨_, rfl, Below.refl _ _, e⟩
        · intro vs w' F hb hd hF hl
          have ef := (hF 80).trans ((look_at _ 80 22 _ _ (by kernel_rfl) (by kernel_rfl) hl).trans (dep_of (Fact := F_blend6 w.heap.size a b c d (-lim p) (-lim q) (-lim r) (-lim s) T) hd 22 (by kernel_rfl)))
          refine one_callv _ _ _ rfl rfl ef (enters_of Try.func36 (by kernel_rfl) rfl) #[.int .i64 c, .int .i64 (65536 - T)] (eval2 ((hF 82).trans ((look_at _ 82 24 _ _ (by kernel_rfl) (by kernel_rfl) hl).trans (dep_of (Fact := F_blend6 w.heap.size a b c d (-lim p) (-lim q) (-lim r) (-lim s) T) hd 24 (by kernel_rfl)))) ((hF 83).trans ((look_at _ 83 25 _ _ (by kernel_rfl) (by kernel_rfl) hl).trans (dep_of (Fact := F_blend6 w.heap.size a b c d (-lim p) (-lim q) (-lim r) (-lim s) T) hd 25 (by kernel_rfl))))) ?_
          refine (fix_Mul' c (65536 - T) _).mono ?_
          rintro e w2 ⟨rfl, hb2⟩
          exact ⟨_, rfl, _, rfl, hb2, rfl⟩
        · intro vs w' F hb hd hF hl
          have e := (hF 7).trans (look_out _ 7 _ _ (by kernel_rfl))
          exact one_move _ rfl (by first | exact Or.inl rfl | exact Or.inr rfl) ⟨_, rfl, Below.refl _ _, e⟩
        · intro vs w' F hb hd hF hl
          have e := (hF 4).trans (look_out _ 4 _ _ (by kernel_rfl))
          exact one_field _ _ _ rfl rfl _ _ e _ (fun w => by kernel_rfl) ⟨_, rfl, Below.refl _ _, rfl⟩
        · intro vs w' F hb hd hF hl
          have e := (hF 86).trans ((look_at _ 86 28 _ _ (by kernel_rfl) (by kernel_rfl) hl).trans (dep_of (Fact := F_blend6 w.heap.size a b c d (-lim p) (-lim q) (-lim r) (-lim s) T) hd 28 (by kernel_rfl)))
          exact one_load _ _ rfl rfl _ _ e ((t2.mono hb).c2) (by kernel_rfl) ⟨_, rfl, Below.refl _ _, rfl⟩
        · intro vs w' F hb hd hF hl
          have e := (hF 2).trans (look_out _ 2 _ _ (by kernel_rfl))
          exact one_move _ rfl (by first | exact Or.inl rfl | exact Or.inr rfl) ⟨_, rfl, Below.refl _ _, e⟩
        · intro vs w' F hb hd hF hl
          have ef := (hF 85).trans ((look_at _ 85 27 _ _ (by kernel_rfl) (by kernel_rfl) hl).trans (dep_of (Fact := F_blend6 w.heap.size a b c d (-lim p) (-lim q) (-lim r) (-lim s) T) hd 27 (by kernel_rfl)))
          refine one_callv _ _ _ rfl rfl ef (enters_of Try.func36 (by kernel_rfl) rfl) #[.int .i64 (-lim r), .int .i64 T] (eval2 ((hF 87).trans ((look_at _ 87 29 _ _ (by kernel_rfl) (by kernel_rfl) hl).trans (dep_of (Fact := F_blend6 w.heap.size a b c d (-lim p) (-lim q) (-lim r) (-lim s) T) hd 29 (by kernel_rfl)))) ((hF 88).trans ((look_at _ 88 30 _ _ (by kernel_rfl) (by kernel_rfl) hl).trans (dep_of (Fact := F_blend6 w.heap.size a b c d (-lim p) (-lim q) (-lim r) (-lim s) T) hd 30 (by kernel_rfl))))) ?_
          refine (fix_Mul' (-lim r) T _).mono ?_
          rintro e w2 ⟨rfl, hb2⟩
          exact ⟨_, rfl, _, rfl, hb2, rfl⟩
        · intro vs w' F hb hd hF hl
          refine one_call _ _ rfl rfl (enters_of Try.func40 (by kernel_rfl) rfl) #[.int .i64 (qm c (65536 - T)), .int .i64 (qm (-lim r) T)] (eval2 ((hF 84).trans ((look_at _ 84 26 _ _ (by kernel_rfl) (by kernel_rfl) hl).trans (dep_of (Fact := F_blend6 w.heap.size a b c d (-lim p) (-lim q) (-lim r) (-lim s) T) hd 26 (by kernel_rfl)))) ((hF 89).trans ((look_at _ 89 31 _ _ (by kernel_rfl) (by kernel_rfl) hl).trans (dep_of (Fact := F_blend6 w.heap.size a b c d (-lim p) (-lim q) (-lim r) (-lim s) T) hd 31 (by kernel_rfl))))) ?_
          refine (fix_Add (qm c (65536 - T)) (qm (-lim r) T) _).mono ?_
          rintro e w2 ⟨rfl, rfl⟩
          exact ⟨_, rfl, _, rfl, Below.refl _ _, rfl⟩
        · intro vs w' F hb hd hF hl
          have e := (hF 7).trans (look_out _ 7 _ _ (by kernel_rfl))
          exact one_move _ rfl (by first | exact Or.inl rfl | exact Or.inr rfl) ⟨_, rfl, Below.refl _ _, e⟩
        · intro vs w' F hb hd hF hl
          have e := (hF 3).trans (look_out _ 3 _ _ (by kernel_rfl))
          exact one_field _ _ _ rfl rfl _ _ e _ (fun w => by kernel_rfl) ⟨_, rfl, Below.refl _ _, rfl⟩
        · intro vs w' F hb hd hF hl
          have e := (hF 92).trans ((look_at _ 92 34 _ _ (by kernel_rfl) (by kernel_rfl) hl).trans (dep_of (Fact := F_blend6 w.heap.size a b c d (-lim p) (-lim q) (-lim r) (-lim s) T) hd 34 (by kernel_rfl)))
          exact one_load _ _ rfl rfl _ _ e ((t1.mono hb).c3) (by kernel_rfl) ⟨_, rfl, Below.refl _ _, rfl⟩
        · intro vs w' F hb hd hF hl
          have e := (hF 8).trans (look_out _ 8 _ _ (by kernel_rfl))
          exact one_move _ rfl (by first | exact Or.inl rfl | exact Or.inr rfl) ⟨_, rfl, Below.refl _ _, e⟩
        · intro vs w' F hb hd hF hl
          have ef := (hF 91).trans ((look_at _ 91 33 _ _ (by kernel_rfl) (by kernel_rfl) hl).trans (dep_of (Fact := F_blend6 w.heap.size a b c d (-lim p) (-lim q) (-lim r) (-lim s) T) hd 33 (by kernel_rfl)))
          refine one_callv _ _ _ rfl rfl ef (enters_of Try.func36 (by kernel_rfl) rfl) #[.int .i64 d, .int .i64 (65536 - T)] (eval2 ((hF 93).trans ((look_at _ 93 35 _ _ (by kernel_rfl) (by kernel_rfl) hl).trans (dep_of (Fact := F_blend6 w.heap.size a b c d (-lim p) (-lim q) (-lim r) (-lim s) T) hd 35 (by kernel_rfl)))) ((hF 94).trans ((look_at _ 94 36 _ _ (by kernel_rfl) (by kernel_rfl) hl).trans (dep_of (Fact := F_blend6 w.heap.size a b c d (-lim p) (-lim q) (-lim r) (-lim s) T) hd 36 (by kernel_rfl))))) ?_
          refine (fix_Mul' d (65536 - T) _).mono ?_
          rintro e w2 ⟨rfl, hb2⟩
          exact ⟨_, rfl, _, rfl, hb2, rfl⟩
        · intro vs w' F hb hd hF hl
          have e := (hF 7).trans (look_out _ 7 _ _ (by kernel_rfl))
          exact one_move _ rfl (by first | exact Or.inl rfl | exact Or.inr rfl) ⟨_, rfl, Below.refl _ _, e⟩
        · intro vs w' F hb hd hF hl
          have e := (hF 4).trans (look_out _ 4 _ _ (by kernel_rfl))
          exact one_field _ _ _ rfl rfl _ _ e _ (fun w => by kernel_rfl) ⟨_, rfl, Below.refl _ _, rfl⟩
        · intro vs w' F hb hd hF hl
          have e := (hF 97).trans ((look_at _ 97 39 _ _ (by kernel_rfl) (by kernel_rfl) hl).trans (dep_of (Fact := F_blend6 w.heap.size a b c d (-lim p) (-lim q) (-lim r) (-lim s) T) hd 39 (by kernel_rfl)))
          exact one_load _ _ rfl rfl _ _ e ((t2.mono hb).c3) (by kernel_rfl) ⟨_, rfl, Below.refl _ _, rfl⟩
        · intro vs w' F hb hd hF hl
          have e := (hF 2).trans (look_out _ 2 _ _ (by kernel_rfl))
          exact one_move _ rfl (by first | exact Or.inl rfl | exact Or.inr rfl) ⟨_, rfl, Below.refl _ _, e⟩
        · intro vs w' F hb hd hF hl
          have ef := (hF 96).trans ((look_at _ 96 38 _ _ (by kernel_rfl) (by kernel_rfl) hl).trans (dep_of (Fact := F_blend6 w.heap.size a b c d (-lim p) (-lim q) (-lim r) (-lim s) T) hd 38 (by kernel_rfl)))
          refine one_callv _ _ _ rfl rfl ef (enters_of Try.func36 (by kernel_rfl) rfl) #[.int .i64 (-lim s), .int .i64 T] (eval2 ((hF 98).trans ((look_at _ 98 40 _ _ (by kernel_rfl) (by kernel_rfl) hl).trans (dep_of (Fact := F_blend6 w.heap.size a b c d (-lim p) (-lim q) (-lim r) (-lim s) T) hd 40 (by kernel_rfl)))) ((hF 99).trans ((look_at _ 99 41 _ _ (by kernel_rfl) (by kernel_rfl) hl).trans (dep_of (Fact := F_blend6 w.heap.size a b c d (-lim p) (-lim q) (-lim r) (-lim s) T) hd 41 (by kernel_rfl))))) ?_
          refine (fix_Mul' (-lim s) T _).mono ?_
          rintro e w2 ⟨rfl, hb2⟩
          exact ⟨_, rfl, _, rfl, hb2, rfl⟩
        · intro vs w' F hb hd hF hl
          refine one_call _ _ rfl rfl (enters_of Try.func40 (by kernel_rfl) rfl) #[.int .i64 (qm d (65536 - T)), .int .i64 (qm (-lim s) T)] (eval2 ((hF 95).trans ((look_at _ 95 37 _ _ (by kernel_rfl) (by kernel_rfl) hl).trans (dep_of (Fact := F_blend6 w.heap.size a b c d (-lim p) (-lim q) (-lim r) (-lim s) T) hd 37 (by kernel_rfl)))) ((hF 100).trans ((look_at _ 100 42 _ _ (by kernel_rfl) (by kernel_rfl) hl).trans (dep_of (Fact := F_blend6 w.heap.size a b c d (-lim p) (-lim q) (-lim r) (-lim s) T) hd 42 (by kernel_rfl))))) ?_
          refine (fix_Add (qm d (65536 - T)) (qm (-lim s) T) _).mono ?_
          rintro e w2 ⟨rfl, rfl⟩
          exact ⟨_, rfl, _, rfl, Below.refl _ _, rfl⟩
        · intro vs w' F hb hd hF hl
          exact one_build _ _ rfl rfl #[(0, .int .i64 (lim (lim (qm a (65536 - T)) + lim (qm (-lim p) T)))), (1, .int .i64 (lim (lim (qm b (65536 - T)) + lim (qm (-lim q) T)))), (2, .int .i64 (lim (lim (qm c (65536 - T)) + lim (qm (-lim r) T)))), (3, .int .i64 (lim (lim (qm d (65536 - T)) + lim (qm (-lim s) T))))] (parts4 ((hF 68).trans ((look_at _ 68 10 _ _ (by kernel_rfl) (by kernel_rfl) hl).trans (dep_of (Fact := F_blend6 w.heap.size a b c d (-lim p) (-lim q) (-lim r) (-lim s) T) hd 10 (by kernel_rfl)))) ((hF 79).trans ((look_at _ 79 21 _ _ (by kernel_rfl) (by kernel_rfl) hl).trans (dep_of (Fact := F_blend6 w.heap.size a b c d (-lim p) (-lim q) (-lim r) (-lim s) T) hd 21 (by kernel_rfl)))) ((hF 90).trans ((look_at _ 90 32 _ _ (by kernel_rfl) (by kernel_rfl) hl).trans (dep_of (Fact := F_blend6 w.heap.size a b c d (-lim p) (-lim q) (-lim r) (-lim s) T) hd 32 (by kernel_rfl)))) ((hF 101).trans ((look_at _ 101 43 _ _ (by kernel_rfl) (by kernel_rfl) hl).trans (dep_of (Fact := F_blend6 w.heap.size a b c d (-lim p) (-lim q) (-lim r) (-lim s) T) hd 43 (by kernel_rfl))))) (.agg #[.int .i64 (lim (lim (qm a (65536 - T)) + lim (qm (-lim p) T))), .int .i64 (lim (lim (qm b (65536 - T)) + lim (qm (-lim q) T))), .int .i64 (lim (lim (qm c (65536 - T)) + lim (qm (-lim r) T))), .int .i64 (lim (lim (qm d (65536 - T)) + lim (qm (-lim s) T)))]) (fun w => by kernel_rfl) ⟨_, rfl, Below.refl _ _, rfl⟩
        · intro vs w' F hb hd hF hl
          refine one_call _ _ rfl rfl (enters_of Try.func57 (by kernel_rfl) rfl) #[.agg #[.int .i64 (lim (lim (qm a (65536 - T)) + lim (qm (-lim p) T))), .int .i64 (lim (lim (qm b (65536 - T)) + lim (qm (-lim q) T))), .int .i64 (lim (lim (qm c (65536 - T)) + lim (qm (-lim r) T))), .int .i64 (lim (lim (qm d (65536 - T)) + lim (qm (-lim s) T)))]] (eval1 ((hF 102).trans ((look_at _ 102 44 _ _ (by kernel_rfl) (by kernel_rfl) hl).trans (dep_of (Fact := F_blend6 w.heap.size a b c d (-lim p) (-lim q) (-lim r) (-lim s) T) hd 44 (by kernel_rfl))))) ?_
          refine (quat_Unit (lim (lim (qm a (65536 - T)) + lim (qm (-lim p) T))) (lim (lim (qm b (65536 - T)) + lim (qm (-lim q) T))) (lim (lim (qm c (65536 - T)) + lim (qm (-lim r) T))) (lim (lim (qm d (65536 - T)) + lim (qm (-lim s) T))) _).mono ?_
          rintro e w2 ⟨rfl, hb2⟩
          exact ⟨_, rfl, _, rfl, hb2, rfl⟩
      · intro vs W1 hl hb hI
        have hlast := hI 45 (by omega)
        generalize hFF : fillAll _ _ _ = F
        have e1 : F.eval (.tmp 6) = .pointer (some ⟨w.heap.size + 1 + 1, 0, none⟩) := by rw [← hFF]; exact (eval_fill _ 6 _ _).trans ((look_out _ 6 _ _ (by kernel_rfl)).trans rfl)
        have e2 : F.eval (.tmp 103) = .agg #[.int .i64 (u4 [(lim (lim (qm a (65536 - T)) + lim (qm (-lim p) T))), (lim (lim (qm b (65536 - T)) + lim (qm (-lim q) T))), (lim (lim (qm c (65536 - T)) + lim (qm (-lim r) T))), (lim (lim (qm d (65536 - T)) + lim (qm (-lim s) T)))] 0), .int .i64 (u4 [(lim (lim (qm a (65536 - T)) + lim (qm (-lim p) T))), (lim (lim (qm b (65536 - T)) + lim (qm (-lim q) T))), (lim (lim (qm c (65536 - T)) + lim (qm (-lim r) T))), (lim (lim (qm d (65536 - T)) + lim (qm (-lim s) T)))] 1), .int .i64 (u4 [(lim (lim (qm a (65536 - T)) + lim (qm (-lim p) T))), (lim (lim (qm b (65536 - T)) + lim (qm (-lim q) T))), (lim (lim (qm c (65536 - T)) + lim (qm (-lim r) T))), (lim (lim (qm d (65536 - T)) + lim (qm (-lim s) T)))] 2), .int .i64 (u4 [(lim (lim (qm a (65536 - T)) + lim (qm (-lim p) T))), (lim (lim (qm b (65536 - T)) + lim (qm (-lim q) T))), (lim (lim (qm c (65536 - T)) + lim (qm (-lim r) T))), (lim (lim (qm d (65536 - T)) + lim (qm (-lim s) T)))] 3)] := by rw [← hFF]; exact (eval_fill _ 103 _ _).trans ((look_at _ 103 45 _ _ (by kernel_rfl) (by kernel_rfl) hl).trans hlast)
        have e3 : F.defers = [] := by rw [← hFF]; exact fillAll_defers _ _ _
        have t4 := t3.mono hb
        have hB9 := hB.trans (hb.mono hB.size)
        clear hI hl hb t1 t2 t3 hFF hlast
        refine wpList_store_abs rfl 62 (.tmp 6) (.tmp 103) rfl (w.heap.size + 1 + 1) #[.int .i64 (u4 [(lim (lim (qm a (65536 - T)) + lim (qm (-lim p) T))), (lim (lim (qm b (65536 - T)) + lim (qm (-lim q) T))), (lim (lim (qm c (65536 - T)) + lim (qm (-lim r) T))), (lim (lim (qm d (65536 - T)) + lim (qm (-lim s) T)))] 0), .int .i64 (u4 [(lim (lim (qm a (65536 - T)) + lim (qm (-lim p) T))), (lim (lim (qm b (65536 - T)) + lim (qm (-lim q) T))), (lim (lim (qm c (65536 - T)) + lim (qm (-lim r) T))), (lim (lim (qm d (65536 - T)) + lim (qm (-lim s) T)))] 1), .int .i64 (u4 [(lim (lim (qm a (65536 - T)) + lim (qm (-lim p) T))), (lim (lim (qm b (65536 - T)) + lim (qm (-lim q) T))), (lim (lim (qm c (65536 - T)) + lim (qm (-lim r) T))), (lim (lim (qm d (65536 - T)) + lim (qm (-lim s) T)))] 2), .int .i64 (u4 [(lim (lim (qm a (65536 - T)) + lim (qm (-lim p) T))), (lim (lim (qm b (65536 - T)) + lim (qm (-lim q) T))), (lim (lim (qm c (65536 - T)) + lim (qm (-lim r) T))), (lim (lim (qm d (65536 - T)) + lim (qm (-lim s) T)))] 3)] e1 e2 _ _ t4 (by kernel_rfl) rfl (ones4 _ _ _ _) ?_
        intro w3 hg hb2 hs
        go_wp2_with fail
        exact bodyPost_ret (v := .agg #[.int .i64 (u4 [(lim (lim (qm a (65536 - T)) + lim (qm (-lim p) T))), (lim (lim (qm b (65536 - T)) + lim (qm (-lim q) T))), (lim (lim (qm c (65536 - T)) + lim (qm (-lim r) T))), (lim (lim (qm d (65536 - T)) + lim (qm (-lim s) T)))] 0), .int .i64 (u4 [(lim (lim (qm a (65536 - T)) + lim (qm (-lim p) T))), (lim (lim (qm b (65536 - T)) + lim (qm (-lim q) T))), (lim (lim (qm c (65536 - T)) + lim (qm (-lim r) T))), (lim (lim (qm d (65536 - T)) + lim (qm (-lim s) T)))] 1), .int .i64 (u4 [(lim (lim (qm a (65536 - T)) + lim (qm (-lim p) T))), (lim (lim (qm b (65536 - T)) + lim (qm (-lim q) T))), (lim (lim (qm c (65536 - T)) + lim (qm (-lim r) T))), (lim (lim (qm d (65536 - T)) + lim (qm (-lim s) T)))] 2), .int .i64 (u4 [(lim (lim (qm a (65536 - T)) + lim (qm (-lim p) T))), (lim (lim (qm b (65536 - T)) + lim (qm (-lim q) T))), (lim (lim (qm c (65536 - T)) + lim (qm (-lim r) T))), (lim (lim (qm d (65536 - T)) + lim (qm (-lim s) T)))] 3)]) (res4 Try.results59 _ _ (w.heap.size + 1 + 1) _ _ _ _ e1 hg) e3 ⟨by rw [HU.out, HF.out]; rfl, hB9.trans (hb2.mono (by omega))⟩
    · have hdb : decide (dot4 a b c d p q r s < 0) = false := decide_eq_false hd
      have HF := Lib.hid (blL_pos (T := T) hd)
      rw [hdb]
      clear hd hdb
      go_wp2_with fail
      have hB := hB1
      clear hB1
      refine wp_region_facts rfl 46 (by kernel_rfl) (F_blend6 w.heap.size a b c d p q r s T) (F_blend6_mono w.heap.size a b c d p q r s T) ?_ ?_
      · refine ⟨?_, ?_, ?_, ?_, ?_, ?_, ?_, ?_, ?_, ?_, ?_, ?_, ?_, ?_, ?_, ?_, ?_, ?_, ?_, ?_, ?_, ?_, ?_, ?_, ?_, ?_, ?_, ?_, ?_, ?_, ?_, ?_, ?_, ?_, ?_, ?_, ?_, ?_, ?_, ?_, ?_, ?_, ?_, ?_, ?_, ?_, trivial⟩
        · intro vs w' F hb hd hF hl
          have e := (hF 7).trans (look_out _ 7 _ _ (by kernel_rfl))
          exact one_move _ rfl (by first | exact Or.inl rfl | exact Or.inr rfl) ⟨_, rfl, Below.refl _ _, e⟩
        · intro vs w' F hb hd hF hl
          have e := (hF 3).trans (look_out _ 3 _ _ (by kernel_rfl))
          exact one_field _ _ _ rfl rfl _ _ e _ (fun w => by kernel_rfl) ⟨_, rfl, Below.refl _ _, rfl⟩
        · intro vs w' F hb hd hF hl
          have e := (hF 59).trans ((look_at _ 59 1 _ _ (by kernel_rfl) (by kernel_rfl) hl).trans (dep_of (Fact := F_blend6 w.heap.size a b c d p q r s T) hd 1 (by kernel_rfl)))
          exact one_load _ _ rfl rfl _ _ e ((t1.mono hb).c0) (by kernel_rfl) ⟨_, rfl, Below.refl _ _, rfl⟩
        · intro vs w' F hb hd hF hl
          have e := (hF 8).trans (look_out _ 8 _ _ (by kernel_rfl))
          exact one_move _ rfl (by first | exact Or.inl rfl | exact Or.inr rfl) ⟨_, rfl, Below.refl _ _, e⟩
        · intro vs w' F hb hd hF hl
          have ef := (hF 58).trans ((look_at _ 58 0 _ _ (by kernel_rfl) (by kernel_rfl) hl).trans (dep_of (Fact := F_blend6 w.heap.size a b c d p q r s T) hd 0 (by kernel_rfl)))
          refine one_callv _ _ _ rfl rfl ef (enters_of Try.func36 (by kernel_rfl) rfl) #[.int .i64 a, .int .i64 (65536 - T)] (eval2 ((hF 60).trans ((look_at _ 60 2 _ _ (by kernel_rfl) (by kernel_rfl) hl).trans (dep_of (Fact := F_blend6 w.heap.size a b c d p q r s T) hd 2 (by kernel_rfl)))) ((hF 61).trans ((look_at _ 61 3 _ _ (by kernel_rfl) (by kernel_rfl) hl).trans (dep_of (Fact := F_blend6 w.heap.size a b c d p q r s T) hd 3 (by kernel_rfl))))) ?_
          refine (fix_Mul' a (65536 - T) _).mono ?_
          rintro e w2 ⟨rfl, hb2⟩
          exact ⟨_, rfl, _, rfl, hb2, rfl⟩
        · intro vs w' F hb hd hF hl
          have e := (hF 7).trans (look_out _ 7 _ _ (by kernel_rfl))
          exact one_move _ rfl (by first | exact Or.inl rfl | exact Or.inr rfl) ⟨_, rfl, Below.refl _ _, e⟩
        · intro vs w' F hb hd hF hl
          have e := (hF 4).trans (look_out _ 4 _ _ (by kernel_rfl))
          exact one_field _ _ _ rfl rfl _ _ e _ (fun w => by kernel_rfl) ⟨_, rfl, Below.refl _ _, rfl⟩
        · intro vs w' F hb hd hF hl
          have e := (hF 64).trans ((look_at _ 64 6 _ _ (by kernel_rfl) (by kernel_rfl) hl).trans (dep_of (Fact := F_blend6 w.heap.size a b c d p q r s T) hd 6 (by kernel_rfl)))
          exact one_load _ _ rfl rfl _ _ e ((t2.mono hb).c0) (by kernel_rfl) ⟨_, rfl, Below.refl _ _, rfl⟩
        · intro vs w' F hb hd hF hl
          have e := (hF 2).trans (look_out _ 2 _ _ (by kernel_rfl))
          exact one_move _ rfl (by first | exact Or.inl rfl | exact Or.inr rfl) ⟨_, rfl, Below.refl _ _, e⟩
        · intro vs w' F hb hd hF hl
          have ef := (hF 63).trans ((look_at _ 63 5 _ _ (by kernel_rfl) (by kernel_rfl) hl).trans (dep_of (Fact := F_blend6 w.heap.size a b c d p q r s T) hd 5 (by kernel_rfl)))
          refine one_callv _ _ _ rfl rfl ef (enters_of Try.func36 (by kernel_rfl) rfl) #[.int .i64 p, .int .i64 T] (eval2 ((hF 65).trans ((look_at _ 65 7 _ _ (by kernel_rfl) (by kernel_rfl) hl).trans (dep_of (Fact := F_blend6 w.heap.size a b c d p q r s T) hd 7 (by kernel_rfl)))) ((hF 66).trans ((look_at _ 66 8 _ _ (by kernel_rfl) (by kernel_rfl) hl).trans (dep_of (Fact := F_blend6 w.heap.size a b c d p q r s T) hd 8 (by kernel_rfl))))) ?_
          refine (fix_Mul' p T _).mono ?_
          rintro e w2 ⟨rfl, hb2⟩
          exact ⟨_, rfl, _, rfl, hb2, rfl⟩
        · intro vs w' F hb hd hF hl
          refine one_call _ _ rfl rfl (enters_of Try.func40 (by kernel_rfl) rfl) #[.int .i64 (qm a (65536 - T)), .int .i64 (qm p T)] (eval2 ((hF 62).trans ((look_at _ 62 4 _ _ (by kernel_rfl) (by kernel_rfl) hl).trans (dep_of (Fact := F_blend6 w.heap.size a b c d p q r s T) hd 4 (by kernel_rfl)))) ((hF 67).trans ((look_at _ 67 9 _ _ (by kernel_rfl) (by kernel_rfl) hl).trans (dep_of (Fact := F_blend6 w.heap.size a b c d p q r s T) hd 9 (by kernel_rfl))))) ?_
          refine (fix_Add (qm a (65536 - T)) (qm p T) _).mono ?_
          rintro e w2 ⟨rfl, rfl⟩
          exact ⟨_, rfl, _, rfl, Below.refl _ _, rfl⟩
        · intro vs w' F hb hd hF hl
          have e := (hF 7).trans (look_out _ 7 _ _ (by kernel_rfl))
          exact one_move _ rfl (by first | exact Or.inl rfl | exact Or.inr rfl) ⟨_, rfl, Below.refl _ _, e⟩
        · intro vs w' F hb hd hF hl
          have e := (hF 3).trans (look_out _ 3 _ _ (by kernel_rfl))
          exact one_field _ _ _ rfl rfl _ _ e _ (fun w => by kernel_rfl) ⟨_, rfl, Below.refl _ _, rfl⟩
        · intro vs w' F hb hd hF hl
          have e := (hF 70).trans ((look_at _ 70 12 _ _ (by kernel_rfl) (by kernel_rfl) hl).trans (dep_of (Fact := F_blend6 w.heap.size a b c d p q r s T) hd 12 (by kernel_rfl)))
          exact one_load _ _ rfl rfl _ _ e ((t1.mono hb).c1) (by kernel_rfl) ⟨_, rfl, Below.refl _ _, rfl⟩
        · intro vs w' F hb hd hF hl
          have e := (hF 8).trans (look_out _ 8 _ _ (by kernel_rfl))
          exact one_move _ rfl (by first | exact Or.inl rfl | exact Or.inr rfl) ⟨_, rfl, Below.refl _ _, e⟩
        · intro vs w' F hb hd hF hl
          have ef := (hF 69).trans ((look_at _ 69 11 _ _ (by kernel_rfl) (by kernel_rfl) hl).trans (dep_of (Fact := F_blend6 w.heap.size a b c d p q r s T) hd 11 (by kernel_rfl)))
          refine one_callv _ _ _ rfl rfl ef (enters_of Try.func36 (by kernel_rfl) rfl) #[.int .i64 b, .int .i64 (65536 - T)] (eval2 ((hF 71).trans ((look_at _ 71 13 _ _ (by kernel_rfl) (by kernel_rfl) hl).trans (dep_of (Fact := F_blend6 w.heap.size a b c d p q r s T) hd 13 (by kernel_rfl)))) ((hF 72).trans ((look_at _ 72 14 _ _ (by kernel_rfl) (by kernel_rfl) hl).trans (dep_of (Fact := F_blend6 w.heap.size a b c d p q r s T) hd 14 (by kernel_rfl))))) ?_
          refine (fix_Mul' b (65536 - T) _).mono ?_
          rintro e w2 ⟨rfl, hb2⟩
          exact ⟨_, rfl, _, rfl, hb2, rfl⟩
        · intro vs w' F hb hd hF hl
          have e := (hF 7).trans (look_out _ 7 _ _ (by kernel_rfl))
          exact one_move _ rfl (by first | exact Or.inl rfl | exact Or.inr rfl) ⟨_, rfl, Below.refl _ _, e⟩
        · intro vs w' F hb hd hF hl
          have e := (hF 4).trans (look_out _ 4 _ _ (by kernel_rfl))
          exact one_field _ _ _ rfl rfl _ _ e _ (fun w => by kernel_rfl) ⟨_, rfl, Below.refl _ _, rfl⟩
        · intro vs w' F hb hd hF hl
          have e := (hF 75).trans ((look_at _ 75 17 _ _ (by kernel_rfl) (by kernel_rfl) hl).trans (dep_of (Fact := F_blend6 w.heap.size a b c d p q r s T) hd 17 (by kernel_rfl)))
          exact one_load _ _ rfl rfl _ _ e ((t2.mono hb).c1) (by kernel_rfl) ⟨_, rfl, Below.refl _ _, rfl⟩
        · intro vs w' F hb hd hF hl
          have e := (hF 2).trans (look_out _ 2 _ _ (by kernel_rfl))
          exact one_move _ rfl (by first | exact Or.inl rfl | exact Or.inr rfl) ⟨_, rfl, Below.refl _ _, e⟩
        · intro vs w' F hb hd hF hl
          have ef := (hF 74).trans ((look_at _ 74 16 _ _ (by kernel_rfl) (by kernel_rfl) hl).trans (dep_of (Fact := F_blend6 w.heap.size a b c d p q r s T) hd 16 (by kernel_rfl)))
          refine one_callv _ _ _ rfl rfl ef (enters_of Try.func36 (by kernel_rfl) rfl) #[.int .i64 q, .int .i64 T] (eval2 ((hF 76).trans ((look_at _ 76 18 _ _ (by kernel_rfl) (by kernel_rfl) hl).trans (dep_of (Fact := F_blend6 w.heap.size a b c d p q r s T) hd 18 (by kernel_rfl)))) ((hF 77).trans ((look_at _ 77 19 _ _ (by kernel_rfl) (by kernel_rfl) hl).trans (dep_of (Fact := F_blend6 w.heap.size a b c d p q r s T) hd 19 (by kernel_rfl))))) ?_
          refine (fix_Mul' q T _).mono ?_
          rintro e w2 ⟨rfl, hb2⟩
          exact ⟨_, rfl, _, rfl, hb2, rfl⟩
        · intro vs w' F hb hd hF hl
          refine one_call _ _ rfl rfl (enters_of Try.func40 (by kernel_rfl) rfl) #[.int .i64 (qm b (65536 - T)), .int .i64 (qm q T)] (eval2 ((hF 73).trans ((look_at _ 73 15 _ _ (by kernel_rfl) (by kernel_rfl) hl).trans (dep_of (Fact := F_blend6 w.heap.size a b c d p q r s T) hd 15 (by kernel_rfl)))) ((hF 78).trans ((look_at _ 78 20 _ _ (by kernel_rfl) (by kernel_rfl) hl).trans (dep_of (Fact := F_blend6 w.heap.size a b c d p q r s T) hd 20 (by kernel_rfl))))) ?_
          refine (fix_Add (qm b (65536 - T)) (qm q T) _).mono ?_
          rintro e w2 ⟨rfl, rfl⟩
          exact ⟨_, rfl, _, rfl, Below.refl _ _, rfl⟩
        · intro vs w' F hb hd hF hl
          have e := (hF 7).trans (look_out _ 7 _ _ (by kernel_rfl))
          exact one_move _ rfl (by first | exact Or.inl rfl | exact Or.inr rfl) ⟨_, rfl, Below.refl _ _, e⟩
        · intro vs w' F hb hd hF hl
          have e := (hF 3).trans (look_out _ 3 _ _ (by kernel_rfl))
          exact one_field _ _ _ rfl rfl _ _ e _ (fun w => by kernel_rfl) ⟨_, rfl, Below.refl _ _, rfl⟩
        · intro vs w' F hb hd hF hl
          have e := (hF 81).trans ((look_at _ 81 23 _ _ (by kernel_rfl) (by kernel_rfl) hl).trans (dep_of (Fact := F_blend6 w.heap.size a b c d p q r s T) hd 23 (by kernel_rfl)))
          exact one_load _ _ rfl rfl _ _ e ((t1.mono hb).c2) (by kernel_rfl) ⟨_, rfl, Below.refl _ _, rfl⟩
        · intro vs w' F hb hd hF hl
          have e := (hF 8).trans (look_out _ 8 _ _ (by kernel_rfl))
          exact one_move _ rfl (by first | exact Or.inl rfl | exact Or.inr rfl) ⟨_, rfl, Below.refl _ _, e⟩
        · intro vs w' F hb hd hF hl
          have ef := (hF 80).trans ((look_at _ 80 22 _ _ (by kernel_rfl) (by kernel_rfl) hl).trans (dep_of (Fact := F_blend6 w.heap.size a b c d p q r s T) hd 22 (by kernel_rfl)))
          refine one_callv _ _ _ rfl rfl ef (enters_of Try.func36 (by kernel_rfl) rfl) #[.int .i64 c, .int .i64 (65536 - T)] (eval2 ((hF 82).trans ((look_at _ 82 24 _ _ (by kernel_rfl) (by kernel_rfl) hl).trans (dep_of (Fact := F_blend6 w.heap.size a b c d p q r s T) hd 24 (by kernel_rfl)))) ((hF 83).trans ((look_at _ 83 25 _ _ (by kernel_rfl) (by kernel_rfl) hl).trans (dep_of (Fact := F_blend6 w.heap.size a b c d p q r s T) hd 25 (by kernel_rfl))))) ?_
          refine (fix_Mul' c (65536 - T) _).mono ?_
          rintro e w2 ⟨rfl, hb2⟩
          exact ⟨_, rfl, _, rfl, hb2, rfl⟩
        · intro vs w' F hb hd hF hl
          have e := (hF 7).trans (look_out _ 7 _ _ (by kernel_rfl))
          exact one_move _ rfl (by first | exact Or.inl rfl | exact Or.inr rfl) ⟨_, rfl, Below.refl _ _, e⟩
        · intro vs w' F hb hd hF hl
          have e := (hF 4).trans (look_out _ 4 _ _ (by kernel_rfl))
          exact one_field _ _ _ rfl rfl _ _ e _ (fun w => by kernel_rfl) ⟨_, rfl, Below.refl _ _, rfl⟩
        · intro vs w' F hb hd hF hl
          have e := (hF 86).trans ((look_at _ 86 28 _ _ (by kernel_rfl) (by kernel_rfl) hl).trans (dep_of (Fact := F_blend6 w.heap.size a b c d p q r s T) hd 28 (by kernel_rfl)))
          exact one_load _ _ rfl rfl _ _ e ((t2.mono hb).c2) (by kernel_rfl) ⟨_, rfl, Below.refl _ _, rfl⟩
        · intro vs w' F hb hd hF hl
          have e := (hF 2).trans (look_out _ 2 _ _ (by kernel_rfl))
          exact one_move _ rfl (by first | exact Or.inl rfl | exact Or.inr rfl) ⟨_, rfl, Below.refl _ _, e⟩
        · intro vs w' F hb hd hF hl
          have ef := (hF 85).trans ((look_at _ 85 27 _ _ (by kernel_rfl) (by kernel_rfl) hl).trans (dep_of (Fact := F_blend6 w.heap.size a b c d p q r s T) hd 27 (by kernel_rfl)))
          refine one_callv _ _ _ rfl rfl ef (enters_of Try.func36 (by kernel_rfl) rfl) #[.int .i64 r, .int .i64 T] (eval2 ((hF 87).trans ((look_at _ 87 29 _ _ (by kernel_rfl) (by kernel_rfl) hl).trans (dep_of (Fact := F_blend6 w.heap.size a b c d p q r s T) hd 29 (by kernel_rfl)))) ((hF 88).trans ((look_at _ 88 30 _ _ (by kernel_rfl) (by kernel_rfl) hl).trans (dep_of (Fact := F_blend6 w.heap.size a b c d p q r s T) hd 30 (by kernel_rfl))))) ?_
          refine (fix_Mul' r T _).mono ?_
          rintro e w2 ⟨rfl, hb2⟩
          exact ⟨_, rfl, _, rfl, hb2, rfl⟩
        · intro vs w' F hb hd hF hl
          refine one_call _ _ rfl rfl (enters_of Try.func40 (by kernel_rfl) rfl) #[.int .i64 (qm c (65536 - T)), .int .i64 (qm r T)] (eval2 ((hF 84).trans ((look_at _ 84 26 _ _ (by kernel_rfl) (by kernel_rfl) hl).trans (dep_of (Fact := F_blend6 w.heap.size a b c d p q r s T) hd 26 (by kernel_rfl)))) ((hF 89).trans ((look_at _ 89 31 _ _ (by kernel_rfl) (by kernel_rfl) hl).trans (dep_of (Fact := F_blend6 w.heap.size a b c d p q r s T) hd 31 (by kernel_rfl))))) ?_
          refine (fix_Add (qm c (65536 - T)) (qm r T) _).mono ?_
          rintro e w2 ⟨rfl, rfl⟩
          exact ⟨_, rfl, _, rfl, Below.refl _ _, rfl⟩
        · intro vs w' F hb hd hF hl
          have e := (hF 7).trans (look_out _ 7 _ _ (by kernel_rfl))
          exact one_move _ rfl (by first | exact Or.inl rfl | exact Or.inr rfl) ⟨_, rfl, Below.refl _ _, e⟩
        · intro vs w' F hb hd hF hl
          have e := (hF 3).trans (look_out _ 3 _ _ (by kernel_rfl))
          exact one_field _ _ _ rfl rfl _ _ e _ (fun w => by kernel_rfl) ⟨_, rfl, Below.refl _ _, rfl⟩
        · intro vs w' F hb hd hF hl
          have e := (hF 92).trans ((look_at _ 92 34 _ _ (by kernel_rfl) (by kernel_rfl) hl).trans (dep_of (Fact := F_blend6 w.heap.size a b c d p q r s T) hd 34 (by kernel_rfl)))
          exact one_load _ _ rfl rfl _ _ e ((t1.mono hb).c3) (by kernel_rfl) ⟨_, rfl, Below.refl _ _, rfl⟩
        · intro vs w' F hb hd hF hl
          have e := (hF 8).trans (look_out _ 8 _ _ (by kernel_rfl))
          exact one_move _ rfl (by first | exact Or.inl rfl | exact Or.inr rfl) ⟨_, rfl, Below.refl _ _, e⟩
        · intro vs w' F hb hd hF hl
          have ef := (hF 91).trans ((look_at _ 91 33 _ _ (by kernel_rfl) (by kernel_rfl) hl).trans (dep_of (Fact := F_blend6 w.heap.size a b c d p q r s T) hd 33 (by kernel_rfl)))
          refine one_callv _ _ _ rfl rfl ef (enters_of Try.func36 (by kernel_rfl) rfl) #[.int .i64 d, .int .i64 (65536 - T)] (eval2 ((hF 93).trans ((look_at _ 93 35 _ _ (by kernel_rfl) (by kernel_rfl) hl).trans (dep_of (Fact := F_blend6 w.heap.size a b c d p q r s T) hd 35 (by kernel_rfl)))) ((hF 94).trans ((look_at _ 94 36 _ _ (by kernel_rfl) (by kernel_rfl) hl).trans (dep_of (Fact := F_blend6 w.heap.size a b c d p q r s T) hd 36 (by kernel_rfl))))) ?_
          refine (fix_Mul' d (65536 - T) _).mono ?_
          rintro e w2 ⟨rfl, hb2⟩
          exact ⟨_, rfl, _, rfl, hb2, rfl⟩
        · intro vs w' F hb hd hF hl
          have e := (hF 7).trans (look_out _ 7 _ _ (by kernel_rfl))
          exact one_move _ rfl (by first | exact Or.inl rfl | exact Or.inr rfl) ⟨_, rfl, Below.refl _ _, e⟩
        · intro vs w' F hb hd hF hl
          have e := (hF 4).trans (look_out _ 4 _ _ (by kernel_rfl))
          exact one_field _ _ _ rfl rfl _ _ e _ (fun w => by kernel_rfl) ⟨_, rfl, Below.refl _ _, rfl⟩
        · intro vs w' F hb hd hF hl
          have e := (hF 97).trans ((look_at _ 97 39 _ _ (by kernel_rfl) (by kernel_rfl) hl).trans (dep_of (Fact := F_blend6 w.heap.size a b c d p q r s T) hd 39 (by kernel_rfl)))
          exact one_load _ _ rfl rfl _ _ e ((t2.mono hb).c3) (by kernel_rfl) ⟨_, rfl, Below.refl _ _, rfl⟩
        · intro vs w' F hb hd hF hl
          have e := (hF 2).trans (look_out _ 2 _ _ (by kernel_rfl))
          exact one_move _ rfl (by first | exact Or.inl rfl | exact Or.inr rfl) ⟨_, rfl, Below.refl _ _, e⟩
        · intro vs w' F hb hd hF hl
          have ef := (hF 96).trans ((look_at _ 96 38 _ _ (by kernel_rfl) (by kernel_rfl) hl).trans (dep_of (Fact := F_blend6 w.heap.size a b c d p q r s T) hd 38 (by kernel_rfl)))
          refine one_callv _ _ _ rfl rfl ef (enters_of Try.func36 (by kernel_rfl) rfl) #[.int .i64 s, .int .i64 T] (eval2 ((hF 98).trans ((look_at _ 98 40 _ _ (by kernel_rfl) (by kernel_rfl) hl).trans (dep_of (Fact := F_blend6 w.heap.size a b c d p q r s T) hd 40 (by kernel_rfl)))) ((hF 99).trans ((look_at _ 99 41 _ _ (by kernel_rfl) (by kernel_rfl) hl).trans (dep_of (Fact := F_blend6 w.heap.size a b c d p q r s T) hd 41 (by kernel_rfl))))) ?_
          refine (fix_Mul' s T _).mono ?_
          rintro e w2 ⟨rfl, hb2⟩
          exact ⟨_, rfl, _, rfl, hb2, rfl⟩
        · intro vs w' F hb hd hF hl
          refine one_call _ _ rfl rfl (enters_of Try.func40 (by kernel_rfl) rfl) #[.int .i64 (qm d (65536 - T)), .int .i64 (qm s T)] (eval2 ((hF 95).trans ((look_at _ 95 37 _ _ (by kernel_rfl) (by kernel_rfl) hl).trans (dep_of (Fact := F_blend6 w.heap.size a b c d p q r s T) hd 37 (by kernel_rfl)))) ((hF 100).trans ((look_at _ 100 42 _ _ (by kernel_rfl) (by kernel_rfl) hl).trans (dep_of (Fact := F_blend6 w.heap.size a b c d p q r s T) hd 42 (by kernel_rfl))))) ?_
          refine (fix_Add (qm d (65536 - T)) (qm s T) _).mono ?_
          rintro e w2 ⟨rfl, rfl⟩
          exact ⟨_, rfl, _, rfl, Below.refl _ _, rfl⟩
        · intro vs w' F hb hd hF hl
          exact one_build _ _ rfl rfl #[(0, .int .i64 (lim (lim (qm a (65536 - T)) + lim (qm p T)))), (1, .int .i64 (lim (lim (qm b (65536 - T)) + lim (qm q T)))), (2, .int .i64 (lim (lim (qm c (65536 - T)) + lim (qm r T)))), (3, .int .i64 (lim (lim (qm d (65536 - T)) + lim (qm s T))))] (parts4 ((hF 68).trans ((look_at _ 68 10 _ _ (by kernel_rfl) (by kernel_rfl) hl).trans (dep_of (Fact := F_blend6 w.heap.size a b c d p q r s T) hd 10 (by kernel_rfl)))) ((hF 79).trans ((look_at _ 79 21 _ _ (by kernel_rfl) (by kernel_rfl) hl).trans (dep_of (Fact := F_blend6 w.heap.size a b c d p q r s T) hd 21 (by kernel_rfl)))) ((hF 90).trans ((look_at _ 90 32 _ _ (by kernel_rfl) (by kernel_rfl) hl).trans (dep_of (Fact := F_blend6 w.heap.size a b c d p q r s T) hd 32 (by kernel_rfl)))) ((hF 101).trans ((look_at _ 101 43 _ _ (by kernel_rfl) (by kernel_rfl) hl).trans (dep_of (Fact := F_blend6 w.heap.size a b c d p q r s T) hd 43 (by kernel_rfl))))) (.agg #[.int .i64 (lim (lim (qm a (65536 - T)) + lim (qm p T))), .int .i64 (lim (lim (qm b (65536 - T)) + lim (qm q T))), .int .i64 (lim (lim (qm c (65536 - T)) + lim (qm r T))), .int .i64 (lim (lim (qm d (65536 - T)) + lim (qm s T)))]) (fun w => by kernel_rfl) ⟨_, rfl, Below.refl _ _, rfl⟩
        · intro vs w' F hb hd hF hl
          refine one_call _ _ rfl rfl (enters_of Try.func57 (by kernel_rfl) rfl) #[.agg #[.int .i64 (lim (lim (qm a (65536 - T)) + lim (qm p T))), .int .i64 (lim (lim (qm b (65536 - T)) + lim (qm q T))), .int .i64 (lim (lim (qm c (65536 - T)) + lim (qm r T))), .int .i64 (lim (lim (qm d (65536 - T)) + lim (qm s T)))]] (eval1 ((hF 102).trans ((look_at _ 102 44 _ _ (by kernel_rfl) (by kernel_rfl) hl).trans (dep_of (Fact := F_blend6 w.heap.size a b c d p q r s T) hd 44 (by kernel_rfl))))) ?_
          refine (quat_Unit (lim (lim (qm a (65536 - T)) + lim (qm p T))) (lim (lim (qm b (65536 - T)) + lim (qm q T))) (lim (lim (qm c (65536 - T)) + lim (qm r T))) (lim (lim (qm d (65536 - T)) + lim (qm s T))) _).mono ?_
          rintro e w2 ⟨rfl, hb2⟩
          exact ⟨_, rfl, _, rfl, hb2, rfl⟩
      · intro vs W1 hl hb hI
        have hlast := hI 45 (by omega)
        generalize hFF : fillAll _ _ _ = F
        have e1 : F.eval (.tmp 6) = .pointer (some ⟨w.heap.size + 1 + 1, 0, none⟩) := by rw [← hFF]; exact (eval_fill _ 6 _ _).trans ((look_out _ 6 _ _ (by kernel_rfl)).trans rfl)
        have e2 : F.eval (.tmp 103) = .agg #[.int .i64 (u4 [(lim (lim (qm a (65536 - T)) + lim (qm p T))), (lim (lim (qm b (65536 - T)) + lim (qm q T))), (lim (lim (qm c (65536 - T)) + lim (qm r T))), (lim (lim (qm d (65536 - T)) + lim (qm s T)))] 0), .int .i64 (u4 [(lim (lim (qm a (65536 - T)) + lim (qm p T))), (lim (lim (qm b (65536 - T)) + lim (qm q T))), (lim (lim (qm c (65536 - T)) + lim (qm r T))), (lim (lim (qm d (65536 - T)) + lim (qm s T)))] 1), .int .i64 (u4 [(lim (lim (qm a (65536 - T)) + lim (qm p T))), (lim (lim (qm b (65536 - T)) + lim (qm q T))), (lim (lim (qm c (65536 - T)) + lim (qm r T))), (lim (lim (qm d (65536 - T)) + lim (qm s T)))] 2), .int .i64 (u4 [(lim (lim (qm a (65536 - T)) + lim (qm p T))), (lim (lim (qm b (65536 - T)) + lim (qm q T))), (lim (lim (qm c (65536 - T)) + lim (qm r T))), (lim (lim (qm d (65536 - T)) + lim (qm s T)))] 3)] := by rw [← hFF]; exact (eval_fill _ 103 _ _).trans ((look_at _ 103 45 _ _ (by kernel_rfl) (by kernel_rfl) hl).trans hlast)
        have e3 : F.defers = [] := by rw [← hFF]; exact fillAll_defers _ _ _
        have t4 := t3.mono hb
        have hB9 := hB.trans (hb.mono hB.size)
        clear hI hl hb t1 t2 t3 hFF hlast
        refine wpList_store_abs rfl 62 (.tmp 6) (.tmp 103) rfl (w.heap.size + 1 + 1) #[.int .i64 (u4 [(lim (lim (qm a (65536 - T)) + lim (qm p T))), (lim (lim (qm b (65536 - T)) + lim (qm q T))), (lim (lim (qm c (65536 - T)) + lim (qm r T))), (lim (lim (qm d (65536 - T)) + lim (qm s T)))] 0), .int .i64 (u4 [(lim (lim (qm a (65536 - T)) + lim (qm p T))), (lim (lim (qm b (65536 - T)) + lim (qm q T))), (lim (lim (qm c (65536 - T)) + lim (qm r T))), (lim (lim (qm d (65536 - T)) + lim (qm s T)))] 1), .int .i64 (u4 [(lim (lim (qm a (65536 - T)) + lim (qm p T))), (lim (lim (qm b (65536 - T)) + lim (qm q T))), (lim (lim (qm c (65536 - T)) + lim (qm r T))), (lim (lim (qm d (65536 - T)) + lim (qm s T)))] 2), .int .i64 (u4 [(lim (lim (qm a (65536 - T)) + lim (qm p T))), (lim (lim (qm b (65536 - T)) + lim (qm q T))), (lim (lim (qm c (65536 - T)) + lim (qm r T))), (lim (lim (qm d (65536 - T)) + lim (qm s T)))] 3)] e1 e2 _ _ t4 (by kernel_rfl) rfl (ones4 _ _ _ _) ?_
        intro w3 hg hb2 hs
        go_wp2_with fail
        exact bodyPost_ret (v := .agg #[.int .i64 (u4 [(lim (lim (qm a (65536 - T)) + lim (qm p T))), (lim (lim (qm b (65536 - T)) + lim (qm q T))), (lim (lim (qm c (65536 - T)) + lim (qm r T))), (lim (lim (qm d (65536 - T)) + lim (qm s T)))] 0), .int .i64 (u4 [(lim (lim (qm a (65536 - T)) + lim (qm p T))), (lim (lim (qm b (65536 - T)) + lim (qm q T))), (lim (lim (qm c (65536 - T)) + lim (qm r T))), (lim (lim (qm d (65536 - T)) + lim (qm s T)))] 1), .int .i64 (u4 [(lim (lim (qm a (65536 - T)) + lim (qm p T))), (lim (lim (qm b (65536 - T)) + lim (qm q T))), (lim (lim (qm c (65536 - T)) + lim (qm r T))), (lim (lim (qm d (65536 - T)) + lim (qm s T)))] 2), .int .i64 (u4 [(lim (lim (qm a (65536 - T)) + lim (qm p T))), (lim (lim (qm b (65536 - T)) + lim (qm q T))), (lim (lim (qm c (65536 - T)) + lim (qm r T))), (lim (lim (qm d (65536 - T)) + lim (qm s T)))] 3)]) (res4 Try.results59 _ _ (w.heap.size + 1 + 1) _ _ _ _ e1 hg) e3 ⟨by rw [HU.out, HF.out]; rfl, hB9.trans (hb2.mono (by omega))⟩
end Go.Proofs.Ytehpfkmaikbjkaa
