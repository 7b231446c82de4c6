/- vec: Add, Sub, Scale, Dot, Cross, Turn; the reference's Turned. -/
import Derived.Test.YtehpfkmaikbjkaaMulDiv
import Derived.Test.YtehpfkmaikbjkaaTrigRef
import Derived.Test.YtehpfkmaikbjkaaRegInv
import Derived.Deep.RegionHeld3
namespace Go.Proofs.Ytehpfkmaikbjkaa
open Go.ChangeShapes Go.WideShapes Go.ChangeAt Go.RowKit Go.Mem
set_option linter.unusedVariables false

/-- A variable with two numbers. -/
def Two (w : World) (B : Nat) (x y : Int) : Prop := w.heap[B]? = some (.cells #[.int .i64 x, .int .i64 y] 36 (0, 0))
theorem Two.c0 {w : World} {B : Nat} {x y : Int} (h : Two w B x y) : w.cell? ⟨B, 0, none⟩ = some (.int .i64 x) := cell_of_row w _ _ _ _ _ h
theorem Two.c1 {w : World} {B : Nat} {x y : Int} (h : Two w B x y) : w.cell? ⟨B, 1, none⟩ = some (.int .i64 y) := cell_of_row w _ _ _ _ _ h
theorem Two.f0 {w : World} {B : Nat} {x y : Int} (h : Two w B x y) : w.frozen? ⟨B, 0, none⟩ = false := frozen_of_row w _ _ _ _ h
theorem Two.f1 {w : World} {B : Nat} {x y : Int} (h : Two w B x y) : w.frozen? ⟨B, 1, none⟩ = false := frozen_of_row w _ _ _ _ h
theorem Two.lt {w : World} {B : Nat} {x y : Int} (h : Two w B x y) : B < w.heap.size := (Array.getElem?_eq_some_iff.1 h).1
theorem Two.mono {w w' : World} {B : Nat} {x y : Int} (h : Two w B x y) (hb : Below w.heap.size w w') : Two w' B x y := (hb.block B h.lt).trans h
theorem Two.drew {w : World} {B : Nat} {x y : Int} (h : Two w B x y) : Two w.drew B x y := h
theorem two_new (w : World) (x y : Int) : Two (w.alloc (.cells #[.int .i64 x, .int .i64 y] 36)) w.heap.size x y := heap_alloc_new _ _
theorem Two.alloc {w : World} {B : Nat} {x y : Int} (h : Two w B x y) (o : Obj) : Two (w.alloc o) B x y := (Below.heap_alloc _ _ _ h.lt).trans h

theorem ones2 (a b : Int) : (#[Value.int .i64 a, .int .i64 b].all fun x => x.oneCell') = true := by simp [Value.oneCell']

theorem list12 {vs : List Value} (h : vs.length = 12) : ∃ a0 a1 a2 a3 a4 a5 a6 a7 a8 a9 a10 a11, vs = [a0, a1, a2, a3, a4, a5, a6, a7, a8, a9, a10, a11] := by
  match vs, h with
  | [a0, a1, a2, a3, a4, a5, a6, a7, a8, a9, a10, a11], _ => exact ⟨a0, a1, a2, a3, a4, a5, a6, a7, a8, a9, a10, a11, rfl⟩
theorem list10 {vs : List Value} (h : vs.length = 10) : ∃ a0 a1 a2 a3 a4 a5 a6 a7 a8 a9, vs = [a0, a1, a2, a3, a4, a5, a6, a7, a8, a9] := by
  match vs, h with
  | [a0, a1, a2, a3, a4, a5, a6, a7, a8, a9], _ => exact ⟨a0, a1, a2, a3, a4, a5, a6, a7, a8, a9, rfl⟩
theorem list20 {vs : List Value} (h : vs.length = 20) : ∃ a0 a1 a2 a3 a4 a5 a6 a7 a8 a9 a10 a11 a12 a13 a14 a15 a16 a17 a18 a19, vs = [a0, a1, a2, a3, a4, a5, a6, a7, a8, a9, a10, a11, a12, a13, a14, a15, a16, a17, a18, a19] := by
  match vs, h with
  | [a0, a1, a2, a3, a4, a5, a6, a7, a8, a9, a10, a11, a12, a13, a14, a15, a16, a17, a18, a19], _ => exact ⟨a0, a1, a2, a3, a4, a5, a6, a7, a8, a9, a10, a11, a12, a13, a14, a15, a16, a17, a18, a19, rfl⟩
def F_vec_Add (BB : Nat) (a b c d : Int) (j : Nat) (v : Value) (w : World) : Prop := v = ([.pointer (some ⟨BB, 0, none⟩), .int .i64 a, .pointer (some ⟨BB + 1, 0, none⟩), .int .i64 c, .int .i64 (lim (lim a + lim c)), .pointer (some ⟨BB, 1, none⟩), .int .i64 b, .pointer (some ⟨BB + 1, 1, none⟩), .int .i64 d, .int .i64 (lim (lim b + lim d)), .agg #[.int .i64 (lim (lim a + lim c)), .int .i64 (lim (lim b + lim d))]] : List Value).getD j undef

set_option maxHeartbeats 4000000 in
theorem vec_Add (a b c d : Int) (w : World) : Calls Try.prog 47 #[.agg #[.int .i64 a, .int .i64 b], .agg #[.int .i64 c, .int .i64 d]] w fun e w' => e = .returned (.agg #[.int .i64 (lim (lim a + lim c)), .int .i64 (lim (lim b + lim d))]) ∧ Below w.heap.size w w' := by
  go_enter Try.func47, Try.ntmps47
  go_wp2_with fail
  have t1 := ((two_new w a b).alloc (.cells #[.int .i64 c, .int .i64 d] 36)).alloc (.cells #[.int .i64 0, .int .i64 0] 36)
  have t2 := (two_new (w.alloc (.cells #[.int .i64 a, .int .i64 b] 36)) c d).alloc (.cells #[.int .i64 0, .int .i64 0] 36)
  have t3 := two_new ((w.alloc (.cells #[.int .i64 a, .int .i64 b] 36)).alloc (.cells #[.int .i64 c, .int .i64 d] 36)) 0 0
  have hB := ((((Below.refl w.heap.size w).alloc (Nat.le_refl _) (.cells #[.int .i64 a, .int .i64 b] 36)).alloc (by simp) (.cells #[.int .i64 c, .int .i64 d] 36)).alloc (by simp; omega) (.cells #[.int .i64 0, .int .i64 0] 36))
  generalize ((w.alloc (.cells #[.int .i64 a, .int .i64 b] 36)).alloc (.cells #[.int .i64 c, .int .i64 d] 36)).alloc (.cells #[.int .i64 0, .int .i64 0] 36) = W0 at *
  replace t2 : Two W0 (w.heap.size + 1) c d := by simpa using t2
  replace t3 : Two W0 (w.heap.size + 1 + 1) 0 0 := by simpa using t3
  refine wp_region_facts rfl 11 (by kernel_rfl) (F_vec_Add w.heap.size a b c d) ⟨fun _ _ _ _ h _ => h⟩ ?_ ?_
  · refine ⟨?_, ?_, ?_, ?_, ?_, ?_, ?_, ?_, ?_, ?_, ?_, trivial⟩
    · intro vs w' F hb hd hF hl
      have e := (hF 2).trans (look_out _ 2 _ _ (by kernel_rfl))
      exact one_field _ _ _ rfl rfl _ _ e _ (fun w => by kernel_rfl) ⟨_, rfl, Below.refl _ _, rfl⟩
    · intro vs w' F hb hd hF hl
      have e := (hF 5).trans ((look_at _ 5 0 _ _ (by kernel_rfl) (by kernel_rfl) hl).trans (dep_of (Fact := F_vec_Add w.heap.size a b c d) hd 0 (by kernel_rfl)))
      exact one_load _ _ rfl rfl _ _ e ((hb.cell t1.lt).trans t1.c0) (by kernel_rfl) ⟨_, rfl, Below.refl _ _, rfl⟩
    · intro vs w' F hb hd hF hl
      have e := (hF 3).trans (look_out _ 3 _ _ (by kernel_rfl))
      exact one_field _ _ _ rfl rfl _ _ e _ (fun w => by kernel_rfl) ⟨_, rfl, Below.refl _ _, rfl⟩
    · intro vs w' F hb hd hF hl
      have e := (hF 7).trans ((look_at _ 7 2 _ _ (by kernel_rfl) (by kernel_rfl) hl).trans (dep_of (Fact := F_vec_Add w.heap.size a b c d) hd 2 (by kernel_rfl)))
      exact one_load _ _ rfl rfl _ _ e ((hb.cell t2.lt).trans t2.c0) (by kernel_rfl) ⟨_, rfl, Below.refl _ _, rfl⟩
    · intro vs w' F hb hd hF hl
      refine one_call _ _ rfl rfl (enters_of Try.func40 (by kernel_rfl) rfl) #[.int .i64 a, .int .i64 c] (eval2 ((hF 6).trans ((look_at _ 6 1 _ _ (by kernel_rfl) (by kernel_rfl) hl).trans (dep_of (Fact := F_vec_Add w.heap.size a b c d) hd 1 (by kernel_rfl)))) ((hF 8).trans ((look_at _ 8 3 _ _ (by kernel_rfl) (by kernel_rfl) hl).trans (dep_of (Fact := F_vec_Add w.heap.size a b c d) hd 3 (by kernel_rfl))))) ?_
      refine (fix_Add a c _).mono ?_
      rintro e w2 ⟨rfl, rfl⟩
      exact ⟨_, rfl, _, rfl, Below.refl _ _, rfl⟩
    · intro vs w' F hb hd hF hl
      have e := (hF 2).trans (look_out _ 2 _ _ (by kernel_rfl))
      exact one_field _ _ _ rfl rfl _ _ e _ (fun w => by kernel_rfl) ⟨_, rfl, Below.refl _ _, rfl⟩
    · intro vs w' F hb hd hF hl
      have e := (hF 10).trans ((look_at _ 10 5 _ _ (by kernel_rfl) (by kernel_rfl) hl).trans (dep_of (Fact := F_vec_Add w.heap.size a b c d) hd 5 (by kernel_rfl)))
      exact one_load _ _ rfl rfl _ _ e ((hb.cell t1.lt).trans t1.c1) (by kernel_rfl) ⟨_, rfl, Below.refl _ _, rfl⟩
    · intro vs w' F hb hd hF hl
      have e := (hF 3).trans (look_out _ 3 _ _ (by kernel_rfl))
      exact one_field _ _ _ rfl rfl _ _ e _ (fun w => by kernel_rfl) ⟨_, rfl, Below.refl _ _, rfl⟩
    · intro vs w' F hb hd hF hl
      have e := (hF 12).trans ((look_at _ 12 7 _ _ (by kernel_rfl) (by kernel_rfl) hl).trans (dep_of (Fact := F_vec_Add w.heap.size a b c d) hd 7 (by kernel_rfl)))
      exact one_load _ _ rfl rfl _ _ e ((hb.cell t2.lt).trans t2.c1) (by kernel_rfl) ⟨_, rfl, Below.refl _ _, rfl⟩
    · intro vs w' F hb hd hF hl
      refine one_call _ _ rfl rfl (enters_of Try.func40 (by kernel_rfl) rfl) #[.int .i64 b, .int .i64 d] (eval2 ((hF 11).trans ((look_at _ 11 6 _ _ (by kernel_rfl) (by kernel_rfl) hl).trans (dep_of (Fact := F_vec_Add w.heap.size a b c d) hd 6 (by kernel_rfl)))) ((hF 13).trans ((look_at _ 13 8 _ _ (by kernel_rfl) (by kernel_rfl) hl).trans (dep_of (Fact := F_vec_Add w.heap.size a b c d) hd 8 (by kernel_rfl))))) ?_
      refine (fix_Add b d _).mono ?_
      rintro e w2 ⟨rfl, rfl⟩
      exact ⟨_, rfl, _, rfl, Below.refl _ _, rfl⟩
    · intro vs w' F hb hd hF hl
      exact one_build _ _ rfl rfl #[(0, .int .i64 (lim (lim a + lim c))), (1, .int .i64 (lim (lim b + lim d)))] (parts2 ((hF 9).trans ((look_at _ 9 4 _ _ (by kernel_rfl) (by kernel_rfl) hl).trans (dep_of (Fact := F_vec_Add w.heap.size a b c d) hd 4 (by kernel_rfl)))) ((hF 14).trans ((look_at _ 14 9 _ _ (by kernel_rfl) (by kernel_rfl) hl).trans (dep_of (Fact := F_vec_Add w.heap.size a b c d) hd 9 (by kernel_rfl))))) (.agg #[.int .i64 (lim (lim a + lim c)), .int .i64 (lim (lim b + lim d))]) (fun w => by kernel_rfl) ⟨_, rfl, Below.refl _ _, rfl⟩
  · intro vs W1 hl hb hI
    have i0 := hI 0 (by omega)
    have i1 := hI 1 (by omega)
    have i2 := hI 2 (by omega)
    have i3 := hI 3 (by omega)
    have i4 := hI 4 (by omega)
    have i5 := hI 5 (by omega)
    have i6 := hI 6 (by omega)
    have i7 := hI 7 (by omega)
    have i8 := hI 8 (by omega)
    have i9 := hI 9 (by omega)
    have i10 := hI 10 (by omega)
    clear hI
    obtain ⟨v0, v1, v2, v3, v4, v5, v6, v7, v8, v9, v10, v11, rfl⟩ := list12 hl
    replace i0 : v0 = .pointer (some ⟨w.heap.size, 0, none⟩) := i0
    subst i0
    replace i1 : v1 = .int .i64 a := i1
    subst i1
    replace i2 : v2 = .pointer (some ⟨w.heap.size + 1, 0, none⟩) := i2
    subst i2
    replace i3 : v3 = .int .i64 c := i3
    subst i3
    replace i4 : v4 = .int .i64 (lim (lim a + lim c)) := i4
    subst i4
    replace i5 : v5 = .pointer (some ⟨w.heap.size, 1, none⟩) := i5
    subst i5
    replace i6 : v6 = .int .i64 b := i6
    subst i6
    replace i7 : v7 = .pointer (some ⟨w.heap.size + 1, 1, none⟩) := i7
    subst i7
    replace i8 : v8 = .int .i64 d := i8
    subst i8
    replace i9 : v9 = .int .i64 (lim (lim b + lim d)) := i9
    subst i9
    replace i10 : v10 = .agg #[.int .i64 (lim (lim a + lim c)), .int .i64 (lim (lim b + lim d))] := i10
    subst i10
    clear hl
    have t4 := t3.mono hb
    have hB9 := hB.trans (hb.mono hB.size)
    clear t1 t2 t3 hb hB
    generalize hFF : fillAll _ _ _ = F
    have e1 : F.eval (.tmp 4) = .pointer (some ⟨w.heap.size + 1 + 1, 0, none⟩) := by rw [← hFF]; exact (eval_fill _ 4 _ _).trans ((look_out _ 4 _ _ (by kernel_rfl)).trans rfl)
    have e2 : F.eval (.tmp 15) = .agg #[.int .i64 (lim (lim a + lim c)), .int .i64 (lim (lim b + lim d))] := by rw [← hFF]; exact (eval_fill _ 15 _ _).trans rfl
    have e3 : F.defers = [] := by rw [← hFF]; exact fillAll_defers _ _ _
    clear hFF
    refine wpList_store_abs rfl 36 (.tmp 4) (.tmp 15) rfl (w.heap.size + 1 + 1) #[.int .i64 (lim (lim a + lim c)), .int .i64 (lim (lim b + lim d))] e1 e2 _ _ t4 (by kernel_rfl) rfl (ones2 _ _) ?_
    intro w2 hg hb2 hs
    go_wp2_with fail
    exact bodyPost_ret (v := .agg #[.int .i64 (lim (lim a + lim c)), .int .i64 (lim (lim b + lim d))]) (results_cell_row Try.results47 _ _ (w.heap.size + 1 + 1) _ #[.int .i64 (lim (lim a + lim c)), .int .i64 (lim (lim b + lim d))] _ _ e1 hg Try.underlying36 rfl (by kernel_rfl)) e3 ⟨rfl, hB9.trans (hb2.mono (by omega))⟩
def F_vec_Sub (BB : Nat) (a b c d : Int) (j : Nat) (v : Value) (w : World) : Prop := v = ([.pointer (some ⟨BB, 0, none⟩), .int .i64 a, .pointer (some ⟨BB + 1, 0, none⟩), .int .i64 c, .int .i64 (lim (lim a - lim c)), .pointer (some ⟨BB, 1, none⟩), .int .i64 b, .pointer (some ⟨BB + 1, 1, none⟩), .int .i64 d, .int .i64 (lim (lim b - lim d)), .agg #[.int .i64 (lim (lim a - lim c)), .int .i64 (lim (lim b - lim d))]] : List Value).getD j undef

set_option maxHeartbeats 4000000 in
theorem vec_Sub (a b c d : Int) (w : World) : Calls Try.prog 48 #[.agg #[.int .i64 a, .int .i64 b], .agg #[.int .i64 c, .int .i64 d]] w fun e w' => e = .returned (.agg #[.int .i64 (lim (lim a - lim c)), .int .i64 (lim (lim b - lim d))]) ∧ Below w.heap.size w w' := by
  go_enter Try.func48, Try.ntmps48
  go_wp2_with fail
  have t1 := ((two_new w a b).alloc (.cells #[.int .i64 c, .int .i64 d] 36)).alloc (.cells #[.int .i64 0, .int .i64 0] 36)
  have t2 := (two_new (w.alloc (.cells #[.int .i64 a, .int .i64 b] 36)) c d).alloc (.cells #[.int .i64 0, .int .i64 0] 36)
  have t3 := two_new ((w.alloc (.cells #[.int .i64 a, .int .i64 b] 36)).alloc (.cells #[.int .i64 c, .int .i64 d] 36)) 0 0
  have hB := ((((Below.refl w.heap.size w).alloc (Nat.le_refl _) (.cells #[.int .i64 a, .int .i64 b] 36)).alloc (by simp) (.cells #[.int .i64 c, .int .i64 d] 36)).alloc (by simp; omega) (.cells #[.int .i64 0, .int .i64 0] 36))
  generalize ((w.alloc (.cells #[.int .i64 a, .int .i64 b] 36)).alloc (.cells #[.int .i64 c, .int .i64 d] 36)).alloc (.cells #[.int .i64 0, .int .i64 0] 36) = W0 at *
  replace t2 : Two W0 (w.heap.size + 1) c d := by simpa using t2
  replace t3 : Two W0 (w.heap.size + 1 + 1) 0 0 := by simpa using t3
  refine wp_region_facts rfl 11 (by kernel_rfl) (F_vec_Sub w.heap.size a b c d) ⟨fun _ _ _ _ h _ => h⟩ ?_ ?_
  · refine ⟨?_, ?_, ?_, ?_, ?_, ?_, ?_, ?_, ?_, ?_, ?_, trivial⟩
    · intro vs w' F hb hd hF hl
      have e := (hF 2).trans (look_out _ 2 _ _ (by kernel_rfl))
      exact one_field _ _ _ rfl rfl _ _ e _ (fun w => by kernel_rfl) ⟨_, rfl, Below.refl _ _, rfl⟩
    · intro vs w' F hb hd hF hl
      have e := (hF 5).trans ((look_at _ 5 0 _ _ (by kernel_rfl) (by kernel_rfl) hl).trans (dep_of (Fact := F_vec_Sub w.heap.size a b c d) hd 0 (by kernel_rfl)))
      exact one_load _ _ rfl rfl _ _ e ((hb.cell t1.lt).trans t1.c0) (by kernel_rfl) ⟨_, rfl, Below.refl _ _, rfl⟩
    · intro vs w' F hb hd hF hl
      have e := (hF 3).trans (look_out _ 3 _ _ (by kernel_rfl))
      exact one_field _ _ _ rfl rfl _ _ e _ (fun w => by kernel_rfl) ⟨_, rfl, Below.refl _ _, rfl⟩
    · intro vs w' F hb hd hF hl
      have e := (hF 7).trans ((look_at _ 7 2 _ _ (by kernel_rfl) (by kernel_rfl) hl).trans (dep_of (Fact := F_vec_Sub w.heap.size a b c d) hd 2 (by kernel_rfl)))
      exact one_load _ _ rfl rfl _ _ e ((hb.cell t2.lt).trans t2.c0) (by kernel_rfl) ⟨_, rfl, Below.refl _ _, rfl⟩
    · intro vs w' F hb hd hF hl
      refine one_call _ _ rfl rfl (enters_of Try.func42 (by kernel_rfl) rfl) #[.int .i64 a, .int .i64 c] (eval2 ((hF 6).trans ((look_at _ 6 1 _ _ (by kernel_rfl) (by kernel_rfl) hl).trans (dep_of (Fact := F_vec_Sub w.heap.size a b c d) hd 1 (by kernel_rfl)))) ((hF 8).trans ((look_at _ 8 3 _ _ (by kernel_rfl) (by kernel_rfl) hl).trans (dep_of (Fact := F_vec_Sub w.heap.size a b c d) hd 3 (by kernel_rfl))))) ?_
      refine (fix_Sub a c _).mono ?_
      rintro e w2 ⟨rfl, rfl⟩
      exact ⟨_, rfl, _, rfl, Below.refl _ _, rfl⟩
    · intro vs w' F hb hd hF hl
      have e := (hF 2).trans (look_out _ 2 _ _ (by kernel_rfl))
      exact one_field _ _ _ rfl rfl _ _ e _ (fun w => by kernel_rfl) ⟨_, rfl, Below.refl _ _, rfl⟩
    · intro vs w' F hb hd hF hl
      have e := (hF 10).trans ((look_at _ 10 5 _ _ (by kernel_rfl) (by kernel_rfl) hl).trans (dep_of (Fact := F_vec_Sub w.heap.size a b c d) hd 5 (by kernel_rfl)))
      exact one_load _ _ rfl rfl _ _ e ((hb.cell t1.lt).trans t1.c1) (by kernel_rfl) ⟨_, rfl, Below.refl _ _, rfl⟩
    · intro vs w' F hb hd hF hl
      have e := (hF 3).trans (look_out _ 3 _ _ (by kernel_rfl))
      exact one_field _ _ _ rfl rfl _ _ e _ (fun w => by kernel_rfl) ⟨_, rfl, Below.refl _ _, rfl⟩
    · intro vs w' F hb hd hF hl
      have e := (hF 12).trans ((look_at _ 12 7 _ _ (by kernel_rfl) (by kernel_rfl) hl).trans (dep_of (Fact := F_vec_Sub w.heap.size a b c d) hd 7 (by kernel_rfl)))
      exact one_load _ _ rfl rfl _ _ e ((hb.cell t2.lt).trans t2.c1) (by kernel_rfl) ⟨_, rfl, Below.refl _ _, rfl⟩
    · intro vs w' F hb hd hF hl
      refine one_call _ _ rfl rfl (enters_of Try.func42 (by kernel_rfl) rfl) #[.int .i64 b, .int .i64 d] (eval2 ((hF 11).trans ((look_at _ 11 6 _ _ (by kernel_rfl) (by kernel_rfl) hl).trans (dep_of (Fact := F_vec_Sub w.heap.size a b c d) hd 6 (by kernel_rfl)))) ((hF 13).trans ((look_at _ 13 8 _ _ (by kernel_rfl) (by kernel_rfl) hl).trans (dep_of (Fact := F_vec_Sub w.heap.size a b c d) hd 8 (by kernel_rfl))))) ?_
      refine (fix_Sub b d _).mono ?_
      rintro e w2 ⟨rfl, rfl⟩
      exact ⟨_, rfl, _, rfl, Below.refl _ _, rfl⟩
    · intro vs w' F hb hd hF hl
      exact one_build _ _ rfl rfl #[(0, .int .i64 (lim (lim a - lim c))), (1, .int .i64 (lim (lim b - lim d)))] (parts2 ((hF 9).trans ((look_at _ 9 4 _ _ (by kernel_rfl) (by kernel_rfl) hl).trans (dep_of (Fact := F_vec_Sub w.heap.size a b c d) hd 4 (by kernel_rfl)))) ((hF 14).trans ((look_at _ 14 9 _ _ (by kernel_rfl) (by kernel_rfl) hl).trans (dep_of (Fact := F_vec_Sub w.heap.size a b c d) hd 9 (by kernel_rfl))))) (.agg #[.int .i64 (lim (lim a - lim c)), .int .i64 (lim (lim b - lim d))]) (fun w => by kernel_rfl) ⟨_, rfl, Below.refl _ _, rfl⟩
  · intro vs W1 hl hb hI
    have i0 := hI 0 (by omega)
    have i1 := hI 1 (by omega)
    have i2 := hI 2 (by omega)
    have i3 := hI 3 (by omega)
    have i4 := hI 4 (by omega)
    have i5 := hI 5 (by omega)
    have i6 := hI 6 (by omega)
    have i7 := hI 7 (by omega)
    have i8 := hI 8 (by omega)
    have i9 := hI 9 (by omega)
    have i10 := hI 10 (by omega)
    clear hI
    obtain ⟨v0, v1, v2, v3, v4, v5, v6, v7, v8, v9, v10, v11, rfl⟩ := list12 hl
    replace i0 : v0 = .pointer (some ⟨w.heap.size, 0, none⟩) := i0
    subst i0
    replace i1 : v1 = .int .i64 a := i1
    subst i1
    replace i2 : v2 = .pointer (some ⟨w.heap.size + 1, 0, none⟩) := i2
    subst i2
    replace i3 : v3 = .int .i64 c := i3
    subst i3
    replace i4 : v4 = .int .i64 (lim (lim a - lim c)) := i4
    subst i4
    replace i5 : v5 = .pointer (some ⟨w.heap.size, 1, none⟩) := i5
    subst i5
    replace i6 : v6 = .int .i64 b := i6
    subst i6
    replace i7 : v7 = .pointer (some ⟨w.heap.size + 1, 1, none⟩) := i7
    subst i7
    replace i8 : v8 = .int .i64 d := i8
    subst i8
    replace i9 : v9 = .int .i64 (lim (lim b - lim d)) := i9
    subst i9
    replace i10 : v10 = .agg #[.int .i64 (lim (lim a - lim c)), .int .i64 (lim (lim b - lim d))] := i10
    subst i10
    clear hl
    have t4 := t3.mono hb
    have hB9 := hB.trans (hb.mono hB.size)
    clear t1 t2 t3 hb hB
    generalize hFF : fillAll _ _ _ = F
    have e1 : F.eval (.tmp 4) = .pointer (some ⟨w.heap.size + 1 + 1, 0, none⟩) := by rw [← hFF]; exact (eval_fill _ 4 _ _).trans ((look_out _ 4 _ _ (by kernel_rfl)).trans rfl)
    have e2 : F.eval (.tmp 15) = .agg #[.int .i64 (lim (lim a - lim c)), .int .i64 (lim (lim b - lim d))] := by rw [← hFF]; exact (eval_fill _ 15 _ _).trans rfl
    have e3 : F.defers = [] := by rw [← hFF]; exact fillAll_defers _ _ _
    clear hFF
    refine wpList_store_abs rfl 36 (.tmp 4) (.tmp 15) rfl (w.heap.size + 1 + 1) #[.int .i64 (lim (lim a - lim c)), .int .i64 (lim (lim b - lim d))] e1 e2 _ _ t4 (by kernel_rfl) rfl (ones2 _ _) ?_
    intro w2 hg hb2 hs
    go_wp2_with fail
    exact bodyPost_ret (v := .agg #[.int .i64 (lim (lim a - lim c)), .int .i64 (lim (lim b - lim d))]) (results_cell_row Try.results48 _ _ (w.heap.size + 1 + 1) _ #[.int .i64 (lim (lim a - lim c)), .int .i64 (lim (lim b - lim d))] _ _ e1 hg Try.underlying36 rfl (by kernel_rfl)) e3 ⟨rfl, hB9.trans (hb2.mono (by omega))⟩
def F_vec_Scale (BB : Nat) (a b n : Int) (j : Nat) (v : Value) (w : World) : Prop := v = ([.pointer (some ⟨BB, 0, none⟩), .int .i64 a, .int .i64 n, .int .i64 (thr a n 65536), .pointer (some ⟨BB, 1, none⟩), .int .i64 b, .int .i64 n, .int .i64 (thr b n 65536), .agg #[.int .i64 (thr a n 65536), .int .i64 (thr b n 65536)]] : List Value).getD j undef

set_option maxHeartbeats 4000000 in
theorem vec_Scale (a b n : Int) (w : World) : Calls Try.prog 49 #[.agg #[.int .i64 a, .int .i64 b], .int .i64 n] w fun e w' => e = .returned (.agg #[.int .i64 (thr a n 65536), .int .i64 (thr b n 65536)]) ∧ Below w.heap.size w w' := by
  go_enter Try.func49, Try.ntmps49
  go_wp2_with fail
  have t1 := (two_new w a b).alloc (.cells #[.int .i64 0, .int .i64 0] 36)
  have t3 := two_new (w.alloc (.cells #[.int .i64 a, .int .i64 b] 36)) 0 0
  have hB := ((Below.refl w.heap.size w).alloc (Nat.le_refl _) (.cells #[.int .i64 a, .int .i64 b] 36)).alloc (by simp) (.cells #[.int .i64 0, .int .i64 0] 36)
  generalize (w.alloc (.cells #[.int .i64 a, .int .i64 b] 36)).alloc (.cells #[.int .i64 0, .int .i64 0] 36) = W0 at *
  replace t3 : Two W0 (w.heap.size + 1) 0 0 := by simpa using t3
  refine wp_region_facts rfl 9 (by kernel_rfl) (F_vec_Scale w.heap.size a b n) ⟨fun _ _ _ _ h _ => h⟩ ?_ ?_
  · refine ⟨?_, ?_, ?_, ?_, ?_, ?_, ?_, ?_, ?_, trivial⟩
    · intro vs w' F hb hd hF hl
      have e := (hF 2).trans (look_out _ 2 _ _ (by kernel_rfl))
      exact one_field _ _ _ rfl rfl _ _ e _ (fun w => by kernel_rfl) ⟨_, rfl, Below.refl _ _, rfl⟩
    · intro vs w' F hb hd hF hl
      have e := (hF 5).trans ((look_at _ 5 0 _ _ (by kernel_rfl) (by kernel_rfl) hl).trans (dep_of (Fact := F_vec_Scale w.heap.size a b n) hd 0 (by kernel_rfl)))
      exact one_load _ _ rfl rfl _ _ e ((hb.cell t1.lt).trans t1.c0) (by kernel_rfl) ⟨_, rfl, Below.refl _ _, rfl⟩
    · intro vs w' F hb hd hF hl
      have e := (hF 1).trans (look_out _ 1 _ _ (by kernel_rfl))
      exact one_move _ rfl (by first | exact Or.inl rfl | exact Or.inr rfl) ⟨_, rfl, Below.refl _ _, e⟩
    · intro vs w' F hb hd hF hl
      refine one_call _ _ rfl rfl (enters_of Try.func36 (by kernel_rfl) rfl) #[.int .i64 a, .int .i64 n] (eval2 ((hF 6).trans ((look_at _ 6 1 _ _ (by kernel_rfl) (by kernel_rfl) hl).trans (dep_of (Fact := F_vec_Scale w.heap.size a b n) hd 1 (by kernel_rfl)))) ((hF 7).trans ((look_at _ 7 2 _ _ (by kernel_rfl) (by kernel_rfl) hl).trans (dep_of (Fact := F_vec_Scale w.heap.size a b n) hd 2 (by kernel_rfl))))) ?_
      refine (fix_Mul a n _).mono ?_
      rintro e w2 ⟨rfl, hb2⟩
      exact ⟨_, rfl, _, rfl, hb2, rfl⟩
    · intro vs w' F hb hd hF hl
      have e := (hF 2).trans (look_out _ 2 _ _ (by kernel_rfl))
      exact one_field _ _ _ rfl rfl _ _ e _ (fun w => by kernel_rfl) ⟨_, rfl, Below.refl _ _, rfl⟩
    · intro vs w' F hb hd hF hl
      have e := (hF 9).trans ((look_at _ 9 4 _ _ (by kernel_rfl) (by kernel_rfl) hl).trans (dep_of (Fact := F_vec_Scale w.heap.size a b n) hd 4 (by kernel_rfl)))
      exact one_load _ _ rfl rfl _ _ e ((hb.cell t1.lt).trans t1.c1) (by kernel_rfl) ⟨_, rfl, Below.refl _ _, rfl⟩
    · intro vs w' F hb hd hF hl
      have e := (hF 1).trans (look_out _ 1 _ _ (by kernel_rfl))
      exact one_move _ rfl (by first | exact Or.inl rfl | exact Or.inr rfl) ⟨_, rfl, Below.refl _ _, e⟩
    · intro vs w' F hb hd hF hl
      refine one_call _ _ rfl rfl (enters_of Try.func36 (by kernel_rfl) rfl) #[.int .i64 b, .int .i64 n] (eval2 ((hF 10).trans ((look_at _ 10 5 _ _ (by kernel_rfl) (by kernel_rfl) hl).trans (dep_of (Fact := F_vec_Scale w.heap.size a b n) hd 5 (by kernel_rfl)))) ((hF 11).trans ((look_at _ 11 6 _ _ (by kernel_rfl) (by kernel_rfl) hl).trans (dep_of (Fact := F_vec_Scale w.heap.size a b n) hd 6 (by kernel_rfl))))) ?_
      refine (fix_Mul b n _).mono ?_
      rintro e w2 ⟨rfl, hb2⟩
      exact ⟨_, rfl, _, rfl, hb2, rfl⟩
    · intro vs w' F hb hd hF hl
      exact one_build _ _ rfl rfl #[(0, .int .i64 (thr a n 65536)), (1, .int .i64 (thr b n 65536))] (parts2 ((hF 8).trans ((look_at _ 8 3 _ _ (by kernel_rfl) (by kernel_rfl) hl).trans (dep_of (Fact := F_vec_Scale w.heap.size a b n) hd 3 (by kernel_rfl)))) ((hF 12).trans ((look_at _ 12 7 _ _ (by kernel_rfl) (by kernel_rfl) hl).trans (dep_of (Fact := F_vec_Scale w.heap.size a b n) hd 7 (by kernel_rfl))))) (.agg #[.int .i64 (thr a n 65536), .int .i64 (thr b n 65536)]) (fun w => by kernel_rfl) ⟨_, rfl, Below.refl _ _, rfl⟩
  · intro vs W1 hl hb hI
    have i0 := hI 0 (by omega)
    have i1 := hI 1 (by omega)
    have i2 := hI 2 (by omega)
    have i3 := hI 3 (by omega)
    have i4 := hI 4 (by omega)
    have i5 := hI 5 (by omega)
    have i6 := hI 6 (by omega)
    have i7 := hI 7 (by omega)
    have i8 := hI 8 (by omega)
    clear hI
    obtain ⟨v0, v1, v2, v3, v4, v5, v6, v7, v8, v9, rfl⟩ := list10 hl
    replace i0 : v0 = .pointer (some ⟨w.heap.size, 0, none⟩) := i0
    subst i0
    replace i1 : v1 = .int .i64 a := i1
    subst i1
    replace i2 : v2 = .int .i64 n := i2
    subst i2
    replace i3 : v3 = .int .i64 (thr a n 65536) := i3
    subst i3
    replace i4 : v4 = .pointer (some ⟨w.heap.size, 1, none⟩) := i4
    subst i4
    replace i5 : v5 = .int .i64 b := i5
    subst i5
    replace i6 : v6 = .int .i64 n := i6
    subst i6
    replace i7 : v7 = .int .i64 (thr b n 65536) := i7
    subst i7
    replace i8 : v8 = .agg #[.int .i64 (thr a n 65536), .int .i64 (thr b n 65536)] := i8
    subst i8
    clear hl
    have t4 := t3.mono hb
    have hB9 := hB.trans (hb.mono hB.size)
    clear t1 t3 hb hB
    generalize hFF : fillAll _ _ _ = F
    have e1 : F.eval (.tmp 4) = .pointer (some ⟨w.heap.size + 1, 0, none⟩) := by rw [← hFF]; exact (eval_fill _ 4 _ _).trans ((look_out _ 4 _ _ (by kernel_rfl)).trans rfl)
    have e2 : F.eval (.tmp 13) = .agg #[.int .i64 (thr a n 65536), .int .i64 (thr b n 65536)] := by rw [← hFF]; exact (eval_fill _ 13 _ _).trans rfl
    have e3 : F.defers = [] := by rw [← hFF]; exact fillAll_defers _ _ _
    clear hFF
    refine wpList_store_abs rfl 36 (.tmp 4) (.tmp 13) rfl (w.heap.size + 1) #[.int .i64 (thr a n 65536), .int .i64 (thr b n 65536)] e1 e2 _ _ t4 (by kernel_rfl) rfl (ones2 _ _) ?_
    intro w2 hg hb2 hs
    go_wp2_with fail
    exact bodyPost_ret (v := .agg #[.int .i64 (thr a n 65536), .int .i64 (thr b n 65536)]) (results_cell_row Try.results49 _ _ (w.heap.size + 1) _ #[.int .i64 (thr a n 65536), .int .i64 (thr b n 65536)] _ _ e1 hg Try.underlying36 rfl (by kernel_rfl)) e3 ⟨rfl, hB9.trans (hb2.mono (by omega))⟩
def F_vec_Dot (BB : Nat) (a b c d : Int) (j : Nat) (v : Value) (w : World) : Prop := v = ([.pointer (some ⟨BB, 0, none⟩), .int .i64 a, .pointer (some ⟨BB + 1, 0, none⟩), .int .i64 c, .int .i64 (thr a c 65536), .pointer (some ⟨BB, 1, none⟩), .int .i64 b, .pointer (some ⟨BB + 1, 1, none⟩), .int .i64 d, .int .i64 (thr b d 65536), .int .i64 (lim (lim (thr a c 65536) + lim (thr b d 65536)))] : List Value).getD j undef

set_option maxHeartbeats 4000000 in
theorem vec_Dot (a b c d : Int) (w : World) : Calls Try.prog 50 #[.agg #[.int .i64 a, .int .i64 b], .agg #[.int .i64 c, .int .i64 d]] w fun e w' => e = .returned (.int .i64 (lim (lim (thr a c 65536) + lim (thr b d 65536)))) ∧ Below w.heap.size w w' := by
  go_enter Try.func50, Try.ntmps50
  go_wp2_with fail
  have t1 := (two_new w a b).alloc (.cells #[.int .i64 c, .int .i64 d] 36)
  have t2 := two_new (w.alloc (.cells #[.int .i64 a, .int .i64 b] 36)) c d
  have hB := ((Below.refl w.heap.size w).alloc (Nat.le_refl _) (.cells #[.int .i64 a, .int .i64 b] 36)).alloc (by simp) (.cells #[.int .i64 c, .int .i64 d] 36)
  generalize (w.alloc (.cells #[.int .i64 a, .int .i64 b] 36)).alloc (.cells #[.int .i64 c, .int .i64 d] 36) = W0 at *
  replace t2 : Two W0 (w.heap.size + 1) c d := by simpa using t2
  refine wp_region_facts rfl 11 (by kernel_rfl) (F_vec_Dot w.heap.size a b c d) ⟨fun _ _ _ _ h _ => h⟩ ?_ ?_
  · refine ⟨?_, ?_, ?_, ?_, ?_, ?_, ?_, ?_, ?_, ?_, ?_, trivial⟩
    · intro vs w' F hb hd hF hl
      have e := (hF 2).trans (look_out _ 2 _ _ (by kernel_rfl))
      exact one_field _ _ _ rfl rfl _ _ e _ (fun w => by kernel_rfl) ⟨_, rfl, Below.refl _ _, rfl⟩
    · intro vs w' F hb hd hF hl
      have e := (hF 5).trans ((look_at _ 5 0 _ _ (by kernel_rfl) (by kernel_rfl) hl).trans (dep_of (Fact := F_vec_Dot w.heap.size a b c d) hd 0 (by kernel_rfl)))
      exact one_load _ _ rfl rfl _ _ e ((hb.cell t1.lt).trans t1.c0) (by kernel_rfl) ⟨_, rfl, Below.refl _ _, rfl⟩
    · intro vs w' F hb hd hF hl
      have e := (hF 3).trans (look_out _ 3 _ _ (by kernel_rfl))
      exact one_field _ _ _ rfl rfl _ _ e _ (fun w => by kernel_rfl) ⟨_, rfl, Below.refl _ _, rfl⟩
    · intro vs w' F hb hd hF hl
      have e := (hF 7).trans ((look_at _ 7 2 _ _ (by kernel_rfl) (by kernel_rfl) hl).trans (dep_of (Fact := F_vec_Dot w.heap.size a b c d) hd 2 (by kernel_rfl)))
      exact one_load _ _ rfl rfl _ _ e ((hb.cell t2.lt).trans t2.c0) (by kernel_rfl) ⟨_, rfl, Below.refl _ _, rfl⟩
    · intro vs w' F hb hd hF hl
      refine one_call _ _ rfl rfl (enters_of Try.func36 (by kernel_rfl) rfl) #[.int .i64 a, .int .i64 c] (eval2 ((hF 6).trans ((look_at _ 6 1 _ _ (by kernel_rfl) (by kernel_rfl) hl).trans (dep_of (Fact := F_vec_Dot w.heap.size a b c d) hd 1 (by kernel_rfl)))) ((hF 8).trans ((look_at _ 8 3 _ _ (by kernel_rfl) (by kernel_rfl) hl).trans (dep_of (Fact := F_vec_Dot w.heap.size a b c d) hd 3 (by kernel_rfl))))) ?_
      refine (fix_Mul a c _).mono ?_
      rintro e w2 ⟨rfl, hb2⟩
      exact ⟨_, rfl, _, rfl, hb2, rfl⟩
    · intro vs w' F hb hd hF hl
      have e := (hF 2).trans (look_out _ 2 _ _ (by kernel_rfl))
      exact one_field _ _ _ rfl rfl _ _ e _ (fun w => by kernel_rfl) ⟨_, rfl, Below.refl _ _, rfl⟩
    · intro vs w' F hb hd hF hl
      have e := (hF 10).trans ((look_at _ 10 5 _ _ (by kernel_rfl) (by kernel_rfl) hl).trans (dep_of (Fact := F_vec_Dot w.heap.size a b c d) hd 5 (by kernel_rfl)))
      exact one_load _ _ rfl rfl _ _ e ((hb.cell t1.lt).trans t1.c1) (by kernel_rfl) ⟨_, rfl, Below.refl _ _, rfl⟩
    · intro vs w' F hb hd hF hl
      have e := (hF 3).trans (look_out _ 3 _ _ (by kernel_rfl))
      exact one_field _ _ _ rfl rfl _ _ e _ (fun w => by kernel_rfl) ⟨_, rfl, Below.refl _ _, rfl⟩
    · intro vs w' F hb hd hF hl
      have e := (hF 12).trans ((look_at _ 12 7 _ _ (by kernel_rfl) (by kernel_rfl) hl).trans (dep_of (Fact := F_vec_Dot w.heap.size a b c d) hd 7 (by kernel_rfl)))
      exact one_load _ _ rfl rfl _ _ e ((hb.cell t2.lt).trans t2.c1) (by kernel_rfl) ⟨_, rfl, Below.refl _ _, rfl⟩
    · intro vs w' F hb hd hF hl
      refine one_call _ _ rfl rfl (enters_of Try.func36 (by kernel_rfl) rfl) #[.int .i64 b, .int .i64 d] (eval2 ((hF 11).trans ((look_at _ 11 6 _ _ (by kernel_rfl) (by kernel_rfl) hl).trans (dep_of (Fact := F_vec_Dot w.heap.size a b c d) hd 6 (by kernel_rfl)))) ((hF 13).trans ((look_at _ 13 8 _ _ (by kernel_rfl) (by kernel_rfl) hl).trans (dep_of (Fact := F_vec_Dot w.heap.size a b c d) hd 8 (by kernel_rfl))))) ?_
      refine (fix_Mul b d _).mono ?_
      rintro e w2 ⟨rfl, hb2⟩
      exact ⟨_, rfl, _, rfl, hb2, rfl⟩
    · intro vs w' F hb hd hF hl
      refine one_call _ _ rfl rfl (enters_of Try.func40 (by kernel_rfl) rfl) #[.int .i64 (thr a c 65536), .int .i64 (thr b d 65536)] (eval2 ((hF 9).trans ((look_at _ 9 4 _ _ (by kernel_rfl) (by kernel_rfl) hl).trans (dep_of (Fact := F_vec_Dot w.heap.size a b c d) hd 4 (by kernel_rfl)))) ((hF 14).trans ((look_at _ 14 9 _ _ (by kernel_rfl) (by kernel_rfl) hl).trans (dep_of (Fact := F_vec_Dot w.heap.size a b c d) hd 9 (by kernel_rfl))))) ?_
      refine (fix_Add (thr a c 65536) (thr b d 65536) _).mono ?_
      rintro e w2 ⟨rfl, rfl⟩
      exact ⟨_, rfl, _, rfl, Below.refl _ _, rfl⟩
  · intro vs W1 hl hb hI
    have i0 := hI 0 (by omega)
    have i1 := hI 1 (by omega)
    have i2 := hI 2 (by omega)
    have i3 := hI 3 (by omega)
    have i4 := hI 4 (by omega)
    have i5 := hI 5 (by omega)
    have i6 := hI 6 (by omega)
    have i7 := hI 7 (by omega)
    have i8 := hI 8 (by omega)
    have i9 := hI 9 (by omega)
    have i10 := hI 10 (by omega)
    clear hI
    obtain ⟨v0, v1, v2, v3, v4, v5, v6, v7, v8, v9, v10, v11, rfl⟩ := list12 hl
    replace i0 : v0 = .pointer (some ⟨w.heap.size, 0, none⟩) := i0
    subst i0
    replace i1 : v1 = .int .i64 a := i1
    subst i1
    replace i2 : v2 = .pointer (some ⟨w.heap.size + 1, 0, none⟩) := i2
    subst i2
    replace i3 : v3 = .int .i64 c := i3
    subst i3
    replace i4 : v4 = .int .i64 (thr a c 65536) := i4
    subst i4
    replace i5 : v5 = .pointer (some ⟨w.heap.size, 1, none⟩) := i5
    subst i5
    replace i6 : v6 = .int .i64 b := i6
    subst i6
    replace i7 : v7 = .pointer (some ⟨w.heap.size + 1, 1, none⟩) := i7
    subst i7
    replace i8 : v8 = .int .i64 d := i8
    subst i8
    replace i9 : v9 = .int .i64 (thr b d 65536) := i9
    subst i9
    replace i10 : v10 = .int .i64 (lim (lim (thr a c 65536) + lim (thr b d 65536))) := i10
    subst i10
    clear hl
    simp only [fillAll]
    have hB9 := hB.trans (hb.mono hB.size)
    clear t1 t2 hb hB
    go_wp2_with fail
    go_ret
    exact ⟨rfl, hB9⟩
def F_vec_Cross (BB : Nat) (a b c d : Int) (j : Nat) (v : Value) (w : World) : Prop := v = ([.pointer (some ⟨BB, 0, none⟩), .int .i64 a, .pointer (some ⟨BB + 1, 1, none⟩), .int .i64 d, .int .i64 (thr a d 65536), .pointer (some ⟨BB, 1, none⟩), .int .i64 b, .pointer (some ⟨BB + 1, 0, none⟩), .int .i64 c, .int .i64 (thr b c 65536), .int .i64 (lim (lim (thr a d 65536) - lim (thr b c 65536)))] : List Value).getD j undef

set_option maxHeartbeats 4000000 in
theorem vec_Cross (a b c d : Int) (w : World) : Calls Try.prog 51 #[.agg #[.int .i64 a, .int .i64 b], .agg #[.int .i64 c, .int .i64 d]] w fun e w' => e = .returned (.int .i64 (lim (lim (thr a d 65536) - lim (thr b c 65536)))) ∧ Below w.heap.size w w' := by
  go_enter Try.func51, Try.ntmps51
  go_wp2_with fail
  have t1 := (two_new w a b).alloc (.cells #[.int .i64 c, .int .i64 d] 36)
  have t2 := two_new (w.alloc (.cells #[.int .i64 a, .int .i64 b] 36)) c d
  have hB := ((Below.refl w.heap.size w).alloc (Nat.le_refl _) (.cells #[.int .i64 a, .int .i64 b] 36)).alloc (by simp) (.cells #[.int .i64 c, .int .i64 d] 36)
  generalize (w.alloc (.cells #[.int .i64 a, .int .i64 b] 36)).alloc (.cells #[.int .i64 c, .int .i64 d] 36) = W0 at *
  replace t2 : Two W0 (w.heap.size + 1) c d := by simpa using t2
  refine wp_region_facts rfl 11 (by kernel_rfl) (F_vec_Cross w.heap.size a b c d) ⟨fun _ _ _ _ h _ => h⟩ ?_ ?_
  · refine ⟨?_, ?_, ?_, ?_, ?_, ?_, ?_, ?_, ?_, ?_, ?_, trivial⟩
    · intro vs w' F hb hd hF hl
      have e := (hF 2).trans (look_out _ 2 _ _ (by kernel_rfl))
      exact one_field _ _ _ rfl rfl _ _ e _ (fun w => by kernel_rfl) ⟨_, rfl, Below.refl _ _, rfl⟩
    · intro vs w' F hb hd hF hl
      have e := (hF 5).trans ((look_at _ 5 0 _ _ (by kernel_rfl) (by kernel_rfl) hl).trans (dep_of (Fact := F_vec_Cross w.heap.size a b c d) hd 0 (by kernel_rfl)))
      exact one_load _ _ rfl rfl _ _ e ((hb.cell t1.lt).trans t1.c0) (by kernel_rfl) ⟨_, rfl, Below.refl _ _, rfl⟩
    · intro vs w' F hb hd hF hl
      have e := (hF 3).trans (look_out _ 3 _ _ (by kernel_rfl))
      exact one_field _ _ _ rfl rfl _ _ e _ (fun w => by kernel_rfl) ⟨_, rfl, Below.refl _ _, rfl⟩
    · intro vs w' F hb hd hF hl
      have e := (hF 7).trans ((look_at _ 7 2 _ _ (by kernel_rfl) (by kernel_rfl) hl).trans (dep_of (Fact := F_vec_Cross w.heap.size a b c d) hd 2 (by kernel_rfl)))
      exact one_load _ _ rfl rfl _ _ e ((hb.cell t2.lt).trans t2.c1) (by kernel_rfl) ⟨_, rfl, Below.refl _ _, rfl⟩
    · intro vs w' F hb hd hF hl
      refine one_call _ _ rfl rfl (enters_of Try.func36 (by kernel_rfl) rfl) #[.int .i64 a, .int .i64 d] (eval2 ((hF 6).trans ((look_at _ 6 1 _ _ (by kernel_rfl) (by kernel_rfl) hl).trans (dep_of (Fact := F_vec_Cross w.heap.size a b c d) hd 1 (by kernel_rfl)))) ((hF 8).trans ((look_at _ 8 3 _ _ (by kernel_rfl) (by kernel_rfl) hl).trans (dep_of (Fact := F_vec_Cross w.heap.size a b c d) hd 3 (by kernel_rfl))))) ?_
      refine (fix_Mul a d _).mono ?_
      rintro e w2 ⟨rfl, hb2⟩
      exact ⟨_, rfl, _, rfl, hb2, rfl⟩
    · intro vs w' F hb hd hF hl
      have e := (hF 2).trans (look_out _ 2 _ _ (by kernel_rfl))
      exact one_field _ _ _ rfl rfl _ _ e _ (fun w => by kernel_rfl) ⟨_, rfl, Below.refl _ _, rfl⟩
    · intro vs w' F hb hd hF hl
      have e := (hF 10).trans ((look_at _ 10 5 _ _ (by kernel_rfl) (by kernel_rfl) hl).trans (dep_of (Fact := F_vec_Cross w.heap.size a b c d) hd 5 (by kernel_rfl)))
      exact one_load _ _ rfl rfl _ _ e ((hb.cell t1.lt).trans t1.c1) (by kernel_rfl) ⟨_, rfl, Below.refl _ _, rfl⟩
    · intro vs w' F hb hd hF hl
      have e := (hF 3).trans (look_out _ 3 _ _ (by kernel_rfl))
      exact one_field _ _ _ rfl rfl _ _ e _ (fun w => by kernel_rfl) ⟨_, rfl, Below.refl _ _, rfl⟩
    · intro vs w' F hb hd hF hl
      have e := (hF 12).trans ((look_at _ 12 7 _ _ (by kernel_rfl) (by kernel_rfl) hl).trans (dep_of (Fact := F_vec_Cross w.heap.size a b c d) hd 7 (by kernel_rfl)))
      exact one_load _ _ rfl rfl _ _ e ((hb.cell t2.lt).trans t2.c0) (by kernel_rfl) ⟨_, rfl, Below.refl _ _, rfl⟩
    · intro vs w' F hb hd hF hl
      refine one_call _ _ rfl rfl (enters_of Try.func36 (by kernel_rfl) rfl) #[.int .i64 b, .int .i64 c] (eval2 ((hF 11).trans ((look_at _ 11 6 _ _ (by kernel_rfl) (by kernel_rfl) hl).trans (dep_of (Fact := F_vec_Cross w.heap.size a b c d) hd 6 (by kernel_rfl)))) ((hF 13).trans ((look_at _ 13 8 _ _ (by kernel_rfl) (by kernel_rfl) hl).trans (dep_of (Fact := F_vec_Cross w.heap.size a b c d) hd 8 (by kernel_rfl))))) ?_
      refine (fix_Mul b c _).mono ?_
      rintro e w2 ⟨rfl, hb2⟩
      exact ⟨_, rfl, _, rfl, hb2, rfl⟩
    · intro vs w' F hb hd hF hl
      refine one_call _ _ rfl rfl (enters_of Try.func42 (by kernel_rfl) rfl) #[.int .i64 (thr a d 65536), .int .i64 (thr b c 65536)] (eval2 ((hF 9).trans ((look_at _ 9 4 _ _ (by kernel_rfl) (by kernel_rfl) hl).trans (dep_of (Fact := F_vec_Cross w.heap.size a b c d) hd 4 (by kernel_rfl)))) ((hF 14).trans ((look_at _ 14 9 _ _ (by kernel_rfl) (by kernel_rfl) hl).trans (dep_of (Fact := F_vec_Cross w.heap.size a b c d) hd 9 (by kernel_rfl))))) ?_
      refine (fix_Sub (thr a d 65536) (thr b c 65536) _).mono ?_
      rintro e w2 ⟨rfl, rfl⟩
      exact ⟨_, rfl, _, rfl, Below.refl _ _, rfl⟩
  · intro vs W1 hl hb hI
    have i0 := hI 0 (by omega)
    have i1 := hI 1 (by omega)
    have i2 := hI 2 (by omega)
    have i3 := hI 3 (by omega)
    have i4 := hI 4 (by omega)
    have i5 := hI 5 (by omega)
    have i6 := hI 6 (by omega)
    have i7 := hI 7 (by omega)
    have i8 := hI 8 (by omega)
    have i9 := hI 9 (by omega)
    have i10 := hI 10 (by omega)
    clear hI
    obtain ⟨v0, v1, v2, v3, v4, v5, v6, v7, v8, v9, v10, v11, rfl⟩ := list12 hl
    replace i0 : v0 = .pointer (some ⟨w.heap.size, 0, none⟩) := i0
    subst i0
    replace i1 : v1 = .int .i64 a := i1
    subst i1
    replace i2 : v2 = .pointer (some ⟨w.heap.size + 1, 1, none⟩) := i2
    subst i2
    replace i3 : v3 = .int .i64 d := i3
    subst i3
    replace i4 : v4 = .int .i64 (thr a d 65536) := i4
    subst i4
    replace i5 : v5 = .pointer (some ⟨w.heap.size, 1, none⟩) := i5
    subst i5
    replace i6 : v6 = .int .i64 b := i6
    subst i6
    replace i7 : v7 = .pointer (some ⟨w.heap.size + 1, 0, none⟩) := i7
    subst i7
    replace i8 : v8 = .int .i64 c := i8
    subst i8
    replace i9 : v9 = .int .i64 (thr b c 65536) := i9
    subst i9
    replace i10 : v10 = .int .i64 (lim (lim (thr a d 65536) - lim (thr b c 65536))) := i10
    subst i10
    clear hl
    simp only [fillAll]
    have hB9 := hB.trans (hb.mono hB.size)
    clear t1 t2 hb hB
    go_wp2_with fail
    go_ret
    exact ⟨rfl, hB9⟩
def F_vec_Turn (BB : Nat) (a b n : Int) (j : Nat) (v : Value) (w : World) : Prop := v = ([.pointer (some ⟨BB, 0, none⟩), .int .i64 a, .int .i64 (cosine n), .int .i64 (thr a (cosine n) 65536), .pointer (some ⟨BB, 1, none⟩), .int .i64 b, .int .i64 (sine n), .int .i64 (thr b (sine n) 65536), .int .i64 (lim (lim (thr a (cosine n) 65536) - lim (thr b (sine n) 65536))), .pointer (some ⟨BB, 0, none⟩), .int .i64 a, .int .i64 (sine n), .int .i64 (thr a (sine n) 65536), .pointer (some ⟨BB, 1, none⟩), .int .i64 b, .int .i64 (cosine n), .int .i64 (thr b (cosine n) 65536), .int .i64 (lim (lim (thr a (sine n) 65536) + lim (thr b (cosine n) 65536))), .agg #[.int .i64 (lim (lim (thr a (cosine n) 65536) - lim (thr b (sine n) 65536))), .int .i64 (lim (lim (thr a (sine n) 65536) + lim (thr b (cosine n) 65536)))]] : List Value).getD j undef

set_option maxHeartbeats 4000000 in
theorem vec_Turn (a b n : Int) (w : World) : Calls Try.prog 46 #[.agg #[.int .i64 a, .int .i64 b], .int .i64 n] w fun e w' => e = .returned (.agg #[.int .i64 (lim (lim (thr a (cosine n) 65536) - lim (thr b (sine n) 65536))), .int .i64 (lim (lim (thr a (sine n) 65536) + lim (thr b (cosine n) 65536)))]) ∧ Below w.heap.size w w' := by
  have t1 := (two_new w a b).alloc (.cells #[.int .i64 0, .int .i64 0] 36)
  have t3 := two_new (w.alloc (.cells #[.int .i64 a, .int .i64 b] 36)) 0 0
  have hB := ((Below.refl w.heap.size w).alloc (Nat.le_refl _) (.cells #[.int .i64 a, .int .i64 b] 36)).alloc (by simp) (.cells #[.int .i64 0, .int .i64 0] 36)
  replace t3 : Two ((w.alloc (.cells #[.int .i64 a, .int .i64 b] 36)).alloc (.cells #[.int .i64 0, .int .i64 0] 36)) (w.heap.size + 1) 0 0 := by simpa using t3
  go_enter Try.func46, Try.ntmps46
  go_wp2_with (first
    | (go_at_call 16; refine (trig_Cos n _).mono ?_; rintro e w1 ⟨rfl, hb1⟩; have t1 := t1.mono hb1; have t3 := t3.mono hb1; have hB := bt hB hb1; clear hb1)
    | (go_at_call 14; refine (trig_Sin n _).mono ?_; rintro e W0 ⟨rfl, hb1⟩; have t1 := t1.mono hb1; have t3 := t3.mono hb1; have hB := bt hB hb1; clear hb1))
  refine wp_region_facts rfl 19 (by kernel_rfl) (F_vec_Turn w.heap.size a b n) ⟨fun _ _ _ _ h _ => h⟩ ?_ ?_
  · refine ⟨?_, ?_, ?_, ?_, ?_, ?_, ?_, ?_, ?_, ?_, ?_, ?_, ?_, ?_, ?_, ?_, ?_, ?_, ?_, trivial⟩
    · intro vs w' F hb hd hF hl
      have e := (hF 2).trans (look_out _ 2 _ _ (by kernel_rfl))
      exact one_field _ _ _ rfl rfl _ _ e _ (fun w => by kernel_rfl) ⟨_, rfl, Below.refl _ _, rfl⟩
    · intro vs w' F hb hd hF hl
      have e := (hF 11).trans ((look_at _ 11 0 _ _ (by kernel_rfl) (by kernel_rfl) hl).trans (dep_of (Fact := F_vec_Turn w.heap.size a b n) hd 0 (by kernel_rfl)))
      exact one_load _ _ rfl rfl _ _ e ((hb.cell t1.lt).trans t1.c0) (by kernel_rfl) ⟨_, rfl, Below.refl _ _, rfl⟩
    · intro vs w' F hb hd hF hl
      have e := (hF 5).trans (look_out _ 5 _ _ (by kernel_rfl))
      exact one_move _ rfl (by first | exact Or.inl rfl | exact Or.inr rfl) ⟨_, rfl, Below.refl _ _, e⟩
    · intro vs w' F hb hd hF hl
      refine one_call _ _ rfl rfl (enters_of Try.func36 (by kernel_rfl) rfl) #[.int .i64 a, .int .i64 (cosine n)] (eval2 ((hF 12).trans ((look_at _ 12 1 _ _ (by kernel_rfl) (by kernel_rfl) hl).trans (dep_of (Fact := F_vec_Turn w.heap.size a b n) hd 1 (by kernel_rfl)))) ((hF 13).trans ((look_at _ 13 2 _ _ (by kernel_rfl) (by kernel_rfl) hl).trans (dep_of (Fact := F_vec_Turn w.heap.size a b n) hd 2 (by kernel_rfl))))) ?_
      refine (fix_Mul a (cosine n) _).mono ?_
      rintro e w2 ⟨rfl, hb2⟩
      exact ⟨_, rfl, _, rfl, hb2, rfl⟩
    · intro vs w' F hb hd hF hl
      have e := (hF 2).trans (look_out _ 2 _ _ (by kernel_rfl))
      exact one_field _ _ _ rfl rfl _ _ e _ (fun w => by kernel_rfl) ⟨_, rfl, Below.refl _ _, rfl⟩
    · intro vs w' F hb hd hF hl
      have e := (hF 15).trans ((look_at _ 15 4 _ _ (by kernel_rfl) (by kernel_rfl) hl).trans (dep_of (Fact := F_vec_Turn w.heap.size a b n) hd 4 (by kernel_rfl)))
      exact one_load _ _ rfl rfl _ _ e ((hb.cell t1.lt).trans t1.c1) (by kernel_rfl) ⟨_, rfl, Below.refl _ _, rfl⟩
    · intro vs w' F hb hd hF hl
      have e := (hF 6).trans (look_out _ 6 _ _ (by kernel_rfl))
      exact one_move _ rfl (by first | exact Or.inl rfl | exact Or.inr rfl) ⟨_, rfl, Below.refl _ _, e⟩
    · intro vs w' F hb hd hF hl
      refine one_call _ _ rfl rfl (enters_of Try.func36 (by kernel_rfl) rfl) #[.int .i64 b, .int .i64 (sine n)] (eval2 ((hF 16).trans ((look_at _ 16 5 _ _ (by kernel_rfl) (by kernel_rfl) hl).trans (dep_of (Fact := F_vec_Turn w.heap.size a b n) hd 5 (by kernel_rfl)))) ((hF 17).trans ((look_at _ 17 6 _ _ (by kernel_rfl) (by kernel_rfl) hl).trans (dep_of (Fact := F_vec_Turn w.heap.size a b n) hd 6 (by kernel_rfl))))) ?_
      refine (fix_Mul b (sine n) _).mono ?_
      rintro e w2 ⟨rfl, hb2⟩
      exact ⟨_, rfl, _, rfl, hb2, rfl⟩
    · intro vs w' F hb hd hF hl
      refine one_call _ _ rfl rfl (enters_of Try.func42 (by kernel_rfl) rfl) #[.int .i64 (thr a (cosine n) 65536), .int .i64 (thr b (sine n) 65536)] (eval2 ((hF 14).trans ((look_at _ 14 3 _ _ (by kernel_rfl) (by kernel_rfl) hl).trans (dep_of (Fact := F_vec_Turn w.heap.size a b n) hd 3 (by kernel_rfl)))) ((hF 18).trans ((look_at _ 18 7 _ _ (by kernel_rfl) (by kernel_rfl) hl).trans (dep_of (Fact := F_vec_Turn w.heap.size a b n) hd 7 (by kernel_rfl))))) ?_
      refine (fix_Sub (thr a (cosine n) 65536) (thr b (sine n) 65536) _).mono ?_
      rintro e w2 ⟨rfl, rfl⟩
      exact ⟨_, rfl, _, rfl, Below.refl _ _, rfl⟩
    · intro vs w' F hb hd hF hl
      have e := (hF 2).trans (look_out _ 2 _ _ (by kernel_rfl))
      exact one_field _ _ _ rfl rfl _ _ e _ (fun w => by kernel_rfl) ⟨_, rfl, Below.refl _ _, rfl⟩
    · intro vs w' F hb hd hF hl
      have e := (hF 20).trans ((look_at _ 20 9 _ _ (by kernel_rfl) (by kernel_rfl) hl).trans (dep_of (Fact := F_vec_Turn w.heap.size a b n) hd 9 (by kernel_rfl)))
      exact one_load _ _ rfl rfl _ _ e ((hb.cell t1.lt).trans t1.c0) (by kernel_rfl) ⟨_, rfl, Below.refl _ _, rfl⟩
    · intro vs w' F hb hd hF hl
      have e := (hF 6).trans (look_out _ 6 _ _ (by kernel_rfl))
      exact one_move _ rfl (by first | exact Or.inl rfl | exact Or.inr rfl) ⟨_, rfl, Below.refl _ _, e⟩
    · intro vs w' F hb hd hF hl
      refine one_call _ _ rfl rfl (enters_of Try.func36 (by kernel_rfl) rfl) #[.int .i64 a, .int .i64 (sine n)] (eval2 ((hF 21).trans ((look_at _ 21 10 _ _ (by kernel_rfl) (by kernel_rfl) hl).trans (dep_of (Fact := F_vec_Turn w.heap.size a b n) hd 10 (by kernel_rfl)))) ((hF 22).trans ((look_at _ 22 11 _ _ (by kernel_rfl) (by kernel_rfl) hl).trans (dep_of (Fact := F_vec_Turn w.heap.size a b n) hd 11 (by kernel_rfl))))) ?_
      refine (fix_Mul a (sine n) _).mono ?_
      rintro e w2 ⟨rfl, hb2⟩
      exact ⟨_, rfl, _, rfl, hb2, rfl⟩
    · intro vs w' F hb hd hF hl
      have e := (hF 2).trans (look_out _ 2 _ _ (by kernel_rfl))
      exact one_field _ _ _ rfl rfl _ _ e _ (fun w => by kernel_rfl) ⟨_, rfl, Below.refl _ _, rfl⟩
    · intro vs w' F hb hd hF hl
      have e := (hF 24).trans ((look_at _ 24 13 _ _ (by kernel_rfl) (by kernel_rfl) hl).trans (dep_of (Fact := F_vec_Turn w.heap.size a b n) hd 13 (by kernel_rfl)))
      exact one_load _ _ rfl rfl _ _ e ((hb.cell t1.lt).trans t1.c1) (by kernel_rfl) ⟨_, rfl, Below.refl _ _, rfl⟩
    · intro vs w' F hb hd hF hl
      have e := (hF 5).trans (look_out _ 5 _ _ (by kernel_rfl))
      exact one_move _ rfl (by first | exact Or.inl rfl | exact Or.inr rfl) ⟨_, rfl, Below.refl _ _, e⟩
    · intro vs w' F hb hd hF hl
      refine one_call _ _ rfl rfl (enters_of Try.func36 (by kernel_rfl) rfl) #[.int .i64 b, .int .i64 (cosine n)] (eval2 ((hF 25).trans ((look_at _ 25 14 _ _ (by kernel_rfl) (by kernel_rfl) hl).trans (dep_of (Fact := F_vec_Turn w.heap.size a b n) hd 14 (by kernel_rfl)))) ((hF 26).trans ((look_at _ 26 15 _ _ (by kernel_rfl) (by kernel_rfl) hl).trans (dep_of (Fact := F_vec_Turn w.heap.size a b n) hd 15 (by kernel_rfl))))) ?_
      refine (fix_Mul b (cosine n) _).mono ?_
      rintro e w2 ⟨rfl, hb2⟩
      exact ⟨_, rfl, _, rfl, hb2, rfl⟩
    · intro vs w' F hb hd hF hl
      refine one_call _ _ rfl rfl (enters_of Try.func40 (by kernel_rfl) rfl) #[.int .i64 (thr a (sine n) 65536), .int .i64 (thr b (cosine n) 65536)] (eval2 ((hF 23).trans ((look_at _ 23 12 _ _ (by kernel_rfl) (by kernel_rfl) hl).trans (dep_of (Fact := F_vec_Turn w.heap.size a b n) hd 12 (by kernel_rfl)))) ((hF 27).trans ((look_at _ 27 16 _ _ (by kernel_rfl) (by kernel_rfl) hl).trans (dep_of (Fact := F_vec_Turn w.heap.size a b n) hd 16 (by kernel_rfl))))) ?_
      refine (fix_Add (thr a (sine n) 65536) (thr b (cosine n) 65536) _).mono ?_
      rintro e w2 ⟨rfl, rfl⟩
      exact ⟨_, rfl, _, rfl, Below.refl _ _, rfl⟩
    · intro vs w' F hb hd hF hl
      exact one_build _ _ rfl rfl #[(0, .int .i64 (lim (lim (thr a (cosine n) 65536) - lim (thr b (sine n) 65536)))), (1, .int .i64 (lim (lim (thr a (sine n) 65536) + lim (thr b (cosine n) 65536))))] (parts2 ((hF 19).trans ((look_at _ 19 8 _ _ (by kernel_rfl) (by kernel_rfl) hl).trans (dep_of (Fact := F_vec_Turn w.heap.size a b n) hd 8 (by kernel_rfl)))) ((hF 28).trans ((look_at _ 28 17 _ _ (by kernel_rfl) (by kernel_rfl) hl).trans (dep_of (Fact := F_vec_Turn w.heap.size a b n) hd 17 (by kernel_rfl))))) (.agg #[.int .i64 (lim (lim (thr a (cosine n) 65536) - lim (thr b (sine n) 65536))), .int .i64 (lim (lim (thr a (sine n) 65536) + lim (thr b (cosine n) 65536)))]) (fun w => by kernel_rfl) ⟨_, rfl, Below.refl _ _, rfl⟩
  · intro vs W1 hl hb hI
    have i0 := hI 0 (by omega)
    have i1 := hI 1 (by omega)
    have i2 := hI 2 (by omega)
    have i3 := hI 3 (by omega)
    have i4 := hI 4 (by omega)
    have i5 := hI 5 (by omega)
    have i6 := hI 6 (by omega)
    have i7 := hI 7 (by omega)
    have i8 := hI 8 (by omega)
    have i9 := hI 9 (by omega)
    have i10 := hI 10 (by omega)
    have i11 := hI 11 (by omega)
    have i12 := hI 12 (by omega)
    have i13 := hI 13 (by omega)
    have i14 := hI 14 (by omega)
    have i15 := hI 15 (by omega)
    have i16 := hI 16 (by omega)
    have i17 := hI 17 (by omega)
    have i18 := hI 18 (by omega)
    clear hI
    obtain ⟨v0, v1, v2, v3, v4, v5, v6, v7, v8, v9, v10, v11, v12, v13, v14, v15, v16, v17, v18, v19, rfl⟩ := list20 hl
    replace i0 : v0 = .pointer (some ⟨w.heap.size, 0, none⟩) := i0
    subst i0
    replace i1 : v1 = .int .i64 a := i1
    subst i1
    replace i2 : v2 = .int .i64 (cosine n) := i2
    subst i2
    replace i3 : v3 = .int .i64 (thr a (cosine n) 65536) := i3
    subst i3
    replace i4 : v4 = .pointer (some ⟨w.heap.size, 1, none⟩) := i4
    subst i4
    replace i5 : v5 = .int .i64 b := i5
    subst i5
    replace i6 : v6 = .int .i64 (sine n) := i6
    subst i6
    replace i7 : v7 = .int .i64 (thr b (sine n) 65536) := i7
    subst i7
    replace i8 : v8 = .int .i64 (lim (lim (thr a (cosine n) 65536) - lim (thr b (sine n) 65536))) := i8
    subst i8
    replace i9 : v9 = .pointer (some ⟨w.heap.size, 0, none⟩) := i9
    subst i9
    replace i10 : v10 = .int .i64 a := i10
    subst i10
    replace i11 : v11 = .int .i64 (sine n) := i11
    subst i11
    replace i12 : v12 = .int .i64 (thr a (sine n) 65536) := i12
    subst i12
    replace i13 : v13 = .pointer (some ⟨w.heap.size, 1, none⟩) := i13
    subst i13
    replace i14 : v14 = .int .i64 b := i14
    subst i14
    replace i15 : v15 = .int .i64 (cosine n) := i15
    subst i15
    replace i16 : v16 = .int .i64 (thr b (cosine n) 65536) := i16
    subst i16
    replace i17 : v17 = .int .i64 (lim (lim (thr a (sine n) 65536) + lim (thr b (cosine n) 65536))) := i17
    subst i17
    replace i18 : v18 = .agg #[.int .i64 (lim (lim (thr a (cosine n) 65536) - lim (thr b (sine n) 65536))), .int .i64 (lim (lim (thr a (sine n) 65536) + lim (thr b (cosine n) 65536)))] := i18
    subst i18
    clear hl
    have t4 := t3.mono hb
    have hB9 := hB.trans (hb.mono hB.size)
    clear t1 t3 hb hB
    generalize hFF : fillAll _ _ _ = F
    have e1 : F.eval (.tmp 4) = .pointer (some ⟨w.heap.size + 1, 0, none⟩) := by rw [← hFF]; exact (eval_fill _ 4 _ _).trans ((look_out _ 4 _ _ (by kernel_rfl)).trans rfl)
    have e2 : F.eval (.tmp 29) = .agg #[.int .i64 (lim (lim (thr a (cosine n) 65536) - lim (thr b (sine n) 65536))), .int .i64 (lim (lim (thr a (sine n) 65536) + lim (thr b (cosine n) 65536)))] := by rw [← hFF]; exact (eval_fill _ 29 _ _).trans rfl
    have e3 : F.defers = [] := by rw [← hFF]; exact fillAll_defers _ _ _
    clear hFF
    refine wpList_store_abs rfl 36 (.tmp 4) (.tmp 29) rfl (w.heap.size + 1) #[.int .i64 (lim (lim (thr a (cosine n) 65536) - lim (thr b (sine n) 65536))), .int .i64 (lim (lim (thr a (sine n) 65536) + lim (thr b (cosine n) 65536)))] e1 e2 _ _ t4 (by kernel_rfl) rfl (ones2 _ _) ?_
    intro w2 hg hb2 hs
    go_wp2_with fail
    exact bodyPost_ret (v := .agg #[.int .i64 (lim (lim (thr a (cosine n) 65536) - lim (thr b (sine n) 65536))), .int .i64 (lim (lim (thr a (sine n) 65536) + lim (thr b (cosine n) 65536)))]) (results_cell_row Try.results46 _ _ (w.heap.size + 1) _ #[.int .i64 (lim (lim (thr a (cosine n) 65536) - lim (thr b (sine n) 65536))), .int .i64 (lim (lim (thr a (sine n) 65536) + lim (thr b (cosine n) 65536)))] _ _ e1 hg Try.underlying36 rfl (by kernel_rfl)) e3 ⟨rfl, hB9.trans (hb2.mono (by omega))⟩
def F_ref_Turned (BB : Nat) (a b n : Int) (j : Nat) (v : Value) (w : World) : Prop := v = ([.pointer (some ⟨BB, 0, none⟩), .int .i64 a, .int .i64 (cosine n), .int .i64 (thr a (cosine n) 65536), .pointer (some ⟨BB, 1, none⟩), .int .i64 b, .int .i64 (sine n), .int .i64 (thr b (sine n) 65536), .int .i64 (lim (lim (thr a (cosine n) 65536) - lim (thr b (sine n) 65536))), .pointer (some ⟨BB, 0, none⟩), .int .i64 a, .int .i64 (sine n), .int .i64 (thr a (sine n) 65536), .pointer (some ⟨BB, 1, none⟩), .int .i64 b, .int .i64 (cosine n), .int .i64 (thr b (cosine n) 65536), .int .i64 (lim (lim (thr a (sine n) 65536) + lim (thr b (cosine n) 65536))), .agg #[.int .i64 (lim (lim (thr a (cosine n) 65536) - lim (thr b (sine n) 65536))), .int .i64 (lim (lim (thr a (sine n) 65536) + lim (thr b (cosine n) 65536)))]] : List Value).getD j undef

set_option maxHeartbeats 4000000 in
theorem ref_Turned (a b n : Int) (w : World) : Calls Try.prog 52 #[.agg #[.int .i64 a, .int .i64 b], .int .i64 n] w fun e w' => e = .returned (.agg #[.int .i64 (lim (lim (thr a (cosine n) 65536) - lim (thr b (sine n) 65536))), .int .i64 (lim (lim (thr a (sine n) 65536) + lim (thr b (cosine n) 65536)))]) ∧ Below w.heap.size w w' := by
  have t1 := (two_new w a b).alloc (.cells #[.int .i64 0, .int .i64 0] 36)
  have t3 := two_new (w.alloc (.cells #[.int .i64 a, .int .i64 b] 36)) 0 0
  have hB := ((Below.refl w.heap.size w).alloc (Nat.le_refl _) (.cells #[.int .i64 a, .int .i64 b] 36)).alloc (by simp) (.cells #[.int .i64 0, .int .i64 0] 36)
  replace t3 : Two ((w.alloc (.cells #[.int .i64 a, .int .i64 b] 36)).alloc (.cells #[.int .i64 0, .int .i64 0] 36)) (w.heap.size + 1) 0 0 := by simpa using t3
  go_enter Try.func52, Try.ntmps52
  go_wp2_with (first
    | (go_at_call 17; refine (ref_Cosine n _).mono ?_; rintro e w1 ⟨rfl, hb1⟩; have t1 := t1.mono hb1; have t3 := t3.mono hb1; have hB := bt hB hb1; clear hb1)
    | (go_at_call 15; refine (ref_Sine n _).mono ?_; rintro e W0 ⟨rfl, hb1⟩; have t1 := t1.mono hb1; have t3 := t3.mono hb1; have hB := bt hB hb1; clear hb1))
  refine wp_region_facts rfl 19 (by kernel_rfl) (F_ref_Turned w.heap.size a b n) ⟨fun _ _ _ _ h _ => h⟩ ?_ ?_
  · refine ⟨?_, ?_, ?_, ?_, ?_, ?_, ?_, ?_, ?_, ?_, ?_, ?_, ?_, ?_, ?_, ?_, ?_, ?_, ?_, trivial⟩
    · intro vs w' F hb hd hF hl
      have e := (hF 2).trans (look_out _ 2 _ _ (by kernel_rfl))
      exact one_field _ _ _ rfl rfl _ _ e _ (fun w => by kernel_rfl) ⟨_, rfl, Below.refl _ _, rfl⟩
    · intro vs w' F hb hd hF hl
      have e := (hF 11).trans ((look_at _ 11 0 _ _ (by kernel_rfl) (by kernel_rfl) hl).trans (dep_of (Fact := F_ref_Turned w.heap.size a b n) hd 0 (by kernel_rfl)))
      exact one_load _ _ rfl rfl _ _ e ((hb.cell t1.lt).trans t1.c0) (by kernel_rfl) ⟨_, rfl, Below.refl _ _, rfl⟩
    · intro vs w' F hb hd hF hl
      have e := (hF 5).trans (look_out _ 5 _ _ (by kernel_rfl))
      exact one_move _ rfl (by first | exact Or.inl rfl | exact Or.inr rfl) ⟨_, rfl, Below.refl _ _, e⟩
    · intro vs w' F hb hd hF hl
      refine one_call _ _ rfl rfl (enters_of Try.func44 (by kernel_rfl) rfl) #[.int .i64 a, .int .i64 (cosine n)] (eval2 ((hF 12).trans ((look_at _ 12 1 _ _ (by kernel_rfl) (by kernel_rfl) hl).trans (dep_of (Fact := F_ref_Turned w.heap.size a b n) hd 1 (by kernel_rfl)))) ((hF 13).trans ((look_at _ 13 2 _ _ (by kernel_rfl) (by kernel_rfl) hl).trans (dep_of (Fact := F_ref_Turned w.heap.size a b n) hd 2 (by kernel_rfl))))) ?_
      refine (ref_Product a (cosine n) _).mono ?_
      rintro e w2 ⟨rfl, hb2⟩
      exact ⟨_, rfl, _, rfl, hb2, rfl⟩
    · intro vs w' F hb hd hF hl
      have e := (hF 2).trans (look_out _ 2 _ _ (by kernel_rfl))
      exact one_field _ _ _ rfl rfl _ _ e _ (fun w => by kernel_rfl) ⟨_, rfl, Below.refl _ _, rfl⟩
    · intro vs w' F hb hd hF hl
      have e := (hF 15).trans ((look_at _ 15 4 _ _ (by kernel_rfl) (by kernel_rfl) hl).trans (dep_of (Fact := F_ref_Turned w.heap.size a b n) hd 4 (by kernel_rfl)))
      exact one_load _ _ rfl rfl _ _ e ((hb.cell t1.lt).trans t1.c1) (by kernel_rfl) ⟨_, rfl, Below.refl _ _, rfl⟩
    · intro vs w' F hb hd hF hl
      have e := (hF 6).trans (look_out _ 6 _ _ (by kernel_rfl))
      exact one_move _ rfl (by first | exact Or.inl rfl | exact Or.inr rfl) ⟨_, rfl, Below.refl _ _, e⟩
    · intro vs w' F hb hd hF hl
      refine one_call _ _ rfl rfl (enters_of Try.func44 (by kernel_rfl) rfl) #[.int .i64 b, .int .i64 (sine n)] (eval2 ((hF 16).trans ((look_at _ 16 5 _ _ (by kernel_rfl) (by kernel_rfl) hl).trans (dep_of (Fact := F_ref_Turned w.heap.size a b n) hd 5 (by kernel_rfl)))) ((hF 17).trans ((look_at _ 17 6 _ _ (by kernel_rfl) (by kernel_rfl) hl).trans (dep_of (Fact := F_ref_Turned w.heap.size a b n) hd 6 (by kernel_rfl))))) ?_
      refine (ref_Product b (sine n) _).mono ?_
      rintro e w2 ⟨rfl, hb2⟩
      exact ⟨_, rfl, _, rfl, hb2, rfl⟩
    · intro vs w' F hb hd hF hl
      refine one_call _ _ rfl rfl (enters_of Try.func43 (by kernel_rfl) rfl) #[.int .i64 (thr a (cosine n) 65536), .int .i64 (thr b (sine n) 65536)] (eval2 ((hF 14).trans ((look_at _ 14 3 _ _ (by kernel_rfl) (by kernel_rfl) hl).trans (dep_of (Fact := F_ref_Turned w.heap.size a b n) hd 3 (by kernel_rfl)))) ((hF 18).trans ((look_at _ 18 7 _ _ (by kernel_rfl) (by kernel_rfl) hl).trans (dep_of (Fact := F_ref_Turned w.heap.size a b n) hd 7 (by kernel_rfl))))) ?_
      refine (ref_Less (thr a (cosine n) 65536) (thr b (sine n) 65536) _).mono ?_
      rintro e w2 ⟨rfl, rfl⟩
      exact ⟨_, rfl, _, rfl, Below.refl _ _, rfl⟩
    · intro vs w' F hb hd hF hl
      have e := (hF 2).trans (look_out _ 2 _ _ (by kernel_rfl))
      exact one_field _ _ _ rfl rfl _ _ e _ (fun w => by kernel_rfl) ⟨_, rfl, Below.refl _ _, rfl⟩
    · intro vs w' F hb hd hF hl
      have e := (hF 20).trans ((look_at _ 20 9 _ _ (by kernel_rfl) (by kernel_rfl) hl).trans (dep_of (Fact := F_ref_Turned w.heap.size a b n) hd 9 (by kernel_rfl)))
      exact one_load _ _ rfl rfl _ _ e ((hb.cell t1.lt).trans t1.c0) (by kernel_rfl) ⟨_, rfl, Below.refl _ _, rfl⟩
    · intro vs w' F hb hd hF hl
      have e := (hF 6).trans (look_out _ 6 _ _ (by kernel_rfl))
      exact one_move _ rfl (by first | exact Or.inl rfl | exact Or.inr rfl) ⟨_, rfl, Below.refl _ _, e⟩
    · intro vs w' F hb hd hF hl
      refine one_call _ _ rfl rfl (enters_of Try.func44 (by kernel_rfl) rfl) #[.int .i64 a, .int .i64 (sine n)] (eval2 ((hF 21).trans ((look_at _ 21 10 _ _ (by kernel_rfl) (by kernel_rfl) hl).trans (dep_of (Fact := F_ref_Turned w.heap.size a b n) hd 10 (by kernel_rfl)))) ((hF 22).trans ((look_at _ 22 11 _ _ (by kernel_rfl) (by kernel_rfl) hl).trans (dep_of (Fact := F_ref_Turned w.heap.size a b n) hd 11 (by kernel_rfl))))) ?_
      refine (ref_Product a (sine n) _).mono ?_
      rintro e w2 ⟨rfl, hb2⟩
      exact ⟨_, rfl, _, rfl, hb2, rfl⟩
    · intro vs w' F hb hd hF hl
      have e := (hF 2).trans (look_out _ 2 _ _ (by kernel_rfl))
      exact one_field _ _ _ rfl rfl _ _ e _ (fun w => by kernel_rfl) ⟨_, rfl, Below.refl _ _, rfl⟩
    · intro vs w' F hb hd hF hl
      have e := (hF 24).trans ((look_at _ 24 13 _ _ (by kernel_rfl) (by kernel_rfl) hl).trans (dep_of (Fact := F_ref_Turned w.heap.size a b n) hd 13 (by kernel_rfl)))
      exact one_load _ _ rfl rfl _ _ e ((hb.cell t1.lt).trans t1.c1) (by kernel_rfl) ⟨_, rfl, Below.refl _ _, rfl⟩
    · intro vs w' F hb hd hF hl
      have e := (hF 5).trans (look_out _ 5 _ _ (by kernel_rfl))
      exact one_move _ rfl (by first | exact Or.inl rfl | exact Or.inr rfl) ⟨_, rfl, Below.refl _ _, e⟩
    · intro vs w' F hb hd hF hl
      refine one_call _ _ rfl rfl (enters_of Try.func44 (by kernel_rfl) rfl) #[.int .i64 b, .int .i64 (cosine n)] (eval2 ((hF 25).trans ((look_at _ 25 14 _ _ (by kernel_rfl) (by kernel_rfl) hl).trans (dep_of (Fact := F_ref_Turned w.heap.size a b n) hd 14 (by kernel_rfl)))) ((hF 26).trans ((look_at _ 26 15 _ _ (by kernel_rfl) (by kernel_rfl) hl).trans (dep_of (Fact := F_ref_Turned w.heap.size a b n) hd 15 (by kernel_rfl))))) ?_
      refine (ref_Product b (cosine n) _).mono ?_
      rintro e w2 ⟨rfl, hb2⟩
      exact ⟨_, rfl, _, rfl, hb2, rfl⟩
    · intro vs w' F hb hd hF hl
      refine one_call _ _ rfl rfl (enters_of Try.func41 (by kernel_rfl) rfl) #[.int .i64 (thr a (sine n) 65536), .int .i64 (thr b (cosine n) 65536)] (eval2 ((hF 23).trans ((look_at _ 23 12 _ _ (by kernel_rfl) (by kernel_rfl) hl).trans (dep_of (Fact := F_ref_Turned w.heap.size a b n) hd 12 (by kernel_rfl)))) ((hF 27).trans ((look_at _ 27 16 _ _ (by kernel_rfl) (by kernel_rfl) hl).trans (dep_of (Fact := F_ref_Turned w.heap.size a b n) hd 16 (by kernel_rfl))))) ?_
      refine (ref_Sum (thr a (sine n) 65536) (thr b (cosine n) 65536) _).mono ?_
      rintro e w2 ⟨rfl, rfl⟩
      exact ⟨_, rfl, _, rfl, Below.refl _ _, rfl⟩
    · intro vs w' F hb hd hF hl
      exact one_build _ _ rfl rfl #[(0, .int .i64 (lim (lim (thr a (cosine n) 65536) - lim (thr b (sine n) 65536)))), (1, .int .i64 (lim (lim (thr a (sine n) 65536) + lim (thr b (cosine n) 65536))))] (parts2 ((hF 19).trans ((look_at _ 19 8 _ _ (by kernel_rfl) (by kernel_rfl) hl).trans (dep_of (Fact := F_ref_Turned w.heap.size a b n) hd 8 (by kernel_rfl)))) ((hF 28).trans ((look_at _ 28 17 _ _ (by kernel_rfl) (by kernel_rfl) hl).trans (dep_of (Fact := F_ref_Turned w.heap.size a b n) hd 17 (by kernel_rfl))))) (.agg #[.int .i64 (lim (lim (thr a (cosine n) 65536) - lim (thr b (sine n) 65536))), .int .i64 (lim (lim (thr a (sine n) 65536) + lim (thr b (cosine n) 65536)))]) (fun w => by kernel_rfl) ⟨_, rfl, Below.refl _ _, rfl⟩
  · intro vs W1 hl hb hI
    have i0 := hI 0 (by omega)
    have i1 := hI 1 (by omega)
    have i2 := hI 2 (by omega)
    have i3 := hI 3 (by omega)
    have i4 := hI 4 (by omega)
    have i5 := hI 5 (by omega)
    have i6 := hI 6 (by omega)
    have i7 := hI 7 (by omega)
    have i8 := hI 8 (by omega)
    have i9 := hI 9 (by omega)
    have i10 := hI 10 (by omega)
    have i11 := hI 11 (by omega)
    have i12 := hI 12 (by omega)
    have i13 := hI 13 (by omega)
    have i14 := hI 14 (by omega)
    have i15 := hI 15 (by omega)
    have i16 := hI 16 (by omega)
    have i17 := hI 17 (by omega)
    have i18 := hI 18 (by omega)
    clear hI
    obtain ⟨v0, v1, v2, v3, v4, v5, v6, v7, v8, v9, v10, v11, v12, v13, v14, v15, v16, v17, v18, v19, rfl⟩ := list20 hl
    replace i0 : v0 = .pointer (some ⟨w.heap.size, 0, none⟩) := i0
    subst i0
    replace i1 : v1 = .int .i64 a := i1
    subst i1
    replace i2 : v2 = .int .i64 (cosine n) := i2
    subst i2
    replace i3 : v3 = .int .i64 (thr a (cosine n) 65536) := i3
    subst i3
    replace i4 : v4 = .pointer (some ⟨w.heap.size, 1, none⟩) := i4
    subst i4
    replace i5 : v5 = .int .i64 b := i5
    subst i5
    replace i6 : v6 = .int .i64 (sine n) := i6
    subst i6
    replace i7 : v7 = .int .i64 (thr b (sine n) 65536) := i7
    subst i7
    replace i8 : v8 = .int .i64 (lim (lim (thr a (cosine n) 65536) - lim (thr b (sine n) 65536))) := i8
    subst i8
    replace i9 : v9 = .pointer (some ⟨w.heap.size, 0, none⟩) := i9
    subst i9
    replace i10 : v10 = .int .i64 a := i10
    subst i10
    replace i11 : v11 = .int .i64 (sine n) := i11
    subst i11
    replace i12 : v12 = .int .i64 (thr a (sine n) 65536) := i12
    subst i12
    replace i13 : v13 = .pointer (some ⟨w.heap.size, 1, none⟩) := i13
    subst i13
    replace i14 : v14 = .int .i64 b := i14
    subst i14
    replace i15 : v15 = .int .i64 (cosine n) := i15
    subst i15
    replace i16 : v16 = .int .i64 (thr b (cosine n) 65536) := i16
    subst i16
    replace i17 : v17 = .int .i64 (lim (lim (thr a (sine n) 65536) + lim (thr b (cosine n) 65536))) := i17
    subst i17
    replace i18 : v18 = .agg #[.int .i64 (lim (lim (thr a (cosine n) 65536) - lim (thr b (sine n) 65536))), .int .i64 (lim (lim (thr a (sine n) 65536) + lim (thr b (cosine n) 65536)))] := i18
    subst i18
    clear hl
    have t4 := t3.mono hb
    have hB9 := hB.trans (hb.mono hB.size)
    clear t1 t3 hb hB
    generalize hFF : fillAll _ _ _ = F
    have e1 : F.eval (.tmp 4) = .pointer (some ⟨w.heap.size + 1, 0, none⟩) := by rw [← hFF]; exact (eval_fill _ 4 _ _).trans ((look_out _ 4 _ _ (by kernel_rfl)).trans rfl)
    have e2 : F.eval (.tmp 29) = .agg #[.int .i64 (lim (lim (thr a (cosine n) 65536) - lim (thr b (sine n) 65536))), .int .i64 (lim (lim (thr a (sine n) 65536) + lim (thr b (cosine n) 65536)))] := by rw [← hFF]; exact (eval_fill _ 29 _ _).trans rfl
    have e3 : F.defers = [] := by rw [← hFF]; exact fillAll_defers _ _ _
    clear hFF
    refine wpList_store_abs rfl 36 (.tmp 4) (.tmp 29) rfl (w.heap.size + 1) #[.int .i64 (lim (lim (thr a (cosine n) 65536) - lim (thr b (sine n) 65536))), .int .i64 (lim (lim (thr a (sine n) 65536) + lim (thr b (cosine n) 65536)))] e1 e2 _ _ t4 (by kernel_rfl) rfl (ones2 _ _) ?_
    intro w2 hg hb2 hs
    go_wp2_with fail
    exact bodyPost_ret (v := .agg #[.int .i64 (lim (lim (thr a (cosine n) 65536) - lim (thr b (sine n) 65536))), .int .i64 (lim (lim (thr a (sine n) 65536) + lim (thr b (cosine n) 65536)))]) (results_cell_row Try.results52 _ _ (w.heap.size + 1) _ #[.int .i64 (lim (lim (thr a (cosine n) 65536) - lim (thr b (sine n) 65536))), .int .i64 (lim (lim (thr a (sine n) 65536) + lim (thr b (cosine n) 65536)))] _ _ e1 hg Try.underlying36 rfl (by kernel_rfl)) e3 ⟨rfl, hB9.trans (hb2.mono (by omega))⟩
end Go.Proofs.Ytehpfkmaikbjkaa
