/- quat.Turn and the reference's Spun. -/
import Derived.Test.YtehpfkmaikbjkaaQuatTimes
namespace Go.Proofs.Ytehpfkmaikbjkaa
open Go.ChangeShapes Go.WideShapes Go.ChangeAt Go.RowKit Go.Mem Go.Nb
set_option linter.unusedVariables false
def spin (a b c d x y z : Int) (i : Nat) : Int := mulq (mulq a b c d 0 x y z 0) (mulq a b c d 0 x y z 1) (mulq a b c d 0 x y z 2) (mulq a b c d 0 x y z 3) (lim a) (-lim b) (-lim c) (-lim d) i
def F_quat_Turn (BB : Nat) (a b c d x y z : Int) (j : Nat) (v : Value) (w : World) : Prop := if j = 12 then NewRow BB 62 #[.int .i64 0, .int .i64 0, .int .i64 0, .int .i64 0] v w else v = ([.agg #[.int .i64 a, .int .i64 b, .int .i64 c, .int .i64 d], .pointer (some ⟨BB + 1, 0, none⟩), .int .i64 x, .pointer (some ⟨BB + 1, 1, none⟩), .int .i64 y, .pointer (some ⟨BB + 1, 2, none⟩), .int .i64 z, .agg #[.int .i64 0, .int .i64 x, .int .i64 y, .int .i64 z], .agg #[.int .i64 (mulq a b c d 0 x y z 0), .int .i64 (mulq a b c d 0 x y z 1), .int .i64 (mulq a b c d 0 x y z 2), .int .i64 (mulq a b c d 0 x y z 3)], .agg #[.int .i64 a, .int .i64 b, .int .i64 c, .int .i64 d], .agg #[.int .i64 (lim a), .int .i64 (-lim b), .int .i64 (-lim c), .int .i64 (-lim d)], .agg #[.int .i64 (mulq (mulq a b c d 0 x y z 0) (mulq a b c d 0 x y z 1) (mulq a b c d 0 x y z 2) (mulq a b c d 0 x y z 3) (lim a) (-lim b) (-lim c) (-lim d) 0), .int .i64 (mulq (mulq a b c d 0 x y z 0) (mulq a b c d 0 x y z 1) (mulq a b c d 0 x y z 2) (mulq a b c d 0 x y z 3) (lim a) (-lim b) (-lim c) (-lim d) 1), .int .i64 (mulq (mulq a b c d 0 x y z 0) (mulq a b c d 0 x y z 1) (mulq a b c d 0 x y z 2) (mulq a b c d 0 x y z 3) (lim a) (-lim b) (-lim c) (-lim d) 2), .int .i64 (mulq (mulq a b c d 0 x y z 0) (mulq a b c d 0 x y z 1) (mulq a b c d 0 x y z 2) (mulq a b c d 0 x y z 3) (lim a) (-lim b) (-lim c) (-lim d) 3)], undef] : List Value).getD j undef
theorem F_quat_Turn_mono (BB : Nat) (a b c d x y z : Int) : Facts (F_quat_Turn BB a b c d x y z) := ⟨by
  intro j v w w' h hb
  unfold F_quat_Turn at *
  repeat' split
  all_goals first | (simp_all; done) | (simp_all; first | exact NewInts.mono (by assumption) hb | exact NewRow.mono (by assumption) hb)⟩
def F_ref_Spun (BB : Nat) (a b c d x y z : Int) (j : Nat) (v : Value) (w : World) : Prop := if j = 12 then NewRow BB 62 #[.int .i64 0, .int .i64 0, .int .i64 0, .int .i64 0] v w else v = ([.agg #[.int .i64 a, .int .i64 b, .int .i64 c, .int .i64 d], .pointer (some ⟨BB + 1, 0, none⟩), .int .i64 x, .pointer (some ⟨BB + 1, 1, none⟩), .int .i64 y, .pointer (some ⟨BB + 1, 2, none⟩), .int .i64 z, .agg #[.int .i64 0, .int .i64 x, .int .i64 y, .int .i64 z], .agg #[.int .i64 (mulq a b c d 0 x y z 0), .int .i64 (mulq a b c d 0 x y z 1), .int .i64 (mulq a b c d 0 x y z 2), .int .i64 (mulq a b c d 0 x y z 3)], .agg #[.int .i64 a, .int .i64 b, .int .i64 c, .int .i64 d], .agg #[.int .i64 (lim a), .int .i64 (-lim b), .int .i64 (-lim c), .int .i64 (-lim d)], .agg #[.int .i64 (mulq (mulq a b c d 0 x y z 0) (mulq a b c d 0 x y z 1) (mulq a b c d 0 x y z 2) (mulq a b c d 0 x y z 3) (lim a) (-lim b) (-lim c) (-lim d) 0), .int .i64 (mulq (mulq a b c d 0 x y z 0) (mulq a b c d 0 x y z 1) (mulq a b c d 0 x y z 2) (mulq a b c d 0 x y z 3) (lim a) (-lim b) (-lim c) (-lim d) 1), .int .i64 (mulq (mulq a b c d 0 x y z 0) (mulq a b c d 0 x y z 1) (mulq a b c d 0 x y z 2) (mulq a b c d 0 x y z 3) (lim a) (-lim b) (-lim c) (-lim d) 2), .int .i64 (mulq (mulq a b c d 0 x y z 0) (mulq a b c d 0 x y z 1) (mulq a b c d 0 x y z 2) (mulq a b c d 0 x y z 3) (lim a) (-lim b) (-lim c) (-lim d) 3)], undef] : List Value).getD j undef
theorem F_ref_Spun_mono (BB : Nat) (a b c d x y z : Int) : Facts (F_ref_Spun BB a b c d x y z) := ⟨by
  intro j v w w' h hb
  unfold F_ref_Spun at *
  repeat' split
  all_goals first | (simp_all; done) | (simp_all; first | exact NewInts.mono (by assumption) hb | exact NewRow.mono (by assumption) hb)⟩
theorem list14 {vs : List Value} (h : vs.length = 14) : ∃ a0 a1 a2 a3 a4 a5 a6 a7 a8 a9 a10 a11 a12 a13, vs = [a0, a1, a2, a3, a4, a5, a6, a7, a8, a9, a10, a11, a12, a13] := by
  match vs, h with
  | [a0, a1, a2, a3, a4, a5, a6, a7, a8, a9, a10, a11, a12, a13], _ => exact ⟨a0, a1, a2, a3, a4, a5, a6, a7, a8, a9, a10, a11, a12, a13, rfl⟩
set_option maxHeartbeats 8000000 in
set_option maxRecDepth 100000 in
theorem quat_Turn (a b c d x y z : Int) (w : World) : Calls Try.prog 63 #[.agg #[.int .i64 a, .int .i64 b, .int .i64 c, .int .i64 d], .agg #[.int .i64 x, .int .i64 y, .int .i64 z]] w fun e w' => e = .returned (.agg #[.int .i64 (spin a b c d x y z 1), .int .i64 (spin a b c d x y z 2), .int .i64 (spin a b c d x y z 3)]) ∧ Below w.heap.size w w' := by
  go_enter Try.func63, Try.ntmps63
  go_wp2_with fail
  obtain ⟨W0, hW0⟩ : ∃ W0, W0 = ((w.alloc (.cells #[.int .i64 a, .int .i64 b, .int .i64 c, .int .i64 d] 62)).alloc (.cells #[.int .i64 x, .int .i64 y, .int .i64 z] 69)).alloc (.cells #[.int .i64 0, .int .i64 0, .int .i64 0] 69) := ⟨_, rfl⟩
  have t1 : Four 62 W0 w.heap.size a b c d := by rw [hW0]; exact ((four_new _ _ _ _ _ _).alloc _).alloc _
  have r2 : W0.heap[w.heap.size + 1]? = some (.cells #[.int .i64 x, .int .i64 y, .int .i64 z] 69 (0, 0)) := by
    have := heap_alloc_new (w.alloc (.cells #[.int .i64 a, .int .i64 b, .int .i64 c, .int .i64 d] 62)) (.cells #[.int .i64 x, .int .i64 y, .int .i64 z] 69)
    rw [World.size_alloc] at this
    rw [hW0]; exact heap_below this ((Below.refl _ _).alloc (Nat.le_refl _) _)
  have r3 : W0.heap[w.heap.size + 1 + 1]? = some (.cells #[.int .i64 0, .int .i64 0, .int .i64 0] 69 (0, 0)) := by
    have := heap_alloc_new ((w.alloc (.cells #[.int .i64 a, .int .i64 b, .int .i64 c, .int .i64 d] 62)).alloc (.cells #[.int .i64 x, .int .i64 y, .int .i64 z] 69)) (.cells #[.int .i64 0, .int .i64 0, .int .i64 0] 69)
    rw [World.size_alloc, World.size_alloc] at this
    rw [hW0]; exact this
  have hB : Below w.heap.size w W0 := by rw [hW0]; exact (((Below.refl _ _).alloc (Nat.le_refl _) _).alloc (by simp) _).alloc (by simp; omega) _
  rw [← hW0]
  clear hW0
  have hz0 := hB.size
  have e0 : W0.cell? ⟨w.heap.size + 1, 0, none⟩ = some (.int .i64 x) := by rw [cell_of_row W0 _ 0 _ _ _ r2]; rfl
  have e1 : W0.cell? ⟨w.heap.size + 1, 1, none⟩ = some (.int .i64 y) := by rw [cell_of_row W0 _ 1 _ _ _ r2]; rfl
  have e2 : W0.cell? ⟨w.heap.size + 1, 2, none⟩ = some (.int .i64 z) := by rw [cell_of_row W0 _ 2 _ _ _ r2]; rfl
  have l3 := lt_of_heap r3
  refine wp_region_facts rfl 13 (by kernel_rfl) (F_quat_Turn w.heap.size a b c d x y z) (F_quat_Turn_mono w.heap.size a b c d x y z) ?_ ?_
  · refine ⟨?_, ?_, ?_, ?_, ?_, ?_, ?_, ?_, ?_, ?_, ?_, ?_, ?_, trivial⟩
    · intro vs w' F hb hd hF hl
      have e := (hF 2).trans (look_out _ 2 _ _ (by kernel_rfl))
      exact one_load_row 62 _ rfl rfl (w.heap.size) #[.int .i64 a, .int .i64 b, .int .i64 c, .int .i64 d] 62 (0, 0) e ((t1.mono hb)) _ Try.underlying62 rfl (by kernel_rfl) ⟨_, rfl, Below.refl _ _, rfl⟩
    · intro vs w' F hb hd hF hl
      have ex := (hF 3).trans (look_out _ 3 _ _ (by kernel_rfl))
      exact one_index 69 _ _ rfl rfl (.pointer (some ⟨w.heap.size + 1, 0, none⟩)) (.int .i64 0) (.pointer (some ⟨w.heap.size + 1, 0, none⟩)) ex rfl (fun w => by clear hb hd hF hl ex; go_simp) ⟨_, rfl, Below.refl _ _, rfl⟩
    · intro vs w' F hb hd hF hl
      have e := (hF 7).trans ((look_at _ 7 1 _ _ (by kernel_rfl) (by kernel_rfl) hl).trans (dep_of (Fact := F_quat_Turn w.heap.size a b c d x y z) hd 1 (by kernel_rfl)))
      exact one_load _ _ rfl rfl _ _ e (keepc hb e0) (by kernel_rfl) ⟨_, rfl, Below.refl _ _, rfl⟩
    · intro vs w' F hb hd hF hl
      have ex := (hF 3).trans (look_out _ 3 _ _ (by kernel_rfl))
      exact one_index 69 _ _ rfl rfl (.pointer (some ⟨w.heap.size + 1, 0, none⟩)) (.int .i64 1) (.pointer (some ⟨w.heap.size + 1, 1, none⟩)) ex rfl (fun w => by clear hb hd hF hl ex; go_simp) ⟨_, rfl, Below.refl _ _, rfl⟩
    · intro vs w' F hb hd hF hl
      have e := (hF 9).trans ((look_at _ 9 3 _ _ (by kernel_rfl) (by kernel_rfl) hl).trans (dep_of (Fact := F_quat_Turn w.heap.size a b c d x y z) hd 3 (by kernel_rfl)))
      exact one_load _ _ rfl rfl _ _ e (keepc hb e1) (by kernel_rfl) ⟨_, rfl, Below.refl _ _, rfl⟩
    · intro vs w' F hb hd hF hl
      have ex := (hF 3).trans (look_out _ 3 _ _ (by kernel_rfl))
      exact one_index 69 _ _ rfl rfl (.pointer (some ⟨w.heap.size + 1, 0, none⟩)) (.int .i64 2) (.pointer (some ⟨w.heap.size + 1, 2, none⟩)) ex rfl (fun w => by clear hb hd hF hl ex; go_simp) ⟨_, rfl, Below.refl _ _, rfl⟩
    · intro vs w' F hb hd hF hl
      have e := (hF 11).trans ((look_at _ 11 5 _ _ (by kernel_rfl) (by kernel_rfl) hl).trans (dep_of (Fact := F_quat_Turn w.heap.size a b c d x y z) hd 5 (by kernel_rfl)))
      exact one_load _ _ rfl rfl _ _ e (keepc hb e2) (by kernel_rfl) ⟨_, rfl, Below.refl _ _, rfl⟩
    · intro vs w' F hb hd hF hl
      exact one_build _ _ rfl rfl #[(1, .int .i64 x), (2, .int .i64 y), (3, .int .i64 z)] (parts3 ((hF 8).trans ((look_at _ 8 2 _ _ (by kernel_rfl) (by kernel_rfl) hl).trans (dep_of (Fact := F_quat_Turn w.heap.size a b c d x y z) hd 2 (by kernel_rfl)))) ((hF 10).trans ((look_at _ 10 4 _ _ (by kernel_rfl) (by kernel_rfl) hl).trans (dep_of (Fact := F_quat_Turn w.heap.size a b c d x y z) hd 4 (by kernel_rfl)))) ((hF 12).trans ((look_at _ 12 6 _ _ (by kernel_rfl) (by kernel_rfl) hl).trans (dep_of (Fact := F_quat_Turn w.heap.size a b c d x y z) hd 6 (by kernel_rfl))))) (.agg #[.int .i64 0, .int .i64 x, .int .i64 y, .int .i64 z]) (fun w => by kernel_rfl) ⟨_, rfl, Below.refl _ _, rfl⟩
    · intro vs w' F hb hd hF hl
      refine one_call _ _ rfl rfl (enters_of Try.func53 (by kernel_rfl) rfl) #[.agg #[.int .i64 a, .int .i64 b, .int .i64 c, .int .i64 d], .agg #[.int .i64 0, .int .i64 x, .int .i64 y, .int .i64 z]] (eval2 ((hF 6).trans ((look_at _ 6 0 _ _ (by kernel_rfl) (by kernel_rfl) hl).trans (dep_of (Fact := F_quat_Turn w.heap.size a b c d x y z) hd 0 (by kernel_rfl)))) ((hF 13).trans ((look_at _ 13 7 _ _ (by kernel_rfl) (by kernel_rfl) hl).trans (dep_of (Fact := F_quat_Turn w.heap.size a b c d x y z) hd 7 (by kernel_rfl))))) ?_
      refine (quat_Mul a b c d 0 x y z _).mono ?_
      rintro e w2 ⟨rfl, hb2⟩
      exact ⟨_, rfl, _, rfl, hb2, rfl⟩
    · intro vs w' F hb hd hF hl
      have e := (hF 2).trans (look_out _ 2 _ _ (by kernel_rfl))
      exact one_load_row 62 _ rfl rfl (w.heap.size) #[.int .i64 a, .int .i64 b, .int .i64 c, .int .i64 d] 62 (0, 0) e ((t1.mono hb)) _ Try.underlying62 rfl (by kernel_rfl) ⟨_, rfl, Below.refl _ _, rfl⟩
    · intro vs w' F hb hd hF hl
      refine one_call _ _ rfl rfl (enters_of Try.func55 (by kernel_rfl) rfl) #[.agg #[.int .i64 a, .int .i64 b, .int .i64 c, .int .i64 d]] (eval1 ((hF 15).trans ((look_at _ 15 9 _ _ (by kernel_rfl) (by kernel_rfl) hl).trans (dep_of (Fact := F_quat_Turn w.heap.size a b c d x y z) hd 9 (by kernel_rfl))))) ?_
      refine (quat_Back a b c d _).mono ?_
      rintro e w2 ⟨rfl, hb2⟩
      exact ⟨_, rfl, _, rfl, hb2, rfl⟩
    · intro vs w' F hb hd hF hl
      refine one_call _ _ rfl rfl (enters_of Try.func53 (by kernel_rfl) rfl) #[.agg #[.int .i64 (mulq a b c d 0 x y z 0), .int .i64 (mulq a b c d 0 x y z 1), .int .i64 (mulq a b c d 0 x y z 2), .int .i64 (mulq a b c d 0 x y z 3)], .agg #[.int .i64 (lim a), .int .i64 (-lim b), .int .i64 (-lim c), .int .i64 (-lim d)]] (eval2 ((hF 14).trans ((look_at _ 14 8 _ _ (by kernel_rfl) (by kernel_rfl) hl).trans (dep_of (Fact := F_quat_Turn w.heap.size a b c d x y z) hd 8 (by kernel_rfl)))) ((hF 16).trans ((look_at _ 16 10 _ _ (by kernel_rfl) (by kernel_rfl) hl).trans (dep_of (Fact := F_quat_Turn w.heap.size a b c d x y z) hd 10 (by kernel_rfl))))) ?_
      refine (quat_Mul (mulq a b c d 0 x y z 0) (mulq a b c d 0 x y z 1) (mulq a b c d 0 x y z 2) (mulq a b c d 0 x y z 3) (lim a) (-lim b) (-lim c) (-lim d) _).mono ?_
      rintro e w2 ⟨rfl, hb2⟩
      exact ⟨_, rfl, _, rfl, hb2, rfl⟩
    · intro vs w' F hb hd hF hl
      exact one_alloc_agg _ rfl rfl (.agg #[.int .i64 0, .int .i64 0, .int .i64 0, .int .i64 0]) _ (by kernel_rfl) rfl ⟨_, rfl, (Below.refl _ _).alloc (Nat.le_refl _) _, ⟨_, rfl, (by have := hb.size; omega), by simp, heap_alloc_new _ _⟩⟩
  · intro vs W1 hl hb hI
    have i11 := hI 11 (by omega)
    obtain ⟨X, hX, x1, x2, x3⟩ : NewRow w.heap.size 62 #[.int .i64 0, .int .i64 0, .int .i64 0, .int .i64 0] (vs.getD 12 undef) W1 := hI 12 (by omega)
    obtain ⟨v0, v1, v2, v3, v4, v5, v6, v7, v8, v9, v10, v11, v12, v13, rfl⟩ := list14 hl
    replace i11 : v11 = .agg #[.int .i64 (mulq (mulq a b c d 0 x y z 0) (mulq a b c d 0 x y z 1) (mulq a b c d 0 x y z 2) (mulq a b c d 0 x y z 3) (lim a) (-lim b) (-lim c) (-lim d) 0), .int .i64 (mulq (mulq a b c d 0 x y z 0) (mulq a b c d 0 x y z 1) (mulq a b c d 0 x y z 2) (mulq a b c d 0 x y z 3) (lim a) (-lim b) (-lim c) (-lim d) 1), .int .i64 (mulq (mulq a b c d 0 x y z 0) (mulq a b c d 0 x y z 1) (mulq a b c d 0 x y z 2) (mulq a b c d 0 x y z 3) (lim a) (-lim b) (-lim c) (-lim d) 2), .int .i64 (mulq (mulq a b c d 0 x y z 0) (mulq a b c d 0 x y z 1) (mulq a b c d 0 x y z 2) (mulq a b c d 0 x y z 3) (lim a) (-lim b) (-lim c) (-lim d) 3)] := i11
    replace hX : v12 = .pointer (some ⟨X, 0, none⟩) := hX
    subst i11 hX
    have r4 := heap_below r3 hb
    have hB1 := hB.trans (hb.mono hB.size)
    have hXn : w.heap.size + 1 + 1 ≠ X := fun e => by rw [← e, r4] at x3; injection x3 with x3; injection x3 with _ x3; exact absurd x3 (by decide)
    clear hI hl hb t1 r2 r3 hB e0 e1 e2 l3
    obtain ⟨m0, h0⟩ : ∃ m, m = (mulq (mulq a b c d 0 x y z 0) (mulq a b c d 0 x y z 1) (mulq a b c d 0 x y z 2) (mulq a b c d 0 x y z 3) (lim a) (-lim b) (-lim c) (-lim d) 0) := ⟨_, rfl⟩
    obtain ⟨m1, h1⟩ : ∃ m, m = (mulq (mulq a b c d 0 x y z 0) (mulq a b c d 0 x y z 1) (mulq a b c d 0 x y z 2) (mulq a b c d 0 x y z 3) (lim a) (-lim b) (-lim c) (-lim d) 1) := ⟨_, rfl⟩
    obtain ⟨m2, h2⟩ : ∃ m, m = (mulq (mulq a b c d 0 x y z 0) (mulq a b c d 0 x y z 1) (mulq a b c d 0 x y z 2) (mulq a b c d 0 x y z 3) (lim a) (-lim b) (-lim c) (-lim d) 2) := ⟨_, rfl⟩
    obtain ⟨m3, h3⟩ : ∃ m, m = (mulq (mulq a b c d 0 x y z 0) (mulq a b c d 0 x y z 1) (mulq a b c d 0 x y z 2) (mulq a b c d 0 x y z 3) (lim a) (-lim b) (-lim c) (-lim d) 3) := ⟨_, rfl⟩
    rw [← h0, ← h1, ← h2, ← h3]
    generalize hFF : fillAll _ _ _ = F
    have q1 : F.eval (.tmp 5) = .pointer (some ⟨X, 0, none⟩) := by rw [← hFF]; exact (eval_fill _ 5 _ _).trans rfl
    have q2 : F.eval (.tmp 17) = .agg #[.int .i64 m0, .int .i64 m1, .int .i64 m2, .int .i64 m3] := by rw [← hFF]; exact (eval_fill _ 17 _ _).trans rfl
    refine wpList_store_put rfl 62 (.tmp 5) (.tmp 17) rfl X #[.int .i64 m0, .int .i64 m1, .int .i64 m2, .int .i64 m3] q1 q2 _ _ x3 (by kernel_rfl) rfl (ones4 _ _ _ _) ?_
    intro W2 g1 p1 z1 o1
    have r5 := (o1 _ hXn).trans r4
    have hB2 := hB1.trans (p1.mono (by omega))
    have f5 : Four 62 W2 X m0 m1 m2 m3 := g1
    have s0 := f5.c0
    have s1 := f5.c1
    have s2 := f5.c2
    have s3 := f5.c3
    have b0 : W2.cell? ⟨w.heap.size + 1 + 1, 0, none⟩ = some (.int .i64 0) := by rw [cell_of_row W2 _ 0 _ _ _ r5]; rfl
    have b1 : W2.cell? ⟨w.heap.size + 1 + 1, 1, none⟩ = some (.int .i64 0) := by rw [cell_of_row W2 _ 1 _ _ _ r5]; rfl
    have b2 : W2.cell? ⟨w.heap.size + 1 + 1, 2, none⟩ = some (.int .i64 0) := by rw [cell_of_row W2 _ 2 _ _ _ r5]; rfl
    have c0 := Mem.frozen_of_row r5 0
    have c1 := Mem.frozen_of_row r5 1
    have c2 := Mem.frozen_of_row r5 2
    have R5 := Lib.hid r5
    have H1 := Lib.hid (show m1 = spin a b c d x y z 1 from h1)
    have H2 := Lib.hid (show m2 = spin a b c d x y z 2 from h2)
    have H3 := Lib.hid (show m3 = spin a b c d x y z 3 from h3)
    clear r4 r5 hB1 x3 q1 q2 g1 p1 z1 o1 f5 h0 h1 h2 h3
    have hge : w.heap.size ≤ w.heap.size + 1 + 1 := by omega
    subst hFF
    simp only [fillAll, Act.put, List.setIfInBounds_toArray, List.set_cons_succ, List.set_cons_zero]
    go_wp2
    exact bodyPost_ret (v := .agg #[.int .i64 m1, .int .i64 m2, .int .i64 m3]) (results_cell_row Try.results63 _ _ (w.heap.size + 1 + 1) _ #[.int .i64 m1, .int .i64 m2, .int .i64 m3] _ _ rfl (heap_set (heap_set (heap_set R5.out 0 _) 1 _) 2 _) Try.underlying69 rfl (by kernel_rfl)) rfl ⟨by rw [H1.out, H2.out, H3.out], ((hB2.setCell hge _).setCell hge _).setCell hge _⟩
set_option maxHeartbeats 8000000 in
set_option maxRecDepth 100000 in
theorem ref_Spun (a b c d x y z : Int) (w : World) : Calls Try.prog 64 #[.agg #[.int .i64 a, .int .i64 b, .int .i64 c, .int .i64 d], .agg #[.int .i64 x, .int .i64 y, .int .i64 z]] w fun e w' => e = .returned (.agg #[.int .i64 (spin a b c d x y z 1), .int .i64 (spin a b c d x y z 2), .int .i64 (spin a b c d x y z 3)]) ∧ Below w.heap.size w w' := by
  go_enter Try.func64, Try.ntmps64
  go_wp2_with fail
  obtain ⟨W0, hW0⟩ : ∃ W0, W0 = ((w.alloc (.cells #[.int .i64 a, .int .i64 b, .int .i64 c, .int .i64 d] 62)).alloc (.cells #[.int .i64 x, .int .i64 y, .int .i64 z] 67)).alloc (.cells #[.int .i64 0, .int .i64 0, .int .i64 0] 67) := ⟨_, rfl⟩
  have t1 : Four 62 W0 w.heap.size a b c d := by rw [hW0]; exact ((four_new _ _ _ _ _ _).alloc _).alloc _
  have r2 : W0.heap[w.heap.size + 1]? = some (.cells #[.int .i64 x, .int .i64 y, .int .i64 z] 67 (0, 0)) := by
    have := heap_alloc_new (w.alloc (.cells #[.int .i64 a, .int .i64 b, .int .i64 c, .int .i64 d] 62)) (.cells #[.int .i64 x, .int .i64 y, .int .i64 z] 67)
    rw [World.size_alloc] at this
    rw [hW0]; exact heap_below this ((Below.refl _ _).alloc (Nat.le_refl _) _)
  have r3 : W0.heap[w.heap.size + 1 + 1]? = some (.cells #[.int .i64 0, .int .i64 0, .int .i64 0] 67 (0, 0)) := by
    have := heap_alloc_new ((w.alloc (.cells #[.int .i64 a, .int .i64 b, .int .i64 c, .int .i64 d] 62)).alloc (.cells #[.int .i64 x, .int .i64 y, .int .i64 z] 67)) (.cells #[.int .i64 0, .int .i64 0, .int .i64 0] 67)
    rw [World.size_alloc, World.size_alloc] at this
    rw [hW0]; exact this
  have hB : Below w.heap.size w W0 := by rw [hW0]; exact (((Below.refl _ _).alloc (Nat.le_refl _) _).alloc (by simp) _).alloc (by simp; omega) _
  rw [← hW0]
  clear hW0
  have hz0 := hB.size
  have e0 : W0.cell? ⟨w.heap.size + 1, 0, none⟩ = some (.int .i64 x) := by rw [cell_of_row W0 _ 0 _ _ _ r2]; rfl
  have e1 : W0.cell? ⟨w.heap.size + 1, 1, none⟩ = some (.int .i64 y) := by rw [cell_of_row W0 _ 1 _ _ _ r2]; rfl
  have e2 : W0.cell? ⟨w.heap.size + 1, 2, none⟩ = some (.int .i64 z) := by rw [cell_of_row W0 _ 2 _ _ _ r2]; rfl
  have l3 := lt_of_heap r3
  refine wp_region_facts rfl 13 (by kernel_rfl) (F_ref_Spun w.heap.size a b c d x y z) (F_ref_Spun_mono w.heap.size a b c d x y z) ?_ ?_
  · refine ⟨?_, ?_, ?_, ?_, ?_, ?_, ?_, ?_, ?_, ?_, ?_, ?_, ?_, trivial⟩
    · intro vs w' F hb hd hF hl
      have e := (hF 2).trans (look_out _ 2 _ _ (by kernel_rfl))
      exact one_load_row 62 _ rfl rfl (w.heap.size) #[.int .i64 a, .int .i64 b, .int .i64 c, .int .i64 d] 62 (0, 0) e ((t1.mono hb)) _ Try.underlying62 rfl (by kernel_rfl) ⟨_, rfl, Below.refl _ _, rfl⟩
    · intro vs w' F hb hd hF hl
      have ex := (hF 3).trans (look_out _ 3 _ _ (by kernel_rfl))
      exact one_index 67 _ _ rfl rfl (.pointer (some ⟨w.heap.size + 1, 0, none⟩)) (.int .i64 0) (.pointer (some ⟨w.heap.size + 1, 0, none⟩)) ex rfl (fun w => by clear hb hd hF hl ex; go_simp) ⟨_, rfl, Below.refl _ _, rfl⟩
    · intro vs w' F hb hd hF hl
      have e := (hF 7).trans ((look_at _ 7 1 _ _ (by kernel_rfl) (by kernel_rfl) hl).trans (dep_of (Fact := F_ref_Spun w.heap.size a b c d x y z) hd 1 (by kernel_rfl)))
      exact one_load _ _ rfl rfl _ _ e (keepc hb e0) (by kernel_rfl) ⟨_, rfl, Below.refl _ _, rfl⟩
    · intro vs w' F hb hd hF hl
      have ex := (hF 3).trans (look_out _ 3 _ _ (by kernel_rfl))
      exact one_index 67 _ _ rfl rfl (.pointer (some ⟨w.heap.size + 1, 0, none⟩)) (.int .i64 1) (.pointer (some ⟨w.heap.size + 1, 1, none⟩)) ex rfl (fun w => by clear hb hd hF hl ex; go_simp) ⟨_, rfl, Below.refl _ _, rfl⟩
    · intro vs w' F hb hd hF hl
      have e := (hF 9).trans ((look_at _ 9 3 _ _ (by kernel_rfl) (by kernel_rfl) hl).trans (dep_of (Fact := F_ref_Spun w.heap.size a b c d x y z) hd 3 (by kernel_rfl)))
      exact one_load _ _ rfl rfl _ _ e (keepc hb e1) (by kernel_rfl) ⟨_, rfl, Below.refl _ _, rfl⟩
    · intro vs w' F hb hd hF hl
      have ex := (hF 3).trans (look_out _ 3 _ _ (by kernel_rfl))
      exact one_index 67 _ _ rfl rfl (.pointer (some ⟨w.heap.size + 1, 0, none⟩)) (.int .i64 2) (.pointer (some ⟨w.heap.size + 1, 2, none⟩)) ex rfl (fun w => by clear hb hd hF hl ex; go_simp) ⟨_, rfl, Below.refl _ _, rfl⟩
    · intro vs w' F hb hd hF hl
      have e := (hF 11).trans ((look_at _ 11 5 _ _ (by kernel_rfl) (by kernel_rfl) hl).trans (dep_of (Fact := F_ref_Spun w.heap.size a b c d x y z) hd 5 (by kernel_rfl)))
      exact one_load _ _ rfl rfl _ _ e (keepc hb e2) (by kernel_rfl) ⟨_, rfl, Below.refl _ _, rfl⟩
    · intro vs w' F hb hd hF hl
      exact one_build _ _ rfl rfl #[(1, .int .i64 x), (2, .int .i64 y), (3, .int .i64 z)] (parts3 ((hF 8).trans ((look_at _ 8 2 _ _ (by kernel_rfl) (by kernel_rfl) hl).trans (dep_of (Fact := F_ref_Spun w.heap.size a b c d x y z) hd 2 (by kernel_rfl)))) ((hF 10).trans ((look_at _ 10 4 _ _ (by kernel_rfl) (by kernel_rfl) hl).trans (dep_of (Fact := F_ref_Spun w.heap.size a b c d x y z) hd 4 (by kernel_rfl)))) ((hF 12).trans ((look_at _ 12 6 _ _ (by kernel_rfl) (by kernel_rfl) hl).trans (dep_of (Fact := F_ref_Spun w.heap.size a b c d x y z) hd 6 (by kernel_rfl))))) (.agg #[.int .i64 0, .int .i64 x, .int .i64 y, .int .i64 z]) (fun w => by kernel_rfl) ⟨_, rfl, Below.refl _ _, rfl⟩
    · intro vs w' F hb hd hF hl
      refine one_call _ _ rfl rfl (enters_of Try.func54 (by kernel_rfl) rfl) #[.agg #[.int .i64 a, .int .i64 b, .int .i64 c, .int .i64 d], .agg #[.int .i64 0, .int .i64 x, .int .i64 y, .int .i64 z]] (eval2 ((hF 6).trans ((look_at _ 6 0 _ _ (by kernel_rfl) (by kernel_rfl) hl).trans (dep_of (Fact := F_ref_Spun w.heap.size a b c d x y z) hd 0 (by kernel_rfl)))) ((hF 13).trans ((look_at _ 13 7 _ _ (by kernel_rfl) (by kernel_rfl) hl).trans (dep_of (Fact := F_ref_Spun w.heap.size a b c d x y z) hd 7 (by kernel_rfl))))) ?_
      refine (ref_Times a b c d 0 x y z _).mono ?_
      rintro e w2 ⟨rfl, hb2⟩
      exact ⟨_, rfl, _, rfl, hb2, rfl⟩
    · intro vs w' F hb hd hF hl
      have e := (hF 2).trans (look_out _ 2 _ _ (by kernel_rfl))
      exact one_load_row 62 _ rfl rfl (w.heap.size) #[.int .i64 a, .int .i64 b, .int .i64 c, .int .i64 d] 62 (0, 0) e ((t1.mono hb)) _ Try.underlying62 rfl (by kernel_rfl) ⟨_, rfl, Below.refl _ _, rfl⟩
    · intro vs w' F hb hd hF hl
      refine one_call _ _ rfl rfl (enters_of Try.func56 (by kernel_rfl) rfl) #[.agg #[.int .i64 a, .int .i64 b, .int .i64 c, .int .i64 d]] (eval1 ((hF 15).trans ((look_at _ 15 9 _ _ (by kernel_rfl) (by kernel_rfl) hl).trans (dep_of (Fact := F_ref_Spun w.heap.size a b c d x y z) hd 9 (by kernel_rfl))))) ?_
      refine (ref_Turnless a b c d _).mono ?_
      rintro e w2 ⟨rfl, hb2⟩
      exact ⟨_, rfl, _, rfl, hb2, rfl⟩
    · intro vs w' F hb hd hF hl
      refine one_call _ _ rfl rfl (enters_of Try.func54 (by kernel_rfl) rfl) #[.agg #[.int .i64 (mulq a b c d 0 x y z 0), .int .i64 (mulq a b c d 0 x y z 1), .int .i64 (mulq a b c d 0 x y z 2), .int .i64 (mulq a b c d 0 x y z 3)], .agg #[.int .i64 (lim a), .int .i64 (-lim b), .int .i64 (-lim c), .int .i64 (-lim d)]] (eval2 ((hF 14).trans ((look_at _ 14 8 _ _ (by kernel_rfl) (by kernel_rfl) hl).trans (dep_of (Fact := F_ref_Spun w.heap.size a b c d x y z) hd 8 (by kernel_rfl)))) ((hF 16).trans ((look_at _ 16 10 _ _ (by kernel_rfl) (by kernel_rfl) hl).trans (dep_of (Fact := F_ref_Spun w.heap.size a b c d x y z) hd 10 (by kernel_rfl))))) ?_
      refine (ref_Times (mulq a b c d 0 x y z 0) (mulq a b c d 0 x y z 1) (mulq a b c d 0 x y z 2) (mulq a b c d 0 x y z 3) (lim a) (-lim b) (-lim c) (-lim d) _).mono ?_
      rintro e w2 ⟨rfl, hb2⟩
      exact ⟨_, rfl, _, rfl, hb2, rfl⟩
    · intro vs w' F hb hd hF hl
      exact one_alloc_agg _ rfl rfl (.agg #[.int .i64 0, .int .i64 0, .int .i64 0, .int .i64 0]) _ (by kernel_rfl) rfl ⟨_, rfl, (Below.refl _ _).alloc (Nat.le_refl _) _, ⟨_, rfl, (by have := hb.size; omega), by simp, heap_alloc_new _ _⟩⟩
  · intro vs W1 hl hb hI
    have i11 := hI 11 (by omega)
    obtain ⟨X, hX, x1, x2, x3⟩ : NewRow w.heap.size 62 #[.int .i64 0, .int .i64 0, .int .i64 0, .int .i64 0] (vs.getD 12 undef) W1 := hI 12 (by omega)
    obtain ⟨v0, v1, v2, v3, v4, v5, v6, v7, v8, v9, v10, v11, v12, v13, rfl⟩ := list14 hl
    replace i11 : v11 = .agg #[.int .i64 (mulq (mulq a b c d 0 x y z 0) (mulq a b c d 0 x y z 1) (mulq a b c d 0 x y z 2) (mulq a b c d 0 x y z 3) (lim a) (-lim b) (-lim c) (-lim d) 0), .int .i64 (mulq (mulq a b c d 0 x y z 0) (mulq a b c d 0 x y z 1) (mulq a b c d 0 x y z 2) (mulq a b c d 0 x y z 3) (lim a) (-lim b) (-lim c) (-lim d) 1), .int .i64 (mulq (mulq a b c d 0 x y z 0) (mulq a b c d 0 x y z 1) (mulq a b c d 0 x y z 2) (mulq a b c d 0 x y z 3) (lim a) (-lim b) (-lim c) (-lim d) 2), .int .i64 (mulq (mulq a b c d 0 x y z 0) (mulq a b c d 0 x y z 1) (mulq a b c d 0 x y z 2) (mulq a b c d 0 x y z 3) (lim a) (-lim b) (-lim c) (-lim d) 3)] := i11
    replace hX : v12 = .pointer (some ⟨X, 0, none⟩) := hX
    subst i11 hX
    have r4 := heap_below r3 hb
    have hB1 := hB.trans (hb.mono hB.size)
    have hXn : w.heap.size + 1 + 1 ≠ X := fun e => by rw [← e, r4] at x3; injection x3 with x3; injection x3 with _ x3; exact absurd x3 (by decide)
    clear hI hl hb t1 r2 r3 hB e0 e1 e2 l3
    obtain ⟨m0, h0⟩ : ∃ m, m = (mulq (mulq a b c d 0 x y z 0) (mulq a b c d 0 x y z 1) (mulq a b c d 0 x y z 2) (mulq a b c d 0 x y z 3) (lim a) (-lim b) (-lim c) (-lim d) 0) := ⟨_, rfl⟩
    obtain ⟨m1, h1⟩ : ∃ m, m = (mulq (mulq a b c d 0 x y z 0) (mulq a b c d 0 x y z 1) (mulq a b c d 0 x y z 2) (mulq a b c d 0 x y z 3) (lim a) (-lim b) (-lim c) (-lim d) 1) := ⟨_, rfl⟩
    obtain ⟨m2, h2⟩ : ∃ m, m = (mulq (mulq a b c d 0 x y z 0) (mulq a b c d 0 x y z 1) (mulq a b c d 0 x y z 2) (mulq a b c d 0 x y z 3) (lim a) (-lim b) (-lim c) (-lim d) 2) := ⟨_, rfl⟩
    obtain ⟨m3, h3⟩ : ∃ m, m = (mulq (mulq a b c d 0 x y z 0) (mulq a b c d 0 x y z 1) (mulq a b c d 0 x y z 2) (mulq a b c d 0 x y z 3) (lim a) (-lim b) (-lim c) (-lim d) 3) := ⟨_, rfl⟩
    rw [← h0, ← h1, ← h2, ← h3]
    generalize hFF : fillAll _ _ _ = F
    have q1 : F.eval (.tmp 5) = .pointer (some ⟨X, 0, none⟩) := by rw [← hFF]; exact (eval_fill _ 5 _ _).trans rfl
    have q2 : F.eval (.tmp 17) = .agg #[.int .i64 m0, .int .i64 m1, .int .i64 m2, .int .i64 m3] := by rw [← hFF]; exact (eval_fill _ 17 _ _).trans rfl
    refine wpList_store_put rfl 62 (.tmp 5) (.tmp 17) rfl X #[.int .i64 m0, .int .i64 m1, .int .i64 m2, .int .i64 m3] q1 q2 _ _ x3 (by kernel_rfl) rfl (ones4 _ _ _ _) ?_
    intro W2 g1 p1 z1 o1
    have r5 := (o1 _ hXn).trans r4
    have hB2 := hB1.trans (p1.mono (by omega))
    have f5 : Four 62 W2 X m0 m1 m2 m3 := g1
    have s0 := f5.c0
    have s1 := f5.c1
    have s2 := f5.c2
    have s3 := f5.c3
    have b0 : W2.cell? ⟨w.heap.size + 1 + 1, 0, none⟩ = some (.int .i64 0) := by rw [cell_of_row W2 _ 0 _ _ _ r5]; rfl
    have b1 : W2.cell? ⟨w.heap.size + 1 + 1, 1, none⟩ = some (.int .i64 0) := by rw [cell_of_row W2 _ 1 _ _ _ r5]; rfl
    have b2 : W2.cell? ⟨w.heap.size + 1 + 1, 2, none⟩ = some (.int .i64 0) := by rw [cell_of_row W2 _ 2 _ _ _ r5]; rfl
    have c0 := Mem.frozen_of_row r5 0
    have c1 := Mem.frozen_of_row r5 1
    have c2 := Mem.frozen_of_row r5 2
    have R5 := Lib.hid r5
    have H1 := Lib.hid (show m1 = spin a b c d x y z 1 from h1)
    have H2 := Lib.hid (show m2 = spin a b c d x y z 2 from h2)
    have H3 := Lib.hid (show m3 = spin a b c d x y z 3 from h3)
    clear r4 r5 hB1 x3 q1 q2 g1 p1 z1 o1 f5 h0 h1 h2 h3
    have hge : w.heap.size ≤ w.heap.size + 1 + 1 := by omega
    subst hFF
    simp only [fillAll, Act.put, List.setIfInBounds_toArray, List.set_cons_succ, List.set_cons_zero]
    go_wp2
    exact bodyPost_ret (v := .agg #[.int .i64 m1, .int .i64 m2, .int .i64 m3]) (results_cell_row Try.results64 _ _ (w.heap.size + 1 + 1) _ #[.int .i64 m1, .int .i64 m2, .int .i64 m3] _ _ rfl (heap_set (heap_set (heap_set R5.out 0 _) 1 _) 2 _) Try.underlying67 rfl (by kernel_rfl)) rfl ⟨by rw [H1.out, H2.out, H3.out], ((hB2.setCell hge _).setCell hge _).setCell hge _⟩
end Go.Proofs.Ytehpfkmaikbjkaa
