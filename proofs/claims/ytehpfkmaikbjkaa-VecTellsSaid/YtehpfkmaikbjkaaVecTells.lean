/- The law VecTells. -/
import Derived.Test.YtehpfkmaikbjkaaVecOk
namespace Go.Proofs.Ytehpfkmaikbjkaa
open Go.ChangeShapes Go.WideShapes Go.ChangeAt Go.RowKit Go.Mem
set_option linter.unusedVariables false

section
variable {P : Program} {ops : Array Oper} {o : Oper} {F : Act} {w : World} {Q : Exit → Act → World → Prop}
theorem one_alloc_agg (e : TypeId) (hgd : o.guard = none) (ho : o.op = .alloc e) (z : Value) (cs : Array Value) (hz : (P.info? e).map (fun i => i.zero) = some (some z)) (hc : z.cells = cs)
    (h : Q .normal (F.put o.dst (.pointer (some ⟨w.heap.size, 0, none⟩))) (w.alloc (.cells cs e))) : wpList P ops Q [o] F w := by
  refine wpList_plain hgd fun K hK => ?_
  obtain ⟨i, hi, hzz⟩ := Option.map_eq_some_iff.1 hz
  unfold Oper.wp execOp
  simp [ho, Instr.alloc, zeroValue, typeInfo, hi, hzz, newVar, hc, Oper.upon]
  exact hK _ _ h
end
/-- A variable of the region's own. -/
def NewTwo (B : Nat) (v : Value) (w : World) : Prop := ∃ X, v = .pointer (some ⟨X, 0, none⟩) ∧ B ≤ X ∧ Two w X 0 0
theorem NewTwo.mono {B : Nat} {w w' : World} {v : Value} (h : NewTwo B v w) (hb : Below w.heap.size w w') : NewTwo B v w' := by
  obtain ⟨X, h1, h2, h3⟩ := h
  exact ⟨X, h1, h2, h3.mono hb⟩
theorem below_of_eq {w w' : World} (h : w = w') : Below w.heap.size w w' := h ▸ Below.refl _ _
theorem keep10 {w w1 w2 : World} {A1 A2 A3 A4 A5 A6 A7 A8 A9 A0 : Addr} {v1 v2 v3 v4 v5 v6 v7 v8 v9 v0 : Value}
    (h : w1.cell? A1 = some v1 ∧ w1.cell? A2 = some v2 ∧ w1.cell? A3 = some v3 ∧ w1.cell? A4 = some v4 ∧ w1.cell? A5 = some v5 ∧ w1.cell? A6 = some v6 ∧ w1.cell? A7 = some v7 ∧ w1.cell? A8 = some v8 ∧ w1.cell? A9 = some v9 ∧ w1.cell? A0 = some v0 ∧ Below w.heap.size w w1) (hb : Below w1.heap.size w1 w2) :
    w2.cell? A1 = some v1 ∧ w2.cell? A2 = some v2 ∧ w2.cell? A3 = some v3 ∧ w2.cell? A4 = some v4 ∧ w2.cell? A5 = some v5 ∧ w2.cell? A6 = some v6 ∧ w2.cell? A7 = some v7 ∧ w2.cell? A8 = some v8 ∧ w2.cell? A9 = some v9 ∧ w2.cell? A0 = some v0 ∧ Below w.heap.size w w2 := by
  obtain ⟨h1, h2, h3, h4, h5, h6, h7, h8, h9, h0, hB⟩ := h
  have k : ∀ {A : Addr} {v : Value}, w1.cell? A = some v → w2.cell? A = some v := fun {A v} h => (hb.cell (World.block_lt_of_cell? w1 _ h)).trans h
  exact ⟨k h1, k h2, k h3, k h4, k h5, k h6, k h7, k h8, k h9, k h0, bt hB hb⟩
theorem last10 {a b c d e f g h i j k : Prop} (x : a ∧ b ∧ c ∧ d ∧ e ∧ f ∧ g ∧ h ∧ i ∧ j ∧ k) : k := x.2.2.2.2.2.2.2.2.2.2
theorem vec_k1 : thr 5 (cosine 16384) 65536 = 0 := by decide +kernel
theorem vec_k : (lim (lim (thr 5 (cosine 16384) 65536) - lim (thr 0 (sine 16384) 65536))) = 0 ∧ (lim (lim (thr 5 (sine 16384) 65536) + lim (thr 0 (cosine 16384) 65536))) = 5 := by decide +kernel
theorem Two.put {w w2 : World} {B g : Nat} {x y : Int} (h : Two w B x y) (hb : Below g w w2) (hg : B < g) : Two w2 B x y := (hb.block B hg).trans h
theorem list13 {vs : List Value} (h : vs.length = 13) : ∃ a0 a1 a2 a3 a4 a5 a6 a7 a8 a9 a10 a11 a12, vs = [a0, a1, a2, a3, a4, a5, a6, a7, a8, a9, a10, a11, a12] := by
  match vs, h with
  | [a0, a1, a2, a3, a4, a5, a6, a7, a8, a9, a10, a11, a12], _ => exact ⟨a0, a1, a2, a3, a4, a5, a6, a7, a8, a9, a10, a11, a12, rfl⟩
theorem list11 {vs : List Value} (h : vs.length = 11) : ∃ a0 a1 a2 a3 a4 a5 a6 a7 a8 a9 a10, vs = [a0, a1, a2, a3, a4, a5, a6, a7, a8, a9, a10] := by
  match vs, h with
  | [a0, a1, a2, a3, a4, a5, a6, a7, a8, a9, a10], _ => exact ⟨a0, a1, a2, a3, a4, a5, a6, a7, a8, a9, a10, rfl⟩
def F_VecTells3 (BB B : Nat) (a b c d n : Int) (j : Nat) (v : Value) (w : World) : Prop := if j = 11 then NewTwo B v w else v = ([.pointer (some ⟨BB, 0, none⟩), .int .i64 a, .pointer (some ⟨BB + 1, 0, none⟩), .int .i64 c, .int .i64 (lim (lim a + lim c)), .pointer (some ⟨BB, 1, none⟩), .int .i64 b, .pointer (some ⟨BB + 1, 1, none⟩), .int .i64 d, .int .i64 (lim (lim b + lim d)), .agg #[.int .i64 (lim (lim a + lim c)), .int .i64 (lim (lim b + lim d))], undef] : List Value).getD j undef
def F_VecTells4 (BB B : Nat) (a b c d n : Int) (j : Nat) (v : Value) (w : World) : Prop := if j = 11 then NewTwo B v w else v = ([.pointer (some ⟨BB, 0, none⟩), .int .i64 a, .pointer (some ⟨BB + 1, 0, none⟩), .int .i64 c, .int .i64 (lim (lim a - lim c)), .pointer (some ⟨BB, 1, none⟩), .int .i64 b, .pointer (some ⟨BB + 1, 1, none⟩), .int .i64 d, .int .i64 (lim (lim b - lim d)), .agg #[.int .i64 (lim (lim a - lim c)), .int .i64 (lim (lim b - lim d))], undef] : List Value).getD j undef
def F_VecTells5 (BB B : Nat) (a b c d n : Int) (j : Nat) (v : Value) (w : World) : Prop := if j = 9 then NewTwo B v w else v = ([.pointer (some ⟨BB, 0, none⟩), .int .i64 a, .int .i64 n, .int .i64 (thr a n 65536), .pointer (some ⟨BB, 1, none⟩), .int .i64 b, .int .i64 n, .int .i64 (thr b n 65536), .agg #[.int .i64 (thr a n 65536), .int .i64 (thr b n 65536)], undef] : List Value).getD j undef

set_option maxHeartbeats 8000000 in
set_option maxRecDepth 100000 in
theorem law_VecTells (a b c d n g : Int) (w : World) : Calls Try.prog 11 #[.agg #[.int .i64 a, .int .i64 b], .agg #[.int .i64 c, .int .i64 d], .int .i64 n, .int .i64 g] w fun e w' => e = .returned (.bool true) ∧ Below w.heap.size w w' := by
  have t1 := (two_new w a b).alloc (.cells #[.int .i64 c, .int .i64 d] 36)
  have t2 := two_new (w.alloc (.cells #[.int .i64 a, .int .i64 b] 36)) c d
  have hB := ((Below.refl w.heap.size w).alloc (Nat.le_refl _) (.cells #[.int .i64 a, .int .i64 b] 36)).alloc (by simp) (.cells #[.int .i64 c, .int .i64 d] 36)
  replace t2 : Two ((w.alloc (.cells #[.int .i64 a, .int .i64 b] 36)).alloc (.cells #[.int .i64 c, .int .i64 d] 36)) (w.heap.size + 1) c d := by simpa using t2
  have K := Lib.hid vec_k
  go_enter Try.func11, Try.ntmps11
  go_wp2_with (go_at_call 46; refine (vec_Turn 5 0 16384 _).mono ?_; rintro e W3 ⟨rfl, hb1⟩; rw [K.out.1, K.out.2]; have t1 := t1.mono hb1; have t2 := t2.mono hb1; have hB := bt hB hb1; clear hb1)
  refine wp_region_facts rfl 12 (by kernel_rfl) (F_VecTells3 w.heap.size W3.heap.size a b c d n) ⟨by
    intro j v w w' h hb
    unfold F_VecTells3 at *
    split at h
    · rename_i q; rw [if_pos q]; exact h.mono hb
    · rename_i q; rw [if_neg q]; exact h⟩ ?_ ?_
  · refine ⟨?_, ?_, ?_, ?_, ?_, ?_, ?_, ?_, ?_, ?_, ?_, ?_, trivial⟩
    · intro vs w' F hb hd hF hl
      have e := (hF 4).trans (look_out _ 4 _ _ (by kernel_rfl))
      exact one_field _ _ _ rfl rfl _ _ e _ (fun w => by kernel_rfl) ⟨_, rfl, Below.refl _ _, rfl⟩
    · intro vs w' F hb hd hF hl
      have e := (hF 16).trans ((look_at _ 16 0 _ _ (by kernel_rfl) (by kernel_rfl) hl).trans (dep_of (Fact := F_VecTells3 w.heap.size W3.heap.size a b c d n) hd 0 (by kernel_rfl)))
      exact one_load _ _ rfl rfl _ _ e ((hb.cell t1.lt).trans t1.c0) (by kernel_rfl) ⟨_, rfl, Below.refl _ _, rfl⟩
    · intro vs w' F hb hd hF hl
      have e := (hF 5).trans (look_out _ 5 _ _ (by kernel_rfl))
      exact one_field _ _ _ rfl rfl _ _ e _ (fun w => by kernel_rfl) ⟨_, rfl, Below.refl _ _, rfl⟩
    · intro vs w' F hb hd hF hl
      have e := (hF 18).trans ((look_at _ 18 2 _ _ (by kernel_rfl) (by kernel_rfl) hl).trans (dep_of (Fact := F_VecTells3 w.heap.size W3.heap.size a b c d n) hd 2 (by kernel_rfl)))
      exact one_load _ _ rfl rfl _ _ e ((hb.cell t2.lt).trans t2.c0) (by kernel_rfl) ⟨_, rfl, Below.refl _ _, rfl⟩
    · intro vs w' F hb hd hF hl
      refine one_call _ _ rfl rfl (enters_of Try.func41 (by kernel_rfl) rfl) #[.int .i64 a, .int .i64 c] (eval2 ((hF 17).trans ((look_at _ 17 1 _ _ (by kernel_rfl) (by kernel_rfl) hl).trans (dep_of (Fact := F_VecTells3 w.heap.size W3.heap.size a b c d n) hd 1 (by kernel_rfl)))) ((hF 19).trans ((look_at _ 19 3 _ _ (by kernel_rfl) (by kernel_rfl) hl).trans (dep_of (Fact := F_VecTells3 w.heap.size W3.heap.size a b c d n) hd 3 (by kernel_rfl))))) ?_
      refine (ref_Sum a c _).mono ?_
      rintro e w2 ⟨rfl, rfl⟩
      exact ⟨_, rfl, _, rfl, Below.refl _ _, rfl⟩
    · intro vs w' F hb hd hF hl
      have e := (hF 4).trans (look_out _ 4 _ _ (by kernel_rfl))
      exact one_field _ _ _ rfl rfl _ _ e _ (fun w => by kernel_rfl) ⟨_, rfl, Below.refl _ _, rfl⟩
    · intro vs w' F hb hd hF hl
      have e := (hF 21).trans ((look_at _ 21 5 _ _ (by kernel_rfl) (by kernel_rfl) hl).trans (dep_of (Fact := F_VecTells3 w.heap.size W3.heap.size a b c d n) hd 5 (by kernel_rfl)))
      exact one_load _ _ rfl rfl _ _ e ((hb.cell t1.lt).trans t1.c1) (by kernel_rfl) ⟨_, rfl, Below.refl _ _, rfl⟩
    · intro vs w' F hb hd hF hl
      have e := (hF 5).trans (look_out _ 5 _ _ (by kernel_rfl))
      exact one_field _ _ _ rfl rfl _ _ e _ (fun w => by kernel_rfl) ⟨_, rfl, Below.refl _ _, rfl⟩
    · intro vs w' F hb hd hF hl
      have e := (hF 23).trans ((look_at _ 23 7 _ _ (by kernel_rfl) (by kernel_rfl) hl).trans (dep_of (Fact := F_VecTells3 w.heap.size W3.heap.size a b c d n) hd 7 (by kernel_rfl)))
      exact one_load _ _ rfl rfl _ _ e ((hb.cell t2.lt).trans t2.c1) (by kernel_rfl) ⟨_, rfl, Below.refl _ _, rfl⟩
    · intro vs w' F hb hd hF hl
      refine one_call _ _ rfl rfl (enters_of Try.func41 (by kernel_rfl) rfl) #[.int .i64 b, .int .i64 d] (eval2 ((hF 22).trans ((look_at _ 22 6 _ _ (by kernel_rfl) (by kernel_rfl) hl).trans (dep_of (Fact := F_VecTells3 w.heap.size W3.heap.size a b c d n) hd 6 (by kernel_rfl)))) ((hF 24).trans ((look_at _ 24 8 _ _ (by kernel_rfl) (by kernel_rfl) hl).trans (dep_of (Fact := F_VecTells3 w.heap.size W3.heap.size a b c d n) hd 8 (by kernel_rfl))))) ?_
      refine (ref_Sum b d _).mono ?_
      rintro e w2 ⟨rfl, rfl⟩
      exact ⟨_, rfl, _, rfl, Below.refl _ _, rfl⟩
    · intro vs w' F hb hd hF hl
      exact one_build _ _ rfl rfl #[(0, .int .i64 (lim (lim a + lim c))), (1, .int .i64 (lim (lim b + lim d)))] (parts2 ((hF 20).trans ((look_at _ 20 4 _ _ (by kernel_rfl) (by kernel_rfl) hl).trans (dep_of (Fact := F_VecTells3 w.heap.size W3.heap.size a b c d n) hd 4 (by kernel_rfl)))) ((hF 25).trans ((look_at _ 25 9 _ _ (by kernel_rfl) (by kernel_rfl) hl).trans (dep_of (Fact := F_VecTells3 w.heap.size W3.heap.size a b c d n) hd 9 (by kernel_rfl))))) (.agg #[.int .i64 (lim (lim a + lim c)), .int .i64 (lim (lim b + lim d))]) (fun w => by kernel_rfl) ⟨_, rfl, Below.refl _ _, rfl⟩
    · intro vs w' F hb hd hF hl
      exact one_alloc_agg _ rfl rfl (.agg #[.int .i64 0, .int .i64 0]) _ (by kernel_rfl) rfl ⟨_, rfl, (Below.refl _ _).alloc (Nat.le_refl _) _, _, rfl, hb.size, heap_alloc_new _ _⟩
  · intro vs W1 hl hb hI
    have i0 := hI 0 (by omega)
    have i1 := hI 1 (by omega)
    have i2 := hI 2 (by omega)
    have i3 := hI 3 (by omega)
    have i4 := hI 4 (by omega)
    have i5 := hI 5 (by omega)
    have i6 := hI 6 (by omega)
    have i7 := hI 7 (by omega)
    have i8 := hI 8 (by omega)
    have i9 := hI 9 (by omega)
    have i10 := hI 10 (by omega)
    have i11 := hI 11 (by omega)
    clear hI
    obtain ⟨v0, v1, v2, v3, v4, v5, v6, v7, v8, v9, v10, v11, v12, rfl⟩ := list13 hl
    replace i0 : v0 = .pointer (some ⟨w.heap.size, 0, none⟩) := i0
    subst i0
    replace i1 : v1 = .int .i64 a := i1
    subst i1
    replace i2 : v2 = .pointer (some ⟨w.heap.size + 1, 0, none⟩) := i2
    subst i2
    replace i3 : v3 = .int .i64 c := i3
    subst i3
    replace i4 : v4 = .int .i64 (lim (lim a + lim c)) := i4
    subst i4
    replace i5 : v5 = .pointer (some ⟨w.heap.size, 1, none⟩) := i5
    subst i5
    replace i6 : v6 = .int .i64 b := i6
    subst i6
    replace i7 : v7 = .pointer (some ⟨w.heap.size + 1, 1, none⟩) := i7
    subst i7
    replace i8 : v8 = .int .i64 d := i8
    subst i8
    replace i9 : v9 = .int .i64 (lim (lim b + lim d)) := i9
    subst i9
    replace i10 : v10 = .agg #[.int .i64 (lim (lim a + lim c)), .int .i64 (lim (lim b + lim d))] := i10
    subst i10
    clear hl
    have hw := hb.size
    obtain ⟨X3, j3, lx3, tn⟩ := i11
    generalize hFF : fillAll _ _ _ = F
    have e1 : F.eval (.tmp 9) = .pointer (some ⟨X3, 0, none⟩) := by rw [← hFF]; exact (eval_fill _ 9 _ _).trans j3
    have e2 : F.eval (.tmp 26) = .agg #[.int .i64 (lim (lim a + lim c)), .int .i64 (lim (lim b + lim d))] := by rw [← hFF]; exact (eval_fill _ 26 _ _).trans rfl
    refine wpList_store_abs rfl 36 (.tmp 9) (.tmp 26) rfl X3 #[.int .i64 (lim (lim a + lim c)), .int .i64 (lim (lim b + lim d))] e1 e2 _ _ tn (by kernel_rfl) rfl (ones2 _ _) ?_
    intro W3b hg hb2 hs
    have hBn := hB.trans ((hb.mono hB.size).trans (hb2.mono (by have := hB.size; omega)))
    replace t1 := (t1.mono hb).put hb2 (by have := t1.lt; omega)
    replace t2 := (t2.mono hb).put hb2 (by have := t2.lt; omega)
    have t3 : Two W3b X3 (lim (lim a + lim c)) (lim (lim b + lim d)) := hg
    clear hB tn hb hb2 hs hg e1 e2 lx3
    replace hB := hBn
    clear hBn
    replace j3 : v11 = _ := j3
    subst j3
    subst hFF
    simp only [fillAll, Act.put, List.setIfInBounds_toArray, List.set_cons_succ, List.set_cons_zero]
    go_wp2_with fail
    refine wp_region_facts rfl 12 (by kernel_rfl) (F_VecTells4 w.heap.size W3b.heap.size a b c d n) ⟨by
      intro j v w w' h hb
      unfold F_VecTells4 at *
      split at h
      · rename_i q; rw [if_pos q]; exact h.mono hb
      · rename_i q; rw [if_neg q]; exact h⟩ ?_ ?_
    · refine ⟨?_, ?_, ?_, ?_, ?_, ?_, ?_, ?_, ?_, ?_, ?_, ?_, trivial⟩
      · intro vs w' F hb hd hF hl
        have e := (hF 4).trans (look_out _ 4 _ _ (by kernel_rfl))
        exact one_field _ _ _ rfl rfl _ _ e _ (fun w => by kernel_rfl) ⟨_, rfl, Below.refl _ _, rfl⟩
      · intro vs w' F hb hd hF hl
        have e := (hF 27).trans ((look_at _ 27 0 _ _ (by kernel_rfl) (by kernel_rfl) hl).trans (dep_of (Fact := F_VecTells4 w.heap.size W3b.heap.size a b c d n) hd 0 (by kernel_rfl)))
        exact one_load _ _ rfl rfl _ _ e ((hb.cell t1.lt).trans t1.c0) (by kernel_rfl) ⟨_, rfl, Below.refl _ _, rfl⟩
      · intro vs w' F hb hd hF hl
        have e := (hF 5).trans (look_out _ 5 _ _ (by kernel_rfl))
        exact one_field _ _ _ rfl rfl _ _ e _ (fun w => by kernel_rfl) ⟨_, rfl, Below.refl _ _, rfl⟩
      · intro vs w' F hb hd hF hl
        have e := (hF 29).trans ((look_at _ 29 2 _ _ (by kernel_rfl) (by kernel_rfl) hl).trans (dep_of (Fact := F_VecTells4 w.heap.size W3b.heap.size a b c d n) hd 2 (by kernel_rfl)))
        exact one_load _ _ rfl rfl _ _ e ((hb.cell t2.lt).trans t2.c0) (by kernel_rfl) ⟨_, rfl, Below.refl _ _, rfl⟩
      · intro vs w' F hb hd hF hl
        refine one_call _ _ rfl rfl (enters_of Try.func43 (by kernel_rfl) rfl) #[.int .i64 a, .int .i64 c] (eval2 ((hF 28).trans ((look_at _ 28 1 _ _ (by kernel_rfl) (by kernel_rfl) hl).trans (dep_of (Fact := F_VecTells4 w.heap.size W3b.heap.size a b c d n) hd 1 (by kernel_rfl)))) ((hF 30).trans ((look_at _ 30 3 _ _ (by kernel_rfl) (by kernel_rfl) hl).trans (dep_of (Fact := F_VecTells4 w.heap.size W3b.heap.size a b c d n) hd 3 (by kernel_rfl))))) ?_
        refine (ref_Less a c _).mono ?_
        rintro e w2 ⟨rfl, rfl⟩
        exact ⟨_, rfl, _, rfl, Below.refl _ _, rfl⟩
      · intro vs w' F hb hd hF hl
        have e := (hF 4).trans (look_out _ 4 _ _ (by kernel_rfl))
        exact one_field _ _ _ rfl rfl _ _ e _ (fun w => by kernel_rfl) ⟨_, rfl, Below.refl _ _, rfl⟩
      · intro vs w' F hb hd hF hl
        have e := (hF 32).trans ((look_at _ 32 5 _ _ (by kernel_rfl) (by kernel_rfl) hl).trans (dep_of (Fact := F_VecTells4 w.heap.size W3b.heap.size a b c d n) hd 5 (by kernel_rfl)))
        exact one_load _ _ rfl rfl _ _ e ((hb.cell t1.lt).trans t1.c1) (by kernel_rfl) ⟨_, rfl, Below.refl _ _, rfl⟩
      · intro vs w' F hb hd hF hl
        have e := (hF 5).trans (look_out _ 5 _ _ (by kernel_rfl))
        exact one_field _ _ _ rfl rfl _ _ e _ (fun w => by kernel_rfl) ⟨_, rfl, Below.refl _ _, rfl⟩
      · intro vs w' F hb hd hF hl
        have e := (hF 34).trans ((look_at _ 34 7 _ _ (by kernel_rfl) (by kernel_rfl) hl).trans (dep_of (Fact := F_VecTells4 w.heap.size W3b.heap.size a b c d n) hd 7 (by kernel_rfl)))
        exact one_load _ _ rfl rfl _ _ e ((hb.cell t2.lt).trans t2.c1) (by kernel_rfl) ⟨_, rfl, Below.refl _ _, rfl⟩
      · intro vs w' F hb hd hF hl
        refine one_call _ _ rfl rfl (enters_of Try.func43 (by kernel_rfl) rfl) #[.int .i64 b, .int .i64 d] (eval2 ((hF 33).trans ((look_at _ 33 6 _ _ (by kernel_rfl) (by kernel_rfl) hl).trans (dep_of (Fact := F_VecTells4 w.heap.size W3b.heap.size a b c d n) hd 6 (by kernel_rfl)))) ((hF 35).trans ((look_at _ 35 8 _ _ (by kernel_rfl) (by kernel_rfl) hl).trans (dep_of (Fact := F_VecTells4 w.heap.size W3b.heap.size a b c d n) hd 8 (by kernel_rfl))))) ?_
        refine (ref_Less b d _).mono ?_
        rintro e w2 ⟨rfl, rfl⟩
        exact ⟨_, rfl, _, rfl, Below.refl _ _, rfl⟩
      · intro vs w' F hb hd hF hl
        exact one_build _ _ rfl rfl #[(0, .int .i64 (lim (lim a - lim c))), (1, .int .i64 (lim (lim b - lim d)))] (parts2 ((hF 31).trans ((look_at _ 31 4 _ _ (by kernel_rfl) (by kernel_rfl) hl).trans (dep_of (Fact := F_VecTells4 w.heap.size W3b.heap.size a b c d n) hd 4 (by kernel_rfl)))) ((hF 36).trans ((look_at _ 36 9 _ _ (by kernel_rfl) (by kernel_rfl) hl).trans (dep_of (Fact := F_VecTells4 w.heap.size W3b.heap.size a b c d n) hd 9 (by kernel_rfl))))) (.agg #[.int .i64 (lim (lim a - lim c)), .int .i64 (lim (lim b - lim d))]) (fun w => by kernel_rfl) ⟨_, rfl, Below.refl _ _, rfl⟩
      · intro vs w' F hb hd hF hl
        exact one_alloc_agg _ rfl rfl (.agg #[.int .i64 0, .int .i64 0]) _ (by kernel_rfl) rfl ⟨_, rfl, (Below.refl _ _).alloc (Nat.le_refl _) _, _, rfl, hb.size, heap_alloc_new _ _⟩
    · intro vs W1 hl hb hI
      have i0 := hI 0 (by omega)
      have i1 := hI 1 (by omega)
      have i2 := hI 2 (by omega)
      have i3 := hI 3 (by omega)
      have i4 := hI 4 (by omega)
      have i5 := hI 5 (by omega)
      have i6 := hI 6 (by omega)
      have i7 := hI 7 (by omega)
      have i8 := hI 8 (by omega)
      have i9 := hI 9 (by omega)
      have i10 := hI 10 (by omega)
      have i11 := hI 11 (by omega)
      clear hI
      obtain ⟨v0, v1, v2, v3, v4, v5, v6, v7, v8, v9, v10, v11, v12, rfl⟩ := list13 hl
      replace i0 : v0 = .pointer (some ⟨w.heap.size, 0, none⟩) := i0
      subst i0
      replace i1 : v1 = .int .i64 a := i1
      subst i1
      replace i2 : v2 = .pointer (some ⟨w.heap.size + 1, 0, none⟩) := i2
      subst i2
      replace i3 : v3 = .int .i64 c := i3
      subst i3
      replace i4 : v4 = .int .i64 (lim (lim a - lim c)) := i4
      subst i4
      replace i5 : v5 = .pointer (some ⟨w.heap.size, 1, none⟩) := i5
      subst i5
      replace i6 : v6 = .int .i64 b := i6
      subst i6
      replace i7 : v7 = .pointer (some ⟨w.heap.size + 1, 1, none⟩) := i7
      subst i7
      replace i8 : v8 = .int .i64 d := i8
      subst i8
      replace i9 : v9 = .int .i64 (lim (lim b - lim d)) := i9
      subst i9
      replace i10 : v10 = .agg #[.int .i64 (lim (lim a - lim c)), .int .i64 (lim (lim b - lim d))] := i10
      subst i10
      clear hl
      have hw := hb.size
      obtain ⟨X4, j4, lx4, tn⟩ := i11
      generalize hFF : fillAll _ _ _ = F
      have e1 : F.eval (.tmp 10) = .pointer (some ⟨X4, 0, none⟩) := by rw [← hFF]; exact (eval_fill _ 10 _ _).trans j4
      have e2 : F.eval (.tmp 37) = .agg #[.int .i64 (lim (lim a - lim c)), .int .i64 (lim (lim b - lim d))] := by rw [← hFF]; exact (eval_fill _ 37 _ _).trans rfl
      refine wpList_store_abs rfl 36 (.tmp 10) (.tmp 37) rfl X4 #[.int .i64 (lim (lim a - lim c)), .int .i64 (lim (lim b - lim d))] e1 e2 _ _ tn (by kernel_rfl) rfl (ones2 _ _) ?_
      intro W4b hg hb2 hs
      have hBn := hB.trans ((hb.mono hB.size).trans (hb2.mono (by have := hB.size; omega)))
      replace t1 := (t1.mono hb).put hb2 (by have := t1.lt; omega)
      replace t2 := (t2.mono hb).put hb2 (by have := t2.lt; omega)
      replace t3 := (t3.mono hb).put hb2 (by have := t3.lt; omega)
      have t4 : Two W4b X4 (lim (lim a - lim c)) (lim (lim b - lim d)) := hg
      clear hB tn hb hb2 hs hg e1 e2 lx4
      replace hB := hBn
      clear hBn
      replace j4 : v11 = _ := j4
      subst j4
      subst hFF
      simp only [fillAll, Act.put, List.setIfInBounds_toArray, List.set_cons_succ, List.set_cons_zero]
      go_wp2_with fail
      refine wp_region_facts rfl 10 (by kernel_rfl) (F_VecTells5 w.heap.size W4b.heap.size a b c d n) ⟨by
        intro j v w w' h hb
        unfold F_VecTells5 at *
        split at h
        · rename_i q; rw [if_pos q]; exact h.mono hb
        · rename_i q; rw [if_neg q]; exact h⟩ ?_ ?_
      · refine ⟨?_, ?_, ?_, ?_, ?_, ?_, ?_, ?_, ?_, ?_, trivial⟩
        · intro vs w' F hb hd hF hl
          have e := (hF 4).trans (look_out _ 4 _ _ (by kernel_rfl))
          exact one_field _ _ _ rfl rfl _ _ e _ (fun w => by kernel_rfl) ⟨_, rfl, Below.refl _ _, rfl⟩
        · intro vs w' F hb hd hF hl
          have e := (hF 38).trans ((look_at _ 38 0 _ _ (by kernel_rfl) (by kernel_rfl) hl).trans (dep_of (Fact := F_VecTells5 w.heap.size W4b.heap.size a b c d n) hd 0 (by kernel_rfl)))
          exact one_load _ _ rfl rfl _ _ e ((hb.cell t1.lt).trans t1.c0) (by kernel_rfl) ⟨_, rfl, Below.refl _ _, rfl⟩
        · intro vs w' F hb hd hF hl
          have e := (hF 2).trans (look_out _ 2 _ _ (by kernel_rfl))
          exact one_move _ rfl (by first | exact Or.inl rfl | exact Or.inr rfl) ⟨_, rfl, Below.refl _ _, e⟩
        · intro vs w' F hb hd hF hl
          refine one_call _ _ rfl rfl (enters_of Try.func44 (by kernel_rfl) rfl) #[.int .i64 a, .int .i64 n] (eval2 ((hF 39).trans ((look_at _ 39 1 _ _ (by kernel_rfl) (by kernel_rfl) hl).trans (dep_of (Fact := F_VecTells5 w.heap.size W4b.heap.size a b c d n) hd 1 (by kernel_rfl)))) ((hF 40).trans ((look_at _ 40 2 _ _ (by kernel_rfl) (by kernel_rfl) hl).trans (dep_of (Fact := F_VecTells5 w.heap.size W4b.heap.size a b c d n) hd 2 (by kernel_rfl))))) ?_
          refine (ref_Product a n _).mono ?_
          rintro e w2 ⟨rfl, hb2⟩
          exact ⟨_, rfl, _, rfl, hb2, rfl⟩
        · intro vs w' F hb hd hF hl
          have e := (hF 4).trans (look_out _ 4 _ _ (by kernel_rfl))
          exact one_field _ _ _ rfl rfl _ _ e _ (fun w => by kernel_rfl) ⟨_, rfl, Below.refl _ _, rfl⟩
        · intro vs w' F hb hd hF hl
          have e := (hF 42).trans ((look_at _ 42 4 _ _ (by kernel_rfl) (by kernel_rfl) hl).trans (dep_of (Fact := F_VecTells5 w.heap.size W4b.heap.size a b c d n) hd 4 (by kernel_rfl)))
          exact one_load _ _ rfl rfl _ _ e ((hb.cell t1.lt).trans t1.c1) (by kernel_rfl) ⟨_, rfl, Below.refl _ _, rfl⟩
        · intro vs w' F hb hd hF hl
          have e := (hF 2).trans (look_out _ 2 _ _ (by kernel_rfl))
          exact one_move _ rfl (by first | exact Or.inl rfl | exact Or.inr rfl) ⟨_, rfl, Below.refl _ _, e⟩
        · intro vs w' F hb hd hF hl
          refine one_call _ _ rfl rfl (enters_of Try.func44 (by kernel_rfl) rfl) #[.int .i64 b, .int .i64 n] (eval2 ((hF 43).trans ((look_at _ 43 5 _ _ (by kernel_rfl) (by kernel_rfl) hl).trans (dep_of (Fact := F_VecTells5 w.heap.size W4b.heap.size a b c d n) hd 5 (by kernel_rfl)))) ((hF 44).trans ((look_at _ 44 6 _ _ (by kernel_rfl) (by kernel_rfl) hl).trans (dep_of (Fact := F_VecTells5 w.heap.size W4b.heap.size a b c d n) hd 6 (by kernel_rfl))))) ?_
          refine (ref_Product b n _).mono ?_
          rintro e w2 ⟨rfl, hb2⟩
          exact ⟨_, rfl, _, rfl, hb2, rfl⟩
        · intro vs w' F hb hd hF hl
          exact one_build _ _ rfl rfl #[(0, .int .i64 (thr a n 65536)), (1, .int .i64 (thr b n 65536))] (parts2 ((hF 41).trans ((look_at _ 41 3 _ _ (by kernel_rfl) (by kernel_rfl) hl).trans (dep_of (Fact := F_VecTells5 w.heap.size W4b.heap.size a b c d n) hd 3 (by kernel_rfl)))) ((hF 45).trans ((look_at _ 45 7 _ _ (by kernel_rfl) (by kernel_rfl) hl).trans (dep_of (Fact := F_VecTells5 w.heap.size W4b.heap.size a b c d n) hd 7 (by kernel_rfl))))) (.agg #[.int .i64 (thr a n 65536), .int .i64 (thr b n 65536)]) (fun w => by kernel_rfl) ⟨_, rfl, Below.refl _ _, rfl⟩
        · intro vs w' F hb hd hF hl
          exact one_alloc_agg _ rfl rfl (.agg #[.int .i64 0, .int .i64 0]) _ (by kernel_rfl) rfl ⟨_, rfl, (Below.refl _ _).alloc (Nat.le_refl _) _, _, rfl, hb.size, heap_alloc_new _ _⟩
      · intro vs W1 hl hb hI
        have i0 := hI 0 (by omega)
        have i1 := hI 1 (by omega)
        have i2 := hI 2 (by omega)
        have i3 := hI 3 (by omega)
        have i4 := hI 4 (by omega)
        have i5 := hI 5 (by omega)
        have i6 := hI 6 (by omega)
        have i7 := hI 7 (by omega)
        have i8 := hI 8 (by omega)
        have i9 := hI 9 (by omega)
        clear hI
        obtain ⟨v0, v1, v2, v3, v4, v5, v6, v7, v8, v9, v10, rfl⟩ := list11 hl
        replace i0 : v0 = .pointer (some ⟨w.heap.size, 0, none⟩) := i0
        subst i0
        replace i1 : v1 = .int .i64 a := i1
        subst i1
        replace i2 : v2 = .int .i64 n := i2
        subst i2
        replace i3 : v3 = .int .i64 (thr a n 65536) := i3
        subst i3
        replace i4 : v4 = .pointer (some ⟨w.heap.size, 1, none⟩) := i4
        subst i4
        replace i5 : v5 = .int .i64 b := i5
        subst i5
        replace i6 : v6 = .int .i64 n := i6
        subst i6
        replace i7 : v7 = .int .i64 (thr b n 65536) := i7
        subst i7
        replace i8 : v8 = .agg #[.int .i64 (thr a n 65536), .int .i64 (thr b n 65536)] := i8
        subst i8
        clear hl
        have hw := hb.size
        obtain ⟨X5, j5, lx5, tn⟩ := i9
        generalize hFF : fillAll _ _ _ = F
        have e1 : F.eval (.tmp 11) = .pointer (some ⟨X5, 0, none⟩) := by rw [← hFF]; exact (eval_fill _ 11 _ _).trans j5
        have e2 : F.eval (.tmp 46) = .agg #[.int .i64 (thr a n 65536), .int .i64 (thr b n 65536)] := by rw [← hFF]; exact (eval_fill _ 46 _ _).trans rfl
        refine wpList_store_abs rfl 36 (.tmp 11) (.tmp 46) rfl X5 #[.int .i64 (thr a n 65536), .int .i64 (thr b n 65536)] e1 e2 _ _ tn (by kernel_rfl) rfl (ones2 _ _) ?_
        intro W5b hg hb2 hs
        have hBn := hB.trans ((hb.mono hB.size).trans (hb2.mono (by have := hB.size; omega)))
        replace t1 := (t1.mono hb).put hb2 (by have := t1.lt; omega)
        replace t2 := (t2.mono hb).put hb2 (by have := t2.lt; omega)
        replace t3 := (t3.mono hb).put hb2 (by have := t3.lt; omega)
        replace t4 := (t4.mono hb).put hb2 (by have := t4.lt; omega)
        have t5 : Two W5b X5 (thr a n 65536) (thr b n 65536) := hg
        clear hB tn hb hb2 hs hg e1 e2 lx5
        replace hB := hBn
        clear hBn
        replace j5 : v9 = _ := j5
        subst j5
        subst hFF
        simp only [fillAll, Act.put, List.setIfInBounds_toArray, List.set_cons_succ, List.set_cons_zero]
        go_wp2_with fail
        have s11 := t1.c0
        have s12 := t1.c1
        have s21 := t2.c0
        have s22 := t2.c1
        have s31 := t3.c0
        have s32 := t3.c1
        have s41 := t4.c0
        have s42 := t4.c1
        have s51 := t5.c0
        have s52 := t5.c1
        clear t1 t2 t3 t4 t5 K
        generalize W5b = W6 at *
        go_region_held3 (fun w' => w'.cell? ⟨w.heap.size, 0, none⟩ = some (.int .i64 a) ∧ w'.cell? ⟨w.heap.size, 1, none⟩ = some (.int .i64 b) ∧ w'.cell? ⟨w.heap.size + 1, 0, none⟩ = some (.int .i64 c) ∧ w'.cell? ⟨w.heap.size + 1, 1, none⟩ = some (.int .i64 d) ∧ w'.cell? ⟨X3, 0, none⟩ = some (.int .i64 (lim (lim a + lim c))) ∧ w'.cell? ⟨X3, 1, none⟩ = some (.int .i64 (lim (lim b + lim d))) ∧ w'.cell? ⟨X4, 0, none⟩ = some (.int .i64 (lim (lim a - lim c))) ∧ w'.cell? ⟨X4, 1, none⟩ = some (.int .i64 (lim (lim b - lim d))) ∧ w'.cell? ⟨X5, 0, none⟩ = some (.int .i64 (thr a n 65536)) ∧ w'.cell? ⟨X5, 1, none⟩ = some (.int .i64 (thr b n 65536)) ∧ Below w.heap.size w w')
          (first | exact ⟨s11, s12, s21, s22, s31, s32, s41, s42, s51, s52, hB.drew⟩ | exact keep10 (by assumption) (by assumption))
          (first
            | (go_at_call 47; refine (vec_Add _ _ _ _ _).mono ?_; rintro e w8 ⟨rfl, hb8⟩)
            | (go_at_call 48; refine (vec_Sub _ _ _ _ _).mono ?_; rintro e w8 ⟨rfl, hb8⟩)
            | (go_at_call 49; refine (vec_Scale _ _ _ _).mono ?_; rintro e w8 ⟨rfl, hb8⟩)
            | (go_at_call 50; refine (vec_Dot _ _ _ _ _).mono ?_; rintro e w8 ⟨rfl, hb8⟩)
            | (go_at_call 51; refine (vec_Cross _ _ _ _ _).mono ?_; rintro e w8 ⟨rfl, hb8⟩)
            | (go_at_call 46; refine (vec_Turn _ _ _ _).mono ?_; rintro e w8 ⟨rfl, hb8⟩)
            | (go_at_call 52; refine (ref_Turned _ _ _ _).mono ?_; rintro e w8 ⟨rfl, hb8⟩)
            | (go_at_call 44; refine (ref_Product _ _ _).mono ?_; rintro e w8 ⟨rfl, hb8⟩)
            | (go_at_call 41; refine (ref_Sum _ _ _).mono ?_; rintro e w8 ⟨rfl, hb8⟩; have hb8 := below_of_eq hb8)
            | (go_at_call 43; refine (ref_Less _ _ _).mono ?_; rintro e w8 ⟨rfl, hb8⟩; have hb8 := below_of_eq hb8))
        go_wp2
        go_ret
        exact ⟨rfl, last10 (by assumption)⟩
end Go.Proofs.Ytehpfkmaikbjkaa
