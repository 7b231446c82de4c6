/- quat.Mul. -/
import Derived.Test.YtehpfkmaikbjkaaMulDiv
import Derived.Test.YtehpfkmaikbjkaaQuatU
import Derived.Test.YtehpfkmaikbjkaaRegMore
import Derived.IntWalk
namespace Go.Proofs.Ytehpfkmaikbjkaa
open Go.ChangeShapes Go.WideShapes Go.ChangeAt Go.RowKit Go.Mem Go.Nb
set_option linter.unusedVariables false
def qm (x y : Int) : Int := thr x y 65536
theorem qm_bd (x y : Int) : -1099511627776 ≤ qm x y ∧ qm x y ≤ 1099511627776 := by
  unfold qm thr
  split
  · omega
  · exact lim_bd _
theorem fix_Mul' (a b : Int) (w : World) : Calls Try.prog 36 #[.int .i64 a, .int .i64 b] w fun e w' => e = .returned (.int .i64 (qm a b)) ∧ Below w.heap.size w w' := fix_Mul a b w
theorem ref_Product' (a b : Int) (w : World) : Calls Try.prog 44 #[.int .i64 a, .int .i64 b] w fun e w' => e = .returned (.int .i64 (qm a b)) ∧ Below w.heap.size w w' := ref_Product a b w
theorem keepc {w w' : World} {p : Addr} {v : Value} (hb : Below w.heap.size w w') (h : w.cell? p = some v) : w'.cell? p = some v := (hb.cell (World.block_lt_of_cell? w _ h)).trans h
theorem neg_run (x : Int) (h : -1099511627776 ≤ x ∧ x ≤ 1099511627776) (w : World) : (Op.unary .neg (.int .i64 x)).run Try.prog w = .ok (.int .i64 (-x)) w := by
  go_simp
  exact IntWalk.i64_in _ (by omega)
theorem ones4 (a b c d : Int) : (#[Value.int .i64 a, .int .i64 b, .int .i64 c, .int .i64 d].all fun x => x.oneCell') = true := by simp [Value.oneCell']
def mulL (a b c d p q r s : Int) : Nat → List Int
  | 0 => [qm a p, -qm b q, -qm c r, -qm d s]
  | 1 => [qm a q, qm b p, qm c s, -qm d r]
  | 2 => [qm a r, -qm b s, qm c p, qm d q]
  | _ => [qm a s, qm b r, -qm c q, qm d p]
def mulq (a b c d p q r s : Int) (i : Nat) : Int := qsum (mulL a b c d p q r s i)
def F_quatMul (BB : Nat) (a b c d p q r s : Int) (j : Nat) (v : Value) (w : World) : Prop := if j = 27 then NewInts [(qm a p), (-(qm b q)), (-(qm c r)), (-(qm d s))] v w else if j = 54 then NewInts [(qm a q), (qm b p), (qm c s), (-(qm d r))] v w else if j = 81 then NewInts [(qm a r), (-(qm b s)), (qm c p), (qm d q)] v w else if j = 108 then NewInts [(qm a s), (qm b r), (-(qm c q)), (qm d p)] v w else v = ([.func (.func 36) #[] #[], .pointer (some ⟨BB, 0, none⟩), .int .i64 a, .pointer (some ⟨BB + 1, 0, none⟩), .int .i64 p, .int .i64 (qm a p), .func (.func 36) #[] #[], .pointer (some ⟨BB, 1, none⟩), .int .i64 b, .pointer (some ⟨BB + 1, 1, none⟩), .int .i64 q, .int .i64 (qm b q), .int .i64 (-(qm b q)), .func (.func 36) #[] #[], .pointer (some ⟨BB, 2, none⟩), .int .i64 c, .pointer (some ⟨BB + 1, 2, none⟩), .int .i64 r, .int .i64 (qm c r), .int .i64 (-(qm c r)), .func (.func 36) #[] #[], .pointer (some ⟨BB, 3, none⟩), .int .i64 d, .pointer (some ⟨BB + 1, 3, none⟩), .int .i64 s, .int .i64 (qm d s), .int .i64 (-(qm d s)), undef, .int .i64 (qsum [(qm a p), (-(qm b q)), (-(qm c r)), (-(qm d s))]), .func (.func 36) #[] #[], .pointer (some ⟨BB, 0, none⟩), .int .i64 a, .pointer (some ⟨BB + 1, 1, none⟩), .int .i64 q, .int .i64 (qm a q), .func (.func 36) #[] #[], .pointer (some ⟨BB, 1, none⟩), .int .i64 b, .pointer (some ⟨BB + 1, 0, none⟩), .int .i64 p, .int .i64 (qm b p), .func (.func 36) #[] #[], .pointer (some ⟨BB, 2, none⟩), .int .i64 c, .pointer (some ⟨BB + 1, 3, none⟩), .int .i64 s, .int .i64 (qm c s), .func (.func 36) #[] #[], .pointer (some ⟨BB, 3, none⟩), .int .i64 d, .pointer (some ⟨BB + 1, 2, none⟩), .int .i64 r, .int .i64 (qm d r), .int .i64 (-(qm d r)), undef, .int .i64 (qsum [(qm a q), (qm b p), (qm c s), (-(qm d r))]), .func (.func 36) #[] #[], .pointer (some ⟨BB, 0, none⟩), .int .i64 a, .pointer (some ⟨BB + 1, 2, none⟩), .int .i64 r, .int .i64 (qm a r), .func (.func 36) #[] #[], .pointer (some ⟨BB, 1, none⟩), .int .i64 b, .pointer (some ⟨BB + 1, 3, none⟩), .int .i64 s, .int .i64 (qm b s), .int .i64 (-(qm b s)), .func (.func 36) #[] #[], .pointer (some ⟨BB, 2, none⟩), .int .i64 c, .pointer (some ⟨BB + 1, 0, none⟩), .int .i64 p, .int .i64 (qm c p), .func (.func 36) #[] #[], .pointer (some ⟨BB, 3, none⟩), .int .i64 d, .pointer (some ⟨BB + 1, 1, none⟩), .int .i64 q, .int .i64 (qm d q), undef, .int .i64 (qsum [(qm a r), (-(qm b s)), (qm c p), (qm d q)]), .func (.func 36) #[] #[], .pointer (some ⟨BB, 0, none⟩), .int .i64 a, .pointer (some ⟨BB + 1, 3, none⟩), .int .i64 s, .int .i64 (qm a s), .func (.func 36) #[] #[], .pointer (some ⟨BB, 1, none⟩), .int .i64 b, .pointer (some ⟨BB + 1, 2, none⟩), .int .i64 r, .int .i64 (qm b r), .func (.func 36) #[] #[], .pointer (some ⟨BB, 2, none⟩), .int .i64 c, .pointer (some ⟨BB + 1, 1, none⟩), .int .i64 q, .int .i64 (qm c q), .int .i64 (-(qm c q)), .func (.func 36) #[] #[], .pointer (some ⟨BB, 3, none⟩), .int .i64 d, .pointer (some ⟨BB + 1, 0, none⟩), .int .i64 p, .int .i64 (qm d p), undef, .int .i64 (qsum [(qm a s), (qm b r), (-(qm c q)), (qm d p)]), .agg #[.int .i64 (qsum [(qm a p), (-(qm b q)), (-(qm c r)), (-(qm d s))]), .int .i64 (qsum [(qm a q), (qm b p), (qm c s), (-(qm d r))]), .int .i64 (qsum [(qm a r), (-(qm b s)), (qm c p), (qm d q)]), .int .i64 (qsum [(qm a s), (qm b r), (-(qm c q)), (qm d p)])]] : List Value).getD j undef
theorem F_quatMul_mono (BB : Nat) (a b c d p q r s : Int) : Facts (F_quatMul BB a b c d p q r s) := ⟨by
  intro j v w w' h hb
  unfold F_quatMul at *
  repeat' split
  all_goals first | (simp_all; done) | (simp_all; exact NewInts.mono (by assumption) hb)⟩
set_option maxHeartbeats 8000000 in
set_option maxRecDepth 100000 in
theorem quat_Mul (a b c d p q r s : Int) (w : World) : Calls Try.prog 53 #[.agg #[.int .i64 a, .int .i64 b, .int .i64 c, .int .i64 d], .agg #[.int .i64 p, .int .i64 q, .int .i64 r, .int .i64 s]] w fun e w' => e = .returned (.agg #[.int .i64 (mulq a b c d p q r s 0), .int .i64 (mulq a b c d p q r s 1), .int .i64 (mulq a b c d p q r s 2), .int .i64 (mulq a b c d p q r s 3)]) ∧ Below w.heap.size w w' := by
  go_enter Try.func53, Try.ntmps53
  go_wp2_with fail
  have t1 := ((four_new 62 w a b c d).alloc (.cells #[.int .i64 p, .int .i64 q, .int .i64 r, .int .i64 s] 62)).alloc (.cells #[.int .i64 0, .int .i64 0, .int .i64 0, .int .i64 0] 62)
  have t2 := (four_new2 62 w (.cells #[.int .i64 a, .int .i64 b, .int .i64 c, .int .i64 d] 62) p q r s).alloc (.cells #[.int .i64 0, .int .i64 0, .int .i64 0, .int .i64 0] 62)
  have t3 := four_new2 62 (w.alloc (.cells #[.int .i64 a, .int .i64 b, .int .i64 c, .int .i64 d] 62)) (.cells #[.int .i64 p, .int .i64 q, .int .i64 r, .int .i64 s] 62) 0 0 0 0
  have hB := ((((Below.refl w.heap.size w).alloc (Nat.le_refl _) (.cells #[.int .i64 a, .int .i64 b, .int .i64 c, .int .i64 d] 62)).alloc (by simp) (.cells #[.int .i64 p, .int .i64 q, .int .i64 r, .int .i64 s] 62)).alloc (by simp; omega) (.cells #[.int .i64 0, .int .i64 0, .int .i64 0, .int .i64 0] 62))
  rw [World.size_alloc] at t3
  generalize ((w.alloc (.cells #[.int .i64 a, .int .i64 b, .int .i64 c, .int .i64 d] 62)).alloc (.cells #[.int .i64 p, .int .i64 q, .int .i64 r, .int .i64 s] 62)).alloc (.cells #[.int .i64 0, .int .i64 0, .int .i64 0, .int .i64 0] 62) = W0 at *
  refine wp_region_facts rfl 111 (by kernel_rfl) (F_quatMul w.heap.size a b c d p q r s) (F_quatMul_mono w.heap.size a b c d p q r s) ?_ ?_
  · refine ⟨?_, ?_, ?_, ?_, ?_, ?_, ?_, ?_, ?_, ?_, ?_, ?_, ?_, ?_, ?_, ?_, ?_, ?_, ?_, ?_, ?_, ?_, ?_, ?_, ?_, ?_, ?_, ?_, ?_, ?_, ?_, ?_, ?_, ?_, ?_, ?_, ?_, ?_, ?_, ?_, ?_, ?_, ?_, ?_, ?_, ?_, ?_, ?_, ?_, ?_, ?_, ?_, ?_, ?_, ?_, ?_, ?_, ?_, ?_, ?_, ?_, ?_, ?_, ?_, ?_, ?_, ?_, ?_, ?_, ?_, ?_, ?_, ?_, ?_, ?_, ?_, ?_, ?_, ?_, ?_, ?_, ?_, ?_, ?_, ?_, ?_, ?_, ?_, ?_, ?_, ?_, ?_, ?_, ?_, ?_, ?_, ?_, ?_, ?_, ?_, ?_, ?_, ?_, ?_, ?_, ?_, ?_, ?_, ?_, ?_, ?_, trivial⟩
    · intro vs w' F hb hd hF hl
      have e := (hF 5).trans (look_out _ 5 _ _ (by kernel_rfl))
      exact one_move _ rfl (by first | exact Or.inl rfl | exact Or.inr rfl) ⟨_, rfl, Below.refl _ _, e⟩
    · intro vs w' F hb hd hF hl
      have e := (hF 2).trans (look_out _ 2 _ _ (by kernel_rfl))
      exact one_field _ _ _ rfl rfl _ _ e _ (fun w => by kernel_rfl) ⟨_, rfl, Below.refl _ _, rfl⟩
    · intro vs w' F hb hd hF hl
      have e := (hF 7).trans ((look_at _ 7 1 _ _ (by kernel_rfl) (by kernel_rfl) hl).trans (dep_of (Fact := F_quatMul w.heap.size a b c d p q r s) hd 1 (by kernel_rfl)))
      exact one_load _ _ rfl rfl _ _ e ((t1.mono hb).c0) (by kernel_rfl) ⟨_, rfl, Below.refl _ _, rfl⟩
    · intro vs w' F hb hd hF hl
      have e := (hF 3).trans (look_out _ 3 _ _ (by kernel_rfl))
      exact one_field _ _ _ rfl rfl _ _ e _ (fun w => by kernel_rfl) ⟨_, rfl, Below.refl _ _, rfl⟩
    · intro vs w' F hb hd hF hl
      have e := (hF 9).trans ((look_at _ 9 3 _ _ (by kernel_rfl) (by kernel_rfl) hl).trans (dep_of (Fact := F_quatMul w.heap.size a b c d p q r s) hd 3 (by kernel_rfl)))
      exact one_load _ _ rfl rfl _ _ e ((t2.mono hb).c0) (by kernel_rfl) ⟨_, rfl, Below.refl _ _, rfl⟩
    · intro vs w' F hb hd hF hl
      have ef := (hF 6).trans ((look_at _ 6 0 _ _ (by kernel_rfl) (by kernel_rfl) hl).trans (dep_of (Fact := F_quatMul w.heap.size a b c d p q r s) hd 0 (by kernel_rfl)))
      refine one_callv _ _ _ rfl rfl ef (enters_of Try.func36 (by kernel_rfl) rfl) #[.int .i64 a, .int .i64 p] (eval2 ((hF 8).trans ((look_at _ 8 2 _ _ (by kernel_rfl) (by kernel_rfl) hl).trans (dep_of (Fact := F_quatMul w.heap.size a b c d p q r s) hd 2 (by kernel_rfl)))) ((hF 10).trans ((look_at _ 10 4 _ _ (by kernel_rfl) (by kernel_rfl) hl).trans (dep_of (Fact := F_quatMul w.heap.size a b c d p q r s) hd 4 (by kernel_rfl))))) ?_
      refine (fix_Mul' a p _).mono ?_
      rintro e w2 ⟨rfl, hb2⟩
      exact ⟨_, rfl, _, rfl, hb2, rfl⟩
    · intro vs w' F hb hd hF hl
      have e := (hF 5).trans (look_out _ 5 _ _ (by kernel_rfl))
      exact one_move _ rfl (by first | exact Or.inl rfl | exact Or.inr rfl) ⟨_, rfl, Below.refl _ _, e⟩
    · intro vs w' F hb hd hF hl
      have e := (hF 2).trans (look_out _ 2 _ _ (by kernel_rfl))
      exact one_field _ _ _ rfl rfl _ _ e _ (fun w => by kernel_rfl) ⟨_, rfl, Below.refl _ _, rfl⟩
    · intro vs w' F hb hd hF hl
      have e := (hF 13).trans ((look_at _ 13 7 _ _ (by kernel_rfl) (by kernel_rfl) hl).trans (dep_of (Fact := F_quatMul w.heap.size a b c d p q r s) hd 7 (by kernel_rfl)))
      exact one_load _ _ rfl rfl _ _ e ((t1.mono hb).c1) (by kernel_rfl) ⟨_, rfl, Below.refl _ _, rfl⟩
    · intro vs w' F hb hd hF hl
      have e := (hF 3).trans (look_out _ 3 _ _ (by kernel_rfl))
      exact one_field _ _ _ rfl rfl _ _ e _ (fun w => by kernel_rfl) ⟨_, rfl, Below.refl _ _, rfl⟩
    · intro vs w' F hb hd hF hl
      have e := (hF 15).trans ((look_at _ 15 9 _ _ (by kernel_rfl) (by kernel_rfl) hl).trans (dep_of (Fact := F_quatMul w.heap.size a b c d p q r s) hd 9 (by kernel_rfl)))
      exact one_load _ _ rfl rfl _ _ e ((t2.mono hb).c1) (by kernel_rfl) ⟨_, rfl, Below.refl _ _, rfl⟩
    · intro vs w' F hb hd hF hl
      have ef := (hF 12).trans ((look_at _ 12 6 _ _ (by kernel_rfl) (by kernel_rfl) hl).trans (dep_of (Fact := F_quatMul w.heap.size a b c d p q r s) hd 6 (by kernel_rfl)))
      refine one_callv _ _ _ rfl rfl ef (enters_of Try.func36 (by kernel_rfl) rfl) #[.int .i64 b, .int .i64 q] (eval2 ((hF 14).trans ((look_at _ 14 8 _ _ (by kernel_rfl) (by kernel_rfl) hl).trans (dep_of (Fact := F_quatMul w.heap.size a b c d p q r s) hd 8 (by kernel_rfl)))) ((hF 16).trans ((look_at _ 16 10 _ _ (by kernel_rfl) (by kernel_rfl) hl).trans (dep_of (Fact := F_quatMul w.heap.size a b c d p q r s) hd 10 (by kernel_rfl))))) ?_
      refine (fix_Mul' b q _).mono ?_
      rintro e w2 ⟨rfl, hb2⟩
      exact ⟨_, rfl, _, rfl, hb2, rfl⟩
    · intro vs w' F hb hd hF hl
      have e := (hF 17).trans ((look_at _ 17 11 _ _ (by kernel_rfl) (by kernel_rfl) hl).trans (dep_of (Fact := F_quatMul w.heap.size a b c d p q r s) hd 11 (by kernel_rfl)))
      exact one_unop .neg 3 _ rfl rfl _ _ e (fun w => neg_run _ (by exact qm_bd _ _) w) ⟨_, rfl, Below.refl _ _, rfl⟩
    · intro vs w' F hb hd hF hl
      have e := (hF 5).trans (look_out _ 5 _ _ (by kernel_rfl))
      exact one_move _ rfl (by first | exact Or.inl rfl | exact Or.inr rfl) ⟨_, rfl, Below.refl _ _, e⟩
    · intro vs w' F hb hd hF hl
      have e := (hF 2).trans (look_out _ 2 _ _ (by kernel_rfl))
      exact one_field _ _ _ rfl rfl _ _ e _ (fun w => by kernel_rfl) ⟨_, rfl, Below.refl _ _, rfl⟩
    · intro vs w' F hb hd hF hl
      have e := (hF 20).trans ((look_at _ 20 14 _ _ (by kernel_rfl) (by kernel_rfl) hl).trans (dep_of (Fact := F_quatMul w.heap.size a b c d p q r s) hd 14 (by kernel_rfl)))
      exact one_load _ _ rfl rfl _ _ e ((t1.mono hb).c2) (by kernel_rfl) ⟨_, rfl, Below.refl _ _, rfl⟩
    · intro vs w' F hb hd hF hl
      have e := (hF 3).trans (look_out _ 3 _ _ (by kernel_rfl))
      exact one_field _ _ _ rfl rfl _ _ e _ (fun w => by kernel_rfl) ⟨_, rfl, Below.refl _ _, rfl⟩
    · intro vs w' F hb hd hF hl
      have e := (hF 22).trans ((look_at _ 22 16 _ _ (by kernel_rfl) (by kernel_rfl) hl).trans (dep_of (Fact := F_quatMul w.heap.size a b c d p q r s) hd 16 (by kernel_rfl)))
      exact one_load _ _ rfl rfl _ _ e ((t2.mono hb).c2) (by kernel_rfl) ⟨_, rfl, Below.refl _ _, rfl⟩
    · intro vs w' F hb hd hF hl
      have ef := (hF 19).trans ((look_at _ 19 13 _ _ (by kernel_rfl) (by kernel_rfl) hl).trans (dep_of (Fact := F_quatMul w.heap.size a b c d p q r s) hd 13 (by kernel_rfl)))
      refine one_callv _ _ _ rfl rfl ef (enters_of Try.func36 (by kernel_rfl) rfl) #[.int .i64 c, .int .i64 r] (eval2 ((hF 21).trans ((look_at _ 21 15 _ _ (by kernel_rfl) (by kernel_rfl) hl).trans (dep_of (Fact := F_quatMul w.heap.size a b c d p q r s) hd 15 (by kernel_rfl)))) ((hF 23).trans ((look_at _ 23 17 _ _ (by kernel_rfl) (by kernel_rfl) hl).trans (dep_of (Fact := F_quatMul w.heap.size a b c d p q r s) hd 17 (by kernel_rfl))))) ?_
      refine (fix_Mul' c r _).mono ?_
      rintro e w2 ⟨rfl, hb2⟩
      exact ⟨_, rfl, _, rfl, hb2, rfl⟩
    · intro vs w' F hb hd hF hl
      have e := (hF 24).trans ((look_at _ 24 18 _ _ (by kernel_rfl) (by kernel_rfl) hl).trans (dep_of (Fact := F_quatMul w.heap.size a b c d p q r s) hd 18 (by kernel_rfl)))
      exact one_unop .neg 3 _ rfl rfl _ _ e (fun w => neg_run _ (by exact qm_bd _ _) w) ⟨_, rfl, Below.refl _ _, rfl⟩
    · intro vs w' F hb hd hF hl
      have e := (hF 5).trans (look_out _ 5 _ _ (by kernel_rfl))
      exact one_move _ rfl (by first | exact Or.inl rfl | exact Or.inr rfl) ⟨_, rfl, Below.refl _ _, e⟩
    · intro vs w' F hb hd hF hl
      have e := (hF 2).trans (look_out _ 2 _ _ (by kernel_rfl))
      exact one_field _ _ _ rfl rfl _ _ e _ (fun w => by kernel_rfl) ⟨_, rfl, Below.refl _ _, rfl⟩
    · intro vs w' F hb hd hF hl
      have e := (hF 27).trans ((look_at _ 27 21 _ _ (by kernel_rfl) (by kernel_rfl) hl).trans (dep_of (Fact := F_quatMul w.heap.size a b c d p q r s) hd 21 (by kernel_rfl)))
      exact one_load _ _ rfl rfl _ _ e ((t1.mono hb).c3) (by kernel_rfl) ⟨_, rfl, Below.refl _ _, rfl⟩
    · intro vs w' F hb hd hF hl
      have e := (hF 3).trans (look_out _ 3 _ _ (by kernel_rfl))
      exact one_field _ _ _ rfl rfl _ _ e _ (fun w => by kernel_rfl) ⟨_, rfl, Below.refl _ _, rfl⟩
    · intro vs w' F hb hd hF hl
      have e := (hF 29).trans ((look_at _ 29 23 _ _ (by kernel_rfl) (by kernel_rfl) hl).trans (dep_of (Fact := F_quatMul w.heap.size a b c d p q r s) hd 23 (by kernel_rfl)))
      exact one_load _ _ rfl rfl _ _ e ((t2.mono hb).c3) (by kernel_rfl) ⟨_, rfl, Below.refl _ _, rfl⟩
    · intro vs w' F hb hd hF hl
      have ef := (hF 26).trans ((look_at _ 26 20 _ _ (by kernel_rfl) (by kernel_rfl) hl).trans (dep_of (Fact := F_quatMul w.heap.size a b c d p q r s) hd 20 (by kernel_rfl)))
      refine one_callv _ _ _ rfl rfl ef (enters_of Try.func36 (by kernel_rfl) rfl) #[.int .i64 d, .int .i64 s] (eval2 ((hF 28).trans ((look_at _ 28 22 _ _ (by kernel_rfl) (by kernel_rfl) hl).trans (dep_of (Fact := F_quatMul w.heap.size a b c d p q r s) hd 22 (by kernel_rfl)))) ((hF 30).trans ((look_at _ 30 24 _ _ (by kernel_rfl) (by kernel_rfl) hl).trans (dep_of (Fact := F_quatMul w.heap.size a b c d p q r s) hd 24 (by kernel_rfl))))) ?_
      refine (fix_Mul' d s _).mono ?_
      rintro e w2 ⟨rfl, hb2⟩
      exact ⟨_, rfl, _, rfl, hb2, rfl⟩
    · intro vs w' F hb hd hF hl
      have e := (hF 31).trans ((look_at _ 31 25 _ _ (by kernel_rfl) (by kernel_rfl) hl).trans (dep_of (Fact := F_quatMul w.heap.size a b c d p q r s) hd 25 (by kernel_rfl)))
      exact one_unop .neg 3 _ rfl rfl _ _ e (fun w => neg_run _ (by exact qm_bd _ _) w) ⟨_, rfl, Below.refl _ _, rfl⟩
    · intro vs w' F hb hd hF hl
      have e0 := (hF 11).trans ((look_at _ 11 5 _ _ (by kernel_rfl) (by kernel_rfl) hl).trans (dep_of (Fact := F_quatMul w.heap.size a b c d p q r s) hd 5 (by kernel_rfl)))
      have e1 := (hF 18).trans ((look_at _ 18 12 _ _ (by kernel_rfl) (by kernel_rfl) hl).trans (dep_of (Fact := F_quatMul w.heap.size a b c d p q r s) hd 12 (by kernel_rfl)))
      have e2 := (hF 25).trans ((look_at _ 25 19 _ _ (by kernel_rfl) (by kernel_rfl) hl).trans (dep_of (Fact := F_quatMul w.heap.size a b c d p q r s) hd 19 (by kernel_rfl)))
      have e3 := (hF 32).trans ((look_at _ 32 26 _ _ (by kernel_rfl) (by kernel_rfl) hl).trans (dep_of (Fact := F_quatMul w.heap.size a b c d p q r s) hd 26 (by kernel_rfl)))
      exact one_slice4 38 _ _ _ _ _ rfl rfl _ _ _ _ e0 e1 e2 e3 Try.underlying38 (by kernel_rfl) ⟨_, rfl, (Below.refl _ _).alloc (Nat.le_refl _) _, ⟨_, rfl, ints4_new _ _ _ _ _⟩⟩
    · intro vs w' F hb hd hF hl
      obtain ⟨X, hX, hXi⟩ : NewInts [(qm a p), (-(qm b q)), (-(qm c r)), (-(qm d s))] (vs.getD 27 undef) w' := dep_of (Fact := F_quatMul w.heap.size a b c d p q r s) hd 27 (by kernel_rfl)
      have e := (hF 33).trans ((look_at _ 33 27 _ _ (by kernel_rfl) (by kernel_rfl) hl).trans hX)
      refine one_call _ _ rfl rfl (enters_of Try.func88 (by kernel_rfl) rfl) #[.slice (some ⟨X, 0, none⟩) 4 4] (eval1 e) ?_
      refine (quat_sum [(qm a p), (-(qm b q)), (-(qm c r)), (-(qm d s))] _ 4 4 rfl (by decide) _ hXi).mono ?_
      rintro e w2 ⟨rfl, rfl⟩
      exact ⟨_, rfl, _, rfl, Below.refl _ _, rfl⟩
    · intro vs w' F hb hd hF hl
      have e := (hF 5).trans (look_out _ 5 _ _ (by kernel_rfl))
      exact one_move _ rfl (by first | exact Or.inl rfl | exact Or.inr rfl) ⟨_, rfl, Below.refl _ _, e⟩
    · intro vs w' F hb hd hF hl
      have e := (hF 2).trans (look_out _ 2 _ _ (by kernel_rfl))
      exact one_field _ _ _ rfl rfl _ _ e _ (fun w => by kernel_rfl) ⟨_, rfl, Below.refl _ _, rfl⟩
    · intro vs w' F hb hd hF hl
      have e := (hF 36).trans ((look_at _ 36 30 _ _ (by kernel_rfl) (by kernel_rfl) hl).trans (dep_of (Fact := F_quatMul w.heap.size a b c d p q r s) hd 30 (by kernel_rfl)))
      exact one_load _ _ rfl rfl _ _ e ((t1.mono hb).c0) (by kernel_rfl) ⟨_, rfl, Below.refl _ _, rfl⟩
    · intro vs w' F hb hd hF hl
      have e := (hF 3).trans (look_out _ 3 _ _ (by kernel_rfl))
      exact one_field _ _ _ rfl rfl _ _ e _ (fun w => by kernel_rfl) ⟨_, rfl, Below.refl _ _, rfl⟩
    · intro vs w' F hb hd hF hl
      have e := (hF 38).trans ((look_at _ 38 32 _ _ (by kernel_rfl) (by kernel_rfl) hl).trans (dep_of (Fact := F_quatMul w.heap.size a b c d p q r s) hd 32 (by kernel_rfl)))
      exact one_load _ _ rfl rfl _ _ e ((t2.mono hb).c1) (by kernel_rfl) ⟨_, rfl, Below.refl _ _, rfl⟩
    · intro vs w' F hb hd hF hl
      have ef := (hF 35).trans ((look_at _ 35 29 _ _ (by kernel_rfl) (by kernel_rfl) hl).trans (dep_of (Fact := F_quatMul w.heap.size a b c d p q r s) hd 29 (by kernel_rfl)))
      refine one_callv _ _ _ rfl rfl ef (enters_of Try.func36 (by kernel_rfl) rfl) #[.int .i64 a, .int .i64 q] (eval2 ((hF 37).trans ((look_at _ 37 31 _ _ (by kernel_rfl) (by kernel_rfl) hl).trans (dep_of (Fact := F_quatMul w.heap.size a b c d p q r s) hd 31 (by kernel_rfl)))) ((hF 39).trans ((look_at _ 39 33 _ _ (by kernel_rfl) (by kernel_rfl) hl).trans (dep_of (Fact := F_quatMul w.heap.size a b c d p q r s) hd 33 (by kernel_rfl))))) ?_
      refine (fix_Mul' a q _).mono ?_
      rintro e w2 ⟨rfl, hb2⟩
      exact ⟨_, rfl, _, rfl, hb2, rfl⟩
    · intro vs w' F hb hd hF hl
      have e := (hF 5).trans (look_out _ 5 _ _ (by kernel_rfl))
      exact one_move _ rfl (by first | exact Or.inl rfl | exact Or.inr rfl) ⟨_, rfl, Below.refl _ _, e⟩
    · intro vs w' F hb hd hF hl
      have e := (hF 2).trans (look_out _ 2 _ _ (by kernel_rfl))
      exact one_field _ _ _ rfl rfl _ _ e _ (fun w => by kernel_rfl) ⟨_, rfl, Below.refl _ _, rfl⟩
    · intro vs w' F hb hd hF hl
      have e := (hF 42).trans ((look_at _ 42 36 _ _ (by kernel_rfl) (by kernel_rfl) hl).trans (dep_of (Fact := F_quatMul w.heap.size a b c d p q r s) hd 36 (by kernel_rfl)))
      exact one_load _ _ rfl rfl _ _ e ((t1.mono hb).c1) (by kernel_rfl) ⟨_, rfl, Below.refl _ _, rfl⟩
    · intro vs w' F hb hd hF hl
      have e := (hF 3).trans (look_out _ 3 _ _ (by kernel_rfl))
      exact one_field _ _ _ rfl rfl _ _ e _ (fun w => by kernel_rfl) ⟨_, rfl, Below.refl _ _, rfl⟩
    · intro vs w' F hb hd hF hl
      have e := (hF 44).trans ((look_at _ 44 38 _ _ (by kernel_rfl) (by kernel_rfl) hl).trans (dep_of (Fact := F_quatMul w.heap.size a b c d p q r s) hd 38 (by kernel_rfl)))
      exact one_load _ _ rfl rfl _ _ e ((t2.mono hb).c0) (by kernel_rfl) ⟨_, rfl, Below.refl _ _, rfl⟩
    · intro vs w' F hb hd hF hl
      have ef := (hF 41).trans ((look_at _ 41 35 _ _ (by kernel_rfl) (by kernel_rfl) hl).trans (dep_of (Fact := F_quatMul w.heap.size a b c d p q r s) hd 35 (by kernel_rfl)))
      refine one_callv _ _ _ rfl rfl ef (enters_of Try.func36 (by kernel_rfl) rfl) #[.int .i64 b, .int .i64 p] (eval2 ((hF 43).trans ((look_at _ 43 37 _ _ (by kernel_rfl) (by kernel_rfl) hl).trans (dep_of (Fact := F_quatMul w.heap.size a b c d p q r s) hd 37 (by kernel_rfl)))) ((hF 45).trans ((look_at _ 45 39 _ _ (by kernel_rfl) (by kernel_rfl) hl).trans (dep_of (Fact := F_quatMul w.heap.size a b c d p q r s) hd 39 (by kernel_rfl))))) ?_
      refine (fix_Mul' b p _).mono ?_
      rintro e w2 ⟨rfl, hb2⟩
      exact ⟨_, rfl, _, rfl, hb2, rfl⟩
    · intro vs w' F hb hd hF hl
      have e := (hF 5).trans (look_out _ 5 _ _ (by kernel_rfl))
      exact one_move _ rfl (by first | exact Or.inl rfl | exact Or.inr rfl) ⟨_, rfl, Below.refl _ _, e⟩
    · intro vs w' F hb hd hF hl
      have e := (hF 2).trans (look_out _ 2 _ _ (by kernel_rfl))
      exact one_field _ _ _ rfl rfl _ _ e _ (fun w => by kernel_rfl) ⟨_, rfl, Below.refl _ _, rfl⟩
    · intro vs w' F hb hd hF hl
      have e := (hF 48).trans ((look_at _ 48 42 _ _ (by kernel_rfl) (by kernel_rfl) hl).trans (dep_of (Fact := F_quatMul w.heap.size a b c d p q r s) hd 42 (by kernel_rfl)))
      exact one_load _ _ rfl rfl _ _ e ((t1.mono hb).c2) (by kernel_rfl) ⟨_, rfl, Below.refl _ _, rfl⟩
    · intro vs w' F hb hd hF hl
      have e := (hF 3).trans (look_out _ 3 _ _ (by kernel_rfl))
      exact one_field _ _ _ rfl rfl _ _ e _ (fun w => by kernel_rfl) ⟨_, rfl, Below.refl _ _, rfl⟩
    · intro vs w' F hb hd hF hl
      have e := (hF 50).trans ((look_at _ 50 44 _ _ (by kernel_rfl) (by kernel_rfl) hl).trans (dep_of (Fact := F_quatMul w.heap.size a b c d p q r s) hd 44 (by kernel_rfl)))
      exact one_load _ _ rfl rfl _ _ e ((t2.mono hb).c3) (by kernel_rfl) ⟨_, rfl, Below.refl _ _, rfl⟩
    · intro vs w' F hb hd hF hl
      have ef := (hF 47).trans ((look_at _ 47 41 _ _ (by kernel_rfl) (by kernel_rfl) hl).trans (dep_of (Fact := F_quatMul w.heap.size a b c d p q r s) hd 41 (by kernel_rfl)))
      refine one_callv _ _ _ rfl rfl ef (enters_of Try.func36 (by kernel_rfl) rfl) #[.int .i64 c, .int .i64 s] (eval2 ((hF 49).trans ((look_at _ 49 43 _ _ (by kernel_rfl) (by kernel_rfl) hl).trans (dep_of (Fact := F_quatMul w.heap.size a b c d p q r s) hd 43 (by kernel_rfl)))) ((hF 51).trans ((look_at _ 51 45 _ _ (by kernel_rfl) (by kernel_rfl) hl).trans (dep_of (Fact := F_quatMul w.heap.size a b c d p q r s) hd 45 (by kernel_rfl))))) ?_
      refine (fix_Mul' c s _).mono ?_
      rintro e w2 ⟨rfl, hb2⟩
      exact ⟨_, rfl, _, rfl, hb2, rfl⟩
    · intro vs w' F hb hd hF hl
      have e := (hF 5).trans (look_out _ 5 _ _ (by kernel_rfl))
      exact one_move _ rfl (by first | exact Or.inl rfl | exact Or.inr rfl) ⟨_, rfl, Below.refl _ _, e⟩
    · intro vs w' F hb hd hF hl
      have e := (hF 2).trans (look_out _ 2 _ _ (by kernel_rfl))
      exact one_field _ _ _ rfl rfl _ _ e _ (fun w => by kernel_rfl) ⟨_, rfl, Below.refl _ _, rfl⟩
    · intro vs w' F hb hd hF hl
      have e := (hF 54).trans ((look_at _ 54 48 _ _ (by kernel_rfl) (by kernel_rfl) hl).trans (dep_of (Fact := F_quatMul w.heap.size a b c d p q r s) hd 48 (by kernel_rfl)))
      exact one_load _ _ rfl rfl _ _ e ((t1.mono hb).c3) (by kernel_rfl) ⟨_, rfl, Below.refl _ _, rfl⟩
    · intro vs w' F hb hd hF hl
      have e := (hF 3).trans (look_out _ 3 _ _ (by kernel_rfl))
      exact one_field _ _ _ rfl rfl _ _ e _ (fun w => by kernel_rfl) ⟨_, rfl, Below.refl _ _, rfl⟩
    · intro vs w' F hb hd hF hl
      have e := (hF 56).trans ((look_at _ 56 50 _ _ (by kernel_rfl) (by kernel_rfl) hl).trans (dep_of (Fact := F_quatMul w.heap.size a b c d p q r s) hd 50 (by kernel_rfl)))
      exact one_load _ _ rfl rfl _ _ e ((t2.mono hb).c2) (by kernel_rfl) ⟨_, rfl, Below.refl _ _, rfl⟩
    · intro vs w' F hb hd hF hl
      have ef := (hF 53).trans ((look_at _ 53 47 _ _ (by kernel_rfl) (by kernel_rfl) hl).trans (dep_of (Fact := F_quatMul w.heap.size a b c d p q r s) hd 47 (by kernel_rfl)))
      refine one_callv _ _ _ rfl rfl ef (enters_of Try.func36 (by kernel_rfl) rfl) #[.int .i64 d, .int .i64 r] (eval2 ((hF 55).trans ((look_at _ 55 49 _ _ (by kernel_rfl) (by kernel_rfl) hl).trans (dep_of (Fact := F_quatMul w.heap.size a b c d p q r s) hd 49 (by kernel_rfl)))) ((hF 57).trans ((look_at _ 57 51 _ _ (by kernel_rfl) (by kernel_rfl) hl).trans (dep_of (Fact := F_quatMul w.heap.size a b c d p q r s) hd 51 (by kernel_rfl))))) ?_
      refine (fix_Mul' d r _).mono ?_
      rintro e w2 ⟨rfl, hb2⟩
      exact ⟨_, rfl, _, rfl, hb2, rfl⟩
    · intro vs w' F hb hd hF hl
      have e := (hF 58).trans ((look_at _ 58 52 _ _ (by kernel_rfl) (by kernel_rfl) hl).trans (dep_of (Fact := F_quatMul w.heap.size a b c d p q r s) hd 52 (by kernel_rfl)))
      exact one_unop .neg 3 _ rfl rfl _ _ e (fun w => neg_run _ (by exact qm_bd _ _) w) ⟨_, rfl, Below.refl _ _, rfl⟩
    · intro vs w' F hb hd hF hl
      have e0 := (hF 40).trans ((look_at _ 40 34 _ _ (by kernel_rfl) (by kernel_rfl) hl).trans (dep_of (Fact := F_quatMul w.heap.size a b c d p q r s) hd 34 (by kernel_rfl)))
      have e1 := (hF 46).trans ((look_at _ 46 40 _ _ (by kernel_rfl) (by kernel_rfl) hl).trans (dep_of (Fact := F_quatMul w.heap.size a b c d p q r s) hd 40 (by kernel_rfl)))
      have e2 := (hF 52).trans ((look_at _ 52 46 _ _ (by kernel_rfl) (by kernel_rfl) hl).trans (dep_of (Fact := F_quatMul w.heap.size a b c d p q r s) hd 46 (by kernel_rfl)))
      have e3 := (hF 59).trans ((look_at _ 59 53 _ _ (by kernel_rfl) (by kernel_rfl) hl).trans (dep_of (Fact := F_quatMul w.heap.size a b c d p q r s) hd 53 (by kernel_rfl)))
      exact one_slice4 38 _ _ _ _ _ rfl rfl _ _ _ _ e0 e1 e2 e3 Try.underlying38 (by kernel_rfl) ⟨_, rfl, (Below.refl _ _).alloc (Nat.le_refl _) _, ⟨_, rfl, ints4_new _ _ _ _ _⟩⟩
    · intro vs w' F hb hd hF hl
      obtain ⟨X, hX, hXi⟩ : NewInts [(qm a q), (qm b p), (qm c s), (-(qm d r))] (vs.getD 54 undef) w' := dep_of (Fact := F_quatMul w.heap.size a b c d p q r s) hd 54 (by kernel_rfl)
      have e := (hF 60).trans ((look_at _ 60 54 _ _ (by kernel_rfl) (by kernel_rfl) hl).trans hX)
      refine one_call _ _ rfl rfl (enters_of Try.func88 (by kernel_rfl) rfl) #[.slice (some ⟨X, 0, none⟩) 4 4] (eval1 e) ?_
      refine (quat_sum [(qm a q), (qm b p), (qm c s), (-(qm d r))] _ 4 4 rfl (by decide) _ hXi).mono ?_
      rintro e w2 ⟨rfl, rfl⟩
      exact ⟨_, rfl, _, rfl, Below.refl _ _, rfl⟩
    · intro vs w' F hb hd hF hl
      have e := (hF 5).trans (look_out _ 5 _ _ (by kernel_rfl))
      exact one_move _ rfl (by first | exact Or.inl rfl | exact Or.inr rfl) ⟨_, rfl, Below.refl _ _, e⟩
    · intro vs w' F hb hd hF hl
      have e := (hF 2).trans (look_out _ 2 _ _ (by kernel_rfl))
      exact one_field _ _ _ rfl rfl _ _ e _ (fun w => by kernel_rfl) ⟨_, rfl, Below.refl _ _, rfl⟩
    · intro vs w' F hb hd hF hl
      have e := (hF 63).trans ((look_at _ 63 57 _ _ (by kernel_rfl) (by kernel_rfl) hl).trans (dep_of (Fact := F_quatMul w.heap.size a b c d p q r s) hd 57 (by kernel_rfl)))
      exact one_load _ _ rfl rfl _ _ e ((t1.mono hb).c0) (by kernel_rfl) ⟨_, rfl, Below.refl _ _, rfl⟩
    · intro vs w' F hb hd hF hl
      have e := (hF 3).trans (look_out _ 3 _ _ (by kernel_rfl))
      exact one_field _ _ _ rfl rfl _ _ e _ (fun w => by kernel_rfl) ⟨_, rfl, Below.refl _ _, rfl⟩
    · intro vs w' F hb hd hF hl
      have e := (hF 65).trans ((look_at _ 65 59 _ _ (by kernel_rfl) (by kernel_rfl) hl).trans (dep_of (Fact := F_quatMul w.heap.size a b c d p q r s) hd 59 (by kernel_rfl)))
      exact one_load _ _ rfl rfl _ _ e ((t2.mono hb).c2) (by kernel_rfl) ⟨_, rfl, Below.refl _ _, rfl⟩
    · intro vs w' F hb hd hF hl
      have ef := (hF 62).trans ((look_at _ 62 56 _ _ (by kernel_rfl) (by kernel_rfl) hl).trans (dep_of (Fact := F_quatMul w.heap.size a b c d p q r s) hd 56 (by kernel_rfl)))
      refine one_callv _ _ _ rfl rfl ef (enters_of Try.func36 (by kernel_rfl) rfl) #[.int .i64 a, .int .i64 r] (eval2 ((hF 64).trans ((look_at _ 64 58 _ _ (by kernel_rfl) (by kernel_rfl) hl).trans (dep_of (Fact := F_quatMul w.heap.size a b c d p q r s) hd 58 (by kernel_rfl)))) ((hF 66).trans ((look_at _ 66 60 _ _ (by kernel_rfl) (by kernel_rfl) hl).trans (dep_of (Fact := F_quatMul w.heap.size a b c d p q r s) hd 60 (by kernel_rfl))))) ?_
      refine (fix_Mul' a r _).mono ?_
      rintro e w2 ⟨rfl, hb2⟩
      exact ⟨_, rfl, _, rfl, hb2, rfl⟩
    · intro vs w' F hb hd hF hl
      have e := (hF 5).trans (look_out _ 5 _ _ (by kernel_rfl))
      exact one_move _ rfl (by first | exact Or.inl rfl | exact Or.inr rfl) ⟨_, rfl, Below.refl _ _, e⟩
    · intro vs w' F hb hd hF hl
      have e := (hF 2).trans (look_out _ 2 _ _ (by kernel_rfl))
      exact one_field _ _ _ rfl rfl _ _ e _ (fun w => by kernel_rfl) ⟨_, rfl, Below.refl _ _, rfl⟩
    · intro vs w' F hb hd hF hl
      have e := (hF 69).trans ((look_at _ 69 63 _ _ (by kernel_rfl) (by kernel_rfl) hl).trans (dep_of (Fact := F_quatMul w.heap.size a b c d p q r s) hd 63 (by kernel_rfl)))
      exact one_load _ _ rfl rfl _ _ e ((t1.mono hb).c1) (by kernel_rfl) ⟨_, rfl, Below.refl _ _, rfl⟩
    · intro vs w' F hb hd hF hl
      have e := (hF 3).trans (look_out _ 3 _ _ (by kernel_rfl))
      exact one_field _ _ _ rfl rfl _ _ e _ (fun w => by kernel_rfl) ⟨_, rfl, Below.refl _ _, rfl⟩
    · intro vs w' F hb hd hF hl
      have e := (hF 71).trans ((look_at _ 71 65 _ _ (by kernel_rfl) (by kernel_rfl) hl).trans (dep_of (Fact := F_quatMul w.heap.size a b c d p q r s) hd 65 (by kernel_rfl)))
      exact one_load _ _ rfl rfl _ _ e ((t2.mono hb).c3) (by kernel_rfl) ⟨_, rfl, Below.refl _ _, rfl⟩
    · intro vs w' F hb hd hF hl
      have ef := (hF 68).trans ((look_at _ 68 62 _ _ (by kernel_rfl) (by kernel_rfl) hl).trans (dep_of (Fact := F_quatMul w.heap.size a b c d p q r s) hd 62 (by kernel_rfl)))
      refine one_callv _ _ _ rfl rfl ef (enters_of Try.func36 (by kernel_rfl) rfl) #[.int .i64 b, .int .i64 s] (eval2 ((hF 70).trans ((look_at _ 70 64 _ _ (by kernel_rfl) (by kernel_rfl) hl).trans (dep_of (Fact := F_quatMul w.heap.size a b c d p q r s) hd 64 (by kernel_rfl)))) ((hF 72).trans ((look_at _ 72 66 _ _ (by kernel_rfl) (by kernel_rfl) hl).trans (dep_of (Fact := F_quatMul w.heap.size a b c d p q r s) hd 66 (by kernel_rfl))))) ?_
      refine (fix_Mul' b s _).mono ?_
      rintro e w2 ⟨rfl, hb2⟩
      exact ⟨_, rfl, _, rfl, hb2, rfl⟩
    · intro vs w' F hb hd hF hl
      have e := (hF 73).trans ((look_at _ 73 67 _ _ (by kernel_rfl) (by kernel_rfl) hl).trans (dep_of (Fact := F_quatMul w.heap.size a b c d p q r s) hd 67 (by kernel_rfl)))
      exact one_unop .neg 3 _ rfl rfl _ _ e (fun w => neg_run _ (by exact qm_bd _ _) w) ⟨_, rfl, Below.refl _ _, rfl⟩
    · intro vs w' F hb hd hF hl
      have e := (hF 5).trans (look_out _ 5 _ _ (by kernel_rfl))
      exact one_move _ rfl (by first | exact Or.inl rfl | exact Or.inr rfl) ⟨_, rfl, Below.refl _ _, e⟩
    · intro vs w' F hb hd hF hl
      have e := (hF 2).trans (look_out _ 2 _ _ (by kernel_rfl))
      exact one_field _ _ _ rfl rfl _ _ e _ (fun w => by kernel_rfl) ⟨_, rfl, Below.refl _ _, rfl⟩
    · intro vs w' F hb hd hF hl
      have e := (hF 76).trans ((look_at _ 76 70 _ _ (by kernel_rfl) (by kernel_rfl) hl).trans (dep_of (Fact := F_quatMul w.heap.size a b c d p q r s) hd 70 (by kernel_rfl)))
      exact one_load _ _ rfl rfl _ _ e ((t1.mono hb).c2) (by kernel_rfl) ⟨_, rfl, Below.refl _ _, rfl⟩
    · intro vs w' F hb hd hF hl
      have e := (hF 3).trans (look_out _ 3 _ _ (by kernel_rfl))
      exact one_field _ _ _ rfl rfl _ _ e _ (fun w => by kernel_rfl) ⟨_, rfl, Below.refl _ _, rfl⟩
    · intro vs w' F hb hd hF hl
      have e := (hF 78).trans ((look_at _ 78 72 _ _ (by kernel_rfl) (by kernel_rfl) hl).trans (dep_of (Fact := F_quatMul w.heap.size a b c d p q r s) hd 72 (by kernel_rfl)))
      exact one_load _ _ rfl rfl _ _ e ((t2.mono hb).c0) (by kernel_rfl) ⟨_, rfl, Below.refl _ _, rfl⟩
    · intro vs w' F hb hd hF hl
      have ef := (hF 75).trans ((look_at _ 75 69 _ _ (by kernel_rfl) (by kernel_rfl) hl).trans (dep_of (Fact := F_quatMul w.heap.size a b c d p q r s) hd 69 (by kernel_rfl)))
      refine one_callv _ _ _ rfl rfl ef (enters_of Try.func36 (by kernel_rfl) rfl) #[.int .i64 c, .int .i64 p] (eval2 ((hF 77).trans ((look_at _ 77 71 _ _ (by kernel_rfl) (by kernel_rfl) hl).trans (dep_of (Fact := F_quatMul w.heap.size a b c d p q r s) hd 71 (by kernel_rfl)))) ((hF 79).trans ((look_at _ 79 73 _ _ (by kernel_rfl) (by kernel_rfl) hl).trans (dep_of (Fact := F_quatMul w.heap.size a b c d p q r s) hd 73 (by kernel_rfl))))) ?_
      refine (fix_Mul' c p _).mono ?_
      rintro e w2 ⟨rfl, hb2⟩
      exact ⟨_, rfl, _, rfl, hb2, rfl⟩
    · intro vs w' F hb hd hF hl
      have e := (hF 5).trans (look_out _ 5 _ _ (by kernel_rfl))
      exact one_move _ rfl (by first | exact Or.inl rfl | exact Or.inr rfl) ⟨_, rfl, Below.refl _ _, e⟩
    · intro vs w' F hb hd hF hl
      have e := (hF 2).trans (look_out _ 2 _ _ (by kernel_rfl))
      exact one_field _ _ _ rfl rfl _ _ e _ (fun w => by kernel_rfl) ⟨_, rfl, Below.refl _ _, rfl⟩
    · intro vs w' F hb hd hF hl
      have e := (hF 82).trans ((look_at _ 82 76 _ _ (by kernel_rfl) (by kernel_rfl) hl).trans (dep_of (Fact := F_quatMul w.heap.size a b c d p q r s) hd 76 (by kernel_rfl)))
      exact one_load _ _ rfl rfl _ _ e ((t1.mono hb).c3) (by kernel_rfl) ⟨_, rfl, Below.refl _ _, rfl⟩
    · intro vs w' F hb hd hF hl
      have e := (hF 3).trans (look_out _ 3 _ _ (by kernel_rfl))
      exact one_field _ _ _ rfl rfl _ _ e _ (fun w => by kernel_rfl) ⟨_, rfl, Below.refl _ _, rfl⟩
    · intro vs w' F hb hd hF hl
      have e := (hF 84).trans ((look_at _ 84 78 _ _ (by kernel_rfl) (by kernel_rfl) hl).trans (dep_of (Fact := F_quatMul w.heap.size a b c d p q r s) hd 78 (by kernel_rfl)))
      exact one_load _ _ rfl rfl _ _ e ((t2.mono hb).c1) (by kernel_rfl) ⟨_, rfl, Below.refl _ _, rfl⟩
    · intro vs w' F hb hd hF hl
      have ef := (hF 81).trans ((look_at _ 81 75 _ _ (by kernel_rfl) (by kernel_rfl) hl).trans (dep_of (Fact := F_quatMul w.heap.size a b c d p q r s) hd 75 (by kernel_rfl)))
      refine one_callv _ _ _ rfl rfl ef (enters_of Try.func36 (by kernel_rfl) rfl) #[.int .i64 d, .int .i64 q] (eval2 ((hF 83).trans ((look_at _ 83 77 _ _ (by kernel_rfl) (by kernel_rfl) hl).trans (dep_of (Fact := F_quatMul w.heap.size a b c d p q r s) hd 77 (by kernel_rfl)))) ((hF 85).trans ((look_at _ 85 79 _ _ (by kernel_rfl) (by kernel_rfl) hl).trans (dep_of (Fact := F_quatMul w.heap.size a b c d p q r s) hd 79 (by kernel_rfl))))) ?_
      refine (fix_Mul' d q _).mono ?_
      rintro e w2 ⟨rfl, hb2⟩
      exact ⟨_, rfl, _, rfl, hb2, rfl⟩
    · intro vs w' F hb hd hF hl
      have e0 := (hF 67).trans ((look_at _ 67 61 _ _ (by kernel_rfl) (by kernel_rfl) hl).trans (dep_of (Fact := F_quatMul w.heap.size a b c d p q r s) hd 61 (by kernel_rfl)))
      have e1 := (hF 74).trans ((look_at _ 74 68 _ _ (by kernel_rfl) (by kernel_rfl) hl).trans (dep_of (Fact := F_quatMul w.heap.size a b c d p q r s) hd 68 (by kernel_rfl)))
      have e2 := (hF 80).trans ((look_at _ 80 74 _ _ (by kernel_rfl) (by kernel_rfl) hl).trans (dep_of (Fact := F_quatMul w.heap.size a b c d p q r s) hd 74 (by kernel_rfl)))
      have e3 := (hF 86).trans ((look_at _ 86 80 _ _ (by kernel_rfl) (by kernel_rfl) hl).trans (dep_of (Fact := F_quatMul w.heap.size a b c d p q r s) hd 80 (by kernel_rfl)))
      exact one_slice4 38 _ _ _ _ _ rfl rfl _ _ _ _ e0 e1 e2 e3 Try.underlying38 (by kernel_rfl) ⟨_, rfl, (Below.refl _ _).alloc (Nat.le_refl _) _, ⟨_, rfl, ints4_new _ _ _ _ _⟩⟩
    · intro vs w' F hb hd hF hl
      obtain ⟨X, hX, hXi⟩ : NewInts [(qm a r), (-(qm b s)), (qm c p), (qm d q)] (vs.getD 81 undef) w' := dep_of (Fact := F_quatMul w.heap.size a b c d p q r s) hd 81 (by kernel_rfl)
      have e := (hF 87).trans ((look_at _ 87 81 _ _ (by kernel_rfl) (by kernel_rfl) hl).trans hX)
      refine one_call _ _ rfl rfl (enters_of Try.func88 (by kernel_rfl) rfl) #[.slice (some ⟨X, 0, none⟩) 4 4] (eval1 e) ?_
      refine (quat_sum [(qm a r), (-(qm b s)), (qm c p), (qm d q)] _ 4 4 rfl (by decide) _ hXi).mono ?_
      rintro e w2 ⟨rfl, rfl⟩
      exact ⟨_, rfl, _, rfl, Below.refl _ _, rfl⟩
    · intro vs w' F hb hd hF hl
      have e := (hF 5).trans (look_out _ 5 _ _ (by kernel_rfl))
      exact one_move _ rfl (by first | exact Or.inl rfl | exact Or.inr rfl) ⟨_, rfl, Below.refl _ _, e⟩
    · intro vs w' F hb hd hF hl
      have e := (hF 2).trans (look_out _ 2 _ _ (by kernel_rfl))
      exact one_field _ _ _ rfl rfl _ _ e _ (fun w => by kernel_rfl) ⟨_, rfl, Below.refl _ _, rfl⟩
    · intro vs w' F hb hd hF hl
      have e := (hF 90).trans ((look_at _ 90 84 _ _ (by kernel_rfl) (by kernel_rfl) hl).trans (dep_of (Fact := F_quatMul w.heap.size a b c d p q r s) hd 84 (by kernel_rfl)))
      exact one_load _ _ rfl rfl _ _ e ((t1.mono hb).c0) (by kernel_rfl) ⟨_, rfl, Below.refl _ _, rfl⟩
    · intro vs w' F hb hd hF hl
      have e := (hF 3).trans (look_out _ 3 _ _ (by kernel_rfl))
      exact one_field _ _ _ rfl rfl _ _ e _ (fun w => by kernel_rfl) ⟨_, rfl, Below.refl _ _, rfl⟩
    · intro vs w' F hb hd hF hl
      have e := (hF 92).trans ((look_at _ 92 86 _ _ (by kernel_rfl) (by kernel_rfl) hl).trans (dep_of (Fact := F_quatMul w.heap.size a b c d p q r s) hd 86 (by kernel_rfl)))
      exact one_load _ _ rfl rfl _ _ e ((t2.mono hb).c3) (by kernel_rfl) ⟨_, rfl, Below.refl _ _, rfl⟩
    · intro vs w' F hb hd hF hl
      have ef := (hF 89).trans ((look_at _ 89 83 _ _ (by kernel_rfl) (by kernel_rfl) hl).trans (dep_of (Fact := F_quatMul w.heap.size a b c d p q r s) hd 83 (by kernel_rfl)))
      refine one_callv _ _ _ rfl rfl ef (enters_of Try.func36 (by kernel_rfl) rfl) #[.int .i64 a, .int .i64 s] (eval2 ((hF 91).trans ((look_at _ 91 85 _ _ (by kernel_rfl) (by kernel_rfl) hl).trans (dep_of (Fact := F_quatMul w.heap.size a b c d p q r s) hd 85 (by kernel_rfl)))) ((hF 93).trans ((look_at _ 93 87 _ _ (by kernel_rfl) (by kernel_rfl) hl).trans (dep_of (Fact := F_quatMul w.heap.size a b c d p q r s) hd 87 (by kernel_rfl))))) ?_
      refine (fix_Mul' a s _).mono ?_
      rintro e w2 ⟨rfl, hb2⟩
      exact ⟨_, rfl, _, rfl, hb2, rfl⟩
    · intro vs w' F hb hd hF hl
      have e := (hF 5).trans (look_out _ 5 _ _ (by kernel_rfl))
      exact one_move _ rfl (by first | exact Or.inl rfl | exact Or.inr rfl) ⟨_, rfl, Below.refl _ _, e⟩
    · intro vs w' F hb hd hF hl
      have e := (hF 2).trans (look_out _ 2 _ _ (by kernel_rfl))
      exact one_field _ _ _ rfl rfl _ _ e _ (fun w => by kernel_rfl) ⟨_, rfl, Below.refl _ _, rfl⟩
    · intro vs w' F hb hd hF hl
      have e := (hF 96).trans ((look_at _ 96 90 _ _ (by kernel_rfl) (by kernel_rfl) hl).trans (dep_of (Fact := F_quatMul w.heap.size a b c d p q r s) hd 90 (by kernel_rfl)))
      exact one_load _ _ rfl rfl _ _ e ((t1.mono hb).c1) (by kernel_rfl) ⟨_, rfl, Below.refl _ _, rfl⟩
    · intro vs w' F hb hd hF hl
      have e := (hF 3).trans (look_out _ 3 _ _ (by kernel_rfl))
      exact one_field _ _ _ rfl rfl _ _ e _ (fun w => by kernel_rfl) ⟨_, rfl, Below.refl _ _, rfl⟩
    · intro vs w' F hb hd hF hl
      have e := (hF 98).trans ((look_at _ 98 92 _ _ (by kernel_rfl) (by kernel_rfl) hl).trans (dep_of (Fact := F_quatMul w.heap.size a b c d p q r s) hd 92 (by kernel_rfl)))
      exact one_load _ _ rfl rfl _ _ e ((t2.mono hb).c2) (by kernel_rfl) ⟨_, rfl, Below.refl _ _, rfl⟩
    · intro vs w' F hb hd hF hl
      have ef := (hF 95).trans ((look_at _ 95 89 _ _ (by kernel_rfl) (by kernel_rfl) hl).trans (dep_of (Fact := F_quatMul w.heap.size a b c d p q r s) hd 89 (by kernel_rfl)))
      refine one_callv _ _ _ rfl rfl ef (enters_of Try.func36 (by kernel_rfl) rfl) #[.int .i64 b, .int .i64 r] (eval2 ((hF 97).trans ((look_at _ 97 91 _ _ (by kernel_rfl) (by kernel_rfl) hl).trans (dep_of (Fact := F_quatMul w.heap.size a b c d p q r s) hd 91 (by kernel_rfl)))) ((hF 99).trans ((look_at _ 99 93 _ _ (by kernel_rfl) (by kernel_rfl) hl).trans (dep_of (Fact := F_quatMul w.heap.size a b c d p q r s) hd 93 (by kernel_rfl))))) ?_
      refine (fix_Mul' b r _).mono ?_
      rintro e w2 ⟨rfl, hb2⟩
      exact ⟨_, rfl, _, rfl, hb2, rfl⟩
    · intro vs w' F hb hd hF hl
      have e := (hF 5).trans (look_out _ 5 _ _ (by kernel_rfl))
      exact one_move _ rfl (by first | exact Or.inl rfl | exact Or.inr rfl) ⟨_, rfl, Below.refl _ _, e⟩
    · intro vs w' F hb hd hF hl
      have e := (hF 2).trans (look_out _ 2 _ _ (by kernel_rfl))
      exact one_field _ _ _ rfl rfl _ _ e _ (fun w => by kernel_rfl) ⟨_, rfl, Below.refl _ _, rfl⟩
    · intro vs w' F hb hd hF hl
      have e := (hF 102).trans ((look_at _ 102 96 _ _ (by kernel_rfl) (by kernel_rfl) hl).trans (dep_of (Fact := F_quatMul w.heap.size a b c d p q r s) hd 96 (by kernel_rfl)))
      exact one_load _ _ rfl rfl _ _ e ((t1.mono hb).c2) (by kernel_rfl) ⟨_, rfl, Below.refl _ _, rfl⟩
    · intro vs w' F hb hd hF hl
      have e := (hF 3).trans (look_out _ 3 _ _ (by kernel_rfl))
      exact one_field _ _ _ rfl rfl _ _ e _ (fun w => by kernel_rfl) ⟨_, rfl, Below.refl _ _, rfl⟩
    · intro vs w' F hb hd hF hl
      have e := (hF 104).trans ((look_at _ 104 98 _ _ (by kernel_rfl) (by kernel_rfl) hl).trans (dep_of (Fact := F_quatMul w.heap.size a b c d p q r s) hd 98 (by kernel_rfl)))
      exact one_load _ _ rfl rfl _ _ e ((t2.mono hb).c1) (by kernel_rfl) ⟨_, rfl, Below.refl _ _, rfl⟩
    · intro vs w' F hb hd hF hl
      have ef := (hF 101).trans ((look_at _ 101 95 _ _ (by kernel_rfl) (by kernel_rfl) hl).trans (dep_of (Fact := F_quatMul w.heap.size a b c d p q r s) hd 95 (by kernel_rfl)))
      refine one_callv _ _ _ rfl rfl ef (enters_of Try.func36 (by kernel_rfl) rfl) #[.int .i64 c, .int .i64 q] (eval2 ((hF 103).trans ((look_at _ 103 97 _ _ (by kernel_rfl) (by kernel_rfl) hl).trans (dep_of (Fact := F_quatMul w.heap.size a b c d p q r s) hd 97 (by kernel_rfl)))) ((hF 105).trans ((look_at _ 105 99 _ _ (by kernel_rfl) (by kernel_rfl) hl).trans (dep_of (Fact := F_quatMul w.heap.size a b c d p q r s) hd 99 (by kernel_rfl))))) ?_
      refine (fix_Mul' c q _).mono ?_
      rintro e w2 ⟨rfl, hb2⟩
      exact ⟨_, rfl, _, rfl, hb2, rfl⟩
    · intro vs w' F hb hd hF hl
      have e := (hF 106).trans ((look_at _ 106 100 _ _ (by kernel_rfl) (by kernel_rfl) hl).trans (dep_of (Fact := F_quatMul w.heap.size a b c d p q r s) hd 100 (by kernel_rfl)))
      exact one_unop .neg 3 _ rfl rfl _ _ e (fun w => neg_run _ (by exact qm_bd _ _) w) ⟨_, rfl, Below.refl _ _, rfl⟩
    · intro vs w' F hb hd hF hl
      have e := (hF 5).trans (look_out _ 5 _ _ (by kernel_rfl))
      exact one_move _ rfl (by first | exact Or.inl rfl | exact Or.inr rfl) ⟨_, rfl, Below.refl _ _, e⟩
    · intro vs w' F hb hd hF hl
      have e := (hF 2).trans (look_out _ 2 _ _ (by kernel_rfl))
      exact one_field _ _ _ rfl rfl _ _ e _ (fun w => by kernel_rfl) ⟨_, rfl, Below.refl _ _, rfl⟩
    · intro vs w' F hb hd hF hl
      have e := (hF 109).trans ((look_at _ 109 103 _ _ (by kernel_rfl) (by kernel_rfl) hl).trans (dep_of (Fact := F_quatMul w.heap.size a b c d p q r s) hd 103 (by kernel_rfl)))
      exact one_load _ _ rfl rfl _ _ e ((t1.mono hb).c3) (by kernel_rfl) ⟨_, rfl, Below.refl _ _, rfl⟩
    · intro vs w' F hb hd hF hl
      have e := (hF 3).trans (look_out _ 3 _ _ (by kernel_rfl))
      exact one_field _ _ _ rfl rfl _ _ e _ (fun w => by kernel_rfl) ⟨_, rfl, Below.refl _ _, rfl⟩
    · intro vs w' F hb hd hF hl
      have e := (hF 111).trans ((look_at _ 111 105 _ _ (by kernel_rfl) (by kernel_rfl) hl).trans (dep_of (Fact := F_quatMul w.heap.size a b c d p q r s) hd 105 (by kernel_rfl)))
      exact one_load _ _ rfl rfl _ _ e ((t2.mono hb).c0) (by kernel_rfl) ⟨_, rfl, Below.refl _ _, rfl⟩
    · intro vs w' F hb hd hF hl
      have ef := (hF 108).trans ((look_at _ 108 102 _ _ (by kernel_rfl) (by kernel_rfl) hl).trans (dep_of (Fact := F_quatMul w.heap.size a b c d p q r s) hd 102 (by kernel_rfl)))
      refine one_callv _ _ _ rfl rfl ef (enters_of Try.func36 (by kernel_rfl) rfl) #[.int .i64 d, .int .i64 p] (eval2 ((hF 110).trans ((look_at _ 110 104 _ _ (by kernel_rfl) (by kernel_rfl) hl).trans (dep_of (Fact := F_quatMul w.heap.size a b c d p q r s) hd 104 (by kernel_rfl)))) ((hF 112).trans ((look_at _ 112 106 _ _ (by kernel_rfl) (by kernel_rfl) hl).trans (dep_of (Fact := F_quatMul w.heap.size a b c d p q r s) hd 106 (by kernel_rfl))))) ?_
      refine (fix_Mul' d p _).mono ?_
      rintro e w2 ⟨rfl, hb2⟩
      exact ⟨_, rfl, _, rfl, hb2, rfl⟩
    · intro vs w' F hb hd hF hl
      have e0 := (hF 94).trans ((look_at _ 94 88 _ _ (by kernel_rfl) (by kernel_rfl) hl).trans (dep_of (Fact := F_quatMul w.heap.size a b c d p q r s) hd 88 (by kernel_rfl)))
      have e1 := (hF 100).trans ((look_at _ 100 94 _ _ (by kernel_rfl) (by kernel_rfl) hl).trans (dep_of (Fact := F_quatMul w.heap.size a b c d p q r s) hd 94 (by kernel_rfl)))
      have e2 := (hF 107).trans ((look_at _ 107 101 _ _ (by kernel_rfl) (by kernel_rfl) hl).trans (dep_of (Fact := F_quatMul w.heap.size a b c d p q r s) hd 101 (by kernel_rfl)))
      have e3 := (hF 113).trans ((look_at _ 113 107 _ _ (by kernel_rfl) (by kernel_rfl) hl).trans (dep_of (Fact := F_quatMul w.heap.size a b c d p q r s) hd 107 (by kernel_rfl)))
      exact one_slice4 38 _ _ _ _ _ rfl rfl _ _ _ _ e0 e1 e2 e3 Try.underlying38 (by kernel_rfl) ⟨_, rfl, (Below.refl _ _).alloc (Nat.le_refl _) _, ⟨_, rfl, ints4_new _ _ _ _ _⟩⟩
    · intro vs w' F hb hd hF hl
      obtain ⟨X, hX, hXi⟩ : NewInts [(qm a s), (qm b r), (-(qm c q)), (qm d p)] (vs.getD 108 undef) w' := dep_of (Fact := F_quatMul w.heap.size a b c d p q r s) hd 108 (by kernel_rfl)
      have e := (hF 114).trans ((look_at _ 114 108 _ _ (by kernel_rfl) (by kernel_rfl) hl).trans hX)
      refine one_call _ _ rfl rfl (enters_of Try.func88 (by kernel_rfl) rfl) #[.slice (some ⟨X, 0, none⟩) 4 4] (eval1 e) ?_
      refine (quat_sum [(qm a s), (qm b r), (-(qm c q)), (qm d p)] _ 4 4 rfl (by decide) _ hXi).mono ?_
      rintro e w2 ⟨rfl, rfl⟩
      exact ⟨_, rfl, _, rfl, Below.refl _ _, rfl⟩
    · intro vs w' F hb hd hF hl
      exact one_build _ _ rfl rfl #[(0, .int .i64 (qsum [(qm a p), (-(qm b q)), (-(qm c r)), (-(qm d s))])), (1, .int .i64 (qsum [(qm a q), (qm b p), (qm c s), (-(qm d r))])), (2, .int .i64 (qsum [(qm a r), (-(qm b s)), (qm c p), (qm d q)])), (3, .int .i64 (qsum [(qm a s), (qm b r), (-(qm c q)), (qm d p)]))] (parts4 ((hF 34).trans ((look_at _ 34 28 _ _ (by kernel_rfl) (by kernel_rfl) hl).trans (dep_of (Fact := F_quatMul w.heap.size a b c d p q r s) hd 28 (by kernel_rfl)))) ((hF 61).trans ((look_at _ 61 55 _ _ (by kernel_rfl) (by kernel_rfl) hl).trans (dep_of (Fact := F_quatMul w.heap.size a b c d p q r s) hd 55 (by kernel_rfl)))) ((hF 88).trans ((look_at _ 88 82 _ _ (by kernel_rfl) (by kernel_rfl) hl).trans (dep_of (Fact := F_quatMul w.heap.size a b c d p q r s) hd 82 (by kernel_rfl)))) ((hF 115).trans ((look_at _ 115 109 _ _ (by kernel_rfl) (by kernel_rfl) hl).trans (dep_of (Fact := F_quatMul w.heap.size a b c d p q r s) hd 109 (by kernel_rfl))))) (.agg #[.int .i64 (qsum [(qm a p), (-(qm b q)), (-(qm c r)), (-(qm d s))]), .int .i64 (qsum [(qm a q), (qm b p), (qm c s), (-(qm d r))]), .int .i64 (qsum [(qm a r), (-(qm b s)), (qm c p), (qm d q)]), .int .i64 (qsum [(qm a s), (qm b r), (-(qm c q)), (qm d p)])]) (fun w => by kernel_rfl) ⟨_, rfl, Below.refl _ _, rfl⟩
  · intro vs W1 hl hb hI
    have hlast := hI 110 (by omega)
    generalize hFF : fillAll _ _ _ = F
    have e1 : F.eval (.tmp 4) = .pointer (some ⟨w.heap.size + 1 + 1, 0, none⟩) := by rw [← hFF]; exact (eval_fill _ 4 _ _).trans ((look_out _ 4 _ _ (by kernel_rfl)).trans rfl)
    have e2 : F.eval (.tmp 116) = .agg #[.int .i64 (qsum [(qm a p), (-(qm b q)), (-(qm c r)), (-(qm d s))]), .int .i64 (qsum [(qm a q), (qm b p), (qm c s), (-(qm d r))]), .int .i64 (qsum [(qm a r), (-(qm b s)), (qm c p), (qm d q)]), .int .i64 (qsum [(qm a s), (qm b r), (-(qm c q)), (qm d p)])] := by rw [← hFF]; exact (eval_fill _ 116 _ _).trans ((look_at _ 116 110 _ _ (by kernel_rfl) (by kernel_rfl) hl).trans hlast)
    have e3 : F.defers = [] := by rw [← hFF]; exact fillAll_defers _ _ _
    have t4 := t3.mono hb
    have hB9 := hB.trans (hb.mono hB.size)
    clear hI hl hb t1 t2 t3 hFF hlast
    refine wpList_store_abs rfl 62 (.tmp 4) (.tmp 116) rfl (w.heap.size + 1 + 1) #[.int .i64 (qsum [(qm a p), (-(qm b q)), (-(qm c r)), (-(qm d s))]), .int .i64 (qsum [(qm a q), (qm b p), (qm c s), (-(qm d r))]), .int .i64 (qsum [(qm a r), (-(qm b s)), (qm c p), (qm d q)]), .int .i64 (qsum [(qm a s), (qm b r), (-(qm c q)), (qm d p)])] e1 e2 _ _ t4 (by kernel_rfl) rfl (ones4 _ _ _ _) ?_
    intro w2 hg hb2 hs
    go_wp2_with fail
    exact bodyPost_ret (v := .agg #[.int .i64 (qsum [(qm a p), (-(qm b q)), (-(qm c r)), (-(qm d s))]), .int .i64 (qsum [(qm a q), (qm b p), (qm c s), (-(qm d r))]), .int .i64 (qsum [(qm a r), (-(qm b s)), (qm c p), (qm d q)]), .int .i64 (qsum [(qm a s), (qm b r), (-(qm c q)), (qm d p)])]) (res4 Try.results53 _ _ (w.heap.size + 1 + 1) _ _ _ _ e1 hg) e3 ⟨rfl, hB9.trans (hb2.mono (by omega))⟩
end Go.Proofs.Ytehpfkmaikbjkaa
