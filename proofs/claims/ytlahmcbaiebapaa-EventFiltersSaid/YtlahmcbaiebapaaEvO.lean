/- cmp.Or, event.order, the order of counts. By program (gen_evo.py). -/
import Derived.Test.YtlahmcbaiebapaaEvA
import Derived.Test.YtlahmcbaiebapaaCmpI
import Derived.Test.YtlahmcbaiebapaaRegAll
import Derived.Deep.LoopGhost
namespace Go.Proofs.Ytlahmcbaiebapaa
open Go.ChangeShapes Go.WideShapes Go.ChangeAt Go.RowKit Go.Mem
set_option linter.unusedVariables false
section
variable {P : Program} {ops : Array Oper} {o : Oper} {F : Act} {w : World} {Q : Exit → Act → World → Prop}
theorem rg_slice3 (t e : TypeId) (x0 x1 x2 : Operand) (hgd : o.guard = none) (ho : o.op = .buildSlice t 3 #[(0, x0), (1, x1), (2, x2)]) (a b c : Int) (h0 : F.eval x0 = .int .i64 a) (h1 : F.eval x1 = .int .i64 b) (h2 : F.eval x2 = .int .i64 c)
    (hu : P.underlying t = some (.slice e)) (hi : (P.info? e).map (fun i => (i.zero, i.size)) = some (some (.int .i64 0), 1)) (h : Q .normal (F.put o.dst (.slice (some ⟨w.heap.size, 0, none⟩) 3 3)) (w.alloc (.cells #[.int .i64 a, .int .i64 b, .int .i64 c] e (0, 0)))) : wpList P ops Q [o] F w := by
  obtain ⟨i, hi2, hzz⟩ := Option.map_eq_some_iff.1 hi
  simp only [Prod.mk.injEq] at hzz
  refine wpList_plain hgd fun K hK => ?_
  refine wp_buildSlice t e 3 _ ho #[.int .i64 a, .int .i64 b, .int .i64 c] i (.int .i64 0) hu hi2 hzz.1 (by rw [hzz.2]; decide) (by rw [hzz.2]; decide) ?_ (hK _ _ h)
  rw [hzz.2]
  simp only [List.map_toArray, List.map_cons, List.map_nil, h0, h1, h2]
  have hr : Array.range 3 = #[0, 1, 2] := by decide
  simp [Instr.fill, Value.cells, hr]
end
def orI : List Int → Int
  | [] => 0
  | x :: r => if x = 0 then orI r else x
theorem orI_at : ∀ (l : List Int) (i : Nat) (hi : i < l.length), (∀ j (h : j < l.length), j < i → l[j] = 0) → l[i] ≠ 0 → orI l = l[i]
  | x :: r, 0, _, _, h => if_neg h
  | x :: r, i + 1, hi, hz, h => by
    have h0 : x = 0 := hz 0 (by simp) (by omega)
    have h1 := orI_at r i (by simpa using hi) (fun j hj h2 => by have := hz (j + 1) (by simpa using hj) (by omega); simpa using this) (by simpa using h)
    unfold orI
    rw [if_pos h0, h1]; rfl
theorem orI_no : ∀ (l : List Int), (∀ j (h : j < l.length), l[j] = 0) → orI l = 0
  | [], _ => rfl
  | x :: r, hz => by
    have h0 : x = 0 := hz 0 (by simp)
    unfold orI
    rw [if_pos h0, orI_no r (fun j hj => by have := hz (j + 1) (by simpa using hj); simpa using this)]
set_option maxHeartbeats 4000000 in
theorem or_ints (l : List Int) (a : Option Addr) (n c : Nat) (hn : l.length = n) (h1 : n ≤ 1048576) (W : World) (hz : IntsAt .i64 W a l) :
    Calls Try.prog 127 #[.slice a n c] W fun e w' => e = .returned (.int .i64 (orI l)) ∧ Below W.heap.size W w' := by
  have HN := Lib.hid hn
  have HZ := Lib.hid hz
  clear hn hz
  go_enter Try.func127, Try.ntmps127
  go_wp2_with fail
  go_loopg [5, 8] n (fun gk v5 vi wx => ∃ i : Nat, i ≤ n ∧ gk = n - i ∧ vi = .int .i64 i ∧ Hid (∀ j (h : j < l.length), j < i → l[j] = 0) ∧ Hid (Below W.heap.size W wx))
  case atStart => exact ⟨0, Nat.zero_le _, rfl, rfl, Lib.hid (fun j h h2 => absurd h2 (by omega)), Lib.hid (Below.refl _ _)⟩
  case round =>
    obtain ⟨i, hi, g2, rfl, HAT, HB⟩ := hrel
    have G2 := Lib.hid g2
    clear g2
    by_cases hlt : i < n
    · obtain ⟨x, rfl, hx, hix⟩ := (HZ.out.below HB.out) (by rw [HN.out]; omega)
      have c0 := hix i (by rw [HN.out]; exact hlt)
      have e9 : l.getD i 0 = l[i]'(by rw [HN.out]; exact hlt) := by rw [List.getD_eq_getElem?_getD, List.getElem?_eq_getElem (by rw [HN.out]; exact hlt)]; rfl
      obtain ⟨y, hy⟩ : ∃ y, y = l.getD i 0 := ⟨_, rfl⟩
      rw [← hy] at c0 e9
      have HY := Lib.hid e9
      have i1 : (0 : Int) ≤ (i : Int) := by omega
      have i2 : (i : Int) < (n : Int) := by omega
      clear hix hy e9
      by_cases h0 : y = 0
      · have t1 : (y != 0) = false := by rw [h0]; rfl
        have HE := Lib.hid (HY.out.symm.trans h0)
        clear h0
        go_wp2_with fail
        go_roundg (n - (i + 1))
        case measure => rw [G2.out]; omega
        case rel => exact ⟨i + 1, hlt, rfl, by go_num, Lib.hid (fun j h hj => by
          by_cases hji : j < i
          · exact HAT.out j h hji
          · obtain rfl : j = i := by omega
            exact HE.out), HB⟩
      · have t1 : (y != 0) = true := bne_iff_ne.2 h0
        have HE := Lib.hid (orI_at l i (by rw [HN.out]; exact hlt) HAT.out (by rw [← HY.out]; exact h0))
        clear h0
        go_wp2_with fail
        go_ret
        exact ⟨by rw [HE.out, ← HY.out]; rfl, HB.out⟩
    · have HE := Lib.hid (orI_no l (fun j hj => HAT.out j hj (by rw [HN.out] at hj; omega)))
      go_wp2_with fail
      go_ret
      exact ⟨by rw [HE.out]; rfl, HB.out⟩
/-- the order of events -/
def ordE (a b : EvV) : Int := orI [cmpI a.s b.s, cmpI a.n b.n, cmpI a.g b.g]
theorem list22 {α : Type} {vs : List α} (h : vs.length = 22) : ∃ x0 x1 x2 x3 x4 x5 x6 x7 x8 x9 x10 x11 x12 x13 x14 x15 x16 x17 x18 x19 x20 x21, vs = [x0, x1, x2, x3, x4, x5, x6, x7, x8, x9, x10, x11, x12, x13, x14, x15, x16, x17, x18, x19, x20, x21] := by
  obtain ⟨x0, t0, rfl, h0⟩ := cons_of h
  obtain ⟨x1, t1, rfl, h1⟩ := cons_of h0
  obtain ⟨x2, t2, rfl, h2⟩ := cons_of h1
  obtain ⟨x3, t3, rfl, h3⟩ := cons_of h2
  obtain ⟨x4, t4, rfl, h4⟩ := cons_of h3
  obtain ⟨x5, t5, rfl, h5⟩ := cons_of h4
  obtain ⟨x6, t6, rfl, h6⟩ := cons_of h5
  obtain ⟨x7, t7, rfl, h7⟩ := cons_of h6
  obtain ⟨x8, t8, rfl, h8⟩ := cons_of h7
  obtain ⟨x9, t9, rfl, h9⟩ := cons_of h8
  obtain ⟨x10, t10, rfl, h10⟩ := cons_of h9
  obtain ⟨x11, t11, rfl, h11⟩ := cons_of h10
  obtain ⟨x12, t12, rfl, h12⟩ := cons_of h11
  obtain ⟨x13, t13, rfl, h13⟩ := cons_of h12
  obtain ⟨x14, t14, rfl, h14⟩ := cons_of h13
  obtain ⟨x15, t15, rfl, h15⟩ := cons_of h14
  obtain ⟨x16, t16, rfl, h16⟩ := cons_of h15
  obtain ⟨x17, t17, rfl, h17⟩ := cons_of h16
  obtain ⟨x18, t18, rfl, h18⟩ := cons_of h17
  obtain ⟨x19, t19, rfl, h19⟩ := cons_of h18
  obtain ⟨x20, t20, rfl, h20⟩ := cons_of h19
  obtain ⟨x21, t21, rfl, h21⟩ := cons_of h20
  exact ⟨x0, x1, x2, x3, x4, x5, x6, x7, x8, x9, x10, x11, x12, x13, x14, x15, x16, x17, x18, x19, x20, x21, by rw [List.eq_nil_of_length_eq_zero h21]⟩
def F_evo (bx by_ : Nat) (xs xn xg ys yn yg k1 k2 k3 R : Int) (jq : Nat) (v : Value) (w : World) : Prop :=
  match jq with
  | 0 => v = .pointer (some ⟨bx, 0, none⟩)
  | 1 => v = .int .i64 xs
  | 2 => v = .pointer (some ⟨by_, 0, none⟩)
  | 3 => v = .int .i64 ys
  | 4 => v = .int .i64 k1
  | 5 => v = .pointer (some ⟨bx, 1, none⟩)
  | 6 => v = .pointer (some ⟨bx, 1, none⟩)
  | 7 => v = .int .i64 xn
  | 8 => v = .pointer (some ⟨by_, 1, none⟩)
  | 9 => v = .pointer (some ⟨by_, 1, none⟩)
  | 10 => v = .int .i64 yn
  | 11 => v = .int .i64 k2
  | 12 => v = .pointer (some ⟨bx, 1, none⟩)
  | 13 => v = .pointer (some ⟨bx, 2, none⟩)
  | 14 => v = .int .i64 xg
  | 15 => v = .pointer (some ⟨by_, 1, none⟩)
  | 16 => v = .pointer (some ⟨by_, 2, none⟩)
  | 17 => v = .int .i64 yg
  | 18 => v = .int .i64 k3
  | 19 => ∃ g, v = .slice (some ⟨g, 0, none⟩) 3 3 ∧ w.heap[g]? = some (.cells #[.int .i64 k1, .int .i64 k2, .int .i64 k3] 3 (0, 0))
  | 20 => v = .int .i64 R
  | 21 => v = .int .i64 R
  | _ => True
theorem F_evo_mono (bx by_ : Nat) (xs xn xg ys yn yg k1 k2 k3 R : Int) : Facts (F_evo bx by_ xs xn xg ys yn yg k1 k2 k3 R) := ⟨by
  intro jq v w w' h hb
  unfold F_evo at h ⊢
  split at h
  all_goals first
    | exact h
    | (obtain ⟨g, h1, h2⟩ := h; exact ⟨g, h1, heap_below h2 hb⟩)
    | trivial⟩


set_option maxRecDepth 100000 in
set_option maxHeartbeats 8000000 in
theorem ev_order (x y : EvV) (W : World) :
    Calls Try.prog 106 #[evA x, evA y] W fun e w' => e = .returned (.int .i64 (ordE x y)) ∧ Below W.heap.size W w' := by
  obtain ⟨xs, xn, xg, xv⟩ := x
  obtain ⟨ys, yn, yg, yv⟩ := y
  unfold evA ordE
  dsimp only
  have hb0 := ((Below.refl W.heap.size W).alloc (Nat.le_refl _) (.cells #[.int .i64 xs, .int .i64 xn, .int .i64 xg, .int .i64 xv] 99)).alloc (by simp) (.cells #[.int .i64 ys, .int .i64 yn, .int .i64 yg, .int .i64 yv] 99)
  have hx := row_first W (.cells #[.int .i64 xs, .int .i64 xn, .int .i64 xg, .int .i64 xv] 99) (.cells #[.int .i64 ys, .int .i64 yn, .int .i64 yg, .int .i64 yv] 99)
  have hy := row_second W (.cells #[.int .i64 xs, .int .i64 xn, .int .i64 xg, .int .i64 xv] 99) (.cells #[.int .i64 ys, .int .i64 yn, .int .i64 yg, .int .i64 yv] 99)
  have HB0 := Lib.hid hb0
  have HX := Lib.hid hx
  have HY := Lib.hid hy
  clear hb0 hx hy
  obtain ⟨k1, hk1⟩ : ∃ k, k = cmpI xs ys := ⟨_, rfl⟩
  obtain ⟨k2, hk2⟩ : ∃ k, k = cmpI xn yn := ⟨_, rfl⟩
  obtain ⟨k3, hk3⟩ : ∃ k, k = cmpI xg yg := ⟨_, rfl⟩
  have C1 := Lib.hid (fun w => cmp_ints xs ys w)
  have C2 := Lib.hid (fun w => cmp_ints xn yn w)
  have C3 := Lib.hid (fun w => cmp_ints xg yg w)
  rw [← hk1] at C1 ⊢
  rw [← hk2] at C2 ⊢
  rw [← hk3] at C3 ⊢
  clear hk1 hk2 hk3
  obtain ⟨R, hR⟩ : ∃ R, R = orI [k1, k2, k3] := ⟨_, rfl⟩
  rw [← hR]
  have HR := Lib.hid hR
  clear hR
  go_enter Try.func106, Try.ntmps106
  go_wp2_with fail
  obtain ⟨W2, hW2⟩ : ∃ q, q = (W.alloc (.cells #[.int .i64 xs, .int .i64 xn, .int .i64 xg, .int .i64 xv] 99)).alloc (.cells #[.int .i64 ys, .int .i64 yn, .int .i64 yg, .int .i64 yv] 99) := ⟨_, rfl⟩
  rw [← hW2] at HB0 HX HY ⊢
  obtain ⟨bx, hbx⟩ : ∃ q, q = W.heap.size := ⟨_, rfl⟩
  obtain ⟨by_, hby⟩ : ∃ q, q = W.heap.size + 1 := ⟨_, rfl⟩
  have HBX := Lib.hid hbx
  rw [← hby] at HY ⊢
  rw [show (Value.pointer (some ⟨W.heap.size, 0, none⟩)) = .pointer (some ⟨bx, 0, none⟩) from by rw [hbx]]
  rw [← hbx] at HX
  clear hW2 hbx hby
  refine wp_region_facts_t rfl 22 (by kernel_rfl) (F_evo bx by_ xs xn xg ys yn yg k1 k2 k3 R) (F_evo_mono bx by_ xs xn xg ys yn yg k1 k2 k3 R) ?_ ?_
  · refine ⟨?_, ?_, ?_, ?_, ?_, ?_, ?_, ?_, ?_, ?_, ?_, ?_, ?_, ?_, ?_, ?_, ?_, ?_, ?_, ?_, ?_, ?_, trivial⟩
    · intro vs w' F hb hd hF hl hT
      have e := (hF 2).trans (look_out _ 2 _ _ (by kernel_rfl))
      exact one_field _ _ _ rfl rfl _ _ e (0) (fun w => by kernel_rfl) ⟨_, rfl, Below.refl _ _, rfl⟩
    · intro vs w' F hb hd hF hl hT
      have e := ((hF 5).trans (look_at _ 5 0 _ _ (by kernel_rfl) (by kernel_rfl) hl)).trans (dep_of (Fact := F_evo bx by_ xs xn xg ys yn yg k1 k2 k3 R) hd 0 (by kernel_rfl))
      exact one_load _ _ rfl rfl _ _ e (cell_abides (by rw [cell_of_row _ _ 0 _ _ _ HX.out]; rfl) hb) (by kernel_rfl) ⟨_, rfl, Below.refl _ _, rfl⟩
    · intro vs w' F hb hd hF hl hT
      have e := (hF 3).trans (look_out _ 3 _ _ (by kernel_rfl))
      exact one_field _ _ _ rfl rfl _ _ e (0) (fun w => by kernel_rfl) ⟨_, rfl, Below.refl _ _, rfl⟩
    · intro vs w' F hb hd hF hl hT
      have e := ((hF 7).trans (look_at _ 7 2 _ _ (by kernel_rfl) (by kernel_rfl) hl)).trans (dep_of (Fact := F_evo bx by_ xs xn xg ys yn yg k1 k2 k3 R) hd 2 (by kernel_rfl))
      exact one_load _ _ rfl rfl _ _ e (cell_abides (by rw [cell_of_row _ _ 0 _ _ _ HY.out]; rfl) hb) (by kernel_rfl) ⟨_, rfl, Below.refl _ _, rfl⟩
    · intro vs w' F hb hd hF hl hT
      have ea0 := ((hF 6).trans (look_at _ 6 1 _ _ (by kernel_rfl) (by kernel_rfl) hl)).trans (dep_of (Fact := F_evo bx by_ xs xn xg ys yn yg k1 k2 k3 R) hd 1 (by kernel_rfl))
      have ea1 := ((hF 8).trans (look_at _ 8 3 _ _ (by kernel_rfl) (by kernel_rfl) hl)).trans (dep_of (Fact := F_evo bx by_ xs xn xg ys yn yg k1 k2 k3 R) hd 3 (by kernel_rfl))
      refine one_call _ _ rfl rfl (enters_of Try.func101 (by kernel_rfl) rfl) #[.int .i64 xs, .int .i64 ys] (eval2 ea0 ea1) ?_
      refine ((C1.out w').mono fun e w2 h => (⟨h.1, by rw [h.2]; exact Below.refl _ _⟩ : e = .returned (.int .i64 k1) ∧ Below w'.heap.size w' w2)).mono ?_
      rintro e2 w2 ⟨rfl, hb2⟩
      exact ⟨_, rfl, _, rfl, hb2, rfl⟩
    · intro vs w' F hb hd hF hl hT
      have e := (hF 2).trans (look_out _ 2 _ _ (by kernel_rfl))
      exact one_field _ _ _ rfl rfl _ _ e (1) (fun w => by kernel_rfl) ⟨_, rfl, Below.refl _ _, rfl⟩
    · intro vs w' F hb hd hF hl hT
      have e := ((hF 10).trans (look_at _ 10 5 _ _ (by kernel_rfl) (by kernel_rfl) hl)).trans (dep_of (Fact := F_evo bx by_ xs xn xg ys yn yg k1 k2 k3 R) hd 5 (by kernel_rfl))
      exact one_field _ _ _ rfl rfl _ _ e (1) (fun w => by kernel_rfl) ⟨_, rfl, Below.refl _ _, rfl⟩
    · intro vs w' F hb hd hF hl hT
      have e := ((hF 11).trans (look_at _ 11 6 _ _ (by kernel_rfl) (by kernel_rfl) hl)).trans (dep_of (Fact := F_evo bx by_ xs xn xg ys yn yg k1 k2 k3 R) hd 6 (by kernel_rfl))
      exact one_load _ _ rfl rfl _ _ e (cell_abides (by rw [cell_of_row _ _ 1 _ _ _ HX.out]; rfl) hb) (by kernel_rfl) ⟨_, rfl, Below.refl _ _, rfl⟩
    · intro vs w' F hb hd hF hl hT
      have e := (hF 3).trans (look_out _ 3 _ _ (by kernel_rfl))
      exact one_field _ _ _ rfl rfl _ _ e (1) (fun w => by kernel_rfl) ⟨_, rfl, Below.refl _ _, rfl⟩
    · intro vs w' F hb hd hF hl hT
      have e := ((hF 13).trans (look_at _ 13 8 _ _ (by kernel_rfl) (by kernel_rfl) hl)).trans (dep_of (Fact := F_evo bx by_ xs xn xg ys yn yg k1 k2 k3 R) hd 8 (by kernel_rfl))
      exact one_field _ _ _ rfl rfl _ _ e (1) (fun w => by kernel_rfl) ⟨_, rfl, Below.refl _ _, rfl⟩
    · intro vs w' F hb hd hF hl hT
      have e := ((hF 14).trans (look_at _ 14 9 _ _ (by kernel_rfl) (by kernel_rfl) hl)).trans (dep_of (Fact := F_evo bx by_ xs xn xg ys yn yg k1 k2 k3 R) hd 9 (by kernel_rfl))
      exact one_load _ _ rfl rfl _ _ e (cell_abides (by rw [cell_of_row _ _ 1 _ _ _ HY.out]; rfl) hb) (by kernel_rfl) ⟨_, rfl, Below.refl _ _, rfl⟩
    · intro vs w' F hb hd hF hl hT
      have ea0 := ((hF 12).trans (look_at _ 12 7 _ _ (by kernel_rfl) (by kernel_rfl) hl)).trans (dep_of (Fact := F_evo bx by_ xs xn xg ys yn yg k1 k2 k3 R) hd 7 (by kernel_rfl))
      have ea1 := ((hF 15).trans (look_at _ 15 10 _ _ (by kernel_rfl) (by kernel_rfl) hl)).trans (dep_of (Fact := F_evo bx by_ xs xn xg ys yn yg k1 k2 k3 R) hd 10 (by kernel_rfl))
      refine one_call _ _ rfl rfl (enters_of Try.func101 (by kernel_rfl) rfl) #[.int .i64 xn, .int .i64 yn] (eval2 ea0 ea1) ?_
      refine ((C2.out w').mono fun e w2 h => (⟨h.1, by rw [h.2]; exact Below.refl _ _⟩ : e = .returned (.int .i64 k2) ∧ Below w'.heap.size w' w2)).mono ?_
      rintro e2 w2 ⟨rfl, hb2⟩
      exact ⟨_, rfl, _, rfl, hb2, rfl⟩
    · intro vs w' F hb hd hF hl hT
      have e := (hF 2).trans (look_out _ 2 _ _ (by kernel_rfl))
      exact one_field _ _ _ rfl rfl _ _ e (1) (fun w => by kernel_rfl) ⟨_, rfl, Below.refl _ _, rfl⟩
    · intro vs w' F hb hd hF hl hT
      have e := ((hF 17).trans (look_at _ 17 12 _ _ (by kernel_rfl) (by kernel_rfl) hl)).trans (dep_of (Fact := F_evo bx by_ xs xn xg ys yn yg k1 k2 k3 R) hd 12 (by kernel_rfl))
      exact one_field _ _ _ rfl rfl _ _ e (2) (fun w => by kernel_rfl) ⟨_, rfl, Below.refl _ _, rfl⟩
    · intro vs w' F hb hd hF hl hT
      have e := ((hF 18).trans (look_at _ 18 13 _ _ (by kernel_rfl) (by kernel_rfl) hl)).trans (dep_of (Fact := F_evo bx by_ xs xn xg ys yn yg k1 k2 k3 R) hd 13 (by kernel_rfl))
      exact one_load _ _ rfl rfl _ _ e (cell_abides (by rw [cell_of_row _ _ 2 _ _ _ HX.out]; rfl) hb) (by kernel_rfl) ⟨_, rfl, Below.refl _ _, rfl⟩
    · intro vs w' F hb hd hF hl hT
      have e := (hF 3).trans (look_out _ 3 _ _ (by kernel_rfl))
      exact one_field _ _ _ rfl rfl _ _ e (1) (fun w => by kernel_rfl) ⟨_, rfl, Below.refl _ _, rfl⟩
    · intro vs w' F hb hd hF hl hT
      have e := ((hF 20).trans (look_at _ 20 15 _ _ (by kernel_rfl) (by kernel_rfl) hl)).trans (dep_of (Fact := F_evo bx by_ xs xn xg ys yn yg k1 k2 k3 R) hd 15 (by kernel_rfl))
      exact one_field _ _ _ rfl rfl _ _ e (2) (fun w => by kernel_rfl) ⟨_, rfl, Below.refl _ _, rfl⟩
    · intro vs w' F hb hd hF hl hT
      have e := ((hF 21).trans (look_at _ 21 16 _ _ (by kernel_rfl) (by kernel_rfl) hl)).trans (dep_of (Fact := F_evo bx by_ xs xn xg ys yn yg k1 k2 k3 R) hd 16 (by kernel_rfl))
      exact one_load _ _ rfl rfl _ _ e (cell_abides (by rw [cell_of_row _ _ 2 _ _ _ HY.out]; rfl) hb) (by kernel_rfl) ⟨_, rfl, Below.refl _ _, rfl⟩
    · intro vs w' F hb hd hF hl hT
      have ea0 := ((hF 19).trans (look_at _ 19 14 _ _ (by kernel_rfl) (by kernel_rfl) hl)).trans (dep_of (Fact := F_evo bx by_ xs xn xg ys yn yg k1 k2 k3 R) hd 14 (by kernel_rfl))
      have ea1 := ((hF 22).trans (look_at _ 22 17 _ _ (by kernel_rfl) (by kernel_rfl) hl)).trans (dep_of (Fact := F_evo bx by_ xs xn xg ys yn yg k1 k2 k3 R) hd 17 (by kernel_rfl))
      refine one_call _ _ rfl rfl (enters_of Try.func101 (by kernel_rfl) rfl) #[.int .i64 xg, .int .i64 yg] (eval2 ea0 ea1) ?_
      refine ((C3.out w').mono fun e w2 h => (⟨h.1, by rw [h.2]; exact Below.refl _ _⟩ : e = .returned (.int .i64 k3) ∧ Below w'.heap.size w' w2)).mono ?_
      rintro e2 w2 ⟨rfl, hb2⟩
      exact ⟨_, rfl, _, rfl, hb2, rfl⟩
    · intro vs w' F hb hd hF hl hT
      have e1 := (((hF 9).trans (look_at _ 9 4 _ _ (by kernel_rfl) (by kernel_rfl) hl)).trans (dep_of (Fact := F_evo bx by_ xs xn xg ys yn yg k1 k2 k3 R) hd 4 (by kernel_rfl)))
      have e2 := (((hF 16).trans (look_at _ 16 11 _ _ (by kernel_rfl) (by kernel_rfl) hl)).trans (dep_of (Fact := F_evo bx by_ xs xn xg ys yn yg k1 k2 k3 R) hd 11 (by kernel_rfl)))
      have e3 := (((hF 23).trans (look_at _ 23 18 _ _ (by kernel_rfl) (by kernel_rfl) hl)).trans (dep_of (Fact := F_evo bx by_ xs xn xg ys yn yg k1 k2 k3 R) hd 18 (by kernel_rfl)))
      exact rg_slice3 23 3 _ _ _ rfl rfl k1 k2 k3 e1 e2 e3 Try.underlying23 (by kernel_rfl) ⟨_, rfl, (Below.refl _ _).alloc (Nat.le_refl _) _, _, rfl, heap_alloc_new _ _⟩
    · intro vs w' F hb hd hF hl hT
      obtain ⟨g6, e6, b6⟩ := (dep_of (Fact := F_evo bx by_ xs xn xg ys yn yg k1 k2 k3 R) hd 19 (by kernel_rfl))
      have ea := ((hF 24).trans (look_at _ 24 19 _ _ (by kernel_rfl) (by kernel_rfl) hl)).trans e6
      have hrow : RowB w' g6 3 .i64 [k1, k2, k3] := b6
      refine one_call _ _ rfl rfl (enters_of Try.func127 (by kernel_rfl) rfl) #[.slice (some ⟨g6, 0, none⟩) 3 3] (eval1 ea) ?_
      have CO := or_ints [k1, k2, k3] (some ⟨g6, 0, none⟩) 3 3 rfl (by decide) w' hrow.ints
      rw [← HR.out] at CO
      refine CO.mono ?_
      rintro e2 w2 ⟨rfl, hb2⟩
      exact ⟨_, rfl, _, rfl, hb2, rfl⟩
    · intro vs w' F hb hd hF hl hT
      have e := ((hF 25).trans (look_at _ 25 20 _ _ (by kernel_rfl) (by kernel_rfl) hl)).trans (dep_of (Fact := F_evo bx by_ xs xn xg ys yn yg k1 k2 k3 R) hd 20 (by kernel_rfl))
      exact one_move _ rfl (by first | exact Or.inl rfl | exact Or.inr rfl) ⟨_, rfl, Below.refl _ _, e⟩
  · intro vs8 W8 hl hb hI
    have hv20 : vs8.getD 20 undef = .int .i64 R := hI 20 (by omega)
    obtain ⟨z0, z1, z2, z3, z4, z5, z6, z7, z8, z9, z10, z11, z12, z13, z14, z15, z16, z17, z18, z19, z20, z21, hvs⟩ := list22 hl
    subst hvs
    replace hv20 : z20 = .int .i64 R := hv20
    have hv21 : z21 = .int .i64 R := by
      have h := hI 21 (by omega)
      exact h
    subst hv20 hv21
    have HB8 := Lib.hid (HB0.out.trans (hb.mono HB0.out.size))
    clear hI hl hb
    simp only [fillAll, Act.put, List.setIfInBounds_toArray, List.set_cons_succ, List.set_cons_zero, List.drop_succ_cons, List.drop_zero]
    show wpList _ _ _ [] _ _
    go_wp2_with fail
    go_ret
    exact ⟨rfl, HB8.out⟩
set_option maxHeartbeats 4000000 in
theorem ct_order (s n k : Int) (W : World) :
    Calls Try.prog 100 #[.agg #[.int .i64 s, .int .i64 n], .int .i64 k] W fun e w' => e = .returned (.int .i64 (cmpI s k)) ∧ Below W.heap.size W w' := by
  have hb0 := (Below.refl W.heap.size W).alloc (Nat.le_refl _) (.cells #[.int .i64 s, .int .i64 n] 108)
  have HB0 := Lib.hid hb0
  obtain ⟨k1, hk1⟩ : ∃ q, q = cmpI s k := ⟨_, rfl⟩
  have C1 := Lib.hid (fun w => cmp_ints s k w)
  rw [← hk1] at C1 ⊢
  clear hk1 hb0
  go_enter Try.func100, Try.ntmps100
  go_wp2_with fail
  refine (C1.out _).mono ?_
  rintro e w1 ⟨rfl, rfl⟩
  go_wp2_with fail
  go_ret
  exact ⟨rfl, HB0.out⟩
end Go.Proofs.Ytlahmcbaiebapaa
