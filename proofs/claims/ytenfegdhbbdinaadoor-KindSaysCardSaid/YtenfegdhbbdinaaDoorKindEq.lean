/- slices.Equal at fields, and a list of fields held against itself; ref SameKind, slices.EqualFunc at kinds. -/
import Derived.Test.YtenfegdhbbdinaaDoorKindEqF
import Derived.Test.YtenfegdhbbdinaaDoorKindFitd
import Derived.Test.YtenfegdhbbdinaaDoorRegMore
namespace Go.Proofs.YtenfegdhbbdinaaDoor
open Go.ChangeShapes Go.WideShapes Go.ChangeAt Go.RowKit Go.Nm Go.Mem
set_option linter.unusedVariables false
def F_eqf (x z : Addr) (n ca cb i : Nat) (y : FieldV) (j : Nat) (v : Value) (w : World) : Prop :=
  match j with
  | 0 => v = .slice (some x) n ca
  | 1 => v = .int .i64 i
  | 2 => v = .pointer (some (x.add (i * 3)))
  | 3 => v = .agg #[.string y.name, .int .i64 y.bits, .int .i64 y.low]
  | 4 => v = .slice (some z) n cb
  | 5 => v = .int .i64 i
  | 6 => v = .pointer (some (z.add (i * 3)))
  | 7 => v = .agg #[.string y.name, .int .i64 y.bits, .int .i64 y.low]
  | 8 => v = .bool false
  | _ => True
theorem F_eqf_mono (x z : Addr) (n ca cb i : Nat) (y : FieldV) : Facts (F_eqf x z n ca cb i y) := ⟨by
  intro j v w w' h hb
  unfold F_eqf at h ⊢
  split at h
  all_goals first | exact h | trivial⟩

set_option maxHeartbeats 4000000 in
theorem eq_flds (l : List FieldV) (a b : Option Addr) (n ca cb : Nat) (hn : l.length = n) (h1 : n ≤ 9223372036854775807) (W : World) (hz : SlAt 3 FieldAt W a l) (hy : SlAt 3 FieldAt W b l) :
    Calls Tryd.prog 45 #[.slice a n ca, .slice b n cb] W fun e w' => e = .returned (.bool true) ∧ Below W.heap.size W w' := by
  have HN := Lib.hid hn
  have HZ := Lib.hid hz
  have HY := Lib.hid hy
  clear hn hz hy
  have t0 : ((n : Int) != (n : Int)) = false := by simp
  go_enter Tryd.func45, Tryd.ntmps45
  go_wp2_with fail
  go_loopg [5, 13] n (fun gk v5 vi wx => ∃ i : Nat, i ≤ n ∧ gk = n - i ∧ vi = .int .i64 i ∧ Below W.heap.size W wx)
  case atStart => exact ⟨0, Nat.zero_le _, rfl, rfl, Below.refl _ _⟩
  case round =>
    obtain ⟨i, hi, g2, rfl, hb⟩ := hrel
    have G2 := Lib.hid g2
    have HB := Lib.hid hb
    have hbs := hb.size
    clear g2 hb
    by_cases hlt : i < n
    · obtain ⟨x, rfl, hx, hix⟩ := (HZ.out.below FieldAt.abides HB.out) (by rw [HN.out]; omega)
      obtain ⟨z, rfl, hx2, hiz⟩ := (HY.out.below FieldAt.abides HB.out) (by rw [HN.out]; omega)
      obtain ⟨k0, k1, k2, k3⟩ := hix i (by rw [HN.out]; exact hlt)
      obtain ⟨j0, j1, j2, j3⟩ := hiz i (by rw [HN.out]; exact hlt)
      obtain ⟨y, hy⟩ : ∃ y, y = l[i]'(by rw [HN.out]; exact hlt) := ⟨_, rfl⟩
      rw [← hy] at k0 k1 k2 j0 j1 j2
      clear hix hiz hy k3 j3
      go_wp2_with fail
      refine wp_region_facts rfl 9 (by kernel_rfl) (F_eqf x z n ca cb i y) (F_eqf_mono x z n ca cb i y) ?_ ?_
      · refine ⟨?_, ?_, ?_, ?_, ?_, ?_, ?_, ?_, ?_, trivial⟩
        · intro vs w' F hb hd hF hl
          have e := (hF 0).trans (look_out _ 0 _ _ (by kernel_rfl))
          exact one_move _ rfl (by first | exact Or.inl rfl | exact Or.inr rfl) ⟨_, rfl, Below.refl _ _, e⟩
        · intro vs w' F hb hd hF hl
          have e := (hF 5).trans (look_out _ 5 _ _ (by kernel_rfl))
          exact one_move _ rfl (by first | exact Or.inl rfl | exact Or.inr rfl) ⟨_, rfl, Below.refl _ _, e⟩
        · intro vs w' F hb hd hF hl
          have ex := (((hF 16).trans (look_at _ 16 0 _ _ (by kernel_rfl) (by kernel_rfl) hl)).trans (dep_of (Fact := F_eqf x z n ca cb i y) hd 0 (by kernel_rfl)))
          have ey := (((hF 17).trans (look_at _ 17 1 _ _ (by kernel_rfl) (by kernel_rfl) hl)).trans (dep_of (Fact := F_eqf x z n ca cb i y) hd 1 (by kernel_rfl)))
          exact one_index 23 _ _ rfl rfl (.slice (some x) n ca) (.int .i64 i) (.pointer (some (x.add (i * 3)))) ex ey (fun w => by clear hb hd hF hl ex ey; go_simp) ⟨_, rfl, Below.refl _ _, rfl⟩
        · intro vs w' F hb hd hF hl
          have e := (((hF 18).trans (look_at _ 18 2 _ _ (by kernel_rfl) (by kernel_rfl) hl)).trans (dep_of (Fact := F_eqf x z n ca cb i y) hd 2 (by kernel_rfl)))
          exact one_load3 39 _ rfl rfl _ _ _ _ e (cell_abides k0 hb) (cell_abides k1 hb) (cell_abides k2 hb) _ Tryd.underlying39 rfl (by kernel_rfl) ⟨_, rfl, Below.refl _ _, rfl⟩
        · intro vs w' F hb hd hF hl
          have e := (hF 1).trans (look_out _ 1 _ _ (by kernel_rfl))
          exact one_move _ rfl (by first | exact Or.inl rfl | exact Or.inr rfl) ⟨_, rfl, Below.refl _ _, e⟩
        · intro vs w' F hb hd hF hl
          have e := (hF 5).trans (look_out _ 5 _ _ (by kernel_rfl))
          exact one_move _ rfl (by first | exact Or.inl rfl | exact Or.inr rfl) ⟨_, rfl, Below.refl _ _, e⟩
        · intro vs w' F hb hd hF hl
          have ex := (((hF 20).trans (look_at _ 20 4 _ _ (by kernel_rfl) (by kernel_rfl) hl)).trans (dep_of (Fact := F_eqf x z n ca cb i y) hd 4 (by kernel_rfl)))
          have ey := (((hF 21).trans (look_at _ 21 5 _ _ (by kernel_rfl) (by kernel_rfl) hl)).trans (dep_of (Fact := F_eqf x z n ca cb i y) hd 5 (by kernel_rfl)))
          exact one_index 23 _ _ rfl rfl (.slice (some z) n cb) (.int .i64 i) (.pointer (some (z.add (i * 3)))) ex ey (fun w => by clear hb hd hF hl ex ey; go_simp) ⟨_, rfl, Below.refl _ _, rfl⟩
        · intro vs w' F hb hd hF hl
          have e := (((hF 22).trans (look_at _ 22 6 _ _ (by kernel_rfl) (by kernel_rfl) hl)).trans (dep_of (Fact := F_eqf x z n ca cb i y) hd 6 (by kernel_rfl)))
          exact one_load3 39 _ rfl rfl _ _ _ _ e (cell_abides j0 hb) (cell_abides j1 hb) (cell_abides j2 hb) _ Tryd.underlying39 rfl (by kernel_rfl) ⟨_, rfl, Below.refl _ _, rfl⟩
        · intro vs w' F hb hd hF hl
          have ex := (((hF 19).trans (look_at _ 19 3 _ _ (by kernel_rfl) (by kernel_rfl) hl)).trans (dep_of (Fact := F_eqf x z n ca cb i y) hd 3 (by kernel_rfl)))
          have ey := (((hF 23).trans (look_at _ 23 7 _ _ (by kernel_rfl) (by kernel_rfl) hl)).trans (dep_of (Fact := F_eqf x z n ca cb i y) hd 7 (by kernel_rfl)))
          exact one_binop _ 39 _ _ _ rfl rfl _ _ ex ey (.bool false) (fld_guard _ _ _ _ _ w') (fld_neq _ _ _ w') ⟨_, rfl, Below.refl _ _, rfl⟩
      · intro vs W1 hl hb hI
        have i8 : vs.getD 8 undef = .bool false := hI 8 (by omega)
        obtain ⟨v0, v1, v2, v3, v4, v5, v6, v7, v8, rfl⟩ := list9 hl
        replace i8 : v8 = .bool false := i8
        subst i8
        have HBN := Lib.hid (HB.out.trans (hb.mono hbs))
        clear hI hl hb k0 k1 k2 j0 j1 j2
        simp only [fillAll, Act.put, List.setIfInBounds_toArray, List.set_cons_succ, List.set_cons_zero]
        show wpList _ _ _ [] _ _
        go_wp2
        go_roundg (n - (i + 1))
        case measure => rw [G2.out]; omega
        case rel => exact ⟨i + 1, hlt, rfl, by go_num, HBN.out⟩
    · go_wp2_with fail
      go_ret
      exact ⟨rfl, HB.out⟩
end Go.Proofs.YtenfegdhbbdinaaDoor
