/- kind.Same: a list against itself, against a list of another length. -/
import Derived.Test.YtenfegdhbbdinaaDoorKindEq2
import Derived.BigQuiet
import Derived.Deep.QuietTactic
namespace Go.Proofs.YtenfegdhbbdinaaDoor
open Go.ChangeShapes Go.WideShapes Go.ChangeAt Go.RowKit Go.Nm Go.Mem
set_option linter.unusedVariables false
section
variable {P : Program} {ops : Array Oper} {o : Oper} {F : Act} {w : World} {Q : Exit → Act → World → Prop}
theorem one_fieldv (ty : TypeId) (x : Operand) (k : Nat) (hgd : o.guard = none) (ho : o.op = .fieldAddr ty x k) (u r : Value) (hx : F.eval x = u)
    (hi : ∀ w : World, (Instr.fieldAt ty u k).run P w = .ok r w) (h : Q .normal (F.put o.dst r) w) : wpList P ops Q [o] F w := by
  refine wpList_plain hgd fun K hK => ?_
  unfold Oper.wp execOp
  simp [ho, hx, hi, Oper.upon]
  exact hK _ _ h
end
theorem list17 {α : Type} {vs : List α} (h : vs.length = 17) : ∃ a b c d e f g i j k l m n o p q r, vs = [a, b, c, d, e, f, g, i, j, k, l, m, n, o, p, q, r] := by
  match vs, h with
  | [a, b, c, d, e, f, g, i, j, k, l, m, n, o, p, q, r], _ => exact ⟨a, b, c, d, e, f, g, i, j, k, l, m, n, o, p, q, r, rfl⟩
def F_ks (x z x4 z4 : Addr) (n ca cb i f cx cy q : Nat) (y : FieldV) (j : Nat) (v : Value) (w : World) : Prop :=
  match j with
  | 0 => v = .slice (some x) n ca
  | 1 => v = .int .i64 i
  | 2 => v = .pointer (some (x.add (i * 2)))
  | 3 => v = .pointer (some ⟨(x.add (i * 2)).block, (x.add (i * 2)).off + 1, none⟩)
  | 4 => v = .slice (some x4) f cx
  | 5 => v = .int .i64 q
  | 6 => v = .pointer (some (x4.add (q * 3)))
  | 7 => v = .agg #[.string y.name, .int .i64 y.bits, .int .i64 y.low]
  | 8 => v = .slice (some z) n cb
  | 9 => v = .int .i64 i
  | 10 => v = .pointer (some (z.add (i * 2)))
  | 11 => v = .pointer (some ⟨(z.add (i * 2)).block, (z.add (i * 2)).off + 1, none⟩)
  | 12 => v = .slice (some z4) f cy
  | 13 => v = .int .i64 q
  | 14 => v = .pointer (some (z4.add (q * 3)))
  | 15 => v = .agg #[.string y.name, .int .i64 y.bits, .int .i64 y.low]
  | 16 => v = .bool false
  | _ => True
theorem F_ks_mono (x z x4 z4 : Addr) (n ca cb i f cx cy q : Nat) (y : FieldV) : Facts (F_ks x z x4 z4 n ca cb i f cx cy q y) := ⟨by
  intro j v w w' h hb
  unfold F_ks at h ⊢
  split at h
  all_goals first | exact h | trivial⟩

set_option maxHeartbeats 4000000 in
theorem kind_Same_ne (a b : Option Addr) (n m ca cb : Nat) (h1 : n ≤ 17592186044001) (h2 : m ≤ 17592186044001) (hnm : n ≠ m) (W : World) :
    Calls Tryd.prog 27 #[.slice a n ca, .slice b m cb] W fun e w' => e = .returned (.bool false) ∧ Below W.heap.size W w' := by
  have t0 : ((n : Int) != (m : Int)) = true := by rw [bne_iff_ne]; omega
  clear hnm
  go_enter Tryd.func27, Tryd.ntmps27
  go_wp2_with fail
  go_ret
  exact ⟨rfl, Below.refl _ _⟩
set_option maxHeartbeats 8000000 in
theorem kind_Same (l : List KindV) (a b : Option Addr) (n ca cb : Nat) (hn : l.length = n) (h1 : n ≤ 17592186044000) (W : World) (hz : SlAt 2 KindAt W a l) (hy : SlAt 2 KindAt W b l) :
    Calls Tryd.prog 27 #[.slice a n ca, .slice b n cb] W fun e w' => e = .returned (.bool true) ∧ Below W.heap.size W w' := by
  have HN := Lib.hid hn
  have HZ := Lib.hid hz
  have HY := Lib.hid hy
  clear hn hz hy
  have t0 : ((n : Int) != (n : Int)) = false := by simp
  go_enter Tryd.func27, Tryd.ntmps27
  go_wp2_with fail
  go_loopg [5, 6, 14] n (fun gk v5 v6 vi wx => ∃ i : Nat, i ≤ n ∧ gk = n - i ∧ vi = .int .i64 i ∧ Below W.heap.size W wx)
  case atStart => exact ⟨0, Nat.zero_le _, rfl, rfl, Below.refl _ _⟩
  case round =>
    obtain ⟨i, hi, g2, rfl, hb⟩ := hrel
    have G2 := Lib.hid g2
    have HB := Lib.hid hb
    have hbs := hb.size
    clear g2 hb
    obtain ⟨Wo, rfl⟩ : ∃ Wo : World, Wo = wr := ⟨_, rfl⟩
    by_cases hlt : i < n
    · obtain ⟨x, rfl, hx, hix⟩ := (HZ.out.below KindAt.abides HB.out) (by rw [HN.out]; omega)
      obtain ⟨z, rfl, hx2, hiz⟩ := (HY.out.below KindAt.abides HB.out) (by rw [HN.out]; omega)
      obtain ⟨x0, xn, ax, cx, x1, x2, x3, xi⟩ := hix i (by rw [HN.out]; exact hlt)
      obtain ⟨y0, yn, ay, cy, y1, y2, y3, yi⟩ := hiz i (by rw [HN.out]; exact hlt)
      obtain ⟨X, hX⟩ : ∃ X, X = l[i]'(by rw [HN.out]; exact hlt) := ⟨_, rfl⟩
      rw [← hX] at x0 x1 x2 xi y0 y1 y2 yi
      obtain ⟨f, hf⟩ : ∃ f, f = X.fields.length := ⟨_, rfl⟩
      rw [← hf] at x1 x2 y1 y2
      obtain ⟨sn, hsn⟩ : ∃ sn, sn = X.name := ⟨_, rfl⟩
      rw [← hsn] at x0 y0
      have HF := Lib.hid hf
      have HXI := Lib.hid xi
      have HYI := Lib.hid yi
      have i1 : (0 : Int) ≤ (i : Int) := by omega
      have i2 : (i : Int) < (n : Int) := by omega
      have q1 : (sn.toList == sn.toList) = true := beq_self_eq_true _
      have q2 : ((f : Int) != (f : Int)) = false := by simp
      clear hix hiz hX hf hsn xi yi xn yn
      go_wp2
      go_quiet (fail)
      go_wp2
      go_loopg [6, 49] f (fun gk v6 vi wx => ∃ q : Nat, q ≤ f ∧ gk = f - q ∧ vi = .int .i64 q ∧ Below Wo.heap.size Wo wx)
      case atStart => exact ⟨0, Nat.zero_le _, rfl, rfl, below_drewN (Below.refl _ _) _⟩
      case round =>
        obtain ⟨q, hq, g4, rfl, hbo⟩ := hrel
        have G4 := Lib.hid g4
        have HBO := Lib.hid hbo
        have hbos := hbo.size
        clear g4 hbo
        by_cases hqf : q < f
        · obtain ⟨x4, rfl, hx4, hi4⟩ := (HXI.out.below FieldAt.abides HBO.out) (by rw [← HF.out]; omega)
          obtain ⟨z4, rfl, hz4, hj4⟩ := (HYI.out.below FieldAt.abides HBO.out) (by rw [← HF.out]; omega)
          obtain ⟨k0, k1, k2, k3⟩ := hi4 q (by rw [← HF.out]; exact hqf)
          obtain ⟨j0, j1, j2, j3⟩ := hj4 q (by rw [← HF.out]; exact hqf)
          obtain ⟨y, hy⟩ : ∃ y, y = X.fields[q]'(by rw [← HF.out]; exact hqf) := ⟨_, rfl⟩
          rw [← hy] at k0 k1 k2 j0 j1 j2
          replace x1 := cell_abides x1 HBO.out
          replace y1 := cell_abides y1 HBO.out
          clear hi4 hj4 hy k3 j3 x0 y0
          go_wp2
          refine wp_region_facts rfl 17 (by kernel_rfl) (F_ks x z x4 z4 n ca cb i f cx cy q y) (F_ks_mono x z x4 z4 n ca cb i f cx cy q y) ?_ ?_
          · refine ⟨?_, ?_, ?_, ?_, ?_, ?_, ?_, ?_, ?_, ?_, ?_, ?_, ?_, ?_, ?_, ?_, ?_, trivial⟩
            · intro vs w' F hb hd hF hl
              have e := (hF 0).trans (look_out _ 0 _ _ (by kernel_rfl))
              exact one_move _ rfl (by first | exact Or.inl rfl | exact Or.inr rfl) ⟨_, rfl, Below.refl _ _, e⟩
            · intro vs w' F hb hd hF hl
              have e := (hF 5).trans (look_out _ 5 _ _ (by kernel_rfl))
              exact one_move _ rfl (by first | exact Or.inl rfl | exact Or.inr rfl) ⟨_, rfl, Below.refl _ _, e⟩
            · intro vs w' F hb hd hF hl
              have ex := (((hF 52).trans (look_at _ 52 0 _ _ (by kernel_rfl) (by kernel_rfl) hl)).trans (dep_of (Fact := F_ks x z x4 z4 n ca cb i f cx cy q y) hd 0 (by kernel_rfl)))
              have ey := (((hF 53).trans (look_at _ 53 1 _ _ (by kernel_rfl) (by kernel_rfl) hl)).trans (dep_of (Fact := F_ks x z x4 z4 n ca cb i f cx cy q y) hd 1 (by kernel_rfl)))
              exact one_index 22 _ _ rfl rfl (.slice (some x) n ca) (.int .i64 i) (.pointer (some (x.add (i * 2)))) ex ey (fun w => by clear hb hd hF hl ex ey; go_simp) ⟨_, rfl, Below.refl _ _, rfl⟩
            · intro vs w' F hb hd hF hl
              have e := (((hF 54).trans (look_at _ 54 2 _ _ (by kernel_rfl) (by kernel_rfl) hl)).trans (dep_of (Fact := F_ks x z x4 z4 n ca cb i f cx cy q y) hd 2 (by kernel_rfl)))
              exact one_fieldv _ _ _ rfl rfl _ (.pointer (some ⟨(x.add (i * 2)).block, (x.add (i * 2)).off + 1, none⟩)) e (fun w => by kernel_rfl) ⟨_, rfl, Below.refl _ _, rfl⟩
            · intro vs w' F hb hd hF hl
              have e := (((hF 55).trans (look_at _ 55 3 _ _ (by kernel_rfl) (by kernel_rfl) hl)).trans (dep_of (Fact := F_ks x z x4 z4 n ca cb i f cx cy q y) hd 3 (by kernel_rfl)))
              exact one_load _ _ rfl rfl _ _ e (cell_abides x1 hb) (by kernel_rfl) ⟨_, rfl, Below.refl _ _, rfl⟩
            · intro vs w' F hb hd hF hl
              have e := (hF 6).trans (look_out _ 6 _ _ (by kernel_rfl))
              exact one_move _ rfl (by first | exact Or.inl rfl | exact Or.inr rfl) ⟨_, rfl, Below.refl _ _, e⟩
            · intro vs w' F hb hd hF hl
              have ex := (((hF 56).trans (look_at _ 56 4 _ _ (by kernel_rfl) (by kernel_rfl) hl)).trans (dep_of (Fact := F_ks x z x4 z4 n ca cb i f cx cy q y) hd 4 (by kernel_rfl)))
              have ey := (((hF 57).trans (look_at _ 57 5 _ _ (by kernel_rfl) (by kernel_rfl) hl)).trans (dep_of (Fact := F_ks x z x4 z4 n ca cb i f cx cy q y) hd 5 (by kernel_rfl)))
              exact one_index 23 _ _ rfl rfl (.slice (some x4) f cx) (.int .i64 q) (.pointer (some (x4.add (q * 3)))) ex ey (fun w => by clear hb hd hF hl ex ey; go_simp) ⟨_, rfl, Below.refl _ _, rfl⟩
            · intro vs w' F hb hd hF hl
              have e := (((hF 58).trans (look_at _ 58 6 _ _ (by kernel_rfl) (by kernel_rfl) hl)).trans (dep_of (Fact := F_ks x z x4 z4 n ca cb i f cx cy q y) hd 6 (by kernel_rfl)))
              exact one_load3 39 _ rfl rfl _ _ _ _ e (cell_abides k0 hb) (cell_abides k1 hb) (cell_abides k2 hb) _ Tryd.underlying39 rfl (by kernel_rfl) ⟨_, rfl, Below.refl _ _, rfl⟩
            · intro vs w' F hb hd hF hl
              have e := (hF 1).trans (look_out _ 1 _ _ (by kernel_rfl))
              exact one_move _ rfl (by first | exact Or.inl rfl | exact Or.inr rfl) ⟨_, rfl, Below.refl _ _, e⟩
            · intro vs w' F hb hd hF hl
              have e := (hF 5).trans (look_out _ 5 _ _ (by kernel_rfl))
              exact one_move _ rfl (by first | exact Or.inl rfl | exact Or.inr rfl) ⟨_, rfl, Below.refl _ _, e⟩
            · intro vs w' F hb hd hF hl
              have ex := (((hF 60).trans (look_at _ 60 8 _ _ (by kernel_rfl) (by kernel_rfl) hl)).trans (dep_of (Fact := F_ks x z x4 z4 n ca cb i f cx cy q y) hd 8 (by kernel_rfl)))
              have ey := (((hF 61).trans (look_at _ 61 9 _ _ (by kernel_rfl) (by kernel_rfl) hl)).trans (dep_of (Fact := F_ks x z x4 z4 n ca cb i f cx cy q y) hd 9 (by kernel_rfl)))
              exact one_index 22 _ _ rfl rfl (.slice (some z) n cb) (.int .i64 i) (.pointer (some (z.add (i * 2)))) ex ey (fun w => by clear hb hd hF hl ex ey; go_simp) ⟨_, rfl, Below.refl _ _, rfl⟩
            · intro vs w' F hb hd hF hl
              have e := (((hF 62).trans (look_at _ 62 10 _ _ (by kernel_rfl) (by kernel_rfl) hl)).trans (dep_of (Fact := F_ks x z x4 z4 n ca cb i f cx cy q y) hd 10 (by kernel_rfl)))
              exact one_fieldv _ _ _ rfl rfl _ (.pointer (some ⟨(z.add (i * 2)).block, (z.add (i * 2)).off + 1, none⟩)) e (fun w => by kernel_rfl) ⟨_, rfl, Below.refl _ _, rfl⟩
            · intro vs w' F hb hd hF hl
              have e := (((hF 63).trans (look_at _ 63 11 _ _ (by kernel_rfl) (by kernel_rfl) hl)).trans (dep_of (Fact := F_ks x z x4 z4 n ca cb i f cx cy q y) hd 11 (by kernel_rfl)))
              exact one_load _ _ rfl rfl _ _ e (cell_abides y1 hb) (by kernel_rfl) ⟨_, rfl, Below.refl _ _, rfl⟩
            · intro vs w' F hb hd hF hl
              have e := (hF 6).trans (look_out _ 6 _ _ (by kernel_rfl))
              exact one_move _ rfl (by first | exact Or.inl rfl | exact Or.inr rfl) ⟨_, rfl, Below.refl _ _, e⟩
            · intro vs w' F hb hd hF hl
              have ex := (((hF 64).trans (look_at _ 64 12 _ _ (by kernel_rfl) (by kernel_rfl) hl)).trans (dep_of (Fact := F_ks x z x4 z4 n ca cb i f cx cy q y) hd 12 (by kernel_rfl)))
              have ey := (((hF 65).trans (look_at _ 65 13 _ _ (by kernel_rfl) (by kernel_rfl) hl)).trans (dep_of (Fact := F_ks x z x4 z4 n ca cb i f cx cy q y) hd 13 (by kernel_rfl)))
              exact one_index 23 _ _ rfl rfl (.slice (some z4) f cy) (.int .i64 q) (.pointer (some (z4.add (q * 3)))) ex ey (fun w => by clear hb hd hF hl ex ey; go_simp) ⟨_, rfl, Below.refl _ _, rfl⟩
            · intro vs w' F hb hd hF hl
              have e := (((hF 66).trans (look_at _ 66 14 _ _ (by kernel_rfl) (by kernel_rfl) hl)).trans (dep_of (Fact := F_ks x z x4 z4 n ca cb i f cx cy q y) hd 14 (by kernel_rfl)))
              exact one_load3 39 _ rfl rfl _ _ _ _ e (cell_abides j0 hb) (cell_abides j1 hb) (cell_abides j2 hb) _ Tryd.underlying39 rfl (by kernel_rfl) ⟨_, rfl, Below.refl _ _, rfl⟩
            · intro vs w' F hb hd hF hl
              have ex := (((hF 59).trans (look_at _ 59 7 _ _ (by kernel_rfl) (by kernel_rfl) hl)).trans (dep_of (Fact := F_ks x z x4 z4 n ca cb i f cx cy q y) hd 7 (by kernel_rfl)))
              have ey := (((hF 67).trans (look_at _ 67 15 _ _ (by kernel_rfl) (by kernel_rfl) hl)).trans (dep_of (Fact := F_ks x z x4 z4 n ca cb i f cx cy q y) hd 15 (by kernel_rfl)))
              exact one_binop _ 39 _ _ _ rfl rfl _ _ ex ey (.bool false) (fld_guard _ _ _ _ _ w') (fld_neq _ _ _ w') ⟨_, rfl, Below.refl _ _, rfl⟩
          · intro vs W1 hl hb hI
            have i8 : vs.getD 16 undef = .bool false := hI 16 (by omega)
            obtain ⟨v0, v1, v2, v3, v4, v5, v6, v7, v8, v9, v10, v11, v12, v13, v14, v15, v16, rfl⟩ := list17 hl
            replace i8 : v16 = .bool false := i8
            subst i8
            have HBN := Lib.hid (HBO.out.trans (hb.mono hbos))
            clear hI hl hb k0 k1 k2 j0 j1 j2 x1 y1
            simp only [fillAll, Act.put, List.setIfInBounds_toArray, List.set_cons_succ, List.set_cons_zero]
            show wpList _ _ _ [] _ _
            go_wp2
            go_roundg (f - (q + 1))
            case measure => rw [G4.out]; omega
            case rel => exact ⟨q + 1, hqf, rfl, by go_num, HBN.out⟩
        · have HBN := Lib.hid (HB.out.trans (HBO.out.mono hbs))
          go_wp2
          go_roundg (n - (i + 1))
          case measure => rw [G2.out]; omega
          case rel => exact ⟨i + 1, hlt, rfl, by go_num, HBN.out⟩
    · go_wp2_with fail
      go_ret
      exact ⟨rfl, HB.out⟩
end Go.Proofs.YtenfegdhbbdinaaDoor
