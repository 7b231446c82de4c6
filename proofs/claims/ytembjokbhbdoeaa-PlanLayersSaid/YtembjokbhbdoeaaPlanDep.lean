/- plan.depths. -/
import Derived.Test.YtembjokbhbdoeaaPlanDepP
import Derived.Deep.RegionHeld3
import Derived.Deep.DeepMust
import Derived.OwnWalk
import Derived.Lib.MinMax
namespace Go.Proofs.Ytembjokbhbdoeaa
open Go.ChangeShapes Go.WideShapes Go.ChangeAt Go.RowKit Go.Mem
set_option linter.unusedVariables false
/-- seven cells in a row, a system's -/
def Cells7 (w : World) (b o : Nat) (v0 v1 v2 v3 v4 v5 v6 : Value) : Prop :=
  w.cell? ⟨b, o, none⟩ = some v0 ∧ w.cell? ⟨b, o + 1, none⟩ = some v1 ∧ w.cell? ⟨b, o + 2, none⟩ = some v2 ∧ w.cell? ⟨b, o + 3, none⟩ = some v3 ∧ w.cell? ⟨b, o + 4, none⟩ = some v4 ∧ w.cell? ⟨b, o + 5, none⟩ = some v5 ∧ w.cell? ⟨b, o + 6, none⟩ = some v6
theorem Cells7.below {w w' : World} {b o : Nat} {v0 v1 v2 v3 v4 v5 v6 : Value} (h : Cells7 w b o v0 v1 v2 v3 v4 v5 v6) (hb : Below w.heap.size w w') : Cells7 w' b o v0 v1 v2 v3 v4 v5 v6 :=
  ⟨cell_abides h.1 hb, cell_abides h.2.1 hb, cell_abides h.2.2.1 hb, cell_abides h.2.2.2.1 hb, cell_abides h.2.2.2.2.1 hb, cell_abides h.2.2.2.2.2.1 hb, cell_abides h.2.2.2.2.2.2 hb⟩
theorem keepP {w w1 w2 : World} {G i j xb xo : Nat} {vi vj : Value} {yi yj : SysV} {zs : List Int} {t : TypeId} {s0 s1 s2 s3 s4 s5 s6 t0 t1 t2 t3 t4 t5 t6 : Value}
    (hb : Below w1.heap.size w1 w2) (h : (w1.cell? ⟨xb, xo + i * 7, none⟩ = some s0 ∧ w1.cell? ⟨xb, xo + i * 7 + 1, none⟩ = some s1 ∧ w1.cell? ⟨xb, xo + i * 7 + 2, none⟩ = some s2 ∧ w1.cell? ⟨xb, xo + i * 7 + 3, none⟩ = some s3 ∧ w1.cell? ⟨xb, xo + i * 7 + 4, none⟩ = some s4 ∧ w1.cell? ⟨xb, xo + i * 7 + 5, none⟩ = some s5 ∧ w1.cell? ⟨xb, xo + i * 7 + 6, none⟩ = some s6) ∧ (w1.cell? ⟨xb, xo + j * 7, none⟩ = some t0 ∧ w1.cell? ⟨xb, xo + j * 7 + 1, none⟩ = some t1 ∧ w1.cell? ⟨xb, xo + j * 7 + 2, none⟩ = some t2 ∧ w1.cell? ⟨xb, xo + j * 7 + 3, none⟩ = some t3 ∧ w1.cell? ⟨xb, xo + j * 7 + 4, none⟩ = some t4 ∧ w1.cell? ⟨xb, xo + j * 7 + 5, none⟩ = some t5 ∧ w1.cell? ⟨xb, xo + j * 7 + 6, none⟩ = some t6) ∧ SysIn w1 vi yi ∧ SysIn w1 vj yj ∧ RowB w1 G t .i64 zs ∧ Below G w w1) :
    (w2.cell? ⟨xb, xo + i * 7, none⟩ = some s0 ∧ w2.cell? ⟨xb, xo + i * 7 + 1, none⟩ = some s1 ∧ w2.cell? ⟨xb, xo + i * 7 + 2, none⟩ = some s2 ∧ w2.cell? ⟨xb, xo + i * 7 + 3, none⟩ = some s3 ∧ w2.cell? ⟨xb, xo + i * 7 + 4, none⟩ = some s4 ∧ w2.cell? ⟨xb, xo + i * 7 + 5, none⟩ = some s5 ∧ w2.cell? ⟨xb, xo + i * 7 + 6, none⟩ = some s6) ∧ (w2.cell? ⟨xb, xo + j * 7, none⟩ = some t0 ∧ w2.cell? ⟨xb, xo + j * 7 + 1, none⟩ = some t1 ∧ w2.cell? ⟨xb, xo + j * 7 + 2, none⟩ = some t2 ∧ w2.cell? ⟨xb, xo + j * 7 + 3, none⟩ = some t3 ∧ w2.cell? ⟨xb, xo + j * 7 + 4, none⟩ = some t4 ∧ w2.cell? ⟨xb, xo + j * 7 + 5, none⟩ = some t5 ∧ w2.cell? ⟨xb, xo + j * 7 + 6, none⟩ = some t6) ∧ SysIn w2 vi yi ∧ SysIn w2 vj yj ∧ RowB w2 G t .i64 zs ∧ Below G w w2 :=
  ⟨Cells7.below h.1 hb, Cells7.below h.2.1 hb, h.2.2.1.below hb, h.2.2.2.1.below hb, h.2.2.2.2.1.below hb, h.2.2.2.2.2.trans (hb.mono (Nat.le_of_lt h.2.2.2.2.1.lt))⟩
set_option maxHeartbeats 8000000 in
theorem plan_depths (a : Option Addr) (c m : Nat) (l : List SysV) (hm : l.length = m) (h1 : m ≤ 1000000) (w : World) (ha : SlAt 7 SysAt w a l) :
    Calls Try.prog 18 #[.slice a m c] w fun e w' => (∃ G, e = .returned (.slice (some ⟨G, 0, none⟩) m m) ∧ w.heap.size ≤ G ∧ RowB w' G 3 .i64 (depRow0 l m m)) ∧ Below w.heap.size w w' := by
  have HM := Lib.hid hm
  have HA := Lib.hid ha
  clear hm ha
  go_enter Try.func18, Try.ntmps18
  go_wp2_with (at_make; go_must (refine wpList_make_rowB rfl _ _ 26 rfl 3 .i64 8 Try.underlying26 (by kernel_rfl) _ _ _ _ m rfl rfl rfl rfl ?b1 ?b2 ?_); (case b1 => omega); (case b2 => unfold maxLen; omega))
  intro w1 hro hb1 hz1
  obtain ⟨G, hG⟩ : ∃ G, G = w.heap.size := ⟨_, rfl⟩
  rw [← hG] at hro hb1 ⊢
  rw [← depRow0_zero l m] at hro
  have HRO := Lib.hid hro
  have HG := Lib.hid hG
  clear hro hz1 hG
  go_wp2_with fail
  go_loopg [4, 5, 11] m (fun gk _ _ vi wx => ∃ i : Nat, i ≤ m ∧ gk = m - i ∧ vi = .int .i64 i ∧ RowB wx G 3 .i64 (depRow0 l m i) ∧ Below G w wx)
  case atStart => exact ⟨0, Nat.zero_le _, rfl, rfl, HRO.out, hb1⟩
  case round =>
    clear HRO hb1
    obtain ⟨i, g1, g2, rfl, hro, hb⟩ := hrel
    have G2 := Lib.hid g2
    have HRO := Lib.hid hro
    clear g2 hro
    by_cases hlt : i < m
    · have e1 := HRO.out.cell i (by rw [depRow0_len l m i g1]; exact hlt)
      have e2 := HRO.out.frozen i
      go_wp2_with fail
      have hro2 := HRO.out.set i 1
      rw [depRow0_set l m i hlt] at hro2
      have hb2 := hb.setCell (p := ⟨G, i, none⟩) (Nat.le_refl _) (.int .i64 1)
      obtain ⟨w2, hw2⟩ : ∃ w2, w2 = wr.setCell ⟨G, i, none⟩ (.int .i64 1) := ⟨_, rfl⟩
      rw [← hw2] at hro2 hb2 ⊢
      have HR2 := Lib.hid hro2
      clear hro2 hw2 e1 e2 HRO hb
      go_loopg [5, 18] i (fun gk _ vi wx => ∃ j : Nat, j ≤ i ∧ gk = i - j ∧ vi = .int .i64 j ∧ RowB wx G 3 .i64 (depRow l m i j) ∧ Below G w wx)
      case atStart => exact ⟨0, Nat.zero_le _, rfl, rfl, HR2.out, hb2⟩
      case round =>
        clear HR2 hb2
        obtain ⟨j, f1, f2, rfl, hro, hb⟩ := hrel
        have F2 := Lib.hid f2
        have HRO := Lib.hid hro
        clear f2 hro
        by_cases hj : j < i
        · have hbs := hb
          rw [HG.out] at hbs
          have hal := HA.out.below SysAt.abides hbs
          obtain ⟨x, rfl, hx, _⟩ := HA.out (by rw [HM.out]; omega)
          obtain ⟨xb, xo, rfl, s0, a1, n1, c1, a2, n2, c2, a3, n3, c3, a4, n4, c4, a5, n5, c5, a6, n6, c6, ⟨p0, p1, p2, p3, p4, p5, p6⟩, hyi⟩ := sys_cells hal i (by rw [HM.out]; exact hlt)
          obtain ⟨xb2, xo2, hxx, t0, b1, m1, d1, b2, m2, d2, b3, m3, d3, b4, m4, d4, b5, m5, d5, b6, m6, d6, ⟨q0, q1, q2, q3, q4, q5, q6⟩, hyj⟩ := sys_cells hal j (by rw [HM.out]; omega)
          injection hxx with hx1 hx2
          subst hx1 hx2
          have C1 := Lib.hid (And.intro hyi (And.intro hyj (And.intro HRO.out hb)))
          have i1 : (0 : Int) ≤ (j : Int) := by omega
          have i2 : (j : Int) < (m : Int) := by omega
          have i3 : (0 : Int) ≤ (i : Int) := by omega
          have i4 : (i : Int) < (m : Int) := by omega
          have CC := Lib.hid (fun w' => plan_Conflict (.agg #[.string t0, .slice b1 m1 d1, .slice b2 m2 d2, .slice b3 m3 d3, .slice b4 m4 d4, .slice b5 m5 d5, .slice b6 m6 d6]) (.agg #[.string s0, .slice a1 n1 c1, .slice a2 n2 c2, .slice a3 n3 c3, .slice a4 n4 c4, .slice a5 n5 c5, .slice a6 n6 c6]) (sysN l j) (sysN l i) w')
          obtain ⟨cf, hcf⟩ : ∃ cf, cf = confB (sysN l j) (sysN l i) := ⟨_, rfl⟩
          rw [← hcf] at CC
          have HCF := Lib.hid hcf
          clear hal hyi hyj hx hcf hbs
          have hS : (fun w' => (w'.cell? ⟨xb, xo + i * 7, none⟩ = some (.string s0) ∧ w'.cell? ⟨xb, xo + i * 7 + 1, none⟩ = some (.slice a1 n1 c1) ∧ w'.cell? ⟨xb, xo + i * 7 + 2, none⟩ = some (.slice a2 n2 c2) ∧ w'.cell? ⟨xb, xo + i * 7 + 3, none⟩ = some (.slice a3 n3 c3) ∧ w'.cell? ⟨xb, xo + i * 7 + 4, none⟩ = some (.slice a4 n4 c4) ∧ w'.cell? ⟨xb, xo + i * 7 + 5, none⟩ = some (.slice a5 n5 c5) ∧ w'.cell? ⟨xb, xo + i * 7 + 6, none⟩ = some (.slice a6 n6 c6)) ∧ (w'.cell? ⟨xb, xo + j * 7, none⟩ = some (.string t0) ∧ w'.cell? ⟨xb, xo + j * 7 + 1, none⟩ = some (.slice b1 m1 d1) ∧ w'.cell? ⟨xb, xo + j * 7 + 2, none⟩ = some (.slice b2 m2 d2) ∧ w'.cell? ⟨xb, xo + j * 7 + 3, none⟩ = some (.slice b3 m3 d3) ∧ w'.cell? ⟨xb, xo + j * 7 + 4, none⟩ = some (.slice b4 m4 d4) ∧ w'.cell? ⟨xb, xo + j * 7 + 5, none⟩ = some (.slice b5 m5 d5) ∧ w'.cell? ⟨xb, xo + j * 7 + 6, none⟩ = some (.slice b6 m6 d6)) ∧ SysIn w' (.agg #[.string s0, .slice a1 n1 c1, .slice a2 n2 c2, .slice a3 n3 c3, .slice a4 n4 c4, .slice a5 n5 c5, .slice a6 n6 c6]) (sysN l i) ∧ SysIn w' (.agg #[.string t0, .slice b1 m1 d1, .slice b2 m2 d2, .slice b3 m3 d3, .slice b4 m4 d4, .slice b5 m5 d5, .slice b6 m6 d6]) (sysN l j) ∧ RowB w' G 3 .i64 (depRow l m i j) ∧ Below G w w') wr.drew := ⟨⟨p0, p1, p2, p3, p4, p5, p6⟩, ⟨q0, q1, q2, q3, q4, q5, q6⟩, C1.out.1, C1.out.2.1, C1.out.2.2.1.drew, hb.drew⟩
          have HS := Lib.hid hS
          have KEEP := Lib.hid (show ∀ w7 w8, (fun w' => (w'.cell? ⟨xb, xo + i * 7, none⟩ = some (.string s0) ∧ w'.cell? ⟨xb, xo + i * 7 + 1, none⟩ = some (.slice a1 n1 c1) ∧ w'.cell? ⟨xb, xo + i * 7 + 2, none⟩ = some (.slice a2 n2 c2) ∧ w'.cell? ⟨xb, xo + i * 7 + 3, none⟩ = some (.slice a3 n3 c3) ∧ w'.cell? ⟨xb, xo + i * 7 + 4, none⟩ = some (.slice a4 n4 c4) ∧ w'.cell? ⟨xb, xo + i * 7 + 5, none⟩ = some (.slice a5 n5 c5) ∧ w'.cell? ⟨xb, xo + i * 7 + 6, none⟩ = some (.slice a6 n6 c6)) ∧ (w'.cell? ⟨xb, xo + j * 7, none⟩ = some (.string t0) ∧ w'.cell? ⟨xb, xo + j * 7 + 1, none⟩ = some (.slice b1 m1 d1) ∧ w'.cell? ⟨xb, xo + j * 7 + 2, none⟩ = some (.slice b2 m2 d2) ∧ w'.cell? ⟨xb, xo + j * 7 + 3, none⟩ = some (.slice b3 m3 d3) ∧ w'.cell? ⟨xb, xo + j * 7 + 4, none⟩ = some (.slice b4 m4 d4) ∧ w'.cell? ⟨xb, xo + j * 7 + 5, none⟩ = some (.slice b5 m5 d5) ∧ w'.cell? ⟨xb, xo + j * 7 + 6, none⟩ = some (.slice b6 m6 d6)) ∧ SysIn w' (.agg #[.string s0, .slice a1 n1 c1, .slice a2 n2 c2, .slice a3 n3 c3, .slice a4 n4 c4, .slice a5 n5 c5, .slice a6 n6 c6]) (sysN l i) ∧ SysIn w' (.agg #[.string t0, .slice b1 m1 d1, .slice b2 m2 d2, .slice b3 m3 d3, .slice b4 m4 d4, .slice b5 m5 d5, .slice b6 m6 d6]) (sysN l j) ∧ RowB w' G 3 .i64 (depRow l m i j) ∧ Below G w w') w7 → Below w7.heap.size w7 w8 → (fun w' => (w'.cell? ⟨xb, xo + i * 7, none⟩ = some (.string s0) ∧ w'.cell? ⟨xb, xo + i * 7 + 1, none⟩ = some (.slice a1 n1 c1) ∧ w'.cell? ⟨xb, xo + i * 7 + 2, none⟩ = some (.slice a2 n2 c2) ∧ w'.cell? ⟨xb, xo + i * 7 + 3, none⟩ = some (.slice a3 n3 c3) ∧ w'.cell? ⟨xb, xo + i * 7 + 4, none⟩ = some (.slice a4 n4 c4) ∧ w'.cell? ⟨xb, xo + i * 7 + 5, none⟩ = some (.slice a5 n5 c5) ∧ w'.cell? ⟨xb, xo + i * 7 + 6, none⟩ = some (.slice a6 n6 c6)) ∧ (w'.cell? ⟨xb, xo + j * 7, none⟩ = some (.string t0) ∧ w'.cell? ⟨xb, xo + j * 7 + 1, none⟩ = some (.slice b1 m1 d1) ∧ w'.cell? ⟨xb, xo + j * 7 + 2, none⟩ = some (.slice b2 m2 d2) ∧ w'.cell? ⟨xb, xo + j * 7 + 3, none⟩ = some (.slice b3 m3 d3) ∧ w'.cell? ⟨xb, xo + j * 7 + 4, none⟩ = some (.slice b4 m4 d4) ∧ w'.cell? ⟨xb, xo + j * 7 + 5, none⟩ = some (.slice b5 m5 d5) ∧ w'.cell? ⟨xb, xo + j * 7 + 6, none⟩ = some (.slice b6 m6 d6)) ∧ SysIn w' (.agg #[.string s0, .slice a1 n1 c1, .slice a2 n2 c2, .slice a3 n3 c3, .slice a4 n4 c4, .slice a5 n5 c5, .slice a6 n6 c6]) (sysN l i) ∧ SysIn w' (.agg #[.string t0, .slice b1 m1 d1, .slice b2 m2 d2, .slice b3 m3 d3, .slice b4 m4 d4, .slice b5 m5 d5, .slice b6 m6 d6]) (sysN l j) ∧ RowB w' G 3 .i64 (depRow l m i j) ∧ Below G w w') w8 from fun w7 w8 h hb => keepP hb h)
          clear hS p0 p1 p2 p3 p4 p5 p6 q0 q1 q2 q3 q4 q5 q6 C1 hb
          go_wp2_with fail
          go_region_held3 (fun w' => (w'.cell? ⟨xb, xo + i * 7, none⟩ = some (.string s0) ∧ w'.cell? ⟨xb, xo + i * 7 + 1, none⟩ = some (.slice a1 n1 c1) ∧ w'.cell? ⟨xb, xo + i * 7 + 2, none⟩ = some (.slice a2 n2 c2) ∧ w'.cell? ⟨xb, xo + i * 7 + 3, none⟩ = some (.slice a3 n3 c3) ∧ w'.cell? ⟨xb, xo + i * 7 + 4, none⟩ = some (.slice a4 n4 c4) ∧ w'.cell? ⟨xb, xo + i * 7 + 5, none⟩ = some (.slice a5 n5 c5) ∧ w'.cell? ⟨xb, xo + i * 7 + 6, none⟩ = some (.slice a6 n6 c6)) ∧ (w'.cell? ⟨xb, xo + j * 7, none⟩ = some (.string t0) ∧ w'.cell? ⟨xb, xo + j * 7 + 1, none⟩ = some (.slice b1 m1 d1) ∧ w'.cell? ⟨xb, xo + j * 7 + 2, none⟩ = some (.slice b2 m2 d2) ∧ w'.cell? ⟨xb, xo + j * 7 + 3, none⟩ = some (.slice b3 m3 d3) ∧ w'.cell? ⟨xb, xo + j * 7 + 4, none⟩ = some (.slice b4 m4 d4) ∧ w'.cell? ⟨xb, xo + j * 7 + 5, none⟩ = some (.slice b5 m5 d5) ∧ w'.cell? ⟨xb, xo + j * 7 + 6, none⟩ = some (.slice b6 m6 d6)) ∧ SysIn w' (.agg #[.string s0, .slice a1 n1 c1, .slice a2 n2 c2, .slice a3 n3 c3, .slice a4 n4 c4, .slice a5 n5 c5, .slice a6 n6 c6]) (sysN l i) ∧ SysIn w' (.agg #[.string t0, .slice b1 m1 d1, .slice b2 m2 d2, .slice b3 m3 d3, .slice b4 m4 d4, .slice b5 m5 d5, .slice b6 m6 d6]) (sysN l j) ∧ RowB w' G 3 .i64 (depRow l m i j) ∧ Below G w w')
            (first | exact HS.out | assumption | exact KEEP.out _ _ (by assumption) (by assumption))
            ((go_at_call 11; refine (CC.out _ (And.left (And.right (And.right (And.right (by assumption))))) (And.left (And.right (And.right (by assumption))))).mono ?_; rintro e w8 ⟨rfl, hb8⟩))
          rename_i hHeld
          have hro2 := hHeld.2.2.2.2.1
          have hb2 := hHeld.2.2.2.2.2
          clear hHeld hb8 HS KEEP
          have hst := depAt_succ l (depL l i) i j
          rw [← HCF.out] at hst
          have l1 := depAt_le l i j (by omega)
          have l2 := depL_le l i j hj
          have e1 := hro2.cell i (by rw [depRow_len l m i j hlt]; exact hlt)
          have e2 := hro2.cell j (by rw [depRow_len l m i j hlt]; omega)
          have e3 := hro2.frozen i
          rw [depRow_at] at e1
          rw [depRow_low l m i j j hj] at e2
          have hse := depRow_set l m i j (j + 1)
          obtain ⟨X, hX⟩ : ∃ X, X = depAt l (depL l i) i j := ⟨_, rfl⟩
          obtain ⟨Y, hY⟩ : ∃ Y, Y = (depL l i).getD j 0 := ⟨_, rfl⟩
          rw [← hX] at hst l1 e1
          rw [← hY] at hst l2 e2
          have HXX := Lib.hid hX
          have HRO2 := Lib.hid hro2
          cases cf with
          | true =>
            rw [if_pos rfl] at hst
            rw [hst] at hse
            have HSE := Lib.hid hse
            have HST := Lib.hid hst
            clear hse hst hX hY hro2
            go_wp2_with fail
            go_region
            all_goals
              go_wp2_with fail
              go_roundg (i - (j + 1))
              case measure => rw [F2.out]; omega
              case rel => exact ⟨j + 1, hj, rfl, by go_num, by
                rw [← HSE.out]
                have e : max (X : Int) ((Y : Int) + 1) = ((max X (Y + 1) : Nat) : Int) := by omega
                rw [e]
                exact (HRO2.out.set i _).drew, (hb2.setCell (Nat.le_refl _) _).drew⟩
          | false =>
            rw [if_neg (by decide)] at hst
            have HST := Lib.hid hst
            clear hse hst hX hY hro2 e1 e2 e3
            go_wp2_with fail
            go_roundg (i - (j + 1))
            case measure => rw [F2.out]; omega
            case rel => exact ⟨j + 1, hj, rfl, by go_num, by
              have e : depRow l m i (j + 1) = depRow l m i j := by
                unfold depRow
                rw [HST.out, HXX.out]
              rw [e]; exact HRO2.out, hb2⟩
        · obtain rfl : j = i := by omega
          have hro2 := HRO.out
          rw [depRow_end l m j hlt] at hro2
          have HRO2 := Lib.hid hro2
          clear hro2 HRO
          go_wp2_with fail
          go_roundg (m - (j + 1))
          case measure => rw [G2.out]; omega
          case rel => exact ⟨j + 1, hlt, rfl, by go_num, HRO2.out, hb⟩
    · obtain rfl : i = m := by omega
      go_wp2
      go_ret
      exact ⟨⟨G, rfl, by rw [HG.out]; exact Nat.le_refl _, HRO.out⟩, by rw [← HG.out]; exact hb⟩
end Go.Proofs.Ytembjokbhbdoeaa
