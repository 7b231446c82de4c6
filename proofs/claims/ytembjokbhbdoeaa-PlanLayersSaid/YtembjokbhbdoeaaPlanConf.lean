/- plan.Conflict, the reference's Clash. -/
import Derived.Test.YtembjokbhbdoeaaPlanSet
import Derived.Test.YtembjokbhbdoeaaApiSys
namespace Go.Proofs.Ytembjokbhbdoeaa
open Go.ChangeShapes Go.WideShapes Go.ChangeAt Go.RowKit Go.Mem
set_option linter.unusedVariables false
def confB (y z : SysV) : Bool := meetB y.writes z.writes || (meetB y.writes z.reads || meetB y.reads z.writes)
set_option maxHeartbeats 4000000 in
theorem plan_Conflict (v u : Value) (y z : SysV) (w : World) (hv : SysIn w v y) (hu : SysIn w u z) : Calls Try.prog 11 #[v, u] w fun e w' => e = .returned (.bool (confB y z)) ∧ Below w.heap.size w w' := by
  obtain ⟨s0, a1, n1, c1, a2, n2, c2, a3, c3, a4, c4, a5, n5, c5, a6, n6, c6, rfl, r1, r2, r3, r4⟩ := hv
  obtain ⟨t0, b1, m1, d1, b2, m2, d2, b3, d3, b4, d4, b5, m5, d5, b6, m6, d6, rfl, q1, q2, q3, q4⟩ := hu
  obtain ⟨yr, hyr⟩ : ∃ yr, yr = y.reads.length := ⟨_, rfl⟩
  obtain ⟨yw, hyw⟩ : ∃ yw, yw = y.writes.length := ⟨_, rfl⟩
  obtain ⟨zr, hzr⟩ : ∃ zr, zr = z.reads.length := ⟨_, rfl⟩
  obtain ⟨zw, hzw⟩ : ∃ zw, zw = z.writes.length := ⟨_, rfl⟩
  have hml : maxLen = 9223372036854775807 := rfl
  rw [hml] at r3 r4 q3 q4
  have k1 := fun (w' : World) (hb : Below w.heap.size w w') => hits_ints a4 b4 c4 d4 yw zw y.writes z.writes hyw.symm hzw.symm (by omega) (by omega) w' (r2.below hb) (q2.below hb)
  have k2 := fun (w' : World) (hb : Below w.heap.size w w') => hits_ints a4 b3 c4 d3 yw zr y.writes z.reads hyw.symm hzr.symm (by omega) (by omega) w' (r2.below hb) (q1.below hb)
  have k3 := fun (w' : World) (hb : Below w.heap.size w w') => hits_ints a3 b4 c3 d4 yr zw y.reads z.writes hyr.symm hzw.symm (by omega) (by omega) w' (r1.below hb) (q2.below hb)
  rw [← hyr, ← hyw, ← hzr, ← hzw]
  have hc : confB y z = (meetB y.writes z.writes || (meetB y.writes z.reads || meetB y.reads z.writes)) := rfl
  obtain ⟨x1, hx1⟩ : ∃ x, x = meetB y.writes z.writes := ⟨_, rfl⟩
  obtain ⟨x2, hx2⟩ : ∃ x, x = meetB y.writes z.reads := ⟨_, rfl⟩
  obtain ⟨x3, hx3⟩ : ∃ x, x = meetB y.reads z.writes := ⟨_, rfl⟩
  rw [← hx1] at k1 hc
  rw [← hx2] at k2 hc
  rw [← hx3] at k3 hc
  rw [hc]
  have K1 := Lib.hid k1
  have K2 := Lib.hid k2
  have K3 := Lib.hid k3
  clear r1 r2 r3 r4 q1 q2 q3 q4 k1 k2 k3 hx1 hx2 hx3 hyr hyw hzr hzw hc hml
  obtain ⟨o1, ho1⟩ : ∃ o : Obj, o = .cells #[.string s0, .slice a1 n1 c1, .slice a2 n2 c2, .slice a3 yr c3, .slice a4 yw c4, .slice a5 n5 c5, .slice a6 n6 c6] 30 (0, 0) := ⟨_, rfl⟩
  obtain ⟨o2, ho2⟩ : ∃ o : Obj, o = .cells #[.string t0, .slice b1 m1 d1, .slice b2 m2 d2, .slice b3 zr d3, .slice b4 zw d4, .slice b5 m5 d5, .slice b6 m6 d6] 30 (0, 0) := ⟨_, rfl⟩
  have hr1 := row_first w o1 o2
  have hr2 := row_second w o1 o2
  have hb := ((Below.refl w.heap.size w).alloc (Nat.le_refl _) o1).alloc (by simp) o2
  rw [ho1] at hr1
  rw [ho2] at hr2
  rw [ho1, ho2] at hb
  rw [ho2] at hr1
  rw [ho1] at hr2
  have HR1 := Lib.hid hr1
  have HR2 := Lib.hid hr2
  have HB := Lib.hid hb
  clear ho1 ho2 hr1 hr2 hb o1 o2
  go_enter Try.func11, Try.ntmps11
  go_wp2_with fail
  refine (K1.out _ HB.out).mono ?_
  rintro e w1 ⟨rfl, hb1⟩
  have hb2 := HB.out.trans (hb1.mono HB.out.size)
  have h1 := heap_below HR1.out hb1
  have h2 := heap_below HR2.out hb1
  have e13 := cell_of_row _ _ 3 _ _ _ h1
  have e14 := cell_of_row _ _ 4 _ _ _ h1
  have e23 := cell_of_row _ _ 3 _ _ _ h2
  have e24 := cell_of_row _ _ 4 _ _ _ h2
  have HH1 := Lib.hid h1
  have HH2 := Lib.hid h2
  clear HR1 HR2 HB hb1 h1 h2
  cases x1 with
  | true =>
    go_wp2
    go_ret
    exact ⟨rfl, hb2⟩
  | false =>
    go_wp2_with fail
    refine (K2.out _ hb2).mono ?_
    rintro e w3 ⟨rfl, hb3⟩
    have hb4 := hb2.trans (hb3.mono hb2.size)
    have h1 := heap_below HH1.out hb3
    have h2 := heap_below HH2.out hb3
    replace e13 := cell_of_row _ _ 3 _ _ _ h1
    replace e14 := cell_of_row _ _ 4 _ _ _ h1
    replace e23 := cell_of_row _ _ 3 _ _ _ h2
    replace e24 := cell_of_row _ _ 4 _ _ _ h2
    clear hb2 hb3 h1 h2 HH1 HH2
    cases x2 with
    | true =>
      go_wp2
      go_ret
      exact ⟨rfl, hb4⟩
    | false =>
      go_wp2_with fail
      refine (K3.out _ hb4).mono ?_
      rintro e w5 ⟨rfl, hb5⟩
      go_wp2
      go_ret
      exact ⟨rfl, hb4.trans (hb5.mono hb4.size)⟩
end Go.Proofs.Ytembjokbhbdoeaa
