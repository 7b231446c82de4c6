/- The law PlanLayers: the walk. -/
import Derived.Test.YtembjokbhbdoeaaPlanOlder
import Derived.Test.YtembjokbhbdoeaaPlanMaxP
import Derived.Test.YtembjokbhbdoeaaPlanLo
import Derived.Test.YtembjokbhbdoeaaPlanRo
import Derived.Test.YtembjokbhbdoeaaPlanEqF
import Derived.Lib.MinMax
namespace Go.Proofs.Ytembjokbhbdoeaa
open Go.ChangeShapes Go.WideShapes Go.ChangeAt Go.RowKit Go.Mem
set_option linter.unusedVariables false
theorem list19 {α : Type} {vs : List α} (h : vs.length = 19) : ∃ x0 x1 x2 x3 x4 x5 x6 x7 x8 x9 x10 x11 x12 x13 x14 x15 x16 x17 x18, vs = [x0, x1, x2, x3, x4, x5, x6, x7, x8, x9, x10, x11, x12, x13, x14, x15, x16, x17, x18] := by
  obtain ⟨x0, t0, rfl, h0⟩ := cons_of h
  obtain ⟨x1, t1, rfl, h1⟩ := cons_of h0
  obtain ⟨x2, t2, rfl, h2⟩ := cons_of h1
  obtain ⟨x3, t3, rfl, h3⟩ := cons_of h2
  obtain ⟨x4, t4, rfl, h4⟩ := cons_of h3
  obtain ⟨x5, t5, rfl, h5⟩ := cons_of h4
  obtain ⟨x6, t6, rfl, h6⟩ := cons_of h5
  obtain ⟨x7, t7, rfl, h7⟩ := cons_of h6
  obtain ⟨x8, t8, rfl, h8⟩ := cons_of h7
  obtain ⟨x9, t9, rfl, h9⟩ := cons_of h8
  obtain ⟨x10, t10, rfl, h10⟩ := cons_of h9
  obtain ⟨x11, t11, rfl, h11⟩ := cons_of h10
  obtain ⟨x12, t12, rfl, h12⟩ := cons_of h11
  obtain ⟨x13, t13, rfl, h13⟩ := cons_of h12
  obtain ⟨x14, t14, rfl, h14⟩ := cons_of h13
  obtain ⟨x15, t15, rfl, h15⟩ := cons_of h14
  obtain ⟨x16, t16, rfl, h16⟩ := cons_of h15
  obtain ⟨x17, t17, rfl, h17⟩ := cons_of h16
  obtain ⟨x18, t18, rfl, h18⟩ := cons_of h17
  exact ⟨x0, x1, x2, x3, x4, x5, x6, x7, x8, x9, x10, x11, x12, x13, x14, x15, x16, x17, x18, by rw [List.eq_nil_of_length_eq_zero h18]⟩
def F_lays (m i j xb xo c : Nat) (cf : Bool) (s0 : ByteArray) (a1 : Option Addr) (n1 p1 : Nat) (a2 : Option Addr) (n2 p2 : Nat) (a3 : Option Addr) (n3 p3 : Nat) (a4 : Option Addr) (n4 p4 : Nat) (a5 : Option Addr) (n5 p5 : Nat) (a6 : Option Addr) (n6 p6 : Nat) (t0 : ByteArray) (b1 : Option Addr) (m1 q1 : Nat) (b2 : Option Addr) (m2 q2 : Nat) (b3 : Option Addr) (m3 q3 : Nat) (b4 : Option Addr) (m4 q4 : Nat) (b5 : Option Addr) (m5 q5 : Nat) (b6 : Option Addr) (m6 q6 : Nat) (jq : Nat) (v : Value) (w : World) : Prop :=
  match jq with
  | 0 => v = .slice (some ⟨xb, xo, none⟩) m c
  | 1 => v = .int .i64 i
  | 2 => v = .pointer (some ⟨xb, xo + i * 7, none⟩)
  | 3 => v = .agg #[.string s0, .slice a1 n1 p1, .slice a2 n2 p2, .slice a3 n3 p3, .slice a4 n4 p4, .slice a5 n5 p5, .slice a6 n6 p6]
  | 4 => v = .slice (some ⟨xb, xo, none⟩) m c
  | 5 => v = .int .i64 j
  | 6 => v = .pointer (some ⟨xb, xo + j * 7, none⟩)
  | 7 => v = .agg #[.string t0, .slice b1 m1 q1, .slice b2 m2 q2, .slice b3 m3 q3, .slice b4 m4 q4, .slice b5 m5 q5, .slice b6 m6 q6]
  | 8 => v = .bool cf
  | 9 => v = .slice (some ⟨xb, xo, none⟩) m c
  | 10 => v = .int .i64 i
  | 11 => v = .pointer (some ⟨xb, xo + i * 7, none⟩)
  | 12 => v = .agg #[.string s0, .slice a1 n1 p1, .slice a2 n2 p2, .slice a3 n3 p3, .slice a4 n4 p4, .slice a5 n5 p5, .slice a6 n6 p6]
  | 13 => v = .slice (some ⟨xb, xo, none⟩) m c
  | 14 => v = .int .i64 j
  | 15 => v = .pointer (some ⟨xb, xo + j * 7, none⟩)
  | 16 => v = .agg #[.string t0, .slice b1 m1 q1, .slice b2 m2 q2, .slice b3 m3 q3, .slice b4 m4 q4, .slice b5 m5 q5, .slice b6 m6 q6]
  | 17 => v = .bool cf
  | 18 => v = .bool false
  | _ => True
theorem F_lays_mono (m i j xb xo c : Nat) (cf : Bool) (s0 : ByteArray) (a1 : Option Addr) (n1 p1 : Nat) (a2 : Option Addr) (n2 p2 : Nat) (a3 : Option Addr) (n3 p3 : Nat) (a4 : Option Addr) (n4 p4 : Nat) (a5 : Option Addr) (n5 p5 : Nat) (a6 : Option Addr) (n6 p6 : Nat) (t0 : ByteArray) (b1 : Option Addr) (m1 q1 : Nat) (b2 : Option Addr) (m2 q2 : Nat) (b3 : Option Addr) (m3 q3 : Nat) (b4 : Option Addr) (m4 q4 : Nat) (b5 : Option Addr) (m5 q5 : Nat) (b6 : Option Addr) (m6 q6 : Nat) : Facts (F_lays m i j xb xo c cf s0 a1 n1 p1 a2 n2 p2 a3 n3 p3 a4 n4 p4 a5 n5 p5 a6 n6 p6 t0 b1 m1 q1 b2 m2 q2 b3 m3 q3 b4 m4 q4 b5 m5 q5 b6 m6 q6) := ⟨by
  intro jq v w w' h hb
  unfold F_lays at h ⊢
  split at h
  all_goals first
    | exact h
    | trivial⟩

def LayPost (l : List SysV) (m : Nat) (e : Ending) (w' : World) : Prop := ∃ a2 n2 c2 ev, e = .returned (.tuple #[.slice a2 n2 c2, .int .i64 ev]) ∧ (m ≤ 24 → ev = 0 ∧ n2 = (layL (depL l m) m).length ∧ SlAt 1 IntsIn w' a2 ((layL (depL l m) m).map ints)) ∧ (24 < m → ev = 2 ∧ n2 = 0)
def ChnPost (l : List SysV) (m : Nat) (e : Ending) (w' : World) : Prop := ∃ a2 n2 c2 ev, e = .returned (.tuple #[.slice a2 n2 c2, .int .i64 ev]) ∧ (m ≤ 24 → ev = 0 ∧ n2 = (froC l m 0).length ∧ IntsAt .i64 w' a2 (ints (froC l m 0))) ∧ (24 < m → ev = 2 ∧ n2 = 0)
theorem lay_any (a : Option Addr) (c m : Nat) (l : List SysV) (hm : l.length = m) (w : World) (ha : SlAt 7 SysAt w a l) : Calls Try.prog 9 #[.slice a m c] w fun e w' => LayPost l m e w' ∧ Below w.heap.size w w' := by
  by_cases h : m ≤ 24
  · refine (plan_Layers a c m l hm h w ha).mono ?_
    rintro e w' ⟨⟨a2, c2, rfl, hs⟩, hb⟩
    exact ⟨⟨a2, _, c2, 0, rfl, fun _ => ⟨rfl, rfl, hs⟩, fun hh => by omega⟩, hb⟩
  · refine (plan_Layers_large a c m (by omega) w).mono ?_
    rintro e w' ⟨rfl, hb⟩
    exact ⟨⟨none, 0, 0, 2, rfl, fun hh => by omega, fun _ => ⟨rfl, rfl⟩⟩, hb⟩
theorem chn_any (a : Option Addr) (c m : Nat) (l : List SysV) (hm : l.length = m) (w : World) (ha : SlAt 7 SysAt w a l) : Calls Try.prog 10 #[.slice a m c] w fun e w' => ChnPost l m e w' ∧ Below w.heap.size w w' := by
  by_cases h : m ≤ 24
  · have hc := plan_Chain a c m l hm h w ha
    rw [chain_longest] at hc
    refine hc.mono ?_
    rintro e w' ⟨⟨a2, c2, rfl, hs⟩, hb⟩
    exact ⟨⟨a2, _, c2, 0, rfl, fun _ => ⟨rfl, rfl, hs⟩, fun hh => by omega⟩, hb⟩
  · refine (plan_Chain_large a c m (by omega) w).mono ?_
    rintro e w' ⟨rfl, hb⟩
    exact ⟨⟨none, 0, 0, 2, rfl, fun hh => by omega, fun _ => ⟨rfl, rfl⟩⟩, hb⟩
set_option maxHeartbeats 16000000 in
theorem walk_PlanLayers (a : Option Addr) (c m : Nat) (l : List SysV) (hm : l.length = m) (w : World) (ha : SlAt 7 SysAt w a l) :
    Calls Try.prog 4 #[.slice a m c] w fun e w' => e = .returned (.bool true) ∧ Below w.heap.size w w' := by
  have LY := Lib.hid layered_w
  have HA := Lib.hid ha
  have CL := Lib.hid (fun w' (hb : Below w.heap.size w w') => lay_any a c m l hm w' (ha.below SysAt.abides hb))
  have CH := Lib.hid (fun w' (hb : Below w.heap.size w w') => chn_any a c m l hm w' (ha.below SysAt.abides hb))
  have CR := Lib.hid (fun (h24 : m ≤ 24) w' (hb : Below w.heap.size w w') => ref_Rounds a c m l hm h24 w' (ha.below SysAt.abides hb))
  have CO := Lib.hid (fun (h24 : m ≤ 24) w' (hb : Below w.heap.size w w') => ref_Longest a c m l hm h24 w' (ha.below SysAt.abides hb))
  have HM := Lib.hid hm
  obtain ⟨k, hk⟩ : ∃ k, k = min m 30 := ⟨_, rfl⟩
  have hmin : min (m : Int) 30 = (k : Int) := by omega
  have hkm : k ≤ m := by omega
  clear ha hm hk
  go_enter Try.func4, Try.ntmps4
  go_wp2_with fail
  refine (LY.out w).mono ?_
  rintro e w1 ⟨rfl, hb1⟩
  go_wp2_with fail
  refine (CL.out w1 hb1).mono ?_
  rintro e w2 ⟨⟨a2, n2, c2, ev, rfl, hx1, hx2⟩, hb2⟩
  have hb12 := bt hb1 hb2
  have HX1 := Lib.hid hx1
  have HX2 := Lib.hid hx2
  clear hx1 hx2 hb1 hb2
  go_wp2_with fail
  refine (CH.out w2 hb12).mono ?_
  rintro e w3 ⟨⟨a3, n3, c3, fv, rfl, hy1, hy2⟩, hb3⟩
  have hb := bt hb12 hb3
  have HX1 := Lib.hid (fun h => (HX1.out h).imp_right fun h => h.imp_right fun h => h.below IntsIn.abides hb3)
  have HY1 := Lib.hid hy1
  have HY2 := Lib.hid hy2
  have HB := Lib.hid hb
  clear hy1 hy2 hb12 hb3 hb
  go_wp2_with fail
  go_loopg [24, 7, 30, 8] k (fun gk vi _ _ _ wx => ∃ i : Nat, i ≤ k ∧ gk = k - i ∧ vi = .int .i64 i ∧ Below w3.heap.size w3 wx)
  case atStart => exact ⟨0, Nat.zero_le _, rfl, rfl, Below.refl _ _⟩
  case round =>
    obtain ⟨i, g1, g2, rfl, hbx⟩ := hrel
    have G2 := Lib.hid g2
    have HBX := Lib.hid hbx
    clear g2 hbx
    by_cases hik : i < k
    · go_wp2_with fail
      go_loopg [30, 8] k (fun gk vj _ wx => ∃ j : Nat, j ≤ k ∧ gk = k - j ∧ vj = .int .i64 j ∧ Below w3.heap.size w3 wx)
      case atStart => exact ⟨0, Nat.zero_le _, rfl, rfl, HBX.out⟩
      case round =>
        clear HBX
        obtain ⟨j, f1, f2, rfl, hbx⟩ := hrel
        have F2 := Lib.hid f2
        have HBX := Lib.hid hbx
        clear f2 hbx
        by_cases hjk : j < k
        · have him : i < m := by omega
          have hjm : j < m := by omega
          have hal := HA.out.below SysAt.abides (bt HB.out HBX.out)
          obtain ⟨x, rfl, hx, _⟩ := HA.out (by rw [HM.out]; omega)
          obtain ⟨xb, xo, rfl, s0, a1, n1, p1, a2', n2', p2, a3', n3', p3, a4, n4, p4, a5, n5, p5, a6, n6, p6, hci, hyi⟩ := sys_cells hal i (by rw [HM.out]; exact him)
          obtain ⟨xb2, xo2, hxx, t0, b1, m1, q1, b2, m2, q2, b3, m3, q3, b4, m4, q4, b5, m5, q5, b6, m6, q6, hcj, hyj⟩ := sys_cells hal j (by rw [HM.out]; exact hjm)
          injection hxx with hx1 hx2
          subst hx1 hx2
          have CC := Lib.hid (fun w' => plan_Conflict (.agg #[.string s0, .slice a1 n1 p1, .slice a2' n2' p2, .slice a3' n3' p3, .slice a4 n4 p4, .slice a5 n5 p5, .slice a6 n6 p6]) (.agg #[.string t0, .slice b1 m1 q1, .slice b2 m2 q2, .slice b3 m3 q3, .slice b4 m4 q4, .slice b5 m5 q5, .slice b6 m6 q6]) (sysN l i) (sysN l j) w')
          have CD := Lib.hid (fun w' => ref_Clash (.agg #[.string s0, .slice a1 n1 p1, .slice a2' n2' p2, .slice a3' n3' p3, .slice a4 n4 p4, .slice a5 n5 p5, .slice a6 n6 p6]) (.agg #[.string t0, .slice b1 m1 q1, .slice b2 m2 q2, .slice b3 m3 q3, .slice b4 m4 q4, .slice b5 m5 q5, .slice b6 m6 q6]) (sysN l i) (sysN l j) w')
          obtain ⟨cf, hcf⟩ : ∃ cf, cf = confB (sysN l i) (sysN l j) := ⟨_, rfl⟩
          rw [← hcf] at CC CD
          have C7i := Lib.hid (show Cells7 wr xb (xo + i * 7) _ _ _ _ _ _ _ from hci)
          have C7j := Lib.hid (show Cells7 wr xb (xo + j * 7) _ _ _ _ _ _ _ from hcj)
          have HYI := Lib.hid hyi
          have HYJ := Lib.hid hyj
          clear hal hx hci hcj hyi hyj hcf
          go_wp2_with fail
          refine wp_region_facts_t rfl 19 (by kernel_rfl) (F_lays m i j xb xo c cf s0 a1 n1 p1 a2' n2' p2 a3' n3' p3 a4 n4 p4 a5 n5 p5 a6 n6 p6 t0 b1 m1 q1 b2 m2 q2 b3 m3 q3 b4 m4 q4 b5 m5 q5 b6 m6 q6) (F_lays_mono m i j xb xo c cf s0 a1 n1 p1 a2' n2' p2 a3' n3' p3 a4 n4 p4 a5 n5 p5 a6 n6 p6 t0 b1 m1 q1 b2 m2 q2 b3 m3 q3 b4 m4 q4 b5 m5 q5 b6 m6 q6) ?_ ?_
          · refine ⟨?_, ?_, ?_, ?_, ?_, ?_, ?_, ?_, ?_, ?_, ?_, ?_, ?_, ?_, ?_, ?_, ?_, ?_, ?_, trivial⟩
            · intro vs w' F hb hd hF hl hT
              have e := (hF 0).trans (look_out _ 0 _ _ (by kernel_rfl))
              exact one_move _ rfl (by first | exact Or.inl rfl | exact Or.inr rfl) ⟨_, rfl, Below.refl _ _, e⟩
            · intro vs w' F hb hd hF hl hT
              have e := (hF 7).trans (look_out _ 7 _ _ (by kernel_rfl))
              exact one_move _ rfl (by first | exact Or.inl rfl | exact Or.inr rfl) ⟨_, rfl, Below.refl _ _, e⟩
            · intro vs w' F hb hd hF hl hT
              have ex := (((hF 33).trans (look_at _ 33 0 _ _ (by kernel_rfl) (by kernel_rfl) hl)).trans (dep_of (Fact := F_lays m i j xb xo c cf s0 a1 n1 p1 a2' n2' p2 a3' n3' p3 a4 n4 p4 a5 n5 p5 a6 n6 p6 t0 b1 m1 q1 b2 m2 q2 b3 m3 q3 b4 m4 q4 b5 m5 q5 b6 m6 q6) hd 0 (by kernel_rfl)))
              have ey := (((hF 34).trans (look_at _ 34 1 _ _ (by kernel_rfl) (by kernel_rfl) hl)).trans (dep_of (Fact := F_lays m i j xb xo c cf s0 a1 n1 p1 a2' n2' p2 a3' n3' p3 a4 n4 p4 a5 n5 p5 a6 n6 p6 t0 b1 m1 q1 b2 m2 q2 b3 m3 q3 b4 m4 q4 b5 m5 q5 b6 m6 q6) hd 1 (by kernel_rfl)))
              exact one_index 22 _ _ rfl rfl (.slice (some ⟨xb, xo, none⟩) m c) (.int .i64 i) (.pointer (some ⟨xb, xo + i * 7, none⟩)) ex ey (fun w => idx_sys xb xo m c i (by omega) w) ⟨_, rfl, Below.refl _ _, rfl⟩
            · intro vs w' F hb hd hF hl hT
              have e := (((hF 35).trans (look_at _ 35 2 _ _ (by kernel_rfl) (by kernel_rfl) hl)).trans (dep_of (Fact := F_lays m i j xb xo c cf s0 a1 n1 p1 a2' n2' p2 a3' n3' p3 a4 n4 p4 a5 n5 p5 a6 n6 p6 t0 b1 m1 q1 b2 m2 q2 b3 m3 q3 b4 m4 q4 b5 m5 q5 b6 m6 q6) hd 2 (by kernel_rfl)))
              exact one_load7 30 _ rfl rfl xb (xo + i * 7) _ _ _ _ _ _ _ e (C7i.out.below hb) _ Try.underlying30 rfl (by kernel_rfl) ⟨_, rfl, Below.refl _ _, rfl⟩
            · intro vs w' F hb hd hF hl hT
              have e := (hF 0).trans (look_out _ 0 _ _ (by kernel_rfl))
              exact one_move _ rfl (by first | exact Or.inl rfl | exact Or.inr rfl) ⟨_, rfl, Below.refl _ _, e⟩
            · intro vs w' F hb hd hF hl hT
              have e := (hF 8).trans (look_out _ 8 _ _ (by kernel_rfl))
              exact one_move _ rfl (by first | exact Or.inl rfl | exact Or.inr rfl) ⟨_, rfl, Below.refl _ _, e⟩
            · intro vs w' F hb hd hF hl hT
              have ex := (((hF 37).trans (look_at _ 37 4 _ _ (by kernel_rfl) (by kernel_rfl) hl)).trans (dep_of (Fact := F_lays m i j xb xo c cf s0 a1 n1 p1 a2' n2' p2 a3' n3' p3 a4 n4 p4 a5 n5 p5 a6 n6 p6 t0 b1 m1 q1 b2 m2 q2 b3 m3 q3 b4 m4 q4 b5 m5 q5 b6 m6 q6) hd 4 (by kernel_rfl)))
              have ey := (((hF 38).trans (look_at _ 38 5 _ _ (by kernel_rfl) (by kernel_rfl) hl)).trans (dep_of (Fact := F_lays m i j xb xo c cf s0 a1 n1 p1 a2' n2' p2 a3' n3' p3 a4 n4 p4 a5 n5 p5 a6 n6 p6 t0 b1 m1 q1 b2 m2 q2 b3 m3 q3 b4 m4 q4 b5 m5 q5 b6 m6 q6) hd 5 (by kernel_rfl)))
              exact one_index 22 _ _ rfl rfl (.slice (some ⟨xb, xo, none⟩) m c) (.int .i64 j) (.pointer (some ⟨xb, xo + j * 7, none⟩)) ex ey (fun w => idx_sys xb xo m c j (by omega) w) ⟨_, rfl, Below.refl _ _, rfl⟩
            · intro vs w' F hb hd hF hl hT
              have e := (((hF 39).trans (look_at _ 39 6 _ _ (by kernel_rfl) (by kernel_rfl) hl)).trans (dep_of (Fact := F_lays m i j xb xo c cf s0 a1 n1 p1 a2' n2' p2 a3' n3' p3 a4 n4 p4 a5 n5 p5 a6 n6 p6 t0 b1 m1 q1 b2 m2 q2 b3 m3 q3 b4 m4 q4 b5 m5 q5 b6 m6 q6) hd 6 (by kernel_rfl)))
              exact one_load7 30 _ rfl rfl xb (xo + j * 7) _ _ _ _ _ _ _ e (C7j.out.below hb) _ Try.underlying30 rfl (by kernel_rfl) ⟨_, rfl, Below.refl _ _, rfl⟩
            · intro vs w' F hb hd hF hl hT
              refine one_call _ _ rfl rfl (enters_of Try.func11 (by kernel_rfl) rfl) #[.agg #[.string s0, .slice a1 n1 p1, .slice a2' n2' p2, .slice a3' n3' p3, .slice a4 n4 p4, .slice a5 n5 p5, .slice a6 n6 p6], .agg #[.string t0, .slice b1 m1 q1, .slice b2 m2 q2, .slice b3 m3 q3, .slice b4 m4 q4, .slice b5 m5 q5, .slice b6 m6 q6]] (eval2 (((hF 36).trans (look_at _ 36 3 _ _ (by kernel_rfl) (by kernel_rfl) hl)).trans (dep_of (Fact := F_lays m i j xb xo c cf s0 a1 n1 p1 a2' n2' p2 a3' n3' p3 a4 n4 p4 a5 n5 p5 a6 n6 p6 t0 b1 m1 q1 b2 m2 q2 b3 m3 q3 b4 m4 q4 b5 m5 q5 b6 m6 q6) hd 3 (by kernel_rfl))) (((hF 40).trans (look_at _ 40 7 _ _ (by kernel_rfl) (by kernel_rfl) hl)).trans (dep_of (Fact := F_lays m i j xb xo c cf s0 a1 n1 p1 a2' n2' p2 a3' n3' p3 a4 n4 p4 a5 n5 p5 a6 n6 p6 t0 b1 m1 q1 b2 m2 q2 b3 m3 q3 b4 m4 q4 b5 m5 q5 b6 m6 q6) hd 7 (by kernel_rfl)))) ?_
              refine (CC.out w' (HYI.out.below hb) (HYJ.out.below hb)).mono ?_
              rintro e2 w2 ⟨rfl, hb2⟩
              exact ⟨_, rfl, _, rfl, hb2, rfl⟩
            · intro vs w' F hb hd hF hl hT
              have e := (hF 0).trans (look_out _ 0 _ _ (by kernel_rfl))
              exact one_move _ rfl (by first | exact Or.inl rfl | exact Or.inr rfl) ⟨_, rfl, Below.refl _ _, e⟩
            · intro vs w' F hb hd hF hl hT
              have e := (hF 7).trans (look_out _ 7 _ _ (by kernel_rfl))
              exact one_move _ rfl (by first | exact Or.inl rfl | exact Or.inr rfl) ⟨_, rfl, Below.refl _ _, e⟩
            · intro vs w' F hb hd hF hl hT
              have ex := (((hF 42).trans (look_at _ 42 9 _ _ (by kernel_rfl) (by kernel_rfl) hl)).trans (dep_of (Fact := F_lays m i j xb xo c cf s0 a1 n1 p1 a2' n2' p2 a3' n3' p3 a4 n4 p4 a5 n5 p5 a6 n6 p6 t0 b1 m1 q1 b2 m2 q2 b3 m3 q3 b4 m4 q4 b5 m5 q5 b6 m6 q6) hd 9 (by kernel_rfl)))
              have ey := (((hF 43).trans (look_at _ 43 10 _ _ (by kernel_rfl) (by kernel_rfl) hl)).trans (dep_of (Fact := F_lays m i j xb xo c cf s0 a1 n1 p1 a2' n2' p2 a3' n3' p3 a4 n4 p4 a5 n5 p5 a6 n6 p6 t0 b1 m1 q1 b2 m2 q2 b3 m3 q3 b4 m4 q4 b5 m5 q5 b6 m6 q6) hd 10 (by kernel_rfl)))
              exact one_index 22 _ _ rfl rfl (.slice (some ⟨xb, xo, none⟩) m c) (.int .i64 i) (.pointer (some ⟨xb, xo + i * 7, none⟩)) ex ey (fun w => idx_sys xb xo m c i (by omega) w) ⟨_, rfl, Below.refl _ _, rfl⟩
            · intro vs w' F hb hd hF hl hT
              have e := (((hF 44).trans (look_at _ 44 11 _ _ (by kernel_rfl) (by kernel_rfl) hl)).trans (dep_of (Fact := F_lays m i j xb xo c cf s0 a1 n1 p1 a2' n2' p2 a3' n3' p3 a4 n4 p4 a5 n5 p5 a6 n6 p6 t0 b1 m1 q1 b2 m2 q2 b3 m3 q3 b4 m4 q4 b5 m5 q5 b6 m6 q6) hd 11 (by kernel_rfl)))
              exact one_load7 30 _ rfl rfl xb (xo + i * 7) _ _ _ _ _ _ _ e (C7i.out.below hb) _ Try.underlying30 rfl (by kernel_rfl) ⟨_, rfl, Below.refl _ _, rfl⟩
            · intro vs w' F hb hd hF hl hT
              have e := (hF 0).trans (look_out _ 0 _ _ (by kernel_rfl))
              exact one_move _ rfl (by first | exact Or.inl rfl | exact Or.inr rfl) ⟨_, rfl, Below.refl _ _, e⟩
            · intro vs w' F hb hd hF hl hT
              have e := (hF 8).trans (look_out _ 8 _ _ (by kernel_rfl))
              exact one_move _ rfl (by first | exact Or.inl rfl | exact Or.inr rfl) ⟨_, rfl, Below.refl _ _, e⟩
            · intro vs w' F hb hd hF hl hT
              have ex := (((hF 46).trans (look_at _ 46 13 _ _ (by kernel_rfl) (by kernel_rfl) hl)).trans (dep_of (Fact := F_lays m i j xb xo c cf s0 a1 n1 p1 a2' n2' p2 a3' n3' p3 a4 n4 p4 a5 n5 p5 a6 n6 p6 t0 b1 m1 q1 b2 m2 q2 b3 m3 q3 b4 m4 q4 b5 m5 q5 b6 m6 q6) hd 13 (by kernel_rfl)))
              have ey := (((hF 47).trans (look_at _ 47 14 _ _ (by kernel_rfl) (by kernel_rfl) hl)).trans (dep_of (Fact := F_lays m i j xb xo c cf s0 a1 n1 p1 a2' n2' p2 a3' n3' p3 a4 n4 p4 a5 n5 p5 a6 n6 p6 t0 b1 m1 q1 b2 m2 q2 b3 m3 q3 b4 m4 q4 b5 m5 q5 b6 m6 q6) hd 14 (by kernel_rfl)))
              exact one_index 22 _ _ rfl rfl (.slice (some ⟨xb, xo, none⟩) m c) (.int .i64 j) (.pointer (some ⟨xb, xo + j * 7, none⟩)) ex ey (fun w => idx_sys xb xo m c j (by omega) w) ⟨_, rfl, Below.refl _ _, rfl⟩
            · intro vs w' F hb hd hF hl hT
              have e := (((hF 48).trans (look_at _ 48 15 _ _ (by kernel_rfl) (by kernel_rfl) hl)).trans (dep_of (Fact := F_lays m i j xb xo c cf s0 a1 n1 p1 a2' n2' p2 a3' n3' p3 a4 n4 p4 a5 n5 p5 a6 n6 p6 t0 b1 m1 q1 b2 m2 q2 b3 m3 q3 b4 m4 q4 b5 m5 q5 b6 m6 q6) hd 15 (by kernel_rfl)))
              exact one_load7 30 _ rfl rfl xb (xo + j * 7) _ _ _ _ _ _ _ e (C7j.out.below hb) _ Try.underlying30 rfl (by kernel_rfl) ⟨_, rfl, Below.refl _ _, rfl⟩
            · intro vs w' F hb hd hF hl hT
              refine one_call _ _ rfl rfl (enters_of Try.func12 (by kernel_rfl) rfl) #[.agg #[.string s0, .slice a1 n1 p1, .slice a2' n2' p2, .slice a3' n3' p3, .slice a4 n4 p4, .slice a5 n5 p5, .slice a6 n6 p6], .agg #[.string t0, .slice b1 m1 q1, .slice b2 m2 q2, .slice b3 m3 q3, .slice b4 m4 q4, .slice b5 m5 q5, .slice b6 m6 q6]] (eval2 (((hF 45).trans (look_at _ 45 12 _ _ (by kernel_rfl) (by kernel_rfl) hl)).trans (dep_of (Fact := F_lays m i j xb xo c cf s0 a1 n1 p1 a2' n2' p2 a3' n3' p3 a4 n4 p4 a5 n5 p5 a6 n6 p6 t0 b1 m1 q1 b2 m2 q2 b3 m3 q3 b4 m4 q4 b5 m5 q5 b6 m6 q6) hd 12 (by kernel_rfl))) (((hF 49).trans (look_at _ 49 16 _ _ (by kernel_rfl) (by kernel_rfl) hl)).trans (dep_of (Fact := F_lays m i j xb xo c cf s0 a1 n1 p1 a2' n2' p2 a3' n3' p3 a4 n4 p4 a5 n5 p5 a6 n6 p6 t0 b1 m1 q1 b2 m2 q2 b3 m3 q3 b4 m4 q4 b5 m5 q5 b6 m6 q6) hd 16 (by kernel_rfl)))) ?_
              refine (CD.out w' (HYI.out.below hb) (HYJ.out.below hb)).mono ?_
              rintro e2 w2 ⟨rfl, hb2⟩
              exact ⟨_, rfl, _, rfl, hb2, rfl⟩
            · intro vs w' F hb hd hF hl hT
              have e1 := ((hF 41).trans (look_at _ 41 8 _ _ (by kernel_rfl) (by kernel_rfl) hl)).trans (dep_of (Fact := F_lays m i j xb xo c cf s0 a1 n1 p1 a2' n2' p2 a3' n3' p3 a4 n4 p4 a5 n5 p5 a6 n6 p6 t0 b1 m1 q1 b2 m2 q2 b3 m3 q3 b4 m4 q4 b5 m5 q5 b6 m6 q6) hd 8 (by kernel_rfl))
              have e2 := ((hF 50).trans (look_at _ 50 17 _ _ (by kernel_rfl) (by kernel_rfl) hl)).trans (dep_of (Fact := F_lays m i j xb xo c cf s0 a1 n1 p1 a2' n2' p2 a3' n3' p3 a4 n4 p4 a5 n5 p5 a6 n6 p6 t0 b1 m1 q1 b2 m2 q2 b3 m3 q3 b4 m4 q4 b5 m5 q5 b6 m6 q6) hd 17 (by kernel_rfl))
              exact one_bool_ne _ _ _ _ rfl rfl (by kernel_rfl) _ _ false e1 e2 (bne_self_eq_false _) ⟨_, rfl, Below.refl _ _, rfl⟩
          · intro vs8 W8 hl hb hI
            have hv : vs8.getD 18 undef = .bool false := hI 18 (by omega)
            obtain ⟨x0, x1, x2, x3, x4, x5, x6, x7, x8, x9, x10, x11, x12, x13, x14, x15, x16, x17, x18, hvs⟩ := list19 hl
            subst hvs
            replace hv : x18 = .bool false := hv
            subst hv
            have HB8 := bt HBX.out hb
            clear hI hl hb CC CD C7i C7j HYI HYJ HBX
            simp only [fillAll, Act.put, List.setIfInBounds_toArray, List.set_cons_succ, List.set_cons_zero]
            show wpList _ _ _ [] _ _
            go_wp2
            go_roundg (k - (j + 1))
            case measure => rw [F2.out]; omega
            case rel => exact ⟨j + 1, hjk, rfl, by go_num, HB8⟩
        · go_wp2
          go_roundg (k - (i + 1))
          case measure => rw [G2.out]; omega
          case rel => exact ⟨i + 1, hik, rfl, by go_num, HBX.out⟩
    · clear G2
      by_cases h24 : m ≤ 24
      · obtain ⟨rfl, hn2, hs2⟩ := HX1.out h24
        obtain ⟨rfl, hn3, hs3⟩ := HY1.out h24
        have hb := bt HB.out HBX.out
        have hcl := chain_layers l m
        have hbd := layL_bd (depL l m) m (fun j hj => by have := depL_le l m j hj; omega) m (Nat.le_refl _)
        have C1 := CR.out h24 wr hb
        have C2 := Lib.hid (fun w8 (hb8 : Below wr.heap.size wr w8) => CO.out h24 w8 (bt hb hb8))
        obtain ⟨X, hX⟩ : ∃ X, X = layL (depL l m) m := ⟨_, rfl⟩
        obtain ⟨Y, hY⟩ : ∃ Y, Y = froC l m 0 := ⟨_, rfl⟩
        rw [← hX] at hn2 hs2 hcl hbd C1
        rw [← hY] at hn3 hs3 hcl C2
        subst hn2
        have hn3' : n3 = X.length := by omega
        subst hn3'
        have hs2 := hs2.below IntsIn.abides HBX.out
        have hs3 := hs3.below HBX.out
        obtain ⟨xl, hxl⟩ : ∃ xl, xl = X.length := ⟨_, rfl⟩
        rw [← hxl] at hn3 hcl hbd ⊢
        have hi1 : (ints Y).length = xl := by rw [ints_len, hcl]
        have HS2 := Lib.hid hs2
        have HS3 := Lib.hid hs3
        have HXL := Lib.hid hxl
        have HYL := Lib.hid hcl
        have HI1 := Lib.hid hi1
        have HBD := Lib.hid hbd
        have HBB := Lib.hid hb
        have C1 := Lib.hid C1
        clear hs2 hs3 hxl hn3 hcl hbd hX hY hi1 hb HX1 HX2 HY1 HY2
        go_wp2_with fail
        refine C1.out.mono ?_
        rintro e w7 ⟨hp, hb7⟩
        obtain ⟨a7, c7, rfl, hs7⟩ := hp
        rw [← HXL.out]
        have hs2 := HS2.out.below IntsIn.abides hb7
        have CE := (eqf_intss a2 a7 c2 c7 xl xl (X.map ints) (X.map ints) (by rw [List.length_map, HXL.out]) (by rw [List.length_map, HXL.out]) (by have := HBD.out.1; omega) (by have := HBD.out.1; omega) (fun r hr => by
            obtain ⟨q, hq, rfl⟩ := List.mem_map.1 hr
            have := HBD.out.2 q hq
            rw [ints_len]; omega) (fun r hr => by
            obtain ⟨q, hq, rfl⟩ := List.mem_map.1 hr
            have := HBD.out.2 q hq
            rw [ints_len]; omega) w7 hs2 hs7)
        rw [decide_eq_true rfl] at CE
        have CE := Lib.hid CE
        clear hs2 hs7 C1
        go_wp2_with fail
        refine CE.out.mono ?_
        rintro e w8 ⟨rfl, hb8⟩
        have hb78 := bt hb7 hb8
        clear CE hb7 hb8
        go_wp2_with fail
        refine (C2.out w8 hb78).mono ?_
        rintro e w9 ⟨a9, c9, rfl, hs9, hb9⟩
        have hb79 := bt hb78 hb9
        have CE := eq_ints a3 a9 c3 c9 (ints Y) (ints Y) (by rw [HI1.out]; have := HBD.out.1; omega) (by rw [HI1.out]; have := HBD.out.1; omega) w9 (HS3.out.below hb79) hs9
        rw [HI1.out, decide_eq_true rfl] at CE
        rw [HYL.out]
        have CE := Lib.hid CE
        clear hs9 hb9 hb78 C2
        go_wp2_with fail
        refine CE.out.mono ?_
        rintro e w10 ⟨rfl, hb10⟩
        have hbe := bt HBB.out (bt hb79 hb10)
        clear hb79 hb10 CE HBB
        go_wp2
        go_ret
        exact ⟨by simp, hbe⟩
      · obtain ⟨rfl, rfl⟩ := HX2.out (by omega)
        obtain ⟨rfl, rfl⟩ := HY2.out (by omega)
        have hb := bt HB.out HBX.out
        go_wp2
        go_ret
        exact ⟨by simp, hb⟩
end Go.Proofs.Ytembjokbhbdoeaa
