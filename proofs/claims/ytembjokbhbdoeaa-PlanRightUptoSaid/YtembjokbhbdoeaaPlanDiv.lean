/- The reference's Divided. -/
import Derived.Test.YtembjokbhbdoeaaPlanDivP
import Derived.Test.YtembjokbhbdoeaaPlanClash
import Derived.Test.YtembjokbhbdoeaaPlanRe
import Derived.WideKeyArgs2
import Derived.Maps.Range
import Derived.Carry
namespace Go.Proofs.Ytembjokbhbdoeaa
open Go.ChangeShapes Go.WideShapes Go.ChangeAt Go.RowKit Go.Mem Go.Maps
set_option linter.unusedVariables false
theorem distN_le : ∀ l : List Int, distN l ≤ l.length
  | [] => Nat.le_refl _
  | k :: r => by
    have := distN_le r
    rw [distN_cons, List.length_cons]
    split <;> omega
theorem law3 : Keyed Try.prog 3 := int_keyed Try.underlying3
theorem zero3 (w : World) : (zeroValue 3).run Try.prog w = .ok (.int .i64 0) w := by kernel_rfl
section
variable {P : Program} {ops : Array Oper} {o : Oper} {F : Act} {w : World} {Q : Exit → Act → World → Prop}
theorem one_lookup (t : TypeId) (m x : Operand) (hgd : o.guard = none) (ho : o.op = .lookup t m x false) (u v r : Value) (hm : F.eval m = u) (hx : F.eval x = v) (hrun : (Instr.lookup t u v false).run P w = .ok r w) (h : Q .normal (F.put o.dst r) w) : wpList P ops Q [o] F w := by
  refine wpList_plain hgd fun K hK => ?_
  unfold Oper.wp execOp
  simp [ho, hm, hx, hrun, Oper.upon]
  exact hK _ _ h
theorem one_int_ge (ty : TypeId) (x y : Operand) (yt : TypeId) (hgd : o.guard = none) (ho : o.op = .binOp .geq ty x y yt) (k : IntKind) (a b : Int) (c : Bool) (hx : F.eval x = .int k a) (hy : F.eval y = .int k b) (hc : decide (b ≤ a) = c)
    (h : Q .normal (F.put o.dst (.bool c)) w) : wpList P ops Q [o] F w := by
  subst hc
  exact one_binop .geq ty x y yt hgd ho _ _ hx hy _ (by simp [eqGuard]) (by simp [binOp, Op.intCmp]) h
end
theorem below_grown {w w' : World} (h : Below w.heap.size w w') : w.grownBy w' none := ⟨h.os, h.tape, h.output, h.size, fun k hk _ => h.block k hk⟩
abbrev OwnM (w : World) (M n : Nat) (D : DataW Unit) : Prop := w.ownsMap Try.prog 3 (plainElem (H := Unit) Try.prog 3) M n D
theorem OwnM.tidy {w : World} {M n : Nat} {D : DataW Unit} (h : OwnM w M n D) : Tidy D := by
  obtain ⟨es, e, hp, _⟩ := World.ownsMap.entries h law3
  exact ⟨es, e, hp⟩
theorem OwnM.below {w w' : World} {M n : Nat} {D : DataW Unit} (h : OwnM w M n D) (hb : Below w.heap.size w w') : OwnM w' M n D := World.ownsMap.kept h (below_grown hb) (by simp)
theorem MapIs.run {w : World} {M n : Nat} {D : DataW Unit} {E : List (Int × Int)} (hm : MapIs D E) (h : OwnM w M n D) (k : Int) (hk : (Lit.int .i64 k).wf = true) :
    (Instr.lookup 49 (.map (some M)) (.int .i64 k) false).run Try.prog w = .ok (.int .i64 (look E k)) w := by
  obtain ⟨c, hrun, hat, _⟩ := World.ownsMap.lookup_int h law3 Try.underlying49 Try.underlying3 (zero3 w) (keyOf_int_mk Try.underlying3 hk)
  have := hm.2.1 k
  rw [hat] at this
  injection this with this
  injection this with _ this
  rw [hrun, this]
theorem list16 {α : Type} {vs : List α} (h : vs.length = 16) : ∃ x0 x1 x2 x3 x4 x5 x6 x7 x8 x9 x10 x11 x12 x13 x14 x15, vs = [x0, x1, x2, x3, x4, x5, x6, x7, x8, x9, x10, x11, x12, x13, x14, x15] := by
  obtain ⟨x0, t0, rfl, h0⟩ := cons_of h
  obtain ⟨x1, t1, rfl, h1⟩ := cons_of h0
  obtain ⟨x2, t2, rfl, h2⟩ := cons_of h1
  obtain ⟨x3, t3, rfl, h3⟩ := cons_of h2
  obtain ⟨x4, t4, rfl, h4⟩ := cons_of h3
  obtain ⟨x5, t5, rfl, h5⟩ := cons_of h4
  obtain ⟨x6, t6, rfl, h6⟩ := cons_of h5
  obtain ⟨x7, t7, rfl, h7⟩ := cons_of h6
  obtain ⟨x8, t8, rfl, h8⟩ := cons_of h7
  obtain ⟨x9, t9, rfl, h9⟩ := cons_of h8
  obtain ⟨x10, t10, rfl, h10⟩ := cons_of h9
  obtain ⟨x11, t11, rfl, h11⟩ := cons_of h10
  obtain ⟨x12, t12, rfl, h12⟩ := cons_of h11
  obtain ⟨x13, t13, rfl, h13⟩ := cons_of h12
  obtain ⟨x14, t14, rfl, h14⟩ := cons_of h13
  obtain ⟨x15, t15, rfl, h15⟩ := cons_of h14
  exact ⟨x0, x1, x2, x3, x4, x5, x6, x7, x8, x9, x10, x11, x12, x13, x14, x15, by rw [List.eq_nil_of_length_eq_zero h15]⟩
def F_df (xb xo sz c i j : Nat) (s0 : ByteArray) (a1 : Option Addr) (n1 c1 : Nat) (a2 : Option Addr) (n2 c2 : Nat) (a3 : Option Addr) (n3 c3 : Nat) (a4 : Option Addr) (n4 c4 : Nat) (a5 : Option Addr) (n5 c5 : Nat) (a6 : Option Addr) (n6 c6 : Nat) (t0 : ByteArray) (b1 : Option Addr) (m1 d1 : Nat) (b2 : Option Addr) (m2 d2 : Nat) (b3 : Option Addr) (m3 d3 : Nat) (b4 : Option Addr) (m4 d4 : Nat) (b5 : Option Addr) (m5 d5 : Nat) (b6 : Option Addr) (m6 d6 : Nat) (M : Nat) (zi zj : Int) (tz : Bool) (jq : Nat) (v : Value) (w : World) : Prop :=
  match jq with
  | 0 => v = .slice (some ⟨xb, xo, none⟩) sz c
  | 1 => v = .int .i64 i
  | 2 => v = .pointer (some ⟨xb, xo + i * 7, none⟩)
  | 3 => v = .agg #[.string s0, .slice a1 n1 c1, .slice a2 n2 c2, .slice a3 n3 c3, .slice a4 n4 c4, .slice a5 n5 c5, .slice a6 n6 c6]
  | 4 => v = .slice (some ⟨xb, xo, none⟩) sz c
  | 5 => v = .int .i64 j
  | 6 => v = .pointer (some ⟨xb, xo + j * 7, none⟩)
  | 7 => v = .agg #[.string t0, .slice b1 m1 d1, .slice b2 m2 d2, .slice b3 m3 d3, .slice b4 m4 d4, .slice b5 m5 d5, .slice b6 m6 d6]
  | 8 => v = .bool false
  | 9 => v = .bool false
  | 10 => True
  | 11 => True
  | 12 => True
  | 13 => True
  | 14 => True
  | 15 => v = .bool false
  | _ => True
theorem F_df_mono (xb xo sz c i j : Nat) (s0 : ByteArray) (a1 : Option Addr) (n1 c1 : Nat) (a2 : Option Addr) (n2 c2 : Nat) (a3 : Option Addr) (n3 c3 : Nat) (a4 : Option Addr) (n4 c4 : Nat) (a5 : Option Addr) (n5 c5 : Nat) (a6 : Option Addr) (n6 c6 : Nat) (t0 : ByteArray) (b1 : Option Addr) (m1 d1 : Nat) (b2 : Option Addr) (m2 d2 : Nat) (b3 : Option Addr) (m3 d3 : Nat) (b4 : Option Addr) (m4 d4 : Nat) (b5 : Option Addr) (m5 d5 : Nat) (b6 : Option Addr) (m6 d6 : Nat) (M : Nat) (zi zj : Int) (tz : Bool) : Facts (F_df xb xo sz c i j s0 a1 n1 c1 a2 n2 c2 a3 n3 c3 a4 n4 c4 a5 n5 c5 a6 n6 c6 t0 b1 m1 d1 b2 m2 d2 b3 m3 d3 b4 m4 d4 b5 m5 d5 b6 m6 d6 M zi zj tz) := ⟨by
  intro jq v w w' h hb
  unfold F_df at h ⊢
  split at h
  all_goals first
    | exact h
    | trivial⟩
def F_dt (xb xo sz c i j : Nat) (s0 : ByteArray) (a1 : Option Addr) (n1 c1 : Nat) (a2 : Option Addr) (n2 c2 : Nat) (a3 : Option Addr) (n3 c3 : Nat) (a4 : Option Addr) (n4 c4 : Nat) (a5 : Option Addr) (n5 c5 : Nat) (a6 : Option Addr) (n6 c6 : Nat) (t0 : ByteArray) (b1 : Option Addr) (m1 d1 : Nat) (b2 : Option Addr) (m2 d2 : Nat) (b3 : Option Addr) (m3 d3 : Nat) (b4 : Option Addr) (m4 d4 : Nat) (b5 : Option Addr) (m5 d5 : Nat) (b6 : Option Addr) (m6 d6 : Nat) (M : Nat) (zi zj : Int) (tz : Bool) (jq : Nat) (v : Value) (w : World) : Prop :=
  match jq with
  | 0 => v = .slice (some ⟨xb, xo, none⟩) sz c
  | 1 => v = .int .i64 i
  | 2 => v = .pointer (some ⟨xb, xo + i * 7, none⟩)
  | 3 => v = .agg #[.string s0, .slice a1 n1 c1, .slice a2 n2 c2, .slice a3 n3 c3, .slice a4 n4 c4, .slice a5 n5 c5, .slice a6 n6 c6]
  | 4 => v = .slice (some ⟨xb, xo, none⟩) sz c
  | 5 => v = .int .i64 j
  | 6 => v = .pointer (some ⟨xb, xo + j * 7, none⟩)
  | 7 => v = .agg #[.string t0, .slice b1 m1 d1, .slice b2 m2 d2, .slice b3 m3 d3, .slice b4 m4 d4, .slice b5 m5 d5, .slice b6 m6 d6]
  | 8 => v = .bool true
  | 9 => v = .bool true
  | 10 => v = .map (some M)
  | 11 => v = .int .i64 j
  | 12 => v = .int .i64 zj
  | 13 => v = .int .i64 zi
  | 14 => v = .bool tz
  | 15 => v = .bool tz
  | _ => True
theorem F_dt_mono (xb xo sz c i j : Nat) (s0 : ByteArray) (a1 : Option Addr) (n1 c1 : Nat) (a2 : Option Addr) (n2 c2 : Nat) (a3 : Option Addr) (n3 c3 : Nat) (a4 : Option Addr) (n4 c4 : Nat) (a5 : Option Addr) (n5 c5 : Nat) (a6 : Option Addr) (n6 c6 : Nat) (t0 : ByteArray) (b1 : Option Addr) (m1 d1 : Nat) (b2 : Option Addr) (m2 d2 : Nat) (b3 : Option Addr) (m3 d3 : Nat) (b4 : Option Addr) (m4 d4 : Nat) (b5 : Option Addr) (m5 d5 : Nat) (b6 : Option Addr) (m6 d6 : Nat) (M : Nat) (zi zj : Int) (tz : Bool) : Facts (F_dt xb xo sz c i j s0 a1 n1 c1 a2 n2 c2 a3 n3 c3 a4 n4 c4 a5 n5 c5 a6 n6 c6 t0 b1 m1 d1 b2 m2 d2 b3 m3 d3 b4 m4 d4 b5 m5 d5 b6 m6 d6 M zi zj tz) := ⟨by
  intro jq v w w' h hb
  unfold F_dt at h ⊢
  split at h
  all_goals first
    | exact h
    | trivial⟩

def BoolPost2 (S : Prop) (e : Ending) : Prop := ∃ r : Bool, e = .returned (.bool r) ∧ (r = true ↔ S)
theorem wf_nat (i : Nat) (h : i ≤ 1048576) : (Lit.int .i64 (i : Int)).wf = true := by
  simp [Lit.wf, IntKind.min, IntKind.max, IntKind.bits, IntKind.signed]; omega
set_option maxHeartbeats 8000000 in
set_option maxRecDepth 20000 in
theorem ref_Divided (a b : Option Addr) (c cb n nl : Nat) (l : List SysV) (ls : List (List Int)) (hm : l.length = n) (hnl : ls.length = nl) (h1 : n ≤ 1048576) (h2 : nl ≤ 1048576) (h3 : lens ls ≤ 1048576) (hwf : ∀ x ∈ ls, ∀ z ∈ x, (Lit.int .i64 z).wf = true) (w : World) (ha : SlAt 7 SysAt w a l) (hb0 : SlAt 1 IntsIn w b ls) :
    Calls Try.prog 8 #[.slice a n c, .slice b nl cb] w fun e w' => BoolPost2 (DivS l n ls) e ∧ Below w.heap.size w w' := by
  have HM := Lib.hid hm
  have HNL := Lib.hid hnl
  have HA := Lib.hid ha
  have HLS := Lib.hid hb0
  have HWF := Lib.hid hwf
  obtain ⟨EF, hEF⟩ : ∃ EF, EF = rowsE 0 ls [] := ⟨_, rfl⟩
  obtain ⟨T, hT⟩ : ∃ T, T = lens ls := ⟨_, rfl⟩
  rw [← hT] at h3
  have HR := Lib.hid (show DivS l n ls ↔ (∀ x ∈ ls, SortedL x) ∧ T = n ∧ distN (keysE EF) = n ∧ ∀ i : Nat, i < n → (i : Int) ∈ keysE EF ∧ ∀ j : Nat, j < i → confB (sysN l i) (sysN l j) = true → look EF j < look EF i by rw [hEF, hT]; exact Iff.rfl)
  have HEF := Lib.hid hEF
  have HT := Lib.hid hT
  clear hm hnl ha hb0 hwf hEF hT
  have hmade : OwnM (w.alloc (.map #[] 0)) w.heap.size 0 (.map []) := World.ownsMap_made w Try.prog 3 _
  have hb1 := (Below.refl w.heap.size w).alloc (Nat.le_refl _) (.map #[] 0)
  have hmk := run_makeMap (P := Try.prog) 49 w
  go_enter Try.func8, Try.ntmps8
  go_wp2_with fail
  obtain ⟨W1, hW1⟩ : ∃ W1, W1 = w.alloc (.map #[] 0) := ⟨_, rfl⟩
  rw [← hW1] at hmade hb1 ⊢
  obtain ⟨M, hM⟩ : ∃ M, M = w.heap.size := ⟨_, rfl⟩
  rw [← hM] at hmade hb1 ⊢
  have HG := Lib.hid hM
  have HMADE := Lib.hid hmade
  clear hmk hW1 hM hmade
  go_loopg [6, 7, 8, 10, 18] nl (fun gk v6 _ _ _ vi wx => ∃ (d : Nat) (E : List (Int × Int)) (D : DataW Unit), d ≤ nl ∧ gk = nl - d ∧ v6 = .int .i64 (E.length : Nat) ∧ vi = .int .i64 d ∧ rowsE d (ls.drop d) E = EF ∧ (∀ j (h : j < ls.length), j < d → SortedL ls[j]) ∧ E.length + lens (ls.drop d) = T ∧ OwnM wx M E.length D ∧ MapIs D E ∧ Below M w wx)
  case atStart => exact ⟨0, [], _, Nat.zero_le _, rfl, rfl, rfl, HEF.out.symm, fun j h h2 => by omega, by rw [HT.out]; simp, HMADE.out, MapIs.nil, hb1⟩
  case round =>
    clear HMADE hb1
    obtain ⟨d, E, D, g1, g2, rfl, rfl, hre, hso, hn, hown, hmi, hb⟩ := hrel
    have G2 := Lib.hid g2
    have HRE := Lib.hid hre
    have HSO := Lib.hid hso
    have HN := Lib.hid hn
    have HOWN := Lib.hid hown
    have HMI := Lib.hid hmi
    clear g2 hre hso hn hown hmi
    by_cases hlt : d < nl
    · obtain ⟨x, rfl, hx, hcx⟩ := HLS.out (by rw [HNL.out]; omega)
      obtain ⟨ax, cx, e0, hia⟩ := hcx d (by rw [HNL.out]; exact hlt)
      rw [Nat.mul_one] at e0
      have hdr : ls.drop d = ls[d]'(by rw [HNL.out]; exact hlt) :: ls.drop (d + 1) := List.drop_eq_getElem_cons (by rw [HNL.out]; exact hlt)
      obtain ⟨row, hrow⟩ : ∃ row, row = ls[d]'(by rw [HNL.out]; exact hlt) := ⟨_, rfl⟩
      have hrwf : ∀ z ∈ row, (Lit.int .i64 z).wf = true := HWF.out row (by rw [hrow]; exact List.getElem_mem _)
      rw [← hrow] at hdr e0 hia
      have hre := HRE.out
      have hn := HN.out
      rw [hdr, rowsE_cons] at hre
      rw [hdr, lens_cons] at hn
      obtain ⟨nr, hnr⟩ : ∃ nr, nr = row.length := ⟨_, rfl⟩
      rw [← hnr] at e0 hn
      have hbw : Below w.heap.size w wr := by rw [← HG.out]; exact hb
      have e1 := cell_abides e0 hbw
      obtain ⟨T2, hT2⟩ : ∃ T2, T2 = lens (ls.drop (d + 1)) := ⟨_, rfl⟩
      rw [← hT2] at hn
      have hnrb : nr ≤ 1048576 := by omega
      have CS := Lib.hid (is_sorted ax cx nr row hnr.symm (by omega) wr (hia.below hbw))
      have HRE2 := Lib.hid hre
      have HNR := Lib.hid hnr
      have HT2 := Lib.hid hT2
      have HIA := Lib.hid hia
      have HROW := Lib.hid hrow
      have HRWF := Lib.hid hrwf
      clear e0 hcx hdr hre hrow hnr hT2 hia hrwf HRE HN hbw
      go_wp2_with fail
      refine CS.out.mono ?_
      rintro e w2 ⟨⟨sb, rfl, hsb⟩, hb2⟩
      have hown2 := HOWN.out.below hb2
      have hb3 : Below M w w2 := hb.trans (hb2.mono (Nat.le_of_lt (World.ownsMap.lt HOWN.out)))
      have HOWN2 := Lib.hid hown2
      have HSB := Lib.hid hsb
      clear hown2 hsb hb2 hb HOWN CS e1
      cases sb with
      | false =>
        have HNO := Lib.hid (show ¬ DivS l n ls by
          intro hd
          have := (HR.out.1 hd).1 row (by rw [HROW.out]; exact List.getElem_mem _)
          have := HSB.out.2 this
          cases this)
        go_wp2
        go_ret
        exact ⟨⟨false, rfl, ⟨fun h => (by cases h), fun h => absurd h HNO.out⟩⟩, by rw [← HG.out]; exact hb3⟩
      | true =>
        have HSR := Lib.hid (HSB.out.1 (by trivial))
        go_wp2_with fail
        have HRE3 := Lib.hid (show rowsE (d + 1) (ls.drop (d + 1)) (rowE d (row.drop 0) E) = EF from HRE2.out)
        clear HSB HRE2
        go_loopg [6, 10, 28] nr (fun gk v6 _ vi wx => ∃ (i : Nat) (E : List (Int × Int)) (D : DataW Unit), i ≤ nr ∧ gk = nr - i ∧ v6 = .int .i64 (E.length : Nat) ∧ vi = .int .i64 i ∧ rowsE (d + 1) (ls.drop (d + 1)) (rowE d (row.drop i) E) = EF ∧ E.length + (nr - i) + T2 = T ∧ OwnM wx M E.length D ∧ MapIs D E ∧ Below M w wx)
        case atStart => exact ⟨0, E, D, Nat.zero_le _, rfl, rfl, rfl, HRE3.out, by omega, HOWN2.out, HMI.out, hb3⟩
        case round =>
          clear HRE3 HOWN2 HMI hb3 hn
          obtain ⟨i, E, D, f1, f2, rfl, rfl, hre, hn, hown, hmi, hb⟩ := hrel
          have F2 := Lib.hid f2
          have HRE := Lib.hid hre
          have HMI := Lib.hid hmi
          clear f2 hre hmi
          by_cases hi : i < nr
          · obtain ⟨ay, hay, hxy, hcy⟩ := HIA.out (by rw [← HNR.out]; omega)
            subst hay
            have hbw : Below w.heap.size w wr := by rw [← HG.out]; exact hb
            obtain ⟨k, hk⟩ : ∃ k, k = row.getD i 0 := ⟨_, rfl⟩
            have ck := (hbw.cell (by rw [block_of_add]; exact hxy)).trans (hcy i (by rw [← HNR.out]; exact hi))
            rw [← hk] at ck
            have hre := HRE.out
            rw [prev_at row i (by rw [← HNR.out]; exact hi), ← hk, rowE_cons] at hre
            have HRE2 := Lib.hid hre
            have hkwf := HRWF.out k (by rw [hk]; exact getD_mem (by rw [← HNR.out]; exact hi))
            have hkey := keyOf_int_mk Try.underlying3 hkwf
            have hval := plainElem_int (H := Unit) (P := Try.prog) (e := 3) Try.underlying3 (wf_nat d (by omega))
            have HMI2 := Lib.hid (HMI.out.put hown.tidy k d (by trivial))
            obtain ⟨en, hen⟩ : ∃ en, en = E.length := ⟨_, rfl⟩
            rw [← hen] at hn hown ⊢
            have HEN := Lib.hid hen
            clear hcy hk hre HRE HMI hkwf hxy hen
            go_wp2_with (at_mapUpdate; go_must (refine wpList_mapUpdate_own _ rfl _ _ _ 49 rfl 3 3 law3 Try.underlying49 _ M en D rfl hown (by unfold maxLen; omega) (.int .i64 k) (.int .i64 d) (.int .i64 k) rfl rfl hkey (.lit (.int .i64 d)) [] hval ?_))
            intro w' hown' hg'
            have hbM : Below M w w' := hb.grown hg' (Nat.le_of_lt (World.ownsMap.lt hown)) (fun r h => by injection h with h; omega)
            have HOWN' := Lib.hid hown'
            clear hown hown' hg' hb hbw ck hkey hval
            go_wp2
            go_roundg (nr - (i + 1))
            case measure => rw [F2.out]; omega
            case rel => exact ⟨i + 1, (k, (d : Int)) :: E, _, hi, rfl, by rw [List.length_cons, ← HEN.out]; go_num, by go_num, HRE2.out, by rw [List.length_cons, ← HEN.out]; omega, by rw [List.length_cons, ← HEN.out]; exact HOWN'.out, HMI2.out, hbM⟩
          · have hii : i = nr := by omega
            have HREX := Lib.hid (show rowsE (d + 1) (ls.drop (d + 1)) E = EF by
              have := HRE.out
              rw [hii, HNR.out, List.drop_length, rowE_nil] at this
              exact this)
            have hn2 : E.length + T2 = T := by omega
            have HOWN := Lib.hid hown
            clear HRE hn hown
            go_wp2_with fail
            go_roundg (nl - (d + 1))
            case measure => rw [G2.out]; omega
            case rel => exact ⟨d + 1, E, D, hlt, rfl, rfl, by go_num, HREX.out, fun j h hj => by
              by_cases e : j = d
              · subst e; rw [← HROW.out]; exact HSR.out
              · exact HSO.out j h (by omega), by rw [← HT2.out]; exact hn2, HOWN.out, HMI.out, hb⟩
    · have hdd : d = nl := by omega
      have hEE : E = EF := by
        have := HRE.out
        rw [hdd, ← HNL.out, List.drop_length, rowsE_nil] at this
        exact this
      have hnt : E.length = T := by
        have := HN.out
        rw [hdd, ← HNL.out, List.drop_length] at this
        exact this
      have HALL := Lib.hid (show ∀ x ∈ ls, SortedL x by
        intro x hx
        obtain ⟨j, hj, rfl⟩ := List.getElem_of_mem hx
        exact HSO.out j hj (by rw [hdd, ← HNL.out]; exact hj))
      subst hEE
      have HR2 := Lib.hid (show DivS l n ls ↔ E.length = n ∧ Maps.size D = n ∧ ∀ i : Nat, i < n → (i : Int) ∈ keysE E ∧ ∀ j : Nat, j < i → confB (sysN l i) (sysN l j) = true → look E j < look E i by
        rw [HR.out, HMI.out.2.2, hnt]
        exact ⟨fun h => h.2, fun h => ⟨HALL.out, h⟩⟩)
      obtain ⟨en, hen⟩ : ∃ en, en = E.length := ⟨_, rfl⟩
      have hown := HOWN.out
      rw [← hen] at hown HR2 hnt ⊢
      obtain ⟨sz, hsz⟩ : ∃ sz, sz = Maps.size D := ⟨_, rfl⟩
      have hszb : sz ≤ 1048576 := by
        have h1 := distN_le (keysE E)
        rw [hsz, HMI.out.2.2]
        unfold keysE at h1 ⊢
        rw [List.length_map] at h1
        omega
      rw [← hsz] at HR2
      have HB := Lib.hid hb
      have HSZ := Lib.hid hsz
      have henb : en ≤ 1048576 := by omega
      clear hdd HRE HN HSO HALL HR HT HEF hen hsz hb hnt
      by_cases hnm : en = n
      · subst hnm
        have t0 : ((en : Int) != (en : Int)) = false := by simp
        by_cases hsm : sz = en
        · subst hsm
          have hlen := World.ownsMap.len hown Try.underlying49 3
          rw [← HSZ.out] at hlen
          go_wp2_with fail
          have HOWN2 := Lib.hid hown
          clear hown HOWN hlen
          go_loopg [11, 12, 13, 14, 52] sz (fun gk _ _ _ _ vi wx => ∃ i : Nat, i ≤ sz ∧ gk = sz - i ∧ vi = .int .i64 i ∧ (∀ p : Nat, p < i → (p : Int) ∈ keysE E ∧ ∀ q : Nat, q < p → confB (sysN l p) (sysN l q) = true → look E q < look E p) ∧ OwnM wx M sz D ∧ Below M w wx)
          case atStart => exact ⟨0, Nat.zero_le _, rfl, rfl, fun p h => by omega, HOWN2.out, HB.out⟩
          case round =>
            clear HOWN2 HB
            obtain ⟨i, f1, f2, rfl, hok, hown, hb⟩ := hrel
            have F2 := Lib.hid f2
            have HOK := Lib.hid hok
            have HB := Lib.hid hb
            clear f2 hok hb
            by_cases hi : i < sz
            · have hkwf := wf_nat i (by omega)
              have hkey := keyOf_int_mk Try.underlying3 hkwf
              have hhas := HMI.out.1 (i : Int)
              have hatk := HMI.out.2.1 (i : Int)
              by_cases hin : (i : Int) ∈ keysE E
              · rw [decide_eq_true hin] at hhas
                go_wp2_with (at_lookup; refine wpList_lookup_own_ok_int _ rfl _ _ 49 rfl 3 3 .i64 law3 Try.underlying49 Try.underlying3 (zero3 _) M sz D rfl hown (.int .i64 i) (.int .i64 i) rfl hkey ?_; intro cv hat hwc; rw [hhas])
                have hcv : cv = look E i := by
                  rw [hat] at hatk
                  injection hatk with hatk
                  injection hatk
                have HCV := Lib.hid hcv
                have HIN := Lib.hid hin
                have HOWN := Lib.hid hown
                clear hat hwc hatk hhas hcv hin hkey hkwf hown
                obtain ⟨zi, hzi⟩ : ∃ zi, zi = cv := ⟨_, rfl⟩
                have HZI := Lib.hid (hzi.trans HCV.out)
                rw [← hzi]
                clear hzi HCV
                go_loopg [14, 64] i (fun gk _ vi wx => ∃ j : Nat, j ≤ i ∧ gk = i - j ∧ vi = .int .i64 j ∧ (∀ q : Nat, q < j → confB (sysN l i) (sysN l q) = true → look E q < zi) ∧ OwnM wx M sz D ∧ Below M w wx)
                case atStart => exact ⟨0, Nat.zero_le _, rfl, rfl, fun q h => by omega, HOWN.out, HB.out⟩
                case round =>
                  clear HOWN HB
                  obtain ⟨j, k1, k2, rfl, hoj, hown, hb⟩ := hrel
                  have K2 := Lib.hid k2
                  have HOJ := Lib.hid hoj
                  have HB := Lib.hid hb
                  clear k2 hoj
                  by_cases hj : j < i
                  · have hbs := hb
                    rw [HG.out] at hbs
                    have hal := HA.out.below SysAt.abides hbs
                    obtain ⟨x, rfl, hx, _⟩ := HA.out (by rw [HM.out]; omega)
                    obtain ⟨xb, xo, rfl, s0, a1, n1, c1, a2, n2, c2, a3, n3, c3, a4, n4, c4, a5, n5, c5, a6, n6, c6, hci, hyi⟩ := sys_cells hal i (by rw [HM.out]; exact hi)
                    obtain ⟨xb2, xo2, hxx, t0, b1, m1, d1, b2, m2, d2, b3, m3, d3, b4, m4, d4, b5, m5, d5, b6, m6, d6, hcj, hyj⟩ := sys_cells hal j (by rw [HM.out]; omega)
                    injection hxx with hx1 hx2
                    subst hx1 hx2
                    have hji : j < sz := by omega
                    have CC := Lib.hid (fun w' => ref_Clash (.agg #[.string s0, .slice a1 n1 c1, .slice a2 n2 c2, .slice a3 n3 c3, .slice a4 n4 c4, .slice a5 n5 c5, .slice a6 n6 c6]) (.agg #[.string t0, .slice b1 m1 d1, .slice b2 m2 d2, .slice b3 m3 d3, .slice b4 m4 d4, .slice b5 m5 d5, .slice b6 m6 d6]) (sysN l i) (sysN l j) w')
                    obtain ⟨cf, hcf⟩ : ∃ cf, cf = confB (sysN l i) (sysN l j) := ⟨_, rfl⟩
                    rw [← hcf] at CC
                    have HCF := Lib.hid hcf
                    obtain ⟨zj, hzj⟩ : ∃ zj, zj = look E j := ⟨_, rfl⟩
                    have HZJ := Lib.hid hzj
                    have HLK := Lib.hid (fun w' (hb : Below wr.heap.size wr w') => (HMI.out.run (hown.below hb) (j : Int) (wf_nat j (by omega))).trans (by rw [← hzj]))
                    obtain ⟨tz, htz⟩ : ∃ tz, tz = decide (zi ≤ zj) := ⟨_, rfl⟩
                    have HTZ := Lib.hid htz.symm
                    have C7i := Lib.hid (show Cells7 wr xb (xo + i * 7) _ _ _ _ _ _ _ from hci)
                    have C7j := Lib.hid (show Cells7 wr xb (xo + j * 7) _ _ _ _ _ _ _ from hcj)
                    have HYI := Lib.hid hyi
                    have HYJ := Lib.hid hyj
                    have HOWN := Lib.hid hown
                    have lM := World.ownsMap.lt hown
                    clear hal hyi hyj hx hcf hbs hci hcj hown hb hzj htz
                    cases cf with
                    | false =>
                      go_wp2_with fail
                      refine wp_region_facts_t rfl 16 (by kernel_rfl) (F_df xb xo sz c i j s0 a1 n1 c1 a2 n2 c2 a3 n3 c3 a4 n4 c4 a5 n5 c5 a6 n6 c6 t0 b1 m1 d1 b2 m2 d2 b3 m3 d3 b4 m4 d4 b5 m5 d5 b6 m6 d6 M zi zj tz) (F_df_mono xb xo sz c i j s0 a1 n1 c1 a2 n2 c2 a3 n3 c3 a4 n4 c4 a5 n5 c5 a6 n6 c6 t0 b1 m1 d1 b2 m2 d2 b3 m3 d3 b4 m4 d4 b5 m5 d5 b6 m6 d6 M zi zj tz) ?_ ?_
                      · refine ⟨?_, ?_, ?_, ?_, ?_, ?_, ?_, ?_, ?_, ?_, ?_, ?_, ?_, ?_, ?_, ?_, trivial⟩
                        · intro vs w' F hb hd hF hl hT
                          have e := (hF 0).trans (look_out _ 0 _ _ (by kernel_rfl))
                          exact one_move _ rfl (by first | exact Or.inl rfl | exact Or.inr rfl) ⟨_, rfl, Below.refl _ _, e⟩
                        · intro vs w' F hb hd hF hl hT
                          have e := (hF 11).trans (look_out _ 11 _ _ (by kernel_rfl))
                          exact one_move _ rfl (by first | exact Or.inl rfl | exact Or.inr rfl) ⟨_, rfl, Below.refl _ _, e⟩
                        · intro vs w' F hb hd hF hl hT
                          have ex := (((hF 67).trans (look_at _ 67 0 _ _ (by kernel_rfl) (by kernel_rfl) hl)).trans (dep_of (Fact := F_df xb xo sz c i j s0 a1 n1 c1 a2 n2 c2 a3 n3 c3 a4 n4 c4 a5 n5 c5 a6 n6 c6 t0 b1 m1 d1 b2 m2 d2 b3 m3 d3 b4 m4 d4 b5 m5 d5 b6 m6 d6 M zi zj tz) hd 0 (by kernel_rfl)))
                          have ey := (((hF 68).trans (look_at _ 68 1 _ _ (by kernel_rfl) (by kernel_rfl) hl)).trans (dep_of (Fact := F_df xb xo sz c i j s0 a1 n1 c1 a2 n2 c2 a3 n3 c3 a4 n4 c4 a5 n5 c5 a6 n6 c6 t0 b1 m1 d1 b2 m2 d2 b3 m3 d3 b4 m4 d4 b5 m5 d5 b6 m6 d6 M zi zj tz) hd 1 (by kernel_rfl)))
                          exact one_index 22 _ _ rfl rfl (.slice (some ⟨xb, xo, none⟩) sz c) (.int .i64 i) (.pointer (some ⟨xb, xo + i * 7, none⟩)) ex ey (fun w => idx_sys xb xo sz c i (by omega) w) ⟨_, rfl, Below.refl _ _, rfl⟩
                        · intro vs w' F hb hd hF hl hT
                          have e := (((hF 69).trans (look_at _ 69 2 _ _ (by kernel_rfl) (by kernel_rfl) hl)).trans (dep_of (Fact := F_df xb xo sz c i j s0 a1 n1 c1 a2 n2 c2 a3 n3 c3 a4 n4 c4 a5 n5 c5 a6 n6 c6 t0 b1 m1 d1 b2 m2 d2 b3 m3 d3 b4 m4 d4 b5 m5 d5 b6 m6 d6 M zi zj tz) hd 2 (by kernel_rfl)))
                          exact one_load7 30 _ rfl rfl xb (xo + i * 7) _ _ _ _ _ _ _ e (C7i.out.below hb) _ Try.underlying30 rfl (by kernel_rfl) ⟨_, rfl, Below.refl _ _, rfl⟩
                        · intro vs w' F hb hd hF hl hT
                          have e := (hF 0).trans (look_out _ 0 _ _ (by kernel_rfl))
                          exact one_move _ rfl (by first | exact Or.inl rfl | exact Or.inr rfl) ⟨_, rfl, Below.refl _ _, e⟩
                        · intro vs w' F hb hd hF hl hT
                          have e := (hF 14).trans (look_out _ 14 _ _ (by kernel_rfl))
                          exact one_move _ rfl (by first | exact Or.inl rfl | exact Or.inr rfl) ⟨_, rfl, Below.refl _ _, e⟩
                        · intro vs w' F hb hd hF hl hT
                          have ex := (((hF 71).trans (look_at _ 71 4 _ _ (by kernel_rfl) (by kernel_rfl) hl)).trans (dep_of (Fact := F_df xb xo sz c i j s0 a1 n1 c1 a2 n2 c2 a3 n3 c3 a4 n4 c4 a5 n5 c5 a6 n6 c6 t0 b1 m1 d1 b2 m2 d2 b3 m3 d3 b4 m4 d4 b5 m5 d5 b6 m6 d6 M zi zj tz) hd 4 (by kernel_rfl)))
                          have ey := (((hF 72).trans (look_at _ 72 5 _ _ (by kernel_rfl) (by kernel_rfl) hl)).trans (dep_of (Fact := F_df xb xo sz c i j s0 a1 n1 c1 a2 n2 c2 a3 n3 c3 a4 n4 c4 a5 n5 c5 a6 n6 c6 t0 b1 m1 d1 b2 m2 d2 b3 m3 d3 b4 m4 d4 b5 m5 d5 b6 m6 d6 M zi zj tz) hd 5 (by kernel_rfl)))
                          exact one_index 22 _ _ rfl rfl (.slice (some ⟨xb, xo, none⟩) sz c) (.int .i64 j) (.pointer (some ⟨xb, xo + j * 7, none⟩)) ex ey (fun w => idx_sys xb xo sz c j (by omega) w) ⟨_, rfl, Below.refl _ _, rfl⟩
                        · intro vs w' F hb hd hF hl hT
                          have e := (((hF 73).trans (look_at _ 73 6 _ _ (by kernel_rfl) (by kernel_rfl) hl)).trans (dep_of (Fact := F_df xb xo sz c i j s0 a1 n1 c1 a2 n2 c2 a3 n3 c3 a4 n4 c4 a5 n5 c5 a6 n6 c6 t0 b1 m1 d1 b2 m2 d2 b3 m3 d3 b4 m4 d4 b5 m5 d5 b6 m6 d6 M zi zj tz) hd 6 (by kernel_rfl)))
                          exact one_load7 30 _ rfl rfl xb (xo + j * 7) _ _ _ _ _ _ _ e (C7j.out.below hb) _ Try.underlying30 rfl (by kernel_rfl) ⟨_, rfl, Below.refl _ _, rfl⟩
                        · intro vs w' F hb hd hF hl hT
                          refine one_call _ _ rfl rfl (enters_of Try.func12 (by kernel_rfl) rfl) #[.agg #[.string s0, .slice a1 n1 c1, .slice a2 n2 c2, .slice a3 n3 c3, .slice a4 n4 c4, .slice a5 n5 c5, .slice a6 n6 c6], .agg #[.string t0, .slice b1 m1 d1, .slice b2 m2 d2, .slice b3 m3 d3, .slice b4 m4 d4, .slice b5 m5 d5, .slice b6 m6 d6]] (eval2 (((hF 70).trans (look_at _ 70 3 _ _ (by kernel_rfl) (by kernel_rfl) hl)).trans (dep_of (Fact := F_df xb xo sz c i j s0 a1 n1 c1 a2 n2 c2 a3 n3 c3 a4 n4 c4 a5 n5 c5 a6 n6 c6 t0 b1 m1 d1 b2 m2 d2 b3 m3 d3 b4 m4 d4 b5 m5 d5 b6 m6 d6 M zi zj tz) hd 3 (by kernel_rfl))) (((hF 74).trans (look_at _ 74 7 _ _ (by kernel_rfl) (by kernel_rfl) hl)).trans (dep_of (Fact := F_df xb xo sz c i j s0 a1 n1 c1 a2 n2 c2 a3 n3 c3 a4 n4 c4 a5 n5 c5 a6 n6 c6 t0 b1 m1 d1 b2 m2 d2 b3 m3 d3 b4 m4 d4 b5 m5 d5 b6 m6 d6 M zi zj tz) hd 7 (by kernel_rfl)))) ?_
                          refine (CC.out w' (HYI.out.below hb) (HYJ.out.below hb)).mono ?_
                          rintro e2 w2 ⟨rfl, hb2⟩
                          exact ⟨_, rfl, _, rfl, hb2, rfl⟩
                        · intro vs w' F hb hd hF hl hT
                          have e := ((hF 75).trans (look_at _ 75 8 _ _ (by kernel_rfl) (by kernel_rfl) hl)).trans (dep_of (Fact := F_df xb xo sz c i j s0 a1 n1 c1 a2 n2 c2 a3 n3 c3 a4 n4 c4 a5 n5 c5 a6 n6 c6 t0 b1 m1 d1 b2 m2 d2 b3 m3 d3 b4 m4 d4 b5 m5 d5 b6 m6 d6 M zi zj tz) hd 8 (by kernel_rfl))
                          exact one_move _ rfl (by first | exact Or.inl rfl | exact Or.inr rfl) ⟨_, rfl, Below.refl _ _, e⟩
                        · intro vs w' F hb hd hF hl hT
                          have eg := ((hF 76).trans (look_at _ 76 9 _ _ (by kernel_rfl) (by kernel_rfl) hl)).trans (dep_of (Fact := F_df xb xo sz c i j s0 a1 n1 c1 a2 n2 c2 a3 n3 c3 a4 n4 c4 a5 n5 c5 a6 n6 c6 t0 b1 m1 d1 b2 m2 d2 b3 m3 d3 b4 m4 d4 b5 m5 d5 b6 m6 d6 M zi zj tz) hd 9 (by kernel_rfl))
                          exact wpList_off rfl (t := 76) (d := false) (by kernel_rfl) eg (by decide) ⟨_, rfl, Below.refl _ _, trivial⟩
                        · intro vs w' F hb hd hF hl hT
                          have eg := ((hF 76).trans (look_at _ 76 9 _ _ (by kernel_rfl) (by kernel_rfl) hl)).trans (dep_of (Fact := F_df xb xo sz c i j s0 a1 n1 c1 a2 n2 c2 a3 n3 c3 a4 n4 c4 a5 n5 c5 a6 n6 c6 t0 b1 m1 d1 b2 m2 d2 b3 m3 d3 b4 m4 d4 b5 m5 d5 b6 m6 d6 M zi zj tz) hd 9 (by kernel_rfl))
                          exact wpList_off rfl (t := 76) (d := false) (by kernel_rfl) eg (by decide) ⟨_, rfl, Below.refl _ _, trivial⟩
                        · intro vs w' F hb hd hF hl hT
                          have eg := ((hF 76).trans (look_at _ 76 9 _ _ (by kernel_rfl) (by kernel_rfl) hl)).trans (dep_of (Fact := F_df xb xo sz c i j s0 a1 n1 c1 a2 n2 c2 a3 n3 c3 a4 n4 c4 a5 n5 c5 a6 n6 c6 t0 b1 m1 d1 b2 m2 d2 b3 m3 d3 b4 m4 d4 b5 m5 d5 b6 m6 d6 M zi zj tz) hd 9 (by kernel_rfl))
                          exact wpList_off rfl (t := 76) (d := false) (by kernel_rfl) eg (by decide) ⟨_, rfl, Below.refl _ _, trivial⟩
                        · intro vs w' F hb hd hF hl hT
                          have eg := ((hF 76).trans (look_at _ 76 9 _ _ (by kernel_rfl) (by kernel_rfl) hl)).trans (dep_of (Fact := F_df xb xo sz c i j s0 a1 n1 c1 a2 n2 c2 a3 n3 c3 a4 n4 c4 a5 n5 c5 a6 n6 c6 t0 b1 m1 d1 b2 m2 d2 b3 m3 d3 b4 m4 d4 b5 m5 d5 b6 m6 d6 M zi zj tz) hd 9 (by kernel_rfl))
                          exact wpList_off rfl (t := 76) (d := false) (by kernel_rfl) eg (by decide) ⟨_, rfl, Below.refl _ _, trivial⟩
                        · intro vs w' F hb hd hF hl hT
                          have eg := ((hF 76).trans (look_at _ 76 9 _ _ (by kernel_rfl) (by kernel_rfl) hl)).trans (dep_of (Fact := F_df xb xo sz c i j s0 a1 n1 c1 a2 n2 c2 a3 n3 c3 a4 n4 c4 a5 n5 c5 a6 n6 c6 t0 b1 m1 d1 b2 m2 d2 b3 m3 d3 b4 m4 d4 b5 m5 d5 b6 m6 d6 M zi zj tz) hd 9 (by kernel_rfl))
                          exact wpList_off rfl (t := 76) (d := false) (by kernel_rfl) eg (by decide) ⟨_, rfl, Below.refl _ _, trivial⟩
                        · intro vs w' F hb hd hF hl hT
                          have ec := ((hF 76).trans (look_at _ 76 9 _ _ (by kernel_rfl) (by kernel_rfl) hl)).trans (dep_of (Fact := F_df xb xo sz c i j s0 a1 n1 c1 a2 n2 c2 a3 n3 c3 a4 n4 c4 a5 n5 c5 a6 n6 c6 t0 b1 m1 d1 b2 m2 d2 b3 m3 d3 b4 m4 d4 b5 m5 d5 b6 m6 d6 M zi zj tz) hd 9 (by kernel_rfl))
                          exact one_pick_f _ _ _ rfl rfl _ ec rfl ⟨_, rfl, Below.refl _ _, rfl⟩
                      · intro vs W1 hl hb hI
                        have hv : vs.getD 15 undef = .bool false := hI 15 (by omega)
                        obtain ⟨x0, x1, x2, x3, x4, x5, x6, x7, x8, x9, x10, x11, x12, x13, x14, x15, hvs⟩ := list16 hl
                        subst hvs
                        replace hv : x15 = .bool false := hv
                        subst hv
                        have hown3 := HOWN.out.below hb
                        have hb3 : Below M w W1 := HB.out.trans (hb.mono (Nat.le_of_lt lM))
                        have HOWN3 := Lib.hid hown3
                        clear hI hl hb HOWN HB hown3 CC C7i C7j HYI HYJ HLK HTZ
                        simp only [fillAll, Act.put, List.setIfInBounds_toArray, List.set_cons_succ, List.set_cons_zero]
                        show wpList _ _ _ [] _ _
                        go_wp2
                        go_roundg (i - (j + 1))
                        case measure => rw [K2.out]; omega
                        case rel => exact ⟨j + 1, hj, rfl, by go_num, fun q hq hc => by
                          by_cases e : q = j
                          · rw [e, ← HCF.out] at hc; cases hc
                          · exact HOJ.out q (by omega) hc, HOWN3.out, hb3⟩
                    | true =>
                      go_wp2_with fail
                      refine wp_region_facts_t rfl 16 (by kernel_rfl) (F_dt xb xo sz c i j s0 a1 n1 c1 a2 n2 c2 a3 n3 c3 a4 n4 c4 a5 n5 c5 a6 n6 c6 t0 b1 m1 d1 b2 m2 d2 b3 m3 d3 b4 m4 d4 b5 m5 d5 b6 m6 d6 M zi zj tz) (F_dt_mono xb xo sz c i j s0 a1 n1 c1 a2 n2 c2 a3 n3 c3 a4 n4 c4 a5 n5 c5 a6 n6 c6 t0 b1 m1 d1 b2 m2 d2 b3 m3 d3 b4 m4 d4 b5 m5 d5 b6 m6 d6 M zi zj tz) ?_ ?_
                      · refine ⟨?_, ?_, ?_, ?_, ?_, ?_, ?_, ?_, ?_, ?_, ?_, ?_, ?_, ?_, ?_, ?_, trivial⟩
                        · intro vs w' F hb hd hF hl hT
                          have e := (hF 0).trans (look_out _ 0 _ _ (by kernel_rfl))
                          exact one_move _ rfl (by first | exact Or.inl rfl | exact Or.inr rfl) ⟨_, rfl, Below.refl _ _, e⟩
                        · intro vs w' F hb hd hF hl hT
                          have e := (hF 11).trans (look_out _ 11 _ _ (by kernel_rfl))
                          exact one_move _ rfl (by first | exact Or.inl rfl | exact Or.inr rfl) ⟨_, rfl, Below.refl _ _, e⟩
                        · intro vs w' F hb hd hF hl hT
                          have ex := (((hF 67).trans (look_at _ 67 0 _ _ (by kernel_rfl) (by kernel_rfl) hl)).trans (dep_of (Fact := F_dt xb xo sz c i j s0 a1 n1 c1 a2 n2 c2 a3 n3 c3 a4 n4 c4 a5 n5 c5 a6 n6 c6 t0 b1 m1 d1 b2 m2 d2 b3 m3 d3 b4 m4 d4 b5 m5 d5 b6 m6 d6 M zi zj tz) hd 0 (by kernel_rfl)))
                          have ey := (((hF 68).trans (look_at _ 68 1 _ _ (by kernel_rfl) (by kernel_rfl) hl)).trans (dep_of (Fact := F_dt xb xo sz c i j s0 a1 n1 c1 a2 n2 c2 a3 n3 c3 a4 n4 c4 a5 n5 c5 a6 n6 c6 t0 b1 m1 d1 b2 m2 d2 b3 m3 d3 b4 m4 d4 b5 m5 d5 b6 m6 d6 M zi zj tz) hd 1 (by kernel_rfl)))
                          exact one_index 22 _ _ rfl rfl (.slice (some ⟨xb, xo, none⟩) sz c) (.int .i64 i) (.pointer (some ⟨xb, xo + i * 7, none⟩)) ex ey (fun w => idx_sys xb xo sz c i (by omega) w) ⟨_, rfl, Below.refl _ _, rfl⟩
                        · intro vs w' F hb hd hF hl hT
                          have e := (((hF 69).trans (look_at _ 69 2 _ _ (by kernel_rfl) (by kernel_rfl) hl)).trans (dep_of (Fact := F_dt xb xo sz c i j s0 a1 n1 c1 a2 n2 c2 a3 n3 c3 a4 n4 c4 a5 n5 c5 a6 n6 c6 t0 b1 m1 d1 b2 m2 d2 b3 m3 d3 b4 m4 d4 b5 m5 d5 b6 m6 d6 M zi zj tz) hd 2 (by kernel_rfl)))
                          exact one_load7 30 _ rfl rfl xb (xo + i * 7) _ _ _ _ _ _ _ e (C7i.out.below hb) _ Try.underlying30 rfl (by kernel_rfl) ⟨_, rfl, Below.refl _ _, rfl⟩
                        · intro vs w' F hb hd hF hl hT
                          have e := (hF 0).trans (look_out _ 0 _ _ (by kernel_rfl))
                          exact one_move _ rfl (by first | exact Or.inl rfl | exact Or.inr rfl) ⟨_, rfl, Below.refl _ _, e⟩
                        · intro vs w' F hb hd hF hl hT
                          have e := (hF 14).trans (look_out _ 14 _ _ (by kernel_rfl))
                          exact one_move _ rfl (by first | exact Or.inl rfl | exact Or.inr rfl) ⟨_, rfl, Below.refl _ _, e⟩
                        · intro vs w' F hb hd hF hl hT
                          have ex := (((hF 71).trans (look_at _ 71 4 _ _ (by kernel_rfl) (by kernel_rfl) hl)).trans (dep_of (Fact := F_dt xb xo sz c i j s0 a1 n1 c1 a2 n2 c2 a3 n3 c3 a4 n4 c4 a5 n5 c5 a6 n6 c6 t0 b1 m1 d1 b2 m2 d2 b3 m3 d3 b4 m4 d4 b5 m5 d5 b6 m6 d6 M zi zj tz) hd 4 (by kernel_rfl)))
                          have ey := (((hF 72).trans (look_at _ 72 5 _ _ (by kernel_rfl) (by kernel_rfl) hl)).trans (dep_of (Fact := F_dt xb xo sz c i j s0 a1 n1 c1 a2 n2 c2 a3 n3 c3 a4 n4 c4 a5 n5 c5 a6 n6 c6 t0 b1 m1 d1 b2 m2 d2 b3 m3 d3 b4 m4 d4 b5 m5 d5 b6 m6 d6 M zi zj tz) hd 5 (by kernel_rfl)))
                          exact one_index 22 _ _ rfl rfl (.slice (some ⟨xb, xo, none⟩) sz c) (.int .i64 j) (.pointer (some ⟨xb, xo + j * 7, none⟩)) ex ey (fun w => idx_sys xb xo sz c j (by omega) w) ⟨_, rfl, Below.refl _ _, rfl⟩
                        · intro vs w' F hb hd hF hl hT
                          have e := (((hF 73).trans (look_at _ 73 6 _ _ (by kernel_rfl) (by kernel_rfl) hl)).trans (dep_of (Fact := F_dt xb xo sz c i j s0 a1 n1 c1 a2 n2 c2 a3 n3 c3 a4 n4 c4 a5 n5 c5 a6 n6 c6 t0 b1 m1 d1 b2 m2 d2 b3 m3 d3 b4 m4 d4 b5 m5 d5 b6 m6 d6 M zi zj tz) hd 6 (by kernel_rfl)))
                          exact one_load7 30 _ rfl rfl xb (xo + j * 7) _ _ _ _ _ _ _ e (C7j.out.below hb) _ Try.underlying30 rfl (by kernel_rfl) ⟨_, rfl, Below.refl _ _, rfl⟩
                        · intro vs w' F hb hd hF hl hT
                          refine one_call _ _ rfl rfl (enters_of Try.func12 (by kernel_rfl) rfl) #[.agg #[.string s0, .slice a1 n1 c1, .slice a2 n2 c2, .slice a3 n3 c3, .slice a4 n4 c4, .slice a5 n5 c5, .slice a6 n6 c6], .agg #[.string t0, .slice b1 m1 d1, .slice b2 m2 d2, .slice b3 m3 d3, .slice b4 m4 d4, .slice b5 m5 d5, .slice b6 m6 d6]] (eval2 (((hF 70).trans (look_at _ 70 3 _ _ (by kernel_rfl) (by kernel_rfl) hl)).trans (dep_of (Fact := F_dt xb xo sz c i j s0 a1 n1 c1 a2 n2 c2 a3 n3 c3 a4 n4 c4 a5 n5 c5 a6 n6 c6 t0 b1 m1 d1 b2 m2 d2 b3 m3 d3 b4 m4 d4 b5 m5 d5 b6 m6 d6 M zi zj tz) hd 3 (by kernel_rfl))) (((hF 74).trans (look_at _ 74 7 _ _ (by kernel_rfl) (by kernel_rfl) hl)).trans (dep_of (Fact := F_dt xb xo sz c i j s0 a1 n1 c1 a2 n2 c2 a3 n3 c3 a4 n4 c4 a5 n5 c5 a6 n6 c6 t0 b1 m1 d1 b2 m2 d2 b3 m3 d3 b4 m4 d4 b5 m5 d5 b6 m6 d6 M zi zj tz) hd 7 (by kernel_rfl)))) ?_
                          refine (CC.out w' (HYI.out.below hb) (HYJ.out.below hb)).mono ?_
                          rintro e2 w2 ⟨rfl, hb2⟩
                          exact ⟨_, rfl, _, rfl, hb2, rfl⟩
                        · intro vs w' F hb hd hF hl hT
                          have e := ((hF 75).trans (look_at _ 75 8 _ _ (by kernel_rfl) (by kernel_rfl) hl)).trans (dep_of (Fact := F_dt xb xo sz c i j s0 a1 n1 c1 a2 n2 c2 a3 n3 c3 a4 n4 c4 a5 n5 c5 a6 n6 c6 t0 b1 m1 d1 b2 m2 d2 b3 m3 d3 b4 m4 d4 b5 m5 d5 b6 m6 d6 M zi zj tz) hd 8 (by kernel_rfl))
                          exact one_move _ rfl (by first | exact Or.inl rfl | exact Or.inr rfl) ⟨_, rfl, Below.refl _ _, e⟩
                        · intro vs w' F hb hd hF hl hT
                          have eg := ((hF 76).trans (look_at _ 76 9 _ _ (by kernel_rfl) (by kernel_rfl) hl)).trans (dep_of (Fact := F_dt xb xo sz c i j s0 a1 n1 c1 a2 n2 c2 a3 n3 c3 a4 n4 c4 a5 n5 c5 a6 n6 c6 t0 b1 m1 d1 b2 m2 d2 b3 m3 d3 b4 m4 d4 b5 m5 d5 b6 m6 d6 M zi zj tz) hd 9 (by kernel_rfl))
                          refine wpList_on rfl (t := 76) (by kernel_rfl) eg ?_
                          have e := (hF 5).trans (look_out _ 5 _ _ (by kernel_rfl))
                          exact one_move _ rfl (by first | exact Or.inl rfl | exact Or.inr rfl) ⟨_, rfl, Below.refl _ _, e⟩
                        · intro vs w' F hb hd hF hl hT
                          have eg := ((hF 76).trans (look_at _ 76 9 _ _ (by kernel_rfl) (by kernel_rfl) hl)).trans (dep_of (Fact := F_dt xb xo sz c i j s0 a1 n1 c1 a2 n2 c2 a3 n3 c3 a4 n4 c4 a5 n5 c5 a6 n6 c6 t0 b1 m1 d1 b2 m2 d2 b3 m3 d3 b4 m4 d4 b5 m5 d5 b6 m6 d6 M zi zj tz) hd 9 (by kernel_rfl))
                          refine wpList_on rfl (t := 76) (by kernel_rfl) eg ?_
                          have e := (hF 14).trans (look_out _ 14 _ _ (by kernel_rfl))
                          exact one_move _ rfl (by first | exact Or.inl rfl | exact Or.inr rfl) ⟨_, rfl, Below.refl _ _, e⟩
                        · intro vs w' F hb hd hF hl hT
                          have eg := ((hF 76).trans (look_at _ 76 9 _ _ (by kernel_rfl) (by kernel_rfl) hl)).trans (dep_of (Fact := F_dt xb xo sz c i j s0 a1 n1 c1 a2 n2 c2 a3 n3 c3 a4 n4 c4 a5 n5 c5 a6 n6 c6 t0 b1 m1 d1 b2 m2 d2 b3 m3 d3 b4 m4 d4 b5 m5 d5 b6 m6 d6 M zi zj tz) hd 9 (by kernel_rfl))
                          refine wpList_on rfl (t := 76) (by kernel_rfl) eg ?_
                          have em := (((hF 77).trans (look_at _ 77 10 _ _ (by kernel_rfl) (by kernel_rfl) hl)).trans (dep_of (Fact := F_dt xb xo sz c i j s0 a1 n1 c1 a2 n2 c2 a3 n3 c3 a4 n4 c4 a5 n5 c5 a6 n6 c6 t0 b1 m1 d1 b2 m2 d2 b3 m3 d3 b4 m4 d4 b5 m5 d5 b6 m6 d6 M zi zj tz) hd 10 (by kernel_rfl)))
                          have ek := (((hF 78).trans (look_at _ 78 11 _ _ (by kernel_rfl) (by kernel_rfl) hl)).trans (dep_of (Fact := F_dt xb xo sz c i j s0 a1 n1 c1 a2 n2 c2 a3 n3 c3 a4 n4 c4 a5 n5 c5 a6 n6 c6 t0 b1 m1 d1 b2 m2 d2 b3 m3 d3 b4 m4 d4 b5 m5 d5 b6 m6 d6 M zi zj tz) hd 11 (by kernel_rfl)))
                          exact one_lookup 49 _ _ rfl rfl _ _ _ em ek (HLK.out w' hb) ⟨_, rfl, Below.refl _ _, rfl⟩
                        · intro vs w' F hb hd hF hl hT
                          have eg := ((hF 76).trans (look_at _ 76 9 _ _ (by kernel_rfl) (by kernel_rfl) hl)).trans (dep_of (Fact := F_dt xb xo sz c i j s0 a1 n1 c1 a2 n2 c2 a3 n3 c3 a4 n4 c4 a5 n5 c5 a6 n6 c6 t0 b1 m1 d1 b2 m2 d2 b3 m3 d3 b4 m4 d4 b5 m5 d5 b6 m6 d6 M zi zj tz) hd 9 (by kernel_rfl))
                          refine wpList_on rfl (t := 76) (by kernel_rfl) eg ?_
                          have e := (hF 12).trans (look_out _ 12 _ _ (by kernel_rfl))
                          exact one_move _ rfl (by first | exact Or.inl rfl | exact Or.inr rfl) ⟨_, rfl, Below.refl _ _, e⟩
                        · intro vs w' F hb hd hF hl hT
                          have eg := ((hF 76).trans (look_at _ 76 9 _ _ (by kernel_rfl) (by kernel_rfl) hl)).trans (dep_of (Fact := F_dt xb xo sz c i j s0 a1 n1 c1 a2 n2 c2 a3 n3 c3 a4 n4 c4 a5 n5 c5 a6 n6 c6 t0 b1 m1 d1 b2 m2 d2 b3 m3 d3 b4 m4 d4 b5 m5 d5 b6 m6 d6 M zi zj tz) hd 9 (by kernel_rfl))
                          refine wpList_on rfl (t := 76) (by kernel_rfl) eg ?_
                          have e1 := (((hF 79).trans (look_at _ 79 12 _ _ (by kernel_rfl) (by kernel_rfl) hl)).trans (dep_of (Fact := F_dt xb xo sz c i j s0 a1 n1 c1 a2 n2 c2 a3 n3 c3 a4 n4 c4 a5 n5 c5 a6 n6 c6 t0 b1 m1 d1 b2 m2 d2 b3 m3 d3 b4 m4 d4 b5 m5 d5 b6 m6 d6 M zi zj tz) hd 12 (by kernel_rfl)))
                          have e2 := (((hF 80).trans (look_at _ 80 13 _ _ (by kernel_rfl) (by kernel_rfl) hl)).trans (dep_of (Fact := F_dt xb xo sz c i j s0 a1 n1 c1 a2 n2 c2 a3 n3 c3 a4 n4 c4 a5 n5 c5 a6 n6 c6 t0 b1 m1 d1 b2 m2 d2 b3 m3 d3 b4 m4 d4 b5 m5 d5 b6 m6 d6 M zi zj tz) hd 13 (by kernel_rfl)))
                          exact one_int_ge _ _ _ _ rfl rfl _ _ _ tz e1 e2 HTZ.out ⟨_, rfl, Below.refl _ _, rfl⟩
                        · intro vs w' F hb hd hF hl hT
                          have ec := ((hF 76).trans (look_at _ 76 9 _ _ (by kernel_rfl) (by kernel_rfl) hl)).trans (dep_of (Fact := F_dt xb xo sz c i j s0 a1 n1 c1 a2 n2 c2 a3 n3 c3 a4 n4 c4 a5 n5 c5 a6 n6 c6 t0 b1 m1 d1 b2 m2 d2 b3 m3 d3 b4 m4 d4 b5 m5 d5 b6 m6 d6 M zi zj tz) hd 9 (by kernel_rfl))
                          have e := ((hF 81).trans (look_at _ 81 14 _ _ (by kernel_rfl) (by kernel_rfl) hl)).trans (dep_of (Fact := F_dt xb xo sz c i j s0 a1 n1 c1 a2 n2 c2 a3 n3 c3 a4 n4 c4 a5 n5 c5 a6 n6 c6 t0 b1 m1 d1 b2 m2 d2 b3 m3 d3 b4 m4 d4 b5 m5 d5 b6 m6 d6 M zi zj tz) hd 14 (by kernel_rfl))
                          exact one_pick_t _ _ _ rfl rfl _ ec e ⟨_, rfl, Below.refl _ _, rfl⟩
                      · intro vs W1 hl hb hI
                        have hv : vs.getD 15 undef = .bool tz := hI 15 (by omega)
                        obtain ⟨x0, x1, x2, x3, x4, x5, x6, x7, x8, x9, x10, x11, x12, x13, x14, x15, hvs⟩ := list16 hl
                        subst hvs
                        replace hv : x15 = .bool tz := hv
                        subst hv
                        have hown3 := HOWN.out.below hb
                        have hb3 : Below M w W1 := HB.out.trans (hb.mono (Nat.le_of_lt lM))
                        have HOWN3 := Lib.hid hown3
                        clear hI hl hb HOWN HB hown3 CC C7i C7j HYI HYJ HLK
                        simp only [fillAll, Act.put, List.setIfInBounds_toArray, List.set_cons_succ, List.set_cons_zero]
                        show wpList _ _ _ [] _ _
                        cases tz with
                        | true =>
                          have HNO := Lib.hid (show ¬ DivS l sz ls by
                            intro hd
                            have h1 := ((HR2.out.1 hd).2.2 i hi).2 j hj HCF.out.symm
                            have h2 := of_decide_eq_true HTZ.out
                            rw [← HZI.out, ← HZJ.out] at h1
                            omega)
                          go_wp2
                          go_ret
                          exact ⟨⟨false, rfl, ⟨fun h => (by cases h), fun h => absurd h HNO.out⟩⟩, by rw [← HG.out]; exact hb3⟩
                        | false =>
                          have HLT := Lib.hid (of_decide_eq_false HTZ.out)
                          go_wp2
                          go_roundg (i - (j + 1))
                          case measure => rw [K2.out]; omega
                          case rel => exact ⟨j + 1, hj, rfl, by go_num, fun q hq hc => by
                            by_cases e : q = j
                            · rw [e, ← HZJ.out]; have := HLT.out; omega
                            · exact HOJ.out q (by omega) hc, HOWN3.out, hb3⟩
                  · obtain rfl : j = i := by omega
                    have HOWN := Lib.hid hown
                    clear hown hb
                    go_wp2_with fail
                    go_roundg (sz - (j + 1))
                    case measure => rw [F2.out]; omega
                    case rel => exact ⟨j + 1, hi, rfl, by go_num, fun p hp => by
                      by_cases e : p = j
                      · rw [e]; exact ⟨HIN.out, fun q hq hc => by rw [← HZI.out]; exact HOJ.out q hq hc⟩
                      · exact HOK.out p (by omega), HOWN.out, HB.out⟩
              · rw [decide_eq_false hin] at hhas
                have HNO := Lib.hid (show ¬ DivS l sz ls from fun h => hin ((HR2.out.1 h).2.2 i hi).1)
                clear hatk
                go_wp2_with (at_lookup; refine wpList_lookup_own_ok_int _ rfl _ _ 49 rfl 3 3 .i64 law3 Try.underlying49 Try.underlying3 (zero3 _) M sz D rfl hown (.int .i64 i) (.int .i64 i) rfl hkey ?_; intro cv hat hwc; rw [hhas])
                go_ret
                exact ⟨⟨false, rfl, ⟨fun h => (by cases h), fun h => absurd h HNO.out⟩⟩, by rw [← HG.out]; exact HB.out⟩
            · obtain rfl : i = sz := by omega
              have HYES := Lib.hid (show DivS l i ls from HR2.out.2 ⟨by trivial, by trivial, HOK.out⟩)
              go_wp2
              go_ret
              exact ⟨⟨true, rfl, ⟨fun _ => HYES.out, fun _ => rfl⟩⟩, by rw [← HG.out]; exact HB.out⟩
        · have HNO := Lib.hid (show ¬ DivS l en ls from fun h => hsm (HR2.out.1 h).2.1)
          have t2 : ((sz : Int) != (en : Int)) = true := by rw [bne_iff_ne]; omega
          have t3 : ((sz : Int) == (en : Int)) = false := by rw [beq_eq_false_iff_ne]; omega
          have hlen := World.ownsMap.len hown Try.underlying49 3
          rw [← HSZ.out] at hlen
          go_wp2_with fail
          go_ret
          exact ⟨⟨false, rfl, ⟨fun h => (by cases h), fun h => absurd h HNO.out⟩⟩, by rw [← HG.out]; exact HB.out⟩
      · have HNO := Lib.hid (show ¬ DivS l n ls from fun h => hnm (HR2.out.1 h).1)
        have t2 : ((en : Int) != (n : Int)) = true := by rw [bne_iff_ne]; omega
        have t3 : ((en : Int) == (n : Int)) = false := by rw [beq_eq_false_iff_ne]; omega
        go_wp2
        go_ret
        exact ⟨⟨false, rfl, ⟨fun h => (by cases h), fun h => absurd h HNO.out⟩⟩, by rw [← HG.out]; exact HB.out⟩
end Go.Proofs.Ytembjokbhbdoeaa
