/- plan.Chain. -/
import Derived.Test.YtembjokbhbdoeaaPlanChP
import Derived.Test.YtembjokbhbdoeaaPlanRe
import Derived.Deep.RegionHeld3
import Derived.Deep.DeepMust
import Derived.OwnWalk
import Derived.Lib.MinMax
namespace Go.Proofs.Ytembjokbhbdoeaa
open Go.ChangeShapes Go.WideShapes Go.ChangeAt Go.RowKit Go.Mem
set_option linter.unusedVariables false
theorem plan_Chain_large (a : Option Addr) (c m : Nat) (h : 24 < m) (w : World) : Calls Try.prog 10 #[.slice a m c] w fun e w' => e = .returned (.tuple #[.slice none 0 0, .int .i64 2]) ∧ Below w.heap.size w w' := by
  go_enter Try.func10, Try.ntmps10
  go_wp2
  go_ret2
  exact ⟨rfl, Below.refl _ _⟩
section
variable {P : Program} {ops : Array Oper} {o : Oper} {F : Act} {w : World} {Q : Exit → Act → World → Prop}
theorem wpList_offu {g : Nat} {t : Tmp} {c : Bool} (hg : o.guard = some (g, c)) (ht : (ops[g]?).bind (·.dst) = some t) (he : F.eval (.tmp t) = undef)
    (h : Q .normal (F.put o.dst undef) w) : wpList P ops Q [o] F w := by
  have hy : yielded ops F.tmps g = none := by
    unfold yielded
    rw [ht]
    have he' : F.tmps.getD t undef = undef := he
    rw [Array.getD_eq_getD_getElem?] at he'
    cases h : F.tmps[t]? with
    | none => simp [h]
    | some v => rw [h] at he'; have : v = undef := he'; subst this; simp [h, undef]
  unfold wpList
  rw [if_neg (by simp [Region.wanted, hg, hy])]
  exact h
theorem one_len (x : Operand) (t e : TypeId) (hgd : o.guard = none) (ho : o.op = .call { callee := .builtin .len, args := #[x], argTypes := #[t] }) (hu : P.underlying t = some (.slice e)) (a : Option Addr) (n c : Nat) (hx : F.eval x = .slice a n c)
    (h : Q .normal (F.put o.dst (.int .i64 n)) w) : wpList P ops Q [o] F w := by
  refine wpList_plain hgd fun K hK => ?_
  unfold Oper.wp execOp
  simp [ho, hx, resolve, invoke, builtin, Builtin.len_, run_underlying hu, Oper.upon]
  exact hK _ _ h
theorem one_int_lt (ty : TypeId) (x y : Operand) (yt : TypeId) (hgd : o.guard = none) (ho : o.op = .binOp .lss ty x y yt) (k : IntKind) (a b : Int) (c : Bool) (hx : F.eval x = .int k a) (hy : F.eval y = .int k b) (hc : decide (a < b) = c)
    (h : Q .normal (F.put o.dst (.bool c)) w) : wpList P ops Q [o] F w := by
  subst hc
  exact one_binop .lss ty x y yt hgd ho _ _ hx hy _ (by simp [eqGuard]) (by simp [binOp, Op.intCmp]) h
theorem one_int_sub (ty : TypeId) (x y : Operand) (yt : TypeId) (hgd : o.guard = none) (ho : o.op = .binOp .sub ty x y yt) (a b c : Int) (hx : F.eval x = .int .i64 a) (hy : F.eval y = .int .i64 b) (hc : IntKind.i64.wrap (a - b) = c)
    (h : Q .normal (F.put o.dst (.int .i64 c)) w) : wpList P ops Q [o] F w := by
  subst hc
  exact one_binop .sub ty x y yt hgd ho _ _ hx hy _ (by simp [eqGuard]) (by go_simp) h
end
theorem idx_int (g n c j : Nat) (hj : j < n) (w : World) : (Instr.indexAt 26 (.slice (some ⟨g, 0, none⟩) n c) (.int .i64 j)).run Try.prog w = .ok (.pointer (some ⟨g, j, none⟩)) w := by
  have i1 : (0 : Int) ≤ (j : Int) := by omega
  have i2 : (j : Int) < (n : Int) := by omega
  go_simp
theorem list36 {α : Type} {vs : List α} (h : vs.length = 36) : ∃ x0 x1 x2 x3 x4 x5 x6 x7 x8 x9 x10 x11 x12 x13 x14 x15 x16 x17 x18 x19 x20 x21 x22 x23 x24 x25 x26 x27 x28 x29 x30 x31 x32 x33 x34 x35, vs = [x0, x1, x2, x3, x4, x5, x6, x7, x8, x9, x10, x11, x12, x13, x14, x15, x16, x17, x18, x19, x20, x21, x22, x23, x24, x25, x26, x27, x28, x29, x30, x31, x32, x33, x34, x35] := by
  obtain ⟨x0, t0, rfl, h0⟩ := cons_of h
  obtain ⟨x1, t1, rfl, h1⟩ := cons_of h0
  obtain ⟨x2, t2, rfl, h2⟩ := cons_of h1
  obtain ⟨x3, t3, rfl, h3⟩ := cons_of h2
  obtain ⟨x4, t4, rfl, h4⟩ := cons_of h3
  obtain ⟨x5, t5, rfl, h5⟩ := cons_of h4
  obtain ⟨x6, t6, rfl, h6⟩ := cons_of h5
  obtain ⟨x7, t7, rfl, h7⟩ := cons_of h6
  obtain ⟨x8, t8, rfl, h8⟩ := cons_of h7
  obtain ⟨x9, t9, rfl, h9⟩ := cons_of h8
  obtain ⟨x10, t10, rfl, h10⟩ := cons_of h9
  obtain ⟨x11, t11, rfl, h11⟩ := cons_of h10
  obtain ⟨x12, t12, rfl, h12⟩ := cons_of h11
  obtain ⟨x13, t13, rfl, h13⟩ := cons_of h12
  obtain ⟨x14, t14, rfl, h14⟩ := cons_of h13
  obtain ⟨x15, t15, rfl, h15⟩ := cons_of h14
  obtain ⟨x16, t16, rfl, h16⟩ := cons_of h15
  obtain ⟨x17, t17, rfl, h17⟩ := cons_of h16
  obtain ⟨x18, t18, rfl, h18⟩ := cons_of h17
  obtain ⟨x19, t19, rfl, h19⟩ := cons_of h18
  obtain ⟨x20, t20, rfl, h20⟩ := cons_of h19
  obtain ⟨x21, t21, rfl, h21⟩ := cons_of h20
  obtain ⟨x22, t22, rfl, h22⟩ := cons_of h21
  obtain ⟨x23, t23, rfl, h23⟩ := cons_of h22
  obtain ⟨x24, t24, rfl, h24⟩ := cons_of h23
  obtain ⟨x25, t25, rfl, h25⟩ := cons_of h24
  obtain ⟨x26, t26, rfl, h26⟩ := cons_of h25
  obtain ⟨x27, t27, rfl, h27⟩ := cons_of h26
  obtain ⟨x28, t28, rfl, h28⟩ := cons_of h27
  obtain ⟨x29, t29, rfl, h29⟩ := cons_of h28
  obtain ⟨x30, t30, rfl, h30⟩ := cons_of h29
  obtain ⟨x31, t31, rfl, h31⟩ := cons_of h30
  obtain ⟨x32, t32, rfl, h32⟩ := cons_of h31
  obtain ⟨x33, t33, rfl, h33⟩ := cons_of h32
  obtain ⟨x34, t34, rfl, h34⟩ := cons_of h33
  obtain ⟨x35, t35, rfl, h35⟩ := cons_of h34
  exact ⟨x0, x1, x2, x3, x4, x5, x6, x7, x8, x9, x10, x11, x12, x13, x14, x15, x16, x17, x18, x19, x20, x21, x22, x23, x24, x25, x26, x27, x28, x29, x30, x31, x32, x33, x34, x35, by rw [List.eq_nil_of_length_eq_zero h35]⟩
def F_ca (a : Option Addr) (c : Nat) (av : Option Addr) (lo cv b G k i Ri : Nat) (dl : Int) (jq : Nat) (v : Value) (w : World) : Prop :=
  match jq with
  | 0 => v = .slice av lo cv
  | 1 => v = .int .i64 lo
  | 2 => v = .int .i64 b
  | 3 => v = .bool false
  | 4 => v = .bool false
  | 5 => v = undef
  | 6 => v = undef
  | 7 => v = undef
  | 8 => v = undef
  | 9 => v = undef
  | 10 => v = undef
  | 11 => v = undef
  | 12 => v = undef
  | 13 => v = undef
  | 14 => v = .bool false
  | 15 => v = .bool false
  | 16 => v = undef
  | 17 => v = undef
  | 18 => v = undef
  | 19 => v = undef
  | 20 => v = undef
  | 21 => v = undef
  | 22 => v = undef
  | 23 => v = undef
  | 24 => v = undef
  | 25 => v = undef
  | 26 => v = undef
  | 27 => v = undef
  | 28 => v = undef
  | 29 => v = undef
  | 30 => v = undef
  | 31 => v = undef
  | 32 => v = undef
  | 33 => v = undef
  | 34 => v = undef
  | 35 => v = .bool false
  | _ => True
theorem F_ca_mono (a : Option Addr) (c : Nat) (av : Option Addr) (lo cv b G k i Ri : Nat) (dl : Int) : Facts (F_ca a c av lo cv b G k i Ri dl) := ⟨by
  intro jq v w w' h hb
  unfold F_ca at h ⊢
  split at h
  all_goals first
    | exact h
    | trivial⟩
def F_cb (a : Option Addr) (c : Nat) (av : Option Addr) (lo cv b G k i Ri : Nat) (dl : Int) (jq : Nat) (v : Value) (w : World) : Prop :=
  match jq with
  | 0 => v = .slice av lo cv
  | 1 => v = .int .i64 lo
  | 2 => v = .int .i64 b
  | 3 => v = .bool true
  | 4 => v = .bool true
  | 5 => v = .slice (some ⟨G, 0, none⟩) k k
  | 6 => v = .int .i64 i
  | 7 => v = .pointer (some ⟨G, i, none⟩)
  | 8 => v = .int .i64 Ri
  | 9 => v = .int .i64 b
  | 10 => v = .slice av lo cv
  | 11 => v = .int .i64 lo
  | 12 => v = .int .i64 dl
  | 13 => v = .bool false
  | 14 => v = .bool false
  | 15 => v = .bool false
  | 16 => v = undef
  | 17 => v = undef
  | 18 => v = undef
  | 19 => v = undef
  | 20 => v = undef
  | 21 => v = undef
  | 22 => v = undef
  | 23 => v = undef
  | 24 => v = undef
  | 25 => v = undef
  | 26 => v = undef
  | 27 => v = undef
  | 28 => v = undef
  | 29 => v = undef
  | 30 => v = undef
  | 31 => v = undef
  | 32 => v = undef
  | 33 => v = undef
  | 34 => v = undef
  | 35 => v = .bool false
  | _ => True
theorem F_cb_mono (a : Option Addr) (c : Nat) (av : Option Addr) (lo cv b G k i Ri : Nat) (dl : Int) : Facts (F_cb a c av lo cv b G k i Ri dl) := ⟨by
  intro jq v w w' h hb
  unfold F_cb at h ⊢
  split at h
  all_goals first
    | exact h
    | trivial⟩
def F_cc (a : Option Addr) (c : Nat) (av : Option Addr) (lo cv b G k i Ri : Nat) (dl : Int) (jq : Nat) (v : Value) (w : World) : Prop :=
  match jq with
  | 0 => v = .slice av lo cv
  | 1 => v = .int .i64 lo
  | 2 => v = .int .i64 b
  | 3 => v = .bool true
  | 4 => v = .bool true
  | 5 => v = .slice (some ⟨G, 0, none⟩) k k
  | 6 => v = .int .i64 i
  | 7 => v = .pointer (some ⟨G, i, none⟩)
  | 8 => v = .int .i64 Ri
  | 9 => v = .int .i64 b
  | 10 => v = .slice av lo cv
  | 11 => v = .int .i64 lo
  | 12 => v = .int .i64 dl
  | 13 => v = .bool true
  | 14 => v = .bool true
  | 15 => v = .bool true
  | 16 => v = .slice av lo cv
  | 17 => v = .int .i64 lo
  | 18 => v = .bool true
  | 19 => v = .bool true
  | 20 => v = undef
  | 21 => v = undef
  | 22 => v = undef
  | 23 => v = undef
  | 24 => v = undef
  | 25 => v = undef
  | 26 => v = undef
  | 27 => v = undef
  | 28 => v = undef
  | 29 => v = undef
  | 30 => v = undef
  | 31 => v = undef
  | 32 => v = undef
  | 33 => v = undef
  | 34 => v = .bool true
  | 35 => v = .bool true
  | _ => True
theorem F_cc_mono (a : Option Addr) (c : Nat) (av : Option Addr) (lo cv b G k i Ri : Nat) (dl : Int) : Facts (F_cc a c av lo cv b G k i Ri dl) := ⟨by
  intro jq v w w' h hb
  unfold F_cc at h ⊢
  split at h
  all_goals first
    | exact h
    | trivial⟩
def F_cd (go lo cv b G k i Ri xb xo c j : Nat) (dl l1 : Int) (cf : Bool) (s0 : ByteArray) (a1 : Option Addr) (n1 c1 : Nat) (a2 : Option Addr) (n2 c2 : Nat) (a3 : Option Addr) (n3 c3 : Nat) (a4 : Option Addr) (n4 c4 : Nat) (a5 : Option Addr) (n5 c5 : Nat) (a6 : Option Addr) (n6 c6 : Nat) (t0 : ByteArray) (b1 : Option Addr) (m1 d1 : Nat) (b2 : Option Addr) (m2 d2 : Nat) (b3 : Option Addr) (m3 d3 : Nat) (b4 : Option Addr) (m4 d4 : Nat) (b5 : Option Addr) (m5 d5 : Nat) (b6 : Option Addr) (m6 d6 : Nat) (jq : Nat) (v : Value) (w : World) : Prop :=
  match jq with
  | 0 => v = .slice (some ⟨go, 0, none⟩) lo cv
  | 1 => v = .int .i64 lo
  | 2 => v = .int .i64 b
  | 3 => v = .bool true
  | 4 => v = .bool true
  | 5 => v = .slice (some ⟨G, 0, none⟩) k k
  | 6 => v = .int .i64 i
  | 7 => v = .pointer (some ⟨G, i, none⟩)
  | 8 => v = .int .i64 Ri
  | 9 => v = .int .i64 b
  | 10 => v = .slice (some ⟨go, 0, none⟩) lo cv
  | 11 => v = .int .i64 lo
  | 12 => v = .int .i64 dl
  | 13 => v = .bool true
  | 14 => v = .bool true
  | 15 => v = .bool true
  | 16 => v = .slice (some ⟨go, 0, none⟩) lo cv
  | 17 => v = .int .i64 lo
  | 18 => v = .bool false
  | 19 => v = .bool false
  | 20 => v = .slice (some ⟨xb, xo, none⟩) k c
  | 21 => v = .slice (some ⟨go, 0, none⟩) lo cv
  | 22 => v = .slice (some ⟨go, 0, none⟩) lo cv
  | 23 => v = .int .i64 lo
  | 24 => v = .int .i64 l1
  | 25 => v = .pointer (some ⟨go, lo - 1, none⟩)
  | 26 => v = .int .i64 j
  | 27 => v = .pointer (some ⟨xb, xo + j * 7, none⟩)
  | 28 => v = .agg #[.string t0, .slice b1 m1 d1, .slice b2 m2 d2, .slice b3 m3 d3, .slice b4 m4 d4, .slice b5 m5 d5, .slice b6 m6 d6]
  | 29 => v = .slice (some ⟨xb, xo, none⟩) k c
  | 30 => v = .int .i64 i
  | 31 => v = .pointer (some ⟨xb, xo + i * 7, none⟩)
  | 32 => v = .agg #[.string s0, .slice a1 n1 c1, .slice a2 n2 c2, .slice a3 n3 c3, .slice a4 n4 c4, .slice a5 n5 c5, .slice a6 n6 c6]
  | 33 => v = .bool cf
  | 34 => v = .bool cf
  | 35 => v = .bool cf
  | _ => True
theorem F_cd_mono (go lo cv b G k i Ri xb xo c j : Nat) (dl l1 : Int) (cf : Bool) (s0 : ByteArray) (a1 : Option Addr) (n1 c1 : Nat) (a2 : Option Addr) (n2 c2 : Nat) (a3 : Option Addr) (n3 c3 : Nat) (a4 : Option Addr) (n4 c4 : Nat) (a5 : Option Addr) (n5 c5 : Nat) (a6 : Option Addr) (n6 c6 : Nat) (t0 : ByteArray) (b1 : Option Addr) (m1 d1 : Nat) (b2 : Option Addr) (m2 d2 : Nat) (b3 : Option Addr) (m3 d3 : Nat) (b4 : Option Addr) (m4 d4 : Nat) (b5 : Option Addr) (m5 d5 : Nat) (b6 : Option Addr) (m6 d6 : Nat) : Facts (F_cd go lo cv b G k i Ri xb xo c j dl l1 cf s0 a1 n1 c1 a2 n2 c2 a3 n3 c3 a4 n4 c4 a5 n5 c5 a6 n6 c6 t0 b1 m1 d1 b2 m2 d2 b3 m3 d3 b4 m4 d4 b5 m5 d5 b6 m6 d6) := ⟨by
  intro jq v w w' h hb
  unfold F_cd at h ⊢
  split at h
  all_goals first
    | exact h
    | trivial⟩

theorem best_le : ∀ (R : List Nat) (b : Nat), (∀ q, q < R.length → R.getD q 0 ≤ b) → bestL R ≤ b
  | [], b, _ => Nat.zero_le _
  | a :: r, b, h => by
    have h1 := best_le r b (fun q hq => by have := h (q + 1) (by simp; omega); simpa [List.getD_eq_getElem?_getD] using this)
    have h2 := h 0 (by simp)
    rw [bestL_cons]
    have h3 : (a :: r).getD 0 0 = a := rfl
    omega
set_option maxHeartbeats 8000000 in
set_option maxRecDepth 20000 in
theorem plan_Chain (a : Option Addr) (c m : Nat) (l : List SysV) (hm : l.length = m) (h24 : m ≤ 24) (w : World) (ha : SlAt 7 SysAt w a l) :
    Calls Try.prog 10 #[.slice a m c] w fun e w' => (∃ a2 c2, e = .returned (.tuple #[.slice a2 (chG l (resL l m m) (bestL (resL l m m)) m).length c2, .int .i64 0]) ∧ IntsAt .i64 w' a2 (ints (chG l (resL l m m) (bestL (resL l m m)) m))) ∧ Below w.heap.size w w' := by
  have HM := Lib.hid hm
  have HA := Lib.hid ha
  clear hm ha
  go_enter Try.func10, Try.ntmps10
  go_wp2_with (at_make; go_must (refine wpList_make_rowB rfl _ _ 26 rfl 3 .i64 8 Try.underlying26 (by kernel_rfl) _ _ _ _ m rfl rfl rfl rfl ?b1 ?b2 ?_); (case b1 => omega); (case b2 => unfold maxLen; omega))
  intro w1 hro hb1 hz1
  obtain ⟨G, hG⟩ : ∃ G, G = w.heap.size := ⟨_, rfl⟩
  rw [← hG] at hro hb1 ⊢
  rw [← resRow0_zero l m] at hro
  have HRO := Lib.hid hro
  have HG := Lib.hid hG
  clear hro hz1 hG
  go_wp2_with fail
  go_loopg [5, 6, 7] m (fun gk v5 v6 _ wx => ∃ k : Nat, k ≤ m ∧ gk = m - k ∧ v5 = .int .i64 (bestL (resL l m k) : Nat) ∧ v6 = .int .i64 ((m : Int) - k - 1) ∧ RowB wx G 3 .i64 (resRow0 l m k) ∧ Below G w wx)
  case atStart => exact ⟨0, Nat.zero_le _, rfl, rfl, by go_num, HRO.out, hb1⟩
  case round =>
    clear HRO hb1
    obtain ⟨k, g1, g2, rfl, rfl, hro, hb⟩ := hrel
    have G2 := Lib.hid g2
    have HRO := Lib.hid hro
    clear g2 hro
    by_cases hlt : k < m
    · obtain ⟨i, hi⟩ : ∃ i, i = m - (k + 1) := ⟨_, rfl⟩
      have ei : (m : Int) - k - 1 = (i : Int) := by omega
      rw [ei]
      have him : i < m := by omega
      have e1 := HRO.out.cell i (by rw [resRow0_len l m k g1]; exact him)
      have e2 := HRO.out.frozen i
      obtain ⟨bk, hbk⟩ : ∃ bk, bk = bestL (resL l m k) := ⟨_, rfl⟩
      rw [← hbk]
      have HBK := Lib.hid hbk
      have HI := Lib.hid hi
      have hki : k = m - i - 1 := by omega
      have hro2 := HRO.out.set i 1
      rw [hi, resRow0_set l m k hlt, ← hi] at hro2
      have HRO2 := Lib.hid hro2
      clear ei hbk hi hro2
      go_wp2_with fail
      have hb2 := hb.setCell (p := ⟨G, i, none⟩) (Nat.le_refl _) (.int .i64 1)
      obtain ⟨w2, hw2⟩ : ∃ w2, w2 = wr.setCell ⟨G, i, none⟩ (.int .i64 1) := ⟨_, rfl⟩
      rw [← hw2] at HRO2 hb2 ⊢
      clear hw2 e1 e2 HRO hb
      go_loopg [7] k (fun gk vi wx => ∃ q : Nat, q ≤ k ∧ gk = k - q ∧ vi = .int .i64 ((i : Int) + 1 + q) ∧ RowB wx G 3 .i64 (resRow l m k q) ∧ Below G w wx)
      case atStart => exact ⟨0, Nat.zero_le _, rfl, by go_num, HRO2.out, hb2⟩
      case round =>
        clear HRO2 hb2
        obtain ⟨q, f1, f2, rfl, hro, hb⟩ := hrel
        have F2 := Lib.hid f2
        have HRO := Lib.hid hro
        clear f2 hro
        obtain ⟨J, hJ⟩ : ∃ J, J = i + 1 + q := ⟨_, rfl⟩
        have eJ : (i : Int) + 1 + q = (J : Int) := by omega
        rw [eJ]
        by_cases hj : q < k
        · have hJm : J < m := by omega
          have hbs := hb
          rw [HG.out] at hbs
          have hal := HA.out.below SysAt.abides hbs
          obtain ⟨x, rfl, hx, _⟩ := HA.out (by rw [HM.out]; omega)
          obtain ⟨xb, xo, rfl, s0, a1, n1, c1, a2, n2, c2, a3, n3, c3, a4, n4, c4, a5, n5, c5, a6, n6, c6, ⟨p0, p1, p2, p3, p4, p5, p6⟩, hyi⟩ := sys_cells hal i (by rw [HM.out]; exact him)
          obtain ⟨xb2, xo2, hxx, t0, b1, m1, d1, b2, m2, d2, b3, m3, d3, b4, m4, d4, b5, m5, d5, b6, m6, d6, ⟨q0, q1, q2, q3, q4, q5, q6⟩, hyj⟩ := sys_cells hal J (by rw [HM.out]; omega)
          injection hxx with hx1 hx2
          subst hx1 hx2
          have i1 : (0 : Int) ≤ (J : Int) := by omega
          have i2 : (J : Int) < (m : Int) := by omega
          have i3 : (0 : Int) ≤ (i : Int) := by omega
          have i4 : (i : Int) < (m : Int) := by omega
          have CC := Lib.hid (fun w' => plan_Conflict (.agg #[.string s0, .slice a1 n1 c1, .slice a2 n2 c2, .slice a3 n3 c3, .slice a4 n4 c4, .slice a5 n5 c5, .slice a6 n6 c6]) (.agg #[.string t0, .slice b1 m1 d1, .slice b2 m2 d2, .slice b3 m3 d3, .slice b4 m4 d4, .slice b5 m5 d5, .slice b6 m6 d6]) (sysN l i) (sysN l J) w')
          obtain ⟨cf, hcf⟩ : ∃ cf, cf = confB (sysN l i) (sysN l J) := ⟨_, rfl⟩
          rw [← hcf] at CC
          have HCF := Lib.hid hcf
          have HS := Lib.hid (show (fun w' => (w'.cell? ⟨xb, xo + i * 7, none⟩ = some (.string s0) ∧ w'.cell? ⟨xb, xo + i * 7 + 1, none⟩ = some (.slice a1 n1 c1) ∧ w'.cell? ⟨xb, xo + i * 7 + 2, none⟩ = some (.slice a2 n2 c2) ∧ w'.cell? ⟨xb, xo + i * 7 + 3, none⟩ = some (.slice a3 n3 c3) ∧ w'.cell? ⟨xb, xo + i * 7 + 4, none⟩ = some (.slice a4 n4 c4) ∧ w'.cell? ⟨xb, xo + i * 7 + 5, none⟩ = some (.slice a5 n5 c5) ∧ w'.cell? ⟨xb, xo + i * 7 + 6, none⟩ = some (.slice a6 n6 c6)) ∧ (w'.cell? ⟨xb, xo + J * 7, none⟩ = some (.string t0) ∧ w'.cell? ⟨xb, xo + J * 7 + 1, none⟩ = some (.slice b1 m1 d1) ∧ w'.cell? ⟨xb, xo + J * 7 + 2, none⟩ = some (.slice b2 m2 d2) ∧ w'.cell? ⟨xb, xo + J * 7 + 3, none⟩ = some (.slice b3 m3 d3) ∧ w'.cell? ⟨xb, xo + J * 7 + 4, none⟩ = some (.slice b4 m4 d4) ∧ w'.cell? ⟨xb, xo + J * 7 + 5, none⟩ = some (.slice b5 m5 d5) ∧ w'.cell? ⟨xb, xo + J * 7 + 6, none⟩ = some (.slice b6 m6 d6)) ∧ SysIn w' (.agg #[.string s0, .slice a1 n1 c1, .slice a2 n2 c2, .slice a3 n3 c3, .slice a4 n4 c4, .slice a5 n5 c5, .slice a6 n6 c6]) (sysN l i) ∧ SysIn w' (.agg #[.string t0, .slice b1 m1 d1, .slice b2 m2 d2, .slice b3 m3 d3, .slice b4 m4 d4, .slice b5 m5 d5, .slice b6 m6 d6]) (sysN l J) ∧ RowB w' G 3 .i64 (resRow l m k q) ∧ Below G w w') wr.drew from ⟨⟨p0, p1, p2, p3, p4, p5, p6⟩, ⟨q0, q1, q2, q3, q4, q5, q6⟩, hyi, hyj, HRO.out.drew, hb.drew⟩)
          have KEEP := Lib.hid (show ∀ w7 w8, (fun w' => (w'.cell? ⟨xb, xo + i * 7, none⟩ = some (.string s0) ∧ w'.cell? ⟨xb, xo + i * 7 + 1, none⟩ = some (.slice a1 n1 c1) ∧ w'.cell? ⟨xb, xo + i * 7 + 2, none⟩ = some (.slice a2 n2 c2) ∧ w'.cell? ⟨xb, xo + i * 7 + 3, none⟩ = some (.slice a3 n3 c3) ∧ w'.cell? ⟨xb, xo + i * 7 + 4, none⟩ = some (.slice a4 n4 c4) ∧ w'.cell? ⟨xb, xo + i * 7 + 5, none⟩ = some (.slice a5 n5 c5) ∧ w'.cell? ⟨xb, xo + i * 7 + 6, none⟩ = some (.slice a6 n6 c6)) ∧ (w'.cell? ⟨xb, xo + J * 7, none⟩ = some (.string t0) ∧ w'.cell? ⟨xb, xo + J * 7 + 1, none⟩ = some (.slice b1 m1 d1) ∧ w'.cell? ⟨xb, xo + J * 7 + 2, none⟩ = some (.slice b2 m2 d2) ∧ w'.cell? ⟨xb, xo + J * 7 + 3, none⟩ = some (.slice b3 m3 d3) ∧ w'.cell? ⟨xb, xo + J * 7 + 4, none⟩ = some (.slice b4 m4 d4) ∧ w'.cell? ⟨xb, xo + J * 7 + 5, none⟩ = some (.slice b5 m5 d5) ∧ w'.cell? ⟨xb, xo + J * 7 + 6, none⟩ = some (.slice b6 m6 d6)) ∧ SysIn w' (.agg #[.string s0, .slice a1 n1 c1, .slice a2 n2 c2, .slice a3 n3 c3, .slice a4 n4 c4, .slice a5 n5 c5, .slice a6 n6 c6]) (sysN l i) ∧ SysIn w' (.agg #[.string t0, .slice b1 m1 d1, .slice b2 m2 d2, .slice b3 m3 d3, .slice b4 m4 d4, .slice b5 m5 d5, .slice b6 m6 d6]) (sysN l J) ∧ RowB w' G 3 .i64 (resRow l m k q) ∧ Below G w w') w7 → Below w7.heap.size w7 w8 → (fun w' => (w'.cell? ⟨xb, xo + i * 7, none⟩ = some (.string s0) ∧ w'.cell? ⟨xb, xo + i * 7 + 1, none⟩ = some (.slice a1 n1 c1) ∧ w'.cell? ⟨xb, xo + i * 7 + 2, none⟩ = some (.slice a2 n2 c2) ∧ w'.cell? ⟨xb, xo + i * 7 + 3, none⟩ = some (.slice a3 n3 c3) ∧ w'.cell? ⟨xb, xo + i * 7 + 4, none⟩ = some (.slice a4 n4 c4) ∧ w'.cell? ⟨xb, xo + i * 7 + 5, none⟩ = some (.slice a5 n5 c5) ∧ w'.cell? ⟨xb, xo + i * 7 + 6, none⟩ = some (.slice a6 n6 c6)) ∧ (w'.cell? ⟨xb, xo + J * 7, none⟩ = some (.string t0) ∧ w'.cell? ⟨xb, xo + J * 7 + 1, none⟩ = some (.slice b1 m1 d1) ∧ w'.cell? ⟨xb, xo + J * 7 + 2, none⟩ = some (.slice b2 m2 d2) ∧ w'.cell? ⟨xb, xo + J * 7 + 3, none⟩ = some (.slice b3 m3 d3) ∧ w'.cell? ⟨xb, xo + J * 7 + 4, none⟩ = some (.slice b4 m4 d4) ∧ w'.cell? ⟨xb, xo + J * 7 + 5, none⟩ = some (.slice b5 m5 d5) ∧ w'.cell? ⟨xb, xo + J * 7 + 6, none⟩ = some (.slice b6 m6 d6)) ∧ SysIn w' (.agg #[.string s0, .slice a1 n1 c1, .slice a2 n2 c2, .slice a3 n3 c3, .slice a4 n4 c4, .slice a5 n5 c5, .slice a6 n6 c6]) (sysN l i) ∧ SysIn w' (.agg #[.string t0, .slice b1 m1 d1, .slice b2 m2 d2, .slice b3 m3 d3, .slice b4 m4 d4, .slice b5 m5 d5, .slice b6 m6 d6]) (sysN l J) ∧ RowB w' G 3 .i64 (resRow l m k q) ∧ Below G w w') w8 from fun w7 w8 h hb => keepP hb h)
          have HJ := Lib.hid hJ
          clear hal hyi hyj hx hcf hbs p0 p1 p2 p3 p4 p5 p6 q0 q1 q2 q3 q4 q5 q6 hb eJ hJ
          go_wp2_with fail
          go_region_held3 (fun w' => (w'.cell? ⟨xb, xo + i * 7, none⟩ = some (.string s0) ∧ w'.cell? ⟨xb, xo + i * 7 + 1, none⟩ = some (.slice a1 n1 c1) ∧ w'.cell? ⟨xb, xo + i * 7 + 2, none⟩ = some (.slice a2 n2 c2) ∧ w'.cell? ⟨xb, xo + i * 7 + 3, none⟩ = some (.slice a3 n3 c3) ∧ w'.cell? ⟨xb, xo + i * 7 + 4, none⟩ = some (.slice a4 n4 c4) ∧ w'.cell? ⟨xb, xo + i * 7 + 5, none⟩ = some (.slice a5 n5 c5) ∧ w'.cell? ⟨xb, xo + i * 7 + 6, none⟩ = some (.slice a6 n6 c6)) ∧ (w'.cell? ⟨xb, xo + J * 7, none⟩ = some (.string t0) ∧ w'.cell? ⟨xb, xo + J * 7 + 1, none⟩ = some (.slice b1 m1 d1) ∧ w'.cell? ⟨xb, xo + J * 7 + 2, none⟩ = some (.slice b2 m2 d2) ∧ w'.cell? ⟨xb, xo + J * 7 + 3, none⟩ = some (.slice b3 m3 d3) ∧ w'.cell? ⟨xb, xo + J * 7 + 4, none⟩ = some (.slice b4 m4 d4) ∧ w'.cell? ⟨xb, xo + J * 7 + 5, none⟩ = some (.slice b5 m5 d5) ∧ w'.cell? ⟨xb, xo + J * 7 + 6, none⟩ = some (.slice b6 m6 d6)) ∧ SysIn w' (.agg #[.string s0, .slice a1 n1 c1, .slice a2 n2 c2, .slice a3 n3 c3, .slice a4 n4 c4, .slice a5 n5 c5, .slice a6 n6 c6]) (sysN l i) ∧ SysIn w' (.agg #[.string t0, .slice b1 m1 d1, .slice b2 m2 d2, .slice b3 m3 d3, .slice b4 m4 d4, .slice b5 m5 d5, .slice b6 m6 d6]) (sysN l J) ∧ RowB w' G 3 .i64 (resRow l m k q) ∧ Below G w w')
            (first | exact HS.out | assumption | exact KEEP.out _ _ (by assumption) (by assumption))
            ((go_at_call 11; refine (CC.out _ (And.left (And.right (And.right (by assumption)))) (And.left (And.right (And.right (And.right (by assumption)))))).mono ?_; rintro e w8 ⟨rfl, hb8⟩))
          rename_i hHeld
          have hro2 := hHeld.2.2.2.2.1
          have hb2 := hHeld.2.2.2.2.2
          clear hHeld hb8 HS KEEP
          have hst := resAt_succ l i (resL l m k) q
          rw [← HJ.out, ← HCF.out] at hst
          have l1 := resAt_bd l i (resL l m k) k (fun t ht => by rw [resL_len] at ht; exact (resL_bd l m k t ht).2) q (by rw [resL_len]; omega)
          have l2 := resL_bd l m k q hj
          have e1 := hro2.cell i (by rw [resRow_len l m k q hlt]; exact him)
          have e2 := hro2.cell J (by rw [resRow_len l m k q hlt]; exact hJm)
          have e3 := hro2.frozen i
          have r1 := resRow_at l m k q
          have r2 := resRow_far l m k q q
          rw [← HI.out] at r1 r2
          rw [← HJ.out] at r2
          rw [r1] at e1
          rw [r2] at e2
          have hse := resRow_set l m k q (q + 1)
          rw [← HI.out] at hse
          obtain ⟨X, hX⟩ : ∃ X, X = resAt l i (resL l m k) q := ⟨_, rfl⟩
          obtain ⟨Y, hY⟩ : ∃ Y, Y = (resL l m k).getD q 0 := ⟨_, rfl⟩
          rw [← hX] at hst l1 e1
          rw [← hY] at hst l2 e2
          have HXX := Lib.hid hX
          have HRO2 := Lib.hid hro2
          cases cf with
          | true =>
            rw [if_pos rfl] at hst
            rw [hst] at hse
            have HSE := Lib.hid hse
            clear hse hst hX hY hro2 r1 r2
            go_wp2_with fail
            go_region
            all_goals
              go_wp2_with fail
              go_roundg (k - (q + 1))
              case measure => rw [F2.out]; omega
              case rel => exact ⟨q + 1, hj, rfl, by have := HJ.out; go_num, by
                rw [← HSE.out]
                have e : max (X : Int) ((Y : Int) + 1) = ((max X (Y + 1) : Nat) : Int) := by omega
                rw [e]
                exact (HRO2.out.set i _).drew, (hb2.setCell (Nat.le_refl _) _).drew⟩
          | false =>
            rw [if_neg (by decide)] at hst
            have HST := Lib.hid hst
            clear hse hst hX hY hro2 e1 e2 e3 r1 r2
            go_wp2_with fail
            go_roundg (k - (q + 1))
            case measure => rw [F2.out]; omega
            case rel => exact ⟨q + 1, hj, rfl, by have := HJ.out; go_num, by
              have e : resRow l m k (q + 1) = resRow l m k q := by
                unfold resRow
                rw [← HI.out, HST.out, HXX.out]
              rw [e]; exact HRO2.out, hb2⟩
        · obtain rfl : q = k := by omega
          have hJm : ¬ J < m := by omega
          have hro2 := HRO.out
          have e1 := hro2.cell i (by rw [resRow_len l m q q hlt]; exact him)
          have r1 := resRow_at l m q q
          rw [← HI.out] at r1
          rw [r1] at e1
          obtain ⟨X, hX⟩ : ∃ X, X = resAt l i (resL l m q) q := ⟨_, rfl⟩
          rw [← hX] at e1
          have hbest : bestL (resL l m (q + 1)) = max bk X := by rw [resL_succ, bestL_cons, ← HI.out, ← hX, HBK.out]
          have HBEST := Lib.hid hbest
          rw [resRow_end] at hro2
          have HRO2 := Lib.hid hro2
          clear hro2 HRO r1 hX hbest hJ eJ
          go_wp2_with fail
          go_roundg (m - (q + 1))
          case measure => rw [G2.out]; omega
          case rel => exact ⟨q + 1, hlt, rfl, by rw [HBEST.out]; congr 1; omega, by congr 1; have := HI.out; omega, HRO2.out, hb⟩
    · obtain rfl : k = m := by omega
      have em : (k : Int) - k - 1 = -1 := by omega
      rw [em]
      have hro2 := HRO.out
      rw [resRow0_top] at hro2
      have hRl := resL_len l k k
      have hRb := resL_bd l k k
      obtain ⟨R, hR⟩ : ∃ R, R = resL l k k := ⟨_, rfl⟩
      rw [← hR] at hro2 hRl hRb ⊢
      have hbb : bestL R ≤ 24 := best_le R 24 (fun q hq => by rw [hRl] at hq; have := (hRb q hq).2; omega)
      obtain ⟨b, hbst⟩ : ∃ b, b = bestL R := ⟨_, rfl⟩
      rw [← hbst] at hbb ⊢
      have HRO2 := Lib.hid hro2
      have HRE := Lib.hid hR
      have HBE := Lib.hid hbst
      have HRL := Lib.hid hRl
      have HRB := Lib.hid hRb
      clear hro2 HRO hRl hRb hR em hbst
      go_wp2_with fail
      obtain ⟨B, hB⟩ : ∃ B, B = wr.heap.size := ⟨_, rfl⟩
      have hGB : G < B := by rw [hB]; exact HRO2.out.lt
      have hB1 : B ≤ wr.heap.size := by omega
      have hGw : w.heap.size ≤ G := by rw [HG.out]; exact Nat.le_refl _
      clear hB
      go_loopg [8, 9, 64] k (fun gk v8 _ vi wx => ∃ (i : Nat) (v : Value), i ≤ k ∧ gk = k - i ∧ v8 = v ∧ vi = .int .i64 i ∧ wx.ownsRow B 3 1 v (chG l R b i).length (vints .i64 (ints (chG l R b i))) ∧ RowB wx G 3 .i64 (ints R) ∧ B ≤ wx.heap.size ∧ Below G w wx)
      case atStart => exact ⟨0, _, Nat.zero_le _, rfl, rfl, rfl, World.ownsRow_nil _ _ _ _, HRO2.out, hB1, hb⟩
      case round =>
        clear HRO2 hB1 hb
        obtain ⟨i, v, f1, f2, hv8, rfl, hown, hro, hBx, hb⟩ := hrel
        have F2 := Lib.hid f2
        have HRO := Lib.hid hro
        obtain ⟨av, cv, hsh⟩ : ∃ a c, v = .slice a (chG l R b i).length c := by
          rcases hown.2 with ⟨h1, h0⟩ | ⟨g, cap, cur, h1, _⟩
          · exact ⟨none, 0, by rw [h1, h0]⟩
          · exact ⟨_, _, h1⟩
        subst hsh
        subst hv8
        have hcb := chG_bd l R b i
        have hcs := chG_succ l R b i
        by_cases hlt : i < k
        · obtain ⟨o, ho⟩ : ∃ o, o = chG l R b i := ⟨_, rfl⟩
          rw [← ho] at hown hcb hcs ⊢
          obtain ⟨lo, hlo⟩ : ∃ lo, lo = o.length := ⟨_, rfl⟩
          rw [← hlo] at hown hcb hcs ⊢
          have e1 := HRO.out.cell i (by rw [ints_len, HRL.out]; exact hlt)
          rw [ints_getD] at e1
          obtain ⟨Ri, hRi⟩ : ∃ Ri, Ri = R.getD i 0 := ⟨_, rfl⟩
          rw [← hRi] at e1 hcs
          have HOWN := Lib.hid hown
          have HCS := Lib.hid hcs
          have HCB := Lib.hid hcb
          have HLO := Lib.hid hlo
          have E1 := Lib.hid e1
          have hlok : lo ≤ 24 := by have := hcb.1; omega
          have hRi24 : Ri ≤ 24 := by rw [hRi]; have := (HRB.out i hlt).2; omega
          clear f2 hro hown hcb hcs ho hlo e1 hRi
          have HB := Lib.hid hb
          clear hb
          by_cases q1 : lo < b
          · have HT1 := Lib.hid (show decide ((lo : Int) < (b : Int)) = true from decide_eq_true (by omega))
            obtain ⟨dl, hdl⟩ : ∃ dl : Int, dl = (b : Int) - lo := ⟨_, rfl⟩
            have HDL := Lib.hid (show IntKind.i64.wrap ((b : Int) - lo) = dl by rw [IntKind.wrap_i64]; omega)
            by_cases q2 : Ri = b - lo
            · have HT2 := Lib.hid (show ((Ri : Int) == dl) = true by rw [beq_iff_eq]; omega)
              rcases Nat.eq_zero_or_pos lo with q3 | q3
              · have HT3 := Lib.hid (show ((lo : Int) == 0) = true by rw [beq_iff_eq]; omega)
                have HNX := Lib.hid (HCS.out.trans (if_pos ⟨q1, q2, Or.inl q3⟩))
                clear HCS HCB hdl q3
                go_wp2_with fail
                refine wp_region_facts_t rfl 36 (by kernel_rfl) (F_cc a c av lo cv b G k i Ri dl) (F_cc_mono a c av lo cv b G k i Ri dl) ?_ ?_
                · refine ⟨?_, ?_, ?_, ?_, ?_, ?_, ?_, ?_, ?_, ?_, ?_, ?_, ?_, ?_, ?_, ?_, ?_, ?_, ?_, ?_, ?_, ?_, ?_, ?_, ?_, ?_, ?_, ?_, ?_, ?_, ?_, ?_, ?_, ?_, ?_, ?_, trivial⟩
                  · intro vs w' F hb hd hF hl hT
                    have e := (hF 8).trans (look_out _ 8 _ _ (by kernel_rfl))
                    exact one_move _ rfl (by first | exact Or.inl rfl | exact Or.inr rfl) ⟨_, rfl, Below.refl _ _, e⟩
                  · intro vs w' F hb hd hF hl hT
                    have e := (((hF 67).trans (look_at _ 67 0 _ _ (by kernel_rfl) (by kernel_rfl) hl)).trans (dep_of (Fact := F_cc a c av lo cv b G k i Ri dl) hd 0 (by kernel_rfl)))
                    exact one_len _ 26 _ rfl rfl Try.underlying26 _ _ _ e ⟨_, rfl, Below.refl _ _, rfl⟩
                  · intro vs w' F hb hd hF hl hT
                    have e := (hF 5).trans (look_out _ 5 _ _ (by kernel_rfl))
                    exact one_move _ rfl (by first | exact Or.inl rfl | exact Or.inr rfl) ⟨_, rfl, Below.refl _ _, e⟩
                  · intro vs w' F hb hd hF hl hT
                    have e1 := (((hF 68).trans (look_at _ 68 1 _ _ (by kernel_rfl) (by kernel_rfl) hl)).trans (dep_of (Fact := F_cc a c av lo cv b G k i Ri dl) hd 1 (by kernel_rfl)))
                    have e2 := (((hF 69).trans (look_at _ 69 2 _ _ (by kernel_rfl) (by kernel_rfl) hl)).trans (dep_of (Fact := F_cc a c av lo cv b G k i Ri dl) hd 2 (by kernel_rfl)))
                    exact one_int_lt _ _ _ _ rfl rfl _ _ _ true e1 e2 HT1.out ⟨_, rfl, Below.refl _ _, rfl⟩
                  · intro vs w' F hb hd hF hl hT
                    have e := ((hF 70).trans (look_at _ 70 3 _ _ (by kernel_rfl) (by kernel_rfl) hl)).trans (dep_of (Fact := F_cc a c av lo cv b G k i Ri dl) hd 3 (by kernel_rfl))
                    exact one_move _ rfl (by first | exact Or.inl rfl | exact Or.inr rfl) ⟨_, rfl, Below.refl _ _, e⟩
                  · intro vs w' F hb hd hF hl hT
                    have eg := ((hF 71).trans (look_at _ 71 4 _ _ (by kernel_rfl) (by kernel_rfl) hl)).trans (dep_of (Fact := F_cc a c av lo cv b G k i Ri dl) hd 4 (by kernel_rfl))
                    refine wpList_on rfl (t := 71) (by kernel_rfl) eg ?_
                    have e := (hF 4).trans (look_out _ 4 _ _ (by kernel_rfl))
                    exact one_move _ rfl (by first | exact Or.inl rfl | exact Or.inr rfl) ⟨_, rfl, Below.refl _ _, e⟩
                  · intro vs w' F hb hd hF hl hT
                    have eg := ((hF 71).trans (look_at _ 71 4 _ _ (by kernel_rfl) (by kernel_rfl) hl)).trans (dep_of (Fact := F_cc a c av lo cv b G k i Ri dl) hd 4 (by kernel_rfl))
                    refine wpList_on rfl (t := 71) (by kernel_rfl) eg ?_
                    have e := (hF 9).trans (look_out _ 9 _ _ (by kernel_rfl))
                    exact one_move _ rfl (by first | exact Or.inl rfl | exact Or.inr rfl) ⟨_, rfl, Below.refl _ _, e⟩
                  · intro vs w' F hb hd hF hl hT
                    have eg := ((hF 71).trans (look_at _ 71 4 _ _ (by kernel_rfl) (by kernel_rfl) hl)).trans (dep_of (Fact := F_cc a c av lo cv b G k i Ri dl) hd 4 (by kernel_rfl))
                    refine wpList_on rfl (t := 71) (by kernel_rfl) eg ?_
                    have ex := (((hF 72).trans (look_at _ 72 5 _ _ (by kernel_rfl) (by kernel_rfl) hl)).trans (dep_of (Fact := F_cc a c av lo cv b G k i Ri dl) hd 5 (by kernel_rfl)))
                    have ey := (((hF 73).trans (look_at _ 73 6 _ _ (by kernel_rfl) (by kernel_rfl) hl)).trans (dep_of (Fact := F_cc a c av lo cv b G k i Ri dl) hd 6 (by kernel_rfl)))
                    exact one_index 26 _ _ rfl rfl _ (.int .i64 i) (.pointer (some ⟨G, i, none⟩)) ex ey (fun w => idx_int G k k i (by omega) w) ⟨_, rfl, Below.refl _ _, rfl⟩
                  · intro vs w' F hb hd hF hl hT
                    have eg := ((hF 71).trans (look_at _ 71 4 _ _ (by kernel_rfl) (by kernel_rfl) hl)).trans (dep_of (Fact := F_cc a c av lo cv b G k i Ri dl) hd 4 (by kernel_rfl))
                    refine wpList_on rfl (t := 71) (by kernel_rfl) eg ?_
                    have e := ((hF 74).trans (look_at _ 74 7 _ _ (by kernel_rfl) (by kernel_rfl) hl)).trans (dep_of (Fact := F_cc a c av lo cv b G k i Ri dl) hd 7 (by kernel_rfl))
                    exact one_load _ _ rfl rfl _ _ e (cell_abides E1.out hb) (by kernel_rfl) ⟨_, rfl, Below.refl _ _, rfl⟩
                  · intro vs w' F hb hd hF hl hT
                    have eg := ((hF 71).trans (look_at _ 71 4 _ _ (by kernel_rfl) (by kernel_rfl) hl)).trans (dep_of (Fact := F_cc a c av lo cv b G k i Ri dl) hd 4 (by kernel_rfl))
                    refine wpList_on rfl (t := 71) (by kernel_rfl) eg ?_
                    have e := (hF 5).trans (look_out _ 5 _ _ (by kernel_rfl))
                    exact one_move _ rfl (by first | exact Or.inl rfl | exact Or.inr rfl) ⟨_, rfl, Below.refl _ _, e⟩
                  · intro vs w' F hb hd hF hl hT
                    have eg := ((hF 71).trans (look_at _ 71 4 _ _ (by kernel_rfl) (by kernel_rfl) hl)).trans (dep_of (Fact := F_cc a c av lo cv b G k i Ri dl) hd 4 (by kernel_rfl))
                    refine wpList_on rfl (t := 71) (by kernel_rfl) eg ?_
                    have e := (hF 8).trans (look_out _ 8 _ _ (by kernel_rfl))
                    exact one_move _ rfl (by first | exact Or.inl rfl | exact Or.inr rfl) ⟨_, rfl, Below.refl _ _, e⟩
                  · intro vs w' F hb hd hF hl hT
                    have eg := ((hF 71).trans (look_at _ 71 4 _ _ (by kernel_rfl) (by kernel_rfl) hl)).trans (dep_of (Fact := F_cc a c av lo cv b G k i Ri dl) hd 4 (by kernel_rfl))
                    refine wpList_on rfl (t := 71) (by kernel_rfl) eg ?_
                    have e := (((hF 77).trans (look_at _ 77 10 _ _ (by kernel_rfl) (by kernel_rfl) hl)).trans (dep_of (Fact := F_cc a c av lo cv b G k i Ri dl) hd 10 (by kernel_rfl)))
                    exact one_len _ 26 _ rfl rfl Try.underlying26 _ _ _ e ⟨_, rfl, Below.refl _ _, rfl⟩
                  · intro vs w' F hb hd hF hl hT
                    have eg := ((hF 71).trans (look_at _ 71 4 _ _ (by kernel_rfl) (by kernel_rfl) hl)).trans (dep_of (Fact := F_cc a c av lo cv b G k i Ri dl) hd 4 (by kernel_rfl))
                    refine wpList_on rfl (t := 71) (by kernel_rfl) eg ?_
                    have e1 := (((hF 76).trans (look_at _ 76 9 _ _ (by kernel_rfl) (by kernel_rfl) hl)).trans (dep_of (Fact := F_cc a c av lo cv b G k i Ri dl) hd 9 (by kernel_rfl)))
                    have e2 := (((hF 78).trans (look_at _ 78 11 _ _ (by kernel_rfl) (by kernel_rfl) hl)).trans (dep_of (Fact := F_cc a c av lo cv b G k i Ri dl) hd 11 (by kernel_rfl)))
                    exact one_int_sub _ _ _ _ rfl rfl _ _ dl e1 e2 HDL.out ⟨_, rfl, Below.refl _ _, rfl⟩
                  · intro vs w' F hb hd hF hl hT
                    have eg := ((hF 71).trans (look_at _ 71 4 _ _ (by kernel_rfl) (by kernel_rfl) hl)).trans (dep_of (Fact := F_cc a c av lo cv b G k i Ri dl) hd 4 (by kernel_rfl))
                    refine wpList_on rfl (t := 71) (by kernel_rfl) eg ?_
                    have e1 := (((hF 75).trans (look_at _ 75 8 _ _ (by kernel_rfl) (by kernel_rfl) hl)).trans (dep_of (Fact := F_cc a c av lo cv b G k i Ri dl) hd 8 (by kernel_rfl)))
                    have e2 := (((hF 79).trans (look_at _ 79 12 _ _ (by kernel_rfl) (by kernel_rfl) hl)).trans (dep_of (Fact := F_cc a c av lo cv b G k i Ri dl) hd 12 (by kernel_rfl)))
                    exact one_int_eq _ _ _ _ rfl rfl _ _ _ true e1 e2 HT2.out ⟨_, rfl, Below.refl _ _, rfl⟩
                  · intro vs w' F hb hd hF hl hT
                    have ec := ((hF 71).trans (look_at _ 71 4 _ _ (by kernel_rfl) (by kernel_rfl) hl)).trans (dep_of (Fact := F_cc a c av lo cv b G k i Ri dl) hd 4 (by kernel_rfl))
                    have e := ((hF 80).trans (look_at _ 80 13 _ _ (by kernel_rfl) (by kernel_rfl) hl)).trans (dep_of (Fact := F_cc a c av lo cv b G k i Ri dl) hd 13 (by kernel_rfl))
                    exact one_pick_t _ _ _ rfl rfl _ ec e ⟨_, rfl, Below.refl _ _, rfl⟩
                  · intro vs w' F hb hd hF hl hT
                    have e := ((hF 81).trans (look_at _ 81 14 _ _ (by kernel_rfl) (by kernel_rfl) hl)).trans (dep_of (Fact := F_cc a c av lo cv b G k i Ri dl) hd 14 (by kernel_rfl))
                    exact one_move _ rfl (by first | exact Or.inl rfl | exact Or.inr rfl) ⟨_, rfl, Below.refl _ _, e⟩
                  · intro vs w' F hb hd hF hl hT
                    have eg := ((hF 82).trans (look_at _ 82 15 _ _ (by kernel_rfl) (by kernel_rfl) hl)).trans (dep_of (Fact := F_cc a c av lo cv b G k i Ri dl) hd 15 (by kernel_rfl))
                    refine wpList_on rfl (t := 82) (by kernel_rfl) eg ?_
                    have e := (hF 8).trans (look_out _ 8 _ _ (by kernel_rfl))
                    exact one_move _ rfl (by first | exact Or.inl rfl | exact Or.inr rfl) ⟨_, rfl, Below.refl _ _, e⟩
                  · intro vs w' F hb hd hF hl hT
                    have eg := ((hF 82).trans (look_at _ 82 15 _ _ (by kernel_rfl) (by kernel_rfl) hl)).trans (dep_of (Fact := F_cc a c av lo cv b G k i Ri dl) hd 15 (by kernel_rfl))
                    refine wpList_on rfl (t := 82) (by kernel_rfl) eg ?_
                    have e := (((hF 83).trans (look_at _ 83 16 _ _ (by kernel_rfl) (by kernel_rfl) hl)).trans (dep_of (Fact := F_cc a c av lo cv b G k i Ri dl) hd 16 (by kernel_rfl)))
                    exact one_len _ 26 _ rfl rfl Try.underlying26 _ _ _ e ⟨_, rfl, Below.refl _ _, rfl⟩
                  · intro vs w' F hb hd hF hl hT
                    have eg := ((hF 82).trans (look_at _ 82 15 _ _ (by kernel_rfl) (by kernel_rfl) hl)).trans (dep_of (Fact := F_cc a c av lo cv b G k i Ri dl) hd 15 (by kernel_rfl))
                    refine wpList_on rfl (t := 82) (by kernel_rfl) eg ?_
                    have e1 := (((hF 84).trans (look_at _ 84 17 _ _ (by kernel_rfl) (by kernel_rfl) hl)).trans (dep_of (Fact := F_cc a c av lo cv b G k i Ri dl) hd 17 (by kernel_rfl)))
                    exact one_int_eq _ _ _ _ rfl rfl _ _ _ true e1 rfl HT3.out ⟨_, rfl, Below.refl _ _, rfl⟩
                  · intro vs w' F hb hd hF hl hT
                    have eg := ((hF 82).trans (look_at _ 82 15 _ _ (by kernel_rfl) (by kernel_rfl) hl)).trans (dep_of (Fact := F_cc a c av lo cv b G k i Ri dl) hd 15 (by kernel_rfl))
                    refine wpList_on rfl (t := 82) (by kernel_rfl) eg ?_
                    have e := ((hF 85).trans (look_at _ 85 18 _ _ (by kernel_rfl) (by kernel_rfl) hl)).trans (dep_of (Fact := F_cc a c av lo cv b G k i Ri dl) hd 18 (by kernel_rfl))
                    exact one_move _ rfl (by first | exact Or.inl rfl | exact Or.inr rfl) ⟨_, rfl, Below.refl _ _, e⟩
                  · intro vs w' F hb hd hF hl hT
                    have eg := ((hF 86).trans (look_at _ 86 19 _ _ (by kernel_rfl) (by kernel_rfl) hl)).trans (dep_of (Fact := F_cc a c av lo cv b G k i Ri dl) hd 19 (by kernel_rfl))
                    exact wpList_off rfl (t := 86) (d := true) (by kernel_rfl) eg (by decide) ⟨_, rfl, Below.refl _ _, rfl⟩
                  · intro vs w' F hb hd hF hl hT
                    have eg := ((hF 86).trans (look_at _ 86 19 _ _ (by kernel_rfl) (by kernel_rfl) hl)).trans (dep_of (Fact := F_cc a c av lo cv b G k i Ri dl) hd 19 (by kernel_rfl))
                    exact wpList_off rfl (t := 86) (d := true) (by kernel_rfl) eg (by decide) ⟨_, rfl, Below.refl _ _, rfl⟩
                  · intro vs w' F hb hd hF hl hT
                    have eg := ((hF 86).trans (look_at _ 86 19 _ _ (by kernel_rfl) (by kernel_rfl) hl)).trans (dep_of (Fact := F_cc a c av lo cv b G k i Ri dl) hd 19 (by kernel_rfl))
                    exact wpList_off rfl (t := 86) (d := true) (by kernel_rfl) eg (by decide) ⟨_, rfl, Below.refl _ _, rfl⟩
                  · intro vs w' F hb hd hF hl hT
                    have eg := ((hF 86).trans (look_at _ 86 19 _ _ (by kernel_rfl) (by kernel_rfl) hl)).trans (dep_of (Fact := F_cc a c av lo cv b G k i Ri dl) hd 19 (by kernel_rfl))
                    exact wpList_off rfl (t := 86) (d := true) (by kernel_rfl) eg (by decide) ⟨_, rfl, Below.refl _ _, rfl⟩
                  · intro vs w' F hb hd hF hl hT
                    have eg := ((hF 86).trans (look_at _ 86 19 _ _ (by kernel_rfl) (by kernel_rfl) hl)).trans (dep_of (Fact := F_cc a c av lo cv b G k i Ri dl) hd 19 (by kernel_rfl))
                    exact wpList_off rfl (t := 86) (d := true) (by kernel_rfl) eg (by decide) ⟨_, rfl, Below.refl _ _, rfl⟩
                  · intro vs w' F hb hd hF hl hT
                    have eg := ((hF 86).trans (look_at _ 86 19 _ _ (by kernel_rfl) (by kernel_rfl) hl)).trans (dep_of (Fact := F_cc a c av lo cv b G k i Ri dl) hd 19 (by kernel_rfl))
                    exact wpList_off rfl (t := 86) (d := true) (by kernel_rfl) eg (by decide) ⟨_, rfl, Below.refl _ _, rfl⟩
                  · intro vs w' F hb hd hF hl hT
                    have eg := ((hF 86).trans (look_at _ 86 19 _ _ (by kernel_rfl) (by kernel_rfl) hl)).trans (dep_of (Fact := F_cc a c av lo cv b G k i Ri dl) hd 19 (by kernel_rfl))
                    exact wpList_off rfl (t := 86) (d := true) (by kernel_rfl) eg (by decide) ⟨_, rfl, Below.refl _ _, rfl⟩
                  · intro vs w' F hb hd hF hl hT
                    have eg := ((hF 86).trans (look_at _ 86 19 _ _ (by kernel_rfl) (by kernel_rfl) hl)).trans (dep_of (Fact := F_cc a c av lo cv b G k i Ri dl) hd 19 (by kernel_rfl))
                    exact wpList_off rfl (t := 86) (d := true) (by kernel_rfl) eg (by decide) ⟨_, rfl, Below.refl _ _, rfl⟩
                  · intro vs w' F hb hd hF hl hT
                    have eg := ((hF 86).trans (look_at _ 86 19 _ _ (by kernel_rfl) (by kernel_rfl) hl)).trans (dep_of (Fact := F_cc a c av lo cv b G k i Ri dl) hd 19 (by kernel_rfl))
                    exact wpList_off rfl (t := 86) (d := true) (by kernel_rfl) eg (by decide) ⟨_, rfl, Below.refl _ _, rfl⟩
                  · intro vs w' F hb hd hF hl hT
                    have eg := ((hF 86).trans (look_at _ 86 19 _ _ (by kernel_rfl) (by kernel_rfl) hl)).trans (dep_of (Fact := F_cc a c av lo cv b G k i Ri dl) hd 19 (by kernel_rfl))
                    exact wpList_off rfl (t := 86) (d := true) (by kernel_rfl) eg (by decide) ⟨_, rfl, Below.refl _ _, rfl⟩
                  · intro vs w' F hb hd hF hl hT
                    have eg := ((hF 86).trans (look_at _ 86 19 _ _ (by kernel_rfl) (by kernel_rfl) hl)).trans (dep_of (Fact := F_cc a c av lo cv b G k i Ri dl) hd 19 (by kernel_rfl))
                    exact wpList_off rfl (t := 86) (d := true) (by kernel_rfl) eg (by decide) ⟨_, rfl, Below.refl _ _, rfl⟩
                  · intro vs w' F hb hd hF hl hT
                    have eg := ((hF 86).trans (look_at _ 86 19 _ _ (by kernel_rfl) (by kernel_rfl) hl)).trans (dep_of (Fact := F_cc a c av lo cv b G k i Ri dl) hd 19 (by kernel_rfl))
                    exact wpList_off rfl (t := 86) (d := true) (by kernel_rfl) eg (by decide) ⟨_, rfl, Below.refl _ _, rfl⟩
                  · intro vs w' F hb hd hF hl hT
                    have eg := ((hF 86).trans (look_at _ 86 19 _ _ (by kernel_rfl) (by kernel_rfl) hl)).trans (dep_of (Fact := F_cc a c av lo cv b G k i Ri dl) hd 19 (by kernel_rfl))
                    exact wpList_off rfl (t := 86) (d := true) (by kernel_rfl) eg (by decide) ⟨_, rfl, Below.refl _ _, rfl⟩
                  · intro vs w' F hb hd hF hl hT
                    have eg := ((hF 86).trans (look_at _ 86 19 _ _ (by kernel_rfl) (by kernel_rfl) hl)).trans (dep_of (Fact := F_cc a c av lo cv b G k i Ri dl) hd 19 (by kernel_rfl))
                    exact wpList_off rfl (t := 86) (d := true) (by kernel_rfl) eg (by decide) ⟨_, rfl, Below.refl _ _, rfl⟩
                  · intro vs w' F hb hd hF hl hT
                    have eg := ((hF 82).trans (look_at _ 82 15 _ _ (by kernel_rfl) (by kernel_rfl) hl)).trans (dep_of (Fact := F_cc a c av lo cv b G k i Ri dl) hd 15 (by kernel_rfl))
                    refine wpList_on rfl (t := 82) (by kernel_rfl) eg ?_
                    have ec := ((hF 86).trans (look_at _ 86 19 _ _ (by kernel_rfl) (by kernel_rfl) hl)).trans (dep_of (Fact := F_cc a c av lo cv b G k i Ri dl) hd 19 (by kernel_rfl))
                    exact one_pick_t _ _ _ rfl rfl _ ec rfl ⟨_, rfl, Below.refl _ _, rfl⟩
                  · intro vs w' F hb hd hF hl hT
                    have ec := ((hF 82).trans (look_at _ 82 15 _ _ (by kernel_rfl) (by kernel_rfl) hl)).trans (dep_of (Fact := F_cc a c av lo cv b G k i Ri dl) hd 15 (by kernel_rfl))
                    have e := ((hF 101).trans (look_at _ 101 34 _ _ (by kernel_rfl) (by kernel_rfl) hl)).trans (dep_of (Fact := F_cc a c av lo cv b G k i Ri dl) hd 34 (by kernel_rfl))
                    exact one_pick_t _ _ _ rfl rfl _ ec e ⟨_, rfl, Below.refl _ _, rfl⟩
                · intro vs W1 hl hb hI
                  have hv : vs.getD 35 undef = .bool true := hI 35 (by omega)
                  obtain ⟨x0, x1, x2, x3, x4, x5, x6, x7, x8, x9, x10, x11, x12, x13, x14, x15, x16, x17, x18, x19, x20, x21, x22, x23, x24, x25, x26, x27, x28, x29, x30, x31, x32, x33, x34, x35, hvs⟩ := list36 hl
                  subst hvs
                  replace hv : x35 = .bool true := hv
                  subst hv
                  have hro3 : RowB W1 G 3 .i64 (ints R) := HRO.out.below hb
                  have hown3 := own_below HOWN.out hb
                  have hBx3 : B ≤ W1.heap.size := Nat.le_trans hBx hb.size
                  have hb3 : Below G w W1 := HB.out.trans (hb.mono (Nat.le_of_lt HRO.out.lt))
                  have HRO3 := Lib.hid hro3
                  have HOWN3 := Lib.hid hown3
                  clear hI hl hb hro3 hown3 HRO HOWN HB E1 HT1 HDL HT2 HT3
                  simp only [fillAll, Act.put, List.setIfInBounds_toArray, List.set_cons_succ, List.set_cons_zero]
                  show wpList _ _ _ [] _ _
                  have hv3 := HOWN3.out
                  go_wp2_with (at_builtin; go_must (refine wpList_append_new rfl _ _ 26 rfl B 3 (.int .i64 0) 1 8 Try.underlying26 (by kernel_rfl) rfl (by decide) _ _ _ rfl hv3 _ _ rfl rfl rfl (by omega) (by decide) hBx3 ?_))
                  intro g' cap' w' hown' hg' hor' hlt'
                  have hro4 : RowB w' G 3 .i64 (ints R) := (hg'.block G HRO3.out.lt (fun h => by have := (own_lt hv3 G h.symm).1; omega)).trans HRO3.out
                  have hb4 : Below G w w' := hb3.grown hg' (Nat.le_of_lt HRO3.out.lt) (fun r h => by have := (own_lt hv3 r h).1; omega)
                  have hBx4 := Nat.le_trans hBx3 hg'.size
                  have hown4 : w'.ownsRow B 3 1 (.slice (some ⟨g', 0, none⟩) (lo + 1) cap') (lo + 1) (vints .i64 (ints (o ++ [i]))) := by
                    rw [ints_snoc, ← vints_snoc]; exact hown'
                  have HOWN4 := Lib.hid hown4
                  have HRO4 := Lib.hid hro4
                  clear hown' hg' hor' hro4 hown4 hv3 HOWN3 HRO3 hb3
                  go_wp2
                  go_roundg (k - (i + 1))
                  case measure => rw [F2.out]; omega
                  case rel => exact ⟨i + 1, _, hlt, rfl, rfl, by go_num, by rw [HNX.out, List.length_append, List.length_singleton, ← HLO.out]; exact HOWN4.out, HRO4.out, hBx4, hb4⟩
              · have HT3 := Lib.hid (show ((lo : Int) == 0) = false by rw [beq_eq_false_iff_ne]; omega)
                obtain ⟨go, co, hform, hgo1, hgo2⟩ := HOWN.out.form q3
                injection hform with hf1 hf2 hf3
                subst hf1 hf3
                obtain ⟨j, hj⟩ : ∃ j, j = o.getD (lo - 1) 0 := ⟨_, rfl⟩
                have hlo1 : lo - 1 < o.length := by rw [← HLO.out]; omega
                have hji : j < i := HCB.out.2 j (by rw [hj, List.getD_eq_getElem?_getD, List.getElem?_eq_getElem hlo1]; exact List.getElem_mem hlo1)
                have E2 := Lib.hid (show wr.cell? ⟨go, lo - 1, none⟩ = some (.int .i64 j) by
                  rw [HOWN.out.cellAt (lo - 1) (by omega), vints_get .i64 _ _ (by rw [ints_len]; exact hlo1), ints_getD, ← hj])
                obtain ⟨l1, hl1⟩ : ∃ l1 : Int, l1 = (lo : Int) - 1 := ⟨_, rfl⟩
                have HL1 := Lib.hid (show IntKind.i64.wrap ((lo : Int) - 1) = l1 by rw [IntKind.wrap_i64]; omega)
                have HL2 := Lib.hid (show l1 = ((lo - 1 : Nat) : Int) by omega)
                have hal := HA.out.below SysAt.abides (show Below w.heap.size w wr by rw [← HG.out]; exact HB.out)
                obtain ⟨x, rfl, hx, _⟩ := HA.out (by rw [HM.out]; omega)
                obtain ⟨xb, xo, rfl, s0, a1, n1, c1, a2, n2, c2, a3, n3, c3, a4, n4, c4, a5, n5, c5, a6, n6, c6, hci, hyi⟩ := sys_cells hal i (by rw [HM.out]; exact hlt)
                obtain ⟨xb2, xo2, hxx, t0, b1, m1, d1, b2, m2, d2, b3, m3, d3, b4, m4, d4, b5, m5, d5, b6, m6, d6, hcj, hyj⟩ := sys_cells hal j (by rw [HM.out]; omega)
                injection hxx with hx1 hx2
                subst hx1 hx2
                have CC := Lib.hid (fun w' => plan_Conflict (.agg #[.string t0, .slice b1 m1 d1, .slice b2 m2 d2, .slice b3 m3 d3, .slice b4 m4 d4, .slice b5 m5 d5, .slice b6 m6 d6]) (.agg #[.string s0, .slice a1 n1 c1, .slice a2 n2 c2, .slice a3 n3 c3, .slice a4 n4 c4, .slice a5 n5 c5, .slice a6 n6 c6]) (sysN l j) (sysN l i) w')
                obtain ⟨cf, hcf⟩ : ∃ cf, cf = confB (sysN l j) (sysN l i) := ⟨_, rfl⟩
                rw [← hcf] at CC
                have HCF := Lib.hid hcf
                have HNY := Lib.hid (show chG l R b (i + 1) = if cf = true then o ++ [i] else o by
                  rw [HCS.out, ← hj, ← hcf]
                  cases cf with
                  | true => rw [if_pos ⟨q1, q2, Or.inr rfl⟩, if_pos rfl]
                  | false => rw [if_neg (by rintro ⟨_, _, h | h⟩; omega; cases h), if_neg (by decide)])
                have C7i := Lib.hid (show Cells7 wr xb (xo + i * 7) _ _ _ _ _ _ _ from hci)
                have C7j := Lib.hid (show Cells7 wr xb (xo + j * 7) _ _ _ _ _ _ _ from hcj)
                have HYI := Lib.hid hyi
                have HYJ := Lib.hid hyj
                have hjk : j < k := by omega
                clear HCS HCB hdl hal hyi hyj hx hcf hci hcj hl1 hj
                go_wp2_with fail
                refine wp_region_facts_t rfl 36 (by kernel_rfl) (F_cd go lo cv b G k i Ri xb xo c j dl l1 cf s0 a1 n1 c1 a2 n2 c2 a3 n3 c3 a4 n4 c4 a5 n5 c5 a6 n6 c6 t0 b1 m1 d1 b2 m2 d2 b3 m3 d3 b4 m4 d4 b5 m5 d5 b6 m6 d6) (F_cd_mono go lo cv b G k i Ri xb xo c j dl l1 cf s0 a1 n1 c1 a2 n2 c2 a3 n3 c3 a4 n4 c4 a5 n5 c5 a6 n6 c6 t0 b1 m1 d1 b2 m2 d2 b3 m3 d3 b4 m4 d4 b5 m5 d5 b6 m6 d6) ?_ ?_
                · refine ⟨?_, ?_, ?_, ?_, ?_, ?_, ?_, ?_, ?_, ?_, ?_, ?_, ?_, ?_, ?_, ?_, ?_, ?_, ?_, ?_, ?_, ?_, ?_, ?_, ?_, ?_, ?_, ?_, ?_, ?_, ?_, ?_, ?_, ?_, ?_, ?_, trivial⟩
                  · intro vs w' F hb hd hF hl hT
                    have e := (hF 8).trans (look_out _ 8 _ _ (by kernel_rfl))
                    exact one_move _ rfl (by first | exact Or.inl rfl | exact Or.inr rfl) ⟨_, rfl, Below.refl _ _, e⟩
                  · intro vs w' F hb hd hF hl hT
                    have e := (((hF 67).trans (look_at _ 67 0 _ _ (by kernel_rfl) (by kernel_rfl) hl)).trans (dep_of (Fact := F_cd go lo cv b G k i Ri xb xo c j dl l1 cf s0 a1 n1 c1 a2 n2 c2 a3 n3 c3 a4 n4 c4 a5 n5 c5 a6 n6 c6 t0 b1 m1 d1 b2 m2 d2 b3 m3 d3 b4 m4 d4 b5 m5 d5 b6 m6 d6) hd 0 (by kernel_rfl)))
                    exact one_len _ 26 _ rfl rfl Try.underlying26 _ _ _ e ⟨_, rfl, Below.refl _ _, rfl⟩
                  · intro vs w' F hb hd hF hl hT
                    have e := (hF 5).trans (look_out _ 5 _ _ (by kernel_rfl))
                    exact one_move _ rfl (by first | exact Or.inl rfl | exact Or.inr rfl) ⟨_, rfl, Below.refl _ _, e⟩
                  · intro vs w' F hb hd hF hl hT
                    have e1 := (((hF 68).trans (look_at _ 68 1 _ _ (by kernel_rfl) (by kernel_rfl) hl)).trans (dep_of (Fact := F_cd go lo cv b G k i Ri xb xo c j dl l1 cf s0 a1 n1 c1 a2 n2 c2 a3 n3 c3 a4 n4 c4 a5 n5 c5 a6 n6 c6 t0 b1 m1 d1 b2 m2 d2 b3 m3 d3 b4 m4 d4 b5 m5 d5 b6 m6 d6) hd 1 (by kernel_rfl)))
                    have e2 := (((hF 69).trans (look_at _ 69 2 _ _ (by kernel_rfl) (by kernel_rfl) hl)).trans (dep_of (Fact := F_cd go lo cv b G k i Ri xb xo c j dl l1 cf s0 a1 n1 c1 a2 n2 c2 a3 n3 c3 a4 n4 c4 a5 n5 c5 a6 n6 c6 t0 b1 m1 d1 b2 m2 d2 b3 m3 d3 b4 m4 d4 b5 m5 d5 b6 m6 d6) hd 2 (by kernel_rfl)))
                    exact one_int_lt _ _ _ _ rfl rfl _ _ _ true e1 e2 HT1.out ⟨_, rfl, Below.refl _ _, rfl⟩
                  · intro vs w' F hb hd hF hl hT
                    have e := ((hF 70).trans (look_at _ 70 3 _ _ (by kernel_rfl) (by kernel_rfl) hl)).trans (dep_of (Fact := F_cd go lo cv b G k i Ri xb xo c j dl l1 cf s0 a1 n1 c1 a2 n2 c2 a3 n3 c3 a4 n4 c4 a5 n5 c5 a6 n6 c6 t0 b1 m1 d1 b2 m2 d2 b3 m3 d3 b4 m4 d4 b5 m5 d5 b6 m6 d6) hd 3 (by kernel_rfl))
                    exact one_move _ rfl (by first | exact Or.inl rfl | exact Or.inr rfl) ⟨_, rfl, Below.refl _ _, e⟩
                  · intro vs w' F hb hd hF hl hT
                    have eg := ((hF 71).trans (look_at _ 71 4 _ _ (by kernel_rfl) (by kernel_rfl) hl)).trans (dep_of (Fact := F_cd go lo cv b G k i Ri xb xo c j dl l1 cf s0 a1 n1 c1 a2 n2 c2 a3 n3 c3 a4 n4 c4 a5 n5 c5 a6 n6 c6 t0 b1 m1 d1 b2 m2 d2 b3 m3 d3 b4 m4 d4 b5 m5 d5 b6 m6 d6) hd 4 (by kernel_rfl))
                    refine wpList_on rfl (t := 71) (by kernel_rfl) eg ?_
                    have e := (hF 4).trans (look_out _ 4 _ _ (by kernel_rfl))
                    exact one_move _ rfl (by first | exact Or.inl rfl | exact Or.inr rfl) ⟨_, rfl, Below.refl _ _, e⟩
                  · intro vs w' F hb hd hF hl hT
                    have eg := ((hF 71).trans (look_at _ 71 4 _ _ (by kernel_rfl) (by kernel_rfl) hl)).trans (dep_of (Fact := F_cd go lo cv b G k i Ri xb xo c j dl l1 cf s0 a1 n1 c1 a2 n2 c2 a3 n3 c3 a4 n4 c4 a5 n5 c5 a6 n6 c6 t0 b1 m1 d1 b2 m2 d2 b3 m3 d3 b4 m4 d4 b5 m5 d5 b6 m6 d6) hd 4 (by kernel_rfl))
                    refine wpList_on rfl (t := 71) (by kernel_rfl) eg ?_
                    have e := (hF 9).trans (look_out _ 9 _ _ (by kernel_rfl))
                    exact one_move _ rfl (by first | exact Or.inl rfl | exact Or.inr rfl) ⟨_, rfl, Below.refl _ _, e⟩
                  · intro vs w' F hb hd hF hl hT
                    have eg := ((hF 71).trans (look_at _ 71 4 _ _ (by kernel_rfl) (by kernel_rfl) hl)).trans (dep_of (Fact := F_cd go lo cv b G k i Ri xb xo c j dl l1 cf s0 a1 n1 c1 a2 n2 c2 a3 n3 c3 a4 n4 c4 a5 n5 c5 a6 n6 c6 t0 b1 m1 d1 b2 m2 d2 b3 m3 d3 b4 m4 d4 b5 m5 d5 b6 m6 d6) hd 4 (by kernel_rfl))
                    refine wpList_on rfl (t := 71) (by kernel_rfl) eg ?_
                    have ex := (((hF 72).trans (look_at _ 72 5 _ _ (by kernel_rfl) (by kernel_rfl) hl)).trans (dep_of (Fact := F_cd go lo cv b G k i Ri xb xo c j dl l1 cf s0 a1 n1 c1 a2 n2 c2 a3 n3 c3 a4 n4 c4 a5 n5 c5 a6 n6 c6 t0 b1 m1 d1 b2 m2 d2 b3 m3 d3 b4 m4 d4 b5 m5 d5 b6 m6 d6) hd 5 (by kernel_rfl)))
                    have ey := (((hF 73).trans (look_at _ 73 6 _ _ (by kernel_rfl) (by kernel_rfl) hl)).trans (dep_of (Fact := F_cd go lo cv b G k i Ri xb xo c j dl l1 cf s0 a1 n1 c1 a2 n2 c2 a3 n3 c3 a4 n4 c4 a5 n5 c5 a6 n6 c6 t0 b1 m1 d1 b2 m2 d2 b3 m3 d3 b4 m4 d4 b5 m5 d5 b6 m6 d6) hd 6 (by kernel_rfl)))
                    exact one_index 26 _ _ rfl rfl _ (.int .i64 i) (.pointer (some ⟨G, i, none⟩)) ex ey (fun w => idx_int G k k i (by omega) w) ⟨_, rfl, Below.refl _ _, rfl⟩
                  · intro vs w' F hb hd hF hl hT
                    have eg := ((hF 71).trans (look_at _ 71 4 _ _ (by kernel_rfl) (by kernel_rfl) hl)).trans (dep_of (Fact := F_cd go lo cv b G k i Ri xb xo c j dl l1 cf s0 a1 n1 c1 a2 n2 c2 a3 n3 c3 a4 n4 c4 a5 n5 c5 a6 n6 c6 t0 b1 m1 d1 b2 m2 d2 b3 m3 d3 b4 m4 d4 b5 m5 d5 b6 m6 d6) hd 4 (by kernel_rfl))
                    refine wpList_on rfl (t := 71) (by kernel_rfl) eg ?_
                    have e := ((hF 74).trans (look_at _ 74 7 _ _ (by kernel_rfl) (by kernel_rfl) hl)).trans (dep_of (Fact := F_cd go lo cv b G k i Ri xb xo c j dl l1 cf s0 a1 n1 c1 a2 n2 c2 a3 n3 c3 a4 n4 c4 a5 n5 c5 a6 n6 c6 t0 b1 m1 d1 b2 m2 d2 b3 m3 d3 b4 m4 d4 b5 m5 d5 b6 m6 d6) hd 7 (by kernel_rfl))
                    exact one_load _ _ rfl rfl _ _ e (cell_abides E1.out hb) (by kernel_rfl) ⟨_, rfl, Below.refl _ _, rfl⟩
                  · intro vs w' F hb hd hF hl hT
                    have eg := ((hF 71).trans (look_at _ 71 4 _ _ (by kernel_rfl) (by kernel_rfl) hl)).trans (dep_of (Fact := F_cd go lo cv b G k i Ri xb xo c j dl l1 cf s0 a1 n1 c1 a2 n2 c2 a3 n3 c3 a4 n4 c4 a5 n5 c5 a6 n6 c6 t0 b1 m1 d1 b2 m2 d2 b3 m3 d3 b4 m4 d4 b5 m5 d5 b6 m6 d6) hd 4 (by kernel_rfl))
                    refine wpList_on rfl (t := 71) (by kernel_rfl) eg ?_
                    have e := (hF 5).trans (look_out _ 5 _ _ (by kernel_rfl))
                    exact one_move _ rfl (by first | exact Or.inl rfl | exact Or.inr rfl) ⟨_, rfl, Below.refl _ _, e⟩
                  · intro vs w' F hb hd hF hl hT
                    have eg := ((hF 71).trans (look_at _ 71 4 _ _ (by kernel_rfl) (by kernel_rfl) hl)).trans (dep_of (Fact := F_cd go lo cv b G k i Ri xb xo c j dl l1 cf s0 a1 n1 c1 a2 n2 c2 a3 n3 c3 a4 n4 c4 a5 n5 c5 a6 n6 c6 t0 b1 m1 d1 b2 m2 d2 b3 m3 d3 b4 m4 d4 b5 m5 d5 b6 m6 d6) hd 4 (by kernel_rfl))
                    refine wpList_on rfl (t := 71) (by kernel_rfl) eg ?_
                    have e := (hF 8).trans (look_out _ 8 _ _ (by kernel_rfl))
                    exact one_move _ rfl (by first | exact Or.inl rfl | exact Or.inr rfl) ⟨_, rfl, Below.refl _ _, e⟩
                  · intro vs w' F hb hd hF hl hT
                    have eg := ((hF 71).trans (look_at _ 71 4 _ _ (by kernel_rfl) (by kernel_rfl) hl)).trans (dep_of (Fact := F_cd go lo cv b G k i Ri xb xo c j dl l1 cf s0 a1 n1 c1 a2 n2 c2 a3 n3 c3 a4 n4 c4 a5 n5 c5 a6 n6 c6 t0 b1 m1 d1 b2 m2 d2 b3 m3 d3 b4 m4 d4 b5 m5 d5 b6 m6 d6) hd 4 (by kernel_rfl))
                    refine wpList_on rfl (t := 71) (by kernel_rfl) eg ?_
                    have e := (((hF 77).trans (look_at _ 77 10 _ _ (by kernel_rfl) (by kernel_rfl) hl)).trans (dep_of (Fact := F_cd go lo cv b G k i Ri xb xo c j dl l1 cf s0 a1 n1 c1 a2 n2 c2 a3 n3 c3 a4 n4 c4 a5 n5 c5 a6 n6 c6 t0 b1 m1 d1 b2 m2 d2 b3 m3 d3 b4 m4 d4 b5 m5 d5 b6 m6 d6) hd 10 (by kernel_rfl)))
                    exact one_len _ 26 _ rfl rfl Try.underlying26 _ _ _ e ⟨_, rfl, Below.refl _ _, rfl⟩
                  · intro vs w' F hb hd hF hl hT
                    have eg := ((hF 71).trans (look_at _ 71 4 _ _ (by kernel_rfl) (by kernel_rfl) hl)).trans (dep_of (Fact := F_cd go lo cv b G k i Ri xb xo c j dl l1 cf s0 a1 n1 c1 a2 n2 c2 a3 n3 c3 a4 n4 c4 a5 n5 c5 a6 n6 c6 t0 b1 m1 d1 b2 m2 d2 b3 m3 d3 b4 m4 d4 b5 m5 d5 b6 m6 d6) hd 4 (by kernel_rfl))
                    refine wpList_on rfl (t := 71) (by kernel_rfl) eg ?_
                    have e1 := (((hF 76).trans (look_at _ 76 9 _ _ (by kernel_rfl) (by kernel_rfl) hl)).trans (dep_of (Fact := F_cd go lo cv b G k i Ri xb xo c j dl l1 cf s0 a1 n1 c1 a2 n2 c2 a3 n3 c3 a4 n4 c4 a5 n5 c5 a6 n6 c6 t0 b1 m1 d1 b2 m2 d2 b3 m3 d3 b4 m4 d4 b5 m5 d5 b6 m6 d6) hd 9 (by kernel_rfl)))
                    have e2 := (((hF 78).trans (look_at _ 78 11 _ _ (by kernel_rfl) (by kernel_rfl) hl)).trans (dep_of (Fact := F_cd go lo cv b G k i Ri xb xo c j dl l1 cf s0 a1 n1 c1 a2 n2 c2 a3 n3 c3 a4 n4 c4 a5 n5 c5 a6 n6 c6 t0 b1 m1 d1 b2 m2 d2 b3 m3 d3 b4 m4 d4 b5 m5 d5 b6 m6 d6) hd 11 (by kernel_rfl)))
                    exact one_int_sub _ _ _ _ rfl rfl _ _ dl e1 e2 HDL.out ⟨_, rfl, Below.refl _ _, rfl⟩
                  · intro vs w' F hb hd hF hl hT
                    have eg := ((hF 71).trans (look_at _ 71 4 _ _ (by kernel_rfl) (by kernel_rfl) hl)).trans (dep_of (Fact := F_cd go lo cv b G k i Ri xb xo c j dl l1 cf s0 a1 n1 c1 a2 n2 c2 a3 n3 c3 a4 n4 c4 a5 n5 c5 a6 n6 c6 t0 b1 m1 d1 b2 m2 d2 b3 m3 d3 b4 m4 d4 b5 m5 d5 b6 m6 d6) hd 4 (by kernel_rfl))
                    refine wpList_on rfl (t := 71) (by kernel_rfl) eg ?_
                    have e1 := (((hF 75).trans (look_at _ 75 8 _ _ (by kernel_rfl) (by kernel_rfl) hl)).trans (dep_of (Fact := F_cd go lo cv b G k i Ri xb xo c j dl l1 cf s0 a1 n1 c1 a2 n2 c2 a3 n3 c3 a4 n4 c4 a5 n5 c5 a6 n6 c6 t0 b1 m1 d1 b2 m2 d2 b3 m3 d3 b4 m4 d4 b5 m5 d5 b6 m6 d6) hd 8 (by kernel_rfl)))
                    have e2 := (((hF 79).trans (look_at _ 79 12 _ _ (by kernel_rfl) (by kernel_rfl) hl)).trans (dep_of (Fact := F_cd go lo cv b G k i Ri xb xo c j dl l1 cf s0 a1 n1 c1 a2 n2 c2 a3 n3 c3 a4 n4 c4 a5 n5 c5 a6 n6 c6 t0 b1 m1 d1 b2 m2 d2 b3 m3 d3 b4 m4 d4 b5 m5 d5 b6 m6 d6) hd 12 (by kernel_rfl)))
                    exact one_int_eq _ _ _ _ rfl rfl _ _ _ true e1 e2 HT2.out ⟨_, rfl, Below.refl _ _, rfl⟩
                  · intro vs w' F hb hd hF hl hT
                    have ec := ((hF 71).trans (look_at _ 71 4 _ _ (by kernel_rfl) (by kernel_rfl) hl)).trans (dep_of (Fact := F_cd go lo cv b G k i Ri xb xo c j dl l1 cf s0 a1 n1 c1 a2 n2 c2 a3 n3 c3 a4 n4 c4 a5 n5 c5 a6 n6 c6 t0 b1 m1 d1 b2 m2 d2 b3 m3 d3 b4 m4 d4 b5 m5 d5 b6 m6 d6) hd 4 (by kernel_rfl))
                    have e := ((hF 80).trans (look_at _ 80 13 _ _ (by kernel_rfl) (by kernel_rfl) hl)).trans (dep_of (Fact := F_cd go lo cv b G k i Ri xb xo c j dl l1 cf s0 a1 n1 c1 a2 n2 c2 a3 n3 c3 a4 n4 c4 a5 n5 c5 a6 n6 c6 t0 b1 m1 d1 b2 m2 d2 b3 m3 d3 b4 m4 d4 b5 m5 d5 b6 m6 d6) hd 13 (by kernel_rfl))
                    exact one_pick_t _ _ _ rfl rfl _ ec e ⟨_, rfl, Below.refl _ _, rfl⟩
                  · intro vs w' F hb hd hF hl hT
                    have e := ((hF 81).trans (look_at _ 81 14 _ _ (by kernel_rfl) (by kernel_rfl) hl)).trans (dep_of (Fact := F_cd go lo cv b G k i Ri xb xo c j dl l1 cf s0 a1 n1 c1 a2 n2 c2 a3 n3 c3 a4 n4 c4 a5 n5 c5 a6 n6 c6 t0 b1 m1 d1 b2 m2 d2 b3 m3 d3 b4 m4 d4 b5 m5 d5 b6 m6 d6) hd 14 (by kernel_rfl))
                    exact one_move _ rfl (by first | exact Or.inl rfl | exact Or.inr rfl) ⟨_, rfl, Below.refl _ _, e⟩
                  · intro vs w' F hb hd hF hl hT
                    have eg := ((hF 82).trans (look_at _ 82 15 _ _ (by kernel_rfl) (by kernel_rfl) hl)).trans (dep_of (Fact := F_cd go lo cv b G k i Ri xb xo c j dl l1 cf s0 a1 n1 c1 a2 n2 c2 a3 n3 c3 a4 n4 c4 a5 n5 c5 a6 n6 c6 t0 b1 m1 d1 b2 m2 d2 b3 m3 d3 b4 m4 d4 b5 m5 d5 b6 m6 d6) hd 15 (by kernel_rfl))
                    refine wpList_on rfl (t := 82) (by kernel_rfl) eg ?_
                    have e := (hF 8).trans (look_out _ 8 _ _ (by kernel_rfl))
                    exact one_move _ rfl (by first | exact Or.inl rfl | exact Or.inr rfl) ⟨_, rfl, Below.refl _ _, e⟩
                  · intro vs w' F hb hd hF hl hT
                    have eg := ((hF 82).trans (look_at _ 82 15 _ _ (by kernel_rfl) (by kernel_rfl) hl)).trans (dep_of (Fact := F_cd go lo cv b G k i Ri xb xo c j dl l1 cf s0 a1 n1 c1 a2 n2 c2 a3 n3 c3 a4 n4 c4 a5 n5 c5 a6 n6 c6 t0 b1 m1 d1 b2 m2 d2 b3 m3 d3 b4 m4 d4 b5 m5 d5 b6 m6 d6) hd 15 (by kernel_rfl))
                    refine wpList_on rfl (t := 82) (by kernel_rfl) eg ?_
                    have e := (((hF 83).trans (look_at _ 83 16 _ _ (by kernel_rfl) (by kernel_rfl) hl)).trans (dep_of (Fact := F_cd go lo cv b G k i Ri xb xo c j dl l1 cf s0 a1 n1 c1 a2 n2 c2 a3 n3 c3 a4 n4 c4 a5 n5 c5 a6 n6 c6 t0 b1 m1 d1 b2 m2 d2 b3 m3 d3 b4 m4 d4 b5 m5 d5 b6 m6 d6) hd 16 (by kernel_rfl)))
                    exact one_len _ 26 _ rfl rfl Try.underlying26 _ _ _ e ⟨_, rfl, Below.refl _ _, rfl⟩
                  · intro vs w' F hb hd hF hl hT
                    have eg := ((hF 82).trans (look_at _ 82 15 _ _ (by kernel_rfl) (by kernel_rfl) hl)).trans (dep_of (Fact := F_cd go lo cv b G k i Ri xb xo c j dl l1 cf s0 a1 n1 c1 a2 n2 c2 a3 n3 c3 a4 n4 c4 a5 n5 c5 a6 n6 c6 t0 b1 m1 d1 b2 m2 d2 b3 m3 d3 b4 m4 d4 b5 m5 d5 b6 m6 d6) hd 15 (by kernel_rfl))
                    refine wpList_on rfl (t := 82) (by kernel_rfl) eg ?_
                    have e1 := (((hF 84).trans (look_at _ 84 17 _ _ (by kernel_rfl) (by kernel_rfl) hl)).trans (dep_of (Fact := F_cd go lo cv b G k i Ri xb xo c j dl l1 cf s0 a1 n1 c1 a2 n2 c2 a3 n3 c3 a4 n4 c4 a5 n5 c5 a6 n6 c6 t0 b1 m1 d1 b2 m2 d2 b3 m3 d3 b4 m4 d4 b5 m5 d5 b6 m6 d6) hd 17 (by kernel_rfl)))
                    exact one_int_eq _ _ _ _ rfl rfl _ _ _ false e1 rfl HT3.out ⟨_, rfl, Below.refl _ _, rfl⟩
                  · intro vs w' F hb hd hF hl hT
                    have eg := ((hF 82).trans (look_at _ 82 15 _ _ (by kernel_rfl) (by kernel_rfl) hl)).trans (dep_of (Fact := F_cd go lo cv b G k i Ri xb xo c j dl l1 cf s0 a1 n1 c1 a2 n2 c2 a3 n3 c3 a4 n4 c4 a5 n5 c5 a6 n6 c6 t0 b1 m1 d1 b2 m2 d2 b3 m3 d3 b4 m4 d4 b5 m5 d5 b6 m6 d6) hd 15 (by kernel_rfl))
                    refine wpList_on rfl (t := 82) (by kernel_rfl) eg ?_
                    have e := ((hF 85).trans (look_at _ 85 18 _ _ (by kernel_rfl) (by kernel_rfl) hl)).trans (dep_of (Fact := F_cd go lo cv b G k i Ri xb xo c j dl l1 cf s0 a1 n1 c1 a2 n2 c2 a3 n3 c3 a4 n4 c4 a5 n5 c5 a6 n6 c6 t0 b1 m1 d1 b2 m2 d2 b3 m3 d3 b4 m4 d4 b5 m5 d5 b6 m6 d6) hd 18 (by kernel_rfl))
                    exact one_move _ rfl (by first | exact Or.inl rfl | exact Or.inr rfl) ⟨_, rfl, Below.refl _ _, e⟩
                  · intro vs w' F hb hd hF hl hT
                    have eg := ((hF 86).trans (look_at _ 86 19 _ _ (by kernel_rfl) (by kernel_rfl) hl)).trans (dep_of (Fact := F_cd go lo cv b G k i Ri xb xo c j dl l1 cf s0 a1 n1 c1 a2 n2 c2 a3 n3 c3 a4 n4 c4 a5 n5 c5 a6 n6 c6 t0 b1 m1 d1 b2 m2 d2 b3 m3 d3 b4 m4 d4 b5 m5 d5 b6 m6 d6) hd 19 (by kernel_rfl))
                    refine wpList_on rfl (t := 86) (by kernel_rfl) eg ?_
                    have e := (hF 0).trans (look_out _ 0 _ _ (by kernel_rfl))
                    exact one_move _ rfl (by first | exact Or.inl rfl | exact Or.inr rfl) ⟨_, rfl, Below.refl _ _, e⟩
                  · intro vs w' F hb hd hF hl hT
                    have eg := ((hF 86).trans (look_at _ 86 19 _ _ (by kernel_rfl) (by kernel_rfl) hl)).trans (dep_of (Fact := F_cd go lo cv b G k i Ri xb xo c j dl l1 cf s0 a1 n1 c1 a2 n2 c2 a3 n3 c3 a4 n4 c4 a5 n5 c5 a6 n6 c6 t0 b1 m1 d1 b2 m2 d2 b3 m3 d3 b4 m4 d4 b5 m5 d5 b6 m6 d6) hd 19 (by kernel_rfl))
                    refine wpList_on rfl (t := 86) (by kernel_rfl) eg ?_
                    have e := (hF 8).trans (look_out _ 8 _ _ (by kernel_rfl))
                    exact one_move _ rfl (by first | exact Or.inl rfl | exact Or.inr rfl) ⟨_, rfl, Below.refl _ _, e⟩
                  · intro vs w' F hb hd hF hl hT
                    have eg := ((hF 86).trans (look_at _ 86 19 _ _ (by kernel_rfl) (by kernel_rfl) hl)).trans (dep_of (Fact := F_cd go lo cv b G k i Ri xb xo c j dl l1 cf s0 a1 n1 c1 a2 n2 c2 a3 n3 c3 a4 n4 c4 a5 n5 c5 a6 n6 c6 t0 b1 m1 d1 b2 m2 d2 b3 m3 d3 b4 m4 d4 b5 m5 d5 b6 m6 d6) hd 19 (by kernel_rfl))
                    refine wpList_on rfl (t := 86) (by kernel_rfl) eg ?_
                    have e := (hF 8).trans (look_out _ 8 _ _ (by kernel_rfl))
                    exact one_move _ rfl (by first | exact Or.inl rfl | exact Or.inr rfl) ⟨_, rfl, Below.refl _ _, e⟩
                  · intro vs w' F hb hd hF hl hT
                    have eg := ((hF 86).trans (look_at _ 86 19 _ _ (by kernel_rfl) (by kernel_rfl) hl)).trans (dep_of (Fact := F_cd go lo cv b G k i Ri xb xo c j dl l1 cf s0 a1 n1 c1 a2 n2 c2 a3 n3 c3 a4 n4 c4 a5 n5 c5 a6 n6 c6 t0 b1 m1 d1 b2 m2 d2 b3 m3 d3 b4 m4 d4 b5 m5 d5 b6 m6 d6) hd 19 (by kernel_rfl))
                    refine wpList_on rfl (t := 86) (by kernel_rfl) eg ?_
                    have e := (((hF 89).trans (look_at _ 89 22 _ _ (by kernel_rfl) (by kernel_rfl) hl)).trans (dep_of (Fact := F_cd go lo cv b G k i Ri xb xo c j dl l1 cf s0 a1 n1 c1 a2 n2 c2 a3 n3 c3 a4 n4 c4 a5 n5 c5 a6 n6 c6 t0 b1 m1 d1 b2 m2 d2 b3 m3 d3 b4 m4 d4 b5 m5 d5 b6 m6 d6) hd 22 (by kernel_rfl)))
                    exact one_len _ 26 _ rfl rfl Try.underlying26 _ _ _ e ⟨_, rfl, Below.refl _ _, rfl⟩
                  · intro vs w' F hb hd hF hl hT
                    have eg := ((hF 86).trans (look_at _ 86 19 _ _ (by kernel_rfl) (by kernel_rfl) hl)).trans (dep_of (Fact := F_cd go lo cv b G k i Ri xb xo c j dl l1 cf s0 a1 n1 c1 a2 n2 c2 a3 n3 c3 a4 n4 c4 a5 n5 c5 a6 n6 c6 t0 b1 m1 d1 b2 m2 d2 b3 m3 d3 b4 m4 d4 b5 m5 d5 b6 m6 d6) hd 19 (by kernel_rfl))
                    refine wpList_on rfl (t := 86) (by kernel_rfl) eg ?_
                    have e1 := (((hF 90).trans (look_at _ 90 23 _ _ (by kernel_rfl) (by kernel_rfl) hl)).trans (dep_of (Fact := F_cd go lo cv b G k i Ri xb xo c j dl l1 cf s0 a1 n1 c1 a2 n2 c2 a3 n3 c3 a4 n4 c4 a5 n5 c5 a6 n6 c6 t0 b1 m1 d1 b2 m2 d2 b3 m3 d3 b4 m4 d4 b5 m5 d5 b6 m6 d6) hd 23 (by kernel_rfl)))
                    exact one_int_sub _ _ _ _ rfl rfl _ _ l1 e1 rfl HL1.out ⟨_, rfl, Below.refl _ _, rfl⟩
                  · intro vs w' F hb hd hF hl hT
                    have eg := ((hF 86).trans (look_at _ 86 19 _ _ (by kernel_rfl) (by kernel_rfl) hl)).trans (dep_of (Fact := F_cd go lo cv b G k i Ri xb xo c j dl l1 cf s0 a1 n1 c1 a2 n2 c2 a3 n3 c3 a4 n4 c4 a5 n5 c5 a6 n6 c6 t0 b1 m1 d1 b2 m2 d2 b3 m3 d3 b4 m4 d4 b5 m5 d5 b6 m6 d6) hd 19 (by kernel_rfl))
                    refine wpList_on rfl (t := 86) (by kernel_rfl) eg ?_
                    have ex := (((hF 88).trans (look_at _ 88 21 _ _ (by kernel_rfl) (by kernel_rfl) hl)).trans (dep_of (Fact := F_cd go lo cv b G k i Ri xb xo c j dl l1 cf s0 a1 n1 c1 a2 n2 c2 a3 n3 c3 a4 n4 c4 a5 n5 c5 a6 n6 c6 t0 b1 m1 d1 b2 m2 d2 b3 m3 d3 b4 m4 d4 b5 m5 d5 b6 m6 d6) hd 21 (by kernel_rfl)))
                    have ey := (((hF 91).trans (look_at _ 91 24 _ _ (by kernel_rfl) (by kernel_rfl) hl)).trans (dep_of (Fact := F_cd go lo cv b G k i Ri xb xo c j dl l1 cf s0 a1 n1 c1 a2 n2 c2 a3 n3 c3 a4 n4 c4 a5 n5 c5 a6 n6 c6 t0 b1 m1 d1 b2 m2 d2 b3 m3 d3 b4 m4 d4 b5 m5 d5 b6 m6 d6) hd 24 (by kernel_rfl)))
                    rw [HL2.out] at ey
                    exact one_index 26 _ _ rfl rfl _ (.int .i64 ((lo - 1 : Nat) : Int)) (.pointer (some ⟨go, lo - 1, none⟩)) ex ey (fun w => idx_int go lo cv (lo - 1) (by omega) w) ⟨_, rfl, Below.refl _ _, rfl⟩
                  · intro vs w' F hb hd hF hl hT
                    have eg := ((hF 86).trans (look_at _ 86 19 _ _ (by kernel_rfl) (by kernel_rfl) hl)).trans (dep_of (Fact := F_cd go lo cv b G k i Ri xb xo c j dl l1 cf s0 a1 n1 c1 a2 n2 c2 a3 n3 c3 a4 n4 c4 a5 n5 c5 a6 n6 c6 t0 b1 m1 d1 b2 m2 d2 b3 m3 d3 b4 m4 d4 b5 m5 d5 b6 m6 d6) hd 19 (by kernel_rfl))
                    refine wpList_on rfl (t := 86) (by kernel_rfl) eg ?_
                    have e := ((hF 92).trans (look_at _ 92 25 _ _ (by kernel_rfl) (by kernel_rfl) hl)).trans (dep_of (Fact := F_cd go lo cv b G k i Ri xb xo c j dl l1 cf s0 a1 n1 c1 a2 n2 c2 a3 n3 c3 a4 n4 c4 a5 n5 c5 a6 n6 c6 t0 b1 m1 d1 b2 m2 d2 b3 m3 d3 b4 m4 d4 b5 m5 d5 b6 m6 d6) hd 25 (by kernel_rfl))
                    exact one_load _ _ rfl rfl _ _ e (cell_abides E2.out hb) (by kernel_rfl) ⟨_, rfl, Below.refl _ _, rfl⟩
                  · intro vs w' F hb hd hF hl hT
                    have eg := ((hF 86).trans (look_at _ 86 19 _ _ (by kernel_rfl) (by kernel_rfl) hl)).trans (dep_of (Fact := F_cd go lo cv b G k i Ri xb xo c j dl l1 cf s0 a1 n1 c1 a2 n2 c2 a3 n3 c3 a4 n4 c4 a5 n5 c5 a6 n6 c6 t0 b1 m1 d1 b2 m2 d2 b3 m3 d3 b4 m4 d4 b5 m5 d5 b6 m6 d6) hd 19 (by kernel_rfl))
                    refine wpList_on rfl (t := 86) (by kernel_rfl) eg ?_
                    have ex := (((hF 87).trans (look_at _ 87 20 _ _ (by kernel_rfl) (by kernel_rfl) hl)).trans (dep_of (Fact := F_cd go lo cv b G k i Ri xb xo c j dl l1 cf s0 a1 n1 c1 a2 n2 c2 a3 n3 c3 a4 n4 c4 a5 n5 c5 a6 n6 c6 t0 b1 m1 d1 b2 m2 d2 b3 m3 d3 b4 m4 d4 b5 m5 d5 b6 m6 d6) hd 20 (by kernel_rfl)))
                    have ey := (((hF 93).trans (look_at _ 93 26 _ _ (by kernel_rfl) (by kernel_rfl) hl)).trans (dep_of (Fact := F_cd go lo cv b G k i Ri xb xo c j dl l1 cf s0 a1 n1 c1 a2 n2 c2 a3 n3 c3 a4 n4 c4 a5 n5 c5 a6 n6 c6 t0 b1 m1 d1 b2 m2 d2 b3 m3 d3 b4 m4 d4 b5 m5 d5 b6 m6 d6) hd 26 (by kernel_rfl)))
                    exact one_index 22 _ _ rfl rfl (.slice (some ⟨xb, xo, none⟩) k c) (.int .i64 j) (.pointer (some ⟨xb, xo + j * 7, none⟩)) ex ey (fun w => idx_sys xb xo k c j (by omega) w) ⟨_, rfl, Below.refl _ _, rfl⟩
                  · intro vs w' F hb hd hF hl hT
                    have eg := ((hF 86).trans (look_at _ 86 19 _ _ (by kernel_rfl) (by kernel_rfl) hl)).trans (dep_of (Fact := F_cd go lo cv b G k i Ri xb xo c j dl l1 cf s0 a1 n1 c1 a2 n2 c2 a3 n3 c3 a4 n4 c4 a5 n5 c5 a6 n6 c6 t0 b1 m1 d1 b2 m2 d2 b3 m3 d3 b4 m4 d4 b5 m5 d5 b6 m6 d6) hd 19 (by kernel_rfl))
                    refine wpList_on rfl (t := 86) (by kernel_rfl) eg ?_
                    have e := (((hF 94).trans (look_at _ 94 27 _ _ (by kernel_rfl) (by kernel_rfl) hl)).trans (dep_of (Fact := F_cd go lo cv b G k i Ri xb xo c j dl l1 cf s0 a1 n1 c1 a2 n2 c2 a3 n3 c3 a4 n4 c4 a5 n5 c5 a6 n6 c6 t0 b1 m1 d1 b2 m2 d2 b3 m3 d3 b4 m4 d4 b5 m5 d5 b6 m6 d6) hd 27 (by kernel_rfl)))
                    exact one_load7 30 _ rfl rfl xb (xo + j * 7) _ _ _ _ _ _ _ e (C7j.out.below hb) _ Try.underlying30 rfl (by kernel_rfl) ⟨_, rfl, Below.refl _ _, rfl⟩
                  · intro vs w' F hb hd hF hl hT
                    have eg := ((hF 86).trans (look_at _ 86 19 _ _ (by kernel_rfl) (by kernel_rfl) hl)).trans (dep_of (Fact := F_cd go lo cv b G k i Ri xb xo c j dl l1 cf s0 a1 n1 c1 a2 n2 c2 a3 n3 c3 a4 n4 c4 a5 n5 c5 a6 n6 c6 t0 b1 m1 d1 b2 m2 d2 b3 m3 d3 b4 m4 d4 b5 m5 d5 b6 m6 d6) hd 19 (by kernel_rfl))
                    refine wpList_on rfl (t := 86) (by kernel_rfl) eg ?_
                    have e := (hF 0).trans (look_out _ 0 _ _ (by kernel_rfl))
                    exact one_move _ rfl (by first | exact Or.inl rfl | exact Or.inr rfl) ⟨_, rfl, Below.refl _ _, e⟩
                  · intro vs w' F hb hd hF hl hT
                    have eg := ((hF 86).trans (look_at _ 86 19 _ _ (by kernel_rfl) (by kernel_rfl) hl)).trans (dep_of (Fact := F_cd go lo cv b G k i Ri xb xo c j dl l1 cf s0 a1 n1 c1 a2 n2 c2 a3 n3 c3 a4 n4 c4 a5 n5 c5 a6 n6 c6 t0 b1 m1 d1 b2 m2 d2 b3 m3 d3 b4 m4 d4 b5 m5 d5 b6 m6 d6) hd 19 (by kernel_rfl))
                    refine wpList_on rfl (t := 86) (by kernel_rfl) eg ?_
                    have e := (hF 9).trans (look_out _ 9 _ _ (by kernel_rfl))
                    exact one_move _ rfl (by first | exact Or.inl rfl | exact Or.inr rfl) ⟨_, rfl, Below.refl _ _, e⟩
                  · intro vs w' F hb hd hF hl hT
                    have eg := ((hF 86).trans (look_at _ 86 19 _ _ (by kernel_rfl) (by kernel_rfl) hl)).trans (dep_of (Fact := F_cd go lo cv b G k i Ri xb xo c j dl l1 cf s0 a1 n1 c1 a2 n2 c2 a3 n3 c3 a4 n4 c4 a5 n5 c5 a6 n6 c6 t0 b1 m1 d1 b2 m2 d2 b3 m3 d3 b4 m4 d4 b5 m5 d5 b6 m6 d6) hd 19 (by kernel_rfl))
                    refine wpList_on rfl (t := 86) (by kernel_rfl) eg ?_
                    have ex := (((hF 96).trans (look_at _ 96 29 _ _ (by kernel_rfl) (by kernel_rfl) hl)).trans (dep_of (Fact := F_cd go lo cv b G k i Ri xb xo c j dl l1 cf s0 a1 n1 c1 a2 n2 c2 a3 n3 c3 a4 n4 c4 a5 n5 c5 a6 n6 c6 t0 b1 m1 d1 b2 m2 d2 b3 m3 d3 b4 m4 d4 b5 m5 d5 b6 m6 d6) hd 29 (by kernel_rfl)))
                    have ey := (((hF 97).trans (look_at _ 97 30 _ _ (by kernel_rfl) (by kernel_rfl) hl)).trans (dep_of (Fact := F_cd go lo cv b G k i Ri xb xo c j dl l1 cf s0 a1 n1 c1 a2 n2 c2 a3 n3 c3 a4 n4 c4 a5 n5 c5 a6 n6 c6 t0 b1 m1 d1 b2 m2 d2 b3 m3 d3 b4 m4 d4 b5 m5 d5 b6 m6 d6) hd 30 (by kernel_rfl)))
                    exact one_index 22 _ _ rfl rfl (.slice (some ⟨xb, xo, none⟩) k c) (.int .i64 i) (.pointer (some ⟨xb, xo + i * 7, none⟩)) ex ey (fun w => idx_sys xb xo k c i (by omega) w) ⟨_, rfl, Below.refl _ _, rfl⟩
                  · intro vs w' F hb hd hF hl hT
                    have eg := ((hF 86).trans (look_at _ 86 19 _ _ (by kernel_rfl) (by kernel_rfl) hl)).trans (dep_of (Fact := F_cd go lo cv b G k i Ri xb xo c j dl l1 cf s0 a1 n1 c1 a2 n2 c2 a3 n3 c3 a4 n4 c4 a5 n5 c5 a6 n6 c6 t0 b1 m1 d1 b2 m2 d2 b3 m3 d3 b4 m4 d4 b5 m5 d5 b6 m6 d6) hd 19 (by kernel_rfl))
                    refine wpList_on rfl (t := 86) (by kernel_rfl) eg ?_
                    have e := (((hF 98).trans (look_at _ 98 31 _ _ (by kernel_rfl) (by kernel_rfl) hl)).trans (dep_of (Fact := F_cd go lo cv b G k i Ri xb xo c j dl l1 cf s0 a1 n1 c1 a2 n2 c2 a3 n3 c3 a4 n4 c4 a5 n5 c5 a6 n6 c6 t0 b1 m1 d1 b2 m2 d2 b3 m3 d3 b4 m4 d4 b5 m5 d5 b6 m6 d6) hd 31 (by kernel_rfl)))
                    exact one_load7 30 _ rfl rfl xb (xo + i * 7) _ _ _ _ _ _ _ e (C7i.out.below hb) _ Try.underlying30 rfl (by kernel_rfl) ⟨_, rfl, Below.refl _ _, rfl⟩
                  · intro vs w' F hb hd hF hl hT
                    have eg := ((hF 86).trans (look_at _ 86 19 _ _ (by kernel_rfl) (by kernel_rfl) hl)).trans (dep_of (Fact := F_cd go lo cv b G k i Ri xb xo c j dl l1 cf s0 a1 n1 c1 a2 n2 c2 a3 n3 c3 a4 n4 c4 a5 n5 c5 a6 n6 c6 t0 b1 m1 d1 b2 m2 d2 b3 m3 d3 b4 m4 d4 b5 m5 d5 b6 m6 d6) hd 19 (by kernel_rfl))
                    refine wpList_on rfl (t := 86) (by kernel_rfl) eg ?_
                    refine one_call _ _ rfl rfl (enters_of Try.func11 (by kernel_rfl) rfl) #[.agg #[.string t0, .slice b1 m1 d1, .slice b2 m2 d2, .slice b3 m3 d3, .slice b4 m4 d4, .slice b5 m5 d5, .slice b6 m6 d6], .agg #[.string s0, .slice a1 n1 c1, .slice a2 n2 c2, .slice a3 n3 c3, .slice a4 n4 c4, .slice a5 n5 c5, .slice a6 n6 c6]] (eval2 (((hF 95).trans (look_at _ 95 28 _ _ (by kernel_rfl) (by kernel_rfl) hl)).trans (dep_of (Fact := F_cd go lo cv b G k i Ri xb xo c j dl l1 cf s0 a1 n1 c1 a2 n2 c2 a3 n3 c3 a4 n4 c4 a5 n5 c5 a6 n6 c6 t0 b1 m1 d1 b2 m2 d2 b3 m3 d3 b4 m4 d4 b5 m5 d5 b6 m6 d6) hd 28 (by kernel_rfl))) (((hF 99).trans (look_at _ 99 32 _ _ (by kernel_rfl) (by kernel_rfl) hl)).trans (dep_of (Fact := F_cd go lo cv b G k i Ri xb xo c j dl l1 cf s0 a1 n1 c1 a2 n2 c2 a3 n3 c3 a4 n4 c4 a5 n5 c5 a6 n6 c6 t0 b1 m1 d1 b2 m2 d2 b3 m3 d3 b4 m4 d4 b5 m5 d5 b6 m6 d6) hd 32 (by kernel_rfl)))) ?_
                    refine (CC.out w' (HYJ.out.below hb) (HYI.out.below hb)).mono ?_
                    rintro e2 w2 ⟨rfl, hb2⟩
                    exact ⟨_, rfl, _, rfl, hb2, rfl⟩
                  · intro vs w' F hb hd hF hl hT
                    have eg := ((hF 82).trans (look_at _ 82 15 _ _ (by kernel_rfl) (by kernel_rfl) hl)).trans (dep_of (Fact := F_cd go lo cv b G k i Ri xb xo c j dl l1 cf s0 a1 n1 c1 a2 n2 c2 a3 n3 c3 a4 n4 c4 a5 n5 c5 a6 n6 c6 t0 b1 m1 d1 b2 m2 d2 b3 m3 d3 b4 m4 d4 b5 m5 d5 b6 m6 d6) hd 15 (by kernel_rfl))
                    refine wpList_on rfl (t := 82) (by kernel_rfl) eg ?_
                    have ec := ((hF 86).trans (look_at _ 86 19 _ _ (by kernel_rfl) (by kernel_rfl) hl)).trans (dep_of (Fact := F_cd go lo cv b G k i Ri xb xo c j dl l1 cf s0 a1 n1 c1 a2 n2 c2 a3 n3 c3 a4 n4 c4 a5 n5 c5 a6 n6 c6 t0 b1 m1 d1 b2 m2 d2 b3 m3 d3 b4 m4 d4 b5 m5 d5 b6 m6 d6) hd 19 (by kernel_rfl))
                    have e := ((hF 100).trans (look_at _ 100 33 _ _ (by kernel_rfl) (by kernel_rfl) hl)).trans (dep_of (Fact := F_cd go lo cv b G k i Ri xb xo c j dl l1 cf s0 a1 n1 c1 a2 n2 c2 a3 n3 c3 a4 n4 c4 a5 n5 c5 a6 n6 c6 t0 b1 m1 d1 b2 m2 d2 b3 m3 d3 b4 m4 d4 b5 m5 d5 b6 m6 d6) hd 33 (by kernel_rfl))
                    exact one_pick_f _ _ _ rfl rfl _ ec e ⟨_, rfl, Below.refl _ _, rfl⟩
                  · intro vs w' F hb hd hF hl hT
                    have ec := ((hF 82).trans (look_at _ 82 15 _ _ (by kernel_rfl) (by kernel_rfl) hl)).trans (dep_of (Fact := F_cd go lo cv b G k i Ri xb xo c j dl l1 cf s0 a1 n1 c1 a2 n2 c2 a3 n3 c3 a4 n4 c4 a5 n5 c5 a6 n6 c6 t0 b1 m1 d1 b2 m2 d2 b3 m3 d3 b4 m4 d4 b5 m5 d5 b6 m6 d6) hd 15 (by kernel_rfl))
                    have e := ((hF 101).trans (look_at _ 101 34 _ _ (by kernel_rfl) (by kernel_rfl) hl)).trans (dep_of (Fact := F_cd go lo cv b G k i Ri xb xo c j dl l1 cf s0 a1 n1 c1 a2 n2 c2 a3 n3 c3 a4 n4 c4 a5 n5 c5 a6 n6 c6 t0 b1 m1 d1 b2 m2 d2 b3 m3 d3 b4 m4 d4 b5 m5 d5 b6 m6 d6) hd 34 (by kernel_rfl))
                    exact one_pick_t _ _ _ rfl rfl _ ec e ⟨_, rfl, Below.refl _ _, rfl⟩
                · intro vs W1 hl hb hI
                  have hv : vs.getD 35 undef = .bool cf := hI 35 (by omega)
                  obtain ⟨x0, x1, x2, x3, x4, x5, x6, x7, x8, x9, x10, x11, x12, x13, x14, x15, x16, x17, x18, x19, x20, x21, x22, x23, x24, x25, x26, x27, x28, x29, x30, x31, x32, x33, x34, x35, hvs⟩ := list36 hl
                  subst hvs
                  replace hv : x35 = .bool cf := hv
                  subst hv
                  have hro3 : RowB W1 G 3 .i64 (ints R) := HRO.out.below hb
                  have hown3 := own_below HOWN.out hb
                  have hBx3 : B ≤ W1.heap.size := Nat.le_trans hBx hb.size
                  have hb3 : Below G w W1 := HB.out.trans (hb.mono (Nat.le_of_lt HRO.out.lt))
                  have HRO3 := Lib.hid hro3
                  have HOWN3 := Lib.hid hown3
                  clear hI hl hb hro3 hown3 HRO HOWN HB E1 HT1 HDL HT2 HT3 HL1 HL2 E2 C7i C7j HYI HYJ CC
                  simp only [fillAll, Act.put, List.setIfInBounds_toArray, List.set_cons_succ, List.set_cons_zero]
                  show wpList _ _ _ [] _ _
                  cases cf with
                  | true =>
                    have HNX := Lib.hid (HNY.out.trans (if_pos rfl))
                    have hv3 := HOWN3.out
                    go_wp2_with (at_builtin; go_must (refine wpList_append_new rfl _ _ 26 rfl B 3 (.int .i64 0) 1 8 Try.underlying26 (by kernel_rfl) rfl (by decide) _ _ _ rfl hv3 _ _ rfl rfl rfl (by omega) (by decide) hBx3 ?_))
                    intro g' cap' w' hown' hg' hor' hlt'
                    have hro4 : RowB w' G 3 .i64 (ints R) := (hg'.block G HRO3.out.lt (fun h => by have := (own_lt hv3 G h.symm).1; omega)).trans HRO3.out
                    have hb4 : Below G w w' := hb3.grown hg' (Nat.le_of_lt HRO3.out.lt) (fun r h => by have := (own_lt hv3 r h).1; omega)
                    have hBx4 := Nat.le_trans hBx3 hg'.size
                    have hown4 : w'.ownsRow B 3 1 (.slice (some ⟨g', 0, none⟩) (lo + 1) cap') (lo + 1) (vints .i64 (ints (o ++ [i]))) := by
                      rw [ints_snoc, ← vints_snoc]; exact hown'
                    have HOWN4 := Lib.hid hown4
                    have HRO4 := Lib.hid hro4
                    clear hown' hg' hor' hro4 hown4 hv3 HOWN3 HRO3 hb3
                    go_wp2
                    go_roundg (k - (i + 1))
                    case measure => rw [F2.out]; omega
                    case rel => exact ⟨i + 1, _, hlt, rfl, rfl, by go_num, by rw [HNX.out, List.length_append, List.length_singleton, ← HLO.out]; exact HOWN4.out, HRO4.out, hBx4, hb4⟩
                  | false =>
                    have HNX := Lib.hid (HNY.out.trans (if_neg (by decide)))
                    go_wp2
                    go_roundg (k - (i + 1))
                    case measure => rw [F2.out]; omega
                    case rel => exact ⟨i + 1, _, hlt, rfl, rfl, by go_num, by rw [HNX.out, ← HLO.out]; exact HOWN3.out, HRO3.out, hBx3, hb3⟩
            · have HT2 := Lib.hid (show ((Ri : Int) == dl) = false by rw [beq_eq_false_iff_ne]; omega)
              have HNX := Lib.hid (HCS.out.trans (if_neg (fun h => q2 h.2.1)))
              clear HCS HCB hdl
              go_wp2_with fail
              refine wp_region_facts_t rfl 36 (by kernel_rfl) (F_cb a c av lo cv b G k i Ri dl) (F_cb_mono a c av lo cv b G k i Ri dl) ?_ ?_
              · refine ⟨?_, ?_, ?_, ?_, ?_, ?_, ?_, ?_, ?_, ?_, ?_, ?_, ?_, ?_, ?_, ?_, ?_, ?_, ?_, ?_, ?_, ?_, ?_, ?_, ?_, ?_, ?_, ?_, ?_, ?_, ?_, ?_, ?_, ?_, ?_, ?_, trivial⟩
                · intro vs w' F hb hd hF hl hT
                  have e := (hF 8).trans (look_out _ 8 _ _ (by kernel_rfl))
                  exact one_move _ rfl (by first | exact Or.inl rfl | exact Or.inr rfl) ⟨_, rfl, Below.refl _ _, e⟩
                · intro vs w' F hb hd hF hl hT
                  have e := (((hF 67).trans (look_at _ 67 0 _ _ (by kernel_rfl) (by kernel_rfl) hl)).trans (dep_of (Fact := F_cb a c av lo cv b G k i Ri dl) hd 0 (by kernel_rfl)))
                  exact one_len _ 26 _ rfl rfl Try.underlying26 _ _ _ e ⟨_, rfl, Below.refl _ _, rfl⟩
                · intro vs w' F hb hd hF hl hT
                  have e := (hF 5).trans (look_out _ 5 _ _ (by kernel_rfl))
                  exact one_move _ rfl (by first | exact Or.inl rfl | exact Or.inr rfl) ⟨_, rfl, Below.refl _ _, e⟩
                · intro vs w' F hb hd hF hl hT
                  have e1 := (((hF 68).trans (look_at _ 68 1 _ _ (by kernel_rfl) (by kernel_rfl) hl)).trans (dep_of (Fact := F_cb a c av lo cv b G k i Ri dl) hd 1 (by kernel_rfl)))
                  have e2 := (((hF 69).trans (look_at _ 69 2 _ _ (by kernel_rfl) (by kernel_rfl) hl)).trans (dep_of (Fact := F_cb a c av lo cv b G k i Ri dl) hd 2 (by kernel_rfl)))
                  exact one_int_lt _ _ _ _ rfl rfl _ _ _ true e1 e2 HT1.out ⟨_, rfl, Below.refl _ _, rfl⟩
                · intro vs w' F hb hd hF hl hT
                  have e := ((hF 70).trans (look_at _ 70 3 _ _ (by kernel_rfl) (by kernel_rfl) hl)).trans (dep_of (Fact := F_cb a c av lo cv b G k i Ri dl) hd 3 (by kernel_rfl))
                  exact one_move _ rfl (by first | exact Or.inl rfl | exact Or.inr rfl) ⟨_, rfl, Below.refl _ _, e⟩
                · intro vs w' F hb hd hF hl hT
                  have eg := ((hF 71).trans (look_at _ 71 4 _ _ (by kernel_rfl) (by kernel_rfl) hl)).trans (dep_of (Fact := F_cb a c av lo cv b G k i Ri dl) hd 4 (by kernel_rfl))
                  refine wpList_on rfl (t := 71) (by kernel_rfl) eg ?_
                  have e := (hF 4).trans (look_out _ 4 _ _ (by kernel_rfl))
                  exact one_move _ rfl (by first | exact Or.inl rfl | exact Or.inr rfl) ⟨_, rfl, Below.refl _ _, e⟩
                · intro vs w' F hb hd hF hl hT
                  have eg := ((hF 71).trans (look_at _ 71 4 _ _ (by kernel_rfl) (by kernel_rfl) hl)).trans (dep_of (Fact := F_cb a c av lo cv b G k i Ri dl) hd 4 (by kernel_rfl))
                  refine wpList_on rfl (t := 71) (by kernel_rfl) eg ?_
                  have e := (hF 9).trans (look_out _ 9 _ _ (by kernel_rfl))
                  exact one_move _ rfl (by first | exact Or.inl rfl | exact Or.inr rfl) ⟨_, rfl, Below.refl _ _, e⟩
                · intro vs w' F hb hd hF hl hT
                  have eg := ((hF 71).trans (look_at _ 71 4 _ _ (by kernel_rfl) (by kernel_rfl) hl)).trans (dep_of (Fact := F_cb a c av lo cv b G k i Ri dl) hd 4 (by kernel_rfl))
                  refine wpList_on rfl (t := 71) (by kernel_rfl) eg ?_
                  have ex := (((hF 72).trans (look_at _ 72 5 _ _ (by kernel_rfl) (by kernel_rfl) hl)).trans (dep_of (Fact := F_cb a c av lo cv b G k i Ri dl) hd 5 (by kernel_rfl)))
                  have ey := (((hF 73).trans (look_at _ 73 6 _ _ (by kernel_rfl) (by kernel_rfl) hl)).trans (dep_of (Fact := F_cb a c av lo cv b G k i Ri dl) hd 6 (by kernel_rfl)))
                  exact one_index 26 _ _ rfl rfl _ (.int .i64 i) (.pointer (some ⟨G, i, none⟩)) ex ey (fun w => idx_int G k k i (by omega) w) ⟨_, rfl, Below.refl _ _, rfl⟩
                · intro vs w' F hb hd hF hl hT
                  have eg := ((hF 71).trans (look_at _ 71 4 _ _ (by kernel_rfl) (by kernel_rfl) hl)).trans (dep_of (Fact := F_cb a c av lo cv b G k i Ri dl) hd 4 (by kernel_rfl))
                  refine wpList_on rfl (t := 71) (by kernel_rfl) eg ?_
                  have e := ((hF 74).trans (look_at _ 74 7 _ _ (by kernel_rfl) (by kernel_rfl) hl)).trans (dep_of (Fact := F_cb a c av lo cv b G k i Ri dl) hd 7 (by kernel_rfl))
                  exact one_load _ _ rfl rfl _ _ e (cell_abides E1.out hb) (by kernel_rfl) ⟨_, rfl, Below.refl _ _, rfl⟩
                · intro vs w' F hb hd hF hl hT
                  have eg := ((hF 71).trans (look_at _ 71 4 _ _ (by kernel_rfl) (by kernel_rfl) hl)).trans (dep_of (Fact := F_cb a c av lo cv b G k i Ri dl) hd 4 (by kernel_rfl))
                  refine wpList_on rfl (t := 71) (by kernel_rfl) eg ?_
                  have e := (hF 5).trans (look_out _ 5 _ _ (by kernel_rfl))
                  exact one_move _ rfl (by first | exact Or.inl rfl | exact Or.inr rfl) ⟨_, rfl, Below.refl _ _, e⟩
                · intro vs w' F hb hd hF hl hT
                  have eg := ((hF 71).trans (look_at _ 71 4 _ _ (by kernel_rfl) (by kernel_rfl) hl)).trans (dep_of (Fact := F_cb a c av lo cv b G k i Ri dl) hd 4 (by kernel_rfl))
                  refine wpList_on rfl (t := 71) (by kernel_rfl) eg ?_
                  have e := (hF 8).trans (look_out _ 8 _ _ (by kernel_rfl))
                  exact one_move _ rfl (by first | exact Or.inl rfl | exact Or.inr rfl) ⟨_, rfl, Below.refl _ _, e⟩
                · intro vs w' F hb hd hF hl hT
                  have eg := ((hF 71).trans (look_at _ 71 4 _ _ (by kernel_rfl) (by kernel_rfl) hl)).trans (dep_of (Fact := F_cb a c av lo cv b G k i Ri dl) hd 4 (by kernel_rfl))
                  refine wpList_on rfl (t := 71) (by kernel_rfl) eg ?_
                  have e := (((hF 77).trans (look_at _ 77 10 _ _ (by kernel_rfl) (by kernel_rfl) hl)).trans (dep_of (Fact := F_cb a c av lo cv b G k i Ri dl) hd 10 (by kernel_rfl)))
                  exact one_len _ 26 _ rfl rfl Try.underlying26 _ _ _ e ⟨_, rfl, Below.refl _ _, rfl⟩
                · intro vs w' F hb hd hF hl hT
                  have eg := ((hF 71).trans (look_at _ 71 4 _ _ (by kernel_rfl) (by kernel_rfl) hl)).trans (dep_of (Fact := F_cb a c av lo cv b G k i Ri dl) hd 4 (by kernel_rfl))
                  refine wpList_on rfl (t := 71) (by kernel_rfl) eg ?_
                  have e1 := (((hF 76).trans (look_at _ 76 9 _ _ (by kernel_rfl) (by kernel_rfl) hl)).trans (dep_of (Fact := F_cb a c av lo cv b G k i Ri dl) hd 9 (by kernel_rfl)))
                  have e2 := (((hF 78).trans (look_at _ 78 11 _ _ (by kernel_rfl) (by kernel_rfl) hl)).trans (dep_of (Fact := F_cb a c av lo cv b G k i Ri dl) hd 11 (by kernel_rfl)))
                  exact one_int_sub _ _ _ _ rfl rfl _ _ dl e1 e2 HDL.out ⟨_, rfl, Below.refl _ _, rfl⟩
                · intro vs w' F hb hd hF hl hT
                  have eg := ((hF 71).trans (look_at _ 71 4 _ _ (by kernel_rfl) (by kernel_rfl) hl)).trans (dep_of (Fact := F_cb a c av lo cv b G k i Ri dl) hd 4 (by kernel_rfl))
                  refine wpList_on rfl (t := 71) (by kernel_rfl) eg ?_
                  have e1 := (((hF 75).trans (look_at _ 75 8 _ _ (by kernel_rfl) (by kernel_rfl) hl)).trans (dep_of (Fact := F_cb a c av lo cv b G k i Ri dl) hd 8 (by kernel_rfl)))
                  have e2 := (((hF 79).trans (look_at _ 79 12 _ _ (by kernel_rfl) (by kernel_rfl) hl)).trans (dep_of (Fact := F_cb a c av lo cv b G k i Ri dl) hd 12 (by kernel_rfl)))
                  exact one_int_eq _ _ _ _ rfl rfl _ _ _ false e1 e2 HT2.out ⟨_, rfl, Below.refl _ _, rfl⟩
                · intro vs w' F hb hd hF hl hT
                  have ec := ((hF 71).trans (look_at _ 71 4 _ _ (by kernel_rfl) (by kernel_rfl) hl)).trans (dep_of (Fact := F_cb a c av lo cv b G k i Ri dl) hd 4 (by kernel_rfl))
                  have e := ((hF 80).trans (look_at _ 80 13 _ _ (by kernel_rfl) (by kernel_rfl) hl)).trans (dep_of (Fact := F_cb a c av lo cv b G k i Ri dl) hd 13 (by kernel_rfl))
                  exact one_pick_t _ _ _ rfl rfl _ ec e ⟨_, rfl, Below.refl _ _, rfl⟩
                · intro vs w' F hb hd hF hl hT
                  have e := ((hF 81).trans (look_at _ 81 14 _ _ (by kernel_rfl) (by kernel_rfl) hl)).trans (dep_of (Fact := F_cb a c av lo cv b G k i Ri dl) hd 14 (by kernel_rfl))
                  exact one_move _ rfl (by first | exact Or.inl rfl | exact Or.inr rfl) ⟨_, rfl, Below.refl _ _, e⟩
                · intro vs w' F hb hd hF hl hT
                  have eg := ((hF 82).trans (look_at _ 82 15 _ _ (by kernel_rfl) (by kernel_rfl) hl)).trans (dep_of (Fact := F_cb a c av lo cv b G k i Ri dl) hd 15 (by kernel_rfl))
                  exact wpList_off rfl (t := 82) (d := false) (by kernel_rfl) eg (by decide) ⟨_, rfl, Below.refl _ _, rfl⟩
                · intro vs w' F hb hd hF hl hT
                  have eg := ((hF 82).trans (look_at _ 82 15 _ _ (by kernel_rfl) (by kernel_rfl) hl)).trans (dep_of (Fact := F_cb a c av lo cv b G k i Ri dl) hd 15 (by kernel_rfl))
                  exact wpList_off rfl (t := 82) (d := false) (by kernel_rfl) eg (by decide) ⟨_, rfl, Below.refl _ _, rfl⟩
                · intro vs w' F hb hd hF hl hT
                  have eg := ((hF 82).trans (look_at _ 82 15 _ _ (by kernel_rfl) (by kernel_rfl) hl)).trans (dep_of (Fact := F_cb a c av lo cv b G k i Ri dl) hd 15 (by kernel_rfl))
                  exact wpList_off rfl (t := 82) (d := false) (by kernel_rfl) eg (by decide) ⟨_, rfl, Below.refl _ _, rfl⟩
                · intro vs w' F hb hd hF hl hT
                  have eg := ((hF 82).trans (look_at _ 82 15 _ _ (by kernel_rfl) (by kernel_rfl) hl)).trans (dep_of (Fact := F_cb a c av lo cv b G k i Ri dl) hd 15 (by kernel_rfl))
                  exact wpList_off rfl (t := 82) (d := false) (by kernel_rfl) eg (by decide) ⟨_, rfl, Below.refl _ _, rfl⟩
                · intro vs w' F hb hd hF hl hT
                  have eg := ((hF 86).trans (look_at _ 86 19 _ _ (by kernel_rfl) (by kernel_rfl) hl)).trans (dep_of (Fact := F_cb a c av lo cv b G k i Ri dl) hd 19 (by kernel_rfl))
                  exact wpList_offu rfl (t := 86) (by kernel_rfl) eg ⟨_, rfl, Below.refl _ _, rfl⟩
                · intro vs w' F hb hd hF hl hT
                  have eg := ((hF 86).trans (look_at _ 86 19 _ _ (by kernel_rfl) (by kernel_rfl) hl)).trans (dep_of (Fact := F_cb a c av lo cv b G k i Ri dl) hd 19 (by kernel_rfl))
                  exact wpList_offu rfl (t := 86) (by kernel_rfl) eg ⟨_, rfl, Below.refl _ _, rfl⟩
                · intro vs w' F hb hd hF hl hT
                  have eg := ((hF 86).trans (look_at _ 86 19 _ _ (by kernel_rfl) (by kernel_rfl) hl)).trans (dep_of (Fact := F_cb a c av lo cv b G k i Ri dl) hd 19 (by kernel_rfl))
                  exact wpList_offu rfl (t := 86) (by kernel_rfl) eg ⟨_, rfl, Below.refl _ _, rfl⟩
                · intro vs w' F hb hd hF hl hT
                  have eg := ((hF 86).trans (look_at _ 86 19 _ _ (by kernel_rfl) (by kernel_rfl) hl)).trans (dep_of (Fact := F_cb a c av lo cv b G k i Ri dl) hd 19 (by kernel_rfl))
                  exact wpList_offu rfl (t := 86) (by kernel_rfl) eg ⟨_, rfl, Below.refl _ _, rfl⟩
                · intro vs w' F hb hd hF hl hT
                  have eg := ((hF 86).trans (look_at _ 86 19 _ _ (by kernel_rfl) (by kernel_rfl) hl)).trans (dep_of (Fact := F_cb a c av lo cv b G k i Ri dl) hd 19 (by kernel_rfl))
                  exact wpList_offu rfl (t := 86) (by kernel_rfl) eg ⟨_, rfl, Below.refl _ _, rfl⟩
                · intro vs w' F hb hd hF hl hT
                  have eg := ((hF 86).trans (look_at _ 86 19 _ _ (by kernel_rfl) (by kernel_rfl) hl)).trans (dep_of (Fact := F_cb a c av lo cv b G k i Ri dl) hd 19 (by kernel_rfl))
                  exact wpList_offu rfl (t := 86) (by kernel_rfl) eg ⟨_, rfl, Below.refl _ _, rfl⟩
                · intro vs w' F hb hd hF hl hT
                  have eg := ((hF 86).trans (look_at _ 86 19 _ _ (by kernel_rfl) (by kernel_rfl) hl)).trans (dep_of (Fact := F_cb a c av lo cv b G k i Ri dl) hd 19 (by kernel_rfl))
                  exact wpList_offu rfl (t := 86) (by kernel_rfl) eg ⟨_, rfl, Below.refl _ _, rfl⟩
                · intro vs w' F hb hd hF hl hT
                  have eg := ((hF 86).trans (look_at _ 86 19 _ _ (by kernel_rfl) (by kernel_rfl) hl)).trans (dep_of (Fact := F_cb a c av lo cv b G k i Ri dl) hd 19 (by kernel_rfl))
                  exact wpList_offu rfl (t := 86) (by kernel_rfl) eg ⟨_, rfl, Below.refl _ _, rfl⟩
                · intro vs w' F hb hd hF hl hT
                  have eg := ((hF 86).trans (look_at _ 86 19 _ _ (by kernel_rfl) (by kernel_rfl) hl)).trans (dep_of (Fact := F_cb a c av lo cv b G k i Ri dl) hd 19 (by kernel_rfl))
                  exact wpList_offu rfl (t := 86) (by kernel_rfl) eg ⟨_, rfl, Below.refl _ _, rfl⟩
                · intro vs w' F hb hd hF hl hT
                  have eg := ((hF 86).trans (look_at _ 86 19 _ _ (by kernel_rfl) (by kernel_rfl) hl)).trans (dep_of (Fact := F_cb a c av lo cv b G k i Ri dl) hd 19 (by kernel_rfl))
                  exact wpList_offu rfl (t := 86) (by kernel_rfl) eg ⟨_, rfl, Below.refl _ _, rfl⟩
                · intro vs w' F hb hd hF hl hT
                  have eg := ((hF 86).trans (look_at _ 86 19 _ _ (by kernel_rfl) (by kernel_rfl) hl)).trans (dep_of (Fact := F_cb a c av lo cv b G k i Ri dl) hd 19 (by kernel_rfl))
                  exact wpList_offu rfl (t := 86) (by kernel_rfl) eg ⟨_, rfl, Below.refl _ _, rfl⟩
                · intro vs w' F hb hd hF hl hT
                  have eg := ((hF 86).trans (look_at _ 86 19 _ _ (by kernel_rfl) (by kernel_rfl) hl)).trans (dep_of (Fact := F_cb a c av lo cv b G k i Ri dl) hd 19 (by kernel_rfl))
                  exact wpList_offu rfl (t := 86) (by kernel_rfl) eg ⟨_, rfl, Below.refl _ _, rfl⟩
                · intro vs w' F hb hd hF hl hT
                  have eg := ((hF 86).trans (look_at _ 86 19 _ _ (by kernel_rfl) (by kernel_rfl) hl)).trans (dep_of (Fact := F_cb a c av lo cv b G k i Ri dl) hd 19 (by kernel_rfl))
                  exact wpList_offu rfl (t := 86) (by kernel_rfl) eg ⟨_, rfl, Below.refl _ _, rfl⟩
                · intro vs w' F hb hd hF hl hT
                  have eg := ((hF 86).trans (look_at _ 86 19 _ _ (by kernel_rfl) (by kernel_rfl) hl)).trans (dep_of (Fact := F_cb a c av lo cv b G k i Ri dl) hd 19 (by kernel_rfl))
                  exact wpList_offu rfl (t := 86) (by kernel_rfl) eg ⟨_, rfl, Below.refl _ _, rfl⟩
                · intro vs w' F hb hd hF hl hT
                  have eg := ((hF 82).trans (look_at _ 82 15 _ _ (by kernel_rfl) (by kernel_rfl) hl)).trans (dep_of (Fact := F_cb a c av lo cv b G k i Ri dl) hd 15 (by kernel_rfl))
                  exact wpList_off rfl (t := 82) (d := false) (by kernel_rfl) eg (by decide) ⟨_, rfl, Below.refl _ _, rfl⟩
                · intro vs w' F hb hd hF hl hT
                  have ec := ((hF 82).trans (look_at _ 82 15 _ _ (by kernel_rfl) (by kernel_rfl) hl)).trans (dep_of (Fact := F_cb a c av lo cv b G k i Ri dl) hd 15 (by kernel_rfl))
                  exact one_pick_f _ _ _ rfl rfl _ ec rfl ⟨_, rfl, Below.refl _ _, rfl⟩
              · intro vs W1 hl hb hI
                have hv : vs.getD 35 undef = .bool false := hI 35 (by omega)
                obtain ⟨x0, x1, x2, x3, x4, x5, x6, x7, x8, x9, x10, x11, x12, x13, x14, x15, x16, x17, x18, x19, x20, x21, x22, x23, x24, x25, x26, x27, x28, x29, x30, x31, x32, x33, x34, x35, hvs⟩ := list36 hl
                subst hvs
                replace hv : x35 = .bool false := hv
                subst hv
                have hro3 : RowB W1 G 3 .i64 (ints R) := HRO.out.below hb
                have hown3 := own_below HOWN.out hb
                have hBx3 : B ≤ W1.heap.size := Nat.le_trans hBx hb.size
                have hb3 : Below G w W1 := HB.out.trans (hb.mono (Nat.le_of_lt HRO.out.lt))
                have HRO3 := Lib.hid hro3
                have HOWN3 := Lib.hid hown3
                clear hI hl hb hro3 hown3 HRO HOWN HB E1 HT1 HDL HT2
                simp only [fillAll, Act.put, List.setIfInBounds_toArray, List.set_cons_succ, List.set_cons_zero]
                show wpList _ _ _ [] _ _
                go_wp2
                go_roundg (k - (i + 1))
                case measure => rw [F2.out]; omega
                case rel => exact ⟨i + 1, _, hlt, rfl, rfl, by go_num, by rw [HNX.out, ← HLO.out]; exact HOWN3.out, HRO3.out, hBx3, hb3⟩
          · have HT1 := Lib.hid (show decide ((lo : Int) < (b : Int)) = false from decide_eq_false (by omega))
            have HNX := Lib.hid (HCS.out.trans (if_neg (fun h => q1 h.1)))
            clear HCS HCB
            obtain ⟨dl, _⟩ : ∃ dl : Int, dl = 0 := ⟨_, rfl⟩
            go_wp2_with fail
            refine wp_region_facts_t rfl 36 (by kernel_rfl) (F_ca a c av lo cv b G k i Ri dl) (F_ca_mono a c av lo cv b G k i Ri dl) ?_ ?_
            · refine ⟨?_, ?_, ?_, ?_, ?_, ?_, ?_, ?_, ?_, ?_, ?_, ?_, ?_, ?_, ?_, ?_, ?_, ?_, ?_, ?_, ?_, ?_, ?_, ?_, ?_, ?_, ?_, ?_, ?_, ?_, ?_, ?_, ?_, ?_, ?_, ?_, trivial⟩
              · intro vs w' F hb hd hF hl hT
                have e := (hF 8).trans (look_out _ 8 _ _ (by kernel_rfl))
                exact one_move _ rfl (by first | exact Or.inl rfl | exact Or.inr rfl) ⟨_, rfl, Below.refl _ _, e⟩
              · intro vs w' F hb hd hF hl hT
                have e := (((hF 67).trans (look_at _ 67 0 _ _ (by kernel_rfl) (by kernel_rfl) hl)).trans (dep_of (Fact := F_ca a c av lo cv b G k i Ri dl) hd 0 (by kernel_rfl)))
                exact one_len _ 26 _ rfl rfl Try.underlying26 _ _ _ e ⟨_, rfl, Below.refl _ _, rfl⟩
              · intro vs w' F hb hd hF hl hT
                have e := (hF 5).trans (look_out _ 5 _ _ (by kernel_rfl))
                exact one_move _ rfl (by first | exact Or.inl rfl | exact Or.inr rfl) ⟨_, rfl, Below.refl _ _, e⟩
              · intro vs w' F hb hd hF hl hT
                have e1 := (((hF 68).trans (look_at _ 68 1 _ _ (by kernel_rfl) (by kernel_rfl) hl)).trans (dep_of (Fact := F_ca a c av lo cv b G k i Ri dl) hd 1 (by kernel_rfl)))
                have e2 := (((hF 69).trans (look_at _ 69 2 _ _ (by kernel_rfl) (by kernel_rfl) hl)).trans (dep_of (Fact := F_ca a c av lo cv b G k i Ri dl) hd 2 (by kernel_rfl)))
                exact one_int_lt _ _ _ _ rfl rfl _ _ _ false e1 e2 HT1.out ⟨_, rfl, Below.refl _ _, rfl⟩
              · intro vs w' F hb hd hF hl hT
                have e := ((hF 70).trans (look_at _ 70 3 _ _ (by kernel_rfl) (by kernel_rfl) hl)).trans (dep_of (Fact := F_ca a c av lo cv b G k i Ri dl) hd 3 (by kernel_rfl))
                exact one_move _ rfl (by first | exact Or.inl rfl | exact Or.inr rfl) ⟨_, rfl, Below.refl _ _, e⟩
              · intro vs w' F hb hd hF hl hT
                have eg := ((hF 71).trans (look_at _ 71 4 _ _ (by kernel_rfl) (by kernel_rfl) hl)).trans (dep_of (Fact := F_ca a c av lo cv b G k i Ri dl) hd 4 (by kernel_rfl))
                exact wpList_off rfl (t := 71) (d := false) (by kernel_rfl) eg (by decide) ⟨_, rfl, Below.refl _ _, rfl⟩
              · intro vs w' F hb hd hF hl hT
                have eg := ((hF 71).trans (look_at _ 71 4 _ _ (by kernel_rfl) (by kernel_rfl) hl)).trans (dep_of (Fact := F_ca a c av lo cv b G k i Ri dl) hd 4 (by kernel_rfl))
                exact wpList_off rfl (t := 71) (d := false) (by kernel_rfl) eg (by decide) ⟨_, rfl, Below.refl _ _, rfl⟩
              · intro vs w' F hb hd hF hl hT
                have eg := ((hF 71).trans (look_at _ 71 4 _ _ (by kernel_rfl) (by kernel_rfl) hl)).trans (dep_of (Fact := F_ca a c av lo cv b G k i Ri dl) hd 4 (by kernel_rfl))
                exact wpList_off rfl (t := 71) (d := false) (by kernel_rfl) eg (by decide) ⟨_, rfl, Below.refl _ _, rfl⟩
              · intro vs w' F hb hd hF hl hT
                have eg := ((hF 71).trans (look_at _ 71 4 _ _ (by kernel_rfl) (by kernel_rfl) hl)).trans (dep_of (Fact := F_ca a c av lo cv b G k i Ri dl) hd 4 (by kernel_rfl))
                exact wpList_off rfl (t := 71) (d := false) (by kernel_rfl) eg (by decide) ⟨_, rfl, Below.refl _ _, rfl⟩
              · intro vs w' F hb hd hF hl hT
                have eg := ((hF 71).trans (look_at _ 71 4 _ _ (by kernel_rfl) (by kernel_rfl) hl)).trans (dep_of (Fact := F_ca a c av lo cv b G k i Ri dl) hd 4 (by kernel_rfl))
                exact wpList_off rfl (t := 71) (d := false) (by kernel_rfl) eg (by decide) ⟨_, rfl, Below.refl _ _, rfl⟩
              · intro vs w' F hb hd hF hl hT
                have eg := ((hF 71).trans (look_at _ 71 4 _ _ (by kernel_rfl) (by kernel_rfl) hl)).trans (dep_of (Fact := F_ca a c av lo cv b G k i Ri dl) hd 4 (by kernel_rfl))
                exact wpList_off rfl (t := 71) (d := false) (by kernel_rfl) eg (by decide) ⟨_, rfl, Below.refl _ _, rfl⟩
              · intro vs w' F hb hd hF hl hT
                have eg := ((hF 71).trans (look_at _ 71 4 _ _ (by kernel_rfl) (by kernel_rfl) hl)).trans (dep_of (Fact := F_ca a c av lo cv b G k i Ri dl) hd 4 (by kernel_rfl))
                exact wpList_off rfl (t := 71) (d := false) (by kernel_rfl) eg (by decide) ⟨_, rfl, Below.refl _ _, rfl⟩
              · intro vs w' F hb hd hF hl hT
                have eg := ((hF 71).trans (look_at _ 71 4 _ _ (by kernel_rfl) (by kernel_rfl) hl)).trans (dep_of (Fact := F_ca a c av lo cv b G k i Ri dl) hd 4 (by kernel_rfl))
                exact wpList_off rfl (t := 71) (d := false) (by kernel_rfl) eg (by decide) ⟨_, rfl, Below.refl _ _, rfl⟩
              · intro vs w' F hb hd hF hl hT
                have eg := ((hF 71).trans (look_at _ 71 4 _ _ (by kernel_rfl) (by kernel_rfl) hl)).trans (dep_of (Fact := F_ca a c av lo cv b G k i Ri dl) hd 4 (by kernel_rfl))
                exact wpList_off rfl (t := 71) (d := false) (by kernel_rfl) eg (by decide) ⟨_, rfl, Below.refl _ _, rfl⟩
              · intro vs w' F hb hd hF hl hT
                have ec := ((hF 71).trans (look_at _ 71 4 _ _ (by kernel_rfl) (by kernel_rfl) hl)).trans (dep_of (Fact := F_ca a c av lo cv b G k i Ri dl) hd 4 (by kernel_rfl))
                exact one_pick_f _ _ _ rfl rfl _ ec rfl ⟨_, rfl, Below.refl _ _, rfl⟩
              · intro vs w' F hb hd hF hl hT
                have e := ((hF 81).trans (look_at _ 81 14 _ _ (by kernel_rfl) (by kernel_rfl) hl)).trans (dep_of (Fact := F_ca a c av lo cv b G k i Ri dl) hd 14 (by kernel_rfl))
                exact one_move _ rfl (by first | exact Or.inl rfl | exact Or.inr rfl) ⟨_, rfl, Below.refl _ _, e⟩
              · intro vs w' F hb hd hF hl hT
                have eg := ((hF 82).trans (look_at _ 82 15 _ _ (by kernel_rfl) (by kernel_rfl) hl)).trans (dep_of (Fact := F_ca a c av lo cv b G k i Ri dl) hd 15 (by kernel_rfl))
                exact wpList_off rfl (t := 82) (d := false) (by kernel_rfl) eg (by decide) ⟨_, rfl, Below.refl _ _, rfl⟩
              · intro vs w' F hb hd hF hl hT
                have eg := ((hF 82).trans (look_at _ 82 15 _ _ (by kernel_rfl) (by kernel_rfl) hl)).trans (dep_of (Fact := F_ca a c av lo cv b G k i Ri dl) hd 15 (by kernel_rfl))
                exact wpList_off rfl (t := 82) (d := false) (by kernel_rfl) eg (by decide) ⟨_, rfl, Below.refl _ _, rfl⟩
              · intro vs w' F hb hd hF hl hT
                have eg := ((hF 82).trans (look_at _ 82 15 _ _ (by kernel_rfl) (by kernel_rfl) hl)).trans (dep_of (Fact := F_ca a c av lo cv b G k i Ri dl) hd 15 (by kernel_rfl))
                exact wpList_off rfl (t := 82) (d := false) (by kernel_rfl) eg (by decide) ⟨_, rfl, Below.refl _ _, rfl⟩
              · intro vs w' F hb hd hF hl hT
                have eg := ((hF 82).trans (look_at _ 82 15 _ _ (by kernel_rfl) (by kernel_rfl) hl)).trans (dep_of (Fact := F_ca a c av lo cv b G k i Ri dl) hd 15 (by kernel_rfl))
                exact wpList_off rfl (t := 82) (d := false) (by kernel_rfl) eg (by decide) ⟨_, rfl, Below.refl _ _, rfl⟩
              · intro vs w' F hb hd hF hl hT
                have eg := ((hF 86).trans (look_at _ 86 19 _ _ (by kernel_rfl) (by kernel_rfl) hl)).trans (dep_of (Fact := F_ca a c av lo cv b G k i Ri dl) hd 19 (by kernel_rfl))
                exact wpList_offu rfl (t := 86) (by kernel_rfl) eg ⟨_, rfl, Below.refl _ _, rfl⟩
              · intro vs w' F hb hd hF hl hT
                have eg := ((hF 86).trans (look_at _ 86 19 _ _ (by kernel_rfl) (by kernel_rfl) hl)).trans (dep_of (Fact := F_ca a c av lo cv b G k i Ri dl) hd 19 (by kernel_rfl))
                exact wpList_offu rfl (t := 86) (by kernel_rfl) eg ⟨_, rfl, Below.refl _ _, rfl⟩
              · intro vs w' F hb hd hF hl hT
                have eg := ((hF 86).trans (look_at _ 86 19 _ _ (by kernel_rfl) (by kernel_rfl) hl)).trans (dep_of (Fact := F_ca a c av lo cv b G k i Ri dl) hd 19 (by kernel_rfl))
                exact wpList_offu rfl (t := 86) (by kernel_rfl) eg ⟨_, rfl, Below.refl _ _, rfl⟩
              · intro vs w' F hb hd hF hl hT
                have eg := ((hF 86).trans (look_at _ 86 19 _ _ (by kernel_rfl) (by kernel_rfl) hl)).trans (dep_of (Fact := F_ca a c av lo cv b G k i Ri dl) hd 19 (by kernel_rfl))
                exact wpList_offu rfl (t := 86) (by kernel_rfl) eg ⟨_, rfl, Below.refl _ _, rfl⟩
              · intro vs w' F hb hd hF hl hT
                have eg := ((hF 86).trans (look_at _ 86 19 _ _ (by kernel_rfl) (by kernel_rfl) hl)).trans (dep_of (Fact := F_ca a c av lo cv b G k i Ri dl) hd 19 (by kernel_rfl))
                exact wpList_offu rfl (t := 86) (by kernel_rfl) eg ⟨_, rfl, Below.refl _ _, rfl⟩
              · intro vs w' F hb hd hF hl hT
                have eg := ((hF 86).trans (look_at _ 86 19 _ _ (by kernel_rfl) (by kernel_rfl) hl)).trans (dep_of (Fact := F_ca a c av lo cv b G k i Ri dl) hd 19 (by kernel_rfl))
                exact wpList_offu rfl (t := 86) (by kernel_rfl) eg ⟨_, rfl, Below.refl _ _, rfl⟩
              · intro vs w' F hb hd hF hl hT
                have eg := ((hF 86).trans (look_at _ 86 19 _ _ (by kernel_rfl) (by kernel_rfl) hl)).trans (dep_of (Fact := F_ca a c av lo cv b G k i Ri dl) hd 19 (by kernel_rfl))
                exact wpList_offu rfl (t := 86) (by kernel_rfl) eg ⟨_, rfl, Below.refl _ _, rfl⟩
              · intro vs w' F hb hd hF hl hT
                have eg := ((hF 86).trans (look_at _ 86 19 _ _ (by kernel_rfl) (by kernel_rfl) hl)).trans (dep_of (Fact := F_ca a c av lo cv b G k i Ri dl) hd 19 (by kernel_rfl))
                exact wpList_offu rfl (t := 86) (by kernel_rfl) eg ⟨_, rfl, Below.refl _ _, rfl⟩
              · intro vs w' F hb hd hF hl hT
                have eg := ((hF 86).trans (look_at _ 86 19 _ _ (by kernel_rfl) (by kernel_rfl) hl)).trans (dep_of (Fact := F_ca a c av lo cv b G k i Ri dl) hd 19 (by kernel_rfl))
                exact wpList_offu rfl (t := 86) (by kernel_rfl) eg ⟨_, rfl, Below.refl _ _, rfl⟩
              · intro vs w' F hb hd hF hl hT
                have eg := ((hF 86).trans (look_at _ 86 19 _ _ (by kernel_rfl) (by kernel_rfl) hl)).trans (dep_of (Fact := F_ca a c av lo cv b G k i Ri dl) hd 19 (by kernel_rfl))
                exact wpList_offu rfl (t := 86) (by kernel_rfl) eg ⟨_, rfl, Below.refl _ _, rfl⟩
              · intro vs w' F hb hd hF hl hT
                have eg := ((hF 86).trans (look_at _ 86 19 _ _ (by kernel_rfl) (by kernel_rfl) hl)).trans (dep_of (Fact := F_ca a c av lo cv b G k i Ri dl) hd 19 (by kernel_rfl))
                exact wpList_offu rfl (t := 86) (by kernel_rfl) eg ⟨_, rfl, Below.refl _ _, rfl⟩
              · intro vs w' F hb hd hF hl hT
                have eg := ((hF 86).trans (look_at _ 86 19 _ _ (by kernel_rfl) (by kernel_rfl) hl)).trans (dep_of (Fact := F_ca a c av lo cv b G k i Ri dl) hd 19 (by kernel_rfl))
                exact wpList_offu rfl (t := 86) (by kernel_rfl) eg ⟨_, rfl, Below.refl _ _, rfl⟩
              · intro vs w' F hb hd hF hl hT
                have eg := ((hF 86).trans (look_at _ 86 19 _ _ (by kernel_rfl) (by kernel_rfl) hl)).trans (dep_of (Fact := F_ca a c av lo cv b G k i Ri dl) hd 19 (by kernel_rfl))
                exact wpList_offu rfl (t := 86) (by kernel_rfl) eg ⟨_, rfl, Below.refl _ _, rfl⟩
              · intro vs w' F hb hd hF hl hT
                have eg := ((hF 86).trans (look_at _ 86 19 _ _ (by kernel_rfl) (by kernel_rfl) hl)).trans (dep_of (Fact := F_ca a c av lo cv b G k i Ri dl) hd 19 (by kernel_rfl))
                exact wpList_offu rfl (t := 86) (by kernel_rfl) eg ⟨_, rfl, Below.refl _ _, rfl⟩
              · intro vs w' F hb hd hF hl hT
                have eg := ((hF 82).trans (look_at _ 82 15 _ _ (by kernel_rfl) (by kernel_rfl) hl)).trans (dep_of (Fact := F_ca a c av lo cv b G k i Ri dl) hd 15 (by kernel_rfl))
                exact wpList_off rfl (t := 82) (d := false) (by kernel_rfl) eg (by decide) ⟨_, rfl, Below.refl _ _, rfl⟩
              · intro vs w' F hb hd hF hl hT
                have ec := ((hF 82).trans (look_at _ 82 15 _ _ (by kernel_rfl) (by kernel_rfl) hl)).trans (dep_of (Fact := F_ca a c av lo cv b G k i Ri dl) hd 15 (by kernel_rfl))
                exact one_pick_f _ _ _ rfl rfl _ ec rfl ⟨_, rfl, Below.refl _ _, rfl⟩
            · intro vs W1 hl hb hI
              have hv : vs.getD 35 undef = .bool false := hI 35 (by omega)
              obtain ⟨x0, x1, x2, x3, x4, x5, x6, x7, x8, x9, x10, x11, x12, x13, x14, x15, x16, x17, x18, x19, x20, x21, x22, x23, x24, x25, x26, x27, x28, x29, x30, x31, x32, x33, x34, x35, hvs⟩ := list36 hl
              subst hvs
              replace hv : x35 = .bool false := hv
              subst hv
              have hro3 : RowB W1 G 3 .i64 (ints R) := HRO.out.below hb
              have hown3 := own_below HOWN.out hb
              have hBx3 : B ≤ W1.heap.size := Nat.le_trans hBx hb.size
              have hb3 : Below G w W1 := HB.out.trans (hb.mono (Nat.le_of_lt HRO.out.lt))
              have HRO3 := Lib.hid hro3
              have HOWN3 := Lib.hid hown3
              clear hI hl hb hro3 hown3 HRO HOWN HB E1 HT1
              simp only [fillAll, Act.put, List.setIfInBounds_toArray, List.set_cons_succ, List.set_cons_zero]
              show wpList _ _ _ [] _ _
              go_wp2
              go_roundg (k - (i + 1))
              case measure => rw [F2.out]; omega
              case rel => exact ⟨i + 1, _, hlt, rfl, rfl, by go_num, by rw [HNX.out, ← HLO.out]; exact HOWN3.out, HRO3.out, hBx3, hb3⟩
        · obtain rfl : i = k := by omega
          have HIA := Lib.hid (IntsAt.of_own hown (by rw [ints_len]))
          clear f2 hro hown hcb hcs
          go_wp2
          go_ret2
          rw [← HRE.out, ← HBE.out]
          exact ⟨⟨av, cv, rfl, HIA.out⟩, by rw [← HG.out]; exact hb⟩
end Go.Proofs.Ytembjokbhbdoeaa
