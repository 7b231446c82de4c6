/- Lemmas for the law TopDigestPlace: EqI, WEqK, WKSame. No conditions. -/
import Derived.Test.YtncnbfefciobcaaM01
import Derived.BigQuiet
import Derived.Deep.QuietTactic
import Derived.Deep.LoopGhost
import Derived.Test.YtncnbfefciobcaaRows
import Derived.Test.YtncnbfefciobcaaM07
import Derived.Test.YtncnbfefciobcaaM09
import Derived.Shelf.Abstract
/- slices.Equal of two slices of integers. -/
section
namespace Go.Proofs.Ytncnbfefciobcaa
open Go.ChangeShapes Go.WideShapes Go.ChangeAt Go.RowKit Go.Mem
set_option linter.unusedVariables false
theorem list_ne_of_getD {zs ys : List Int} (k : Nat) (hk : k < zs.length) (hl : zs.length = ys.length) (h : zs.getD k 0 ≠ ys.getD k 0) : zs ≠ ys := by
  rintro rfl; exact h rfl

set_option maxHeartbeats 4000000 in
theorem eq_ints (a b : Option Addr) (ca cb : Nat) (zs ys : List Int) (h1 : zs.length ≤ 9223372036854775807) (h2 : ys.length ≤ 9223372036854775807) (w : World) (ha : IntsAt .i64 w a zs) (hb : IntsAt .i64 w b ys) :
    Calls Try.prog 34 #[.slice a zs.length ca, .slice b ys.length cb] w fun e w' => e = .returned (.bool (decide (zs = ys))) ∧ Below w.heap.size w w' := by
  by_cases hl : zs.length = ys.length
  · obtain ⟨n, hn⟩ : ∃ n, n = zs.length := ⟨_, rfl⟩
    have hm : ys.length = n := by omega
    have hne : ((n : Int) != (n : Int)) = false := by simp
    rw [hm, ← hn]
    have HN := Lib.hid hn
    have HM := Lib.hid hm
    have HA := Lib.hid ha
    have HB := Lib.hid hb
    have h63 : n ≤ 9223372036854775807 := by omega
    clear hn hm ha hb hl h1 h2
    go_enter Try.func34, Try.ntmps34
    go_wp2_with fail
    go_loopg [5, 13] n (fun gk _ vi wx => ∃ k : Nat, k ≤ n ∧ gk = n - k ∧ vi = .int .i64 k ∧ (∀ j, j < k → zs.getD j 0 = ys.getD j 0) ∧ Below w.heap.size w wx)
    case atStart => exact ⟨0, by omega, rfl, rfl, fun j h => by omega, Below.refl _ _⟩
    case round =>
      obtain ⟨k, g1, g2, rfl, heq, hbw⟩ := hrel
      have G2 := Lib.hid g2
      have HEQ := Lib.hid heq
      clear g2 heq
      by_cases hlt : k < n
      · obtain ⟨x, rfl, hx, hcx⟩ := HA.out (by rw [← HN.out]; omega)
        obtain ⟨y, rfl, hy, hcy⟩ := HB.out (by rw [HM.out]; omega)
        obtain ⟨p, hp⟩ : ∃ p, p = zs.getD k 0 := ⟨_, rfl⟩
        obtain ⟨q, hq⟩ : ∃ q, q = ys.getD k 0 := ⟨_, rfl⟩
        have cx := (hbw.cell (by rw [block_of_add]; exact hx)).trans (hcx k (by rw [← HN.out]; omega))
        have cy := (hbw.cell (by rw [block_of_add]; exact hy)).trans (hcy k (by rw [HM.out]; omega))
        rw [← hp] at cx
        rw [← hq] at cy
        have i1 : (0 : Int) ≤ (k : Int) := by omega
        have i2 : (k : Int) < (n : Int) := by omega
        have HPQ := Lib.hid (And.intro hp hq)
        clear hcx hcy hp hq
        by_cases e : p = q
        · subst e
          have hee : (p != p) = false := by simp
          go_wp2
          go_quiet (fail)
          go_wp2
          go_roundg (n - (k + 1))
          case measure => rw [G2.out]; omega
          case rel => exact ⟨k + 1, by omega, rfl, by go_num, fun j hj => by
            by_cases q : j = k
            · rw [q, ← HPQ.out.1, ← HPQ.out.2]
            · exact HEQ.out j (by omega), below_drewN hbw _⟩
        · have hee : (p != q) = true := by simp [e]
          have hz : zs ≠ ys := list_ne_of_getD k (by rw [← HN.out]; exact hlt) (by rw [← HN.out, HM.out]) (by rw [← HPQ.out.1, ← HPQ.out.2]; exact e)
          have HZ := Lib.hid hz
          clear hz e
          go_wp2
          go_quiet (fail)
          go_wp2
          go_ret
          exact ⟨by rw [decide_eq_false HZ.out]; rfl, below_drewN hbw _⟩
      · obtain rfl : k = n := by omega
        have hz : zs = ys := getD_eq_of_ext (by rw [← HN.out, HM.out]) (fun j hj => HEQ.out j (by rw [HN.out]; exact hj))
        have HZ := Lib.hid (decide_eq_true hz)
        clear hz
        go_wp2
        go_ret
        exact ⟨by rw [HZ.out]; rfl, hbw⟩
  · have hz : zs ≠ ys := fun h => hl (by rw [h])
    have HZ := Lib.hid hz
    obtain ⟨n, hn⟩ : ∃ n, n = zs.length := ⟨_, rfl⟩
    obtain ⟨m, hm⟩ : ∃ m, m = ys.length := ⟨_, rfl⟩
    rw [← hn, ← hm] at hl ⊢
    have hne : ((n : Int) != (m : Int)) = true := by simp; omega
    clear hz hl hn hm
    go_enter Try.func34, Try.ntmps34
    go_wp2_with fail
    go_ret
    exact ⟨by rw [decide_eq_false HZ.out]; rfl, Below.refl _ _⟩

end Go.Proofs.Ytncnbfefciobcaa
end
/- Fields and kinds held against each other. -/
section
namespace Go.Proofs.Ytncnbfefciobcaa
open Go.ChangeShapes Go.WideShapes Go.ChangeAt Go.RowKit Go.Nm Go.Mem
set_option linter.unusedVariables false
def eqL {α : Type} (e : α → α → Bool) : List α → List α → Bool
  | [], [] => true
  | a :: l, b :: k => e a b && eqL e l k
  | _, _ => false
theorem eqL_len {α : Type} {e : α → α → Bool} : ∀ {l k : List α}, l.length ≠ k.length → eqL e l k = false
  | [], [], h => absurd rfl h
  | [], _ :: _, _ => rfl
  | _ :: _, [], _ => rfl
  | a :: l, b :: k, h => by
    unfold eqL
    rw [eqL_len (l := l) (k := k) (by simpa using h), Bool.and_false]
theorem eqL_ne {α : Type} {e : α → α → Bool} : ∀ {l k : List α} (i : Nat) (h1 : i < l.length) (h2 : i < k.length), e l[i] k[i] = false → eqL e l k = false
  | [], _, i, h1, _, _ => absurd h1 (by simp)
  | _ :: _, [], i, _, h2, _ => absurd h2 (by simp)
  | a :: l, b :: k, 0, _, _, h => by
    unfold eqL
    have h' : e a b = false := h
    rw [h', Bool.false_and]
  | a :: l, b :: k, i + 1, h1, h2, h => by
    unfold eqL
    rw [eqL_ne (l := l) (k := k) i (by simpa using h1) (by simpa using h2) (by simpa using h), Bool.and_false]
theorem eqL_eq {α : Type} {e : α → α → Bool} : ∀ {l k : List α}, l.length = k.length → (∀ i (h1 : i < l.length) (h2 : i < k.length), e l[i] k[i] = true) → eqL e l k = true
  | [], [], _, _ => rfl
  | [], _ :: _, h, _ => by simp at h
  | _ :: _, [], h, _ => by simp at h
  | a :: l, b :: k, h, hi => by
    unfold eqL
    have h0 : e a b = true := hi 0 (by simp) (by simp)
    rw [h0, Bool.true_and]
    exact eqL_eq (by simpa using h) (fun i h1 h2 => by have := hi (i + 1) (by simpa using h1) (by simpa using h2); simpa using this)
theorem eqL_refl {α : Type} {e : α → α → Bool} (he : ∀ a, e a a = true) (l : List α) : eqL e l l = true := eqL_eq rfl (fun i _ _ => he _)
def feqB (a b : FieldV) : Bool := a.name.toList == b.name.toList && (decide (a.bits = b.bits) && decide (a.low = b.low))
theorem feqB_refl (a : FieldV) : feqB a a = true := by unfold feqB; simp
def keqB (a b : KindV) : Bool := a.name.toList == b.name.toList && eqL feqB a.fields b.fields
theorem keqB_refl (a : KindV) : keqB a a = true := by unfold keqB; rw [eqL_refl feqB_refl]; simp
theorem fld_eqg (s s2 : ByteArray) (b l b2 l2 : Int) (w : World) : (Op.equalIn 10000 50 (.agg #[.string s, .int .i64 b, .int .i64 l]) (.agg #[.string s2, .int .i64 b2, .int .i64 l2])).run Try.prog w = .ok (s.toList == s2.toList && (decide (b = b2) && decide (l = l2))) w := by
  have u3 := Try.underlying3
  have u4 := Try.underlying9
  have a3 := Try.isAgg3
  have z3 := Try.sizeOf3
  have a4 := Try.isAgg9
  have z4 := Try.sizeOf9
  rw [show (10000 : Nat) = 9999 + 1 from rfl, Op.equalIn]
  simp only [Sem.run_bind, run_underlying Try.underlying50, Result.andThen_ok]
  go_simp
  by_cases h1 : s.toList = s2.toList <;> by_cases h2 : b = b2 <;> by_cases h3 : l = l2 <;> simp [h1, h2, h3]
theorem fld_neqg (s s2 : ByteArray) (b l b2 l2 : Int) (w : World) : (binOp .neq 50 (.agg #[.string s, .int .i64 b, .int .i64 l]) (.agg #[.string s2, .int .i64 b2, .int .i64 l2])).run Try.prog w = .ok (.bool (!(s.toList == s2.toList && (decide (b = b2) && decide (l = l2))))) w := by
  have h := fld_eqg s s2 b l b2 l2
  simp [binOp, Op.equal, Op.maxDepth, h]
theorem fld_guardg (x y : Operand) (u v : Array Value) (w : World) : (eqGuard .neq 50 x y (.agg u) (.agg v)).run Try.prog w = .ok () w := by
  have h : Try.prog.eqGuardType Try.prog.depth 50 = false := by kernel_rfl
  simp [eqGuard, h]
def F_fet (xb xo zb zo n ca cb i : Nat) (y q : FieldV) (jq : Nat) (v : Value) (w : World) : Prop :=
  match jq with
  | 0 => v = .slice (some ⟨xb, xo, none⟩) n ca
  | 1 => v = .int .i64 i
  | 2 => v = .pointer (some ⟨xb, xo + i * 3, none⟩)
  | 3 => v = .agg #[.string y.name, .int .i64 y.bits, .int .i64 y.low]
  | 4 => v = .slice (some ⟨zb, zo, none⟩) n cb
  | 5 => v = .int .i64 i
  | 6 => v = .pointer (some ⟨zb, zo + i * 3, none⟩)
  | 7 => v = .agg #[.string q.name, .int .i64 q.bits, .int .i64 q.low]
  | 8 => v = .bool false
  | _ => True
theorem F_fet_mono (xb xo zb zo n ca cb i : Nat) (y q : FieldV) : Facts (F_fet xb xo zb zo n ca cb i  y q ) := ⟨by
  intro jq v w w' h hb
  unfold F_fet at h ⊢
  split at h
  all_goals first
    | exact h
    | trivial⟩
def F_fef (xb xo zb zo n ca cb i : Nat) (y q : FieldV) (jq : Nat) (v : Value) (w : World) : Prop :=
  match jq with
  | 0 => v = .slice (some ⟨xb, xo, none⟩) n ca
  | 1 => v = .int .i64 i
  | 2 => v = .pointer (some ⟨xb, xo + i * 3, none⟩)
  | 3 => v = .agg #[.string y.name, .int .i64 y.bits, .int .i64 y.low]
  | 4 => v = .slice (some ⟨zb, zo, none⟩) n cb
  | 5 => v = .int .i64 i
  | 6 => v = .pointer (some ⟨zb, zo + i * 3, none⟩)
  | 7 => v = .agg #[.string q.name, .int .i64 q.bits, .int .i64 q.low]
  | 8 => v = .bool true
  | _ => True
theorem F_fef_mono (xb xo zb zo n ca cb i : Nat) (y q : FieldV) : Facts (F_fef xb xo zb zo n ca cb i  y q ) := ⟨by
  intro jq v w w' h hb
  unfold F_fef at h ⊢
  split at h
  all_goals first
    | exact h
    | trivial⟩

end Go.Proofs.Ytncnbfefciobcaa
end
/- kind.Same: two lists of kinds held against each other. -/
section
namespace Go.Proofs.Ytncnbfefciobcaa
open Go.ChangeShapes Go.WideShapes Go.ChangeAt Go.RowKit Go.Nm Go.Mem
set_option linter.unusedVariables false
theorem str_neqg (s s2 : ByteArray) (w : World) : (binOp .neq 9 (.string s) (.string s2)).run Try.prog w = .ok (.bool (!(s.toList == s2.toList))) w := by
  simp [binOp, Op.stringOp]
theorem str_guardg (x y : Operand) (u v : ByteArray) (w : World) : (eqGuard .neq 9 x y (.string u) (.string v)).run Try.prog w = .ok () w := by
  simp [eqGuard]
theorem list26 {α : Type} {vs : List α} (h : vs.length = 26) : ∃ x0 x1 x2 x3 x4 x5 x6 x7 x8 x9 x10 x11 x12 x13 x14 x15 x16 x17 x18 x19 x20 x21 x22 x23 x24 x25, vs = [x0, x1, x2, x3, x4, x5, x6, x7, x8, x9, x10, x11, x12, x13, x14, x15, x16, x17, x18, x19, x20, x21, x22, x23, x24, x25] := by
  obtain ⟨x0, t0, rfl, h0⟩ := cons_of h
  obtain ⟨x1, t1, rfl, h1⟩ := cons_of h0
  obtain ⟨x2, t2, rfl, h2⟩ := cons_of h1
  obtain ⟨x3, t3, rfl, h3⟩ := cons_of h2
  obtain ⟨x4, t4, rfl, h4⟩ := cons_of h3
  obtain ⟨x5, t5, rfl, h5⟩ := cons_of h4
  obtain ⟨x6, t6, rfl, h6⟩ := cons_of h5
  obtain ⟨x7, t7, rfl, h7⟩ := cons_of h6
  obtain ⟨x8, t8, rfl, h8⟩ := cons_of h7
  obtain ⟨x9, t9, rfl, h9⟩ := cons_of h8
  obtain ⟨x10, t10, rfl, h10⟩ := cons_of h9
  obtain ⟨x11, t11, rfl, h11⟩ := cons_of h10
  obtain ⟨x12, t12, rfl, h12⟩ := cons_of h11
  obtain ⟨x13, t13, rfl, h13⟩ := cons_of h12
  obtain ⟨x14, t14, rfl, h14⟩ := cons_of h13
  obtain ⟨x15, t15, rfl, h15⟩ := cons_of h14
  obtain ⟨x16, t16, rfl, h16⟩ := cons_of h15
  obtain ⟨x17, t17, rfl, h17⟩ := cons_of h16
  obtain ⟨x18, t18, rfl, h18⟩ := cons_of h17
  obtain ⟨x19, t19, rfl, h19⟩ := cons_of h18
  obtain ⟨x20, t20, rfl, h20⟩ := cons_of h19
  obtain ⟨x21, t21, rfl, h21⟩ := cons_of h20
  obtain ⟨x22, t22, rfl, h22⟩ := cons_of h21
  obtain ⟨x23, t23, rfl, h23⟩ := cons_of h22
  obtain ⟨x24, t24, rfl, h24⟩ := cons_of h23
  obtain ⟨x25, t25, rfl, h25⟩ := cons_of h24
  exact ⟨x0, x1, x2, x3, x4, x5, x6, x7, x8, x9, x10, x11, x12, x13, x14, x15, x16, x17, x18, x19, x20, x21, x22, x23, x24, x25, by rw [List.eq_nil_of_length_eq_zero h25]⟩
def F_ksa (xb xo zb zo n ca cb i : Nat) (sy sq : ByteArray) (af ag : Option Addr) (nf ng cf cg : Nat) (jq : Nat) (v : Value) (w : World) : Prop :=
  match jq with
  | 0 => v = .slice (some ⟨xb, xo, none⟩) n ca
  | 1 => v = .int .i64 i
  | 2 => v = .pointer (some ⟨xb, xo + i * 2, none⟩)
  | 3 => v = .pointer (some ⟨xb, xo + i * 2, none⟩)
  | 4 => v = .string sy
  | 5 => v = .slice (some ⟨zb, zo, none⟩) n cb
  | 6 => v = .int .i64 i
  | 7 => v = .pointer (some ⟨zb, zo + i * 2, none⟩)
  | 8 => v = .pointer (some ⟨zb, zo + i * 2, none⟩)
  | 9 => v = .string sq
  | 10 => v = .bool true
  | 11 => v = .bool true
  | 12 => v = undef
  | 13 => v = undef
  | 14 => v = undef
  | 15 => v = undef
  | 16 => v = undef
  | 17 => v = undef
  | 18 => v = undef
  | 19 => v = undef
  | 20 => v = undef
  | 21 => v = undef
  | 22 => v = undef
  | 23 => v = undef
  | 24 => v = undef
  | 25 => v = .bool true
  | _ => True
theorem F_ksa_mono (xb xo zb zo n ca cb i : Nat) (sy sq : ByteArray) (af ag : Option Addr) (nf ng cf cg : Nat) : Facts (F_ksa xb xo zb zo n ca cb i  sy sq  af ag  nf ng cf cg ) := ⟨by
  intro jq v w w' h hb
  unfold F_ksa at h ⊢
  split at h
  all_goals first
    | exact h
    | trivial⟩
def F_ksb (xb xo zb zo n ca cb i : Nat) (sy sq : ByteArray) (af ag : Option Addr) (nf ng cf cg : Nat) (jq : Nat) (v : Value) (w : World) : Prop :=
  match jq with
  | 0 => v = .slice (some ⟨xb, xo, none⟩) n ca
  | 1 => v = .int .i64 i
  | 2 => v = .pointer (some ⟨xb, xo + i * 2, none⟩)
  | 3 => v = .pointer (some ⟨xb, xo + i * 2, none⟩)
  | 4 => v = .string sy
  | 5 => v = .slice (some ⟨zb, zo, none⟩) n cb
  | 6 => v = .int .i64 i
  | 7 => v = .pointer (some ⟨zb, zo + i * 2, none⟩)
  | 8 => v = .pointer (some ⟨zb, zo + i * 2, none⟩)
  | 9 => v = .string sq
  | 10 => v = .bool false
  | 11 => v = .bool false
  | 12 => v = .slice (some ⟨xb, xo, none⟩) n ca
  | 13 => v = .int .i64 i
  | 14 => v = .pointer (some ⟨xb, xo + i * 2, none⟩)
  | 15 => v = .pointer (some ⟨xb, xo + i * 2 + 1, none⟩)
  | 16 => v = .slice af nf cf
  | 17 => v = .int .i64 (nf : Int)
  | 18 => v = .slice (some ⟨zb, zo, none⟩) n cb
  | 19 => v = .int .i64 i
  | 20 => v = .pointer (some ⟨zb, zo + i * 2, none⟩)
  | 21 => v = .pointer (some ⟨zb, zo + i * 2 + 1, none⟩)
  | 22 => v = .slice ag ng cg
  | 23 => v = .int .i64 (ng : Int)
  | 24 => v = .bool true
  | 25 => v = .bool true
  | _ => True
theorem F_ksb_mono (xb xo zb zo n ca cb i : Nat) (sy sq : ByteArray) (af ag : Option Addr) (nf ng cf cg : Nat) : Facts (F_ksb xb xo zb zo n ca cb i  sy sq  af ag  nf ng cf cg ) := ⟨by
  intro jq v w w' h hb
  unfold F_ksb at h ⊢
  split at h
  all_goals first
    | exact h
    | trivial⟩
def F_ksc (xb xo zb zo n ca cb i : Nat) (sy sq : ByteArray) (af ag : Option Addr) (nf cf cg : Nat) (jq : Nat) (v : Value) (w : World) : Prop :=
  match jq with
  | 0 => v = .slice (some ⟨xb, xo, none⟩) n ca
  | 1 => v = .int .i64 i
  | 2 => v = .pointer (some ⟨xb, xo + i * 2, none⟩)
  | 3 => v = .pointer (some ⟨xb, xo + i * 2, none⟩)
  | 4 => v = .string sy
  | 5 => v = .slice (some ⟨zb, zo, none⟩) n cb
  | 6 => v = .int .i64 i
  | 7 => v = .pointer (some ⟨zb, zo + i * 2, none⟩)
  | 8 => v = .pointer (some ⟨zb, zo + i * 2, none⟩)
  | 9 => v = .string sq
  | 10 => v = .bool false
  | 11 => v = .bool false
  | 12 => v = .slice (some ⟨xb, xo, none⟩) n ca
  | 13 => v = .int .i64 i
  | 14 => v = .pointer (some ⟨xb, xo + i * 2, none⟩)
  | 15 => v = .pointer (some ⟨xb, xo + i * 2 + 1, none⟩)
  | 16 => v = .slice af nf cf
  | 17 => v = .int .i64 (nf : Int)
  | 18 => v = .slice (some ⟨zb, zo, none⟩) n cb
  | 19 => v = .int .i64 i
  | 20 => v = .pointer (some ⟨zb, zo + i * 2, none⟩)
  | 21 => v = .pointer (some ⟨zb, zo + i * 2 + 1, none⟩)
  | 22 => v = .slice ag nf cg
  | 23 => v = .int .i64 (nf : Int)
  | 24 => v = .bool false
  | 25 => v = .bool false
  | _ => True
theorem F_ksc_mono (xb xo zb zo n ca cb i : Nat) (sy sq : ByteArray) (af ag : Option Addr) (nf cf cg : Nat) : Facts (F_ksc xb xo zb zo n ca cb i  sy sq  af ag  nf cf cg ) := ⟨by
  intro jq v w w' h hb
  unfold F_ksc at h ⊢
  split at h
  all_goals first
    | exact h
    | trivial⟩
def F_ktt (xb xo zb zo n ca cb i u fb fo gb go nf cf cg : Nat) (p r : FieldV) (jq : Nat) (v : Value) (w : World) : Prop :=
  match jq with
  | 0 => v = .slice (some ⟨xb, xo, none⟩) n ca
  | 1 => v = .int .i64 i
  | 2 => v = .pointer (some ⟨xb, xo + i * 2, none⟩)
  | 3 => v = .pointer (some ⟨xb, xo + i * 2 + 1, none⟩)
  | 4 => v = .slice (some ⟨fb, fo, none⟩) nf cf
  | 5 => v = .int .i64 u
  | 6 => v = .pointer (some ⟨fb, fo + u * 3, none⟩)
  | 7 => v = .agg #[.string p.name, .int .i64 p.bits, .int .i64 p.low]
  | 8 => v = .slice (some ⟨zb, zo, none⟩) n cb
  | 9 => v = .int .i64 i
  | 10 => v = .pointer (some ⟨zb, zo + i * 2, none⟩)
  | 11 => v = .pointer (some ⟨zb, zo + i * 2 + 1, none⟩)
  | 12 => v = .slice (some ⟨gb, go, none⟩) nf cg
  | 13 => v = .int .i64 u
  | 14 => v = .pointer (some ⟨gb, go + u * 3, none⟩)
  | 15 => v = .agg #[.string r.name, .int .i64 r.bits, .int .i64 r.low]
  | 16 => v = .bool false
  | _ => True
theorem F_ktt_mono (xb xo zb zo n ca cb i u fb fo gb go nf cf cg : Nat) (p r : FieldV) : Facts (F_ktt xb xo zb zo n ca cb i u fb fo gb go nf cf cg  p r ) := ⟨by
  intro jq v w w' h hb
  unfold F_ktt at h ⊢
  split at h
  all_goals first
    | exact h
    | trivial⟩
def F_ktf (xb xo zb zo n ca cb i u fb fo gb go nf cf cg : Nat) (p r : FieldV) (jq : Nat) (v : Value) (w : World) : Prop :=
  match jq with
  | 0 => v = .slice (some ⟨xb, xo, none⟩) n ca
  | 1 => v = .int .i64 i
  | 2 => v = .pointer (some ⟨xb, xo + i * 2, none⟩)
  | 3 => v = .pointer (some ⟨xb, xo + i * 2 + 1, none⟩)
  | 4 => v = .slice (some ⟨fb, fo, none⟩) nf cf
  | 5 => v = .int .i64 u
  | 6 => v = .pointer (some ⟨fb, fo + u * 3, none⟩)
  | 7 => v = .agg #[.string p.name, .int .i64 p.bits, .int .i64 p.low]
  | 8 => v = .slice (some ⟨zb, zo, none⟩) n cb
  | 9 => v = .int .i64 i
  | 10 => v = .pointer (some ⟨zb, zo + i * 2, none⟩)
  | 11 => v = .pointer (some ⟨zb, zo + i * 2 + 1, none⟩)
  | 12 => v = .slice (some ⟨gb, go, none⟩) nf cg
  | 13 => v = .int .i64 u
  | 14 => v = .pointer (some ⟨gb, go + u * 3, none⟩)
  | 15 => v = .agg #[.string r.name, .int .i64 r.bits, .int .i64 r.low]
  | 16 => v = .bool true
  | _ => True
theorem F_ktf_mono (xb xo zb zo n ca cb i u fb fo gb go nf cf cg : Nat) (p r : FieldV) : Facts (F_ktf xb xo zb zo n ca cb i u fb fo gb go nf cf cg  p r ) := ⟨by
  intro jq v w w' h hb
  unfold F_ktf at h ⊢
  split at h
  all_goals first
    | exact h
    | trivial⟩

theorem list17 {α : Type} {vs : List α} (h : vs.length = 17) : ∃ x0 x1 x2 x3 x4 x5 x6 x7 x8 x9 x10 x11 x12 x13 x14 x15 x16, vs = [x0, x1, x2, x3, x4, x5, x6, x7, x8, x9, x10, x11, x12, x13, x14, x15, x16] := by
  obtain ⟨x0, t0, rfl, h0⟩ := cons_of h
  obtain ⟨x1, t1, rfl, h1⟩ := cons_of h0
  obtain ⟨x2, t2, rfl, h2⟩ := cons_of h1
  obtain ⟨x3, t3, rfl, h3⟩ := cons_of h2
  obtain ⟨x4, t4, rfl, h4⟩ := cons_of h3
  obtain ⟨x5, t5, rfl, h5⟩ := cons_of h4
  obtain ⟨x6, t6, rfl, h6⟩ := cons_of h5
  obtain ⟨x7, t7, rfl, h7⟩ := cons_of h6
  obtain ⟨x8, t8, rfl, h8⟩ := cons_of h7
  obtain ⟨x9, t9, rfl, h9⟩ := cons_of h8
  obtain ⟨x10, t10, rfl, h10⟩ := cons_of h9
  obtain ⟨x11, t11, rfl, h11⟩ := cons_of h10
  obtain ⟨x12, t12, rfl, h12⟩ := cons_of h11
  obtain ⟨x13, t13, rfl, h13⟩ := cons_of h12
  obtain ⟨x14, t14, rfl, h14⟩ := cons_of h13
  obtain ⟨x15, t15, rfl, h15⟩ := cons_of h14
  obtain ⟨x16, t16, rfl, h16⟩ := cons_of h15
  exact ⟨x0, x1, x2, x3, x4, x5, x6, x7, x8, x9, x10, x11, x12, x13, x14, x15, x16, by rw [List.eq_nil_of_length_eq_zero h16]⟩
set_option maxHeartbeats 8000000 in
theorem kind_Sameg (l k : List KindV) (a b : Option Addr) (n m ca cb : Nat) (hn : l.length = n) (hm : k.length = m) (h1 : n ≤ 1048576) (h2 : m ≤ 1048576) (W : World) (hz : SlAt 2 KindAt W a l) (hy : SlAt 2 KindAt W b k) :
    Calls Try.prog 33 #[.slice a n ca, .slice b m cb] W fun e w' => e = .returned (.bool (eqL keqB l k)) ∧ Below W.heap.size W w' := by
  obtain ⟨R, hR⟩ : ∃ R, R = eqL keqB l k := ⟨_, rfl⟩
  rw [← hR]
  have HR := Lib.hid hR
  have HN := Lib.hid hn
  have HM := Lib.hid hm
  have HZ := Lib.hid hz
  have HY := Lib.hid hy
  clear hR hn hm hz hy
  by_cases hnm : n = m
  · subst hnm
    have t0 : ((n : Int) != (n : Int)) = false := by simp
    go_enter Try.func33, Try.ntmps33
    go_wp2_with fail
    go_loopg [5, 6, 14] n (fun gk v5 v6 vi wx => ∃ i : Nat, i ≤ n ∧ gk = n - i ∧ vi = .int .i64 i ∧ (∀ j (h : j < n), j < i → keqB (l[j]'(by rw [HN.out]; exact h)) (k[j]'(by rw [HM.out]; exact h)) = true) ∧ Below W.heap.size W wx)
    case atStart => exact ⟨0, Nat.zero_le _, rfl, rfl, fun j h h2 => absurd h2 (by omega), Below.refl _ _⟩
    case round =>
      obtain ⟨i, hi, g2, rfl, hat, hb⟩ := hrel
      have G2 := Lib.hid g2
      have HAT := Lib.hid hat
      have HB := Lib.hid hb
      have hbs := hb.size
      clear g2 hat hb
      obtain ⟨Wo, rfl⟩ : ∃ Wo : World, Wo = wr := ⟨_, rfl⟩
      by_cases hlt : i < n
      · obtain ⟨x, rfl, _, _⟩ := HZ.out (by rw [HN.out]; omega)
        obtain ⟨z, rfl, _, _⟩ := HY.out (by rw [HM.out]; omega)
        obtain ⟨xb, xo, rfl, af, cf, hcx, xs, xl1, xl2, xfl⟩ := kind_cells (HZ.out.below KindAt.abides HB.out) i (by rw [HN.out]; exact hlt)
        obtain ⟨zb, zo, rfl, ag, cg, hcz, zs, zl1, zl2, zfl⟩ := kind_cells (HY.out.below KindAt.abides HB.out) i (by rw [HM.out]; exact hlt)
        obtain ⟨y, hy⟩ : ∃ y, y = l[i]'(by rw [HN.out]; exact hlt) := ⟨_, rfl⟩
        obtain ⟨q, hq⟩ : ∃ q, q = k[i]'(by rw [HM.out]; exact hlt) := ⟨_, rfl⟩
        rw [← hy] at hcx xfl xl1
        rw [← hq] at hcz zfl zl1
        have HYD := Lib.hid hy
        have HQD := Lib.hid hq
        obtain ⟨nf, hnf⟩ : ∃ nf, nf = y.fields.length := ⟨_, rfl⟩
        obtain ⟨ng, hng⟩ : ∃ ng, ng = q.fields.length := ⟨_, rfl⟩
        obtain ⟨sy, hsy⟩ : ∃ sy, sy = y.name := ⟨_, rfl⟩
        obtain ⟨sq, hsq⟩ : ∃ sq, sq = q.name := ⟨_, rfl⟩
        rw [← hnf, ← hsy] at hcx
        rw [← hng, ← hsq] at hcz
        rw [← hnf] at xl1
        rw [← hng] at zl1
        have hx0 : Wo.cell? ⟨xb, xo + i * 2, none⟩ = some (.string sy) := hcx.at 0 (by simp)
        have hx1 : Wo.cell? ⟨xb, xo + i * 2 + 1, none⟩ = some (.slice af nf cf) := hcx.at 1 (by simp)
        have hz0 : Wo.cell? ⟨zb, zo + i * 2, none⟩ = some (.string sq) := hcz.at 0 (by simp)
        have hz1 : Wo.cell? ⟨zb, zo + i * 2 + 1, none⟩ = some (.slice ag ng cg) := hcz.at 1 (by simp)
        have X0 := Lib.hid hx0
        have X1 := Lib.hid hx1
        have Z0 := Lib.hid hz0
        have Z1 := Lib.hid hz1
        have XF := Lib.hid xfl
        have ZF := Lib.hid zfl
        have HNF := Lib.hid hnf
        have HNG := Lib.hid hng
        have HSY := Lib.hid hsy
        have HSQ := Lib.hid hsq
        clear hcx hcz hy hq xfl zfl hnf hng hsy hsq hx0 hx1 hz0 hz1 xs zs
        cases hS : (sy.toList == sq.toList) with
        | false =>
          have HS := Lib.hid hS
          have HF := Lib.hid (show R = false by rw [HR.out]; exact eqL_ne i (by rw [HN.out]; exact hlt) (by rw [HM.out]; exact hlt) (by rw [← HYD.out, ← HQD.out]; unfold keqB; rw [← HSY.out, ← HSQ.out, hS, Bool.false_and]))
          clear hS
          go_wp2
          refine wp_region_facts_t rfl 26 (by kernel_rfl) (F_ksa xb xo zb zo n ca cb i sy sq af ag nf ng cf cg) (F_ksa_mono xb xo zb zo n ca cb i sy sq af ag nf ng cf cg) ?_ ?_
          · refine ⟨?_, ?_, ?_, ?_, ?_, ?_, ?_, ?_, ?_, ?_, ?_, ?_, ?_, ?_, ?_, ?_, ?_, ?_, ?_, ?_, ?_, ?_, ?_, ?_, ?_, ?_, trivial⟩
            · intro vs w' F hb hd hF hl hT
              have e := (hF 0).trans (look_out _ 0 _ _ (by kernel_rfl))
              exact one_move _ rfl (by first | exact Or.inl rfl | exact Or.inr rfl) ⟨_, rfl, Below.refl _ _, e⟩
            · intro vs w' F hb hd hF hl hT
              have e := (hF 5).trans (look_out _ 5 _ _ (by kernel_rfl))
              exact one_move _ rfl (by first | exact Or.inl rfl | exact Or.inr rfl) ⟨_, rfl, Below.refl _ _, e⟩
            · intro vs w' F hb hd hF hl hT
              have ex := ((hF 17).trans (look_at _ 17 0 _ _ (by kernel_rfl) (by kernel_rfl) hl)).trans (dep_of (Fact := F_ksa xb xo zb zo n ca cb i sy sq af ag nf ng cf cg) hd 0 (by kernel_rfl))
              have ey := ((hF 18).trans (look_at _ 18 1 _ _ (by kernel_rfl) (by kernel_rfl) hl)).trans (dep_of (Fact := F_ksa xb xo zb zo n ca cb i sy sq af ag nf ng cf cg) hd 1 (by kernel_rfl))
              exact one_index 24 _ _ rfl rfl (.slice (some ⟨xb, xo, none⟩) n ca) (.int .i64 i) (.pointer (some ⟨xb, xo + i * 2, none⟩)) ex ey (fun w => rg_idx Try.underlying24 (show (Try.prog.info? 53).map (·.size) = some 2 by kernel_rfl) (xb) (xo) (n) (ca) (i) (by omega) w) ⟨_, rfl, Below.refl _ _, rfl⟩
            · intro vs w' F hb hd hF hl hT
              have e := ((hF 19).trans (look_at _ 19 2 _ _ (by kernel_rfl) (by kernel_rfl) hl)).trans (dep_of (Fact := F_ksa xb xo zb zo n ca cb i sy sq af ag nf ng cf cg) hd 2 (by kernel_rfl))
              exact one_field _ _ _ rfl rfl _ _ e (xo + i * 2) (fun w => by kernel_rfl) ⟨_, rfl, Below.refl _ _, rfl⟩
            · intro vs w' F hb hd hF hl hT
              have e := ((hF 20).trans (look_at _ 20 3 _ _ (by kernel_rfl) (by kernel_rfl) hl)).trans (dep_of (Fact := F_ksa xb xo zb zo n ca cb i sy sq af ag nf ng cf cg) hd 3 (by kernel_rfl))
              exact one_load _ _ rfl rfl _ _ e (cell_abides X0.out hb) (by kernel_rfl) ⟨_, rfl, Below.refl _ _, rfl⟩
            · intro vs w' F hb hd hF hl hT
              have e := (hF 1).trans (look_out _ 1 _ _ (by kernel_rfl))
              exact one_move _ rfl (by first | exact Or.inl rfl | exact Or.inr rfl) ⟨_, rfl, Below.refl _ _, e⟩
            · intro vs w' F hb hd hF hl hT
              have e := (hF 5).trans (look_out _ 5 _ _ (by kernel_rfl))
              exact one_move _ rfl (by first | exact Or.inl rfl | exact Or.inr rfl) ⟨_, rfl, Below.refl _ _, e⟩
            · intro vs w' F hb hd hF hl hT
              have ex := ((hF 22).trans (look_at _ 22 5 _ _ (by kernel_rfl) (by kernel_rfl) hl)).trans (dep_of (Fact := F_ksa xb xo zb zo n ca cb i sy sq af ag nf ng cf cg) hd 5 (by kernel_rfl))
              have ey := ((hF 23).trans (look_at _ 23 6 _ _ (by kernel_rfl) (by kernel_rfl) hl)).trans (dep_of (Fact := F_ksa xb xo zb zo n ca cb i sy sq af ag nf ng cf cg) hd 6 (by kernel_rfl))
              exact one_index 24 _ _ rfl rfl (.slice (some ⟨zb, zo, none⟩) n cb) (.int .i64 i) (.pointer (some ⟨zb, zo + i * 2, none⟩)) ex ey (fun w => rg_idx Try.underlying24 (show (Try.prog.info? 53).map (·.size) = some 2 by kernel_rfl) (zb) (zo) (n) (cb) (i) (by omega) w) ⟨_, rfl, Below.refl _ _, rfl⟩
            · intro vs w' F hb hd hF hl hT
              have e := ((hF 24).trans (look_at _ 24 7 _ _ (by kernel_rfl) (by kernel_rfl) hl)).trans (dep_of (Fact := F_ksa xb xo zb zo n ca cb i sy sq af ag nf ng cf cg) hd 7 (by kernel_rfl))
              exact one_field _ _ _ rfl rfl _ _ e (zo + i * 2) (fun w => by kernel_rfl) ⟨_, rfl, Below.refl _ _, rfl⟩
            · intro vs w' F hb hd hF hl hT
              have e := ((hF 25).trans (look_at _ 25 8 _ _ (by kernel_rfl) (by kernel_rfl) hl)).trans (dep_of (Fact := F_ksa xb xo zb zo n ca cb i sy sq af ag nf ng cf cg) hd 8 (by kernel_rfl))
              exact one_load _ _ rfl rfl _ _ e (cell_abides Z0.out hb) (by kernel_rfl) ⟨_, rfl, Below.refl _ _, rfl⟩
            · intro vs w' F hb hd hF hl hT
              have ex := (((hF 21).trans (look_at _ 21 4 _ _ (by kernel_rfl) (by kernel_rfl) hl)).trans (dep_of (Fact := F_ksa xb xo zb zo n ca cb i sy sq af ag nf ng cf cg) hd 4 (by kernel_rfl)))
              have ey := (((hF 26).trans (look_at _ 26 9 _ _ (by kernel_rfl) (by kernel_rfl) hl)).trans (dep_of (Fact := F_ksa xb xo zb zo n ca cb i sy sq af ag nf ng cf cg) hd 9 (by kernel_rfl)))
              have hr := str_neqg sy sq w'
              rw [HS.out] at hr
              exact one_binop _ 9 _ _ _ rfl rfl _ _ ex ey (.bool true) (str_guardg _ _ _ _ w') hr ⟨_, rfl, Below.refl _ _, rfl⟩
            · intro vs w' F hb hd hF hl hT
              have e := ((hF 27).trans (look_at _ 27 10 _ _ (by kernel_rfl) (by kernel_rfl) hl)).trans (dep_of (Fact := F_ksa xb xo zb zo n ca cb i sy sq af ag nf ng cf cg) hd 10 (by kernel_rfl))
              exact one_move _ rfl (by first | exact Or.inl rfl | exact Or.inr rfl) ⟨_, rfl, Below.refl _ _, e⟩
            · intro vs w' F hb hd hF hl hT
              have eg := ((hF 28).trans (look_at _ 28 11 _ _ (by kernel_rfl) (by kernel_rfl) hl)).trans (dep_of (Fact := F_ksa xb xo zb zo n ca cb i sy sq af ag nf ng cf cg) hd 11 (by kernel_rfl))
              exact wpList_off rfl (t := 28) (d := true) (by kernel_rfl) eg (by decide) ⟨_, rfl, Below.refl _ _, rfl⟩
            · intro vs w' F hb hd hF hl hT
              have eg := ((hF 28).trans (look_at _ 28 11 _ _ (by kernel_rfl) (by kernel_rfl) hl)).trans (dep_of (Fact := F_ksa xb xo zb zo n ca cb i sy sq af ag nf ng cf cg) hd 11 (by kernel_rfl))
              exact wpList_off rfl (t := 28) (d := true) (by kernel_rfl) eg (by decide) ⟨_, rfl, Below.refl _ _, rfl⟩
            · intro vs w' F hb hd hF hl hT
              have eg := ((hF 28).trans (look_at _ 28 11 _ _ (by kernel_rfl) (by kernel_rfl) hl)).trans (dep_of (Fact := F_ksa xb xo zb zo n ca cb i sy sq af ag nf ng cf cg) hd 11 (by kernel_rfl))
              exact wpList_off rfl (t := 28) (d := true) (by kernel_rfl) eg (by decide) ⟨_, rfl, Below.refl _ _, rfl⟩
            · intro vs w' F hb hd hF hl hT
              have eg := ((hF 28).trans (look_at _ 28 11 _ _ (by kernel_rfl) (by kernel_rfl) hl)).trans (dep_of (Fact := F_ksa xb xo zb zo n ca cb i sy sq af ag nf ng cf cg) hd 11 (by kernel_rfl))
              exact wpList_off rfl (t := 28) (d := true) (by kernel_rfl) eg (by decide) ⟨_, rfl, Below.refl _ _, rfl⟩
            · intro vs w' F hb hd hF hl hT
              have eg := ((hF 28).trans (look_at _ 28 11 _ _ (by kernel_rfl) (by kernel_rfl) hl)).trans (dep_of (Fact := F_ksa xb xo zb zo n ca cb i sy sq af ag nf ng cf cg) hd 11 (by kernel_rfl))
              exact wpList_off rfl (t := 28) (d := true) (by kernel_rfl) eg (by decide) ⟨_, rfl, Below.refl _ _, rfl⟩
            · intro vs w' F hb hd hF hl hT
              have eg := ((hF 28).trans (look_at _ 28 11 _ _ (by kernel_rfl) (by kernel_rfl) hl)).trans (dep_of (Fact := F_ksa xb xo zb zo n ca cb i sy sq af ag nf ng cf cg) hd 11 (by kernel_rfl))
              exact wpList_off rfl (t := 28) (d := true) (by kernel_rfl) eg (by decide) ⟨_, rfl, Below.refl _ _, rfl⟩
            · intro vs w' F hb hd hF hl hT
              have eg := ((hF 28).trans (look_at _ 28 11 _ _ (by kernel_rfl) (by kernel_rfl) hl)).trans (dep_of (Fact := F_ksa xb xo zb zo n ca cb i sy sq af ag nf ng cf cg) hd 11 (by kernel_rfl))
              exact wpList_off rfl (t := 28) (d := true) (by kernel_rfl) eg (by decide) ⟨_, rfl, Below.refl _ _, rfl⟩
            · intro vs w' F hb hd hF hl hT
              have eg := ((hF 28).trans (look_at _ 28 11 _ _ (by kernel_rfl) (by kernel_rfl) hl)).trans (dep_of (Fact := F_ksa xb xo zb zo n ca cb i sy sq af ag nf ng cf cg) hd 11 (by kernel_rfl))
              exact wpList_off rfl (t := 28) (d := true) (by kernel_rfl) eg (by decide) ⟨_, rfl, Below.refl _ _, rfl⟩
            · intro vs w' F hb hd hF hl hT
              have eg := ((hF 28).trans (look_at _ 28 11 _ _ (by kernel_rfl) (by kernel_rfl) hl)).trans (dep_of (Fact := F_ksa xb xo zb zo n ca cb i sy sq af ag nf ng cf cg) hd 11 (by kernel_rfl))
              exact wpList_off rfl (t := 28) (d := true) (by kernel_rfl) eg (by decide) ⟨_, rfl, Below.refl _ _, rfl⟩
            · intro vs w' F hb hd hF hl hT
              have eg := ((hF 28).trans (look_at _ 28 11 _ _ (by kernel_rfl) (by kernel_rfl) hl)).trans (dep_of (Fact := F_ksa xb xo zb zo n ca cb i sy sq af ag nf ng cf cg) hd 11 (by kernel_rfl))
              exact wpList_off rfl (t := 28) (d := true) (by kernel_rfl) eg (by decide) ⟨_, rfl, Below.refl _ _, rfl⟩
            · intro vs w' F hb hd hF hl hT
              have eg := ((hF 28).trans (look_at _ 28 11 _ _ (by kernel_rfl) (by kernel_rfl) hl)).trans (dep_of (Fact := F_ksa xb xo zb zo n ca cb i sy sq af ag nf ng cf cg) hd 11 (by kernel_rfl))
              exact wpList_off rfl (t := 28) (d := true) (by kernel_rfl) eg (by decide) ⟨_, rfl, Below.refl _ _, rfl⟩
            · intro vs w' F hb hd hF hl hT
              have eg := ((hF 28).trans (look_at _ 28 11 _ _ (by kernel_rfl) (by kernel_rfl) hl)).trans (dep_of (Fact := F_ksa xb xo zb zo n ca cb i sy sq af ag nf ng cf cg) hd 11 (by kernel_rfl))
              exact wpList_off rfl (t := 28) (d := true) (by kernel_rfl) eg (by decide) ⟨_, rfl, Below.refl _ _, rfl⟩
            · intro vs w' F hb hd hF hl hT
              have eg := ((hF 28).trans (look_at _ 28 11 _ _ (by kernel_rfl) (by kernel_rfl) hl)).trans (dep_of (Fact := F_ksa xb xo zb zo n ca cb i sy sq af ag nf ng cf cg) hd 11 (by kernel_rfl))
              exact wpList_off rfl (t := 28) (d := true) (by kernel_rfl) eg (by decide) ⟨_, rfl, Below.refl _ _, rfl⟩
            · intro vs w' F hb hd hF hl hT
              have ec := ((hF 28).trans (look_at _ 28 11 _ _ (by kernel_rfl) (by kernel_rfl) hl)).trans (dep_of (Fact := F_ksa xb xo zb zo n ca cb i sy sq af ag nf ng cf cg) hd 11 (by kernel_rfl))
              exact one_pick_t _ _ _ rfl rfl _ ec rfl ⟨_, rfl, Below.refl _ _, rfl⟩
          · intro vs8 W8 hl hb hI
            have hv : vs8.getD 25 undef = .bool true := hI 25 (by omega)
            obtain ⟨x0, x1, x2, x3, x4, x5, x6, x7, x8, x9, x10, x11, x12, x13, x14, x15, x16, x17, x18, x19, x20, x21, x22, x23, x24, x25, hvs⟩ := list26 hl
            subst hvs
            replace hv : x25 = .bool true := hv
            subst hv
            clear hI hl
            simp only [fillAll, Act.put, List.setIfInBounds_toArray, List.set_cons_succ, List.set_cons_zero]
            show wpList _ _ _ [] _ _
            have HB8 := bt HB.out hb
            clear hb
            go_wp2
            go_ret
            exact ⟨by rw [HF.out]; rfl, HB8⟩
        | true =>
          have HS := Lib.hid hS
          clear hS
          by_cases hfg : nf = ng
          · subst hfg
            go_wp2
            refine wp_region_facts_t rfl 26 (by kernel_rfl) (F_ksc xb xo zb zo n ca cb i sy sq af ag nf cf cg) (F_ksc_mono xb xo zb zo n ca cb i sy sq af ag nf cf cg) ?_ ?_
            · refine ⟨?_, ?_, ?_, ?_, ?_, ?_, ?_, ?_, ?_, ?_, ?_, ?_, ?_, ?_, ?_, ?_, ?_, ?_, ?_, ?_, ?_, ?_, ?_, ?_, ?_, ?_, trivial⟩
              · intro vs w' F hb hd hF hl hT
                have e := (hF 0).trans (look_out _ 0 _ _ (by kernel_rfl))
                exact one_move _ rfl (by first | exact Or.inl rfl | exact Or.inr rfl) ⟨_, rfl, Below.refl _ _, e⟩
              · intro vs w' F hb hd hF hl hT
                have e := (hF 5).trans (look_out _ 5 _ _ (by kernel_rfl))
                exact one_move _ rfl (by first | exact Or.inl rfl | exact Or.inr rfl) ⟨_, rfl, Below.refl _ _, e⟩
              · intro vs w' F hb hd hF hl hT
                have ex := ((hF 17).trans (look_at _ 17 0 _ _ (by kernel_rfl) (by kernel_rfl) hl)).trans (dep_of (Fact := F_ksc xb xo zb zo n ca cb i sy sq af ag nf cf cg) hd 0 (by kernel_rfl))
                have ey := ((hF 18).trans (look_at _ 18 1 _ _ (by kernel_rfl) (by kernel_rfl) hl)).trans (dep_of (Fact := F_ksc xb xo zb zo n ca cb i sy sq af ag nf cf cg) hd 1 (by kernel_rfl))
                exact one_index 24 _ _ rfl rfl (.slice (some ⟨xb, xo, none⟩) n ca) (.int .i64 i) (.pointer (some ⟨xb, xo + i * 2, none⟩)) ex ey (fun w => rg_idx Try.underlying24 (show (Try.prog.info? 53).map (·.size) = some 2 by kernel_rfl) (xb) (xo) (n) (ca) (i) (by omega) w) ⟨_, rfl, Below.refl _ _, rfl⟩
              · intro vs w' F hb hd hF hl hT
                have e := ((hF 19).trans (look_at _ 19 2 _ _ (by kernel_rfl) (by kernel_rfl) hl)).trans (dep_of (Fact := F_ksc xb xo zb zo n ca cb i sy sq af ag nf cf cg) hd 2 (by kernel_rfl))
                exact one_field _ _ _ rfl rfl _ _ e (xo + i * 2) (fun w => by kernel_rfl) ⟨_, rfl, Below.refl _ _, rfl⟩
              · intro vs w' F hb hd hF hl hT
                have e := ((hF 20).trans (look_at _ 20 3 _ _ (by kernel_rfl) (by kernel_rfl) hl)).trans (dep_of (Fact := F_ksc xb xo zb zo n ca cb i sy sq af ag nf cf cg) hd 3 (by kernel_rfl))
                exact one_load _ _ rfl rfl _ _ e (cell_abides X0.out hb) (by kernel_rfl) ⟨_, rfl, Below.refl _ _, rfl⟩
              · intro vs w' F hb hd hF hl hT
                have e := (hF 1).trans (look_out _ 1 _ _ (by kernel_rfl))
                exact one_move _ rfl (by first | exact Or.inl rfl | exact Or.inr rfl) ⟨_, rfl, Below.refl _ _, e⟩
              · intro vs w' F hb hd hF hl hT
                have e := (hF 5).trans (look_out _ 5 _ _ (by kernel_rfl))
                exact one_move _ rfl (by first | exact Or.inl rfl | exact Or.inr rfl) ⟨_, rfl, Below.refl _ _, e⟩
              · intro vs w' F hb hd hF hl hT
                have ex := ((hF 22).trans (look_at _ 22 5 _ _ (by kernel_rfl) (by kernel_rfl) hl)).trans (dep_of (Fact := F_ksc xb xo zb zo n ca cb i sy sq af ag nf cf cg) hd 5 (by kernel_rfl))
                have ey := ((hF 23).trans (look_at _ 23 6 _ _ (by kernel_rfl) (by kernel_rfl) hl)).trans (dep_of (Fact := F_ksc xb xo zb zo n ca cb i sy sq af ag nf cf cg) hd 6 (by kernel_rfl))
                exact one_index 24 _ _ rfl rfl (.slice (some ⟨zb, zo, none⟩) n cb) (.int .i64 i) (.pointer (some ⟨zb, zo + i * 2, none⟩)) ex ey (fun w => rg_idx Try.underlying24 (show (Try.prog.info? 53).map (·.size) = some 2 by kernel_rfl) (zb) (zo) (n) (cb) (i) (by omega) w) ⟨_, rfl, Below.refl _ _, rfl⟩
              · intro vs w' F hb hd hF hl hT
                have e := ((hF 24).trans (look_at _ 24 7 _ _ (by kernel_rfl) (by kernel_rfl) hl)).trans (dep_of (Fact := F_ksc xb xo zb zo n ca cb i sy sq af ag nf cf cg) hd 7 (by kernel_rfl))
                exact one_field _ _ _ rfl rfl _ _ e (zo + i * 2) (fun w => by kernel_rfl) ⟨_, rfl, Below.refl _ _, rfl⟩
              · intro vs w' F hb hd hF hl hT
                have e := ((hF 25).trans (look_at _ 25 8 _ _ (by kernel_rfl) (by kernel_rfl) hl)).trans (dep_of (Fact := F_ksc xb xo zb zo n ca cb i sy sq af ag nf cf cg) hd 8 (by kernel_rfl))
                exact one_load _ _ rfl rfl _ _ e (cell_abides Z0.out hb) (by kernel_rfl) ⟨_, rfl, Below.refl _ _, rfl⟩
              · intro vs w' F hb hd hF hl hT
                have ex := (((hF 21).trans (look_at _ 21 4 _ _ (by kernel_rfl) (by kernel_rfl) hl)).trans (dep_of (Fact := F_ksc xb xo zb zo n ca cb i sy sq af ag nf cf cg) hd 4 (by kernel_rfl)))
                have ey := (((hF 26).trans (look_at _ 26 9 _ _ (by kernel_rfl) (by kernel_rfl) hl)).trans (dep_of (Fact := F_ksc xb xo zb zo n ca cb i sy sq af ag nf cf cg) hd 9 (by kernel_rfl)))
                have hr := str_neqg sy sq w'
                rw [HS.out] at hr
                exact one_binop _ 9 _ _ _ rfl rfl _ _ ex ey (.bool false) (str_guardg _ _ _ _ w') hr ⟨_, rfl, Below.refl _ _, rfl⟩
              · intro vs w' F hb hd hF hl hT
                have e := ((hF 27).trans (look_at _ 27 10 _ _ (by kernel_rfl) (by kernel_rfl) hl)).trans (dep_of (Fact := F_ksc xb xo zb zo n ca cb i sy sq af ag nf cf cg) hd 10 (by kernel_rfl))
                exact one_move _ rfl (by first | exact Or.inl rfl | exact Or.inr rfl) ⟨_, rfl, Below.refl _ _, e⟩
              · intro vs w' F hb hd hF hl hT
                have eg := ((hF 28).trans (look_at _ 28 11 _ _ (by kernel_rfl) (by kernel_rfl) hl)).trans (dep_of (Fact := F_ksc xb xo zb zo n ca cb i sy sq af ag nf cf cg) hd 11 (by kernel_rfl))
                refine wpList_on rfl (t := 28) (by kernel_rfl) eg ?_
                have e := (hF 0).trans (look_out _ 0 _ _ (by kernel_rfl))
                exact one_move _ rfl (by first | exact Or.inl rfl | exact Or.inr rfl) ⟨_, rfl, Below.refl _ _, e⟩
              · intro vs w' F hb hd hF hl hT
                have eg := ((hF 28).trans (look_at _ 28 11 _ _ (by kernel_rfl) (by kernel_rfl) hl)).trans (dep_of (Fact := F_ksc xb xo zb zo n ca cb i sy sq af ag nf cf cg) hd 11 (by kernel_rfl))
                refine wpList_on rfl (t := 28) (by kernel_rfl) eg ?_
                have e := (hF 5).trans (look_out _ 5 _ _ (by kernel_rfl))
                exact one_move _ rfl (by first | exact Or.inl rfl | exact Or.inr rfl) ⟨_, rfl, Below.refl _ _, e⟩
              · intro vs w' F hb hd hF hl hT
                have eg := ((hF 28).trans (look_at _ 28 11 _ _ (by kernel_rfl) (by kernel_rfl) hl)).trans (dep_of (Fact := F_ksc xb xo zb zo n ca cb i sy sq af ag nf cf cg) hd 11 (by kernel_rfl))
                refine wpList_on rfl (t := 28) (by kernel_rfl) eg ?_
                have ex := ((hF 29).trans (look_at _ 29 12 _ _ (by kernel_rfl) (by kernel_rfl) hl)).trans (dep_of (Fact := F_ksc xb xo zb zo n ca cb i sy sq af ag nf cf cg) hd 12 (by kernel_rfl))
                have ey := ((hF 30).trans (look_at _ 30 13 _ _ (by kernel_rfl) (by kernel_rfl) hl)).trans (dep_of (Fact := F_ksc xb xo zb zo n ca cb i sy sq af ag nf cf cg) hd 13 (by kernel_rfl))
                exact one_index 24 _ _ rfl rfl (.slice (some ⟨xb, xo, none⟩) n ca) (.int .i64 i) (.pointer (some ⟨xb, xo + i * 2, none⟩)) ex ey (fun w => rg_idx Try.underlying24 (show (Try.prog.info? 53).map (·.size) = some 2 by kernel_rfl) (xb) (xo) (n) (ca) (i) (by omega) w) ⟨_, rfl, Below.refl _ _, rfl⟩
              · intro vs w' F hb hd hF hl hT
                have eg := ((hF 28).trans (look_at _ 28 11 _ _ (by kernel_rfl) (by kernel_rfl) hl)).trans (dep_of (Fact := F_ksc xb xo zb zo n ca cb i sy sq af ag nf cf cg) hd 11 (by kernel_rfl))
                refine wpList_on rfl (t := 28) (by kernel_rfl) eg ?_
                have e := ((hF 31).trans (look_at _ 31 14 _ _ (by kernel_rfl) (by kernel_rfl) hl)).trans (dep_of (Fact := F_ksc xb xo zb zo n ca cb i sy sq af ag nf cf cg) hd 14 (by kernel_rfl))
                exact one_field _ _ _ rfl rfl _ _ e (xo + i * 2 + 1) (fun w => by kernel_rfl) ⟨_, rfl, Below.refl _ _, rfl⟩
              · intro vs w' F hb hd hF hl hT
                have eg := ((hF 28).trans (look_at _ 28 11 _ _ (by kernel_rfl) (by kernel_rfl) hl)).trans (dep_of (Fact := F_ksc xb xo zb zo n ca cb i sy sq af ag nf cf cg) hd 11 (by kernel_rfl))
                refine wpList_on rfl (t := 28) (by kernel_rfl) eg ?_
                have e := ((hF 32).trans (look_at _ 32 15 _ _ (by kernel_rfl) (by kernel_rfl) hl)).trans (dep_of (Fact := F_ksc xb xo zb zo n ca cb i sy sq af ag nf cf cg) hd 15 (by kernel_rfl))
                exact one_load _ _ rfl rfl _ _ e (cell_abides X1.out hb) (by kernel_rfl) ⟨_, rfl, Below.refl _ _, rfl⟩
              · intro vs w' F hb hd hF hl hT
                have eg := ((hF 28).trans (look_at _ 28 11 _ _ (by kernel_rfl) (by kernel_rfl) hl)).trans (dep_of (Fact := F_ksc xb xo zb zo n ca cb i sy sq af ag nf cf cg) hd 11 (by kernel_rfl))
                refine wpList_on rfl (t := 28) (by kernel_rfl) eg ?_
                have e := ((hF 33).trans (look_at _ 33 16 _ _ (by kernel_rfl) (by kernel_rfl) hl)).trans (dep_of (Fact := F_ksc xb xo zb zo n ca cb i sy sq af ag nf cf cg) hd 16 (by kernel_rfl))
                exact rg_len _ 51 50 rfl rfl Try.underlying51 af (nf) (cf) e ⟨_, rfl, Below.refl _ _, rfl⟩
              · intro vs w' F hb hd hF hl hT
                have eg := ((hF 28).trans (look_at _ 28 11 _ _ (by kernel_rfl) (by kernel_rfl) hl)).trans (dep_of (Fact := F_ksc xb xo zb zo n ca cb i sy sq af ag nf cf cg) hd 11 (by kernel_rfl))
                refine wpList_on rfl (t := 28) (by kernel_rfl) eg ?_
                have e := (hF 1).trans (look_out _ 1 _ _ (by kernel_rfl))
                exact one_move _ rfl (by first | exact Or.inl rfl | exact Or.inr rfl) ⟨_, rfl, Below.refl _ _, e⟩
              · intro vs w' F hb hd hF hl hT
                have eg := ((hF 28).trans (look_at _ 28 11 _ _ (by kernel_rfl) (by kernel_rfl) hl)).trans (dep_of (Fact := F_ksc xb xo zb zo n ca cb i sy sq af ag nf cf cg) hd 11 (by kernel_rfl))
                refine wpList_on rfl (t := 28) (by kernel_rfl) eg ?_
                have e := (hF 5).trans (look_out _ 5 _ _ (by kernel_rfl))
                exact one_move _ rfl (by first | exact Or.inl rfl | exact Or.inr rfl) ⟨_, rfl, Below.refl _ _, e⟩
              · intro vs w' F hb hd hF hl hT
                have eg := ((hF 28).trans (look_at _ 28 11 _ _ (by kernel_rfl) (by kernel_rfl) hl)).trans (dep_of (Fact := F_ksc xb xo zb zo n ca cb i sy sq af ag nf cf cg) hd 11 (by kernel_rfl))
                refine wpList_on rfl (t := 28) (by kernel_rfl) eg ?_
                have ex := ((hF 35).trans (look_at _ 35 18 _ _ (by kernel_rfl) (by kernel_rfl) hl)).trans (dep_of (Fact := F_ksc xb xo zb zo n ca cb i sy sq af ag nf cf cg) hd 18 (by kernel_rfl))
                have ey := ((hF 36).trans (look_at _ 36 19 _ _ (by kernel_rfl) (by kernel_rfl) hl)).trans (dep_of (Fact := F_ksc xb xo zb zo n ca cb i sy sq af ag nf cf cg) hd 19 (by kernel_rfl))
                exact one_index 24 _ _ rfl rfl (.slice (some ⟨zb, zo, none⟩) n cb) (.int .i64 i) (.pointer (some ⟨zb, zo + i * 2, none⟩)) ex ey (fun w => rg_idx Try.underlying24 (show (Try.prog.info? 53).map (·.size) = some 2 by kernel_rfl) (zb) (zo) (n) (cb) (i) (by omega) w) ⟨_, rfl, Below.refl _ _, rfl⟩
              · intro vs w' F hb hd hF hl hT
                have eg := ((hF 28).trans (look_at _ 28 11 _ _ (by kernel_rfl) (by kernel_rfl) hl)).trans (dep_of (Fact := F_ksc xb xo zb zo n ca cb i sy sq af ag nf cf cg) hd 11 (by kernel_rfl))
                refine wpList_on rfl (t := 28) (by kernel_rfl) eg ?_
                have e := ((hF 37).trans (look_at _ 37 20 _ _ (by kernel_rfl) (by kernel_rfl) hl)).trans (dep_of (Fact := F_ksc xb xo zb zo n ca cb i sy sq af ag nf cf cg) hd 20 (by kernel_rfl))
                exact one_field _ _ _ rfl rfl _ _ e (zo + i * 2 + 1) (fun w => by kernel_rfl) ⟨_, rfl, Below.refl _ _, rfl⟩
              · intro vs w' F hb hd hF hl hT
                have eg := ((hF 28).trans (look_at _ 28 11 _ _ (by kernel_rfl) (by kernel_rfl) hl)).trans (dep_of (Fact := F_ksc xb xo zb zo n ca cb i sy sq af ag nf cf cg) hd 11 (by kernel_rfl))
                refine wpList_on rfl (t := 28) (by kernel_rfl) eg ?_
                have e := ((hF 38).trans (look_at _ 38 21 _ _ (by kernel_rfl) (by kernel_rfl) hl)).trans (dep_of (Fact := F_ksc xb xo zb zo n ca cb i sy sq af ag nf cf cg) hd 21 (by kernel_rfl))
                exact one_load _ _ rfl rfl _ _ e (cell_abides Z1.out hb) (by kernel_rfl) ⟨_, rfl, Below.refl _ _, rfl⟩
              · intro vs w' F hb hd hF hl hT
                have eg := ((hF 28).trans (look_at _ 28 11 _ _ (by kernel_rfl) (by kernel_rfl) hl)).trans (dep_of (Fact := F_ksc xb xo zb zo n ca cb i sy sq af ag nf cf cg) hd 11 (by kernel_rfl))
                refine wpList_on rfl (t := 28) (by kernel_rfl) eg ?_
                have e := ((hF 39).trans (look_at _ 39 22 _ _ (by kernel_rfl) (by kernel_rfl) hl)).trans (dep_of (Fact := F_ksc xb xo zb zo n ca cb i sy sq af ag nf cf cg) hd 22 (by kernel_rfl))
                exact rg_len _ 51 50 rfl rfl Try.underlying51 ag (nf) (cg) e ⟨_, rfl, Below.refl _ _, rfl⟩
              · intro vs w' F hb hd hF hl hT
                have eg := ((hF 28).trans (look_at _ 28 11 _ _ (by kernel_rfl) (by kernel_rfl) hl)).trans (dep_of (Fact := F_ksc xb xo zb zo n ca cb i sy sq af ag nf cf cg) hd 11 (by kernel_rfl))
                refine wpList_on rfl (t := 28) (by kernel_rfl) eg ?_
                have e1 := ((hF 34).trans (look_at _ 34 17 _ _ (by kernel_rfl) (by kernel_rfl) hl)).trans (dep_of (Fact := F_ksc xb xo zb zo n ca cb i sy sq af ag nf cf cg) hd 17 (by kernel_rfl))
                have e2 := ((hF 40).trans (look_at _ 40 23 _ _ (by kernel_rfl) (by kernel_rfl) hl)).trans (dep_of (Fact := F_ksc xb xo zb zo n ca cb i sy sq af ag nf cf cg) hd 23 (by kernel_rfl))
                exact rg_neq _ _ _ _ rfl rfl .i64 ((nf : Int)) ((nf : Int)) false e1 e2 (decide_eq_false (by omega)) ⟨_, rfl, Below.refl _ _, rfl⟩
              · intro vs w' F hb hd hF hl hT
                have ec := ((hF 28).trans (look_at _ 28 11 _ _ (by kernel_rfl) (by kernel_rfl) hl)).trans (dep_of (Fact := F_ksc xb xo zb zo n ca cb i sy sq af ag nf cf cg) hd 11 (by kernel_rfl))
                have e := ((hF 41).trans (look_at _ 41 24 _ _ (by kernel_rfl) (by kernel_rfl) hl)).trans (dep_of (Fact := F_ksc xb xo zb zo n ca cb i sy sq af ag nf cf cg) hd 24 (by kernel_rfl))
                exact one_pick_f _ _ _ rfl rfl _ ec e ⟨_, rfl, Below.refl _ _, rfl⟩
            · intro vs8 W8 hl hb hI
              have hv : vs8.getD 25 undef = .bool false := hI 25 (by omega)
              obtain ⟨x0, x1, x2, x3, x4, x5, x6, x7, x8, x9, x10, x11, x12, x13, x14, x15, x16, x17, x18, x19, x20, x21, x22, x23, x24, x25, hvs⟩ := list26 hl
              subst hvs
              replace hv : x25 = .bool false := hv
              subst hv
              clear hI hl
              simp only [fillAll, Act.put, List.setIfInBounds_toArray, List.set_cons_succ, List.set_cons_zero]
              show wpList _ _ _ [] _ _
              have HB8 := Lib.hid hb
              have hb8 := hb.size
              clear hb
              obtain ⟨T, hT⟩ : ∃ T, T = eqL feqB y.fields q.fields := ⟨_, rfl⟩
              have HKE := Lib.hid (show keqB y q = T by unfold keqB; rw [← HSY.out, ← HSQ.out, HS.out, Bool.true_and, hT])
              have HT := Lib.hid hT
              clear hT
              have x81 := cell_abides X1.out HB8.out
              go_wp2
              go_loopg [6, 49] nf (fun gk v6 vi wx => ∃ u : Nat, u ≤ nf ∧ gk = nf - u ∧ vi = .int .i64 u ∧ (∀ j (h : j < nf), j < u → feqB (y.fields[j]'(by rw [← HNF.out]; exact h)) (q.fields[j]'(by rw [← HNG.out]; exact h)) = true) ∧ Below Wo.heap.size Wo wx)
              case atStart => exact ⟨0, Nat.zero_le _, rfl, rfl, fun j h h2 => absurd h2 (by omega), HB8.out⟩
              case round =>
                obtain ⟨u, hu, g4, rfl, hft, hbo⟩ := hrel
                have G4 := Lib.hid g4
                have HFT := Lib.hid hft
                have HBO := Lib.hid hbo
                have hbos := hbo.size
                clear g4 hft hbo
                by_cases huf : u < nf
                · obtain ⟨x4, rfl, _, _⟩ := XF.out (by rw [← HNF.out]; omega)
                  obtain ⟨z4, rfl, _, _⟩ := ZF.out (by rw [← HNG.out]; omega)
                  obtain ⟨fb, fo, rfl, hfx⟩ := fld_cells (XF.out.below FieldAt.abides HBO.out) u (by rw [← HNF.out]; exact huf)
                  obtain ⟨gb, go, rfl, hfz⟩ := fld_cells (ZF.out.below FieldAt.abides HBO.out) u (by rw [← HNG.out]; exact huf)
                  obtain ⟨p, hp⟩ : ∃ p, p = y.fields[u]'(by rw [← HNF.out]; exact huf) := ⟨_, rfl⟩
                  obtain ⟨r, hr⟩ : ∃ r, r = q.fields[u]'(by rw [← HNG.out]; exact huf) := ⟨_, rfl⟩
                  rw [← hp] at hfx
                  rw [← hr] at hfz
                  have CX := Lib.hid hfx
                  have CZ := Lib.hid hfz
                  have HPD := Lib.hid hp
                  have HRD := Lib.hid hr
                  have Y1 := Lib.hid (cell_abides X1.out HBO.out)
                  have Q1 := Lib.hid (cell_abides Z1.out HBO.out)
                  clear hfx hfz hp hr
                  obtain ⟨S2, hS2⟩ : ∃ S2, S2 = feqB p r := ⟨_, rfl⟩
                  have HS2 := Lib.hid hS2
                  clear hS2
                  cases S2 with
                  | true =>
                    go_wp2
                    refine wp_region_facts_t rfl 17 (by kernel_rfl) (F_ktt xb xo zb zo n ca cb i u fb fo gb go nf cf cg p r) (F_ktt_mono xb xo zb zo n ca cb i u fb fo gb go nf cf cg p r) ?_ ?_
                    · refine ⟨?_, ?_, ?_, ?_, ?_, ?_, ?_, ?_, ?_, ?_, ?_, ?_, ?_, ?_, ?_, ?_, ?_, trivial⟩
                      · intro vs w' F hb hd hF hl hT
                        have e := (hF 0).trans (look_out _ 0 _ _ (by kernel_rfl))
                        exact one_move _ rfl (by first | exact Or.inl rfl | exact Or.inr rfl) ⟨_, rfl, Below.refl _ _, e⟩
                      · intro vs w' F hb hd hF hl hT
                        have e := (hF 5).trans (look_out _ 5 _ _ (by kernel_rfl))
                        exact one_move _ rfl (by first | exact Or.inl rfl | exact Or.inr rfl) ⟨_, rfl, Below.refl _ _, e⟩
                      · intro vs w' F hb hd hF hl hT
                        have ex := ((hF 52).trans (look_at _ 52 0 _ _ (by kernel_rfl) (by kernel_rfl) hl)).trans (dep_of (Fact := F_ktt xb xo zb zo n ca cb i u fb fo gb go nf cf cg p r) hd 0 (by kernel_rfl))
                        have ey := ((hF 53).trans (look_at _ 53 1 _ _ (by kernel_rfl) (by kernel_rfl) hl)).trans (dep_of (Fact := F_ktt xb xo zb zo n ca cb i u fb fo gb go nf cf cg p r) hd 1 (by kernel_rfl))
                        exact one_index 24 _ _ rfl rfl (.slice (some ⟨xb, xo, none⟩) n ca) (.int .i64 i) (.pointer (some ⟨xb, xo + i * 2, none⟩)) ex ey (fun w => rg_idx Try.underlying24 (show (Try.prog.info? 53).map (·.size) = some 2 by kernel_rfl) (xb) (xo) (n) (ca) (i) (by omega) w) ⟨_, rfl, Below.refl _ _, rfl⟩
                      · intro vs w' F hb hd hF hl hT
                        have e := ((hF 54).trans (look_at _ 54 2 _ _ (by kernel_rfl) (by kernel_rfl) hl)).trans (dep_of (Fact := F_ktt xb xo zb zo n ca cb i u fb fo gb go nf cf cg p r) hd 2 (by kernel_rfl))
                        exact one_field _ _ _ rfl rfl _ _ e (xo + i * 2 + 1) (fun w => by kernel_rfl) ⟨_, rfl, Below.refl _ _, rfl⟩
                      · intro vs w' F hb hd hF hl hT
                        have e := ((hF 55).trans (look_at _ 55 3 _ _ (by kernel_rfl) (by kernel_rfl) hl)).trans (dep_of (Fact := F_ktt xb xo zb zo n ca cb i u fb fo gb go nf cf cg p r) hd 3 (by kernel_rfl))
                        exact one_load _ _ rfl rfl _ _ e (cell_abides Y1.out hb) (by kernel_rfl) ⟨_, rfl, Below.refl _ _, rfl⟩
                      · intro vs w' F hb hd hF hl hT
                        have e := (hF 6).trans (look_out _ 6 _ _ (by kernel_rfl))
                        exact one_move _ rfl (by first | exact Or.inl rfl | exact Or.inr rfl) ⟨_, rfl, Below.refl _ _, e⟩
                      · intro vs w' F hb hd hF hl hT
                        have ex := ((hF 56).trans (look_at _ 56 4 _ _ (by kernel_rfl) (by kernel_rfl) hl)).trans (dep_of (Fact := F_ktt xb xo zb zo n ca cb i u fb fo gb go nf cf cg p r) hd 4 (by kernel_rfl))
                        have ey := ((hF 57).trans (look_at _ 57 5 _ _ (by kernel_rfl) (by kernel_rfl) hl)).trans (dep_of (Fact := F_ktt xb xo zb zo n ca cb i u fb fo gb go nf cf cg p r) hd 5 (by kernel_rfl))
                        exact one_index 51 _ _ rfl rfl (.slice (some ⟨fb, fo, none⟩) nf cf) (.int .i64 u) (.pointer (some ⟨fb, fo + u * 3, none⟩)) ex ey (fun w => rg_idx Try.underlying51 (show (Try.prog.info? 50).map (·.size) = some 3 by kernel_rfl) (fb) (fo) (nf) (cf) (u) (by omega) w) ⟨_, rfl, Below.refl _ _, rfl⟩
                      · intro vs w' F hb hd hF hl hT
                        have e := ((hF 58).trans (look_at _ 58 6 _ _ (by kernel_rfl) (by kernel_rfl) hl)).trans (dep_of (Fact := F_ktt xb xo zb zo n ca cb i u fb fo gb go nf cf cg p r) hd 6 (by kernel_rfl))
                        exact rg_load 50 _ rfl rfl (fb) (fo + u * 3) [.string p.name, .int .i64 p.bits, .int .i64 p.low] e (CX.out.below hb) _ Try.underlying50 rfl (by kernel_rfl) ⟨_, rfl, Below.refl _ _, rfl⟩
                      · intro vs w' F hb hd hF hl hT
                        have e := (hF 1).trans (look_out _ 1 _ _ (by kernel_rfl))
                        exact one_move _ rfl (by first | exact Or.inl rfl | exact Or.inr rfl) ⟨_, rfl, Below.refl _ _, e⟩
                      · intro vs w' F hb hd hF hl hT
                        have e := (hF 5).trans (look_out _ 5 _ _ (by kernel_rfl))
                        exact one_move _ rfl (by first | exact Or.inl rfl | exact Or.inr rfl) ⟨_, rfl, Below.refl _ _, e⟩
                      · intro vs w' F hb hd hF hl hT
                        have ex := ((hF 60).trans (look_at _ 60 8 _ _ (by kernel_rfl) (by kernel_rfl) hl)).trans (dep_of (Fact := F_ktt xb xo zb zo n ca cb i u fb fo gb go nf cf cg p r) hd 8 (by kernel_rfl))
                        have ey := ((hF 61).trans (look_at _ 61 9 _ _ (by kernel_rfl) (by kernel_rfl) hl)).trans (dep_of (Fact := F_ktt xb xo zb zo n ca cb i u fb fo gb go nf cf cg p r) hd 9 (by kernel_rfl))
                        exact one_index 24 _ _ rfl rfl (.slice (some ⟨zb, zo, none⟩) n cb) (.int .i64 i) (.pointer (some ⟨zb, zo + i * 2, none⟩)) ex ey (fun w => rg_idx Try.underlying24 (show (Try.prog.info? 53).map (·.size) = some 2 by kernel_rfl) (zb) (zo) (n) (cb) (i) (by omega) w) ⟨_, rfl, Below.refl _ _, rfl⟩
                      · intro vs w' F hb hd hF hl hT
                        have e := ((hF 62).trans (look_at _ 62 10 _ _ (by kernel_rfl) (by kernel_rfl) hl)).trans (dep_of (Fact := F_ktt xb xo zb zo n ca cb i u fb fo gb go nf cf cg p r) hd 10 (by kernel_rfl))
                        exact one_field _ _ _ rfl rfl _ _ e (zo + i * 2 + 1) (fun w => by kernel_rfl) ⟨_, rfl, Below.refl _ _, rfl⟩
                      · intro vs w' F hb hd hF hl hT
                        have e := ((hF 63).trans (look_at _ 63 11 _ _ (by kernel_rfl) (by kernel_rfl) hl)).trans (dep_of (Fact := F_ktt xb xo zb zo n ca cb i u fb fo gb go nf cf cg p r) hd 11 (by kernel_rfl))
                        exact one_load _ _ rfl rfl _ _ e (cell_abides Q1.out hb) (by kernel_rfl) ⟨_, rfl, Below.refl _ _, rfl⟩
                      · intro vs w' F hb hd hF hl hT
                        have e := (hF 6).trans (look_out _ 6 _ _ (by kernel_rfl))
                        exact one_move _ rfl (by first | exact Or.inl rfl | exact Or.inr rfl) ⟨_, rfl, Below.refl _ _, e⟩
                      · intro vs w' F hb hd hF hl hT
                        have ex := ((hF 64).trans (look_at _ 64 12 _ _ (by kernel_rfl) (by kernel_rfl) hl)).trans (dep_of (Fact := F_ktt xb xo zb zo n ca cb i u fb fo gb go nf cf cg p r) hd 12 (by kernel_rfl))
                        have ey := ((hF 65).trans (look_at _ 65 13 _ _ (by kernel_rfl) (by kernel_rfl) hl)).trans (dep_of (Fact := F_ktt xb xo zb zo n ca cb i u fb fo gb go nf cf cg p r) hd 13 (by kernel_rfl))
                        exact one_index 51 _ _ rfl rfl (.slice (some ⟨gb, go, none⟩) nf cg) (.int .i64 u) (.pointer (some ⟨gb, go + u * 3, none⟩)) ex ey (fun w => rg_idx Try.underlying51 (show (Try.prog.info? 50).map (·.size) = some 3 by kernel_rfl) (gb) (go) (nf) (cg) (u) (by omega) w) ⟨_, rfl, Below.refl _ _, rfl⟩
                      · intro vs w' F hb hd hF hl hT
                        have e := ((hF 66).trans (look_at _ 66 14 _ _ (by kernel_rfl) (by kernel_rfl) hl)).trans (dep_of (Fact := F_ktt xb xo zb zo n ca cb i u fb fo gb go nf cf cg p r) hd 14 (by kernel_rfl))
                        exact rg_load 50 _ rfl rfl (gb) (go + u * 3) [.string r.name, .int .i64 r.bits, .int .i64 r.low] e (CZ.out.below hb) _ Try.underlying50 rfl (by kernel_rfl) ⟨_, rfl, Below.refl _ _, rfl⟩
                      · intro vs w' F hb hd hF hl hT
                        have ex := (((hF 59).trans (look_at _ 59 7 _ _ (by kernel_rfl) (by kernel_rfl) hl)).trans (dep_of (Fact := F_ktt xb xo zb zo n ca cb i u fb fo gb go nf cf cg p r) hd 7 (by kernel_rfl)))
                        have ey := (((hF 67).trans (look_at _ 67 15 _ _ (by kernel_rfl) (by kernel_rfl) hl)).trans (dep_of (Fact := F_ktt xb xo zb zo n ca cb i u fb fo gb go nf cf cg p r) hd 15 (by kernel_rfl)))
                        have hr := fld_neqg p.name r.name p.bits p.low r.bits r.low w'
                        rw [show (p.name.toList == r.name.toList && (decide (p.bits = r.bits) && decide (p.low = r.low))) = true from HS2.out.symm] at hr
                        exact one_binop _ 50 _ _ _ rfl rfl _ _ ex ey (.bool false) (fld_guardg _ _ _ _ w') hr ⟨_, rfl, Below.refl _ _, rfl⟩
                    · intro vs8 W8 hl hb hI
                      have hv : vs8.getD 16 undef = .bool false := hI 16 (by omega)
                      obtain ⟨x0, x1, x2, x3, x4, x5, x6, x7, x8, x9, x10, x11, x12, x13, x14, x15, x16, hvs⟩ := list17 hl
                      subst hvs
                      replace hv : x16 = .bool false := hv
                      subst hv
                      clear hI hl
                      simp only [fillAll, Act.put, List.setIfInBounds_toArray, List.set_cons_succ, List.set_cons_zero]
                      show wpList _ _ _ [] _ _
                      have HB9 := Lib.hid (bt HBO.out hb)
                      clear hb
                      go_wp2
                      go_roundg (nf - (u + 1))
                      case measure => rw [G4.out]; omega
                      case rel => exact ⟨u + 1, huf, rfl, by go_num, fun j h hj => by
                        by_cases hji : j < u
                        · exact HFT.out j h hji
                        · obtain rfl : j = u := by omega
                          rw [← HPD.out, ← HRD.out]; exact HS2.out.symm, HB9.out⟩
                  | false =>
                    have HF := Lib.hid (show R = false by rw [HR.out]; exact eqL_ne i (by rw [HN.out]; exact hlt) (by rw [HM.out]; exact hlt) (by rw [← HYD.out, ← HQD.out, HKE.out, HT.out]; exact eqL_ne u (by rw [← HNF.out]; exact huf) (by rw [← HNG.out]; exact huf) (by rw [← HPD.out, ← HRD.out]; exact HS2.out.symm)))
                    go_wp2
                    refine wp_region_facts_t rfl 17 (by kernel_rfl) (F_ktf xb xo zb zo n ca cb i u fb fo gb go nf cf cg p r) (F_ktf_mono xb xo zb zo n ca cb i u fb fo gb go nf cf cg p r) ?_ ?_
                    · refine ⟨?_, ?_, ?_, ?_, ?_, ?_, ?_, ?_, ?_, ?_, ?_, ?_, ?_, ?_, ?_, ?_, ?_, trivial⟩
                      · intro vs w' F hb hd hF hl hT
                        have e := (hF 0).trans (look_out _ 0 _ _ (by kernel_rfl))
                        exact one_move _ rfl (by first | exact Or.inl rfl | exact Or.inr rfl) ⟨_, rfl, Below.refl _ _, e⟩
                      · intro vs w' F hb hd hF hl hT
                        have e := (hF 5).trans (look_out _ 5 _ _ (by kernel_rfl))
                        exact one_move _ rfl (by first | exact Or.inl rfl | exact Or.inr rfl) ⟨_, rfl, Below.refl _ _, e⟩
                      · intro vs w' F hb hd hF hl hT
                        have ex := ((hF 52).trans (look_at _ 52 0 _ _ (by kernel_rfl) (by kernel_rfl) hl)).trans (dep_of (Fact := F_ktf xb xo zb zo n ca cb i u fb fo gb go nf cf cg p r) hd 0 (by kernel_rfl))
                        have ey := ((hF 53).trans (look_at _ 53 1 _ _ (by kernel_rfl) (by kernel_rfl) hl)).trans (dep_of (Fact := F_ktf xb xo zb zo n ca cb i u fb fo gb go nf cf cg p r) hd 1 (by kernel_rfl))
                        exact one_index 24 _ _ rfl rfl (.slice (some ⟨xb, xo, none⟩) n ca) (.int .i64 i) (.pointer (some ⟨xb, xo + i * 2, none⟩)) ex ey (fun w => rg_idx Try.underlying24 (show (Try.prog.info? 53).map (·.size) = some 2 by kernel_rfl) (xb) (xo) (n) (ca) (i) (by omega) w) ⟨_, rfl, Below.refl _ _, rfl⟩
                      · intro vs w' F hb hd hF hl hT
                        have e := ((hF 54).trans (look_at _ 54 2 _ _ (by kernel_rfl) (by kernel_rfl) hl)).trans (dep_of (Fact := F_ktf xb xo zb zo n ca cb i u fb fo gb go nf cf cg p r) hd 2 (by kernel_rfl))
                        exact one_field _ _ _ rfl rfl _ _ e (xo + i * 2 + 1) (fun w => by kernel_rfl) ⟨_, rfl, Below.refl _ _, rfl⟩
                      · intro vs w' F hb hd hF hl hT
                        have e := ((hF 55).trans (look_at _ 55 3 _ _ (by kernel_rfl) (by kernel_rfl) hl)).trans (dep_of (Fact := F_ktf xb xo zb zo n ca cb i u fb fo gb go nf cf cg p r) hd 3 (by kernel_rfl))
                        exact one_load _ _ rfl rfl _ _ e (cell_abides Y1.out hb) (by kernel_rfl) ⟨_, rfl, Below.refl _ _, rfl⟩
                      · intro vs w' F hb hd hF hl hT
                        have e := (hF 6).trans (look_out _ 6 _ _ (by kernel_rfl))
                        exact one_move _ rfl (by first | exact Or.inl rfl | exact Or.inr rfl) ⟨_, rfl, Below.refl _ _, e⟩
                      · intro vs w' F hb hd hF hl hT
                        have ex := ((hF 56).trans (look_at _ 56 4 _ _ (by kernel_rfl) (by kernel_rfl) hl)).trans (dep_of (Fact := F_ktf xb xo zb zo n ca cb i u fb fo gb go nf cf cg p r) hd 4 (by kernel_rfl))
                        have ey := ((hF 57).trans (look_at _ 57 5 _ _ (by kernel_rfl) (by kernel_rfl) hl)).trans (dep_of (Fact := F_ktf xb xo zb zo n ca cb i u fb fo gb go nf cf cg p r) hd 5 (by kernel_rfl))
                        exact one_index 51 _ _ rfl rfl (.slice (some ⟨fb, fo, none⟩) nf cf) (.int .i64 u) (.pointer (some ⟨fb, fo + u * 3, none⟩)) ex ey (fun w => rg_idx Try.underlying51 (show (Try.prog.info? 50).map (·.size) = some 3 by kernel_rfl) (fb) (fo) (nf) (cf) (u) (by omega) w) ⟨_, rfl, Below.refl _ _, rfl⟩
                      · intro vs w' F hb hd hF hl hT
                        have e := ((hF 58).trans (look_at _ 58 6 _ _ (by kernel_rfl) (by kernel_rfl) hl)).trans (dep_of (Fact := F_ktf xb xo zb zo n ca cb i u fb fo gb go nf cf cg p r) hd 6 (by kernel_rfl))
                        exact rg_load 50 _ rfl rfl (fb) (fo + u * 3) [.string p.name, .int .i64 p.bits, .int .i64 p.low] e (CX.out.below hb) _ Try.underlying50 rfl (by kernel_rfl) ⟨_, rfl, Below.refl _ _, rfl⟩
                      · intro vs w' F hb hd hF hl hT
                        have e := (hF 1).trans (look_out _ 1 _ _ (by kernel_rfl))
                        exact one_move _ rfl (by first | exact Or.inl rfl | exact Or.inr rfl) ⟨_, rfl, Below.refl _ _, e⟩
                      · intro vs w' F hb hd hF hl hT
                        have e := (hF 5).trans (look_out _ 5 _ _ (by kernel_rfl))
                        exact one_move _ rfl (by first | exact Or.inl rfl | exact Or.inr rfl) ⟨_, rfl, Below.refl _ _, e⟩
                      · intro vs w' F hb hd hF hl hT
                        have ex := ((hF 60).trans (look_at _ 60 8 _ _ (by kernel_rfl) (by kernel_rfl) hl)).trans (dep_of (Fact := F_ktf xb xo zb zo n ca cb i u fb fo gb go nf cf cg p r) hd 8 (by kernel_rfl))
                        have ey := ((hF 61).trans (look_at _ 61 9 _ _ (by kernel_rfl) (by kernel_rfl) hl)).trans (dep_of (Fact := F_ktf xb xo zb zo n ca cb i u fb fo gb go nf cf cg p r) hd 9 (by kernel_rfl))
                        exact one_index 24 _ _ rfl rfl (.slice (some ⟨zb, zo, none⟩) n cb) (.int .i64 i) (.pointer (some ⟨zb, zo + i * 2, none⟩)) ex ey (fun w => rg_idx Try.underlying24 (show (Try.prog.info? 53).map (·.size) = some 2 by kernel_rfl) (zb) (zo) (n) (cb) (i) (by omega) w) ⟨_, rfl, Below.refl _ _, rfl⟩
                      · intro vs w' F hb hd hF hl hT
                        have e := ((hF 62).trans (look_at _ 62 10 _ _ (by kernel_rfl) (by kernel_rfl) hl)).trans (dep_of (Fact := F_ktf xb xo zb zo n ca cb i u fb fo gb go nf cf cg p r) hd 10 (by kernel_rfl))
                        exact one_field _ _ _ rfl rfl _ _ e (zo + i * 2 + 1) (fun w => by kernel_rfl) ⟨_, rfl, Below.refl _ _, rfl⟩
                      · intro vs w' F hb hd hF hl hT
                        have e := ((hF 63).trans (look_at _ 63 11 _ _ (by kernel_rfl) (by kernel_rfl) hl)).trans (dep_of (Fact := F_ktf xb xo zb zo n ca cb i u fb fo gb go nf cf cg p r) hd 11 (by kernel_rfl))
                        exact one_load _ _ rfl rfl _ _ e (cell_abides Q1.out hb) (by kernel_rfl) ⟨_, rfl, Below.refl _ _, rfl⟩
                      · intro vs w' F hb hd hF hl hT
                        have e := (hF 6).trans (look_out _ 6 _ _ (by kernel_rfl))
                        exact one_move _ rfl (by first | exact Or.inl rfl | exact Or.inr rfl) ⟨_, rfl, Below.refl _ _, e⟩
                      · intro vs w' F hb hd hF hl hT
                        have ex := ((hF 64).trans (look_at _ 64 12 _ _ (by kernel_rfl) (by kernel_rfl) hl)).trans (dep_of (Fact := F_ktf xb xo zb zo n ca cb i u fb fo gb go nf cf cg p r) hd 12 (by kernel_rfl))
                        have ey := ((hF 65).trans (look_at _ 65 13 _ _ (by kernel_rfl) (by kernel_rfl) hl)).trans (dep_of (Fact := F_ktf xb xo zb zo n ca cb i u fb fo gb go nf cf cg p r) hd 13 (by kernel_rfl))
                        exact one_index 51 _ _ rfl rfl (.slice (some ⟨gb, go, none⟩) nf cg) (.int .i64 u) (.pointer (some ⟨gb, go + u * 3, none⟩)) ex ey (fun w => rg_idx Try.underlying51 (show (Try.prog.info? 50).map (·.size) = some 3 by kernel_rfl) (gb) (go) (nf) (cg) (u) (by omega) w) ⟨_, rfl, Below.refl _ _, rfl⟩
                      · intro vs w' F hb hd hF hl hT
                        have e := ((hF 66).trans (look_at _ 66 14 _ _ (by kernel_rfl) (by kernel_rfl) hl)).trans (dep_of (Fact := F_ktf xb xo zb zo n ca cb i u fb fo gb go nf cf cg p r) hd 14 (by kernel_rfl))
                        exact rg_load 50 _ rfl rfl (gb) (go + u * 3) [.string r.name, .int .i64 r.bits, .int .i64 r.low] e (CZ.out.below hb) _ Try.underlying50 rfl (by kernel_rfl) ⟨_, rfl, Below.refl _ _, rfl⟩
                      · intro vs w' F hb hd hF hl hT
                        have ex := (((hF 59).trans (look_at _ 59 7 _ _ (by kernel_rfl) (by kernel_rfl) hl)).trans (dep_of (Fact := F_ktf xb xo zb zo n ca cb i u fb fo gb go nf cf cg p r) hd 7 (by kernel_rfl)))
                        have ey := (((hF 67).trans (look_at _ 67 15 _ _ (by kernel_rfl) (by kernel_rfl) hl)).trans (dep_of (Fact := F_ktf xb xo zb zo n ca cb i u fb fo gb go nf cf cg p r) hd 15 (by kernel_rfl)))
                        have hr := fld_neqg p.name r.name p.bits p.low r.bits r.low w'
                        rw [show (p.name.toList == r.name.toList && (decide (p.bits = r.bits) && decide (p.low = r.low))) = false from HS2.out.symm] at hr
                        exact one_binop _ 50 _ _ _ rfl rfl _ _ ex ey (.bool true) (fld_guardg _ _ _ _ w') hr ⟨_, rfl, Below.refl _ _, rfl⟩
                    · intro vs8 W8 hl hb hI
                      have hv : vs8.getD 16 undef = .bool true := hI 16 (by omega)
                      obtain ⟨x0, x1, x2, x3, x4, x5, x6, x7, x8, x9, x10, x11, x12, x13, x14, x15, x16, hvs⟩ := list17 hl
                      subst hvs
                      replace hv : x16 = .bool true := hv
                      subst hv
                      clear hI hl
                      simp only [fillAll, Act.put, List.setIfInBounds_toArray, List.set_cons_succ, List.set_cons_zero]
                      show wpList _ _ _ [] _ _
                      have HB9 := Lib.hid (bt HB.out (bt HBO.out hb))
                      clear hb
                      go_wp2
                      go_ret
                      exact ⟨by rw [HF.out]; rfl, HB9.out⟩
                · have HB9 := Lib.hid (bt HB.out HBO.out)
                  have huf2 : u = nf := by omega
                  have HK := Lib.hid (show keqB y q = true by rw [HKE.out, HT.out]; exact eqL_eq (HNF.out.symm.trans HNG.out) (fun j h _ => HFT.out j (by rw [HNF.out]; exact h) (by rw [huf2, HNF.out]; exact h)))
                  clear huf2
                  go_wp2
                  go_roundg (n - (i + 1))
                  case measure => rw [G2.out]; omega
                  case rel => exact ⟨i + 1, hlt, rfl, by go_num, fun j h hj => by
                    by_cases hji : j < i
                    · exact HAT.out j h hji
                    · obtain rfl : j = i := by omega
                      rw [← HYD.out, ← HQD.out]; exact HK.out, HB9.out⟩
          · have HF := Lib.hid (show R = false by rw [HR.out]; exact eqL_ne i (by rw [HN.out]; exact hlt) (by rw [HM.out]; exact hlt) (by rw [← HYD.out, ← HQD.out]; unfold keqB; rw [eqL_len (by rw [← HNF.out, ← HNG.out]; exact hfg), Bool.and_false]))
            go_wp2
            refine wp_region_facts_t rfl 26 (by kernel_rfl) (F_ksb xb xo zb zo n ca cb i sy sq af ag nf ng cf cg) (F_ksb_mono xb xo zb zo n ca cb i sy sq af ag nf ng cf cg) ?_ ?_
            · refine ⟨?_, ?_, ?_, ?_, ?_, ?_, ?_, ?_, ?_, ?_, ?_, ?_, ?_, ?_, ?_, ?_, ?_, ?_, ?_, ?_, ?_, ?_, ?_, ?_, ?_, ?_, trivial⟩
              · intro vs w' F hb hd hF hl hT
                have e := (hF 0).trans (look_out _ 0 _ _ (by kernel_rfl))
                exact one_move _ rfl (by first | exact Or.inl rfl | exact Or.inr rfl) ⟨_, rfl, Below.refl _ _, e⟩
              · intro vs w' F hb hd hF hl hT
                have e := (hF 5).trans (look_out _ 5 _ _ (by kernel_rfl))
                exact one_move _ rfl (by first | exact Or.inl rfl | exact Or.inr rfl) ⟨_, rfl, Below.refl _ _, e⟩
              · intro vs w' F hb hd hF hl hT
                have ex := ((hF 17).trans (look_at _ 17 0 _ _ (by kernel_rfl) (by kernel_rfl) hl)).trans (dep_of (Fact := F_ksb xb xo zb zo n ca cb i sy sq af ag nf ng cf cg) hd 0 (by kernel_rfl))
                have ey := ((hF 18).trans (look_at _ 18 1 _ _ (by kernel_rfl) (by kernel_rfl) hl)).trans (dep_of (Fact := F_ksb xb xo zb zo n ca cb i sy sq af ag nf ng cf cg) hd 1 (by kernel_rfl))
                exact one_index 24 _ _ rfl rfl (.slice (some ⟨xb, xo, none⟩) n ca) (.int .i64 i) (.pointer (some ⟨xb, xo + i * 2, none⟩)) ex ey (fun w => rg_idx Try.underlying24 (show (Try.prog.info? 53).map (·.size) = some 2 by kernel_rfl) (xb) (xo) (n) (ca) (i) (by omega) w) ⟨_, rfl, Below.refl _ _, rfl⟩
              · intro vs w' F hb hd hF hl hT
                have e := ((hF 19).trans (look_at _ 19 2 _ _ (by kernel_rfl) (by kernel_rfl) hl)).trans (dep_of (Fact := F_ksb xb xo zb zo n ca cb i sy sq af ag nf ng cf cg) hd 2 (by kernel_rfl))
                exact one_field _ _ _ rfl rfl _ _ e (xo + i * 2) (fun w => by kernel_rfl) ⟨_, rfl, Below.refl _ _, rfl⟩
              · intro vs w' F hb hd hF hl hT
                have e := ((hF 20).trans (look_at _ 20 3 _ _ (by kernel_rfl) (by kernel_rfl) hl)).trans (dep_of (Fact := F_ksb xb xo zb zo n ca cb i sy sq af ag nf ng cf cg) hd 3 (by kernel_rfl))
                exact one_load _ _ rfl rfl _ _ e (cell_abides X0.out hb) (by kernel_rfl) ⟨_, rfl, Below.refl _ _, rfl⟩
              · intro vs w' F hb hd hF hl hT
                have e := (hF 1).trans (look_out _ 1 _ _ (by kernel_rfl))
                exact one_move _ rfl (by first | exact Or.inl rfl | exact Or.inr rfl) ⟨_, rfl, Below.refl _ _, e⟩
              · intro vs w' F hb hd hF hl hT
                have e := (hF 5).trans (look_out _ 5 _ _ (by kernel_rfl))
                exact one_move _ rfl (by first | exact Or.inl rfl | exact Or.inr rfl) ⟨_, rfl, Below.refl _ _, e⟩
              · intro vs w' F hb hd hF hl hT
                have ex := ((hF 22).trans (look_at _ 22 5 _ _ (by kernel_rfl) (by kernel_rfl) hl)).trans (dep_of (Fact := F_ksb xb xo zb zo n ca cb i sy sq af ag nf ng cf cg) hd 5 (by kernel_rfl))
                have ey := ((hF 23).trans (look_at _ 23 6 _ _ (by kernel_rfl) (by kernel_rfl) hl)).trans (dep_of (Fact := F_ksb xb xo zb zo n ca cb i sy sq af ag nf ng cf cg) hd 6 (by kernel_rfl))
                exact one_index 24 _ _ rfl rfl (.slice (some ⟨zb, zo, none⟩) n cb) (.int .i64 i) (.pointer (some ⟨zb, zo + i * 2, none⟩)) ex ey (fun w => rg_idx Try.underlying24 (show (Try.prog.info? 53).map (·.size) = some 2 by kernel_rfl) (zb) (zo) (n) (cb) (i) (by omega) w) ⟨_, rfl, Below.refl _ _, rfl⟩
              · intro vs w' F hb hd hF hl hT
                have e := ((hF 24).trans (look_at _ 24 7 _ _ (by kernel_rfl) (by kernel_rfl) hl)).trans (dep_of (Fact := F_ksb xb xo zb zo n ca cb i sy sq af ag nf ng cf cg) hd 7 (by kernel_rfl))
                exact one_field _ _ _ rfl rfl _ _ e (zo + i * 2) (fun w => by kernel_rfl) ⟨_, rfl, Below.refl _ _, rfl⟩
              · intro vs w' F hb hd hF hl hT
                have e := ((hF 25).trans (look_at _ 25 8 _ _ (by kernel_rfl) (by kernel_rfl) hl)).trans (dep_of (Fact := F_ksb xb xo zb zo n ca cb i sy sq af ag nf ng cf cg) hd 8 (by kernel_rfl))
                exact one_load _ _ rfl rfl _ _ e (cell_abides Z0.out hb) (by kernel_rfl) ⟨_, rfl, Below.refl _ _, rfl⟩
              · intro vs w' F hb hd hF hl hT
                have ex := (((hF 21).trans (look_at _ 21 4 _ _ (by kernel_rfl) (by kernel_rfl) hl)).trans (dep_of (Fact := F_ksb xb xo zb zo n ca cb i sy sq af ag nf ng cf cg) hd 4 (by kernel_rfl)))
                have ey := (((hF 26).trans (look_at _ 26 9 _ _ (by kernel_rfl) (by kernel_rfl) hl)).trans (dep_of (Fact := F_ksb xb xo zb zo n ca cb i sy sq af ag nf ng cf cg) hd 9 (by kernel_rfl)))
                have hr := str_neqg sy sq w'
                rw [HS.out] at hr
                exact one_binop _ 9 _ _ _ rfl rfl _ _ ex ey (.bool false) (str_guardg _ _ _ _ w') hr ⟨_, rfl, Below.refl _ _, rfl⟩
              · intro vs w' F hb hd hF hl hT
                have e := ((hF 27).trans (look_at _ 27 10 _ _ (by kernel_rfl) (by kernel_rfl) hl)).trans (dep_of (Fact := F_ksb xb xo zb zo n ca cb i sy sq af ag nf ng cf cg) hd 10 (by kernel_rfl))
                exact one_move _ rfl (by first | exact Or.inl rfl | exact Or.inr rfl) ⟨_, rfl, Below.refl _ _, e⟩
              · intro vs w' F hb hd hF hl hT
                have eg := ((hF 28).trans (look_at _ 28 11 _ _ (by kernel_rfl) (by kernel_rfl) hl)).trans (dep_of (Fact := F_ksb xb xo zb zo n ca cb i sy sq af ag nf ng cf cg) hd 11 (by kernel_rfl))
                refine wpList_on rfl (t := 28) (by kernel_rfl) eg ?_
                have e := (hF 0).trans (look_out _ 0 _ _ (by kernel_rfl))
                exact one_move _ rfl (by first | exact Or.inl rfl | exact Or.inr rfl) ⟨_, rfl, Below.refl _ _, e⟩
              · intro vs w' F hb hd hF hl hT
                have eg := ((hF 28).trans (look_at _ 28 11 _ _ (by kernel_rfl) (by kernel_rfl) hl)).trans (dep_of (Fact := F_ksb xb xo zb zo n ca cb i sy sq af ag nf ng cf cg) hd 11 (by kernel_rfl))
                refine wpList_on rfl (t := 28) (by kernel_rfl) eg ?_
                have e := (hF 5).trans (look_out _ 5 _ _ (by kernel_rfl))
                exact one_move _ rfl (by first | exact Or.inl rfl | exact Or.inr rfl) ⟨_, rfl, Below.refl _ _, e⟩
              · intro vs w' F hb hd hF hl hT
                have eg := ((hF 28).trans (look_at _ 28 11 _ _ (by kernel_rfl) (by kernel_rfl) hl)).trans (dep_of (Fact := F_ksb xb xo zb zo n ca cb i sy sq af ag nf ng cf cg) hd 11 (by kernel_rfl))
                refine wpList_on rfl (t := 28) (by kernel_rfl) eg ?_
                have ex := ((hF 29).trans (look_at _ 29 12 _ _ (by kernel_rfl) (by kernel_rfl) hl)).trans (dep_of (Fact := F_ksb xb xo zb zo n ca cb i sy sq af ag nf ng cf cg) hd 12 (by kernel_rfl))
                have ey := ((hF 30).trans (look_at _ 30 13 _ _ (by kernel_rfl) (by kernel_rfl) hl)).trans (dep_of (Fact := F_ksb xb xo zb zo n ca cb i sy sq af ag nf ng cf cg) hd 13 (by kernel_rfl))
                exact one_index 24 _ _ rfl rfl (.slice (some ⟨xb, xo, none⟩) n ca) (.int .i64 i) (.pointer (some ⟨xb, xo + i * 2, none⟩)) ex ey (fun w => rg_idx Try.underlying24 (show (Try.prog.info? 53).map (·.size) = some 2 by kernel_rfl) (xb) (xo) (n) (ca) (i) (by omega) w) ⟨_, rfl, Below.refl _ _, rfl⟩
              · intro vs w' F hb hd hF hl hT
                have eg := ((hF 28).trans (look_at _ 28 11 _ _ (by kernel_rfl) (by kernel_rfl) hl)).trans (dep_of (Fact := F_ksb xb xo zb zo n ca cb i sy sq af ag nf ng cf cg) hd 11 (by kernel_rfl))
                refine wpList_on rfl (t := 28) (by kernel_rfl) eg ?_
                have e := ((hF 31).trans (look_at _ 31 14 _ _ (by kernel_rfl) (by kernel_rfl) hl)).trans (dep_of (Fact := F_ksb xb xo zb zo n ca cb i sy sq af ag nf ng cf cg) hd 14 (by kernel_rfl))
                exact one_field _ _ _ rfl rfl _ _ e (xo + i * 2 + 1) (fun w => by kernel_rfl) ⟨_, rfl, Below.refl _ _, rfl⟩
              · intro vs w' F hb hd hF hl hT
                have eg := ((hF 28).trans (look_at _ 28 11 _ _ (by kernel_rfl) (by kernel_rfl) hl)).trans (dep_of (Fact := F_ksb xb xo zb zo n ca cb i sy sq af ag nf ng cf cg) hd 11 (by kernel_rfl))
                refine wpList_on rfl (t := 28) (by kernel_rfl) eg ?_
                have e := ((hF 32).trans (look_at _ 32 15 _ _ (by kernel_rfl) (by kernel_rfl) hl)).trans (dep_of (Fact := F_ksb xb xo zb zo n ca cb i sy sq af ag nf ng cf cg) hd 15 (by kernel_rfl))
                exact one_load _ _ rfl rfl _ _ e (cell_abides X1.out hb) (by kernel_rfl) ⟨_, rfl, Below.refl _ _, rfl⟩
              · intro vs w' F hb hd hF hl hT
                have eg := ((hF 28).trans (look_at _ 28 11 _ _ (by kernel_rfl) (by kernel_rfl) hl)).trans (dep_of (Fact := F_ksb xb xo zb zo n ca cb i sy sq af ag nf ng cf cg) hd 11 (by kernel_rfl))
                refine wpList_on rfl (t := 28) (by kernel_rfl) eg ?_
                have e := ((hF 33).trans (look_at _ 33 16 _ _ (by kernel_rfl) (by kernel_rfl) hl)).trans (dep_of (Fact := F_ksb xb xo zb zo n ca cb i sy sq af ag nf ng cf cg) hd 16 (by kernel_rfl))
                exact rg_len _ 51 50 rfl rfl Try.underlying51 af (nf) (cf) e ⟨_, rfl, Below.refl _ _, rfl⟩
              · intro vs w' F hb hd hF hl hT
                have eg := ((hF 28).trans (look_at _ 28 11 _ _ (by kernel_rfl) (by kernel_rfl) hl)).trans (dep_of (Fact := F_ksb xb xo zb zo n ca cb i sy sq af ag nf ng cf cg) hd 11 (by kernel_rfl))
                refine wpList_on rfl (t := 28) (by kernel_rfl) eg ?_
                have e := (hF 1).trans (look_out _ 1 _ _ (by kernel_rfl))
                exact one_move _ rfl (by first | exact Or.inl rfl | exact Or.inr rfl) ⟨_, rfl, Below.refl _ _, e⟩
              · intro vs w' F hb hd hF hl hT
                have eg := ((hF 28).trans (look_at _ 28 11 _ _ (by kernel_rfl) (by kernel_rfl) hl)).trans (dep_of (Fact := F_ksb xb xo zb zo n ca cb i sy sq af ag nf ng cf cg) hd 11 (by kernel_rfl))
                refine wpList_on rfl (t := 28) (by kernel_rfl) eg ?_
                have e := (hF 5).trans (look_out _ 5 _ _ (by kernel_rfl))
                exact one_move _ rfl (by first | exact Or.inl rfl | exact Or.inr rfl) ⟨_, rfl, Below.refl _ _, e⟩
              · intro vs w' F hb hd hF hl hT
                have eg := ((hF 28).trans (look_at _ 28 11 _ _ (by kernel_rfl) (by kernel_rfl) hl)).trans (dep_of (Fact := F_ksb xb xo zb zo n ca cb i sy sq af ag nf ng cf cg) hd 11 (by kernel_rfl))
                refine wpList_on rfl (t := 28) (by kernel_rfl) eg ?_
                have ex := ((hF 35).trans (look_at _ 35 18 _ _ (by kernel_rfl) (by kernel_rfl) hl)).trans (dep_of (Fact := F_ksb xb xo zb zo n ca cb i sy sq af ag nf ng cf cg) hd 18 (by kernel_rfl))
                have ey := ((hF 36).trans (look_at _ 36 19 _ _ (by kernel_rfl) (by kernel_rfl) hl)).trans (dep_of (Fact := F_ksb xb xo zb zo n ca cb i sy sq af ag nf ng cf cg) hd 19 (by kernel_rfl))
                exact one_index 24 _ _ rfl rfl (.slice (some ⟨zb, zo, none⟩) n cb) (.int .i64 i) (.pointer (some ⟨zb, zo + i * 2, none⟩)) ex ey (fun w => rg_idx Try.underlying24 (show (Try.prog.info? 53).map (·.size) = some 2 by kernel_rfl) (zb) (zo) (n) (cb) (i) (by omega) w) ⟨_, rfl, Below.refl _ _, rfl⟩
              · intro vs w' F hb hd hF hl hT
                have eg := ((hF 28).trans (look_at _ 28 11 _ _ (by kernel_rfl) (by kernel_rfl) hl)).trans (dep_of (Fact := F_ksb xb xo zb zo n ca cb i sy sq af ag nf ng cf cg) hd 11 (by kernel_rfl))
                refine wpList_on rfl (t := 28) (by kernel_rfl) eg ?_
                have e := ((hF 37).trans (look_at _ 37 20 _ _ (by kernel_rfl) (by kernel_rfl) hl)).trans (dep_of (Fact := F_ksb xb xo zb zo n ca cb i sy sq af ag nf ng cf cg) hd 20 (by kernel_rfl))
                exact one_field _ _ _ rfl rfl _ _ e (zo + i * 2 + 1) (fun w => by kernel_rfl) ⟨_, rfl, Below.refl _ _, rfl⟩
              · intro vs w' F hb hd hF hl hT
                have eg := ((hF 28).trans (look_at _ 28 11 _ _ (by kernel_rfl) (by kernel_rfl) hl)).trans (dep_of (Fact := F_ksb xb xo zb zo n ca cb i sy sq af ag nf ng cf cg) hd 11 (by kernel_rfl))
                refine wpList_on rfl (t := 28) (by kernel_rfl) eg ?_
                have e := ((hF 38).trans (look_at _ 38 21 _ _ (by kernel_rfl) (by kernel_rfl) hl)).trans (dep_of (Fact := F_ksb xb xo zb zo n ca cb i sy sq af ag nf ng cf cg) hd 21 (by kernel_rfl))
                exact one_load _ _ rfl rfl _ _ e (cell_abides Z1.out hb) (by kernel_rfl) ⟨_, rfl, Below.refl _ _, rfl⟩
              · intro vs w' F hb hd hF hl hT
                have eg := ((hF 28).trans (look_at _ 28 11 _ _ (by kernel_rfl) (by kernel_rfl) hl)).trans (dep_of (Fact := F_ksb xb xo zb zo n ca cb i sy sq af ag nf ng cf cg) hd 11 (by kernel_rfl))
                refine wpList_on rfl (t := 28) (by kernel_rfl) eg ?_
                have e := ((hF 39).trans (look_at _ 39 22 _ _ (by kernel_rfl) (by kernel_rfl) hl)).trans (dep_of (Fact := F_ksb xb xo zb zo n ca cb i sy sq af ag nf ng cf cg) hd 22 (by kernel_rfl))
                exact rg_len _ 51 50 rfl rfl Try.underlying51 ag (ng) (cg) e ⟨_, rfl, Below.refl _ _, rfl⟩
              · intro vs w' F hb hd hF hl hT
                have eg := ((hF 28).trans (look_at _ 28 11 _ _ (by kernel_rfl) (by kernel_rfl) hl)).trans (dep_of (Fact := F_ksb xb xo zb zo n ca cb i sy sq af ag nf ng cf cg) hd 11 (by kernel_rfl))
                refine wpList_on rfl (t := 28) (by kernel_rfl) eg ?_
                have e1 := ((hF 34).trans (look_at _ 34 17 _ _ (by kernel_rfl) (by kernel_rfl) hl)).trans (dep_of (Fact := F_ksb xb xo zb zo n ca cb i sy sq af ag nf ng cf cg) hd 17 (by kernel_rfl))
                have e2 := ((hF 40).trans (look_at _ 40 23 _ _ (by kernel_rfl) (by kernel_rfl) hl)).trans (dep_of (Fact := F_ksb xb xo zb zo n ca cb i sy sq af ag nf ng cf cg) hd 23 (by kernel_rfl))
                exact rg_neq _ _ _ _ rfl rfl .i64 ((nf : Int)) ((ng : Int)) true e1 e2 (decide_eq_true (by omega)) ⟨_, rfl, Below.refl _ _, rfl⟩
              · intro vs w' F hb hd hF hl hT
                have ec := ((hF 28).trans (look_at _ 28 11 _ _ (by kernel_rfl) (by kernel_rfl) hl)).trans (dep_of (Fact := F_ksb xb xo zb zo n ca cb i sy sq af ag nf ng cf cg) hd 11 (by kernel_rfl))
                have e := ((hF 41).trans (look_at _ 41 24 _ _ (by kernel_rfl) (by kernel_rfl) hl)).trans (dep_of (Fact := F_ksb xb xo zb zo n ca cb i sy sq af ag nf ng cf cg) hd 24 (by kernel_rfl))
                exact one_pick_f _ _ _ rfl rfl _ ec e ⟨_, rfl, Below.refl _ _, rfl⟩
            · intro vs8 W8 hl hb hI
              have hv : vs8.getD 25 undef = .bool true := hI 25 (by omega)
              obtain ⟨x0, x1, x2, x3, x4, x5, x6, x7, x8, x9, x10, x11, x12, x13, x14, x15, x16, x17, x18, x19, x20, x21, x22, x23, x24, x25, hvs⟩ := list26 hl
              subst hvs
              replace hv : x25 = .bool true := hv
              subst hv
              clear hI hl
              simp only [fillAll, Act.put, List.setIfInBounds_toArray, List.set_cons_succ, List.set_cons_zero]
              show wpList _ _ _ [] _ _
              have HB8 := bt HB.out hb
              clear hb
              go_wp2
              go_ret
              exact ⟨by rw [HF.out]; rfl, HB8⟩
      · have hie : i = n := by omega
        have HF := Lib.hid (show R = true by rw [HR.out]; exact eqL_eq (HN.out.trans HM.out.symm) (fun j h _ => HAT.out j (by rw [← HN.out]; exact h) (by rw [hie, ← HN.out]; exact h)))
        clear hie
        go_wp2
        go_ret
        exact ⟨by rw [HF.out]; rfl, HB.out⟩
  · have t0 : ((n : Int) != (m : Int)) = true := by rw [bne_iff_ne]; omega
    have HF := Lib.hid (show R = false by rw [HR.out]; exact eqL_len (by rw [HN.out, HM.out]; exact hnm))
    clear hnm
    go_enter Try.func33, Try.ntmps33
    go_wp2_with fail
    go_ret
    exact ⟨by rw [HF.out]; rfl, Below.refl _ _⟩
end Go.Proofs.Ytncnbfefciobcaa
end
