/- Drawn regions by facts: guarded operations, picks, tests. No program is named here. -/
import Derived.Test.YtlahmcbaiebapaaRegMore
namespace Go.Mem
open Go.Proofs
theorem cons_of {α : Type} {vs : List α} {n : Nat} (h : vs.length = n + 1) : ∃ a t, vs = a :: t ∧ t.length = n := by
  cases vs with
  | nil => cases h
  | cons a t => exact ⟨a, t, rfl, by simpa using h⟩
section
variable {P : Program} {ops : Array Oper} {o : Oper} {F : Act} {w : World} {Q : Exit → Act → World → Prop}
theorem yielded_at {g : Nat} {t : Tmp} {c : Bool} (ht : (ops[g]?).bind (·.dst) = some t) (he : F.eval (.tmp t) = .bool c) : yielded ops F.tmps g = some c := by
  unfold yielded
  rw [ht]
  have he' : F.tmps.getD t undef = .bool c := he
  rw [Array.getD_eq_getD_getElem?] at he'
  cases h : F.tmps[t]? with
  | none => rw [h] at he'; cases he'
  | some v => rw [h] at he'; have : v = .bool c := he'; subst this; simp [h]
/-- a guarded operation whose guard lets it run -/
theorem wpList_on {g : Nat} {t : Tmp} {c : Bool} (hg : o.guard = some (g, c)) (ht : (ops[g]?).bind (·.dst) = some t) (he : F.eval (.tmp t) = .bool c)
    (h : wpList P ops Q [{ o with guard := none }] F w) : wpList P ops Q [o] F w := by
  have hy := yielded_at ht he
  unfold wpList at h ⊢
  rw [if_pos (by simp [Region.wanted])] at h
  rw [if_pos (by simp [Region.wanted, hg, hy])]
  exact h
/-- a guarded operation whose guard keeps it from running -/
theorem wpList_off {g : Nat} {t : Tmp} {c d : Bool} (hg : o.guard = some (g, c)) (ht : (ops[g]?).bind (·.dst) = some t) (he : F.eval (.tmp t) = .bool d) (hne : d ≠ c)
    (h : Q .normal (F.put o.dst undef) w) : wpList P ops Q [o] F w := by
  have hy := yielded_at ht he
  unfold wpList
  rw [if_neg (by simp [Region.wanted, hg, hy, hne])]
  exact h
theorem one_pick_t (c a b : Operand) (hgd : o.guard = none) (ho : o.op = .pick c a b) (r : Value) (hc : F.eval c = .bool true) (hr : F.eval a = r) (h : Q .normal (F.put o.dst r) w) : wpList P ops Q [o] F w := by
  refine wpList_plain hgd fun K hK => ?_
  unfold Oper.wp execOp
  simp [ho, hc, hr, asBool, Oper.upon]
  exact hK _ _ h
theorem one_pick_f (c a b : Operand) (hgd : o.guard = none) (ho : o.op = .pick c a b) (r : Value) (hc : F.eval c = .bool false) (hr : F.eval b = r) (h : Q .normal (F.put o.dst r) w) : wpList P ops Q [o] F w := by
  refine wpList_plain hgd fun K hK => ?_
  unfold Oper.wp execOp
  simp [ho, hc, hr, asBool, Oper.upon]
  exact hK _ _ h
theorem one_not (ty : TypeId) (x : Operand) (hgd : o.guard = none) (ho : o.op = .unOp .not ty x) (b c : Bool) (hx : F.eval x = .bool b) (hbc : (!b) = c) (h : Q .normal (F.put o.dst (.bool c)) w) : wpList P ops Q [o] F w :=
  one_unop .not ty x hgd ho (.bool b) (.bool c) hx (fun w => by subst hbc; rfl) h
theorem one_int_eq (ty : TypeId) (x y : Operand) (yt : TypeId) (hgd : o.guard = none) (ho : o.op = .binOp .eql ty x y yt) (k : IntKind) (a b : Int) (c : Bool) (hx : F.eval x = .int k a) (hy : F.eval y = .int k b) (hc : (a == b) = c)
    (h : Q .normal (F.put o.dst (.bool c)) w) : wpList P ops Q [o] F w := by
  subst hc
  exact one_binop .eql ty x y yt hgd ho _ _ hx hy _ (by simp [eqGuard]) (by simp [binOp, Op.intCmp]) h
theorem one_int_ne (ty : TypeId) (x y : Operand) (yt : TypeId) (hgd : o.guard = none) (ho : o.op = .binOp .neq ty x y yt) (k : IntKind) (a b : Int) (c : Bool) (hx : F.eval x = .int k a) (hy : F.eval y = .int k b) (hc : (a != b) = c)
    (h : Q .normal (F.put o.dst (.bool c)) w) : wpList P ops Q [o] F w := by
  subst hc
  exact one_binop .neq ty x y yt hgd ho _ _ hx hy _ (by simp [eqGuard]) (by simp [binOp, Op.intCmp]) h
theorem run_bool_same (P : Program) (ty : TypeId) (hu : P.underlying ty = some .bool) (a b : Bool) (w : World) : (Op.equal ty (.bool a) (.bool b)).run P w = .ok (a == b) w := by
  have h : ∀ d : Nat, (Op.equalIn (d + 1) ty (.bool a) (.bool b)).run P w = .ok (a == b) w := fun d => by
    simp [Op.equalIn, run_underlying hu]
  exact h 9999
theorem one_bool_eq (ty : TypeId) (x y : Operand) (yt : TypeId) (hgd : o.guard = none) (ho : o.op = .binOp .eql ty x y yt) (hu : P.underlying ty = some .bool) (a b c : Bool) (hx : F.eval x = .bool a) (hy : F.eval y = .bool b) (hc : (a == b) = c)
    (h : Q .normal (F.put o.dst (.bool c)) w) : wpList P ops Q [o] F w := by
  subst hc
  exact one_binop .eql ty x y yt hgd ho _ _ hx hy _ (by simp [eqGuard]) (by simp [binOp, run_bool_same P ty hu]) h
theorem one_bool_ne (ty : TypeId) (x y : Operand) (yt : TypeId) (hgd : o.guard = none) (ho : o.op = .binOp .neq ty x y yt) (hu : P.underlying ty = some .bool) (a b c : Bool) (hx : F.eval x = .bool a) (hy : F.eval y = .bool b) (hc : (a != b) = c)
    (h : Q .normal (F.put o.dst (.bool c)) w) : wpList P ops Q [o] F w := by
  subst hc
  exact one_binop .neq ty x y yt hgd ho _ _ hx hy _ (by simp [eqGuard]) (by simp [binOp, run_bool_same P ty hu, bne]) h
end
end Go.Mem
