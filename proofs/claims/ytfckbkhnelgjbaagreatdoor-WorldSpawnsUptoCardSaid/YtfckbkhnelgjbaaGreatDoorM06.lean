/- Lemmas for the law WorldSpawns: RegMore, RegGuard, RegAll, WCells, GrowL. No conditions. -/
import Derived.Test.YtfckbkhnelgjbaaGreatDoorM04
import Derived.Test.YtfckbkhnelgjbaaGreatDoorM01
import Derived.Great.BuildSlice
import Derived.Lib.SliceRun
import Derived.Test.YtfckbkhnelgjbaaGreatDoorM05
import Derived.Test.YtfckbkhnelgjbaaGreatDoorM02
import Derived.Deep.AppendLies
import Derived.Laws.OwnMore
/- More operations of a region that is walked by facts: a call of a function value, a negation, a slice literal. -/
section
namespace Go.Mem
open Go.Proofs Go.RowKit
section
variable {P : Program} {ops : Array Oper} {o : Oper} {F : Act} {w : World} {Q : Exit → Act → World → Prop}
theorem one_callv {f : FuncId} (x : Operand) (args : Array Operand) (T : Array TypeId) (hgd : o.guard = none) (ho : o.op = .call { callee := .value x, args := args, argTypes := T }) (hx : F.eval x = .func (.func f) #[] #[]) (hE : ∀ (args : Array Value) (w : World), (callFunc f args).run P w = .ok (.enter f args) w)
    (vals : Array Value) (hv : args.map F.eval = vals) (h : Calls P f vals w fun e w' => ∃ v, e = .returned v ∧ Q .normal (F.put o.dst v) w') : wpList P ops Q [o] F w := by
  refine wpList_plain hgd fun K hK => ?_
  unfold Oper.wp execOp
  simp [ho, resolve, Deferred.ofValue, invoke, hv, hx, hE, Oper.upon]
  exact h.mono (fun e w' ⟨v, he, hq⟩ => by subst he; exact hK _ _ hq)
theorem one_unop (u : UnOp) (ty : TypeId) (x : Operand) (hgd : o.guard = none) (ho : o.op = .unOp u ty x) (v r : Value) (hx : F.eval x = v)
    (hi : ∀ w : World, (Op.unary u v).run P w = .ok r w) (h : Q .normal (F.put o.dst r) w) : wpList P ops Q [o] F w := by
  refine wpList_plain hgd fun K hK => ?_
  unfold Oper.wp execOp
  simp [ho, hx, hi, Oper.upon]
  exact hK _ _ h
theorem one_index (ty : TypeId) (x y : Operand) (hgd : o.guard = none) (ho : o.op = .indexAddr ty x y) (u v r : Value) (hx : F.eval x = u) (hy : F.eval y = v)
    (hi : ∀ w : World, (Instr.indexAt ty u v).run P w = .ok r w) (h : Q .normal (F.put o.dst r) w) : wpList P ops Q [o] F w := by
  refine wpList_plain hgd fun K hK => ?_
  unfold Oper.wp execOp
  simp [ho, hx, hy, hi, Oper.upon]
  exact hK _ _ h
theorem wpList_store_cell {rest : List Oper} {a : Act} (hgd : o.guard = none) (ty : TypeId) (x y : Operand) (ho : o.op = .store ty x y) (b i : Nat) (z : Int) (old : Value) (hx : a.eval x = .pointer (some ⟨b, i, none⟩)) (hy : a.eval y = .int .i64 z) (hc : w.cell? ⟨b, i, none⟩ = some old) (hf : w.frozen? ⟨b, i, none⟩ = false)
    (hi : (P.info? ty).map (·.size) = some 1) (h : wpList P ops Q rest (a.put o.dst undef) (w.setCell ⟨b, i, none⟩ (.int .i64 z))) : wpList P ops Q (o :: rest) a w := by
  have hrun : (storeVar ty ⟨b, i, none⟩ (.int .i64 z)).run P w = .ok () (w.setCell ⟨b, i, none⟩ (.int .i64 z)) := by
    cases hq : P.info? ty with
    | none => simp [hq] at hi
    | some ie =>
      have hs : ie.size = 1 := by simpa [hq] using hi
      have hst := run_storeCells_cells (P := P) b i [.int .i64 z] 0 w (fun j hj => by simp at hj; subst hj; simp [hc]) (fun j hj => by simp at hj; subst hj; exact hf) (by simp [Value.oneCell'])
      simp only [Nat.add_zero] at hst
      have hcl : (Value.int .i64 z).cells = #[.int .i64 z] := rfl
      simp [storeVar, sizeOf, typeInfo, hq, hs, hcl, hst, World.setCells]
  refine wpList_plain hgd fun K hK => ?_
  unfold Oper.wp execOp
  simp [ho, hx, hy, Instr.storeAt, Instr.sureAddr, hrun, Oper.upon]
  exact hK _ _ h
theorem one_slice4 (t e : TypeId) (x0 x1 x2 x3 : Operand) (hgd : o.guard = none) (ho : o.op = .buildSlice t 4 #[(0, x0), (1, x1), (2, x2), (3, x3)]) (a b c d : Int) (h0 : F.eval x0 = .int .i64 a) (h1 : F.eval x1 = .int .i64 b) (h2 : F.eval x2 = .int .i64 c) (h3 : F.eval x3 = .int .i64 d)
    (hu : P.underlying t = some (.slice e)) (hie : (P.info? e).map (fun i => (i.zero, i.size)) = some (some (.int .i64 0), 1))
    (h : Q .normal (F.put o.dst (.slice (some ⟨w.heap.size, 0, none⟩) 4 4)) (w.alloc (.cells #[.int .i64 a, .int .i64 b, .int .i64 c, .int .i64 d] e))) : wpList P ops Q [o] F w := by
  obtain ⟨ie, hi, hzz⟩ := Option.map_eq_some_iff.1 hie
  simp only [Prod.mk.injEq] at hzz
  refine wpList_plain hgd fun K hK => ?_
  refine wp_buildSlice t e 4 _ ho #[.int .i64 a, .int .i64 b, .int .i64 c, .int .i64 d] ie (.int .i64 0) hu hi hzz.1 (by rw [hzz.2]; decide) (by rw [hzz.2]; decide) ?_ (hK _ _ h)
  rw [hzz.2]
  simp only [List.map_toArray, List.map_cons, List.map_nil, h0, h1, h2, h3]
  have hr : Array.range 4 = #[0, 1, 2, 3] := by decide
  simp [Instr.fill, Value.cells, hr]
end
theorem parts3 {F : Act} {i j k : Nat} {x y z : Operand} {u v p : Value} (hx : F.eval x = u) (hy : F.eval y = v) (hz : F.eval z = p) : #[(i, x), (j, y), (k, z)].map (fun p => (p.1, F.eval p.2)) = #[(i, u), (j, v), (k, p)] := by simp [hx, hy, hz]
/-- A slice of the region's own. -/
def NewInts (zs : List Int) (v : Value) (w : World) : Prop := ∃ X, v = .slice (some ⟨X, 0, none⟩) 4 4 ∧ IntsAt .i64 w (some ⟨X, 0, none⟩) zs
theorem NewInts.mono {zs : List Int} {w w' : World} {v : Value} (h : NewInts zs v w) (hb : RowKit.Below w.heap.size w w') : NewInts zs v w' := by
  obtain ⟨X, h1, h2⟩ := h
  exact ⟨X, h1, h2.below hb⟩
end Go.Mem
end
/- Drawn regions by facts: guarded operations, picks, tests. No program is named here. -/
section
namespace Go.Mem
open Go.Proofs
theorem cons_of {α : Type} {vs : List α} {n : Nat} (h : vs.length = n + 1) : ∃ a t, vs = a :: t ∧ t.length = n := by
  cases vs with
  | nil => cases h
  | cons a t => exact ⟨a, t, rfl, by simpa using h⟩
section
variable {P : Program} {ops : Array Oper} {o : Oper} {F : Act} {w : World} {Q : Exit → Act → World → Prop}
theorem yielded_at {g : Nat} {t : Tmp} {c : Bool} (ht : (ops[g]?).bind (·.dst) = some t) (he : F.eval (.tmp t) = .bool c) : yielded ops F.tmps g = some c := by
  unfold yielded
  rw [ht]
  have he' : F.tmps.getD t undef = .bool c := he
  rw [Array.getD_eq_getD_getElem?] at he'
  cases h : F.tmps[t]? with
  | none => rw [h] at he'; cases he'
  | some v => rw [h] at he'; have : v = .bool c := he'; subst this; simp [h]
/-- a guarded operation whose guard lets it run -/
theorem wpList_on {g : Nat} {t : Tmp} {c : Bool} (hg : o.guard = some (g, c)) (ht : (ops[g]?).bind (·.dst) = some t) (he : F.eval (.tmp t) = .bool c)
    (h : wpList P ops Q [{ o with guard := none }] F w) : wpList P ops Q [o] F w := by
  have hy := yielded_at ht he
  unfold wpList at h ⊢
  rw [if_pos (by simp [Region.wanted])] at h
  rw [if_pos (by simp [Region.wanted, hg, hy])]
  exact h
/-- a guarded operation whose guard keeps it from running -/
theorem wpList_off {g : Nat} {t : Tmp} {c d : Bool} (hg : o.guard = some (g, c)) (ht : (ops[g]?).bind (·.dst) = some t) (he : F.eval (.tmp t) = .bool d) (hne : d ≠ c)
    (h : Q .normal (F.put o.dst undef) w) : wpList P ops Q [o] F w := by
  have hy := yielded_at ht he
  unfold wpList
  rw [if_neg (by simp [Region.wanted, hg, hy, hne])]
  exact h
theorem one_pick_t (c a b : Operand) (hgd : o.guard = none) (ho : o.op = .pick c a b) (r : Value) (hc : F.eval c = .bool true) (hr : F.eval a = r) (h : Q .normal (F.put o.dst r) w) : wpList P ops Q [o] F w := by
  refine wpList_plain hgd fun K hK => ?_
  unfold Oper.wp execOp
  simp [ho, hc, hr, asBool, Oper.upon]
  exact hK _ _ h
theorem one_pick_f (c a b : Operand) (hgd : o.guard = none) (ho : o.op = .pick c a b) (r : Value) (hc : F.eval c = .bool false) (hr : F.eval b = r) (h : Q .normal (F.put o.dst r) w) : wpList P ops Q [o] F w := by
  refine wpList_plain hgd fun K hK => ?_
  unfold Oper.wp execOp
  simp [ho, hc, hr, asBool, Oper.upon]
  exact hK _ _ h
theorem one_not (ty : TypeId) (x : Operand) (hgd : o.guard = none) (ho : o.op = .unOp .not ty x) (b c : Bool) (hx : F.eval x = .bool b) (hbc : (!b) = c) (h : Q .normal (F.put o.dst (.bool c)) w) : wpList P ops Q [o] F w :=
  one_unop .not ty x hgd ho (.bool b) (.bool c) hx (fun w => by subst hbc; rfl) h
theorem one_int_eq (ty : TypeId) (x y : Operand) (yt : TypeId) (hgd : o.guard = none) (ho : o.op = .binOp .eql ty x y yt) (k : IntKind) (a b : Int) (c : Bool) (hx : F.eval x = .int k a) (hy : F.eval y = .int k b) (hc : (a == b) = c)
    (h : Q .normal (F.put o.dst (.bool c)) w) : wpList P ops Q [o] F w := by
  subst hc
  exact one_binop .eql ty x y yt hgd ho _ _ hx hy _ (by simp [eqGuard]) (by simp [binOp, Op.intCmp]) h
theorem one_int_ne (ty : TypeId) (x y : Operand) (yt : TypeId) (hgd : o.guard = none) (ho : o.op = .binOp .neq ty x y yt) (k : IntKind) (a b : Int) (c : Bool) (hx : F.eval x = .int k a) (hy : F.eval y = .int k b) (hc : (a != b) = c)
    (h : Q .normal (F.put o.dst (.bool c)) w) : wpList P ops Q [o] F w := by
  subst hc
  exact one_binop .neq ty x y yt hgd ho _ _ hx hy _ (by simp [eqGuard]) (by simp [binOp, Op.intCmp]) h
theorem run_bool_same (P : Program) (ty : TypeId) (hu : P.underlying ty = some .bool) (a b : Bool) (w : World) : (Op.equal ty (.bool a) (.bool b)).run P w = .ok (a == b) w := by
  have h : ∀ d : Nat, (Op.equalIn (d + 1) ty (.bool a) (.bool b)).run P w = .ok (a == b) w := fun d => by
    simp [Op.equalIn, run_underlying hu]
  exact h 9999
theorem one_bool_eq (ty : TypeId) (x y : Operand) (yt : TypeId) (hgd : o.guard = none) (ho : o.op = .binOp .eql ty x y yt) (hu : P.underlying ty = some .bool) (a b c : Bool) (hx : F.eval x = .bool a) (hy : F.eval y = .bool b) (hc : (a == b) = c)
    (h : Q .normal (F.put o.dst (.bool c)) w) : wpList P ops Q [o] F w := by
  subst hc
  exact one_binop .eql ty x y yt hgd ho _ _ hx hy _ (by simp [eqGuard]) (by simp [binOp, run_bool_same P ty hu]) h
theorem one_bool_ne (ty : TypeId) (x y : Operand) (yt : TypeId) (hgd : o.guard = none) (ho : o.op = .binOp .neq ty x y yt) (hu : P.underlying ty = some .bool) (a b c : Bool) (hx : F.eval x = .bool a) (hy : F.eval y = .bool b) (hc : (a != b) = c)
    (h : Q .normal (F.put o.dst (.bool c)) w) : wpList P ops Q [o] F w := by
  subst hc
  exact one_binop .neq ty x y yt hgd ho _ _ hx hy _ (by simp [eqGuard]) (by simp [binOp, run_bool_same P ty hu, bne]) h
end
end Go.Mem
end
/- Drawn regions by facts: the laws of single operations, all sizes. No function of the program is named here. -/
section
namespace Go.Proofs.YtfckbkhnelgjbaaGreatDoor
open Go.ChangeShapes Go.WideShapes Go.ChangeAt Go.RowKit Go.Mem
set_option linter.unusedVariables false
section
variable {P : Program} {ops : Array Oper} {o : Oper} {F : Act} {w : World} {Q : Exit → Act → World → Prop}
/-- the cells from a place on -/
def CellsK (w : World) (b q : Nat) (vs : List Value) : Prop := ∀ j v, vs[j]? = some v → w.cell? ⟨b, q + j, none⟩ = some v
theorem CellsK.below {w w' : World} {b q : Nat} {vs : List Value} (h : CellsK w b q vs) (hb : Below w.heap.size w w') : CellsK w' b q vs := fun j v hv => (hb.cell (World.block_lt_of_cell? _ _ (h j v hv))).trans (h j v hv)
theorem CellsK.row {w : World} {g : Nat} {cs : Array Value} {t : TypeId} {fr : Nat × Nat} (h : w.heap[g]? = some (.cells cs t fr)) : CellsK w g 0 cs.toList := fun j v hv => by
  simp only [World.cell?, h]
  simpa using hv
theorem CellsK.one {w : World} {b q : Nat} {v : Value} (h : w.cell? ⟨b, q, none⟩ = some v) : CellsK w b q [v] := fun j u hu => by
  match j with
  | 0 => simpa using (by simpa using hu : v = u) ▸ h
  | j + 1 => simp at hu
theorem rg_load (ty : TypeId) (x : Operand) (hgd : o.guard = none) (ho : o.op = .load ty x) (b q : Nat) (vs : List Value) (hx : F.eval x = .pointer (some ⟨b, q, none⟩)) (hc : CellsK w b q vs)
    (d : TypeDesc) (hu : P.underlying ty = some d) (hd : (match d with | .struct _ | .array _ _ => true | _ => false) = true) (hs : (P.info? ty).map (·.size) = some vs.length) (h : Q .normal (F.put o.dst (.agg vs.toArray)) w) : wpList P ops Q [o] F w := by
  have hl : (loadCells ⟨b, q, none⟩ vs.length).run P w = .ok vs.toArray w :=
    run_loadCells_list (P := P) w ⟨b, q, none⟩ vs (fun j v hv => by
      rw [Addr.add_lit]
      exact hc j v hv)
  cases hq : P.info? ty with
  | none => simp [hq] at hs
  | some i =>
    have hsz : i.size = vs.length := by simpa [hq] using hs
    have hagg : (isAgg ty).run P w = .ok true w := by
      unfold isAgg
      rw [Sem.run_bind, run_underlying hu w]
      cases d <;> simp_all
    refine wpList_plain hgd fun K hK => ?_
    unfold Oper.wp execOp
    simp [ho, hx, Instr.loadAt, Instr.sureAddr, loadVar, Sem.run_bind, hagg, sizeOf, typeInfo, hq, hsz, hl, Oper.upon]
    exact hK _ _ h
theorem rg_offu {g : Nat} {t : Tmp} {c : Bool} (hg : o.guard = some (g, c)) (ht : (ops[g]?).bind (·.dst) = some t) (he : F.eval (.tmp t) = undef)
    (h : Q .normal (F.put o.dst undef) w) : wpList P ops Q [o] F w := by
  have hy : yielded ops F.tmps g = none := by
    unfold yielded
    rw [ht]
    have he' : F.tmps.getD t undef = undef := he
    rw [Array.getD_eq_getD_getElem?] at he'
    cases h : F.tmps[t]? with
    | none => simp [h]
    | some v => rw [h] at he'; have : v = undef := he'; subst this; simp [h, undef]
  unfold wpList
  rw [if_neg (by simp [Region.wanted, hg, hy])]
  exact h
theorem rg_len (x : Operand) (t e : TypeId) (hgd : o.guard = none) (ho : o.op = .call { callee := .builtin .len, args := #[x], argTypes := #[t] }) (hu : P.underlying t = some (.slice e)) (a : Option Addr) (n c : Nat) (hx : F.eval x = .slice a n c)
    (h : Q .normal (F.put o.dst (.int .i64 n)) w) : wpList P ops Q [o] F w := by
  refine wpList_plain hgd fun K hK => ?_
  unfold Oper.wp execOp
  simp [ho, hx, resolve, invoke, builtin, Builtin.len_, run_underlying hu, Oper.upon]
  exact hK _ _ h
theorem rg_lens (x : Operand) (t : TypeId) (hgd : o.guard = none) (ho : o.op = .call { callee := .builtin .len, args := #[x], argTypes := #[t] }) (hu : P.underlying t = some .string) (s : ByteArray) (hx : F.eval x = .string s)
    (h : Q .normal (F.put o.dst (.int .i64 s.size)) w) : wpList P ops Q [o] F w := by
  refine wpList_plain hgd fun K hK => ?_
  unfold Oper.wp execOp
  simp [ho, hx, resolve, invoke, builtin, Builtin.len_, run_underlying hu, Oper.upon]
  exact hK _ _ h
theorem rg_lss (ty : TypeId) (x y : Operand) (yt : TypeId) (hgd : o.guard = none) (ho : o.op = .binOp .lss ty x y yt) (k : IntKind) (a b : Int) (c : Bool) (hx : F.eval x = .int k a) (hy : F.eval y = .int k b) (hc : decide (a < b) = c)
    (h : Q .normal (F.put o.dst (.bool c)) w) : wpList P ops Q [o] F w := by
  subst hc
  exact one_binop .lss ty x y yt hgd ho _ _ hx hy _ (by simp [eqGuard]) (by simp [binOp, Op.intCmp]) h
theorem rg_leq (ty : TypeId) (x y : Operand) (yt : TypeId) (hgd : o.guard = none) (ho : o.op = .binOp .leq ty x y yt) (k : IntKind) (a b : Int) (c : Bool) (hx : F.eval x = .int k a) (hy : F.eval y = .int k b) (hc : decide (a ≤ b) = c)
    (h : Q .normal (F.put o.dst (.bool c)) w) : wpList P ops Q [o] F w := by
  subst hc
  exact one_binop .leq ty x y yt hgd ho _ _ hx hy _ (by simp [eqGuard]) (by simp [binOp, Op.intCmp]) h
theorem rg_gtr (ty : TypeId) (x y : Operand) (yt : TypeId) (hgd : o.guard = none) (ho : o.op = .binOp .gtr ty x y yt) (k : IntKind) (a b : Int) (c : Bool) (hx : F.eval x = .int k a) (hy : F.eval y = .int k b) (hc : decide (b < a) = c)
    (h : Q .normal (F.put o.dst (.bool c)) w) : wpList P ops Q [o] F w := by
  subst hc
  exact one_binop .gtr ty x y yt hgd ho _ _ hx hy _ (by simp [eqGuard]) (by simp [binOp, Op.intCmp]) h
theorem rg_geq (ty : TypeId) (x y : Operand) (yt : TypeId) (hgd : o.guard = none) (ho : o.op = .binOp .geq ty x y yt) (k : IntKind) (a b : Int) (c : Bool) (hx : F.eval x = .int k a) (hy : F.eval y = .int k b) (hc : decide (b ≤ a) = c)
    (h : Q .normal (F.put o.dst (.bool c)) w) : wpList P ops Q [o] F w := by
  subst hc
  exact one_binop .geq ty x y yt hgd ho _ _ hx hy _ (by simp [eqGuard]) (by simp [binOp, Op.intCmp]) h
theorem rg_eql (ty : TypeId) (x y : Operand) (yt : TypeId) (hgd : o.guard = none) (ho : o.op = .binOp .eql ty x y yt) (k : IntKind) (a b : Int) (c : Bool) (hx : F.eval x = .int k a) (hy : F.eval y = .int k b) (hc : decide (a = b) = c)
    (h : Q .normal (F.put o.dst (.bool c)) w) : wpList P ops Q [o] F w :=
  one_int_eq ty x y yt hgd ho k a b c hx hy (by rw [← hc]; rfl) h
theorem rg_neq (ty : TypeId) (x y : Operand) (yt : TypeId) (hgd : o.guard = none) (ho : o.op = .binOp .neq ty x y yt) (k : IntKind) (a b : Int) (c : Bool) (hx : F.eval x = .int k a) (hy : F.eval y = .int k b) (hc : decide (a ≠ b) = c)
    (h : Q .normal (F.put o.dst (.bool c)) w) : wpList P ops Q [o] F w :=
  one_int_ne ty x y yt hgd ho k a b c hx hy (by rw [← hc]; by_cases e : a = b <;> simp [e]) h
theorem rg_add (ty : TypeId) (x y : Operand) (yt : TypeId) (hgd : o.guard = none) (ho : o.op = .binOp .add ty x y yt) (a b c : Int) (hx : F.eval x = .int .i64 a) (hy : F.eval y = .int .i64 b) (hc : IntKind.i64.wrap (a + b) = c)
    (h : Q .normal (F.put o.dst (.int .i64 c)) w) : wpList P ops Q [o] F w := by
  subst hc
  exact one_binop .add ty x y yt hgd ho _ _ hx hy _ (by simp [eqGuard]) (by go_simp) h
theorem rg_sub (ty : TypeId) (x y : Operand) (yt : TypeId) (hgd : o.guard = none) (ho : o.op = .binOp .sub ty x y yt) (a b c : Int) (hx : F.eval x = .int .i64 a) (hy : F.eval y = .int .i64 b) (hc : IntKind.i64.wrap (a - b) = c)
    (h : Q .normal (F.put o.dst (.int .i64 c)) w) : wpList P ops Q [o] F w := by
  subst hc
  exact one_binop .sub ty x y yt hgd ho _ _ hx hy _ (by simp [eqGuard]) (by go_simp) h
theorem rg_extract (x : Operand) (k : Nat) (hgd : o.guard = none) (ho : o.op = .extract x k) (u r : Value) (hx : F.eval x = u) (hr : ∀ w, (Instr.extract u k).run P w = .ok r w)
    (h : Q .normal (F.put o.dst r) w) : wpList P ops Q [o] F w := by
  refine wpList_plain hgd fun K hK => ?_
  unfold Oper.wp execOp
  simp [ho, hx, hr, Oper.upon]
  exact hK _ _ h
theorem rg_fieldv (ty : TypeId) (x : Operand) (k : Nat) (hgd : o.guard = none) (ho : o.op = .fieldAddr ty x k) (u r : Value) (hx : F.eval x = u) (hr : ∀ w, (Instr.fieldAt ty u k).run P w = .ok r w)
    (h : Q .normal (F.put o.dst r) w) : wpList P ops Q [o] F w := by
  refine wpList_plain hgd fun K hK => ?_
  unfold Oper.wp execOp
  simp [ho, hx, hr, Oper.upon]
  exact hK _ _ h
theorem rg_index (ty : TypeId) (x y : Operand) (hgd : o.guard = none) (ho : o.op = .index ty x y) (u v r : Value) (hx : F.eval x = u) (hy : F.eval y = v) (hi : ∀ w : World, (Instr.index ty u v).run P w = .ok r w)
    (h : Q .normal (F.put o.dst r) w) : wpList P ops Q [o] F w := by
  refine wpList_plain hgd fun K hK => ?_
  unfold Oper.wp execOp
  simp [ho, hx, hy, hi, Oper.upon]
  exact hK _ _ h
theorem rg_convert (src dst : TypeId) (x : Operand) (hgd : o.guard = none) (ho : o.op = .convert src dst x) (u r : Value) (hx : F.eval x = u) (hi : ∀ w : World, (Go.convert src dst u).run P w = .ok r w)
    (h : Q .normal (F.put o.dst r) w) : wpList P ops Q [o] F w := by
  refine wpList_plain hgd fun K hK => ?_
  unfold Oper.wp execOp
  simp [ho, hx, hi, Oper.upon]
  exact hK _ _ h
theorem rg_slice1 (t e : TypeId) (x0 : Operand) (hgd : o.guard = none) (ho : o.op = .buildSlice t 1 #[(0, x0)]) (a : Int) (h0 : F.eval x0 = .int .i64 a)
    (hu : P.underlying t = some (.slice e)) (hi : (P.info? e).map (fun i => (i.zero, i.size)) = some (some (.int .i64 0), 1)) (h : Q .normal (F.put o.dst (.slice (some ⟨w.heap.size, 0, none⟩) 1 1)) (w.alloc (.cells #[.int .i64 a] e (0, 0)))) : wpList P ops Q [o] F w := by
  obtain ⟨i, hi2, hzz⟩ := Option.map_eq_some_iff.1 hi
  simp only [Prod.mk.injEq] at hzz
  refine wpList_plain hgd fun K hK => ?_
  refine wp_buildSlice t e 1 _ ho #[.int .i64 a] i (.int .i64 0) hu hi2 hzz.1 (by rw [hzz.2]; decide) (by rw [hzz.2]; decide) ?_ (hK _ _ h)
  rw [hzz.2]
  simp only [List.map_toArray, List.map_cons, List.map_nil, h0]
  have hr : Array.range 1 = #[0] := by decide
  simp [Instr.fill, Value.cells, hr]
theorem rg_slice2 (t e : TypeId) (x0 x1 : Operand) (hgd : o.guard = none) (ho : o.op = .buildSlice t 2 #[(0, x0), (1, x1)]) (a b : Int) (h0 : F.eval x0 = .int .i64 a) (h1 : F.eval x1 = .int .i64 b)
    (hu : P.underlying t = some (.slice e)) (hi : (P.info? e).map (fun i => (i.zero, i.size)) = some (some (.int .i64 0), 1)) (h : Q .normal (F.put o.dst (.slice (some ⟨w.heap.size, 0, none⟩) 2 2)) (w.alloc (.cells #[.int .i64 a, .int .i64 b] e (0, 0)))) : wpList P ops Q [o] F w := by
  obtain ⟨i, hi2, hzz⟩ := Option.map_eq_some_iff.1 hi
  simp only [Prod.mk.injEq] at hzz
  refine wpList_plain hgd fun K hK => ?_
  refine wp_buildSlice t e 2 _ ho #[.int .i64 a, .int .i64 b] i (.int .i64 0) hu hi2 hzz.1 (by rw [hzz.2]; decide) (by rw [hzz.2]; decide) ?_ (hK _ _ h)
  rw [hzz.2]
  simp only [List.map_toArray, List.map_cons, List.map_nil, h0, h1]
  have hr : Array.range 2 = #[0, 1] := by decide
  simp [Instr.fill, Value.cells, hr]
/-- the address of an element: elements of k cells -/
theorem rg_idx {t e : TypeId} {k : Nat} (hu : P.underlying t = some (.slice e)) (hs : (P.info? e).map (·.size) = some k) (b q n c j : Nat) (hj : j < n) (w : World) :
    (Instr.indexAt t (.slice (some ⟨b, q, none⟩) n c) (.int .i64 j)).run P w = .ok (.pointer (some ⟨b, q + j * k, none⟩)) w := by
  have i1 : (0 : Int) ≤ (j : Int) := by omega
  have i2 : (j : Int) < (n : Int) := by omega
  cases hq : P.info? e with
  | none => simp [hq] at hs
  | some i =>
    have hsz : i.size = k := by simpa [hq] using hs
    have ha : Sem.run P (asIntOf (.int .i64 (j : Int))) w = .ok (.i64, (j : Int)) w := rfl
    simp [Instr.indexAt, run_underlying hu, sizeOf, typeInfo, hq, hsz, Sem.run_bind, ha, hj, Addr.add]
end
end Go.Proofs.YtfckbkhnelgjbaaGreatDoor
end
/- Components, kinds, items among others: their cells. -/
section
namespace Go.Proofs.YtfckbkhnelgjbaaGreatDoor
open Go.RowKit Go.ChangeShapes Go.WideShapes Go.Mem
set_option linter.unusedVariables false
theorem comp_cells {w : World} {x : Addr} {l : List CompV} (h : SlAt 2 CompAt w (some x) l) (i : Nat) (hi : i < l.length) : ∃ xb xo, x = ⟨xb, xo, none⟩ ∧ ∃ a c, CellsK w xb (xo + i * 2) [.int .i64 l[i].kind, .slice a l[i].vals.length c] ∧ IntsAt .i64 w a l[i].vals := by
  obtain ⟨y, hy, hb, hc⟩ := h (by omega)
  injection hy with hy
  subst hy
  obtain ⟨xb, xo, sp⟩ := x
  have hsp : sp = none := by
    obtain ⟨f0, _⟩ := hc 0 (by omega)
    simpa [Addr.add] using World.cell?_spot f0
  obtain ⟨e0, a, c, e1, h2⟩ := hc i hi
  subst hsp
  rw [Addr.add_lit] at e0 e1
  refine ⟨xb, xo, rfl, a, c, fun j v hv => ?_, h2⟩
  match j with
  | 0 => cases hv; exact e0
  | 1 => cases hv; exact e1
  | j + 2 => simp at hv
theorem kind_cells {w : World} {x : Addr} {l : List KindV} (h : SlAt 2 KindAt w (some x) l) (i : Nat) (hi : i < l.length) : ∃ xb xo, x = ⟨xb, xo, none⟩ ∧ ∃ a c, CellsK w xb (xo + i * 2) [.string l[i].name, .slice a l[i].fields.length c] ∧ l[i].name.size ≤ 9223372036854775807 ∧ l[i].fields.length ≤ c ∧ c ≤ 9223372036854775807 ∧ SlAt 3 FieldAt w a l[i].fields := by
  obtain ⟨y, hy, hb, hc⟩ := h (by omega)
  injection hy with hy
  subst hy
  obtain ⟨xb, xo, sp⟩ := x
  have hsp : sp = none := by
    obtain ⟨f0, _⟩ := hc 0 (by omega)
    simpa [Addr.add] using World.cell?_spot f0
  obtain ⟨e0, hs, a, c, e1, h2, h3, h4⟩ := hc i hi
  subst hsp
  rw [Addr.add_lit] at e0 e1
  refine ⟨xb, xo, rfl, a, c, fun j v hv => ?_, hs, h2, h3, h4⟩
  match j with
  | 0 => cases hv; exact e0
  | 1 => cases hv; exact e1
  | j + 2 => simp at hv
theorem item_cells {w : World} {x : Addr} {l : List ItemV} (h : SlAt 3 ItemAt w (some x) l) (i : Nat) (hi : i < l.length) : ∃ xb xo, x = ⟨xb, xo, none⟩ ∧ ∃ a c, CellsK w xb (xo + i * 3) [.int .i64 l[i].n, .int .i64 l[i].gen, .slice a l[i].comps.length c] ∧ SlAt 2 CompAt w a l[i].comps := by
  obtain ⟨y, hy, hb, hc⟩ := h (by omega)
  injection hy with hy
  subst hy
  obtain ⟨xb, xo, sp⟩ := x
  have hsp : sp = none := by
    obtain ⟨f0, _⟩ := hc 0 (by omega)
    simpa [Addr.add] using World.cell?_spot f0
  obtain ⟨e0, e1, a, c, e2, h2⟩ := hc i hi
  subst hsp
  rw [Addr.add_lit] at e0 e1 e2
  refine ⟨xb, xo, rfl, a, c, fun j v hv => ?_, h2⟩
  match j with
  | 0 => cases hv; exact e0
  | 1 => cases hv; exact e1
  | 2 => cases hv; exact e2
  | j + 3 => simp at hv
theorem fld_cells {w : World} {x : Addr} {l : List FieldV} (h : SlAt 3 FieldAt w (some x) l) (i : Nat) (hi : i < l.length) : ∃ xb xo, x = ⟨xb, xo, none⟩ ∧ CellsK w xb (xo + i * 3) [.string l[i].name, .int .i64 l[i].bits, .int .i64 l[i].low] := by
  obtain ⟨y, hy, hb, hc⟩ := h (by omega)
  injection hy with hy
  subst hy
  obtain ⟨xb, xo, sp⟩ := x
  have hsp : sp = none := by
    obtain ⟨f0, _⟩ := hc 0 (by omega)
    simpa [Addr.add] using World.cell?_spot f0
  obtain ⟨e0, e1, e2, _⟩ := hc i hi
  subst hsp
  rw [Addr.add_lit] at e0 e1 e2
  refine ⟨xb, xo, rfl, fun j v hv => ?_⟩
  match j with
  | 0 => cases hv; exact e0
  | 1 => cases hv; exact e1
  | 2 => cases hv; exact e2
  | j + 3 => simp at hv
theorem ints_cell {k : IntKind} {w : World} {x : Addr} {l : List Int} (h : IntsAt k w (some x) l) (i : Nat) (hi : i < l.length) : ∃ xb xo, x = ⟨xb, xo, none⟩ ∧ w.cell? ⟨xb, xo + i * 1, none⟩ = some (.int k (l.getD i 0)) := by
  obtain ⟨y, hy, hb, hc⟩ := h (by omega)
  injection hy with hy
  subst hy
  obtain ⟨xb, xo, sp⟩ := x
  have hsp : sp = none := by
    have f0 := hc 0 (by omega)
    simpa [Addr.add] using World.cell?_spot f0
  have e0 := hc i hi
  subst hsp
  rw [Addr.add_lit] at e0
  exact ⟨xb, xo, rfl, by rw [Nat.mul_one]; exact e0⟩
theorem CellsK.at {w : World} {b q : Nat} {vs : List Value} (h : CellsK w b q vs) (j : Nat) (hj : j < vs.length) : w.cell? ⟨b, q + j, none⟩ = some vs[j] := h j _ (List.getElem?_eq_getElem hj)
theorem new_row (w : World) (cs : Array Value) (t : TypeId) : CellsK (w.alloc (.cells cs t (0, 0))) w.heap.size 0 cs.toList := CellsK.row (heap_alloc_new w _)
end Go.Proofs.YtfckbkhnelgjbaaGreatDoor
end
/- A list of structs grown by append: the row, and each element's deep part, that leans only on blocks made in its own round. -/
section
namespace Go.Proofs.YtfckbkhnelgjbaaGreatDoor
open Go.ChangeShapes Go.WideShapes Go.ChangeAt Go.RowKit Go.Nm Go.Mem
set_option linter.unusedVariables false
/-- Q holds, and leans on the blocks lo .. hi - 1 alone -/
def Win (lo hi : Nat) (Q : World → Prop) (w : World) : Prop := hi ≤ w.heap.size ∧ ∀ w2 : World, hi ≤ w2.heap.size → (∀ g, lo ≤ g → g < hi → w2.heap[g]? = w.heap[g]?) → Q w2
theorem Win.now {lo hi : Nat} {Q : World → Prop} {w : World} (h : Win lo hi Q w) : Q w := h.2 w h.1 (fun _ _ _ => rfl)
theorem Win.to {lo hi : Nat} {Q : World → Prop} {w w' : World} (h : Win lo hi Q w) (hs : hi ≤ w'.heap.size) (hb : ∀ g, lo ≤ g → g < hi → w'.heap[g]? = w.heap[g]?) : Win lo hi Q w' :=
  ⟨hs, fun w2 h1 h2 => h.2 w2 h1 (fun g g1 g2 => (h2 g g1 g2).trans (hb g g1 g2))⟩
theorem Win.ofUp {B : Nat} {Q : World → Prop} {w : World} (h : Up B Q w) : Win B w.heap.size Q w := ⟨Nat.le_refl _, fun w2 h1 h2 => h w2 ⟨h1, h2⟩⟩
theorem flat_len {α : Type} {sz : Nat} : ∀ (css : List (List α)), (∀ c ∈ css, c.length = sz) → css.flatten.length = css.length * sz
  | [], _ => by simp
  | c :: r, h => by
    rw [List.flatten_cons, List.length_append, flat_len r (fun x hx => h x (List.mem_cons_of_mem _ hx)), h c (List.mem_cons_self ..), List.length_cons, Nat.succ_mul]
    omega
theorem flat_get {α : Type} {sz : Nat} : ∀ (css : List (List α)), (∀ c ∈ css, c.length = sz) → ∀ j (h : j < css.length) i, i < sz → css.flatten[j * sz + i]? = css[j][i]?
  | [], _, j, h, _, _ => absurd h (by simp)
  | c :: r, hc, 0, h, i, hi => by
    rw [List.flatten_cons, Nat.zero_mul, Nat.zero_add, List.getElem?_append_left (by rw [hc c (List.mem_cons_self ..)]; exact hi)]
    rfl
  | c :: r, hc, j + 1, h, i, hi => by
    have hcl := hc c (List.mem_cons_self ..)
    rw [List.flatten_cons, List.getElem?_append_right (by rw [hcl, Nat.succ_mul]; omega), hcl, show (j + 1) * sz + i - sz = j * sz + i by rw [Nat.succ_mul]; omega]
    exact flat_get r (fun x hx => hc x (List.mem_cons_of_mem _ hx)) j (by simpa using h) i hi
def GrowL {α : Type} (E : World → List Value → α → Prop) (base : Nat) (T : TypeId) (sz : Nat) (w : World) (v : Value) (l : List α) : Prop :=
  ∃ css : List (List Value), css.length = l.length ∧ (∀ c ∈ css, c.length = sz) ∧ w.ownsRow base T sz v l.length css.flatten ∧
    ∀ j (h : j < l.length) (h2 : j < css.length), ∃ lo hi, base ≤ lo ∧ (∀ g, v.ownBlock = some g → ¬(lo ≤ g ∧ g < hi)) ∧ Win lo hi (fun w => E w css[j] l[j]) w
theorem GrowL.nil {α : Type} (E : World → List Value → α → Prop) (T : TypeId) (sz : Nat) (base : Nat) (w : World) : GrowL E base T sz w (.slice none 0 0) [] :=
  ⟨[], rfl, fun c h => absurd h (by simp), ⟨by simp, Or.inl ⟨rfl, rfl⟩⟩, fun j h => absurd h (by simp)⟩
theorem GrowL.below {α : Type} {E : World → List Value → α → Prop} {base : Nat} {T : TypeId} {sz : Nat} {w w' : World} {v : Value} {l : List α} (h : GrowL E base T sz w v l) (hb : Below w.heap.size w w') : GrowL E base T sz w' v l := by
  obtain ⟨css, h1, h2, h3, h4⟩ := h
  refine ⟨css, h1, h2, ?_, fun j hj hj2 => ?_⟩
  · refine ⟨h3.1, ?_⟩
    rcases h3.2 with h | ⟨g, cap, cur, k1, k2, k3, k4⟩
    · exact Or.inl h
    · exact Or.inr ⟨g, cap, cur, k1, k2, heap_below k3 hb, k4⟩
  · obtain ⟨lo, hi, p0, p1, p2⟩ := h4 j hj hj2
    exact ⟨lo, hi, p0, p1, p2.to (Nat.le_trans p2.1 hb.size) (fun g _ g2 => hb.block g (Nat.lt_of_lt_of_le g2 p2.1))⟩
theorem GrowL.frame {α : Type} {E : World → List Value → α → Prop} {base : Nat} {T : TypeId} {sz : Nat} {w w' : World} {v : Value} {l : List α} (h : GrowL E base T sz w v l) (hs : w.heap.size ≤ w'.heap.size) (hb : ∀ g, base ≤ g → g < w.heap.size → w'.heap[g]? = w.heap[g]?) : GrowL E base T sz w' v l := by
  obtain ⟨css, h1, h2, h3, h4⟩ := h
  refine ⟨css, h1, h2, ?_, fun j hj hj2 => ?_⟩
  · refine ⟨h3.1, ?_⟩
    rcases h3.2 with h | ⟨g, cap, cur, k1, k2, k3, k4⟩
    · exact Or.inl h
    · exact Or.inr ⟨g, cap, cur, k1, k2, (hb g k2 (lt_of_heap k3)).trans k3, k4⟩
  · obtain ⟨lo, hi, p0, p1, p2⟩ := h4 j hj hj2
    exact ⟨lo, hi, p0, p1, p2.to (Nat.le_trans p2.1 hs) (fun g g1 g2 => hb g (Nat.le_trans p0 g1) (Nat.lt_of_lt_of_le g2 p2.1))⟩
theorem GrowL.push {α : Type} {E : World → List Value → α → Prop} {base : Nat} {T : TypeId} {sz : Nat} {w w2 w3 : World} {v v' : Value} {l : List α} (h : GrowL E base T sz w v l) (hbase : base ≤ w.heap.size) (hb : Below w.heap.size w w2)
    (cs : List Value) (y : α) (hcs : cs.length = sz) (hy : Win w.heap.size w2.heap.size (fun w => E w cs y) w2)
    {css : List (List Value)} (hcss : css.length = l.length ∧ (∀ c ∈ css, c.length = sz) ∧ w.ownsRow base T sz v l.length css.flatten ∧ ∀ j (h : j < l.length) (h2 : j < css.length), ∃ lo hi, base ≤ lo ∧ (∀ g, v.ownBlock = some g → ¬(lo ≤ g ∧ g < hi)) ∧ Win lo hi (fun w => E w css[j] l[j]) w)
    (hown : w3.ownsRow base T sz v' (l.length + 1) (css.flatten ++ cs)) (hg : w2.grownBy w3 v.ownBlock) (g' : Nat) (hv' : v'.ownBlock = some g') (hlie : v.ownBlock = some g' ∨ g' = w2.heap.size) : GrowL E base T sz w3 v' (l ++ [y]) := by
  obtain ⟨h1, h2, h3, h4⟩ := hcss
  refine ⟨css ++ [cs], by simp [h1], ?_, ?_, fun j hj hj2 => ?_⟩
  · intro c hc
    rcases List.mem_append.1 hc with hc | hc
    · exact h2 c hc
    · rw [List.mem_singleton.1 hc]; exact hcs
  · rw [List.flatten_append, List.length_append]
    simpa using hown
  · by_cases hjl : j < l.length
    · obtain ⟨lo, hi, p0, p1, p2⟩ := h4 j hjl (by omega)
      have e1 : (css ++ [cs])[j]'hj2 = css[j]'(by omega) := List.getElem_append_left (by omega)
      have e2 : (l ++ [y])[j]'hj = l[j]'hjl := List.getElem_append_left hjl
      rw [e1, e2]
      refine ⟨lo, hi, p0, fun g hgg => ?_, p2.to (Nat.le_trans p2.1 (Nat.le_trans hb.size hg.size)) (fun g g1 g2 => ?_)⟩
      · rw [hv'] at hgg
        injection hgg with hgg
        subst hgg
        rcases hlie with hl | hl
        · exact p1 _ hl
        · have := hb.size
          have := p2.1
          omega
      · have hgw : g < w.heap.size := Nat.lt_of_lt_of_le g2 p2.1
        rw [hg.block g (Nat.lt_of_lt_of_le hgw hb.size) (fun e => p1 g e.symm ⟨g1, g2⟩)]
        exact hb.block g hgw
    · have hje : j = l.length := by simp at hj; omega
      subst hje
      have e1 : (css ++ [cs])[l.length]'hj2 = cs := by
        rw [List.getElem_append_right (by omega)]; simp [h1]
      have e2 : (l ++ [y])[l.length]'hj = y := by
        rw [List.getElem_append_right (by omega)]; simp
      rw [e1, e2]
      refine ⟨w.heap.size, w2.heap.size, hbase, fun g hgg => ?_, hy.to hg.size (fun g g1 g2 => ?_)⟩
      · rw [hv'] at hgg
        injection hgg with hgg
        subst hgg
        rcases hlie with hl | hl
        · have := (own_lt h3 _ hl).2
          omega
        · omega
      · exact hg.block g g2 (fun e => by have := (own_lt h3 _ e.symm).2; omega)
theorem GrowL.push2 {α : Type} {E : World → List Value → α → Prop} {base : Nat} {T : TypeId} {sz : Nat} {w w2 w3 : World} {v v' : Value} {l : List α} (h : GrowL E base T sz w v l) (hbase : base ≤ w.heap.size) (hb : Below w.heap.size w w2)
    (cs : List Value) (y : α) (hcs : cs.length = sz) (hy : Win w.heap.size w2.heap.size (fun w => E w cs y) w2)
    {css : List (List Value)} (hcss : css.length = l.length ∧ (∀ c ∈ css, c.length = sz) ∧ w.ownsRow base T sz v l.length css.flatten ∧ ∀ j (h : j < l.length) (h2 : j < css.length), ∃ lo hi, base ≤ lo ∧ (∀ g, v.ownBlock = some g → ¬(lo ≤ g ∧ g < hi)) ∧ Win lo hi (fun w => E w css[j] l[j]) w)
    (hown : w3.ownsRow base T sz v' (l.length + 1) (css.flatten ++ cs)) (hg : w2.grownBy w3 v.ownBlock) (hlie : v'.ownBlock = v.ownBlock ∨ v'.ownBlock = some w2.heap.size) : GrowL E base T sz w3 v' (l ++ [y]) := by
  obtain ⟨g', cap, hv', _, _⟩ := hown.form (by omega)
  have hv2 : v'.ownBlock = some g' := by rw [hv']; rfl
  refine h.push hbase hb cs y hcs hy hcss hown hg g' hv2 ?_
  rcases hlie with hl | hl
  · exact Or.inl (by rw [← hl]; exact hv2)
  · exact Or.inr (by rw [hv2] at hl; injection hl)
theorem GrowL.slice {α : Type} {E : World → List Value → α → Prop} {base : Nat} {T : TypeId} {sz : Nat} {w : World} {v : Value} {l : List α} (h : GrowL E base T sz w v l) : ∃ a c, v = .slice a l.length c ∧ l.length ≤ c ∧ c ≤ 9223372036854775807 := by
  obtain ⟨css, h1, h2, h3, h4⟩ := h
  rcases h3.2 with ⟨h, h0⟩ | ⟨g, cap, cur, k1, k2, k3, k4, k5, _⟩
  · exact ⟨none, 0, by rw [h, h0], by omega, by omega⟩
  · exact ⟨_, cap, k1, k4, k5⟩
theorem GrowL.up {α : Type} {E : World → List Value → α → Prop} {At : World → Addr → α → Prop} (hEA : ∀ w g q cs y, E w cs y → (∀ i u, cs[i]? = some u → w.cell? ⟨g, q + i, none⟩ = some u) → At w ⟨g, q, none⟩ y)
    {base : Nat} {T : TypeId} {sz : Nat} {w : World} {v : Value} {l : List α} (h : GrowL E base T sz w v l) (a : Option Addr) (c : Nat) (hv : v = .slice a l.length c) : Up base (fun w => SlAt sz At w a l) w := by
  obtain ⟨css, h1, h2, h3, h4⟩ := h
  intro w2 hs h0
  rcases h3.2 with ⟨h, h9⟩ | ⟨g, cap, cur, k1, k2, k3, k4, k5, k6, k7⟩
  · omega
  · rw [k1] at hv
    injection hv with e1 e2 e3
    subst e1
    have hlt : g < w.heap.size := lt_of_heap k3
    have h3' : w2.ownsRow base T sz (.slice (some ⟨g, 0, none⟩) l.length cap) l.length css.flatten := ⟨h3.1, Or.inr ⟨g, cap, cur, rfl, k2, (hs.2 g k2 hlt).trans k3, k4, k5, k6, k7⟩⟩
    refine ⟨_, rfl, Nat.lt_of_lt_of_le hlt hs.1, fun j hj => ?_⟩
    obtain ⟨lo, hi, p0, p1, p2⟩ := h4 j hj (by omega)
    have hE := p2.2 w2 (Nat.le_trans p2.1 hs.1) (fun g2 q1 q2 => hs.2 g2 (Nat.le_trans p0 q1) (Nat.lt_of_lt_of_le q2 p2.1))
    rw [add_zero_block]
    refine hEA w2 g (j * sz) _ _ hE (fun i u hu => ?_)
    have hc2 := h2 _ (List.getElem_mem (show j < css.length by omega))
    have hil : i < sz := by
      rcases Nat.lt_or_ge i sz with hlt2 | hge
      · exact hlt2
      · rw [List.getElem?_eq_none (by omega)] at hu; cases hu
    rw [h3'.cellAt (j * sz + i) (by
      have : (j + 1) * sz ≤ l.length * sz := Nat.mul_le_mul_right _ hj
      rw [Nat.succ_mul] at this
      omega), flat_get css h2 j (by omega) i hil]
    exact hu
end Go.Proofs.YtfckbkhnelgjbaaGreatDoor
end
