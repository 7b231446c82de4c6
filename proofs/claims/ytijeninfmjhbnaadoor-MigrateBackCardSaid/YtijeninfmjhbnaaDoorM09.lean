/- Lemmas for the law MigrateBack: ApiItem, ApiWorld, RegGuard, RegAll, WCells, MigPlace. No conditions. -/
import Derived.Test.YtijeninfmjhbnaaDoorM08
import Derived.Test.YtijeninfmjhbnaaDoorM02
import Derived.Test.YtijeninfmjhbnaaDoorM06
/- Items as they lie in memory. -/
section
namespace Go.Proofs.YtijeninfmjhbnaaDoor
open Go.RowKit Go.ChangeShapes Go.WideShapes Go.Deep Go.Mem
set_option linter.unusedVariables false
structure ItemV where
  n : Int
  gen : Int
  comps : List CompV
  deriving Inhabited, DecidableEq
def ItemAt (w : World) (p : Addr) (y : ItemV) : Prop := w.cell? p = some (.int .i64 y.n) ∧ w.cell? ⟨p.block, p.off + 1, none⟩ = some (.int .i64 y.gen) ∧
  ∃ a c, w.cell? ⟨p.block, p.off + 2, none⟩ = some (.slice a y.comps.length c) ∧ SlAt 2 CompAt w a y.comps
theorem ItemAt.abides : Abides ItemAt := fun w w' p y h hb => by
  obtain ⟨h1, h2, a, c, h5, h6⟩ := h
  exact ⟨cell_abides h1 hb, cell_abides h2 hb, a, c, cell_abides h5 hb, h6.below CompAt.abides hb⟩
def costItem (y : ItemV) : Nat := (y.comps.map costComp).sum + 1
section
variable {H : Type} {enc : TypeId × Value → H} {w : World} {base : Nat} {spare : Nat → Bool} {held : Bool}
end
end Go.Proofs.YtijeninfmjhbnaaDoor
end
/- Worlds as they lie in memory. -/
section
namespace Go.Proofs.YtijeninfmjhbnaaDoor
open Go.RowKit Go.ChangeShapes Go.WideShapes Go.Deep Go.Mem
set_option linter.unusedVariables false
structure WorldV where
  kinds : List KindV
  gens : List Int
  items : List ItemV
  deriving Inhabited
/-- a world, as a value -/
def WorldIn (w : World) (v : Value) (y : WorldV) : Prop := ∃ ak ck ag cg ai ci, v = .agg #[.slice ak y.kinds.length ck, .slice ag y.gens.length cg, .slice ai y.items.length ci] ∧ SlAt 2 KindAt w ak y.kinds ∧ IntsAt .i64 w ag y.gens ∧ SlAt 3 ItemAt w ai y.items ∧ y.kinds.length ≤ ck ∧ ck ≤ 9223372036854775807
theorem WorldIn.below {w w' : World} {v : Value} {y : WorldV} (h : WorldIn w v y) (hb : Below w.heap.size w w') : WorldIn w' v y := by
  obtain ⟨ak, ck, ag, cg, ai, ci, rfl, h1, h2, h3, h4⟩ := h
  exact ⟨ak, ck, ag, cg, ai, ci, rfl, h1.below KindAt.abides hb, h2.below hb, h3.below ItemAt.abides hb, h4⟩
def costWorld (y : WorldV) : Nat := (y.kinds.map costKind).sum + y.gens.length + (y.items.map costItem).sum
section
variable {H : Type} {enc : TypeId × Value → H} {w : World} {base : Nat} {spare : Nat → Bool} {held : Bool}
end
end Go.Proofs.YtijeninfmjhbnaaDoor
end
/- Drawn regions by facts: guarded operations, picks, tests. No program is named here. -/
section
namespace Go.Mem
open Go.Proofs
theorem cons_of {α : Type} {vs : List α} {n : Nat} (h : vs.length = n + 1) : ∃ a t, vs = a :: t ∧ t.length = n := by
  cases vs with
  | nil => cases h
  | cons a t => exact ⟨a, t, rfl, by simpa using h⟩
section
variable {P : Program} {ops : Array Oper} {o : Oper} {F : Act} {w : World} {Q : Exit → Act → World → Prop}
theorem yielded_at {g : Nat} {t : Tmp} {c : Bool} (ht : (ops[g]?).bind (·.dst) = some t) (he : F.eval (.tmp t) = .bool c) : yielded ops F.tmps g = some c := by
  unfold yielded
  rw [ht]
  have he' : F.tmps.getD t undef = .bool c := he
  rw [Array.getD_eq_getD_getElem?] at he'
  cases h : F.tmps[t]? with
  | none => rw [h] at he'; cases he'
  | some v => rw [h] at he'; have : v = .bool c := he'; subst this; simp [h]
/-- a guarded operation whose guard lets it run -/
theorem wpList_on {g : Nat} {t : Tmp} {c : Bool} (hg : o.guard = some (g, c)) (ht : (ops[g]?).bind (·.dst) = some t) (he : F.eval (.tmp t) = .bool c)
    (h : wpList P ops Q [{ o with guard := none }] F w) : wpList P ops Q [o] F w := by
  have hy := yielded_at ht he
  unfold wpList at h ⊢
  rw [if_pos (by simp [Region.wanted])] at h
  rw [if_pos (by simp [Region.wanted, hg, hy])]
  exact h
/-- a guarded operation whose guard keeps it from running -/
theorem wpList_off {g : Nat} {t : Tmp} {c d : Bool} (hg : o.guard = some (g, c)) (ht : (ops[g]?).bind (·.dst) = some t) (he : F.eval (.tmp t) = .bool d) (hne : d ≠ c)
    (h : Q .normal (F.put o.dst undef) w) : wpList P ops Q [o] F w := by
  have hy := yielded_at ht he
  unfold wpList
  rw [if_neg (by simp [Region.wanted, hg, hy, hne])]
  exact h
theorem one_pick_t (c a b : Operand) (hgd : o.guard = none) (ho : o.op = .pick c a b) (r : Value) (hc : F.eval c = .bool true) (hr : F.eval a = r) (h : Q .normal (F.put o.dst r) w) : wpList P ops Q [o] F w := by
  refine wpList_plain hgd fun K hK => ?_
  unfold Oper.wp execOp
  simp [ho, hc, hr, asBool, Oper.upon]
  exact hK _ _ h
theorem one_pick_f (c a b : Operand) (hgd : o.guard = none) (ho : o.op = .pick c a b) (r : Value) (hc : F.eval c = .bool false) (hr : F.eval b = r) (h : Q .normal (F.put o.dst r) w) : wpList P ops Q [o] F w := by
  refine wpList_plain hgd fun K hK => ?_
  unfold Oper.wp execOp
  simp [ho, hc, hr, asBool, Oper.upon]
  exact hK _ _ h
theorem one_not (ty : TypeId) (x : Operand) (hgd : o.guard = none) (ho : o.op = .unOp .not ty x) (b c : Bool) (hx : F.eval x = .bool b) (hbc : (!b) = c) (h : Q .normal (F.put o.dst (.bool c)) w) : wpList P ops Q [o] F w :=
  one_unop .not ty x hgd ho (.bool b) (.bool c) hx (fun w => by subst hbc; rfl) h
theorem one_int_eq (ty : TypeId) (x y : Operand) (yt : TypeId) (hgd : o.guard = none) (ho : o.op = .binOp .eql ty x y yt) (k : IntKind) (a b : Int) (c : Bool) (hx : F.eval x = .int k a) (hy : F.eval y = .int k b) (hc : (a == b) = c)
    (h : Q .normal (F.put o.dst (.bool c)) w) : wpList P ops Q [o] F w := by
  subst hc
  exact one_binop .eql ty x y yt hgd ho _ _ hx hy _ (by simp [eqGuard]) (by simp [binOp, Op.intCmp]) h
theorem one_int_ne (ty : TypeId) (x y : Operand) (yt : TypeId) (hgd : o.guard = none) (ho : o.op = .binOp .neq ty x y yt) (k : IntKind) (a b : Int) (c : Bool) (hx : F.eval x = .int k a) (hy : F.eval y = .int k b) (hc : (a != b) = c)
    (h : Q .normal (F.put o.dst (.bool c)) w) : wpList P ops Q [o] F w := by
  subst hc
  exact one_binop .neq ty x y yt hgd ho _ _ hx hy _ (by simp [eqGuard]) (by simp [binOp, Op.intCmp]) h
theorem run_bool_same (P : Program) (ty : TypeId) (hu : P.underlying ty = some .bool) (a b : Bool) (w : World) : (Op.equal ty (.bool a) (.bool b)).run P w = .ok (a == b) w := by
  have h : ∀ d : Nat, (Op.equalIn (d + 1) ty (.bool a) (.bool b)).run P w = .ok (a == b) w := fun d => by
    simp [Op.equalIn, run_underlying hu]
  exact h 9999
theorem one_bool_eq (ty : TypeId) (x y : Operand) (yt : TypeId) (hgd : o.guard = none) (ho : o.op = .binOp .eql ty x y yt) (hu : P.underlying ty = some .bool) (a b c : Bool) (hx : F.eval x = .bool a) (hy : F.eval y = .bool b) (hc : (a == b) = c)
    (h : Q .normal (F.put o.dst (.bool c)) w) : wpList P ops Q [o] F w := by
  subst hc
  exact one_binop .eql ty x y yt hgd ho _ _ hx hy _ (by simp [eqGuard]) (by simp [binOp, run_bool_same P ty hu]) h
theorem one_bool_ne (ty : TypeId) (x y : Operand) (yt : TypeId) (hgd : o.guard = none) (ho : o.op = .binOp .neq ty x y yt) (hu : P.underlying ty = some .bool) (a b c : Bool) (hx : F.eval x = .bool a) (hy : F.eval y = .bool b) (hc : (a != b) = c)
    (h : Q .normal (F.put o.dst (.bool c)) w) : wpList P ops Q [o] F w := by
  subst hc
  exact one_binop .neq ty x y yt hgd ho _ _ hx hy _ (by simp [eqGuard]) (by simp [binOp, run_bool_same P ty hu, bne]) h
end
end Go.Mem
end
/- Drawn regions by facts: the laws of single operations, all sizes. No function of the program is named here. -/
section
namespace Go.Proofs.YtijeninfmjhbnaaDoor
open Go.ChangeShapes Go.WideShapes Go.ChangeAt Go.RowKit Go.Mem
set_option linter.unusedVariables false
section
variable {P : Program} {ops : Array Oper} {o : Oper} {F : Act} {w : World} {Q : Exit → Act → World → Prop}
/-- the cells from a place on -/
def CellsK (w : World) (b q : Nat) (vs : List Value) : Prop := ∀ j v, vs[j]? = some v → w.cell? ⟨b, q + j, none⟩ = some v
theorem CellsK.below {w w' : World} {b q : Nat} {vs : List Value} (h : CellsK w b q vs) (hb : Below w.heap.size w w') : CellsK w' b q vs := fun j v hv => (hb.cell (World.block_lt_of_cell? _ _ (h j v hv))).trans (h j v hv)
theorem CellsK.row {w : World} {g : Nat} {cs : Array Value} {t : TypeId} {fr : Nat × Nat} (h : w.heap[g]? = some (.cells cs t fr)) : CellsK w g 0 cs.toList := fun j v hv => by
  simp only [World.cell?, h]
  simpa using hv
theorem CellsK.one {w : World} {b q : Nat} {v : Value} (h : w.cell? ⟨b, q, none⟩ = some v) : CellsK w b q [v] := fun j u hu => by
  match j with
  | 0 => simpa using (by simpa using hu : v = u) ▸ h
  | j + 1 => simp at hu
theorem rg_load (ty : TypeId) (x : Operand) (hgd : o.guard = none) (ho : o.op = .load ty x) (b q : Nat) (vs : List Value) (hx : F.eval x = .pointer (some ⟨b, q, none⟩)) (hc : CellsK w b q vs)
    (d : TypeDesc) (hu : P.underlying ty = some d) (hd : (match d with | .struct _ | .array _ _ => true | _ => false) = true) (hs : (P.info? ty).map (·.size) = some vs.length) (h : Q .normal (F.put o.dst (.agg vs.toArray)) w) : wpList P ops Q [o] F w := by
  have hl : (loadCells ⟨b, q, none⟩ vs.length).run P w = .ok vs.toArray w :=
    run_loadCells_list (P := P) w ⟨b, q, none⟩ vs (fun j v hv => by
      rw [Addr.add_lit]
      exact hc j v hv)
  cases hq : P.info? ty with
  | none => simp [hq] at hs
  | some i =>
    have hsz : i.size = vs.length := by simpa [hq] using hs
    have hagg : (isAgg ty).run P w = .ok true w := by
      unfold isAgg
      rw [Sem.run_bind, run_underlying hu w]
      cases d <;> simp_all
    refine wpList_plain hgd fun K hK => ?_
    unfold Oper.wp execOp
    simp [ho, hx, Instr.loadAt, Instr.sureAddr, loadVar, Sem.run_bind, hagg, sizeOf, typeInfo, hq, hsz, hl, Oper.upon]
    exact hK _ _ h
theorem rg_offu {g : Nat} {t : Tmp} {c : Bool} (hg : o.guard = some (g, c)) (ht : (ops[g]?).bind (·.dst) = some t) (he : F.eval (.tmp t) = undef)
    (h : Q .normal (F.put o.dst undef) w) : wpList P ops Q [o] F w := by
  have hy : yielded ops F.tmps g = none := by
    unfold yielded
    rw [ht]
    have he' : F.tmps.getD t undef = undef := he
    rw [Array.getD_eq_getD_getElem?] at he'
    cases h : F.tmps[t]? with
    | none => simp [h]
    | some v => rw [h] at he'; have : v = undef := he'; subst this; simp [h, undef]
  unfold wpList
  rw [if_neg (by simp [Region.wanted, hg, hy])]
  exact h
theorem rg_len (x : Operand) (t e : TypeId) (hgd : o.guard = none) (ho : o.op = .call { callee := .builtin .len, args := #[x], argTypes := #[t] }) (hu : P.underlying t = some (.slice e)) (a : Option Addr) (n c : Nat) (hx : F.eval x = .slice a n c)
    (h : Q .normal (F.put o.dst (.int .i64 n)) w) : wpList P ops Q [o] F w := by
  refine wpList_plain hgd fun K hK => ?_
  unfold Oper.wp execOp
  simp [ho, hx, resolve, invoke, builtin, Builtin.len_, run_underlying hu, Oper.upon]
  exact hK _ _ h
theorem rg_lens (x : Operand) (t : TypeId) (hgd : o.guard = none) (ho : o.op = .call { callee := .builtin .len, args := #[x], argTypes := #[t] }) (hu : P.underlying t = some .string) (s : ByteArray) (hx : F.eval x = .string s)
    (h : Q .normal (F.put o.dst (.int .i64 s.size)) w) : wpList P ops Q [o] F w := by
  refine wpList_plain hgd fun K hK => ?_
  unfold Oper.wp execOp
  simp [ho, hx, resolve, invoke, builtin, Builtin.len_, run_underlying hu, Oper.upon]
  exact hK _ _ h
theorem rg_lss (ty : TypeId) (x y : Operand) (yt : TypeId) (hgd : o.guard = none) (ho : o.op = .binOp .lss ty x y yt) (k : IntKind) (a b : Int) (c : Bool) (hx : F.eval x = .int k a) (hy : F.eval y = .int k b) (hc : decide (a < b) = c)
    (h : Q .normal (F.put o.dst (.bool c)) w) : wpList P ops Q [o] F w := by
  subst hc
  exact one_binop .lss ty x y yt hgd ho _ _ hx hy _ (by simp [eqGuard]) (by simp [binOp, Op.intCmp]) h
theorem rg_leq (ty : TypeId) (x y : Operand) (yt : TypeId) (hgd : o.guard = none) (ho : o.op = .binOp .leq ty x y yt) (k : IntKind) (a b : Int) (c : Bool) (hx : F.eval x = .int k a) (hy : F.eval y = .int k b) (hc : decide (a ≤ b) = c)
    (h : Q .normal (F.put o.dst (.bool c)) w) : wpList P ops Q [o] F w := by
  subst hc
  exact one_binop .leq ty x y yt hgd ho _ _ hx hy _ (by simp [eqGuard]) (by simp [binOp, Op.intCmp]) h
theorem rg_gtr (ty : TypeId) (x y : Operand) (yt : TypeId) (hgd : o.guard = none) (ho : o.op = .binOp .gtr ty x y yt) (k : IntKind) (a b : Int) (c : Bool) (hx : F.eval x = .int k a) (hy : F.eval y = .int k b) (hc : decide (b < a) = c)
    (h : Q .normal (F.put o.dst (.bool c)) w) : wpList P ops Q [o] F w := by
  subst hc
  exact one_binop .gtr ty x y yt hgd ho _ _ hx hy _ (by simp [eqGuard]) (by simp [binOp, Op.intCmp]) h
theorem rg_geq (ty : TypeId) (x y : Operand) (yt : TypeId) (hgd : o.guard = none) (ho : o.op = .binOp .geq ty x y yt) (k : IntKind) (a b : Int) (c : Bool) (hx : F.eval x = .int k a) (hy : F.eval y = .int k b) (hc : decide (b ≤ a) = c)
    (h : Q .normal (F.put o.dst (.bool c)) w) : wpList P ops Q [o] F w := by
  subst hc
  exact one_binop .geq ty x y yt hgd ho _ _ hx hy _ (by simp [eqGuard]) (by simp [binOp, Op.intCmp]) h
theorem rg_eql (ty : TypeId) (x y : Operand) (yt : TypeId) (hgd : o.guard = none) (ho : o.op = .binOp .eql ty x y yt) (k : IntKind) (a b : Int) (c : Bool) (hx : F.eval x = .int k a) (hy : F.eval y = .int k b) (hc : decide (a = b) = c)
    (h : Q .normal (F.put o.dst (.bool c)) w) : wpList P ops Q [o] F w :=
  one_int_eq ty x y yt hgd ho k a b c hx hy (by rw [← hc]; rfl) h
theorem rg_neq (ty : TypeId) (x y : Operand) (yt : TypeId) (hgd : o.guard = none) (ho : o.op = .binOp .neq ty x y yt) (k : IntKind) (a b : Int) (c : Bool) (hx : F.eval x = .int k a) (hy : F.eval y = .int k b) (hc : decide (a ≠ b) = c)
    (h : Q .normal (F.put o.dst (.bool c)) w) : wpList P ops Q [o] F w :=
  one_int_ne ty x y yt hgd ho k a b c hx hy (by rw [← hc]; by_cases e : a = b <;> simp [e]) h
theorem rg_add (ty : TypeId) (x y : Operand) (yt : TypeId) (hgd : o.guard = none) (ho : o.op = .binOp .add ty x y yt) (a b c : Int) (hx : F.eval x = .int .i64 a) (hy : F.eval y = .int .i64 b) (hc : IntKind.i64.wrap (a + b) = c)
    (h : Q .normal (F.put o.dst (.int .i64 c)) w) : wpList P ops Q [o] F w := by
  subst hc
  exact one_binop .add ty x y yt hgd ho _ _ hx hy _ (by simp [eqGuard]) (by go_simp) h
theorem rg_sub (ty : TypeId) (x y : Operand) (yt : TypeId) (hgd : o.guard = none) (ho : o.op = .binOp .sub ty x y yt) (a b c : Int) (hx : F.eval x = .int .i64 a) (hy : F.eval y = .int .i64 b) (hc : IntKind.i64.wrap (a - b) = c)
    (h : Q .normal (F.put o.dst (.int .i64 c)) w) : wpList P ops Q [o] F w := by
  subst hc
  exact one_binop .sub ty x y yt hgd ho _ _ hx hy _ (by simp [eqGuard]) (by go_simp) h
theorem rg_extract (x : Operand) (k : Nat) (hgd : o.guard = none) (ho : o.op = .extract x k) (u r : Value) (hx : F.eval x = u) (hr : ∀ w, (Instr.extract u k).run P w = .ok r w)
    (h : Q .normal (F.put o.dst r) w) : wpList P ops Q [o] F w := by
  refine wpList_plain hgd fun K hK => ?_
  unfold Oper.wp execOp
  simp [ho, hx, hr, Oper.upon]
  exact hK _ _ h
theorem rg_fieldv (ty : TypeId) (x : Operand) (k : Nat) (hgd : o.guard = none) (ho : o.op = .fieldAddr ty x k) (u r : Value) (hx : F.eval x = u) (hr : ∀ w, (Instr.fieldAt ty u k).run P w = .ok r w)
    (h : Q .normal (F.put o.dst r) w) : wpList P ops Q [o] F w := by
  refine wpList_plain hgd fun K hK => ?_
  unfold Oper.wp execOp
  simp [ho, hx, hr, Oper.upon]
  exact hK _ _ h
theorem rg_index (ty : TypeId) (x y : Operand) (hgd : o.guard = none) (ho : o.op = .index ty x y) (u v r : Value) (hx : F.eval x = u) (hy : F.eval y = v) (hi : ∀ w : World, (Instr.index ty u v).run P w = .ok r w)
    (h : Q .normal (F.put o.dst r) w) : wpList P ops Q [o] F w := by
  refine wpList_plain hgd fun K hK => ?_
  unfold Oper.wp execOp
  simp [ho, hx, hy, hi, Oper.upon]
  exact hK _ _ h
theorem rg_convert (src dst : TypeId) (x : Operand) (hgd : o.guard = none) (ho : o.op = .convert src dst x) (u r : Value) (hx : F.eval x = u) (hi : ∀ w : World, (Go.convert src dst u).run P w = .ok r w)
    (h : Q .normal (F.put o.dst r) w) : wpList P ops Q [o] F w := by
  refine wpList_plain hgd fun K hK => ?_
  unfold Oper.wp execOp
  simp [ho, hx, hi, Oper.upon]
  exact hK _ _ h
theorem rg_slice1 (t e : TypeId) (x0 : Operand) (hgd : o.guard = none) (ho : o.op = .buildSlice t 1 #[(0, x0)]) (a : Int) (h0 : F.eval x0 = .int .i64 a)
    (hu : P.underlying t = some (.slice e)) (hi : (P.info? e).map (fun i => (i.zero, i.size)) = some (some (.int .i64 0), 1)) (h : Q .normal (F.put o.dst (.slice (some ⟨w.heap.size, 0, none⟩) 1 1)) (w.alloc (.cells #[.int .i64 a] e (0, 0)))) : wpList P ops Q [o] F w := by
  obtain ⟨i, hi2, hzz⟩ := Option.map_eq_some_iff.1 hi
  simp only [Prod.mk.injEq] at hzz
  refine wpList_plain hgd fun K hK => ?_
  refine wp_buildSlice t e 1 _ ho #[.int .i64 a] i (.int .i64 0) hu hi2 hzz.1 (by rw [hzz.2]; decide) (by rw [hzz.2]; decide) ?_ (hK _ _ h)
  rw [hzz.2]
  simp only [List.map_toArray, List.map_cons, List.map_nil, h0]
  have hr : Array.range 1 = #[0] := by decide
  simp [Instr.fill, Value.cells, hr]
theorem rg_slice2 (t e : TypeId) (x0 x1 : Operand) (hgd : o.guard = none) (ho : o.op = .buildSlice t 2 #[(0, x0), (1, x1)]) (a b : Int) (h0 : F.eval x0 = .int .i64 a) (h1 : F.eval x1 = .int .i64 b)
    (hu : P.underlying t = some (.slice e)) (hi : (P.info? e).map (fun i => (i.zero, i.size)) = some (some (.int .i64 0), 1)) (h : Q .normal (F.put o.dst (.slice (some ⟨w.heap.size, 0, none⟩) 2 2)) (w.alloc (.cells #[.int .i64 a, .int .i64 b] e (0, 0)))) : wpList P ops Q [o] F w := by
  obtain ⟨i, hi2, hzz⟩ := Option.map_eq_some_iff.1 hi
  simp only [Prod.mk.injEq] at hzz
  refine wpList_plain hgd fun K hK => ?_
  refine wp_buildSlice t e 2 _ ho #[.int .i64 a, .int .i64 b] i (.int .i64 0) hu hi2 hzz.1 (by rw [hzz.2]; decide) (by rw [hzz.2]; decide) ?_ (hK _ _ h)
  rw [hzz.2]
  simp only [List.map_toArray, List.map_cons, List.map_nil, h0, h1]
  have hr : Array.range 2 = #[0, 1] := by decide
  simp [Instr.fill, Value.cells, hr]
/-- the address of an element: elements of k cells -/
theorem rg_idx {t e : TypeId} {k : Nat} (hu : P.underlying t = some (.slice e)) (hs : (P.info? e).map (·.size) = some k) (b q n c j : Nat) (hj : j < n) (w : World) :
    (Instr.indexAt t (.slice (some ⟨b, q, none⟩) n c) (.int .i64 j)).run P w = .ok (.pointer (some ⟨b, q + j * k, none⟩)) w := by
  have i1 : (0 : Int) ≤ (j : Int) := by omega
  have i2 : (j : Int) < (n : Int) := by omega
  cases hq : P.info? e with
  | none => simp [hq] at hs
  | some i =>
    have hsz : i.size = k := by simpa [hq] using hs
    have ha : Sem.run P (asIntOf (.int .i64 (j : Int))) w = .ok (.i64, (j : Int)) w := rfl
    simp [Instr.indexAt, run_underlying hu, sizeOf, typeInfo, hq, hsz, Sem.run_bind, ha, hj, Addr.add]
end
end Go.Proofs.YtijeninfmjhbnaaDoor
end
/- Components, kinds, items among others: their cells. -/
section
namespace Go.Proofs.YtijeninfmjhbnaaDoor
open Go.RowKit Go.ChangeShapes Go.WideShapes Go.Mem
set_option linter.unusedVariables false
theorem comp_cells {w : World} {x : Addr} {l : List CompV} (h : SlAt 2 CompAt w (some x) l) (i : Nat) (hi : i < l.length) : ∃ xb xo, x = ⟨xb, xo, none⟩ ∧ ∃ a c, CellsK w xb (xo + i * 2) [.int .i64 l[i].kind, .slice a l[i].vals.length c] ∧ IntsAt .i64 w a l[i].vals := by
  obtain ⟨y, hy, hb, hc⟩ := h (by omega)
  injection hy with hy
  subst hy
  obtain ⟨xb, xo, sp⟩ := x
  have hsp : sp = none := by
    obtain ⟨f0, _⟩ := hc 0 (by omega)
    simpa [Addr.add] using World.cell?_spot f0
  obtain ⟨e0, a, c, e1, h2⟩ := hc i hi
  subst hsp
  rw [Addr.add_lit] at e0 e1
  refine ⟨xb, xo, rfl, a, c, fun j v hv => ?_, h2⟩
  match j with
  | 0 => cases hv; exact e0
  | 1 => cases hv; exact e1
  | j + 2 => simp at hv
theorem kind_cells {w : World} {x : Addr} {l : List KindV} (h : SlAt 2 KindAt w (some x) l) (i : Nat) (hi : i < l.length) : ∃ xb xo, x = ⟨xb, xo, none⟩ ∧ ∃ a c, CellsK w xb (xo + i * 2) [.string l[i].name, .slice a l[i].fields.length c] ∧ l[i].name.size ≤ 9223372036854775807 ∧ l[i].fields.length ≤ c ∧ c ≤ 9223372036854775807 ∧ SlAt 3 FieldAt w a l[i].fields := by
  obtain ⟨y, hy, hb, hc⟩ := h (by omega)
  injection hy with hy
  subst hy
  obtain ⟨xb, xo, sp⟩ := x
  have hsp : sp = none := by
    obtain ⟨f0, _⟩ := hc 0 (by omega)
    simpa [Addr.add] using World.cell?_spot f0
  obtain ⟨e0, hs, a, c, e1, h2, h3, h4⟩ := hc i hi
  subst hsp
  rw [Addr.add_lit] at e0 e1
  refine ⟨xb, xo, rfl, a, c, fun j v hv => ?_, hs, h2, h3, h4⟩
  match j with
  | 0 => cases hv; exact e0
  | 1 => cases hv; exact e1
  | j + 2 => simp at hv
theorem item_cells {w : World} {x : Addr} {l : List ItemV} (h : SlAt 3 ItemAt w (some x) l) (i : Nat) (hi : i < l.length) : ∃ xb xo, x = ⟨xb, xo, none⟩ ∧ ∃ a c, CellsK w xb (xo + i * 3) [.int .i64 l[i].n, .int .i64 l[i].gen, .slice a l[i].comps.length c] ∧ SlAt 2 CompAt w a l[i].comps := by
  obtain ⟨y, hy, hb, hc⟩ := h (by omega)
  injection hy with hy
  subst hy
  obtain ⟨xb, xo, sp⟩ := x
  have hsp : sp = none := by
    obtain ⟨f0, _⟩ := hc 0 (by omega)
    simpa [Addr.add] using World.cell?_spot f0
  obtain ⟨e0, e1, a, c, e2, h2⟩ := hc i hi
  subst hsp
  rw [Addr.add_lit] at e0 e1 e2
  refine ⟨xb, xo, rfl, a, c, fun j v hv => ?_, h2⟩
  match j with
  | 0 => cases hv; exact e0
  | 1 => cases hv; exact e1
  | 2 => cases hv; exact e2
  | j + 3 => simp at hv
theorem fld_cells {w : World} {x : Addr} {l : List FieldV} (h : SlAt 3 FieldAt w (some x) l) (i : Nat) (hi : i < l.length) : ∃ xb xo, x = ⟨xb, xo, none⟩ ∧ CellsK w xb (xo + i * 3) [.string l[i].name, .int .i64 l[i].bits, .int .i64 l[i].low] := by
  obtain ⟨y, hy, hb, hc⟩ := h (by omega)
  injection hy with hy
  subst hy
  obtain ⟨xb, xo, sp⟩ := x
  have hsp : sp = none := by
    obtain ⟨f0, _⟩ := hc 0 (by omega)
    simpa [Addr.add] using World.cell?_spot f0
  obtain ⟨e0, e1, e2, _⟩ := hc i hi
  subst hsp
  rw [Addr.add_lit] at e0 e1 e2
  refine ⟨xb, xo, rfl, fun j v hv => ?_⟩
  match j with
  | 0 => cases hv; exact e0
  | 1 => cases hv; exact e1
  | 2 => cases hv; exact e2
  | j + 3 => simp at hv
theorem ints_cell {k : IntKind} {w : World} {x : Addr} {l : List Int} (h : IntsAt k w (some x) l) (i : Nat) (hi : i < l.length) : ∃ xb xo, x = ⟨xb, xo, none⟩ ∧ w.cell? ⟨xb, xo + i * 1, none⟩ = some (.int k (l.getD i 0)) := by
  obtain ⟨y, hy, hb, hc⟩ := h (by omega)
  injection hy with hy
  subst hy
  obtain ⟨xb, xo, sp⟩ := x
  have hsp : sp = none := by
    have f0 := hc 0 (by omega)
    simpa [Addr.add] using World.cell?_spot f0
  have e0 := hc i hi
  subst hsp
  rw [Addr.add_lit] at e0
  exact ⟨xb, xo, rfl, by rw [Nat.mul_one]; exact e0⟩
theorem CellsK.at {w : World} {b q : Nat} {vs : List Value} (h : CellsK w b q vs) (j : Nat) (hj : j < vs.length) : w.cell? ⟨b, q + j, none⟩ = some vs[j] := h j _ (List.getElem?_eq_getElem hj)
theorem new_row (w : World) (cs : Array Value) (t : TypeId) : CellsK (w.alloc (.cells cs t (0, 0))) w.heap.size 0 cs.toList := CellsK.row (heap_alloc_new w _)
end Go.Proofs.YtijeninfmjhbnaaDoor
end
/- migrate.place. By program (gen_migplace.py). -/
section
namespace Go.Proofs.YtijeninfmjhbnaaDoor
open Go.ChangeShapes Go.WideShapes Go.ChangeAt Go.RowKit Go.Nm Go.Mem
set_option linter.unusedVariables false
theorem list8 {α : Type} {vs : List α} (h : vs.length = 8) : ∃ x0 x1 x2 x3 x4 x5 x6 x7, vs = [x0, x1, x2, x3, x4, x5, x6, x7] := by
  obtain ⟨x0, t0, rfl, h0⟩ := cons_of h
  obtain ⟨x1, t1, rfl, h1⟩ := cons_of h0
  obtain ⟨x2, t2, rfl, h2⟩ := cons_of h1
  obtain ⟨x3, t3, rfl, h3⟩ := cons_of h2
  obtain ⟨x4, t4, rfl, h4⟩ := cons_of h3
  obtain ⟨x5, t5, rfl, h5⟩ := cons_of h4
  obtain ⟨x6, t6, rfl, h6⟩ := cons_of h5
  obtain ⟨x7, t7, rfl, h7⟩ := cons_of h6
  exact ⟨x0, x1, x2, x3, x4, x5, x6, x7, by rw [List.eq_nil_of_length_eq_zero h7]⟩
def F_mplace (g0 n kc kb ko q fl fc : Nat) (fa : Option Addr) (kn nf : ByteArray) (JJ : Int) (jq : Nat) (v : Value) (w : World) : Prop :=
  match jq with
  | 0 => v = .slice (some ⟨kb, ko, none⟩) n kc
  | 1 => v = .int .i64 (q : Int)
  | 2 => v = .pointer (some ⟨kb, ko + q * 2, none⟩)
  | 3 => v = .agg #[.string kn, .slice fa fl fc]
  | 4 => v = .pointer (some ⟨g0, 2, none⟩)
  | 5 => v = .string nf
  | 6 => v = .int .i64 JJ
  | 7 => v = .int .i64 JJ
  | _ => True
theorem F_mplace_mono (g0 n kc kb ko q fl fc : Nat) (fa : Option Addr) (kn nf : ByteArray) (JJ : Int) : Facts (F_mplace g0 n kc kb ko q fl fc  fa  kn nf  JJ ) := ⟨by
  intro jq v w w' h hb
  unfold F_mplace at h ⊢
  split at h
  all_goals first
    | exact h
    | trivial⟩

set_option maxHeartbeats 4000000 in
set_option maxRecDepth 100000 in
theorem mig_place (ks : List KindV) (ka : Option Addr) (n kc : Nat) (hn : ks.length = n) (h1 : n ≤ 1048576) (hv : ∀ k ∈ ks, k.fields.length ≤ 1048576) (y : MoveV) (a : Option Addr) (c : Nat) (W : World) (hz : SlAt 2 KindAt W ka ks) :
    Calls Tryd.prog 59 #[.slice ka n kc, .agg #[.int .i64 y.do_, .string y.kind, .string y.field, .string y.name, .int .i64 y.value, .string y.new.name, .int .i64 y.new.bits, .int .i64 y.new.low, .string y.whole.name, .slice a y.whole.fields.length c]] W fun e w' => e = .returned (.tuple #[.int .i64 (pI ks y), .int .i64 (pJ ks y), .int .i64 (pE ks y)]) ∧ Below W.heap.size W w' := by
  obtain ⟨I, hI⟩ : ∃ I, I = pI ks y := ⟨_, rfl⟩
  obtain ⟨J, hJ⟩ : ∃ J, J = pJ ks y := ⟨_, rfl⟩
  obtain ⟨E, hE⟩ : ∃ E, E = pE ks y := ⟨_, rfl⟩
  rw [← hI, ← hJ, ← hE]
  unfold pI at hI
  unfold pJ at hJ
  rw [← hE] at hI hJ
  unfold pE at hE
  obtain ⟨d, hd⟩ : ∃ d, d = y.do_ := ⟨_, rfl⟩
  obtain ⟨nk, hnk⟩ : ∃ x, x = y.kind := ⟨_, rfl⟩
  obtain ⟨nf, hnf⟩ : ∃ x, x = y.field := ⟨_, rfl⟩
  obtain ⟨wl, hwl⟩ : ∃ x, x = y.whole.fields.length := ⟨_, rfl⟩
  rw [← hd, ← hnk, ← hnf, ← hwl]
  rw [← hd] at hI hJ hE
  have hb0 := (Below.refl W.heap.size W).alloc (Nat.le_refl _) (.cells #[.int .i64 d, .string nk, .string nf, .string y.name, .int .i64 y.value, .string y.new.name, .int .i64 y.new.bits, .int .i64 y.new.low, .string y.whole.name, .slice a wl c] 45)
  have hrow := heap_alloc_new W (.cells #[.int .i64 d, .string nk, .string nf, .string y.name, .int .i64 y.value, .string y.new.name, .int .i64 y.new.bits, .int .i64 y.new.low, .string y.whole.name, .slice a wl c] 45)
  obtain ⟨w0, hw0⟩ : ∃ w, w = W.alloc (.cells #[.int .i64 d, .string nk, .string nf, .string y.name, .int .i64 y.value, .string y.new.name, .int .i64 y.new.bits, .int .i64 y.new.low, .string y.whole.name, .slice a wl c] 45) := ⟨_, rfl⟩
  rw [← hw0] at hb0 hrow
  obtain ⟨g, hg⟩ : ∃ g, g = W.heap.size := ⟨_, rfl⟩
  rw [← hg] at hrow
  have HB := Lib.hid hb0
  have HROW := Lib.hid hrow
  have HW0 := Lib.hid hw0
  have HG := Lib.hid hg
  have HI := Lib.hid hI
  have HJ := Lib.hid hJ
  have HE := Lib.hid hE
  have HN := Lib.hid hn
  have H1 := Lib.hid h1
  have HV := Lib.hid hv
  have HZ := Lib.hid hz
  have r0 := cell_of_row _ _ 0 _ _ _ hrow
  have r1 := cell_of_row _ _ 1 _ _ _ hrow
  rw [hw0, hg] at r0 r1
  have hf := kind_Find ks ka n kc nk hn (by omega) w0 (hz.below KindAt.abides hb0)
  obtain ⟨Q, hQ⟩ : ∃ Q, Q = iK ks y := ⟨_, rfl⟩
  rw [show firstAt (ks.map (·.name)) nk 0 = Q by rw [hQ, hnk]; rfl] at hf
  rw [← hQ] at hE hI
  have HQ := Lib.hid hQ
  replace HI := Lib.hid hI
  replace HE := Lib.hid hE
  have HF := Lib.hid hf
  have HNF := Lib.hid hnf
  clear hI hJ hE hd hnk hnf hwl hb0 hrow hw0 hg hn h1 hv hz hf hQ
  go_enter Tryd.func59, Tryd.ntmps59
  by_cases hd0 : d < 0
  · have he : E = 1 := by rw [HE.out, if_pos (Or.inl hd0)]
    have HR := Lib.hid (And.intro (show I = 0 by rw [HI.out, he]; simp) (And.intro (show J = 0 by rw [HJ.out, he]; simp) he))
    clear he HE HI HJ
    go_wp2_with fail
    rw [← HW0.out]
    go_ret3
    exact ⟨by rw [HR.out.1, HR.out.2.1, HR.out.2.2]; rfl, HB.out⟩
  · by_cases hd6 : 6 < d
    · have he : E = 1 := by rw [HE.out, if_pos (Or.inr hd6)]
      have HR := Lib.hid (And.intro (show I = 0 by rw [HI.out, he]; simp) (And.intro (show J = 0 by rw [HJ.out, he]; simp) he))
      clear he HE HI HJ
      go_wp2_with fail
      rw [← HW0.out]
      go_ret3
      exact ⟨by rw [HR.out.1, HR.out.2.1, HR.out.2.2]; rfl, HB.out⟩
    · have he1 := HE.out
      rw [if_neg (by omega)] at he1
      by_cases hz0 : d = 0
      · rw [if_pos hz0] at he1
        have HR := Lib.hid (And.intro (show I = 0 by rw [HI.out, if_pos (Or.inr hz0)]) (And.intro (show J = 0 by rw [HJ.out, if_pos (Or.inr (by omega))]) he1))
        have t1 : (d == 0) = true := by simp [hz0]
        have t2 := decide_eq_false hd0
        have t3 := decide_eq_false hd6
        clear he1 HE HI HJ hd0 hd6 hz0
        go_wp2_with fail
        rw [← HW0.out]
        go_ret3
        exact ⟨by rw [HR.out.1, HR.out.2.1, HR.out.2.2]; rfl, HB.out⟩
      · rw [if_neg hz0] at he1
        have HE1 := Lib.hid he1
        have t1 : (d == 0) = false := by simp [hz0]
        have t2 := decide_eq_false hd0
        have t3 := decide_eq_false hd6
        have HD := Lib.hid (And.intro hd0 (And.intro hd6 hz0))
        clear he1 HE hd0 hd6 hz0
        go_wp2_with fail
        rw [← HW0.out]
        refine HF.out.mono ?_
        rintro e w1 ⟨rfl, hb1⟩
        have HB1 := Lib.hid (bt HB.out hb1)
        have hrow1 := heap_below HROW.out hb1
        rw [HG.out] at hrow1
        have HROW1 := Lib.hid hrow1
        have r0 := cell_of_row _ _ 0 _ _ _ hrow1
        have r2 := cell_of_row _ _ 2 _ _ _ hrow1
        clear hb1 hrow1 HF HW0 HB t1 t2 t3
        by_cases hq : Q < 0
        · have he2 := HE1.out
          rw [if_pos hq] at he2
          have HR := Lib.hid (And.intro (show I = 0 by rw [HI.out, he2]; simp) (And.intro (show J = 0 by rw [HJ.out, he2]; simp) he2))
          have t1 := decide_eq_true hq
          clear he2 HE1 HI HJ hq r2
          go_wp2_with fail
          go_ret3
          exact ⟨by rw [HR.out.1, HR.out.2.1, HR.out.2.2]; rfl, HB1.out⟩
        · have he2 := HE1.out
          rw [if_neg hq] at he2
          by_cases h3 : d ≤ 3
          · rw [if_pos h3] at he2
            have HR := Lib.hid (And.intro (show I = Q by rw [HI.out, he2, if_neg (by simp; exact HD.out.2.2)]) (And.intro (show J = 0 by rw [HJ.out, if_pos (Or.inr h3)]) he2))
            have t1 := decide_eq_false hq
            have t2 := decide_eq_true h3
            clear he2 HE1 HI HJ hq r2 h3
            go_wp2_with fail
            go_ret3
            exact ⟨by rw [HR.out.1, HR.out.2.1, HR.out.2.2]; rfl, HB1.out⟩
          · rw [if_neg h3] at he2
            have HE2 := Lib.hid he2
            obtain ⟨q, rfl⟩ : ∃ q : Nat, Q = (q : Int) := ⟨Q.toNat, by omega⟩
            have hqn : q < n := by have := iK_bound ks y; rw [← HQ.out, HN.out] at this; omega
            have HQN := Lib.hid hqn
            have HD3 := Lib.hid h3
            have hz1 := HZ.out.below KindAt.abides HB1.out
            obtain ⟨z, rfl, _, _⟩ := HZ.out (by rw [HN.out]; omega)
            obtain ⟨kb, ko, rfl, fa, fc, hck, hnm, hnc, hcm, hfl⟩ := kind_cells hz1 q (by rw [HN.out]; exact hqn)
            obtain ⟨k, hk⟩ : ∃ k, k = ks[q]'(by rw [HN.out]; exact hqn) := ⟨_, rfl⟩
            rw [← hk] at hck hfl
            have hgk : ks.getD (iK ks y).toNat default = k := by
              rw [← HQ.out, Int.toNat_natCast, List.getD_eq_getElem?_getD, List.getElem?_eq_getElem (by rw [HN.out]; exact hqn), hk]; rfl
            obtain ⟨fl, hfl2⟩ : ∃ fl, fl = k.fields.length := ⟨_, rfl⟩
            obtain ⟨kn, hkn⟩ : ∃ kn, kn = k.name := ⟨_, rfl⟩
            rw [← hfl2, ← hkn] at hck
            have hflb : fl ≤ 1048576 := by rw [hfl2]; exact HV.out k (by rw [hk]; exact List.getElem_mem _)
            obtain ⟨JJ, hJJ⟩ : ∃ JJ, JJ = jK ks y := ⟨_, rfl⟩
            have CF := Lib.hid (fun w' (hb : Below w1.heap.size w1 w') => kind_Field k.fields fa fl fc nf kn hfl2.symm (by omega) w' (SlAt.below FieldAt.abides hfl hb))
            rw [show firstAt (k.fields.map (·.name)) nf 0 = JJ by rw [hJJ]; unfold jK; rw [hgk, HNF.out]] at CF
            have HCK := Lib.hid hck
            have HJ2 := Lib.hid (show JJ = jK ks y from hJJ)
            have he3 := HE2.out
            rw [← hJJ] at he3
            have HE3 := Lib.hid he3
            have hj3 := HJ.out
            rw [← hJJ] at hj3
            have HJ3 := Lib.hid hj3
            have t1 := decide_eq_false hq
            have t2 := decide_eq_false h3
            have R2 := Lib.hid r2
            clear he2 he3 hj3 HE2 HE1 HJ hq h3 hck hnm hnc hcm hfl hk hgk hfl2 hkn hflb hJJ hz1 hqn r2
            go_wp2_with fail
            refine wp_region_facts_t rfl 8 (by kernel_rfl) (F_mplace W.heap.size n kc kb ko q fl fc fa kn nf JJ) (F_mplace_mono W.heap.size n kc kb ko q fl fc fa kn nf JJ) ?_ ?_
            · refine ⟨?_, ?_, ?_, ?_, ?_, ?_, ?_, ?_, trivial⟩
              · intro vs w' F hb hd hF hl hT
                have e := (hF 0).trans (look_out _ 0 _ _ (by kernel_rfl))
                exact one_move _ rfl (by first | exact Or.inl rfl | exact Or.inr rfl) ⟨_, rfl, Below.refl _ _, e⟩
              · intro vs w' F hb hd hF hl hT
                have e := (hF 7).trans (look_out _ 7 _ _ (by kernel_rfl))
                exact one_move _ rfl (by first | exact Or.inl rfl | exact Or.inr rfl) ⟨_, rfl, Below.refl _ _, e⟩
              · intro vs w' F hb hd hF hl hT
                have ex := ((hF 30).trans (look_at _ 30 0 _ _ (by kernel_rfl) (by kernel_rfl) hl)).trans (dep_of (Fact := F_mplace W.heap.size n kc kb ko q fl fc fa kn nf JJ) hd 0 (by kernel_rfl))
                have ey := ((hF 31).trans (look_at _ 31 1 _ _ (by kernel_rfl) (by kernel_rfl) hl)).trans (dep_of (Fact := F_mplace W.heap.size n kc kb ko q fl fc fa kn nf JJ) hd 1 (by kernel_rfl))
                exact one_index 22 _ _ rfl rfl (.slice (some ⟨kb, ko, none⟩) n kc) (.int .i64 (q : Int)) (.pointer (some ⟨kb, ko + q * 2, none⟩)) ex ey (fun w => rg_idx Tryd.underlying22 (show (Tryd.prog.info? 43).map (·.size) = some 2 by kernel_rfl) (kb) (ko) (n) (kc) (q) (HQN.out) w) ⟨_, rfl, Below.refl _ _, rfl⟩
              · intro vs w' F hb hd hF hl hT
                have e := ((hF 32).trans (look_at _ 32 2 _ _ (by kernel_rfl) (by kernel_rfl) hl)).trans (dep_of (Fact := F_mplace W.heap.size n kc kb ko q fl fc fa kn nf JJ) hd 2 (by kernel_rfl))
                exact rg_load 43 _ rfl rfl (kb) (ko + q * 2) [.string kn, .slice fa fl fc] e (HCK.out.below hb) _ Tryd.underlying43 rfl (by kernel_rfl) ⟨_, rfl, Below.refl _ _, rfl⟩
              · intro vs w' F hb hd hF hl hT
                have e := (hF 3).trans (look_out _ 3 _ _ (by kernel_rfl))
                exact one_field _ _ _ rfl rfl _ _ e (2) (fun w => by kernel_rfl) ⟨_, rfl, Below.refl _ _, rfl⟩
              · intro vs w' F hb hd hF hl hT
                have e := ((hF 34).trans (look_at _ 34 4 _ _ (by kernel_rfl) (by kernel_rfl) hl)).trans (dep_of (Fact := F_mplace W.heap.size n kc kb ko q fl fc fa kn nf JJ) hd 4 (by kernel_rfl))
                exact one_load _ _ rfl rfl _ _ e (cell_abides R2.out hb) (by kernel_rfl) ⟨_, rfl, Below.refl _ _, rfl⟩
              · intro vs w' F hb hd hF hl hT
                have ea0 := ((hF 33).trans (look_at _ 33 3 _ _ (by kernel_rfl) (by kernel_rfl) hl)).trans (dep_of (Fact := F_mplace W.heap.size n kc kb ko q fl fc fa kn nf JJ) hd 3 (by kernel_rfl))
                have ea1 := ((hF 35).trans (look_at _ 35 5 _ _ (by kernel_rfl) (by kernel_rfl) hl)).trans (dep_of (Fact := F_mplace W.heap.size n kc kb ko q fl fc fa kn nf JJ) hd 5 (by kernel_rfl))
                refine one_call _ _ rfl rfl (enters_of Tryd.func79 (by kernel_rfl) rfl) #[.agg #[.string kn, .slice fa fl fc], .string nf] (eval2 ea0 ea1) ?_
                refine (CF.out w' hb).mono ?_
                rintro e2 w2 ⟨rfl, hb2⟩
                exact ⟨_, rfl, _, rfl, hb2, rfl⟩
              · intro vs w' F hb hd hF hl hT
                have e := ((hF 36).trans (look_at _ 36 6 _ _ (by kernel_rfl) (by kernel_rfl) hl)).trans (dep_of (Fact := F_mplace W.heap.size n kc kb ko q fl fc fa kn nf JJ) hd 6 (by kernel_rfl))
                exact one_move _ rfl (by first | exact Or.inl rfl | exact Or.inr rfl) ⟨_, rfl, Below.refl _ _, e⟩
            · intro vs8 W8 hl hb hI
              have hv : vs8.getD 7 undef = .int .i64 JJ := hI 7 (by omega)
              obtain ⟨x0, x1, x2, x3, x4, x5, x6, x7, hvs⟩ := list8 hl
              subst hvs
              replace hv : x7 = .int .i64 JJ := hv
              subst hv
              clear hI hl
              simp only [fillAll, Act.put, List.setIfInBounds_toArray, List.set_cons_succ, List.set_cons_zero]
              show wpList _ _ _ [] _ _
              have HB2 := Lib.hid (bt HB1.out hb)
              clear hb r0 t1 t2 CF HCK R2
              by_cases hj : JJ < 0
              · have he4 := HE3.out
                rw [if_pos hj] at he4
                have HR := Lib.hid (And.intro (show I = 0 by rw [HI.out, he4]; simp) (And.intro (show J = 0 by rw [HJ3.out, he4]; simp) he4))
                have t1 := decide_eq_true hj
                clear he4 HE3 HI HJ3 hj
                go_wp2_with fail
                go_ret3
                exact ⟨by rw [HR.out.1, HR.out.2.1, HR.out.2.2]; rfl, HB2.out⟩
              · have he4 := HE3.out
                rw [if_neg hj] at he4
                have HR := Lib.hid (And.intro (show I = (q : Int) by rw [HI.out, he4, if_neg (by simp; exact HD.out.2.2)]) (And.intro (show J = JJ by rw [HJ3.out, he4, if_neg (by have := HD3.out; simp; omega)]) he4))
                have t1 := decide_eq_false hj
                clear he4 HE3 HI HJ3 hj
                go_wp2_with fail
                go_ret3
                exact ⟨by rw [HR.out.1, HR.out.2.1, HR.out.2.2]; rfl, HB2.out⟩
end Go.Proofs.YtijeninfmjhbnaaDoor
end
