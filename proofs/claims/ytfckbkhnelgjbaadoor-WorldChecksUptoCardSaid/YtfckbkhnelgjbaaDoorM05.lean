/- Lemmas for the law WorldChecks: RegGuard, RegAll, WCells, Own. No conditions. -/
import Derived.Test.YtfckbkhnelgjbaaDoorM04
import Derived.Test.YtfckbkhnelgjbaaDoorM01
import Derived.Test.YtfckbkhnelgjbaaDoorM02
import Derived.Maps.AppendAt
import Derived.Deep.AppendLies
import Derived.OwnWalk
/- Drawn regions by facts: guarded operations, picks, tests. No program is named here. -/
section
namespace Go.Mem
open Go.Proofs
theorem cons_of {α : Type} {vs : List α} {n : Nat} (h : vs.length = n + 1) : ∃ a t, vs = a :: t ∧ t.length = n := by
  cases vs with
  | nil => cases h
  | cons a t => exact ⟨a, t, rfl, by simpa using h⟩
section
variable {P : Program} {ops : Array Oper} {o : Oper} {F : Act} {w : World} {Q : Exit → Act → World → Prop}
theorem yielded_at {g : Nat} {t : Tmp} {c : Bool} (ht : (ops[g]?).bind (·.dst) = some t) (he : F.eval (.tmp t) = .bool c) : yielded ops F.tmps g = some c := by
  unfold yielded
  rw [ht]
  have he' : F.tmps.getD t undef = .bool c := he
  rw [Array.getD_eq_getD_getElem?] at he'
  cases h : F.tmps[t]? with
  | none => rw [h] at he'; cases he'
  | some v => rw [h] at he'; have : v = .bool c := he'; subst this; simp [h]
/-- a guarded operation whose guard lets it run -/
theorem wpList_on {g : Nat} {t : Tmp} {c : Bool} (hg : o.guard = some (g, c)) (ht : (ops[g]?).bind (·.dst) = some t) (he : F.eval (.tmp t) = .bool c)
    (h : wpList P ops Q [{ o with guard := none }] F w) : wpList P ops Q [o] F w := by
  have hy := yielded_at ht he
  unfold wpList at h ⊢
  rw [if_pos (by simp [Region.wanted])] at h
  rw [if_pos (by simp [Region.wanted, hg, hy])]
  exact h
/-- a guarded operation whose guard keeps it from running -/
theorem wpList_off {g : Nat} {t : Tmp} {c d : Bool} (hg : o.guard = some (g, c)) (ht : (ops[g]?).bind (·.dst) = some t) (he : F.eval (.tmp t) = .bool d) (hne : d ≠ c)
    (h : Q .normal (F.put o.dst undef) w) : wpList P ops Q [o] F w := by
  have hy := yielded_at ht he
  unfold wpList
  rw [if_neg (by simp [Region.wanted, hg, hy, hne])]
  exact h
theorem one_pick_t (c a b : Operand) (hgd : o.guard = none) (ho : o.op = .pick c a b) (r : Value) (hc : F.eval c = .bool true) (hr : F.eval a = r) (h : Q .normal (F.put o.dst r) w) : wpList P ops Q [o] F w := by
  refine wpList_plain hgd fun K hK => ?_
  unfold Oper.wp execOp
  simp [ho, hc, hr, asBool, Oper.upon]
  exact hK _ _ h
theorem one_pick_f (c a b : Operand) (hgd : o.guard = none) (ho : o.op = .pick c a b) (r : Value) (hc : F.eval c = .bool false) (hr : F.eval b = r) (h : Q .normal (F.put o.dst r) w) : wpList P ops Q [o] F w := by
  refine wpList_plain hgd fun K hK => ?_
  unfold Oper.wp execOp
  simp [ho, hc, hr, asBool, Oper.upon]
  exact hK _ _ h
theorem one_not (ty : TypeId) (x : Operand) (hgd : o.guard = none) (ho : o.op = .unOp .not ty x) (b c : Bool) (hx : F.eval x = .bool b) (hbc : (!b) = c) (h : Q .normal (F.put o.dst (.bool c)) w) : wpList P ops Q [o] F w :=
  one_unop .not ty x hgd ho (.bool b) (.bool c) hx (fun w => by subst hbc; rfl) h
theorem one_int_eq (ty : TypeId) (x y : Operand) (yt : TypeId) (hgd : o.guard = none) (ho : o.op = .binOp .eql ty x y yt) (k : IntKind) (a b : Int) (c : Bool) (hx : F.eval x = .int k a) (hy : F.eval y = .int k b) (hc : (a == b) = c)
    (h : Q .normal (F.put o.dst (.bool c)) w) : wpList P ops Q [o] F w := by
  subst hc
  exact one_binop .eql ty x y yt hgd ho _ _ hx hy _ (by simp [eqGuard]) (by simp [binOp, Op.intCmp]) h
theorem one_int_ne (ty : TypeId) (x y : Operand) (yt : TypeId) (hgd : o.guard = none) (ho : o.op = .binOp .neq ty x y yt) (k : IntKind) (a b : Int) (c : Bool) (hx : F.eval x = .int k a) (hy : F.eval y = .int k b) (hc : (a != b) = c)
    (h : Q .normal (F.put o.dst (.bool c)) w) : wpList P ops Q [o] F w := by
  subst hc
  exact one_binop .neq ty x y yt hgd ho _ _ hx hy _ (by simp [eqGuard]) (by simp [binOp, Op.intCmp]) h
theorem run_bool_same (P : Program) (ty : TypeId) (hu : P.underlying ty = some .bool) (a b : Bool) (w : World) : (Op.equal ty (.bool a) (.bool b)).run P w = .ok (a == b) w := by
  have h : ∀ d : Nat, (Op.equalIn (d + 1) ty (.bool a) (.bool b)).run P w = .ok (a == b) w := fun d => by
    simp [Op.equalIn, run_underlying hu]
  exact h 9999
theorem one_bool_eq (ty : TypeId) (x y : Operand) (yt : TypeId) (hgd : o.guard = none) (ho : o.op = .binOp .eql ty x y yt) (hu : P.underlying ty = some .bool) (a b c : Bool) (hx : F.eval x = .bool a) (hy : F.eval y = .bool b) (hc : (a == b) = c)
    (h : Q .normal (F.put o.dst (.bool c)) w) : wpList P ops Q [o] F w := by
  subst hc
  exact one_binop .eql ty x y yt hgd ho _ _ hx hy _ (by simp [eqGuard]) (by simp [binOp, run_bool_same P ty hu]) h
theorem one_bool_ne (ty : TypeId) (x y : Operand) (yt : TypeId) (hgd : o.guard = none) (ho : o.op = .binOp .neq ty x y yt) (hu : P.underlying ty = some .bool) (a b c : Bool) (hx : F.eval x = .bool a) (hy : F.eval y = .bool b) (hc : (a != b) = c)
    (h : Q .normal (F.put o.dst (.bool c)) w) : wpList P ops Q [o] F w := by
  subst hc
  exact one_binop .neq ty x y yt hgd ho _ _ hx hy _ (by simp [eqGuard]) (by simp [binOp, run_bool_same P ty hu, bne]) h
end
end Go.Mem
end
/- Drawn regions by facts: the laws of single operations, all sizes. No function of the program is named here. -/
section
namespace Go.Proofs.YtfckbkhnelgjbaaDoor
open Go.ChangeShapes Go.WideShapes Go.ChangeAt Go.RowKit Go.Mem
set_option linter.unusedVariables false
section
variable {P : Program} {ops : Array Oper} {o : Oper} {F : Act} {w : World} {Q : Exit → Act → World → Prop}
/-- the cells from a place on -/
def CellsK (w : World) (b q : Nat) (vs : List Value) : Prop := ∀ j v, vs[j]? = some v → w.cell? ⟨b, q + j, none⟩ = some v
theorem CellsK.below {w w' : World} {b q : Nat} {vs : List Value} (h : CellsK w b q vs) (hb : Below w.heap.size w w') : CellsK w' b q vs := fun j v hv => (hb.cell (World.block_lt_of_cell? _ _ (h j v hv))).trans (h j v hv)
theorem CellsK.row {w : World} {g : Nat} {cs : Array Value} {t : TypeId} {fr : Nat × Nat} (h : w.heap[g]? = some (.cells cs t fr)) : CellsK w g 0 cs.toList := fun j v hv => by
  simp only [World.cell?, h]
  simpa using hv
theorem CellsK.one {w : World} {b q : Nat} {v : Value} (h : w.cell? ⟨b, q, none⟩ = some v) : CellsK w b q [v] := fun j u hu => by
  match j with
  | 0 => simpa using (by simpa using hu : v = u) ▸ h
  | j + 1 => simp at hu
theorem rg_load (ty : TypeId) (x : Operand) (hgd : o.guard = none) (ho : o.op = .load ty x) (b q : Nat) (vs : List Value) (hx : F.eval x = .pointer (some ⟨b, q, none⟩)) (hc : CellsK w b q vs)
    (d : TypeDesc) (hu : P.underlying ty = some d) (hd : (match d with | .struct _ | .array _ _ => true | _ => false) = true) (hs : (P.info? ty).map (·.size) = some vs.length) (h : Q .normal (F.put o.dst (.agg vs.toArray)) w) : wpList P ops Q [o] F w := by
  have hl : (loadCells ⟨b, q, none⟩ vs.length).run P w = .ok vs.toArray w :=
    run_loadCells_list (P := P) w ⟨b, q, none⟩ vs (fun j v hv => by
      rw [Addr.add_lit]
      exact hc j v hv)
  cases hq : P.info? ty with
  | none => simp [hq] at hs
  | some i =>
    have hsz : i.size = vs.length := by simpa [hq] using hs
    have hagg : (isAgg ty).run P w = .ok true w := by
      unfold isAgg
      rw [Sem.run_bind, run_underlying hu w]
      cases d <;> simp_all
    refine wpList_plain hgd fun K hK => ?_
    unfold Oper.wp execOp
    simp [ho, hx, Instr.loadAt, Instr.sureAddr, loadVar, Sem.run_bind, hagg, sizeOf, typeInfo, hq, hsz, hl, Oper.upon]
    exact hK _ _ h
theorem rg_offu {g : Nat} {t : Tmp} {c : Bool} (hg : o.guard = some (g, c)) (ht : (ops[g]?).bind (·.dst) = some t) (he : F.eval (.tmp t) = undef)
    (h : Q .normal (F.put o.dst undef) w) : wpList P ops Q [o] F w := by
  have hy : yielded ops F.tmps g = none := by
    unfold yielded
    rw [ht]
    have he' : F.tmps.getD t undef = undef := he
    rw [Array.getD_eq_getD_getElem?] at he'
    cases h : F.tmps[t]? with
    | none => simp [h]
    | some v => rw [h] at he'; have : v = undef := he'; subst this; simp [h, undef]
  unfold wpList
  rw [if_neg (by simp [Region.wanted, hg, hy])]
  exact h
theorem rg_len (x : Operand) (t e : TypeId) (hgd : o.guard = none) (ho : o.op = .call { callee := .builtin .len, args := #[x], argTypes := #[t] }) (hu : P.underlying t = some (.slice e)) (a : Option Addr) (n c : Nat) (hx : F.eval x = .slice a n c)
    (h : Q .normal (F.put o.dst (.int .i64 n)) w) : wpList P ops Q [o] F w := by
  refine wpList_plain hgd fun K hK => ?_
  unfold Oper.wp execOp
  simp [ho, hx, resolve, invoke, builtin, Builtin.len_, run_underlying hu, Oper.upon]
  exact hK _ _ h
theorem rg_lens (x : Operand) (t : TypeId) (hgd : o.guard = none) (ho : o.op = .call { callee := .builtin .len, args := #[x], argTypes := #[t] }) (hu : P.underlying t = some .string) (s : ByteArray) (hx : F.eval x = .string s)
    (h : Q .normal (F.put o.dst (.int .i64 s.size)) w) : wpList P ops Q [o] F w := by
  refine wpList_plain hgd fun K hK => ?_
  unfold Oper.wp execOp
  simp [ho, hx, resolve, invoke, builtin, Builtin.len_, run_underlying hu, Oper.upon]
  exact hK _ _ h
theorem rg_lss (ty : TypeId) (x y : Operand) (yt : TypeId) (hgd : o.guard = none) (ho : o.op = .binOp .lss ty x y yt) (k : IntKind) (a b : Int) (c : Bool) (hx : F.eval x = .int k a) (hy : F.eval y = .int k b) (hc : decide (a < b) = c)
    (h : Q .normal (F.put o.dst (.bool c)) w) : wpList P ops Q [o] F w := by
  subst hc
  exact one_binop .lss ty x y yt hgd ho _ _ hx hy _ (by simp [eqGuard]) (by simp [binOp, Op.intCmp]) h
theorem rg_leq (ty : TypeId) (x y : Operand) (yt : TypeId) (hgd : o.guard = none) (ho : o.op = .binOp .leq ty x y yt) (k : IntKind) (a b : Int) (c : Bool) (hx : F.eval x = .int k a) (hy : F.eval y = .int k b) (hc : decide (a ≤ b) = c)
    (h : Q .normal (F.put o.dst (.bool c)) w) : wpList P ops Q [o] F w := by
  subst hc
  exact one_binop .leq ty x y yt hgd ho _ _ hx hy _ (by simp [eqGuard]) (by simp [binOp, Op.intCmp]) h
theorem rg_gtr (ty : TypeId) (x y : Operand) (yt : TypeId) (hgd : o.guard = none) (ho : o.op = .binOp .gtr ty x y yt) (k : IntKind) (a b : Int) (c : Bool) (hx : F.eval x = .int k a) (hy : F.eval y = .int k b) (hc : decide (b < a) = c)
    (h : Q .normal (F.put o.dst (.bool c)) w) : wpList P ops Q [o] F w := by
  subst hc
  exact one_binop .gtr ty x y yt hgd ho _ _ hx hy _ (by simp [eqGuard]) (by simp [binOp, Op.intCmp]) h
theorem rg_geq (ty : TypeId) (x y : Operand) (yt : TypeId) (hgd : o.guard = none) (ho : o.op = .binOp .geq ty x y yt) (k : IntKind) (a b : Int) (c : Bool) (hx : F.eval x = .int k a) (hy : F.eval y = .int k b) (hc : decide (b ≤ a) = c)
    (h : Q .normal (F.put o.dst (.bool c)) w) : wpList P ops Q [o] F w := by
  subst hc
  exact one_binop .geq ty x y yt hgd ho _ _ hx hy _ (by simp [eqGuard]) (by simp [binOp, Op.intCmp]) h
theorem rg_eql (ty : TypeId) (x y : Operand) (yt : TypeId) (hgd : o.guard = none) (ho : o.op = .binOp .eql ty x y yt) (k : IntKind) (a b : Int) (c : Bool) (hx : F.eval x = .int k a) (hy : F.eval y = .int k b) (hc : decide (a = b) = c)
    (h : Q .normal (F.put o.dst (.bool c)) w) : wpList P ops Q [o] F w :=
  one_int_eq ty x y yt hgd ho k a b c hx hy (by rw [← hc]; rfl) h
theorem rg_neq (ty : TypeId) (x y : Operand) (yt : TypeId) (hgd : o.guard = none) (ho : o.op = .binOp .neq ty x y yt) (k : IntKind) (a b : Int) (c : Bool) (hx : F.eval x = .int k a) (hy : F.eval y = .int k b) (hc : decide (a ≠ b) = c)
    (h : Q .normal (F.put o.dst (.bool c)) w) : wpList P ops Q [o] F w :=
  one_int_ne ty x y yt hgd ho k a b c hx hy (by rw [← hc]; by_cases e : a = b <;> simp [e]) h
theorem rg_add (ty : TypeId) (x y : Operand) (yt : TypeId) (hgd : o.guard = none) (ho : o.op = .binOp .add ty x y yt) (a b c : Int) (hx : F.eval x = .int .i64 a) (hy : F.eval y = .int .i64 b) (hc : IntKind.i64.wrap (a + b) = c)
    (h : Q .normal (F.put o.dst (.int .i64 c)) w) : wpList P ops Q [o] F w := by
  subst hc
  exact one_binop .add ty x y yt hgd ho _ _ hx hy _ (by simp [eqGuard]) (by go_simp) h
theorem rg_sub (ty : TypeId) (x y : Operand) (yt : TypeId) (hgd : o.guard = none) (ho : o.op = .binOp .sub ty x y yt) (a b c : Int) (hx : F.eval x = .int .i64 a) (hy : F.eval y = .int .i64 b) (hc : IntKind.i64.wrap (a - b) = c)
    (h : Q .normal (F.put o.dst (.int .i64 c)) w) : wpList P ops Q [o] F w := by
  subst hc
  exact one_binop .sub ty x y yt hgd ho _ _ hx hy _ (by simp [eqGuard]) (by go_simp) h
theorem rg_extract (x : Operand) (k : Nat) (hgd : o.guard = none) (ho : o.op = .extract x k) (u r : Value) (hx : F.eval x = u) (hr : ∀ w, (Instr.extract u k).run P w = .ok r w)
    (h : Q .normal (F.put o.dst r) w) : wpList P ops Q [o] F w := by
  refine wpList_plain hgd fun K hK => ?_
  unfold Oper.wp execOp
  simp [ho, hx, hr, Oper.upon]
  exact hK _ _ h
theorem rg_fieldv (ty : TypeId) (x : Operand) (k : Nat) (hgd : o.guard = none) (ho : o.op = .fieldAddr ty x k) (u r : Value) (hx : F.eval x = u) (hr : ∀ w, (Instr.fieldAt ty u k).run P w = .ok r w)
    (h : Q .normal (F.put o.dst r) w) : wpList P ops Q [o] F w := by
  refine wpList_plain hgd fun K hK => ?_
  unfold Oper.wp execOp
  simp [ho, hx, hr, Oper.upon]
  exact hK _ _ h
theorem rg_index (ty : TypeId) (x y : Operand) (hgd : o.guard = none) (ho : o.op = .index ty x y) (u v r : Value) (hx : F.eval x = u) (hy : F.eval y = v) (hi : ∀ w : World, (Instr.index ty u v).run P w = .ok r w)
    (h : Q .normal (F.put o.dst r) w) : wpList P ops Q [o] F w := by
  refine wpList_plain hgd fun K hK => ?_
  unfold Oper.wp execOp
  simp [ho, hx, hy, hi, Oper.upon]
  exact hK _ _ h
theorem rg_convert (src dst : TypeId) (x : Operand) (hgd : o.guard = none) (ho : o.op = .convert src dst x) (u r : Value) (hx : F.eval x = u) (hi : ∀ w : World, (Go.convert src dst u).run P w = .ok r w)
    (h : Q .normal (F.put o.dst r) w) : wpList P ops Q [o] F w := by
  refine wpList_plain hgd fun K hK => ?_
  unfold Oper.wp execOp
  simp [ho, hx, hi, Oper.upon]
  exact hK _ _ h
theorem rg_slice1 (t e : TypeId) (x0 : Operand) (hgd : o.guard = none) (ho : o.op = .buildSlice t 1 #[(0, x0)]) (a : Int) (h0 : F.eval x0 = .int .i64 a)
    (hu : P.underlying t = some (.slice e)) (hi : (P.info? e).map (fun i => (i.zero, i.size)) = some (some (.int .i64 0), 1)) (h : Q .normal (F.put o.dst (.slice (some ⟨w.heap.size, 0, none⟩) 1 1)) (w.alloc (.cells #[.int .i64 a] e (0, 0)))) : wpList P ops Q [o] F w := by
  obtain ⟨i, hi2, hzz⟩ := Option.map_eq_some_iff.1 hi
  simp only [Prod.mk.injEq] at hzz
  refine wpList_plain hgd fun K hK => ?_
  refine wp_buildSlice t e 1 _ ho #[.int .i64 a] i (.int .i64 0) hu hi2 hzz.1 (by rw [hzz.2]; decide) (by rw [hzz.2]; decide) ?_ (hK _ _ h)
  rw [hzz.2]
  simp only [List.map_toArray, List.map_cons, List.map_nil, h0]
  have hr : Array.range 1 = #[0] := by decide
  simp [Instr.fill, Value.cells, hr]
theorem rg_slice2 (t e : TypeId) (x0 x1 : Operand) (hgd : o.guard = none) (ho : o.op = .buildSlice t 2 #[(0, x0), (1, x1)]) (a b : Int) (h0 : F.eval x0 = .int .i64 a) (h1 : F.eval x1 = .int .i64 b)
    (hu : P.underlying t = some (.slice e)) (hi : (P.info? e).map (fun i => (i.zero, i.size)) = some (some (.int .i64 0), 1)) (h : Q .normal (F.put o.dst (.slice (some ⟨w.heap.size, 0, none⟩) 2 2)) (w.alloc (.cells #[.int .i64 a, .int .i64 b] e (0, 0)))) : wpList P ops Q [o] F w := by
  obtain ⟨i, hi2, hzz⟩ := Option.map_eq_some_iff.1 hi
  simp only [Prod.mk.injEq] at hzz
  refine wpList_plain hgd fun K hK => ?_
  refine wp_buildSlice t e 2 _ ho #[.int .i64 a, .int .i64 b] i (.int .i64 0) hu hi2 hzz.1 (by rw [hzz.2]; decide) (by rw [hzz.2]; decide) ?_ (hK _ _ h)
  rw [hzz.2]
  simp only [List.map_toArray, List.map_cons, List.map_nil, h0, h1]
  have hr : Array.range 2 = #[0, 1] := by decide
  simp [Instr.fill, Value.cells, hr]
/-- the address of an element: elements of k cells -/
theorem rg_idx {t e : TypeId} {k : Nat} (hu : P.underlying t = some (.slice e)) (hs : (P.info? e).map (·.size) = some k) (b q n c j : Nat) (hj : j < n) (w : World) :
    (Instr.indexAt t (.slice (some ⟨b, q, none⟩) n c) (.int .i64 j)).run P w = .ok (.pointer (some ⟨b, q + j * k, none⟩)) w := by
  have i1 : (0 : Int) ≤ (j : Int) := by omega
  have i2 : (j : Int) < (n : Int) := by omega
  cases hq : P.info? e with
  | none => simp [hq] at hs
  | some i =>
    have hsz : i.size = k := by simpa [hq] using hs
    have ha : Sem.run P (asIntOf (.int .i64 (j : Int))) w = .ok (.i64, (j : Int)) w := rfl
    simp [Instr.indexAt, run_underlying hu, sizeOf, typeInfo, hq, hsz, Sem.run_bind, ha, hj, Addr.add]
end
end Go.Proofs.YtfckbkhnelgjbaaDoor
end
/- Components, kinds, items among others: their cells. -/
section
namespace Go.Proofs.YtfckbkhnelgjbaaDoor
open Go.RowKit Go.ChangeShapes Go.WideShapes Go.Mem
set_option linter.unusedVariables false
theorem comp_cells {w : World} {x : Addr} {l : List CompV} (h : SlAt 2 CompAt w (some x) l) (i : Nat) (hi : i < l.length) : ∃ xb xo, x = ⟨xb, xo, none⟩ ∧ ∃ a c, CellsK w xb (xo + i * 2) [.int .i64 l[i].kind, .slice a l[i].vals.length c] ∧ IntsAt .i64 w a l[i].vals := by
  obtain ⟨y, hy, hb, hc⟩ := h (by omega)
  injection hy with hy
  subst hy
  obtain ⟨xb, xo, sp⟩ := x
  have hsp : sp = none := by
    obtain ⟨f0, _⟩ := hc 0 (by omega)
    simpa [Addr.add] using World.cell?_spot f0
  obtain ⟨e0, a, c, e1, h2⟩ := hc i hi
  subst hsp
  rw [Addr.add_lit] at e0 e1
  refine ⟨xb, xo, rfl, a, c, fun j v hv => ?_, h2⟩
  match j with
  | 0 => cases hv; exact e0
  | 1 => cases hv; exact e1
  | j + 2 => simp at hv
theorem kind_cells {w : World} {x : Addr} {l : List KindV} (h : SlAt 2 KindAt w (some x) l) (i : Nat) (hi : i < l.length) : ∃ xb xo, x = ⟨xb, xo, none⟩ ∧ ∃ a c, CellsK w xb (xo + i * 2) [.string l[i].name, .slice a l[i].fields.length c] ∧ l[i].name.size ≤ 9223372036854775807 ∧ l[i].fields.length ≤ c ∧ c ≤ 9223372036854775807 ∧ SlAt 3 FieldAt w a l[i].fields := by
  obtain ⟨y, hy, hb, hc⟩ := h (by omega)
  injection hy with hy
  subst hy
  obtain ⟨xb, xo, sp⟩ := x
  have hsp : sp = none := by
    obtain ⟨f0, _⟩ := hc 0 (by omega)
    simpa [Addr.add] using World.cell?_spot f0
  obtain ⟨e0, hs, a, c, e1, h2, h3, h4⟩ := hc i hi
  subst hsp
  rw [Addr.add_lit] at e0 e1
  refine ⟨xb, xo, rfl, a, c, fun j v hv => ?_, hs, h2, h3, h4⟩
  match j with
  | 0 => cases hv; exact e0
  | 1 => cases hv; exact e1
  | j + 2 => simp at hv
theorem item_cells {w : World} {x : Addr} {l : List ItemV} (h : SlAt 3 ItemAt w (some x) l) (i : Nat) (hi : i < l.length) : ∃ xb xo, x = ⟨xb, xo, none⟩ ∧ ∃ a c, CellsK w xb (xo + i * 3) [.int .i64 l[i].n, .int .i64 l[i].gen, .slice a l[i].comps.length c] ∧ SlAt 2 CompAt w a l[i].comps := by
  obtain ⟨y, hy, hb, hc⟩ := h (by omega)
  injection hy with hy
  subst hy
  obtain ⟨xb, xo, sp⟩ := x
  have hsp : sp = none := by
    obtain ⟨f0, _⟩ := hc 0 (by omega)
    simpa [Addr.add] using World.cell?_spot f0
  obtain ⟨e0, e1, a, c, e2, h2⟩ := hc i hi
  subst hsp
  rw [Addr.add_lit] at e0 e1 e2
  refine ⟨xb, xo, rfl, a, c, fun j v hv => ?_, h2⟩
  match j with
  | 0 => cases hv; exact e0
  | 1 => cases hv; exact e1
  | 2 => cases hv; exact e2
  | j + 3 => simp at hv
theorem fld_cells {w : World} {x : Addr} {l : List FieldV} (h : SlAt 3 FieldAt w (some x) l) (i : Nat) (hi : i < l.length) : ∃ xb xo, x = ⟨xb, xo, none⟩ ∧ CellsK w xb (xo + i * 3) [.string l[i].name, .int .i64 l[i].bits, .int .i64 l[i].low] := by
  obtain ⟨y, hy, hb, hc⟩ := h (by omega)
  injection hy with hy
  subst hy
  obtain ⟨xb, xo, sp⟩ := x
  have hsp : sp = none := by
    obtain ⟨f0, _⟩ := hc 0 (by omega)
    simpa [Addr.add] using World.cell?_spot f0
  obtain ⟨e0, e1, e2, _⟩ := hc i hi
  subst hsp
  rw [Addr.add_lit] at e0 e1 e2
  refine ⟨xb, xo, rfl, fun j v hv => ?_⟩
  match j with
  | 0 => cases hv; exact e0
  | 1 => cases hv; exact e1
  | 2 => cases hv; exact e2
  | j + 3 => simp at hv
theorem ints_cell {k : IntKind} {w : World} {x : Addr} {l : List Int} (h : IntsAt k w (some x) l) (i : Nat) (hi : i < l.length) : ∃ xb xo, x = ⟨xb, xo, none⟩ ∧ w.cell? ⟨xb, xo + i * 1, none⟩ = some (.int k (l.getD i 0)) := by
  obtain ⟨y, hy, hb, hc⟩ := h (by omega)
  injection hy with hy
  subst hy
  obtain ⟨xb, xo, sp⟩ := x
  have hsp : sp = none := by
    have f0 := hc 0 (by omega)
    simpa [Addr.add] using World.cell?_spot f0
  have e0 := hc i hi
  subst hsp
  rw [Addr.add_lit] at e0
  exact ⟨xb, xo, rfl, by rw [Nat.mul_one]; exact e0⟩
theorem CellsK.at {w : World} {b q : Nat} {vs : List Value} (h : CellsK w b q vs) (j : Nat) (hj : j < vs.length) : w.cell? ⟨b, q + j, none⟩ = some vs[j] := h j _ (List.getElem?_eq_getElem hj)
theorem new_row (w : World) (cs : Array Value) (t : TypeId) : CellsK (w.alloc (.cells cs t (0, 0))) w.heap.size 0 cs.toList := CellsK.row (heap_alloc_new w _)
end Go.Proofs.YtfckbkhnelgjbaaDoor
end
/- Rows of the call's own: kept, apart from each other; an append of a slice of integers. No program is named here. -/
section
namespace Go
open Go.RowKit
namespace Mem

/-! More on rows of the call's own. -/
theorem own_keep {w w2 : World} {base e size n : Nat} {v : Value} {xs : List Value} (h : w.ownsRow base e size v n xs) (hk : ∀ g, v.ownBlock = some g → w2.heap[g]? = w.heap[g]?) : w2.ownsRow base e size v n xs := by
  refine ⟨h.1, ?_⟩
  rcases h.2 with h2 | ⟨g, cap, cur, h1, h2, h3, h4⟩
  · exact .inl h2
  · exact .inr ⟨g, cap, cur, h1, h2, (hk g (by rw [h1]; rfl)).trans h3, h4⟩
theorem own_lt {w : World} {base e size n : Nat} {v : Value} {xs : List Value} (h : w.ownsRow base e size v n xs) (g : Nat) (hg : v.ownBlock = some g) : base ≤ g ∧ g < w.heap.size := by
  rcases h.2 with ⟨h2, _⟩ | ⟨g', cap, cur, h1, h2, h3, h4⟩
  · rw [h2] at hg; cases hg
  · rw [h1] at hg
    obtain rfl : g' = g := by simpa [Value.ownBlock] using hg
    exact ⟨h2, lt_of_heap h3⟩
theorem own_below {w w2 : World} {base e size n : Nat} {v : Value} {xs : List Value} (h : w.ownsRow base e size v n xs) (hb : Below w.heap.size w w2) : w2.ownsRow base e size v n xs :=
  own_keep h fun g hg => hb.block g (own_lt h g hg).2
theorem own_grown {w w2 : World} {base e size n : Nat} {v : Value} {xs : List Value} {row : Option Nat} (h : w.ownsRow base e size v n xs) (hg : w.grownBy w2 row) (hne : ∀ g, v.ownBlock = some g → some g ≠ row) : w2.ownsRow base e size v n xs :=
  own_keep h fun g hv => hg.block g (own_lt h g hv).2 (hne g hv)
/-- Rows of different element types lie in different blocks. -/
theorem own_other {w : World} {base base2 e e2 size size2 n n2 : Nat} {v v2 : Value} {xs ys : List Value} (h : w.ownsRow base e size v n xs) (h2 : w.ownsRow base2 e2 size2 v2 n2 ys) (hne : e ≠ e2) (g : Nat) (hg : v.ownBlock = some g) : some g ≠ v2.ownBlock := by
  intro he
  rcases h.2 with ⟨h3, _⟩ | ⟨g', cap, cur, h3, _, h4, _⟩
  · rw [h3] at hg; cases hg
  · rw [h3] at hg
    obtain rfl : g' = g := by simpa [Value.ownBlock] using hg
    rcases h2.2 with ⟨h5, _⟩ | ⟨g'', cap2, cur2, h5, _, h6, _⟩
    · rw [h5] at he; cases he
    · rw [h5] at he
      obtain rfl : g' = g'' := by simpa [Value.ownBlock] using he
      rw [h4] at h6
      injection h6 with h6
      injection h6 with _ ht
      exact hne ht
theorem own_base {w : World} {base base2 e size n : Nat} {v : Value} {xs : List Value} (h : w.ownsRow base e size v n xs) (hb : ∀ g, v.ownBlock = some g → base2 ≤ g) : w.ownsRow base2 e size v n xs := by
  refine ⟨h.1, ?_⟩
  rcases h.2 with h2 | ⟨g, cap, cur, h1, h2, h3⟩
  · exact .inl h2
  · exact .inr ⟨g, cap, cur, h1, hb g (by rw [h1]; rfl), h3⟩
theorem own_lower {w : World} {base base2 e size n : Nat} {v : Value} {xs : List Value} (h : w.ownsRow base e size v n xs) (hb : base2 ≤ base) : w.ownsRow base2 e size v n xs := own_base h fun g hg => Nat.le_trans hb (own_lt h g hg).1
/-- 'append(v, s...)' of a slice of integers, whatever it is, v nil or the call's own. -/
theorem wpList_append_ints {P : Program} {w : World} {ops : Array Oper} {rest : List Oper} {o : Oper} {a : Act} {Q : Exit → Act → World → Prop} (hgd : o.guard = none) (s x : Operand) (t : TypeId)
    (ho : o.op = .call { callee := .builtin .append, args := #[s, x], argTypes := #[t, t] })
    (base : Nat) (e : TypeId) (k : IntKind) (bytes : Nat) (ht : P.underlying t = some (.slice e)) (hi : (P.info? e).map (fun i => (i.zero, i.size, i.bytes)) = some (some (.int k 0), 1, bytes))
    (v : Value) (n : Nat) (xs : List Int) (hs : a.eval s = v) (hown : w.ownsRow base e 1 v n (vints k xs))
    (A : Option Addr) (m c : Nat) (zs : List Int) (hx : a.eval x = .slice A m c) (hm : zs.length = m) (hr : IntsAt k w A zs)
    (hn : n + m ≤ maxLen) (hbytes : (n + m) * bytes ≤ 140737488355328) (hbase : base ≤ w.heap.size)
    (h : ∀ v' w', w'.ownsRow base e 1 v' (n + m) (vints k (xs ++ zs)) → w.grownBy w' v.ownBlock → (v'.ownBlock = v.ownBlock ∨ v'.ownBlock = some w.heap.size) → wpList P ops Q rest (a.put o.dst v') w') :
    wpList P ops Q (o :: rest) a w := by
  obtain ⟨i, hi1, hi2, hi3, hi4⟩ := info_parts hi
  have key : ∃ v' w', (Builtin.append_ #[t, t] o.type #[v, .slice A m c]).run P w = .ok v' w' ∧ w'.ownsRow base e 1 v' (n + m) (vints k (xs ++ zs)) ∧ w.grownBy w' v.ownBlock ∧ (v'.ownBlock = v.ownBlock ∨ v'.ownBlock = some w.heap.size) := by
    by_cases h0 : m = 0
    · subst h0
      have hz : zs = [] := List.eq_nil_of_length_eq_zero hm
      subst hz
      rcases A with _ | ad
      · refine ⟨v, w, ?_, by simpa using hown, World.grownBy.refl w _, .inl rfl⟩
        rcases hown.2 with ⟨rfl, rfl⟩ | ⟨g, cap, cur, rfl, _, _, hnc, _⟩
        · simp [Builtin.append_, run_underlying ht, sizeOf, typeInfo, hi1, Builtin.lenOf, Builtin.firstCells]
        · simp [Builtin.append_, run_underlying ht, sizeOf, typeInfo, hi1, Builtin.lenOf, Builtin.firstCells, hnc, storeCells]
      · obtain ⟨v', w', hrun, h2, h3, _, h5⟩ := run_append_own_at (P := P) w base t o.type e i (.int k 0) 1 bytes ht hi1 hi2 hi3 hi4 rfl (by omega) v n _ hown ad 0 c [] rfl (by simp) (by simp) hn hbytes hbase
        exact ⟨v', w', hrun, by simpa using h2, h3, h5⟩
    · obtain ⟨ad, rfl, _, hc⟩ := hr (by omega)
      have hnews : ∀ j u, (vints k zs)[j]? = some u → w.cell? (ad.add j) = some u := by
        intro j u hu
        have hj : j < zs.length := by
          have := (List.getElem?_eq_some_iff.1 hu).1
          rwa [vints_length] at this
        rw [hc j hj]
        rw [vints_get k zs j hj] at hu
        exact hu
      obtain ⟨v', w', hrun, h2, h3, _, h5⟩ := run_append_own_at (P := P) w base t o.type e i (.int k 0) 1 bytes ht hi1 hi2 hi3 hi4 rfl (by omega) v n _ hown ad m c (vints k zs) (by rw [vints_length, hm, Nat.mul_one]) hnews (vints_one k zs) hn hbytes hbase
      rw [vints_append] at h2
      exact ⟨v', w', hrun, h2, h3, h5⟩
  obtain ⟨v', w', hrun, h2, h3, h4⟩ := key
  refine wpList_plain hgd fun K hK => ?_
  unfold Oper.wp execOp
  simp only [ho, resolve, invoke, builtin, Sem.run_bind, Sem.run_pure, Result.andThen_ok, List.map_toArray, List.map_cons, List.map_nil, hs, hx, hrun]
  exact hK _ _ (h v' w' h2 h3 h4)
end Mem
end Go
end
