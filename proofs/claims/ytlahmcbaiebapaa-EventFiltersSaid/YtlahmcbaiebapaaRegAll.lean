/- Drawn regions by facts: the laws of single operations, all sizes. No function of the program is named here. -/
import Derived.Test.YtlahmcbaiebapaaRegGuard
import Derived.Test.YtlahmcbaiebapaaRegTail
import Derived.Test.YtlahmcbaiebapaaRegMore
namespace Go.Proofs.Ytlahmcbaiebapaa
open Go.ChangeShapes Go.WideShapes Go.ChangeAt Go.RowKit Go.Mem
set_option linter.unusedVariables false
section
variable {P : Program} {ops : Array Oper} {o : Oper} {F : Act} {w : World} {Q : Exit → Act → World → Prop}
/-- the cells from a place on -/
def CellsK (w : World) (b q : Nat) (vs : List Value) : Prop := ∀ j v, vs[j]? = some v → w.cell? ⟨b, q + j, none⟩ = some v
theorem CellsK.below {w w' : World} {b q : Nat} {vs : List Value} (h : CellsK w b q vs) (hb : Below w.heap.size w w') : CellsK w' b q vs := fun j v hv => (hb.cell (World.block_lt_of_cell? _ _ (h j v hv))).trans (h j v hv)
theorem CellsK.row {w : World} {g : Nat} {cs : Array Value} {t : TypeId} {fr : Nat × Nat} (h : w.heap[g]? = some (.cells cs t fr)) : CellsK w g 0 cs.toList := fun j v hv => by
  simp only [World.cell?, h]
  simpa using hv
theorem CellsK.one {w : World} {b q : Nat} {v : Value} (h : w.cell? ⟨b, q, none⟩ = some v) : CellsK w b q [v] := fun j u hu => by
  match j with
  | 0 => simpa using (by simpa using hu : v = u) ▸ h
  | j + 1 => simp at hu
theorem rg_load (ty : TypeId) (x : Operand) (hgd : o.guard = none) (ho : o.op = .load ty x) (b q : Nat) (vs : List Value) (hx : F.eval x = .pointer (some ⟨b, q, none⟩)) (hc : CellsK w b q vs)
    (d : TypeDesc) (hu : P.underlying ty = some d) (hd : (match d with | .struct _ | .array _ _ => true | _ => false) = true) (hs : (P.info? ty).map (·.size) = some vs.length) (h : Q .normal (F.put o.dst (.agg vs.toArray)) w) : wpList P ops Q [o] F w := by
  have hl : (loadCells ⟨b, q, none⟩ vs.length).run P w = .ok vs.toArray w :=
    run_loadCells_list (P := P) w ⟨b, q, none⟩ vs (fun j v hv => by
      rw [Addr.add_lit]
      exact hc j v hv)
  cases hq : P.info? ty with
  | none => simp [hq] at hs
  | some i =>
    have hsz : i.size = vs.length := by simpa [hq] using hs
    have hagg : (isAgg ty).run P w = .ok true w := by
      unfold isAgg
      rw [Sem.run_bind, run_underlying hu w]
      cases d <;> simp_all
    refine wpList_plain hgd fun K hK => ?_
    unfold Oper.wp execOp
    simp [ho, hx, Instr.loadAt, Instr.sureAddr, loadVar, Sem.run_bind, hagg, sizeOf, typeInfo, hq, hsz, hl, Oper.upon]
    exact hK _ _ h
theorem rg_offu {g : Nat} {t : Tmp} {c : Bool} (hg : o.guard = some (g, c)) (ht : (ops[g]?).bind (·.dst) = some t) (he : F.eval (.tmp t) = undef)
    (h : Q .normal (F.put o.dst undef) w) : wpList P ops Q [o] F w := by
  have hy : yielded ops F.tmps g = none := by
    unfold yielded
    rw [ht]
    have he' : F.tmps.getD t undef = undef := he
    rw [Array.getD_eq_getD_getElem?] at he'
    cases h : F.tmps[t]? with
    | none => simp [h]
    | some v => rw [h] at he'; have : v = undef := he'; subst this; simp [h, undef]
  unfold wpList
  rw [if_neg (by simp [Region.wanted, hg, hy])]
  exact h
theorem rg_len (x : Operand) (t e : TypeId) (hgd : o.guard = none) (ho : o.op = .call { callee := .builtin .len, args := #[x], argTypes := #[t] }) (hu : P.underlying t = some (.slice e)) (a : Option Addr) (n c : Nat) (hx : F.eval x = .slice a n c)
    (h : Q .normal (F.put o.dst (.int .i64 n)) w) : wpList P ops Q [o] F w := by
  refine wpList_plain hgd fun K hK => ?_
  unfold Oper.wp execOp
  simp [ho, hx, resolve, invoke, builtin, Builtin.len_, run_underlying hu, Oper.upon]
  exact hK _ _ h
theorem rg_lens (x : Operand) (t : TypeId) (hgd : o.guard = none) (ho : o.op = .call { callee := .builtin .len, args := #[x], argTypes := #[t] }) (hu : P.underlying t = some .string) (s : ByteArray) (hx : F.eval x = .string s)
    (h : Q .normal (F.put o.dst (.int .i64 s.size)) w) : wpList P ops Q [o] F w := by
  refine wpList_plain hgd fun K hK => ?_
  unfold Oper.wp execOp
  simp [ho, hx, resolve, invoke, builtin, Builtin.len_, run_underlying hu, Oper.upon]
  exact hK _ _ h
theorem rg_lss (ty : TypeId) (x y : Operand) (yt : TypeId) (hgd : o.guard = none) (ho : o.op = .binOp .lss ty x y yt) (k : IntKind) (a b : Int) (c : Bool) (hx : F.eval x = .int k a) (hy : F.eval y = .int k b) (hc : decide (a < b) = c)
    (h : Q .normal (F.put o.dst (.bool c)) w) : wpList P ops Q [o] F w := by
  subst hc
  exact one_binop .lss ty x y yt hgd ho _ _ hx hy _ (by simp [eqGuard]) (by simp [binOp, Op.intCmp]) h
theorem rg_leq (ty : TypeId) (x y : Operand) (yt : TypeId) (hgd : o.guard = none) (ho : o.op = .binOp .leq ty x y yt) (k : IntKind) (a b : Int) (c : Bool) (hx : F.eval x = .int k a) (hy : F.eval y = .int k b) (hc : decide (a ≤ b) = c)
    (h : Q .normal (F.put o.dst (.bool c)) w) : wpList P ops Q [o] F w := by
  subst hc
  exact one_binop .leq ty x y yt hgd ho _ _ hx hy _ (by simp [eqGuard]) (by simp [binOp, Op.intCmp]) h
theorem rg_gtr (ty : TypeId) (x y : Operand) (yt : TypeId) (hgd : o.guard = none) (ho : o.op = .binOp .gtr ty x y yt) (k : IntKind) (a b : Int) (c : Bool) (hx : F.eval x = .int k a) (hy : F.eval y = .int k b) (hc : decide (b < a) = c)
    (h : Q .normal (F.put o.dst (.bool c)) w) : wpList P ops Q [o] F w := by
  subst hc
  exact one_binop .gtr ty x y yt hgd ho _ _ hx hy _ (by simp [eqGuard]) (by simp [binOp, Op.intCmp]) h
theorem rg_geq (ty : TypeId) (x y : Operand) (yt : TypeId) (hgd : o.guard = none) (ho : o.op = .binOp .geq ty x y yt) (k : IntKind) (a b : Int) (c : Bool) (hx : F.eval x = .int k a) (hy : F.eval y = .int k b) (hc : decide (b ≤ a) = c)
    (h : Q .normal (F.put o.dst (.bool c)) w) : wpList P ops Q [o] F w := by
  subst hc
  exact one_binop .geq ty x y yt hgd ho _ _ hx hy _ (by simp [eqGuard]) (by simp [binOp, Op.intCmp]) h
theorem rg_eql (ty : TypeId) (x y : Operand) (yt : TypeId) (hgd : o.guard = none) (ho : o.op = .binOp .eql ty x y yt) (k : IntKind) (a b : Int) (c : Bool) (hx : F.eval x = .int k a) (hy : F.eval y = .int k b) (hc : decide (a = b) = c)
    (h : Q .normal (F.put o.dst (.bool c)) w) : wpList P ops Q [o] F w :=
  one_int_eq ty x y yt hgd ho k a b c hx hy (by rw [← hc]; rfl) h
theorem rg_neq (ty : TypeId) (x y : Operand) (yt : TypeId) (hgd : o.guard = none) (ho : o.op = .binOp .neq ty x y yt) (k : IntKind) (a b : Int) (c : Bool) (hx : F.eval x = .int k a) (hy : F.eval y = .int k b) (hc : decide (a ≠ b) = c)
    (h : Q .normal (F.put o.dst (.bool c)) w) : wpList P ops Q [o] F w :=
  one_int_ne ty x y yt hgd ho k a b c hx hy (by rw [← hc]; by_cases e : a = b <;> simp [e]) h
theorem rg_add (ty : TypeId) (x y : Operand) (yt : TypeId) (hgd : o.guard = none) (ho : o.op = .binOp .add ty x y yt) (a b c : Int) (hx : F.eval x = .int .i64 a) (hy : F.eval y = .int .i64 b) (hc : IntKind.i64.wrap (a + b) = c)
    (h : Q .normal (F.put o.dst (.int .i64 c)) w) : wpList P ops Q [o] F w := by
  subst hc
  exact one_binop .add ty x y yt hgd ho _ _ hx hy _ (by simp [eqGuard]) (by go_simp) h
theorem rg_sub (ty : TypeId) (x y : Operand) (yt : TypeId) (hgd : o.guard = none) (ho : o.op = .binOp .sub ty x y yt) (a b c : Int) (hx : F.eval x = .int .i64 a) (hy : F.eval y = .int .i64 b) (hc : IntKind.i64.wrap (a - b) = c)
    (h : Q .normal (F.put o.dst (.int .i64 c)) w) : wpList P ops Q [o] F w := by
  subst hc
  exact one_binop .sub ty x y yt hgd ho _ _ hx hy _ (by simp [eqGuard]) (by go_simp) h
theorem rg_extract (x : Operand) (k : Nat) (hgd : o.guard = none) (ho : o.op = .extract x k) (u r : Value) (hx : F.eval x = u) (hr : ∀ w, (Instr.extract u k).run P w = .ok r w)
    (h : Q .normal (F.put o.dst r) w) : wpList P ops Q [o] F w := by
  refine wpList_plain hgd fun K hK => ?_
  unfold Oper.wp execOp
  simp [ho, hx, hr, Oper.upon]
  exact hK _ _ h
theorem rg_fieldv (ty : TypeId) (x : Operand) (k : Nat) (hgd : o.guard = none) (ho : o.op = .fieldAddr ty x k) (u r : Value) (hx : F.eval x = u) (hr : ∀ w, (Instr.fieldAt ty u k).run P w = .ok r w)
    (h : Q .normal (F.put o.dst r) w) : wpList P ops Q [o] F w := by
  refine wpList_plain hgd fun K hK => ?_
  unfold Oper.wp execOp
  simp [ho, hx, hr, Oper.upon]
  exact hK _ _ h
theorem rg_index (ty : TypeId) (x y : Operand) (hgd : o.guard = none) (ho : o.op = .index ty x y) (u v r : Value) (hx : F.eval x = u) (hy : F.eval y = v) (hi : ∀ w : World, (Instr.index ty u v).run P w = .ok r w)
    (h : Q .normal (F.put o.dst r) w) : wpList P ops Q [o] F w := by
  refine wpList_plain hgd fun K hK => ?_
  unfold Oper.wp execOp
  simp [ho, hx, hy, hi, Oper.upon]
  exact hK _ _ h
theorem rg_convert (src dst : TypeId) (x : Operand) (hgd : o.guard = none) (ho : o.op = .convert src dst x) (u r : Value) (hx : F.eval x = u) (hi : ∀ w : World, (Go.convert src dst u).run P w = .ok r w)
    (h : Q .normal (F.put o.dst r) w) : wpList P ops Q [o] F w := by
  refine wpList_plain hgd fun K hK => ?_
  unfold Oper.wp execOp
  simp [ho, hx, hi, Oper.upon]
  exact hK _ _ h
theorem rg_slice1 (t e : TypeId) (x0 : Operand) (hgd : o.guard = none) (ho : o.op = .buildSlice t 1 #[(0, x0)]) (a : Int) (h0 : F.eval x0 = .int .i64 a)
    (hu : P.underlying t = some (.slice e)) (hi : (P.info? e).map (fun i => (i.zero, i.size)) = some (some (.int .i64 0), 1)) (h : Q .normal (F.put o.dst (.slice (some ⟨w.heap.size, 0, none⟩) 1 1)) (w.alloc (.cells #[.int .i64 a] e (0, 0)))) : wpList P ops Q [o] F w := by
  obtain ⟨i, hi2, hzz⟩ := Option.map_eq_some_iff.1 hi
  simp only [Prod.mk.injEq] at hzz
  refine wpList_plain hgd fun K hK => ?_
  refine wp_buildSlice t e 1 _ ho #[.int .i64 a] i (.int .i64 0) hu hi2 hzz.1 (by rw [hzz.2]; decide) (by rw [hzz.2]; decide) ?_ (hK _ _ h)
  rw [hzz.2]
  simp only [List.map_toArray, List.map_cons, List.map_nil, h0]
  have hr : Array.range 1 = #[0] := by decide
  simp [Instr.fill, Value.cells, hr]
theorem rg_slice2 (t e : TypeId) (x0 x1 : Operand) (hgd : o.guard = none) (ho : o.op = .buildSlice t 2 #[(0, x0), (1, x1)]) (a b : Int) (h0 : F.eval x0 = .int .i64 a) (h1 : F.eval x1 = .int .i64 b)
    (hu : P.underlying t = some (.slice e)) (hi : (P.info? e).map (fun i => (i.zero, i.size)) = some (some (.int .i64 0), 1)) (h : Q .normal (F.put o.dst (.slice (some ⟨w.heap.size, 0, none⟩) 2 2)) (w.alloc (.cells #[.int .i64 a, .int .i64 b] e (0, 0)))) : wpList P ops Q [o] F w := by
  obtain ⟨i, hi2, hzz⟩ := Option.map_eq_some_iff.1 hi
  simp only [Prod.mk.injEq] at hzz
  refine wpList_plain hgd fun K hK => ?_
  refine wp_buildSlice t e 2 _ ho #[.int .i64 a, .int .i64 b] i (.int .i64 0) hu hi2 hzz.1 (by rw [hzz.2]; decide) (by rw [hzz.2]; decide) ?_ (hK _ _ h)
  rw [hzz.2]
  simp only [List.map_toArray, List.map_cons, List.map_nil, h0, h1]
  have hr : Array.range 2 = #[0, 1] := by decide
  simp [Instr.fill, Value.cells, hr]
/-- the address of an element: elements of k cells -/
theorem rg_idx {t e : TypeId} {k : Nat} (hu : P.underlying t = some (.slice e)) (hs : (P.info? e).map (·.size) = some k) (b q n c j : Nat) (hj : j < n) (w : World) :
    (Instr.indexAt t (.slice (some ⟨b, q, none⟩) n c) (.int .i64 j)).run P w = .ok (.pointer (some ⟨b, q + j * k, none⟩)) w := by
  have i1 : (0 : Int) ≤ (j : Int) := by omega
  have i2 : (j : Int) < (n : Int) := by omega
  cases hq : P.info? e with
  | none => simp [hq] at hs
  | some i =>
    have hsz : i.size = k := by simpa [hq] using hs
    have ha : Sem.run P (asIntOf (.int .i64 (j : Int))) w = .ok (.i64, (j : Int)) w := rfl
    simp [Instr.indexAt, run_underlying hu, sizeOf, typeInfo, hq, hsz, Sem.run_bind, ha, hj, Addr.add]
end
end Go.Proofs.Ytlahmcbaiebapaa
