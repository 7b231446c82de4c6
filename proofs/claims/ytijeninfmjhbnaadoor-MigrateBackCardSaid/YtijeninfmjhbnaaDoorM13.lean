/- Lemmas for the law MigrateBack: MigOneP, MigInv6. No conditions. -/
import Derived.Test.YtijeninfmjhbnaaDoorM09
import Derived.Test.YtijeninfmjhbnaaDoorM12
import Derived.Test.YtijeninfmjhbnaaDoorM10
/- What the walk of migrate.one leans on. -/
section
namespace Go.Proofs.YtijeninfmjhbnaaDoor
open Go.ChangeShapes Go.WideShapes Go.ChangeAt Go.RowKit Go.Nm Go.Mem
set_option linter.unusedVariables false
/-- what operation i does: the append (q) writes its row, the others only lay blocks -/
def RG (q : Nat) (row : Option Nat) (i : Nat) (a b : World) : Prop := (i ≠ q → Below a.heap.size a b) ∧ (i = q → a.grownBy b row)
theorem RG.same (q : Nat) (row : Option Nat) (i : Nat) (w : World) : RG q row i w w := ⟨fun _ => Below.refl _ _, fun _ => World.grownBy.refl _ _⟩
theorem RG.below {q : Nat} {row : Option Nat} {i : Nat} {a b : World} (hi : i ≠ q) (hb : Below a.heap.size a b) : RG q row i a b := ⟨fun _ => hb, fun h => absurd h hi⟩
theorem RG.at_ {q : Nat} {row : Option Nat} {i : Nat} {a b : World} (hi : i = q) (hg : a.grownBy b row) : RG q row i a b := ⟨fun h => absurd hi h, fun _ => hg⟩
theorem RG.gb {q : Nat} {row : Option Nat} {i : Nat} {a b : World} (h : RG q row i a b) : a.grownBy b row := by
  by_cases hi : i = q
  · exact h.2 hi
  · have hb := h.1 hi
    exact ⟨hb.os, hb.tape, hb.output, hb.size, fun k hk _ => hb.block k hk⟩
theorem RG.sub {q : Nat} {row : Option Nat} : ∀ i a b, RG q row i a b → a.grownBy b row := fun _ _ _ h => h.gb
theorem gb_drew (row : Option Nat) (w : World) : w.grownBy w.drew row := ⟨rfl, rfl, rfl, Nat.le_refl _, fun k _ _ => rfl⟩
theorem cells_gbo {w w' : World} {g : Nat} {zs : List Value} {row : Option Nat} (h : CellsAt w (some ⟨g, 0, none⟩) zs) (hg : w.grownBy w' row) (hne : some g ≠ row) : CellsAt w' (some ⟨g, 0, none⟩) zs := fun h0 => by
  obtain ⟨x, e, hx, hc⟩ := h h0
  injection e with e
  subst e
  exact ⟨_, rfl, Nat.lt_of_lt_of_le hx hg.size, fun j u hu => World.grownBy.cell hg (hc j u hu) (by rw [block_of_add]; exact hne)⟩
theorem cellsK_gb {w w' : World} {b q : Nat} {vs : List Value} {row : Option Nat} (h : CellsK w b q vs) (hg : w.grownBy w' row) (hne : some b ≠ row) : CellsK w' b q vs := fun j u hu => World.grownBy.cell hg (h j u hu) hne
section
variable {P : Program} {ops : Array Oper} {o : Oper} {F : Act} {w : World} {Q : Exit → Act → World → Prop}
theorem rg_slice_fld (t e : TypeId) (x0 : Operand) (hgd : o.guard = none) (ho : o.op = .buildSlice t 1 #[(0, x0)]) (s : ByteArray) (b l : Int) (h0 : F.eval x0 = .agg #[.string s, .int .i64 b, .int .i64 l])
    (hu : P.underlying t = some (.slice e)) (hi : (P.info? e).map (fun i => (i.zero, i.size)) = some (some (.agg #[.string ByteArray.empty, .int .i64 0, .int .i64 0]), 3)) (h : Q .normal (F.put o.dst (.slice (some ⟨w.heap.size, 0, none⟩) 1 1)) (w.alloc (.cells #[.string s, .int .i64 b, .int .i64 l] e (0, 0)))) : wpList P ops Q [o] F w := by
  obtain ⟨i, hi2, hzz⟩ := Option.map_eq_some_iff.1 hi
  simp only [Prod.mk.injEq] at hzz
  refine wpList_plain hgd fun K hK => ?_
  refine wp_buildSlice t e 1 _ ho #[.string s, .int .i64 b, .int .i64 l] i (.agg #[.string ByteArray.empty, .int .i64 0, .int .i64 0]) hu hi2 hzz.1 (by rw [hzz.2]; decide) (by rw [hzz.2]; decide) ?_ (hK _ _ h)
  rw [hzz.2]
  simp only [List.map_toArray, List.map_cons, List.map_nil, h0]
  have hr : Array.range 3 = #[0, 1, 2] := by decide
  simp [Instr.fill, Value.cells, hr]
end
theorem new_cells (w : World) (cs : Array Value) (t : TypeId) : CellsAt (w.alloc (.cells cs t (0, 0))) (some ⟨w.heap.size, 0, none⟩) cs.toList := fun _ => ⟨_, rfl, by simp, fun j u hu => by
  have := new_row w cs t j u hu
  rw [add_zero_block]
  simpa using this⟩
theorem fvals_push (l : List FieldV) (f : FieldV) : fvals (l ++ [f]) = fvals l ++ [.string f.name, .int .i64 f.bits, .int .i64 f.low] := by
  apply List.ext_getElem?
  intro j
  have hn := fvals_len l
  have key : ∀ u, (fvals (l ++ [f]))[j]? = some u ↔ (fvals l ++ [.string f.name, .int .i64 f.bits, .int .i64 f.low])[j]? = some u := by
    intro u
    rw [fvals_get, List.length_append, List.length_singleton]
    by_cases hj : j < l.length * 3
    · rw [List.getElem?_append_left (by omega), fvals_get]
      have e : fval (l ++ [f]) j = fval l j := by
        unfold fval
        rw [List.getD_eq_getElem?_getD, List.getD_eq_getElem?_getD, List.getElem?_append_left (by omega)]
      rw [e]
      constructor
      · rintro ⟨_, h⟩; exact ⟨hj, h⟩
      · rintro ⟨_, h⟩; exact ⟨by omega, h⟩
    · rw [List.getElem?_append_right (by omega), hn]
      by_cases hj2 : j < (l.length + 1) * 3
      · have hd : (l ++ [f]).getD l.length default = f := by rw [List.getD_eq_getElem?_getD, List.getElem?_append_right (Nat.le_refl _), Nat.sub_self]; rfl
        rcases (show j = l.length * 3 ∨ j = l.length * 3 + 1 ∨ j = l.length * 3 + 2 by omega) with e | e | e
        · subst e
          rw [Nat.sub_self]
          have : fval (l ++ [f]) (l.length * 3) = .string f.name := by unfold fval; rw [if_pos (by omega), show l.length * 3 / 3 = l.length by omega, hd]
          rw [this]
          exact ⟨fun h => by rw [h.2]; rfl, fun h => ⟨hj2, by simpa using h.symm⟩⟩
        · subst e
          rw [show l.length * 3 + 1 - l.length * 3 = 1 by omega]
          have : fval (l ++ [f]) (l.length * 3 + 1) = .int .i64 f.bits := by unfold fval; rw [if_neg (by omega), if_pos (by omega), show (l.length * 3 + 1) / 3 = l.length by omega, hd]
          rw [this]
          exact ⟨fun h => by rw [h.2]; rfl, fun h => ⟨hj2, by simpa using h.symm⟩⟩
        · subst e
          rw [show l.length * 3 + 2 - l.length * 3 = 2 by omega]
          have : fval (l ++ [f]) (l.length * 3 + 2) = .int .i64 f.low := by unfold fval; rw [if_neg (by omega), if_neg (by omega), show (l.length * 3 + 2) / 3 = l.length by omega, hd]
          rw [this]
          exact ⟨fun h => by rw [h.2]; rfl, fun h => ⟨hj2, by simpa using h.symm⟩⟩
      · rw [List.getElem?_eq_none (by simp; omega)]
        exact ⟨fun h => absurd h.1 hj2, fun h => by cases h⟩
  cases h : (fvals (l ++ [f]))[j]? with
  | some u => exact ((key u).1 h).symm
  | none =>
    cases h2 : (fvals l ++ [.string f.name, .int .i64 f.bits, .int .i64 f.low])[j]? with
    | none => rfl
    | some u => rw [(key u).2 h2] at h; cases h
theorem fvals_append (l r : List FieldV) : fvals (l ++ r) = fvals l ++ fvals r := by
  induction r generalizing l with
  | nil => simp [fvals]
  | cons f r ih =>
    rw [show l ++ f :: r = (l ++ [f]) ++ r by simp, ih, fvals_push, show f :: r = [f] ++ r from rfl, ih [f], show ([f] : List FieldV) = [] ++ [f] from rfl, fvals_push []]
    simp [fvals]
theorem fvals_take (l : List FieldV) (j : Nat) (h : j ≤ l.length) : (fvals l).take (j * 3) = fvals (l.take j) := by
  conv => lhs; rw [← List.take_append_drop j l, fvals_append]
  rw [List.take_left' (by rw [fvals_len, List.length_take]; omega)]
theorem fvals_drop (l : List FieldV) (j : Nat) (h : j ≤ l.length) : (fvals l).drop (j * 3) = fvals (l.drop j) := by
  conv => lhs; rw [← List.take_append_drop j l, fvals_append]
  rw [List.drop_left' (by rw [fvals_len, List.length_take]; omega)]
theorem fvals_mod (fn : FieldV → FieldV) (l : List FieldV) (j : Nat) (h : j < l.length) : fvals (modAt fn l j) = (((fvals l).set (j * 3) (.string (fn l[j]).name)).set (j * 3 + 1) (.int .i64 (fn l[j]).bits)).set (j * 3 + 2) (.int .i64 (fn l[j]).low) := by
  apply List.ext_getElem
  · rw [fvals_len, modAt_len]; simp [fvals_len]
  · intro i h1 h2
    rw [fvals_len, modAt_len] at h1
    have e1 : (fvals (modAt fn l j))[i]? = some (fval (modAt fn l j) i) := (fvals_get _ _ _).2 ⟨by rw [modAt_len]; exact h1, rfl⟩
    have e2 : (fvals l)[i]? = some (fval l i) := (fvals_get _ _ _).2 ⟨h1, rfl⟩
    have hq : i / 3 < l.length := by omega
    have hg : (modAt fn l j).getD (i / 3) default = if i / 3 = j then fn l[i / 3] else l[i / 3] := by
      rw [List.getD_eq_getElem?_getD, List.getElem?_eq_getElem (by rw [modAt_len]; exact hq)]
      exact modAt_get fn l j (i / 3) _ hq
    have hg2 : l.getD (i / 3) default = l[i / 3] := by rw [List.getD_eq_getElem?_getD, List.getElem?_eq_getElem hq]; rfl
    have e3 : (fvals (modAt fn l j))[i]'(by rw [fvals_len, modAt_len]; exact h1) = fval (modAt fn l j) i := by
      rw [List.getElem?_eq_getElem (by rw [fvals_len, modAt_len]; exact h1)] at e1; injection e1
    have e4 : (fvals l)[i]'(by rw [fvals_len]; exact h1) = fval l i := by
      rw [List.getElem?_eq_getElem (by rw [fvals_len]; exact h1)] at e2; injection e2
    rw [e3]
    simp only [List.getElem_set]
    by_cases hij : i / 3 = j
    · subst hij
      unfold fval
      rw [hg, if_pos rfl]
      rcases (show i = i / 3 * 3 ∨ i = i / 3 * 3 + 1 ∨ i = i / 3 * 3 + 2 by omega) with e | e | e
      · rw [if_pos (by omega), if_neg (by omega), if_neg (by omega), if_pos (by omega)]
      · rw [if_neg (by omega), if_pos (by omega), if_neg (by omega), if_pos (by omega)]
      · rw [if_neg (by omega), if_neg (by omega), if_pos (by omega)]
    · have a2 : ¬ j * 3 + 2 = i := by omega
      have a1 : ¬ j * 3 + 1 = i := by omega
      have a0 : ¬ j * 3 = i := by omega
      simp only [a0, a1, a2, if_false]
      rw [e4]
      unfold fval
      rw [hg, if_neg hij, hg2]
theorem kcells_set : ∀ {ks : List KindV} {V : List Value} (hl : V.length = ks.length) (i : Nat) (k : KindV) (v : Value) (h : i < ks.length), ((kcells ks V).set (i * 2) (.string k.name)).set (i * 2 + 1) v = kcells (modAt (fun _ => k) ks i) (V.set i v)
  | [], _, _, i, _, _, h => by simp at h
  | x :: r, [], hl, i, _, _, h => by simp at hl
  | x :: r, u :: s, hl, 0, k, v, h => rfl
  | x :: r, u :: s, hl, i + 1, k, v, h => by
    have := kcells_set (ks := r) (V := s) (by simpa using hl) i k v (by simpa using h)
    rw [show (i + 1) * 2 = i * 2 + 1 + 1 by omega]
    simp only [kcells, List.set_cons_succ, modAt, this]
theorem modAt_const {α : Type} (f : α → α) : ∀ (l : List α) (i : Nat) (h : i < l.length), modAt f l i = modAt (fun _ => f l[i]) l i
  | [], i, h => by simp at h
  | x :: r, 0, h => rfl
  | x :: r, i + 1, h => by
    have := modAt_const f r i (by simpa using h)
    simp only [modAt, List.getElem_cons_succ]
    rw [this]
theorem set_same {l : List Value} {i : Nat} {v : Value} (h : l[i]? = some v) : l.set i v = l := by
  apply List.ext_getElem?
  intro j
  by_cases e : i = j
  · subst e
    rw [List.getElem?_set_self (List.getElem?_eq_some_iff.1 h).1, h]
  · rw [List.getElem?_set_ne e]
theorem fvals_at (l : List FieldV) (j : Nat) (h : j < l.length) : (fvals l)[j * 3]? = some (.string l[j].name) ∧ (fvals l)[j * 3 + 1]? = some (.int .i64 l[j].bits) ∧ (fvals l)[j * 3 + 2]? = some (.int .i64 l[j].low) := by
  obtain ⟨p0, p1, p2⟩ := fval_parts l j h
  exact ⟨(fvals_get _ _ _).2 ⟨by omega, p0.symm⟩, (fvals_get _ _ _).2 ⟨by omega, p1.symm⟩, (fvals_get _ _ _).2 ⟨by omega, p2.symm⟩⟩
theorem fvals_name (nm : ByteArray) (l : List FieldV) (j : Nat) (h : j < l.length) : (fvals l).set (j * 3) (.string nm) = fvals (modAt (fun f => ⟨nm, f.bits, f.low⟩) l j) := by
  obtain ⟨p0, p1, p2⟩ := fvals_at l j h
  rw [fvals_mod _ _ _ h]
  have e1 : ((fvals l).set (j * 3) (.string nm)).set (j * 3 + 1) (.int .i64 l[j].bits) = (fvals l).set (j * 3) (.string nm) := set_same (by rw [List.getElem?_set_ne (by omega)]; exact p1)
  have e2 : ((fvals l).set (j * 3) (.string nm)).set (j * 3 + 2) (.int .i64 l[j].low) = (fvals l).set (j * 3) (.string nm) := set_same (by rw [List.getElem?_set_ne (by omega)]; exact p2)
  simp only
  rw [e1, e2]
theorem fvals_bits (b lo : Int) (l : List FieldV) (j : Nat) (h : j < l.length) : ((fvals l).set (j * 3 + 1) (.int .i64 b)).set (j * 3 + 2) (.int .i64 lo) = fvals (modAt (fun f => ⟨f.name, b, lo⟩) l j) := by
  obtain ⟨p0, p1, p2⟩ := fvals_at l j h
  rw [fvals_mod _ _ _ h]
  simp only
  rw [set_same p0]
theorem kcells_names : ∀ {ks ks' : List KindV} {V : List Value}, ks.map (·.name) = ks'.map (·.name) → kcells ks V = kcells ks' V
  | [], [], V, _ => rfl
  | k :: r, k' :: r', [], _ => rfl
  | k :: r, k' :: r', v :: s, h => by
    simp only [List.map_cons, List.cons.injEq] at h
    have := kcells_names (V := s) h.2
    simp only [kcells, h.1, this]
  | [], k' :: r', V, h => by simp at h
  | k :: r, [], V, h => by simp at h
theorem kcells_val : ∀ {ks : List KindV} {V : List Value} (hl : V.length = ks.length) (i : Nat) (v : Value) (h : i < ks.length), (kcells ks V).set (i * 2 + 1) v = kcells ks (V.set i v)
  | [], _, _, i, _, h => by simp at h
  | x :: r, [], hl, i, _, h => by simp at hl
  | x :: r, u :: s, hl, 0, v, h => rfl
  | x :: r, u :: s, hl, i + 1, v, h => by
    have := kcells_val (ks := r) (V := s) (by simpa using hl) i v (by simpa using h)
    rw [show (i + 1) * 2 + 1 = i * 2 + 1 + 1 + 1 by omega]
    simp only [kcells, List.set_cons_succ, this]
theorem kcells_name : ∀ {ks : List KindV} {V : List Value} (hl : V.length = ks.length) (i : Nat) (f : KindV → KindV) (nm : ByteArray) (hf : ∀ k, (f k).name = nm) (h : i < ks.length), (kcells ks V).set (i * 2) (.string nm) = kcells (modAt f ks i) V
  | [], _, _, i, _, _, _, h => by simp at h
  | x :: r, [], hl, i, _, _, _, h => by simp at hl
  | x :: r, u :: s, hl, 0, f, nm, hf, h => by simp only [kcells, modAt, hf]; rfl
  | x :: r, u :: s, hl, i + 1, f, nm, hf, h => by
    have := kcells_name (ks := r) (V := s) (by simpa using hl) i f nm hf (by simpa using h)
    rw [show (i + 1) * 2 = i * 2 + 1 + 1 by omega]
    simp only [kcells, List.set_cons_succ, modAt, this]
theorem modAt_names (f : KindV → KindV) (hf : ∀ k, (f k).name = k.name) : ∀ (ks : List KindV) (i : Nat), (modAt f ks i).map (·.name) = ks.map (·.name)
  | [], i => rfl
  | x :: r, 0 => by simp [modAt, hf]
  | x :: r, i + 1 => by simp [modAt, modAt_names f hf r i]
/-- the row of kinds, one kind's fields' slice stored anew -/
theorem OwnK.stored {w w' : World} {G n : Nat} {ks : List KindV} {V : List Value} (hn : ks.length = n) (h : OwnK w G (.slice (some ⟨G, 0, none⟩) n n) ks V) (q : Nat) (hq : q < ks.length) (hq' : q < V.length) (v : Value) (f : List FieldV → List FieldV)
    (hr : w'.ownsRow G 43 2 (.slice (some ⟨G, 0, none⟩) n n) ks.length (kcells ks V)) (hv : FOwn w' (G + 1) v (f ks[q].fields)) (he : ∀ i (hi : i < ks.length) (hi' : i < V.length), i ≠ q → FOwn w' (G + 1) V[i] ks[i].fields) :
    (w'.setCell ⟨G, q * 2 + 1, none⟩ v).ownsRow G 43 2 (.slice (some ⟨G, 0, none⟩) n n) ks.length (kcells (modAt (fun k => ⟨k.name, f k.fields⟩) ks q) (V.set q v)) ∧ RK (w'.setCell ⟨G, q * 2 + 1, none⟩ v) (modAt (fun k => ⟨k.name, f k.fields⟩) ks q) (V.set q v) := by
  subst hn
  refine ⟨?_, ?_, ?_⟩
  · have := (hr.stored (q * 2 + 1) v).1
    rw [kcells_val h.len q v hq] at this
    rw [← kcells_names (modAt_names (fun k => ⟨k.name, f k.fields⟩) (fun _ => rfl) ks q)] at this
    exact this
  · rw [List.length_set, modAt_len]; exact h.len
  · intro i hi hi'
    have hi2 : i < ks.length := by rw [modAt_len] at hi; exact hi
    have hi3 : i < V.length := by rw [h.len]; exact hi2
    refine ⟨G + 1, fown_set ?_ (by omega), ?_⟩
    · rw [List.getElem_set, modAt_get _ _ _ _ hi hi2]
      by_cases e : q = i
      · subst e; rw [if_pos rfl, if_pos rfl]; exact hv
      · rw [if_neg e, if_neg (fun h => e h.symm)]; exact he i hi2 hi3 (fun h => e h.symm)
    · rw [modAt_get _ _ _ _ hi hi2]
      split
      · exact (h.fs i hi2 hi3).2
      · exact (h.fs i hi2 hi3).2
/-- the row of kinds as it is, one kind's fields written in place -/
theorem OwnK.inplace {w w' : World} {G : Nat} {v0 : Value} {ks : List KindV} {V : List Value} (h : OwnK w G v0 ks V) (q : Nat) (hq : q < ks.length) (hq' : q < V.length) (f : List FieldV → List FieldV) (hg : w.grownBy w' V[q].ownBlock) (hv : FOwn w' (G + 1) V[q] (f ks[q].fields)) :
    w'.ownsRow G 43 2 v0 ks.length (kcells (modAt (fun k => ⟨k.name, f k.fields⟩) ks q) V) ∧ RK w' (modAt (fun k => ⟨k.name, f k.fields⟩) ks q) V := by
  refine ⟨?_, ?_, ?_⟩
  · rw [kcells_names (modAt_names (fun k => ⟨k.name, f k.fields⟩) (fun _ => rfl) ks q)]
    exact h.rowk q hq' hg
  · rw [modAt_len]; exact h.len
  · intro i hi hi'
    have hi2 : i < ks.length := by rw [modAt_len] at hi; exact hi
    refine ⟨G + 1, ?_, ?_⟩
    · rw [modAt_get _ _ _ _ hi hi2]
      by_cases e : i = q
      · subst e; rw [if_pos rfl]; exact hv
      · rw [if_neg e]; exact h.elsed q hq' hg i hi2 hi' e
    · rw [modAt_get _ _ _ _ hi hi2]
      split
      · exact (h.fs i hi2 hi').2
      · exact (h.fs i hi2 hi').2
theorem kind_lit {w : World} {k : KindV} {a : Option Addr} {c : Nat} (hf : SlAt 3 FieldAt w a k.fields) (hl : k.fields.length ≤ c) (hc : c ≤ 9223372036854775807) (hn : k.name.size ≤ 9223372036854775807) :
    SlAt 2 KindAt (w.alloc (.cells #[.string k.name, .slice a k.fields.length c] 43 (0, 0))) (some ⟨w.heap.size, 0, none⟩) [k] := by
  intro _
  refine ⟨_, rfl, by simp, fun i hi => ?_⟩
  have : i = 0 := by have : i < 1 := hi; omega
  subst this
  have h := heap_alloc_new w (.cells #[.string k.name, .slice a k.fields.length c] 43 (0, 0))
  rw [add_zero_block]
  exact ⟨by have := cell_of_row _ _ 0 _ _ _ h; exact this, hn, a, c, by have := cell_of_row _ _ 1 _ _ _ h; exact this, hl, hc, hf.below FieldAt.abides ((Below.refl _ _).alloc (Nat.le_refl _) _)⟩
def OnePost (ks : List KindV) (y : MoveV) (W : World) (e : Ending) (w' : World) : Prop :=
  ((oneE ks y ≠ 0 ∧ e = .returned (.tuple #[.slice none 0 0, .int .i64 (oneE ks y)])) ∨ (oneE ks y = 0 ∧ ∃ a c, e = .returned (.tuple #[.slice a (oneK ks y).length c, .int .i64 0]) ∧ (oneK ks y).length ≤ c ∧ c ≤ 9223372036854775807 ∧ SlAt 2 KindAt w' a (oneK ks y))) ∧ Below W.heap.size W w'
theorem OnePost.bad {ks : List KindV} {y : MoveV} {W w' : World} {E : Int} (h : oneE ks y = E) (h0 : E ≠ 0) (hb : Below W.heap.size W w') : OnePost ks y W (.returned (.tuple #[.slice none 0 0, .int .i64 E])) w' := ⟨Or.inl ⟨by rw [h]; exact h0, by rw [h]⟩, hb⟩
theorem OnePost.ok {ks : List KindV} {y : MoveV} {W w' : World} {a : Option Addr} {n c : Nat} (h : oneE ks y = 0) (hn : (oneK ks y).length = n) (hc : n ≤ c) (hm : c ≤ 9223372036854775807) (hs : SlAt 2 KindAt w' a (oneK ks y)) (hb : Below W.heap.size W w') : OnePost ks y W (.returned (.tuple #[.slice a n c, .int .i64 0])) w' := ⟨Or.inr ⟨h, a, c, by rw [hn], by rw [hn]; exact hc, hm, hs⟩, hb⟩
def OneT (ks : List KindV) (y : MoveV) (W : World) (e : Ending) (w' : World) : Prop :=
  ((oneE ks y ≠ 0 ∧ e = .returned (.tuple #[.slice none 0 0, .int .i64 (oneE ks y)])) ∨ (oneE ks y = 0 ∧ ∃ a c, e = .returned (.tuple #[.slice a (oneK ks y).length c, .int .i64 0]) ∧ (oneK ks y).length ≤ c ∧ c ≤ 9223372036854775807 ∧ TKat w' a (oneK ks y))) ∧ Below W.heap.size W w'
theorem OneT.bad {ks : List KindV} {y : MoveV} {W w' : World} {E : Int} (h : oneE ks y = E) (h0 : E ≠ 0) (hb : Below W.heap.size W w') : OneT ks y W (.returned (.tuple #[.slice none 0 0, .int .i64 E])) w' := ⟨Or.inl ⟨by rw [h]; exact h0, by rw [h]⟩, hb⟩
theorem OneT.ok {ks : List KindV} {y : MoveV} {W w' : World} {a : Option Addr} {n c : Nat} (h : oneE ks y = 0) (hn : (oneK ks y).length = n) (hc : n ≤ c) (hm : c ≤ 9223372036854775807) (hs : TKat w' a (oneK ks y)) (hb : Below W.heap.size W w') : OneT ks y W (.returned (.tuple #[.slice a n c, .int .i64 0])) w' := ⟨Or.inr ⟨h, a, c, by rw [hn], by rw [hn]; exact hc, hm, hs⟩, hb⟩
theorem OneT.post {ks : List KindV} {y : MoveV} {W w' : World} {e : Ending} (h : OneT ks y W e w') : OnePost ks y W e w' := by
  rcases h with ⟨h | ⟨h1, a, c, h2, h3, h4, h5⟩, hb⟩
  · exact ⟨Or.inl h, hb⟩
  · exact ⟨Or.inr ⟨h1, a, c, h2, h3, h4, h5.1⟩, hb⟩
end Go.Proofs.YtijeninfmjhbnaaDoor
end
/- migrate.inverse, for a field's bits. By program (gen_miginv.py). -/
section
namespace Go.Proofs.YtijeninfmjhbnaaDoor
open Go.ChangeShapes Go.WideShapes Go.ChangeAt Go.RowKit Go.Nm Go.Mem
set_option linter.unusedVariables false
theorem gb_put {w w2 : World} {g : Nat} {t : TypeId} {cs : Array Value} (h : PutR w w2 g t cs) : w.grownBy w2 (some g) := ⟨h.os, h.tape, h.output, by rw [h.size]; exact Nat.le_refl _, fun k _ hk => h.else_ k (fun e => hk (by rw [e]))⟩
theorem list24 {α : Type} {vs : List α} (h : vs.length = 24) : ∃ x0 x1 x2 x3 x4 x5 x6 x7 x8 x9 x10 x11 x12 x13 x14 x15 x16 x17 x18 x19 x20 x21 x22 x23, vs = [x0, x1, x2, x3, x4, x5, x6, x7, x8, x9, x10, x11, x12, x13, x14, x15, x16, x17, x18, x19, x20, x21, x22, x23] := by
  obtain ⟨x0, t0, rfl, h0⟩ := cons_of h
  obtain ⟨x1, t1, rfl, h1⟩ := cons_of h0
  obtain ⟨x2, t2, rfl, h2⟩ := cons_of h1
  obtain ⟨x3, t3, rfl, h3⟩ := cons_of h2
  obtain ⟨x4, t4, rfl, h4⟩ := cons_of h3
  obtain ⟨x5, t5, rfl, h5⟩ := cons_of h4
  obtain ⟨x6, t6, rfl, h6⟩ := cons_of h5
  obtain ⟨x7, t7, rfl, h7⟩ := cons_of h6
  obtain ⟨x8, t8, rfl, h8⟩ := cons_of h7
  obtain ⟨x9, t9, rfl, h9⟩ := cons_of h8
  obtain ⟨x10, t10, rfl, h10⟩ := cons_of h9
  obtain ⟨x11, t11, rfl, h11⟩ := cons_of h10
  obtain ⟨x12, t12, rfl, h12⟩ := cons_of h11
  obtain ⟨x13, t13, rfl, h13⟩ := cons_of h12
  obtain ⟨x14, t14, rfl, h14⟩ := cons_of h13
  obtain ⟨x15, t15, rfl, h15⟩ := cons_of h14
  obtain ⟨x16, t16, rfl, h16⟩ := cons_of h15
  obtain ⟨x17, t17, rfl, h17⟩ := cons_of h16
  obtain ⟨x18, t18, rfl, h18⟩ := cons_of h17
  obtain ⟨x19, t19, rfl, h19⟩ := cons_of h18
  obtain ⟨x20, t20, rfl, h20⟩ := cons_of h19
  obtain ⟨x21, t21, rfl, h21⟩ := cons_of h20
  obtain ⟨x22, t22, rfl, h22⟩ := cons_of h21
  obtain ⟨x23, t23, rfl, h23⟩ := cons_of h22
  exact ⟨x0, x1, x2, x3, x4, x5, x6, x7, x8, x9, x10, x11, x12, x13, x14, x15, x16, x17, x18, x19, x20, x21, x22, x23, by rw [List.eq_nil_of_length_eq_zero h23]⟩
def F_invt (g g4 b9 b10 : Nat) (nk nf f1 : ByteArray) (f2 f3 fb fo hf hg : Int) (HH : Bool) (jq : Nat) (v : Value) (w : World) : Prop :=
  match jq with
  | 0 => v = .pointer (some ⟨g, 1, none⟩)
  | 1 => v = .string nk
  | 2 => v = .pointer (some ⟨g, 2, none⟩)
  | 3 => v = .string nf
  | 4 => v = .pointer (some ⟨b9, 1, none⟩)
  | 5 => v = .int .i64 f2
  | 6 => v = .pointer (some ⟨b9, 2, none⟩)
  | 7 => v = .int .i64 f3
  | 8 => v = .agg #[.string (⟨#[]⟩ : ByteArray), .int .i64 f2, .int .i64 f3]
  | 9 => v = .agg #[.int .i64 6, .string nk, .string nf, .string (⟨#[]⟩ : ByteArray), .int .i64 0, .string (⟨#[]⟩ : ByteArray), .int .i64 f2, .int .i64 f3, .string (⟨#[]⟩ : ByteArray), .slice none 0 0]
  | 10 => v = .pointer (some ⟨b10, 2, none⟩)
  | 11 => v = .int .i64 fo
  | 12 => v = .pointer (some ⟨b9, 2, none⟩)
  | 13 => v = .int .i64 f3
  | 14 => v = .bool true
  | 15 => v = .bool true
  | 16 => v = .agg #[.string f1, .int .i64 fb, .int .i64 fo]
  | 17 => v = .int .i64 hg
  | 18 => v = .agg #[.string f1, .int .i64 f2, .int .i64 f3]
  | 19 => v = .int .i64 hf
  | 20 => v = .bool HH
  | 21 => v = .bool HH
  | 22 => w.heap[g4]? = some (.cells #[.int .i64 6, .string nk, .string nf, .string (⟨#[]⟩ : ByteArray), .int .i64 0, .string (⟨#[]⟩ : ByteArray), .int .i64 f2, .int .i64 f3, .string (⟨#[]⟩ : ByteArray), .slice none 0 0] 45 (0, 0))
  | _ => True
theorem F_invt_mono (g g4 b9 b10 : Nat) (nk nf f1 : ByteArray) (f2 f3 fb fo hf hg : Int) (HH : Bool) : FactsR (RG 22 (some g4)) (F_invt g g4 b9 b10 nk nf f1 f2 f3 fb fo hf hg HH) := ⟨by
  intro i jq v w w' hij h hb
  unfold F_invt at h ⊢
  split at h
  all_goals first
    | exact h
    | exact heap_below h (hb.1 hij)
    | trivial⟩
def F_invf (g g4 b9 b10 : Nat) (nk nf f1 : ByteArray) (f2 f3 fb fo hf hg : Int) (jq : Nat) (v : Value) (w : World) : Prop :=
  match jq with
  | 0 => v = .pointer (some ⟨g, 1, none⟩)
  | 1 => v = .string nk
  | 2 => v = .pointer (some ⟨g, 2, none⟩)
  | 3 => v = .string nf
  | 4 => v = .pointer (some ⟨b9, 1, none⟩)
  | 5 => v = .int .i64 f2
  | 6 => v = .pointer (some ⟨b9, 2, none⟩)
  | 7 => v = .int .i64 f3
  | 8 => v = .agg #[.string (⟨#[]⟩ : ByteArray), .int .i64 f2, .int .i64 f3]
  | 9 => v = .agg #[.int .i64 6, .string nk, .string nf, .string (⟨#[]⟩ : ByteArray), .int .i64 0, .string (⟨#[]⟩ : ByteArray), .int .i64 f2, .int .i64 f3, .string (⟨#[]⟩ : ByteArray), .slice none 0 0]
  | 10 => v = .pointer (some ⟨b10, 2, none⟩)
  | 11 => v = .int .i64 fo
  | 12 => v = .pointer (some ⟨b9, 2, none⟩)
  | 13 => v = .int .i64 f3
  | 14 => v = .bool false
  | 15 => v = .bool false
  | 16 => v = undef
  | 17 => v = undef
  | 18 => v = undef
  | 19 => v = undef
  | 20 => v = undef
  | 21 => v = .bool false
  | 22 => w.heap[g4]? = some (.cells #[.int .i64 6, .string nk, .string nf, .string (⟨#[]⟩ : ByteArray), .int .i64 0, .string (⟨#[]⟩ : ByteArray), .int .i64 f2, .int .i64 f3, .string (⟨#[]⟩ : ByteArray), .slice none 0 0] 45 (0, 0))
  | _ => True
theorem F_invf_mono (g g4 b9 b10 : Nat) (nk nf f1 : ByteArray) (f2 f3 fb fo hf hg : Int) : FactsR (RG 22 (some g4)) (F_invf g g4 b9 b10 nk nf f1 f2 f3 fb fo hf hg) := ⟨by
  intro i jq v w w' hij h hb
  unfold F_invf at h ⊢
  split at h
  all_goals first
    | exact h
    | exact heap_below h (hb.1 hij)
    | trivial⟩
set_option maxHeartbeats 8000000 in
set_option maxRecDepth 100000 in
theorem mig_inv_6 (ks : List KindV) (ka : Option Addr) (n kc : Nat) (hn : ks.length = n) (h1 : n ≤ 1048576) (hv : ∀ k ∈ ks, k.fields.length ≤ 1048576) (y : MoveV) (a : Option Addr) (c : Nat) (W : World) (hz : SlAt 2 KindAt W ka ks) (hk0 : kindsE ks = 0) (he : oneE ks y = 0) (hd : y.do_ = 6) :
    Calls Tryd.prog 31 #[.slice ka n kc, .agg #[.int .i64 6, .string y.kind, .string y.field, .string y.name, .int .i64 y.value, .string y.new.name, .int .i64 y.new.bits, .int .i64 y.new.low, .string y.whole.name, .slice a y.whole.fields.length c]] W (InvPost ks y W) := by
  have hp := (oneE_kinds he).1
  obtain ⟨q, hq⟩ : ∃ q : Nat, pI ks y = (q : Int) := ⟨(pI ks y).toNat, by have := pI_bound hp (by rw [hd]; decide); omega⟩
  have hqn : q < n := by have := pI_bound hp (by rw [hd]; decide); rw [hq, hn] at this; omega
  obtain ⟨j, hj⟩ : ∃ j : Nat, pJ ks y = (j : Int) := ⟨(pJ ks y).toNat, by have := pJ_bound hp (by rw [hd]; decide); omega⟩
  have hjn : ∀ h : q < ks.length, j < (ks[q]'h).fields.length := fun h => by
    have := pJ_bound hp (by rw [hd]; decide)
    rw [hj, hq, Int.toNat_natCast, List.getD_eq_getElem?_getD, List.getElem?_eq_getElem h] at this
    simp only [Option.getD_some] at this
    omega
  have hqk : q < ks.length := by rw [hn]; exact hqn
  have hjk := hjn hqk
  obtain ⟨fv, hfv⟩ : ∃ f, f = fieldAt ks y := ⟨_, rfl⟩
  have hfe : fv = ks[q].fields[j] := by rw [hfv]; unfold fieldAt; rw [hq, hj, Int.toNat_natCast, Int.toNat_natCast, getD_is hqk, getD_is hjk]
  obtain ⟨hf1, hf2⟩ := retype_ok hk0 he hd
  rw [← hfv] at hf1 hf2
  obtain ⟨f1, hf1e⟩ : ∃ x, x = fv.name := ⟨_, rfl⟩
  obtain ⟨f2, hf2e⟩ : ∃ x, x = fv.bits := ⟨_, rfl⟩
  obtain ⟨f3, hf3e⟩ : ∃ x, x = fv.low := ⟨_, rfl⟩
  have OKF := Lib.hid (ok_bounds hf1)
  have OKG := Lib.hid (ok_bounds hf2)
  rw [← hf1e, ← hf2e, ← hf3e] at OKF
  simp only at OKG
  rw [← hf1e] at OKG
  have HQN := Lib.hid hqn
  obtain ⟨x, hxa, _, _⟩ := hz (by omega)
  have hzx := hz
  rw [hxa] at hzx
  obtain ⟨kb, ko, hkx, fa, fc, hck, hd1, hd2, hd3, hfsl⟩ := kind_cells hzx q hqk
  clear hd1 hd2 hd3
  obtain ⟨x2, hfa, hd1, hd2⟩ := hfsl (by omega)
  clear hd1 hd2
  rw [hfa] at hfsl
  obtain ⟨fb2, fo2, hfx, hcf⟩ := fld_cells hfsl j hjk
  have hfnm := flds_names hfsl ks[q].fields[j] (List.getElem_mem _)
  rw [← hfe] at hcf hfnm
  rw [← hf1e, ← hf2e, ← hf3e] at hcf
  rw [← hf1e] at hfnm
  obtain ⟨kn, hkn⟩ : ∃ x, x = ks[q].name := ⟨_, rfl⟩
  obtain ⟨kl, hkl⟩ : ∃ x, x = ks[q].fields.length := ⟨_, rfl⟩
  rw [← hkn, ← hkl, hfa, hfx] at hck
  have hjl : j < kl := by rw [hkl]; exact hjk
  rw [hkx] at hxa
  subst hxa
  have HCK := Lib.hid hck
  have HCF := Lib.hid hcf
  have HFN := Lib.hid hfnm
  clear hfsl hzx hfa hfx hkn hkl hkx hck hcf hfnm hf1 hf2 hqk hjk hjn hfe
  have hV : invV ks y = ⟨6, y.kind, y.field, (⟨#[]⟩ : ByteArray), 0, ⟨(⟨#[]⟩ : ByteArray), (fieldAt ks y).bits, (fieldAt ks y).low⟩, zK⟩ := by unfold invV; rw [if_neg (show ¬ y.do_ = 0 by rw [hd]; decide), if_neg (show ¬ y.do_ = 2 by rw [hd]; decide), if_neg (show ¬ y.do_ = 3 by rw [hd]; decide), if_neg (show ¬ y.do_ = 5 by rw [hd]; decide), if_pos hd]
  have hB : invB ks y = (decide (y.new.low ≤ fv.low) && decide (hiF fv ≤ topF y.new.bits.toNat y.new.low)) := by unfold invB; rw [if_neg (by rw [hd]; decide), if_pos hd, hfv]
  have HVV := Lib.hid hV
  have HBB := Lib.hid hB
  have hb0 := ((Below.refl W.heap.size W).alloc (Nat.le_refl _) (.cells #[.int .i64 6, .string y.kind, .string y.field, .string y.name, .int .i64 y.value, .string y.new.name, .int .i64 y.new.bits, .int .i64 y.new.low, .string y.whole.name, .slice a y.whole.fields.length c] 45)).alloc (by simp) (.cells #[.int .i64 0, .string (⟨#[]⟩ : ByteArray), .string (⟨#[]⟩ : ByteArray), .string (⟨#[]⟩ : ByteArray), .int .i64 0, .string (⟨#[]⟩ : ByteArray), .int .i64 0, .int .i64 0, .string (⟨#[]⟩ : ByteArray), .slice none 0 0] 45)
  have hrow := heap_keep (heap_alloc_new W (.cells #[.int .i64 6, .string y.kind, .string y.field, .string y.name, .int .i64 y.value, .string y.new.name, .int .i64 y.new.bits, .int .i64 y.new.low, .string y.whole.name, .slice a y.whole.fields.length c] 45)) (.cells #[.int .i64 0, .string (⟨#[]⟩ : ByteArray), .string (⟨#[]⟩ : ByteArray), .string (⟨#[]⟩ : ByteArray), .int .i64 0, .string (⟨#[]⟩ : ByteArray), .int .i64 0, .int .i64 0, .string (⟨#[]⟩ : ByteArray), .slice none 0 0] 45)
  have hres := heap_alloc_new (W.alloc (.cells #[.int .i64 6, .string y.kind, .string y.field, .string y.name, .int .i64 y.value, .string y.new.name, .int .i64 y.new.bits, .int .i64 y.new.low, .string y.whole.name, .slice a y.whole.fields.length c] 45)) (.cells #[.int .i64 0, .string (⟨#[]⟩ : ByteArray), .string (⟨#[]⟩ : ByteArray), .string (⟨#[]⟩ : ByteArray), .int .i64 0, .string (⟨#[]⟩ : ByteArray), .int .i64 0, .int .i64 0, .string (⟨#[]⟩ : ByteArray), .slice none 0 0] 45)
  rw [World.size_alloc] at hres
  obtain ⟨w0, hw0⟩ : ∃ w, w = (W.alloc (.cells #[.int .i64 6, .string y.kind, .string y.field, .string y.name, .int .i64 y.value, .string y.new.name, .int .i64 y.new.bits, .int .i64 y.new.low, .string y.whole.name, .slice a y.whole.fields.length c] 45)).alloc (.cells #[.int .i64 0, .string (⟨#[]⟩ : ByteArray), .string (⟨#[]⟩ : ByteArray), .string (⟨#[]⟩ : ByteArray), .int .i64 0, .string (⟨#[]⟩ : ByteArray), .int .i64 0, .int .i64 0, .string (⟨#[]⟩ : ByteArray), .slice none 0 0] 45) := ⟨_, rfl⟩
  rw [← hw0] at hb0 hrow hres
  have cP := mig_place ks _ n kc hn h1 hv y a c w0 (hz.below KindAt.abides hb0)
  rw [hd, hp, hq, hj] at cP
  obtain ⟨nk, hnk⟩ : ∃ x, x = y.kind := ⟨_, rfl⟩
  obtain ⟨nf, hnf⟩ : ∃ x, x = y.field := ⟨_, rfl⟩
  obtain ⟨nm, hnm⟩ : ∃ x, x = y.name := ⟨_, rfl⟩
  obtain ⟨vv, hvv⟩ : ∃ x, x = y.value := ⟨_, rfl⟩
  obtain ⟨fn, hfn⟩ : ∃ x, x = y.new.name := ⟨_, rfl⟩
  obtain ⟨fb, hfb⟩ : ∃ x, x = y.new.bits := ⟨_, rfl⟩
  obtain ⟨fo, hfo⟩ : ∃ x, x = y.new.low := ⟨_, rfl⟩
  obtain ⟨wn, hwn⟩ : ∃ x, x = y.whole.name := ⟨_, rfl⟩
  obtain ⟨wl, hwl⟩ : ∃ x, x = y.whole.fields.length := ⟨_, rfl⟩
  rw [← hnk, ← hnf, ← hnm, ← hvv, ← hfn, ← hfb, ← hfo, ← hwn, ← hwl] at hrow hw0 ⊢
  rw [← hnk, ← hnf, ← hnm, ← hvv, ← hfn, ← hfb, ← hfo, ← hwn, ← hwl] at cP
  rw [← hnk, ← hnf] at HVV
  rw [← hfv, ← hf2e, ← hf3e] at HVV
  rw [← hf3e, ← hfo, ← hfb, show hiF fv = topF f2.toNat f3 by unfold hiF; rw [hf2e, hf3e]] at HBB
  rw [← hfb, ← hfo] at OKG
  obtain ⟨g, hg⟩ : ∃ g, g = W.heap.size := ⟨_, rfl⟩
  obtain ⟨g4, hg4⟩ : ∃ x, x = W.heap.size + 1 := ⟨_, rfl⟩
  rw [← hg] at hrow
  rw [← hg4] at hres
  have HB := Lib.hid hb0
  have HROW := Lib.hid hrow
  have HRES := Lib.hid hres
  have HW0 := Lib.hid hw0
  have HG := Lib.hid (And.intro hg hg4)
  have HN := Lib.hid hn
  have H1 := Lib.hid h1
  have HZ := Lib.hid hz
  have CP := Lib.hid cP
  clear hV hB hp hb0 hrow hres hw0 hg hg4 hn h1 hv hz hd hk0 he hnk hnf hnm hvv hfn hfb hfo hwn hwl cP hq hj hfv hf1e hf2e hf3e hqn
  go_enter Tryd.func31, Tryd.ntmps31
  go_wp2_with fail
  rw [← HW0.out, ← HG.out.2, ← HG.out.1]
  refine CP.out.mono ?_
  rintro e w1 ⟨rfl, hb1⟩
  replace HB := Lib.hid (bt HB.out hb1)
  replace HROW := Lib.hid (heap_below HROW.out hb1)
  replace HRES := Lib.hid (heap_below HRES.out hb1)
  have hgs : g < g4 := by have := HG.out.1; have := HG.out.2; omega
  have r0 := cell_of_row _ _ 0 _ _ _ HROW.out
  clear hb1 CP HW0
  have HCK1 := Lib.hid (HCK.out.below HB.out)
  have HCF1 := Lib.hid (HCF.out.below HB.out)
  have q1 := HCK1.out 1 _ rfl
  have p0 := HCF1.out 0 _ rfl
  have p1 := HCF1.out 1 _ rfl
  have p2 := HCF1.out 2 _ rfl
  rw [Nat.add_zero] at p0
  have hqn2 := HQN.out
  have h9 := heap_keep (heap_alloc_new w1 (.cells #[.string f1, .int .i64 f2, .int .i64 f3] 40)) (.cells #[.string f1, .int .i64 f2, .int .i64 f3] 40)
  have h10 := heap_alloc_new (w1.alloc (.cells #[.string f1, .int .i64 f2, .int .i64 f3] 40)) (.cells #[.string f1, .int .i64 f2, .int .i64 f3] 40)
  rw [World.size_alloc] at h10
  have hbC := ((Below.refl w1.heap.size w1).alloc (Nat.le_refl _) (.cells #[.string f1, .int .i64 f2, .int .i64 f3] 40)).alloc (by simp) (.cells #[.string f1, .int .i64 f2, .int .i64 f3] 40)
  obtain ⟨wC, hwC⟩ : ∃ w, w = (w1.alloc (.cells #[.string f1, .int .i64 f2, .int .i64 f3] 40)).alloc (.cells #[.string f1, .int .i64 f2, .int .i64 f3] 40) := ⟨_, rfl⟩
  rw [← hwC] at h9 h10 hbC
  obtain ⟨b9, hb9⟩ : ∃ b, b = w1.heap.size := ⟨_, rfl⟩
  obtain ⟨b10, hb10⟩ : ∃ b, b = w1.heap.size + 1 := ⟨_, rfl⟩
  rw [← hb9] at h9
  rw [← hb10] at h10
  have hg9 : g4 < b9 := by rw [hb9]; exact lt_of_heap HRES.out
  have HROWC := Lib.hid (heap_below HROW.out hbC)
  have HRESC := Lib.hid (heap_below HRES.out hbC)
  have HBC := Lib.hid (bt HB.out hbC)
  obtain ⟨wD, hwD⟩ : ∃ w, w = ((wC.setCell ⟨b10, 1, none⟩ (.int .i64 fb)).setCell ⟨b10, 2, none⟩ (.int .i64 fo)).drew := ⟨_, rfl⟩
  have hne1 : b9 ≠ b10 := by omega
  have hne2 : g ≠ b10 := by omega
  have hne3 : g4 ≠ b10 := by omega
  have R10 := Lib.hid (show wD.heap[b10]? = some (.cells #[.string f1, .int .i64 fb, .int .i64 fo] 40 (0, 0)) by rw [hwD]; exact heap_set (heap_set h10 1 (.int .i64 fb)) 2 (.int .i64 fo))
  have R9 := Lib.hid (show wD.heap[b9]? = some (.cells #[.string f1, .int .i64 f2, .int .i64 f3] 40 (0, 0)) by rw [hwD]; exact heap_far2 h9 hne1 _ _ _ _)
  have hrowD : wD.heap[g]? = some (.cells #[.int .i64 6, .string nk, .string nf, .string nm, .int .i64 vv, .string fn, .int .i64 fb, .int .i64 fo, .string wn, .slice a wl c] 45 (0, 0)) := by rw [hwD]; exact heap_far2 HROWC.out hne2 _ _ _ _
  have HRESD := Lib.hid (show wD.heap[g4]? = some (.cells #[.int .i64 0, .string (⟨#[]⟩ : ByteArray), .string (⟨#[]⟩ : ByteArray), .string (⟨#[]⟩ : ByteArray), .int .i64 0, .string (⟨#[]⟩ : ByteArray), .int .i64 0, .int .i64 0, .string (⟨#[]⟩ : ByteArray), .slice none 0 0] 45 (0, 0)) by rw [hwD]; exact heap_far2 HRESC.out hne3 _ _ _ _)
  have HBD := Lib.hid (show Below W.heap.size W wD by rw [hwD]; exact ((HBC.out.setCell (by have := HG.out.2; show _ ≤ b10; omega) _).setCell (by have := HG.out.2; show _ ≤ b10; omega) _).drew)
  have R1 := Lib.hid (cell_of_row _ _ 1 _ _ _ hrowD)
  have R2 := Lib.hid (cell_of_row _ _ 2 _ _ _ hrowD)
  have R91 := Lib.hid (cell_of_row _ _ 1 _ _ _ R9.out)
  have R92 := Lib.hid (cell_of_row _ _ 2 _ _ _ R9.out)
  have R102 := Lib.hid (cell_of_row _ _ 2 _ _ _ R10.out)
  have HNG := Lib.hid (show (some g : Option Nat) ≠ some g4 by intro e; injection e with e; omega)
  have HN9 := Lib.hid (show (some b9 : Option Nat) ≠ some g4 by intro e; injection e with e; omega)
  have HN10 := Lib.hid (show (some b10 : Option Nat) ≠ some g4 by intro e; injection e with e; omega)
  have HWC := Lib.hid hwC
  have HWD := Lib.hid hwD
  have HB9 := Lib.hid (And.intro hb9 hb10)
  have H10C := Lib.hid h10
  obtain ⟨nb, hnb⟩ : ∃ m : Nat, f2 = (m : Int) := ⟨f2.toNat, by have := OKF.out; omega⟩
  obtain ⟨ng, hng⟩ : ∃ m : Nat, fb = (m : Int) := ⟨fb.toNat, by have := OKG.out; omega⟩
  obtain ⟨hf, hhf⟩ : ∃ x, x = topF f2.toNat f3 := ⟨_, rfl⟩
  obtain ⟨hg, hhg⟩ : ∃ x, x = topF fb.toNat fo := ⟨_, rfl⟩
  have CFF := Lib.hid (fun w' => High_ok f1 nb f3 HFN.out (by have := OKF.out.1; rw [hnb] at this; exact this) (by have := OKF.out; omega) (by have := OKF.out; omega) (by have := OKF.out; omega) (by have := OKF.out; omega) w')
  have CG := Lib.hid (fun w' => High_ok f1 ng fo HFN.out (by have := OKG.out.1; rw [hng] at this; exact this) (by have := OKG.out; omega) (by have := OKG.out; omega) (by have := OKG.out; omega) (by have := OKG.out; omega) w')
  rw [show f3 + (2 ^ nb - 1) = hf by rw [hhf, hnb]; rfl, ← hnb] at CFF
  rw [show fo + (2 ^ ng - 1) = hg by rw [hhg, hng]; rfl, ← hng] at CG
  obtain ⟨HH, hHH⟩ : ∃ b, b = decide (hf ≤ hg) := ⟨_, rfl⟩
  have HHH := Lib.hid hHH.symm
  have HB6 := Lib.hid (show invB ks y = (decide (fo ≤ f3) && HH) by rw [HBB.out, hHH, hhf, hhg])
  clear h9 h10 hbC hwC hb9 hb10 hg9 hwD hne1 hne2 hne3 hrowD hnb hng hhf hhg hHH HBB
  go_upto_region 14 with fail
  rw [← HWC.out, ← HB9.out.2, ← HB9.out.1]
  have z1 := cell_of_row _ _ 1 _ _ _ H10C.out
  have z2 := cell_of_row _ _ 2 _ _ _ H10C.out
  have k1 := Mem.frozen_of_row H10C.out 1
  have k2 := Mem.frozen_of_row H10C.out 2
  have r6 := cell_of_row _ _ 6 _ _ _ HROWC.out
  have r7 := cell_of_row _ _ 7 _ _ _ HROWC.out
  clear HCK1 HCF1 q1 p0 p1 p2 r0
  go_region
  go_wp2_with fail
  rw [← HWD.out]
  clear z1 z2 k1 k2 r6 r7
  by_cases hle : fo ≤ f3
  · have HBR := Lib.hid (show invB ks y = HH by rw [HB6.out, decide_eq_true hle]; rfl)
    refine wp_region_facts_r rfl 23 (by kernel_rfl) (fun a b => World.grownBy a b (some g4)) (gb_drew _ _) (fun _ _ _ h h2 => h.trans h2) (RG 22 (some g4)) RG.sub (F_invt g g4 b9 b10 nk nf f1 f2 f3 fb fo hf hg HH) (F_invt_mono g g4 b9 b10 nk nf f1 f2 f3 fb fo hf hg HH) 22 (fun w => Below wD.heap.size wD w) ((Below.refl wD.heap.size wD).drew) (fun i a b hi h ho => ho.trans ((h.1 hi).mono ho.size)) ?_ ?_
    · refine ⟨?_, ?_, ?_, ?_, ?_, ?_, ?_, ?_, ?_, ?_, ?_, ?_, ?_, ?_, ?_, ?_, ?_, ?_, ?_, ?_, ?_, ?_, ?_, trivial⟩
      · intro vs w' F hb hd hF hl hT hq
        have e := (hF 3).trans (look_out _ 3 _ _ (by kernel_rfl))
        exact one_field _ _ _ rfl rfl _ _ e (1) (fun w => by kernel_rfl) ⟨_, rfl, RG.same _ _ _ _, rfl⟩
      · intro vs w' F hb hd hF hl hT hq
        have e := ((hF 69).trans (look_at _ 69 0 _ _ (by kernel_rfl) (by kernel_rfl) hl)).trans (dep_of (Fact := F_invt g g4 b9 b10 nk nf f1 f2 f3 fb fo hf hg HH) hd 0 (by kernel_rfl))
        exact one_load _ _ rfl rfl _ _ e (World.grownBy.cell hb R1.out HNG.out) (by kernel_rfl) ⟨_, rfl, RG.same _ _ _ _, rfl⟩
      · intro vs w' F hb hd hF hl hT hq
        have e := (hF 3).trans (look_out _ 3 _ _ (by kernel_rfl))
        exact one_field _ _ _ rfl rfl _ _ e (2) (fun w => by kernel_rfl) ⟨_, rfl, RG.same _ _ _ _, rfl⟩
      · intro vs w' F hb hd hF hl hT hq
        have e := ((hF 71).trans (look_at _ 71 2 _ _ (by kernel_rfl) (by kernel_rfl) hl)).trans (dep_of (Fact := F_invt g g4 b9 b10 nk nf f1 f2 f3 fb fo hf hg HH) hd 2 (by kernel_rfl))
        exact one_load _ _ rfl rfl _ _ e (World.grownBy.cell hb R2.out HNG.out) (by kernel_rfl) ⟨_, rfl, RG.same _ _ _ _, rfl⟩
      · intro vs w' F hb hd hF hl hT hq
        have e := (hF 9).trans (look_out _ 9 _ _ (by kernel_rfl))
        exact one_field _ _ _ rfl rfl _ _ e (1) (fun w => by kernel_rfl) ⟨_, rfl, RG.same _ _ _ _, rfl⟩
      · intro vs w' F hb hd hF hl hT hq
        have e := ((hF 73).trans (look_at _ 73 4 _ _ (by kernel_rfl) (by kernel_rfl) hl)).trans (dep_of (Fact := F_invt g g4 b9 b10 nk nf f1 f2 f3 fb fo hf hg HH) hd 4 (by kernel_rfl))
        exact one_load _ _ rfl rfl _ _ e (World.grownBy.cell hb R91.out HN9.out) (by kernel_rfl) ⟨_, rfl, RG.same _ _ _ _, rfl⟩
      · intro vs w' F hb hd hF hl hT hq
        have e := (hF 9).trans (look_out _ 9 _ _ (by kernel_rfl))
        exact one_field _ _ _ rfl rfl _ _ e (2) (fun w => by kernel_rfl) ⟨_, rfl, RG.same _ _ _ _, rfl⟩
      · intro vs w' F hb hd hF hl hT hq
        have e := ((hF 75).trans (look_at _ 75 6 _ _ (by kernel_rfl) (by kernel_rfl) hl)).trans (dep_of (Fact := F_invt g g4 b9 b10 nk nf f1 f2 f3 fb fo hf hg HH) hd 6 (by kernel_rfl))
        exact one_load _ _ rfl rfl _ _ e (World.grownBy.cell hb R92.out HN9.out) (by kernel_rfl) ⟨_, rfl, RG.same _ _ _ _, rfl⟩
      · intro vs w' F hb hd hF hl hT hq
        have e1 := (((hF 74).trans (look_at _ 74 5 _ _ (by kernel_rfl) (by kernel_rfl) hl)).trans (dep_of (Fact := F_invt g g4 b9 b10 nk nf f1 f2 f3 fb fo hf hg HH) hd 5 (by kernel_rfl)))
        have e2 := (((hF 76).trans (look_at _ 76 7 _ _ (by kernel_rfl) (by kernel_rfl) hl)).trans (dep_of (Fact := F_invt g g4 b9 b10 nk nf f1 f2 f3 fb fo hf hg HH) hd 7 (by kernel_rfl)))
        exact one_build _ _ rfl rfl #[(1, .int .i64 f2), (2, .int .i64 f3)] (parts2 e1 e2) (.agg #[.string (⟨#[]⟩ : ByteArray), .int .i64 f2, .int .i64 f3]) (fun w => by kernel_rfl) ⟨_, rfl, RG.same _ _ _ _, rfl⟩
      · intro vs w' F hb hd hF hl hT hq
        have e1 := (((hF 70).trans (look_at _ 70 1 _ _ (by kernel_rfl) (by kernel_rfl) hl)).trans (dep_of (Fact := F_invt g g4 b9 b10 nk nf f1 f2 f3 fb fo hf hg HH) hd 1 (by kernel_rfl)))
        have e2 := (((hF 72).trans (look_at _ 72 3 _ _ (by kernel_rfl) (by kernel_rfl) hl)).trans (dep_of (Fact := F_invt g g4 b9 b10 nk nf f1 f2 f3 fb fo hf hg HH) hd 3 (by kernel_rfl)))
        have e3 := (((hF 77).trans (look_at _ 77 8 _ _ (by kernel_rfl) (by kernel_rfl) hl)).trans (dep_of (Fact := F_invt g g4 b9 b10 nk nf f1 f2 f3 fb fo hf hg HH) hd 8 (by kernel_rfl)))
        exact one_build _ _ rfl rfl #[(0, .int .i64 6), (1, .string nk), (2, .string nf), (5, .agg #[.string (⟨#[]⟩ : ByteArray), .int .i64 f2, .int .i64 f3])] (parts4 (x := .const (.int .i64 6)) rfl e1 e2 e3) (.agg #[.int .i64 6, .string nk, .string nf, .string (⟨#[]⟩ : ByteArray), .int .i64 0, .string (⟨#[]⟩ : ByteArray), .int .i64 f2, .int .i64 f3, .string (⟨#[]⟩ : ByteArray), .slice none 0 0]) (fun w => by kernel_rfl) ⟨_, rfl, RG.same _ _ _ _, rfl⟩
      · intro vs w' F hb hd hF hl hT hq
        have e := (hF 10).trans (look_out _ 10 _ _ (by kernel_rfl))
        exact one_field _ _ _ rfl rfl _ _ e (2) (fun w => by kernel_rfl) ⟨_, rfl, RG.same _ _ _ _, rfl⟩
      · intro vs w' F hb hd hF hl hT hq
        have e := ((hF 79).trans (look_at _ 79 10 _ _ (by kernel_rfl) (by kernel_rfl) hl)).trans (dep_of (Fact := F_invt g g4 b9 b10 nk nf f1 f2 f3 fb fo hf hg HH) hd 10 (by kernel_rfl))
        exact one_load _ _ rfl rfl _ _ e (World.grownBy.cell hb R102.out HN10.out) (by kernel_rfl) ⟨_, rfl, RG.same _ _ _ _, rfl⟩
      · intro vs w' F hb hd hF hl hT hq
        have e := (hF 9).trans (look_out _ 9 _ _ (by kernel_rfl))
        exact one_field _ _ _ rfl rfl _ _ e (2) (fun w => by kernel_rfl) ⟨_, rfl, RG.same _ _ _ _, rfl⟩
      · intro vs w' F hb hd hF hl hT hq
        have e := ((hF 81).trans (look_at _ 81 12 _ _ (by kernel_rfl) (by kernel_rfl) hl)).trans (dep_of (Fact := F_invt g g4 b9 b10 nk nf f1 f2 f3 fb fo hf hg HH) hd 12 (by kernel_rfl))
        exact one_load _ _ rfl rfl _ _ e (World.grownBy.cell hb R92.out HN9.out) (by kernel_rfl) ⟨_, rfl, RG.same _ _ _ _, rfl⟩
      · intro vs w' F hb hd hF hl hT hq
        have e1 := ((hF 80).trans (look_at _ 80 11 _ _ (by kernel_rfl) (by kernel_rfl) hl)).trans (dep_of (Fact := F_invt g g4 b9 b10 nk nf f1 f2 f3 fb fo hf hg HH) hd 11 (by kernel_rfl))
        have e2 := ((hF 82).trans (look_at _ 82 13 _ _ (by kernel_rfl) (by kernel_rfl) hl)).trans (dep_of (Fact := F_invt g g4 b9 b10 nk nf f1 f2 f3 fb fo hf hg HH) hd 13 (by kernel_rfl))
        exact rg_leq _ _ _ _ rfl rfl .i64 (fo) (f3) true e1 e2 (decide_eq_true (by omega)) ⟨_, rfl, RG.same _ _ _ _, rfl⟩
      · intro vs w' F hb hd hF hl hT hq
        have e := ((hF 83).trans (look_at _ 83 14 _ _ (by kernel_rfl) (by kernel_rfl) hl)).trans (dep_of (Fact := F_invt g g4 b9 b10 nk nf f1 f2 f3 fb fo hf hg HH) hd 14 (by kernel_rfl))
        exact one_move _ rfl (by first | exact Or.inl rfl | exact Or.inr rfl) ⟨_, rfl, RG.same _ _ _ _, e⟩
      · intro vs w' F hb hd hF hl hT hq
        have eg := ((hF 84).trans (look_at _ 84 15 _ _ (by kernel_rfl) (by kernel_rfl) hl)).trans (dep_of (Fact := F_invt g g4 b9 b10 nk nf f1 f2 f3 fb fo hf hg HH) hd 15 (by kernel_rfl))
        refine wpList_on rfl (t := 84) (by kernel_rfl) eg ?_
        have e := (hF 10).trans (look_out _ 10 _ _ (by kernel_rfl))
        exact rg_load 40 _ rfl rfl (b10) (0) [.string f1, .int .i64 fb, .int .i64 fo] e ((cellsK_gb (CellsK.row R10.out) hb HN10.out)) _ Tryd.underlying40 rfl (by kernel_rfl) ⟨_, rfl, RG.same _ _ _ _, rfl⟩
      · intro vs w' F hb hd hF hl hT hq
        have eg := ((hF 84).trans (look_at _ 84 15 _ _ (by kernel_rfl) (by kernel_rfl) hl)).trans (dep_of (Fact := F_invt g g4 b9 b10 nk nf f1 f2 f3 fb fo hf hg HH) hd 15 (by kernel_rfl))
        refine wpList_on rfl (t := 84) (by kernel_rfl) eg ?_
        have ea0 := ((hF 85).trans (look_at _ 85 16 _ _ (by kernel_rfl) (by kernel_rfl) hl)).trans (dep_of (Fact := F_invt g g4 b9 b10 nk nf f1 f2 f3 fb fo hf hg HH) hd 16 (by kernel_rfl))
        refine one_call _ _ rfl rfl (enters_of Tryd.func60 (by kernel_rfl) rfl) #[.agg #[.string f1, .int .i64 fb, .int .i64 fo]] (eval1 ea0) ?_
        refine (CG.out w').mono ?_
        rintro e2 w2 ⟨rfl, hb2⟩
        exact ⟨_, rfl, _, rfl, RG.below (by decide) hb2, rfl⟩
      · intro vs w' F hb hd hF hl hT hq
        have eg := ((hF 84).trans (look_at _ 84 15 _ _ (by kernel_rfl) (by kernel_rfl) hl)).trans (dep_of (Fact := F_invt g g4 b9 b10 nk nf f1 f2 f3 fb fo hf hg HH) hd 15 (by kernel_rfl))
        refine wpList_on rfl (t := 84) (by kernel_rfl) eg ?_
        have e := (hF 9).trans (look_out _ 9 _ _ (by kernel_rfl))
        exact rg_load 40 _ rfl rfl (b9) (0) [.string f1, .int .i64 f2, .int .i64 f3] e ((cellsK_gb (CellsK.row R9.out) hb HN9.out)) _ Tryd.underlying40 rfl (by kernel_rfl) ⟨_, rfl, RG.same _ _ _ _, rfl⟩
      · intro vs w' F hb hd hF hl hT hq
        have eg := ((hF 84).trans (look_at _ 84 15 _ _ (by kernel_rfl) (by kernel_rfl) hl)).trans (dep_of (Fact := F_invt g g4 b9 b10 nk nf f1 f2 f3 fb fo hf hg HH) hd 15 (by kernel_rfl))
        refine wpList_on rfl (t := 84) (by kernel_rfl) eg ?_
        have ea0 := ((hF 87).trans (look_at _ 87 18 _ _ (by kernel_rfl) (by kernel_rfl) hl)).trans (dep_of (Fact := F_invt g g4 b9 b10 nk nf f1 f2 f3 fb fo hf hg HH) hd 18 (by kernel_rfl))
        refine one_call _ _ rfl rfl (enters_of Tryd.func60 (by kernel_rfl) rfl) #[.agg #[.string f1, .int .i64 f2, .int .i64 f3]] (eval1 ea0) ?_
        refine (CFF.out w').mono ?_
        rintro e2 w2 ⟨rfl, hb2⟩
        exact ⟨_, rfl, _, rfl, RG.below (by decide) hb2, rfl⟩
      · intro vs w' F hb hd hF hl hT hq
        have eg := ((hF 84).trans (look_at _ 84 15 _ _ (by kernel_rfl) (by kernel_rfl) hl)).trans (dep_of (Fact := F_invt g g4 b9 b10 nk nf f1 f2 f3 fb fo hf hg HH) hd 15 (by kernel_rfl))
        refine wpList_on rfl (t := 84) (by kernel_rfl) eg ?_
        have e1 := ((hF 86).trans (look_at _ 86 17 _ _ (by kernel_rfl) (by kernel_rfl) hl)).trans (dep_of (Fact := F_invt g g4 b9 b10 nk nf f1 f2 f3 fb fo hf hg HH) hd 17 (by kernel_rfl))
        have e2 := ((hF 88).trans (look_at _ 88 19 _ _ (by kernel_rfl) (by kernel_rfl) hl)).trans (dep_of (Fact := F_invt g g4 b9 b10 nk nf f1 f2 f3 fb fo hf hg HH) hd 19 (by kernel_rfl))
        exact rg_geq _ _ _ _ rfl rfl .i64 (hg) (hf) HH e1 e2 (HHH.out) ⟨_, rfl, RG.same _ _ _ _, rfl⟩
      · intro vs w' F hb hd hF hl hT hq
        have ec := ((hF 84).trans (look_at _ 84 15 _ _ (by kernel_rfl) (by kernel_rfl) hl)).trans (dep_of (Fact := F_invt g g4 b9 b10 nk nf f1 f2 f3 fb fo hf hg HH) hd 15 (by kernel_rfl))
        have e := ((hF 89).trans (look_at _ 89 20 _ _ (by kernel_rfl) (by kernel_rfl) hl)).trans (dep_of (Fact := F_invt g g4 b9 b10 nk nf f1 f2 f3 fb fo hf hg HH) hd 20 (by kernel_rfl))
        exact one_pick_t _ _ _ rfl rfl _ ec e ⟨_, rfl, RG.same _ _ _ _, rfl⟩
      · intro vs w' F hb hd hF hl hT hq
        have e := (((hF 78).trans (look_at _ 78 9 _ _ (by kernel_rfl) (by kernel_rfl) hl)).trans (dep_of (Fact := F_invt g g4 b9 b10 nk nf f1 f2 f3 fb fo hf hg HH) hd 9 (by kernel_rfl)))
        have e4 := (hF 4).trans (look_out _ 4 _ _ (by kernel_rfl))
        have hbw := hq rfl
        refine wpList_store_rowP rfl 45 (.tmp 4) (.tmp 78) rfl g4 #[.int .i64 6, .string nk, .string nf, .string (⟨#[]⟩ : ByteArray), .int .i64 0, .string (⟨#[]⟩ : ByteArray), .int .i64 f2, .int .i64 f3, .string (⟨#[]⟩ : ByteArray), .slice none 0 0] e4 e _ _ (heap_below HRESD.out hbw) (by kernel_rfl) rfl (by simp [Value.oneCell']) ?_
        intro w9 hput
        exact ⟨_, rfl, RG.at_ rfl (gb_put hput), hput.here⟩
    · intro vs8 W8 hl hb hI
      have i9 : vs8.getD 9 undef = .agg #[.int .i64 6, .string nk, .string nf, .string (⟨#[]⟩ : ByteArray), .int .i64 0, .string (⟨#[]⟩ : ByteArray), .int .i64 f2, .int .i64 f3, .string (⟨#[]⟩ : ByteArray), .slice none 0 0] := hI 9 (by omega)
      have i21 : vs8.getD 21 undef = .bool HH := hI 21 (by omega)
      obtain ⟨x0, x1, x2, x3, x4, x5, x6, x7, x8, x9, x10, x11, x12, x13, x14, x15, x16, x17, x18, x19, x20, x21, x22, x23, hvs⟩ := list24 hl
      subst hvs
      replace i9 : x9 = .agg #[.int .i64 6, .string nk, .string nf, .string (⟨#[]⟩ : ByteArray), .int .i64 0, .string (⟨#[]⟩ : ByteArray), .int .i64 f2, .int .i64 f3, .string (⟨#[]⟩ : ByteArray), .slice none 0 0] := i9
      replace i21 : x21 = .bool HH := i21
      subst i9 i21
      have hh := hI 22 (by omega)
      have HH8 := Lib.hid (show W8.heap[g4]? = some (.cells #[.int .i64 6, .string nk, .string nf, .string (⟨#[]⟩ : ByteArray), .int .i64 0, .string (⟨#[]⟩ : ByteArray), .int .i64 f2, .int .i64 f3, .string (⟨#[]⟩ : ByteArray), .slice none 0 0] 45 (0, 0)) from hh)
      have HB8 := Lib.hid (show Below W.heap.size W W8 from HBD.out.trans ⟨hb.os, hb.tape, hb.output, hb.size, fun k hk => hb.block k (by have := HBD.out.size; omega) (fun e => by have := HG.out; injection e; omega)⟩)
      clear hI hl hb hh
      simp only [fillAll, Act.put, List.setIfInBounds_toArray, List.set_cons_succ, List.set_cons_zero, List.drop_succ_cons, List.drop_zero]
      go_wp2_with fail
      have hh := HH8.out
      refine bodyPost_ret (results_ct Tryd.results31 _ _ g4 45 #[.int .i64 6, .string nk, .string nf, .string (⟨#[]⟩ : ByteArray), .int .i64 0, .string (⟨#[]⟩ : ByteArray), .int .i64 f2, .int .i64 f3, .string (⟨#[]⟩ : ByteArray), .slice none 0 0] (0, 0) _ rfl hh Tryd.underlying45 rfl (by kernel_rfl)) rfl ?_
      exact InvPost.mk HVV.out HBR.out HB8.out
  · have HBR := Lib.hid (show invB ks y = false by rw [HB6.out, decide_eq_false hle]; rfl)
    refine wp_region_facts_r rfl 23 (by kernel_rfl) (fun a b => World.grownBy a b (some g4)) (gb_drew _ _) (fun _ _ _ h h2 => h.trans h2) (RG 22 (some g4)) RG.sub (F_invf g g4 b9 b10 nk nf f1 f2 f3 fb fo hf hg) (F_invf_mono g g4 b9 b10 nk nf f1 f2 f3 fb fo hf hg) 22 (fun w => Below wD.heap.size wD w) ((Below.refl wD.heap.size wD).drew) (fun i a b hi h ho => ho.trans ((h.1 hi).mono ho.size)) ?_ ?_
    · refine ⟨?_, ?_, ?_, ?_, ?_, ?_, ?_, ?_, ?_, ?_, ?_, ?_, ?_, ?_, ?_, ?_, ?_, ?_, ?_, ?_, ?_, ?_, ?_, trivial⟩
      · intro vs w' F hb hd hF hl hT hq
        have e := (hF 3).trans (look_out _ 3 _ _ (by kernel_rfl))
        exact one_field _ _ _ rfl rfl _ _ e (1) (fun w => by kernel_rfl) ⟨_, rfl, RG.same _ _ _ _, rfl⟩
      · intro vs w' F hb hd hF hl hT hq
        have e := ((hF 69).trans (look_at _ 69 0 _ _ (by kernel_rfl) (by kernel_rfl) hl)).trans (dep_of (Fact := F_invf g g4 b9 b10 nk nf f1 f2 f3 fb fo hf hg) hd 0 (by kernel_rfl))
        exact one_load _ _ rfl rfl _ _ e (World.grownBy.cell hb R1.out HNG.out) (by kernel_rfl) ⟨_, rfl, RG.same _ _ _ _, rfl⟩
      · intro vs w' F hb hd hF hl hT hq
        have e := (hF 3).trans (look_out _ 3 _ _ (by kernel_rfl))
        exact one_field _ _ _ rfl rfl _ _ e (2) (fun w => by kernel_rfl) ⟨_, rfl, RG.same _ _ _ _, rfl⟩
      · intro vs w' F hb hd hF hl hT hq
        have e := ((hF 71).trans (look_at _ 71 2 _ _ (by kernel_rfl) (by kernel_rfl) hl)).trans (dep_of (Fact := F_invf g g4 b9 b10 nk nf f1 f2 f3 fb fo hf hg) hd 2 (by kernel_rfl))
        exact one_load _ _ rfl rfl _ _ e (World.grownBy.cell hb R2.out HNG.out) (by kernel_rfl) ⟨_, rfl, RG.same _ _ _ _, rfl⟩
      · intro vs w' F hb hd hF hl hT hq
        have e := (hF 9).trans (look_out _ 9 _ _ (by kernel_rfl))
        exact one_field _ _ _ rfl rfl _ _ e (1) (fun w => by kernel_rfl) ⟨_, rfl, RG.same _ _ _ _, rfl⟩
      · intro vs w' F hb hd hF hl hT hq
        have e := ((hF 73).trans (look_at _ 73 4 _ _ (by kernel_rfl) (by kernel_rfl) hl)).trans (dep_of (Fact := F_invf g g4 b9 b10 nk nf f1 f2 f3 fb fo hf hg) hd 4 (by kernel_rfl))
        exact one_load _ _ rfl rfl _ _ e (World.grownBy.cell hb R91.out HN9.out) (by kernel_rfl) ⟨_, rfl, RG.same _ _ _ _, rfl⟩
      · intro vs w' F hb hd hF hl hT hq
        have e := (hF 9).trans (look_out _ 9 _ _ (by kernel_rfl))
        exact one_field _ _ _ rfl rfl _ _ e (2) (fun w => by kernel_rfl) ⟨_, rfl, RG.same _ _ _ _, rfl⟩
      · intro vs w' F hb hd hF hl hT hq
        have e := ((hF 75).trans (look_at _ 75 6 _ _ (by kernel_rfl) (by kernel_rfl) hl)).trans (dep_of (Fact := F_invf g g4 b9 b10 nk nf f1 f2 f3 fb fo hf hg) hd 6 (by kernel_rfl))
        exact one_load _ _ rfl rfl _ _ e (World.grownBy.cell hb R92.out HN9.out) (by kernel_rfl) ⟨_, rfl, RG.same _ _ _ _, rfl⟩
      · intro vs w' F hb hd hF hl hT hq
        have e1 := (((hF 74).trans (look_at _ 74 5 _ _ (by kernel_rfl) (by kernel_rfl) hl)).trans (dep_of (Fact := F_invf g g4 b9 b10 nk nf f1 f2 f3 fb fo hf hg) hd 5 (by kernel_rfl)))
        have e2 := (((hF 76).trans (look_at _ 76 7 _ _ (by kernel_rfl) (by kernel_rfl) hl)).trans (dep_of (Fact := F_invf g g4 b9 b10 nk nf f1 f2 f3 fb fo hf hg) hd 7 (by kernel_rfl)))
        exact one_build _ _ rfl rfl #[(1, .int .i64 f2), (2, .int .i64 f3)] (parts2 e1 e2) (.agg #[.string (⟨#[]⟩ : ByteArray), .int .i64 f2, .int .i64 f3]) (fun w => by kernel_rfl) ⟨_, rfl, RG.same _ _ _ _, rfl⟩
      · intro vs w' F hb hd hF hl hT hq
        have e1 := (((hF 70).trans (look_at _ 70 1 _ _ (by kernel_rfl) (by kernel_rfl) hl)).trans (dep_of (Fact := F_invf g g4 b9 b10 nk nf f1 f2 f3 fb fo hf hg) hd 1 (by kernel_rfl)))
        have e2 := (((hF 72).trans (look_at _ 72 3 _ _ (by kernel_rfl) (by kernel_rfl) hl)).trans (dep_of (Fact := F_invf g g4 b9 b10 nk nf f1 f2 f3 fb fo hf hg) hd 3 (by kernel_rfl)))
        have e3 := (((hF 77).trans (look_at _ 77 8 _ _ (by kernel_rfl) (by kernel_rfl) hl)).trans (dep_of (Fact := F_invf g g4 b9 b10 nk nf f1 f2 f3 fb fo hf hg) hd 8 (by kernel_rfl)))
        exact one_build _ _ rfl rfl #[(0, .int .i64 6), (1, .string nk), (2, .string nf), (5, .agg #[.string (⟨#[]⟩ : ByteArray), .int .i64 f2, .int .i64 f3])] (parts4 (x := .const (.int .i64 6)) rfl e1 e2 e3) (.agg #[.int .i64 6, .string nk, .string nf, .string (⟨#[]⟩ : ByteArray), .int .i64 0, .string (⟨#[]⟩ : ByteArray), .int .i64 f2, .int .i64 f3, .string (⟨#[]⟩ : ByteArray), .slice none 0 0]) (fun w => by kernel_rfl) ⟨_, rfl, RG.same _ _ _ _, rfl⟩
      · intro vs w' F hb hd hF hl hT hq
        have e := (hF 10).trans (look_out _ 10 _ _ (by kernel_rfl))
        exact one_field _ _ _ rfl rfl _ _ e (2) (fun w => by kernel_rfl) ⟨_, rfl, RG.same _ _ _ _, rfl⟩
      · intro vs w' F hb hd hF hl hT hq
        have e := ((hF 79).trans (look_at _ 79 10 _ _ (by kernel_rfl) (by kernel_rfl) hl)).trans (dep_of (Fact := F_invf g g4 b9 b10 nk nf f1 f2 f3 fb fo hf hg) hd 10 (by kernel_rfl))
        exact one_load _ _ rfl rfl _ _ e (World.grownBy.cell hb R102.out HN10.out) (by kernel_rfl) ⟨_, rfl, RG.same _ _ _ _, rfl⟩
      · intro vs w' F hb hd hF hl hT hq
        have e := (hF 9).trans (look_out _ 9 _ _ (by kernel_rfl))
        exact one_field _ _ _ rfl rfl _ _ e (2) (fun w => by kernel_rfl) ⟨_, rfl, RG.same _ _ _ _, rfl⟩
      · intro vs w' F hb hd hF hl hT hq
        have e := ((hF 81).trans (look_at _ 81 12 _ _ (by kernel_rfl) (by kernel_rfl) hl)).trans (dep_of (Fact := F_invf g g4 b9 b10 nk nf f1 f2 f3 fb fo hf hg) hd 12 (by kernel_rfl))
        exact one_load _ _ rfl rfl _ _ e (World.grownBy.cell hb R92.out HN9.out) (by kernel_rfl) ⟨_, rfl, RG.same _ _ _ _, rfl⟩
      · intro vs w' F hb hd hF hl hT hq
        have e1 := ((hF 80).trans (look_at _ 80 11 _ _ (by kernel_rfl) (by kernel_rfl) hl)).trans (dep_of (Fact := F_invf g g4 b9 b10 nk nf f1 f2 f3 fb fo hf hg) hd 11 (by kernel_rfl))
        have e2 := ((hF 82).trans (look_at _ 82 13 _ _ (by kernel_rfl) (by kernel_rfl) hl)).trans (dep_of (Fact := F_invf g g4 b9 b10 nk nf f1 f2 f3 fb fo hf hg) hd 13 (by kernel_rfl))
        exact rg_leq _ _ _ _ rfl rfl .i64 (fo) (f3) false e1 e2 (decide_eq_false (by omega)) ⟨_, rfl, RG.same _ _ _ _, rfl⟩
      · intro vs w' F hb hd hF hl hT hq
        have e := ((hF 83).trans (look_at _ 83 14 _ _ (by kernel_rfl) (by kernel_rfl) hl)).trans (dep_of (Fact := F_invf g g4 b9 b10 nk nf f1 f2 f3 fb fo hf hg) hd 14 (by kernel_rfl))
        exact one_move _ rfl (by first | exact Or.inl rfl | exact Or.inr rfl) ⟨_, rfl, RG.same _ _ _ _, e⟩
      · intro vs w' F hb hd hF hl hT hq
        have eg := ((hF 84).trans (look_at _ 84 15 _ _ (by kernel_rfl) (by kernel_rfl) hl)).trans (dep_of (Fact := F_invf g g4 b9 b10 nk nf f1 f2 f3 fb fo hf hg) hd 15 (by kernel_rfl))
        exact wpList_off rfl (t := 84) (d := false) (by kernel_rfl) eg (by decide) ⟨_, rfl, RG.same _ _ _ _, rfl⟩
      · intro vs w' F hb hd hF hl hT hq
        have eg := ((hF 84).trans (look_at _ 84 15 _ _ (by kernel_rfl) (by kernel_rfl) hl)).trans (dep_of (Fact := F_invf g g4 b9 b10 nk nf f1 f2 f3 fb fo hf hg) hd 15 (by kernel_rfl))
        exact wpList_off rfl (t := 84) (d := false) (by kernel_rfl) eg (by decide) ⟨_, rfl, RG.same _ _ _ _, rfl⟩
      · intro vs w' F hb hd hF hl hT hq
        have eg := ((hF 84).trans (look_at _ 84 15 _ _ (by kernel_rfl) (by kernel_rfl) hl)).trans (dep_of (Fact := F_invf g g4 b9 b10 nk nf f1 f2 f3 fb fo hf hg) hd 15 (by kernel_rfl))
        exact wpList_off rfl (t := 84) (d := false) (by kernel_rfl) eg (by decide) ⟨_, rfl, RG.same _ _ _ _, rfl⟩
      · intro vs w' F hb hd hF hl hT hq
        have eg := ((hF 84).trans (look_at _ 84 15 _ _ (by kernel_rfl) (by kernel_rfl) hl)).trans (dep_of (Fact := F_invf g g4 b9 b10 nk nf f1 f2 f3 fb fo hf hg) hd 15 (by kernel_rfl))
        exact wpList_off rfl (t := 84) (d := false) (by kernel_rfl) eg (by decide) ⟨_, rfl, RG.same _ _ _ _, rfl⟩
      · intro vs w' F hb hd hF hl hT hq
        have eg := ((hF 84).trans (look_at _ 84 15 _ _ (by kernel_rfl) (by kernel_rfl) hl)).trans (dep_of (Fact := F_invf g g4 b9 b10 nk nf f1 f2 f3 fb fo hf hg) hd 15 (by kernel_rfl))
        exact wpList_off rfl (t := 84) (d := false) (by kernel_rfl) eg (by decide) ⟨_, rfl, RG.same _ _ _ _, rfl⟩
      · intro vs w' F hb hd hF hl hT hq
        have ec := ((hF 84).trans (look_at _ 84 15 _ _ (by kernel_rfl) (by kernel_rfl) hl)).trans (dep_of (Fact := F_invf g g4 b9 b10 nk nf f1 f2 f3 fb fo hf hg) hd 15 (by kernel_rfl))
        exact one_pick_f _ _ _ rfl rfl _ ec rfl ⟨_, rfl, RG.same _ _ _ _, rfl⟩
      · intro vs w' F hb hd hF hl hT hq
        have e := (((hF 78).trans (look_at _ 78 9 _ _ (by kernel_rfl) (by kernel_rfl) hl)).trans (dep_of (Fact := F_invf g g4 b9 b10 nk nf f1 f2 f3 fb fo hf hg) hd 9 (by kernel_rfl)))
        have e4 := (hF 4).trans (look_out _ 4 _ _ (by kernel_rfl))
        have hbw := hq rfl
        refine wpList_store_rowP rfl 45 (.tmp 4) (.tmp 78) rfl g4 #[.int .i64 6, .string nk, .string nf, .string (⟨#[]⟩ : ByteArray), .int .i64 0, .string (⟨#[]⟩ : ByteArray), .int .i64 f2, .int .i64 f3, .string (⟨#[]⟩ : ByteArray), .slice none 0 0] e4 e _ _ (heap_below HRESD.out hbw) (by kernel_rfl) rfl (by simp [Value.oneCell']) ?_
        intro w9 hput
        exact ⟨_, rfl, RG.at_ rfl (gb_put hput), hput.here⟩
    · intro vs8 W8 hl hb hI
      have i9 : vs8.getD 9 undef = .agg #[.int .i64 6, .string nk, .string nf, .string (⟨#[]⟩ : ByteArray), .int .i64 0, .string (⟨#[]⟩ : ByteArray), .int .i64 f2, .int .i64 f3, .string (⟨#[]⟩ : ByteArray), .slice none 0 0] := hI 9 (by omega)
      have i21 : vs8.getD 21 undef = .bool false := hI 21 (by omega)
      obtain ⟨x0, x1, x2, x3, x4, x5, x6, x7, x8, x9, x10, x11, x12, x13, x14, x15, x16, x17, x18, x19, x20, x21, x22, x23, hvs⟩ := list24 hl
      subst hvs
      replace i9 : x9 = .agg #[.int .i64 6, .string nk, .string nf, .string (⟨#[]⟩ : ByteArray), .int .i64 0, .string (⟨#[]⟩ : ByteArray), .int .i64 f2, .int .i64 f3, .string (⟨#[]⟩ : ByteArray), .slice none 0 0] := i9
      replace i21 : x21 = .bool false := i21
      subst i9 i21
      have hh := hI 22 (by omega)
      have HH8 := Lib.hid (show W8.heap[g4]? = some (.cells #[.int .i64 6, .string nk, .string nf, .string (⟨#[]⟩ : ByteArray), .int .i64 0, .string (⟨#[]⟩ : ByteArray), .int .i64 f2, .int .i64 f3, .string (⟨#[]⟩ : ByteArray), .slice none 0 0] 45 (0, 0)) from hh)
      have HB8 := Lib.hid (show Below W.heap.size W W8 from HBD.out.trans ⟨hb.os, hb.tape, hb.output, hb.size, fun k hk => hb.block k (by have := HBD.out.size; omega) (fun e => by have := HG.out; injection e; omega)⟩)
      clear hI hl hb hh
      simp only [fillAll, Act.put, List.setIfInBounds_toArray, List.set_cons_succ, List.set_cons_zero, List.drop_succ_cons, List.drop_zero]
      go_wp2_with fail
      have hh := HH8.out
      refine bodyPost_ret (results_ct Tryd.results31 _ _ g4 45 #[.int .i64 6, .string nk, .string nf, .string (⟨#[]⟩ : ByteArray), .int .i64 0, .string (⟨#[]⟩ : ByteArray), .int .i64 f2, .int .i64 f3, .string (⟨#[]⟩ : ByteArray), .slice none 0 0] (0, 0) _ rfl hh Tryd.underlying45 rfl (by kernel_rfl)) rfl ?_
      exact InvPost.mk HVV.out HBR.out HB8.out
end Go.Proofs.YtijeninfmjhbnaaDoor
end
