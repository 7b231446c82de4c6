/- Lemmas for the law SystemChecks: SystEq, Allocs, SystArg, MapLook, RefOpP, SystErrP, RefF. No conditions. -/
import Derived.Test.YtijeninfmjhbnaaDoorM12
import Derived.Test.YtijeninfmjhbnaaDoorM01
import Derived.Test.YtijeninfmjhbnaaDoorM07
import Derived.Test.YtijeninfmjhbnaaDoorM06
import Derived.Test.YtijeninfmjhbnaaDoorM05
/- == of references and arguments. -/
section
namespace Go.Proofs.YtijeninfmjhbnaaDoor
open Go.ChangeShapes Go.WideShapes Go.ChangeAt Go.RowKit Go.Nm Go.Mem
set_option linter.unusedVariables false
theorem eqRef (a b c d : Int) (w : World) : (Op.equalIn 10000 53 (.agg #[.int .i64 a, .int .i64 b]) (.agg #[.int .i64 c, .int .i64 d])).run Tryd.prog w = .ok (decide (a = c) && decide (b = d)) w := by
  have u3 := Tryd.underlying3
  have a3 := Tryd.isAgg3
  have z3 := Tryd.sizeOf3
  rw [show (10000 : Nat) = 9999 + 1 from rfl, Op.equalIn]
  simp only [Sem.run_bind, run_underlying Tryd.underlying53, Result.andThen_ok]
  go_simp
  by_cases h1 : a = c <;> by_cases h2 : b = d <;> simp [h1, h2]
theorem eqArg (p q : Bool) (a b c d e f : Int) (w : World) : (Op.equalIn 10000 55 (.agg #[.bool p, .int .i64 a, .int .i64 b, .int .i64 c]) (.agg #[.bool q, .int .i64 d, .int .i64 e, .int .i64 f])).run Tryd.prog w = .ok (decide (p = q) && (decide (a = d) && (decide (b = e) && decide (c = f)))) w := by
  have u3 := Tryd.underlying3
  have a3 := Tryd.isAgg3
  have z3 := Tryd.sizeOf3
  have u4 := Tryd.underlying4
  have a4 := Tryd.isAgg4
  have z4 := Tryd.sizeOf4
  have ue := Tryd.underlying53
  have ae := Tryd.isAgg53
  have ze := Tryd.sizeOf53
  rw [show (10000 : Nat) = 9998 + 1 + 1 from rfl, Op.equalIn]
  simp only [Sem.run_bind, run_underlying Tryd.underlying55, Result.andThen_ok]
  go_simp
  cases p <;> cases q <;> by_cases h1 : a = d <;> by_cases h2 : b = e <;> by_cases h3 : c = f <;> simp [h1, h2, h3]
theorem eqRef_ne {a b c d : Int} (h : ¬ (a = c ∧ b = d)) (w : World) : (Op.equalIn 10000 53 (.agg #[.int .i64 a, .int .i64 b]) (.agg #[.int .i64 c, .int .i64 d])).run Tryd.prog w = .ok false w := by
  rw [eqRef]
  congr 1
  by_cases h1 : a = c
  · rw [decide_eq_true h1, decide_eq_false (fun h2 => h ⟨h1, h2⟩)]; rfl
  · rw [decide_eq_false h1]; rfl
theorem eqRefZ (a b : Int) (w : World) : (Op.equalIn 10000 53 (.agg #[.int .i64 a, .int .i64 b]) (.agg #[.int .i64 0, .int .i64 0])).run Tryd.prog w = .ok (decide (a = 0) && decide (b = 0)) w := eqRef a b 0 0 w
theorem eqArgZ (x : ArgV) (w : World) : (Op.equalIn 10000 55 (.agg #[.bool x.has, .int .i64 x.n, .int .i64 x.rk, .int .i64 x.rf]) (.agg #[.bool false, .int .i64 0, .int .i64 0, .int .i64 0])).run Tryd.prog w = .ok (zeroB x) w := by
  rw [eqArg]
  unfold zeroB
  cases x.has <;> rfl
end Go.Proofs.YtijeninfmjhbnaaDoor
end
/- A chain of three rows made. -/
section
namespace Go.Proofs.YtijeninfmjhbnaaDoor
open Go.ChangeShapes Go.WideShapes Go.ChangeAt Go.RowKit Go.Mem
theorem al3_1 (w : World) (o1 o2 o3 : Obj) : (((w.alloc o1).alloc o2).alloc o3).heap[w.heap.size]? = some o1 := heap_keep (heap_keep (heap_alloc_new w o1) _) _
theorem al3_2 (w : World) (o1 o2 o3 : Obj) : (((w.alloc o1).alloc o2).alloc o3).heap[w.heap.size + 1]? = some o2 := by
  have := heap_keep (heap_alloc_new (w.alloc o1) o2) o3
  simpa using this
theorem al3_3 (w : World) (o1 o2 o3 : Obj) : (((w.alloc o1).alloc o2).alloc o3).heap[w.heap.size + 1 + 1]? = some o3 := by
  have := heap_alloc_new ((w.alloc o1).alloc o2) o3
  simpa using this
theorem al3_b (w : World) (o1 o2 o3 : Obj) : Below w.heap.size w (((w.alloc o1).alloc o2).alloc o3) := (((Below.refl w.heap.size w).alloc (Nat.le_refl _) o1).alloc (by simp) o2).alloc (by simp; omega) o3
end Go.Proofs.YtijeninfmjhbnaaDoor
end
/- Arguments of an operation in a slice literal. -/
section
namespace Go.Proofs.YtijeninfmjhbnaaDoor
open Go.ChangeShapes Go.WideShapes Go.ChangeAt Go.RowKit Go.Nm Go.Mem
set_option linter.unusedVariables false
def argOf (o : OpV) (i : Nat) : ArgV := if i = 0 then o.a else o.b
theorem args_cells {w : World} {g : Nat} {o : OpV} (h : w.heap[g]? = some (.cells #[.bool o.a.has, .int .i64 o.a.n, .int .i64 o.a.rk, .int .i64 o.a.rf, .bool o.b.has, .int .i64 o.b.n, .int .i64 o.b.rk, .int .i64 o.b.rf] 55 (0, 0))) (i : Nat) (hi : i < 2) :
    w.cell? ⟨g, i * 4, none⟩ = some (.bool (argOf o i).has) ∧ w.cell? ⟨g, i * 4 + 1, none⟩ = some (.int .i64 (argOf o i).n) ∧ w.cell? ⟨g, i * 4 + 2, none⟩ = some (.int .i64 (argOf o i).rk) ∧ w.cell? ⟨g, i * 4 + 3, none⟩ = some (.int .i64 (argOf o i).rf) := by
  rcases (show i = 0 ∨ i = 1 by omega) with rfl | rfl
  · exact ⟨cell_of_row _ _ 0 _ _ _ h, cell_of_row _ _ 1 _ _ _ h, cell_of_row _ _ 2 _ _ _ h, cell_of_row _ _ 3 _ _ _ h⟩
  · exact ⟨cell_of_row _ _ 4 _ _ _ h, cell_of_row _ _ 5 _ _ _ h, cell_of_row _ _ 6 _ _ _ h, cell_of_row _ _ 7 _ _ _ h⟩
theorem argOf_any {p : ArgV → Bool} {o : OpV} {i : Nat} (hi : i < 2) (h : p (argOf o i) = true) : (p o.a || p o.b) = true := by
  rcases (show i = 0 ∨ i = 1 by omega) with rfl | rfl
  · have : p o.a = true := h
    rw [this]; rfl
  · have : p o.b = true := h
    rw [this]; simp
theorem argOf_none {p : ArgV → Bool} {o : OpV} (h : ∀ j, j < 2 → p (argOf o j) = false) : ¬ (p o.a || p o.b) = true := by
  have h0 : p o.a = false := h 0 (by omega)
  have h1 : p o.b = false := h 1 (by omega)
  rw [h0, h1]; decide
end Go.Proofs.YtijeninfmjhbnaaDoor
end
/- A look-up in a map of the call's own: its run. -/
section
namespace Go.Proofs.YtijeninfmjhbnaaDoor
open Go.ChangeShapes Go.WideShapes Go.ChangeAt Go.RowKit Go.Mem Go.Maps
set_option linter.unusedVariables false
set_option maxRecDepth 100000 in
theorem run_lookM {w : World} {t k e : TypeId} {M n : Nat} {D : DataW Value} {z v key : Value} {kl : Lit} (h : w.ownsMap Tryd.prog k RV M n D) (K : Keyed Tryd.prog k) (ht : Tryd.prog.underlying t = some (.map k e)) (hz : (zeroValue e).run Tryd.prog w = .ok z w) (hk : keyOf Tryd.prog k key = some kl) (hv : D.atKey kl (.held z) = .held v) :
    (Instr.lookup t (.map (some M)) key false).run Tryd.prog w = .ok v w := by
  obtain ⟨v', ps, hrun, hv'⟩ := World.ownsMap.lookup (zd := .held z) (zp := []) h K ht hz rfl hk
  rw [hv] at hv'
  injection hv' with hv'
  injection hv' with hv' _
  injection hv' with hv'
  subst hv'
  exact hrun
theorem zero_bool (w : World) : (zeroValue 4).run Tryd.prog w = .ok (.bool false) w := by kernel_rfl
/-- a set of numbers as a map -/
def HasM (w : World) (M n : Nat) (H : Int → Bool) : Prop := ∃ D, OwnV w M n D ∧ ∀ z : Int, (Lit.int .i64 z).wf = true → D.atKey (.int .i64 z) (.held (.bool false)) = .held (.bool (H z))
theorem HasM.look {w : World} {M n : Nat} {H : Int → Bool} (h : HasM w M n H) (z : Int) (hz : (Lit.int .i64 z).wf = true) : (Instr.lookup 69 (.map (some M)) (.int .i64 z) false).run Tryd.prog w = .ok (.bool (H z)) w := by
  obtain ⟨D, h1, h2⟩ := h
  exact run_lookM h1 keyInt Tryd.underlying69 (zero_bool w) (keyOf_int_mk Tryd.underlying3 hz) (h2 z hz)
theorem HasM.kept {w w' : World} {M n : Nat} {H : Int → Bool} {row : Option Nat} (h : HasM w M n H) (hg : w.grownBy w' row) (hr : some M ≠ row) : HasM w' M n H := by
  obtain ⟨D, h1, h2⟩ := h
  exact ⟨D, h1.kept hg hr, h2⟩
theorem HasM.below {w w' : World} {M n : Nat} {H : Int → Bool} (h : HasM w M n H) (hb : Below w.heap.size w w') : HasM w' M n H := h.kept (below_gn hb none) (by simp)
theorem HasM.made (w : World) : HasM (w.alloc (.map #[] 0)) w.heap.size 0 (fun _ => false) := ⟨.map [], World.ownsMap_made w Tryd.prog 3 RV, fun z _ => rfl⟩
theorem HasM.put {w : World} {M n : Nat} {H : Int → Bool} {D : DataW Value} {k : Int} (h : OwnV w M n (D.put (.int .i64 k) (.held (.bool true)))) (hm : ∃ w0 n0, OwnV w0 M n0 D) (hD : ∀ z : Int, (Lit.int .i64 z).wf = true → D.atKey (.int .i64 z) (.held (.bool false)) = .held (.bool (H z))) : HasM w M n (fun z => if z = k then true else H z) := by
  obtain ⟨w0, n0, h0⟩ := hm
  refine ⟨_, h, fun z hz => ?_⟩
  by_cases e : z = k
  · subst e
    rw [Maps.atKey_put_same (World.ownsMap.isMap h0) (show WideAt.IsKeyLit (.int .i64 z) from trivial)]
    simp
  · rw [Maps.atKey_put_other (fun e2 => e (by injection e2 with _ e2))]
    simp only [if_neg e]
    exact hD z hz
end Go.Proofs.YtijeninfmjhbnaaDoor
end
/- What the walk of tourref3.opError leans on: bounds of a reference; a look-up at a key that is reckoned. -/
section
namespace Go.Proofs.YtijeninfmjhbnaaDoor
open Go.ChangeShapes Go.WideShapes Go.ChangeAt Go.RowKit Go.Nm Go.Mem Go.Maps
set_option linter.unusedVariables false
theorem refOk_bounds {ks : List KindV} {n : Nat} {rk rf : Int} (hn : ks.length = n) (h : refOk ks rk rf = true) : 0 ≤ rk ∧ rk < n := by
  unfold refOk at h
  simp only [Bool.and_eq_true, decide_eq_true_eq] at h
  exact ⟨h.1, by rw [← hn]; exact h.2.1⟩
theorem a1B_bounds {ks : List KindV} {n : Nat} {x : ArgV} (hn : ks.length = n) (h : a1B ks x = false) : x.has = true → 0 ≤ x.rk ∧ x.rk < n := by
  intro hh
  unfold a1B at h
  rw [if_pos hh] at h
  exact refOk_bounds hn (by simpa using h)
theorem wf_int {z : Int} (h0 : 0 ≤ z) (h1 : z ≤ 9223372036854775807) : (Lit.int .i64 z).wf = true := by
  simp [Lit.wf, IntKind.min, IntKind.max, IntKind.bits, IntKind.signed]
  omega
theorem look_at_key {w : World} {M n : Nat} {H : Int → Bool} (h : HasM w M n H) (d k : Int) (hd0 : 0 ≤ d) (hd : d ≤ 1000) (h0 : 0 ≤ k) (h1 : k ≤ 1048576) : ∃ z : Int, IntKind.i64.wrap (d + k) = z ∧ (Instr.lookup 69 (.map (some M)) (.int .i64 z) false).run Tryd.prog w = .ok (.bool (H (d + k))) w := by
  refine ⟨d + k, ?_, h.look _ (wf_int (by omega) (by omega))⟩
  rw [IntKind.wrap_i64]
  omega
end Go.Proofs.YtijeninfmjhbnaaDoor
end
/- What the walk of tourref3.SystemError leans on: which numbers are in the map of the four lists. -/
section
namespace Go.Proofs.YtijeninfmjhbnaaDoor
open Go.ChangeShapes Go.WideShapes Go.ChangeAt Go.RowKit Go.Nm Go.Mem Go.Maps
set_option linter.unusedVariables false
theorem sysdrop_at (x : List Int) (i : Nat) (h : i < x.length) : x.drop i = x.getD i 0 :: x.drop (i + 1) := by
  rw [List.drop_eq_getElem_cons h, List.getD_eq_getElem?_getD, List.getElem?_eq_getElem h]
  rfl
def PL (s : SystV) (i q : Nat) (l : List Int) (z : Int) : Prop := (∃ j, j < i ∧ ∃ x ∈ (fourL s).getD j [], z = 100 * (j : Int) + x) ∨ ∃ p, p < q ∧ z = 100 * (i : Int) + l.getD p 0
theorem PL_start (s : SystV) (l : List Int) (z : Int) : ¬ PL s 0 0 l z := by
  rintro (⟨j, hj, _⟩ | ⟨p, hp, _⟩) <;> omega
theorem PL_zero {s : SystV} {i : Nat} {l l' : List Int} {z : Int} : PL s i 0 l z ↔ PL s i 0 l' z := by
  unfold PL
  constructor
  · rintro (h | ⟨p, hp, _⟩)
    · exact Or.inl h
    · omega
  · rintro (h | ⟨p, hp, _⟩)
    · exact Or.inl h
    · omega
theorem PL_push {s : SystV} {i q : Nat} {l : List Int} {z : Int} : PL s i (q + 1) l z ↔ z = 100 * (i : Int) + l.getD q 0 ∨ PL s i q l z := by
  unfold PL
  constructor
  · rintro (h | ⟨p, hp, e⟩)
    · exact Or.inr (Or.inl h)
    · by_cases hpq : p = q
      · subst hpq; exact Or.inl e
      · exact Or.inr (Or.inr ⟨p, by omega, e⟩)
  · rintro (e | h | ⟨p, hp, e⟩)
    · exact Or.inr ⟨q, by omega, e⟩
    · exact Or.inl h
    · exact Or.inr ⟨p, by omega, e⟩
theorem PL_next {s : SystV} {i : Nat} {l l' : List Int} (hl : (fourL s).getD i [] = l) {z : Int} : PL s i l.length l z ↔ PL s (i + 1) 0 l' z := by
  unfold PL
  constructor
  · rintro (⟨j, hj, h⟩ | ⟨p, hp, e⟩)
    · exact Or.inl ⟨j, by omega, h⟩
    · exact Or.inl ⟨i, by omega, l.getD p 0, by rw [hl]; exact getD_mem hp, e⟩
  · rintro (⟨j, hj, x, hx, e⟩ | ⟨p, hp, _⟩)
    · by_cases hji : j = i
      · subst hji
        rw [hl] at hx
        obtain ⟨p, hp, rfl⟩ := mem_getD hx
        exact Or.inr ⟨p, hp, e⟩
      · exact Or.inl ⟨j, by omega, x, hx, e⟩
    · omega
theorem setGo_all {n : Nat} : ∀ {l : List Int} {last : Int}, setGo n last l = 0 → ∀ x ∈ l, 0 ≤ x ∧ x < n
  | [], _, _, x, hx => by cases hx
  | y :: r, last, h, x, hx => by
    unfold setGo at h
    split at h
    · cases h
    · rename_i h1
      split at h
      · cases h
      · rcases List.mem_cons.1 hx with rfl | hx
        · omega
        · exact setGo_all h x hx
theorem four_bound {n : Nat} {s : SystV} (h : ∀ l ∈ fourL s, setE n l = 0) (j : Nat) : ∀ x ∈ (fourL s).getD j [], 0 ≤ x ∧ x < n := by
  intro x hx
  by_cases hj : j < (fourL s).length
  · exact setGo_all (h _ (by rw [List.getD_eq_getElem?_getD, List.getElem?_eq_getElem hj]; exact List.getElem_mem _)) x hx
  · rw [List.getD_eq_getElem?_getD, List.getElem?_eq_none (by omega)] at hx
    cases hx
theorem PL_at {n : Nat} {s : SystV} {l : List Int} (hn : n ≤ 16) (h : ∀ l ∈ fourL s, setE n l = 0) (j : Nat) (hj : j < 4) (x : Int) (h0 : 0 ≤ x) (h1 : x < n) : PL s 4 0 l (100 * (j : Int) + x) ↔ x ∈ (fourL s).getD j [] := by
  unfold PL
  constructor
  · rintro (⟨i, hi, y, hy, e⟩ | ⟨p, hp, _⟩)
    · have := four_bound h i y hy
      obtain rfl : i = j := by omega
      obtain rfl : x = y := by omega
      exact hy
    · omega
  · intro hx
    exact Or.inl ⟨j, hj, x, hx, rfl⟩
theorem PL_is {n : Nat} {s : SystV} (hn : n ≤ 16) (h : ∀ l ∈ fourL s, setE n l = 0) (j : Nat) (hj : j < 4) (l : List Int) (hl : (fourL s).getD j [] = l) (d : Int) (hd : d = 100 * (j : Int)) (x : Int) (h0 : 0 ≤ x) (h1 : x < n) : PL s 4 0 [] (d + x) ↔ x ∈ l := by
  rw [hd, ← hl]
  exact PL_at hn h j hj x h0 h1
theorem any_inP {l y : List Int} : (l.any fun x => inP x y) = true ↔ ∃ x ∈ l, x ∈ y := by
  rw [List.any_eq_true]
  constructor
  · rintro ⟨x, hx, h⟩; exact ⟨x, hx, by unfold inP at h; simpa using h⟩
  · rintro ⟨x, hx, h⟩; exact ⟨x, hx, by unfold inP; simpa using h⟩
theorem any_outP {l y : List Int} : (l.any fun x => outP x y) = true ↔ ∃ x ∈ l, ¬ x ∈ y := by
  rw [List.any_eq_true]
  constructor
  · rintro ⟨x, hx, h⟩; exact ⟨x, hx, by unfold outP at h; simpa using h⟩
  · rintro ⟨x, hx, h⟩; exact ⟨x, hx, by unfold outP; simpa using h⟩
/-- a map of numbers with a property -/
def HasP (w : World) (M c : Nat) (P : Int → Prop) : Prop := ∃ m H, m ≤ c ∧ HasM w M m H ∧ ∀ z, H z = true ↔ P z
theorem HasP.below {w w' : World} {M c : Nat} {P : Int → Prop} (h : HasP w M c P) (hb : Below w.heap.size w w') : HasP w' M c P := by
  obtain ⟨m, H, h1, h2, h3⟩ := h
  exact ⟨m, H, h1, h2.below hb, h3⟩
theorem HasP.iff {w : World} {M c c' : Nat} {P Q : Int → Prop} (h : HasP w M c P) (hc : c ≤ c') (hpq : ∀ z, P z ↔ Q z) : HasP w M c' Q := by
  obtain ⟨m, H, h1, h2, h3⟩ := h
  exact ⟨m, H, Nat.le_trans h1 hc, h2, fun z => (h3 z).trans (hpq z)⟩
theorem HasP.look {w : World} {M c : Nat} {P : Int → Prop} (h : HasP w M c P) (z : Int) (h0 : 0 ≤ z) (h1 : z ≤ 9223372036854775807) : ∃ b, (b = true ↔ P z) ∧ (Instr.lookup 69 (.map (some M)) (.int .i64 z) false).run Tryd.prog w = .ok (.bool b) w := by
  obtain ⟨m, H, g1, g2, g3⟩ := h
  exact ⟨H z, g3 z, g2.look z (wf_int h0 h1)⟩
end Go.Proofs.YtijeninfmjhbnaaDoor
end
/- The closure of tourref3.opError: whether there is a field. By program (gen_reff.py). -/
section
namespace Go.Proofs.YtijeninfmjhbnaaDoor
open Go.ChangeShapes Go.WideShapes Go.ChangeAt Go.RowKit Go.Nm Go.Mem
set_option linter.unusedVariables false
def F_refa (KB WB n cap : Nat) (a : Option Addr) (rk rf : Int) (jq : Nat) (v : Value) (w : World) : Prop :=
  match jq with
  | 0 => v = .pointer (some ⟨WB, 0, none⟩)
  | 1 => v = .int .i64 rk
  | 2 => v = .bool false
  | 3 => v = .bool false
  | 4 => v = undef
  | 5 => v = undef
  | 6 => v = undef
  | 7 => v = undef
  | 8 => v = undef
  | 9 => v = .bool false
  | 10 => v = .bool false
  | 11 => v = undef
  | 12 => v = undef
  | 13 => v = undef
  | 14 => v = .bool false
  | 15 => v = .bool false
  | 16 => v = undef
  | 17 => v = undef
  | 18 => v = undef
  | 19 => v = undef
  | 20 => v = undef
  | 21 => v = undef
  | 22 => v = undef
  | 23 => v = undef
  | 24 => v = undef
  | 25 => v = undef
  | 26 => v = .bool false
  | 27 => v = .bool false
  | _ => True
theorem F_refa_mono (KB WB n cap : Nat) (a : Option Addr) (rk rf : Int) : Facts (F_refa KB WB n cap  a  rk rf ) := ⟨by
  intro jq v w w' h hb
  unfold F_refa at h ⊢
  split at h
  all_goals first
    | exact h
    | trivial⟩
def F_refb (KB WB n cap : Nat) (a : Option Addr) (rk rf : Int) (jq : Nat) (v : Value) (w : World) : Prop :=
  match jq with
  | 0 => v = .pointer (some ⟨WB, 0, none⟩)
  | 1 => v = .int .i64 rk
  | 2 => v = .bool true
  | 3 => v = .bool true
  | 4 => v = .pointer (some ⟨WB, 0, none⟩)
  | 5 => v = .int .i64 rk
  | 6 => v = .slice a n cap
  | 7 => v = .int .i64 (n : Int)
  | 8 => v = .bool false
  | 9 => v = .bool false
  | 10 => v = .bool false
  | 11 => v = undef
  | 12 => v = undef
  | 13 => v = undef
  | 14 => v = .bool false
  | 15 => v = .bool false
  | 16 => v = undef
  | 17 => v = undef
  | 18 => v = undef
  | 19 => v = undef
  | 20 => v = undef
  | 21 => v = undef
  | 22 => v = undef
  | 23 => v = undef
  | 24 => v = undef
  | 25 => v = undef
  | 26 => v = .bool false
  | 27 => v = .bool false
  | _ => True
theorem F_refb_mono (KB WB n cap : Nat) (a : Option Addr) (rk rf : Int) : Facts (F_refb KB WB n cap  a  rk rf ) := ⟨by
  intro jq v w w' h hb
  unfold F_refb at h ⊢
  split at h
  all_goals first
    | exact h
    | trivial⟩
def F_refc (KB WB n cap kb ko q : Nat) (rf : Int) (af : Option Addr) (nf cf : Nat) (BB : Bool) (jq : Nat) (v : Value) (w : World) : Prop :=
  match jq with
  | 0 => v = .pointer (some ⟨WB, 0, none⟩)
  | 1 => v = .int .i64 (q : Int)
  | 2 => v = .bool true
  | 3 => v = .bool true
  | 4 => v = .pointer (some ⟨WB, 0, none⟩)
  | 5 => v = .int .i64 (q : Int)
  | 6 => v = .slice (some ⟨kb, ko, none⟩) n cap
  | 7 => v = .int .i64 (n : Int)
  | 8 => v = .bool true
  | 9 => v = .bool true
  | 10 => v = .bool true
  | 11 => v = .pointer (some ⟨WB, 1, none⟩)
  | 12 => v = .int .i64 rf
  | 13 => v = .bool false
  | 14 => v = .bool false
  | 15 => v = .bool false
  | 16 => v = undef
  | 17 => v = undef
  | 18 => v = undef
  | 19 => v = undef
  | 20 => v = undef
  | 21 => v = undef
  | 22 => v = undef
  | 23 => v = undef
  | 24 => v = undef
  | 25 => v = undef
  | 26 => v = .bool false
  | 27 => v = .bool false
  | _ => True
theorem F_refc_mono (KB WB n cap kb ko q : Nat) (rf : Int) (af : Option Addr) (nf cf : Nat) (BB : Bool) : Facts (F_refc KB WB n cap kb ko q  rf  af  nf cf  BB ) := ⟨by
  intro jq v w w' h hb
  unfold F_refc at h ⊢
  split at h
  all_goals first
    | exact h
    | trivial⟩
def F_refd (KB WB n cap kb ko q : Nat) (rf : Int) (af : Option Addr) (nf cf : Nat) (BB : Bool) (jq : Nat) (v : Value) (w : World) : Prop :=
  match jq with
  | 0 => v = .pointer (some ⟨WB, 0, none⟩)
  | 1 => v = .int .i64 (q : Int)
  | 2 => v = .bool true
  | 3 => v = .bool true
  | 4 => v = .pointer (some ⟨WB, 0, none⟩)
  | 5 => v = .int .i64 (q : Int)
  | 6 => v = .slice (some ⟨kb, ko, none⟩) n cap
  | 7 => v = .int .i64 (n : Int)
  | 8 => v = .bool true
  | 9 => v = .bool true
  | 10 => v = .bool true
  | 11 => v = .pointer (some ⟨WB, 1, none⟩)
  | 12 => v = .int .i64 rf
  | 13 => v = .bool true
  | 14 => v = .bool true
  | 15 => v = .bool true
  | 16 => v = .pointer (some ⟨WB, 1, none⟩)
  | 17 => v = .int .i64 rf
  | 18 => v = .slice (some ⟨kb, ko, none⟩) n cap
  | 19 => v = .pointer (some ⟨WB, 0, none⟩)
  | 20 => v = .int .i64 (q : Int)
  | 21 => v = .pointer (some ⟨kb, ko + q * 2, none⟩)
  | 22 => v = .pointer (some ⟨kb, ko + q * 2 + 1, none⟩)
  | 23 => v = .slice af nf cf
  | 24 => v = .int .i64 (nf : Int)
  | 25 => v = .bool BB
  | 26 => v = .bool BB
  | 27 => v = .bool BB
  | _ => True
theorem F_refd_mono (KB WB n cap kb ko q : Nat) (rf : Int) (af : Option Addr) (nf cf : Nat) (BB : Bool) : Facts (F_refd KB WB n cap kb ko q  rf  af  nf cf  BB ) := ⟨by
  intro jq v w w' h hb
  unfold F_refd at h ⊢
  split at h
  all_goals first
    | exact h
    | trivial⟩

set_option maxRecDepth 20000 in
theorem ref_there (ks : List KindV) (a : Option Addr) (n cap : Nat) (KB : Nat) (rk rf : Int) (hn : ks.length = n) (h1 : n ≤ 9223372036854775807) (W : World) (hkb : W.cell? ⟨KB, 0, none⟩ = some (.slice a n cap)) (hz : SlAt 2 KindAt W a ks) :
    Calls Tryd.prog 57 #[.agg #[.int .i64 rk, .int .i64 rf], .pointer (some ⟨KB, 0, none⟩)] W fun e w' => e = .returned (.bool (refOk ks rk rf)) ∧ Below W.heap.size W w' := by
  obtain ⟨B, hB⟩ : ∃ B, B = refOk ks rk rf := ⟨_, rfl⟩
  rw [← hB]
  unfold refOk at hB
  rw [hn] at hB
  have hb0 := (Below.refl W.heap.size W).alloc (Nat.le_refl _) (.cells #[.int .i64 rk, .int .i64 rf] 53)
  have hr := heap_alloc_new W (.cells #[.int .i64 rk, .int .i64 rf] 53)
  obtain ⟨wr, hwr⟩ : ∃ w, w = W.alloc (.cells #[.int .i64 rk, .int .i64 rf] 53) := ⟨_, rfl⟩
  rw [← hwr] at hb0 hr
  have Q0 := Lib.hid (cell_of_row _ _ 0 _ _ _ hr)
  have Q1 := Lib.hid (cell_of_row _ _ 1 _ _ _ hr)
  have HW := Lib.hid hwr
  have HZ := Lib.hid (hz.below KindAt.abides hb0)
  have KQ := Lib.hid (cell_abides hkb hb0)
  have HN := Lib.hid hn
  have HB := Lib.hid hB
  have HB0 := Lib.hid hb0
  have H1 := Lib.hid h1
  clear hB hb0 hr hwr hz hn h1 hkb
  go_enter Tryd.func57, Tryd.ntmps57
  by_cases h1 : rk < 0
  · have e := HB.out
    rw [decide_eq_false (show ¬ 0 ≤ rk by omega)] at e
    have HB2 := Lib.hid e
    have hcmp : ¬ 0 ≤ rk := by omega
    clear HB e
    go_wp2_with fail
    rw [← HW.out]
    refine wp_region_facts_t rfl 28 (by kernel_rfl) (F_refa KB W.heap.size n cap a rk rf) (F_refa_mono KB W.heap.size n cap a rk rf) ?_ ?_
    · refine ⟨?_, ?_, ?_, ?_, ?_, ?_, ?_, ?_, ?_, ?_, ?_, ?_, ?_, ?_, ?_, ?_, ?_, ?_, ?_, ?_, ?_, ?_, ?_, ?_, ?_, ?_, ?_, ?_, trivial⟩
      · intro vs w' F hb hd hF hl hT
        have e := (hF 2).trans (look_out _ 2 _ _ (by kernel_rfl))
        exact one_field _ _ _ rfl rfl _ _ e (0) (fun w => by kernel_rfl) ⟨_, rfl, Below.refl _ _, rfl⟩
      · intro vs w' F hb hd hF hl hT
        have e := ((hF 4).trans (look_at _ 4 0 _ _ (by kernel_rfl) (by kernel_rfl) hl)).trans (dep_of (Fact := F_refa KB W.heap.size n cap a rk rf) hd 0 (by kernel_rfl))
        exact one_load _ _ rfl rfl _ _ e (cell_abides Q0.out hb) (by kernel_rfl) ⟨_, rfl, Below.refl _ _, rfl⟩
      · intro vs w' F hb hd hF hl hT
        have e1 := ((hF 5).trans (look_at _ 5 1 _ _ (by kernel_rfl) (by kernel_rfl) hl)).trans (dep_of (Fact := F_refa KB W.heap.size n cap a rk rf) hd 1 (by kernel_rfl))
        exact rg_geq _ _ _ _ rfl rfl .i64 (rk) (0) false e1 rfl (decide_eq_false (by omega)) ⟨_, rfl, Below.refl _ _, rfl⟩
      · intro vs w' F hb hd hF hl hT
        have e := ((hF 6).trans (look_at _ 6 2 _ _ (by kernel_rfl) (by kernel_rfl) hl)).trans (dep_of (Fact := F_refa KB W.heap.size n cap a rk rf) hd 2 (by kernel_rfl))
        exact one_move _ rfl (by first | exact Or.inl rfl | exact Or.inr rfl) ⟨_, rfl, Below.refl _ _, e⟩
      · intro vs w' F hb hd hF hl hT
        have eg := ((hF 7).trans (look_at _ 7 3 _ _ (by kernel_rfl) (by kernel_rfl) hl)).trans (dep_of (Fact := F_refa KB W.heap.size n cap a rk rf) hd 3 (by kernel_rfl))
        exact wpList_off rfl (t := 7) (d := false) (by kernel_rfl) eg (by decide) ⟨_, rfl, Below.refl _ _, rfl⟩
      · intro vs w' F hb hd hF hl hT
        have eg := ((hF 7).trans (look_at _ 7 3 _ _ (by kernel_rfl) (by kernel_rfl) hl)).trans (dep_of (Fact := F_refa KB W.heap.size n cap a rk rf) hd 3 (by kernel_rfl))
        exact wpList_off rfl (t := 7) (d := false) (by kernel_rfl) eg (by decide) ⟨_, rfl, Below.refl _ _, rfl⟩
      · intro vs w' F hb hd hF hl hT
        have eg := ((hF 7).trans (look_at _ 7 3 _ _ (by kernel_rfl) (by kernel_rfl) hl)).trans (dep_of (Fact := F_refa KB W.heap.size n cap a rk rf) hd 3 (by kernel_rfl))
        exact wpList_off rfl (t := 7) (d := false) (by kernel_rfl) eg (by decide) ⟨_, rfl, Below.refl _ _, rfl⟩
      · intro vs w' F hb hd hF hl hT
        have eg := ((hF 7).trans (look_at _ 7 3 _ _ (by kernel_rfl) (by kernel_rfl) hl)).trans (dep_of (Fact := F_refa KB W.heap.size n cap a rk rf) hd 3 (by kernel_rfl))
        exact wpList_off rfl (t := 7) (d := false) (by kernel_rfl) eg (by decide) ⟨_, rfl, Below.refl _ _, rfl⟩
      · intro vs w' F hb hd hF hl hT
        have eg := ((hF 7).trans (look_at _ 7 3 _ _ (by kernel_rfl) (by kernel_rfl) hl)).trans (dep_of (Fact := F_refa KB W.heap.size n cap a rk rf) hd 3 (by kernel_rfl))
        exact wpList_off rfl (t := 7) (d := false) (by kernel_rfl) eg (by decide) ⟨_, rfl, Below.refl _ _, rfl⟩
      · intro vs w' F hb hd hF hl hT
        have ec := ((hF 7).trans (look_at _ 7 3 _ _ (by kernel_rfl) (by kernel_rfl) hl)).trans (dep_of (Fact := F_refa KB W.heap.size n cap a rk rf) hd 3 (by kernel_rfl))
        exact one_pick_f _ _ _ rfl rfl _ ec rfl ⟨_, rfl, Below.refl _ _, rfl⟩
      · intro vs w' F hb hd hF hl hT
        have e := ((hF 13).trans (look_at _ 13 9 _ _ (by kernel_rfl) (by kernel_rfl) hl)).trans (dep_of (Fact := F_refa KB W.heap.size n cap a rk rf) hd 9 (by kernel_rfl))
        exact one_move _ rfl (by first | exact Or.inl rfl | exact Or.inr rfl) ⟨_, rfl, Below.refl _ _, e⟩
      · intro vs w' F hb hd hF hl hT
        have eg := ((hF 14).trans (look_at _ 14 10 _ _ (by kernel_rfl) (by kernel_rfl) hl)).trans (dep_of (Fact := F_refa KB W.heap.size n cap a rk rf) hd 10 (by kernel_rfl))
        exact wpList_off rfl (t := 14) (d := false) (by kernel_rfl) eg (by decide) ⟨_, rfl, Below.refl _ _, rfl⟩
      · intro vs w' F hb hd hF hl hT
        have eg := ((hF 14).trans (look_at _ 14 10 _ _ (by kernel_rfl) (by kernel_rfl) hl)).trans (dep_of (Fact := F_refa KB W.heap.size n cap a rk rf) hd 10 (by kernel_rfl))
        exact wpList_off rfl (t := 14) (d := false) (by kernel_rfl) eg (by decide) ⟨_, rfl, Below.refl _ _, rfl⟩
      · intro vs w' F hb hd hF hl hT
        have eg := ((hF 14).trans (look_at _ 14 10 _ _ (by kernel_rfl) (by kernel_rfl) hl)).trans (dep_of (Fact := F_refa KB W.heap.size n cap a rk rf) hd 10 (by kernel_rfl))
        exact wpList_off rfl (t := 14) (d := false) (by kernel_rfl) eg (by decide) ⟨_, rfl, Below.refl _ _, rfl⟩
      · intro vs w' F hb hd hF hl hT
        have ec := ((hF 14).trans (look_at _ 14 10 _ _ (by kernel_rfl) (by kernel_rfl) hl)).trans (dep_of (Fact := F_refa KB W.heap.size n cap a rk rf) hd 10 (by kernel_rfl))
        exact one_pick_f _ _ _ rfl rfl _ ec rfl ⟨_, rfl, Below.refl _ _, rfl⟩
      · intro vs w' F hb hd hF hl hT
        have e := ((hF 18).trans (look_at _ 18 14 _ _ (by kernel_rfl) (by kernel_rfl) hl)).trans (dep_of (Fact := F_refa KB W.heap.size n cap a rk rf) hd 14 (by kernel_rfl))
        exact one_move _ rfl (by first | exact Or.inl rfl | exact Or.inr rfl) ⟨_, rfl, Below.refl _ _, e⟩
      · intro vs w' F hb hd hF hl hT
        have eg := ((hF 19).trans (look_at _ 19 15 _ _ (by kernel_rfl) (by kernel_rfl) hl)).trans (dep_of (Fact := F_refa KB W.heap.size n cap a rk rf) hd 15 (by kernel_rfl))
        exact wpList_off rfl (t := 19) (d := false) (by kernel_rfl) eg (by decide) ⟨_, rfl, Below.refl _ _, rfl⟩
      · intro vs w' F hb hd hF hl hT
        have eg := ((hF 19).trans (look_at _ 19 15 _ _ (by kernel_rfl) (by kernel_rfl) hl)).trans (dep_of (Fact := F_refa KB W.heap.size n cap a rk rf) hd 15 (by kernel_rfl))
        exact wpList_off rfl (t := 19) (d := false) (by kernel_rfl) eg (by decide) ⟨_, rfl, Below.refl _ _, rfl⟩
      · intro vs w' F hb hd hF hl hT
        have eg := ((hF 19).trans (look_at _ 19 15 _ _ (by kernel_rfl) (by kernel_rfl) hl)).trans (dep_of (Fact := F_refa KB W.heap.size n cap a rk rf) hd 15 (by kernel_rfl))
        exact wpList_off rfl (t := 19) (d := false) (by kernel_rfl) eg (by decide) ⟨_, rfl, Below.refl _ _, rfl⟩
      · intro vs w' F hb hd hF hl hT
        have eg := ((hF 19).trans (look_at _ 19 15 _ _ (by kernel_rfl) (by kernel_rfl) hl)).trans (dep_of (Fact := F_refa KB W.heap.size n cap a rk rf) hd 15 (by kernel_rfl))
        exact wpList_off rfl (t := 19) (d := false) (by kernel_rfl) eg (by decide) ⟨_, rfl, Below.refl _ _, rfl⟩
      · intro vs w' F hb hd hF hl hT
        have eg := ((hF 19).trans (look_at _ 19 15 _ _ (by kernel_rfl) (by kernel_rfl) hl)).trans (dep_of (Fact := F_refa KB W.heap.size n cap a rk rf) hd 15 (by kernel_rfl))
        exact wpList_off rfl (t := 19) (d := false) (by kernel_rfl) eg (by decide) ⟨_, rfl, Below.refl _ _, rfl⟩
      · intro vs w' F hb hd hF hl hT
        have eg := ((hF 19).trans (look_at _ 19 15 _ _ (by kernel_rfl) (by kernel_rfl) hl)).trans (dep_of (Fact := F_refa KB W.heap.size n cap a rk rf) hd 15 (by kernel_rfl))
        exact wpList_off rfl (t := 19) (d := false) (by kernel_rfl) eg (by decide) ⟨_, rfl, Below.refl _ _, rfl⟩
      · intro vs w' F hb hd hF hl hT
        have eg := ((hF 19).trans (look_at _ 19 15 _ _ (by kernel_rfl) (by kernel_rfl) hl)).trans (dep_of (Fact := F_refa KB W.heap.size n cap a rk rf) hd 15 (by kernel_rfl))
        exact wpList_off rfl (t := 19) (d := false) (by kernel_rfl) eg (by decide) ⟨_, rfl, Below.refl _ _, rfl⟩
      · intro vs w' F hb hd hF hl hT
        have eg := ((hF 19).trans (look_at _ 19 15 _ _ (by kernel_rfl) (by kernel_rfl) hl)).trans (dep_of (Fact := F_refa KB W.heap.size n cap a rk rf) hd 15 (by kernel_rfl))
        exact wpList_off rfl (t := 19) (d := false) (by kernel_rfl) eg (by decide) ⟨_, rfl, Below.refl _ _, rfl⟩
      · intro vs w' F hb hd hF hl hT
        have eg := ((hF 19).trans (look_at _ 19 15 _ _ (by kernel_rfl) (by kernel_rfl) hl)).trans (dep_of (Fact := F_refa KB W.heap.size n cap a rk rf) hd 15 (by kernel_rfl))
        exact wpList_off rfl (t := 19) (d := false) (by kernel_rfl) eg (by decide) ⟨_, rfl, Below.refl _ _, rfl⟩
      · intro vs w' F hb hd hF hl hT
        have eg := ((hF 19).trans (look_at _ 19 15 _ _ (by kernel_rfl) (by kernel_rfl) hl)).trans (dep_of (Fact := F_refa KB W.heap.size n cap a rk rf) hd 15 (by kernel_rfl))
        exact wpList_off rfl (t := 19) (d := false) (by kernel_rfl) eg (by decide) ⟨_, rfl, Below.refl _ _, rfl⟩
      · intro vs w' F hb hd hF hl hT
        have ec := ((hF 19).trans (look_at _ 19 15 _ _ (by kernel_rfl) (by kernel_rfl) hl)).trans (dep_of (Fact := F_refa KB W.heap.size n cap a rk rf) hd 15 (by kernel_rfl))
        exact one_pick_f _ _ _ rfl rfl _ ec rfl ⟨_, rfl, Below.refl _ _, rfl⟩
      · intro vs w' F hb hd hF hl hT
        have e := ((hF 30).trans (look_at _ 30 26 _ _ (by kernel_rfl) (by kernel_rfl) hl)).trans (dep_of (Fact := F_refa KB W.heap.size n cap a rk rf) hd 26 (by kernel_rfl))
        exact one_move _ rfl (by first | exact Or.inl rfl | exact Or.inr rfl) ⟨_, rfl, Below.refl _ _, e⟩
    · intro vs8 W8 hl hb hI
      have hv : vs8.getD 27 undef = .bool false := hI 27 (by omega)
      obtain ⟨x0, x1, x2, x3, x4, x5, x6, x7, x8, x9, x10, x11, x12, x13, x14, x15, x16, x17, x18, x19, x20, x21, x22, x23, x24, x25, x26, x27, hvs⟩ := list28 hl
      subst hvs
      replace hv : x27 = .bool false := hv
      subst hv
      clear hI hl
      simp only [fillAll, Act.put, List.setIfInBounds_toArray, List.set_cons_succ, List.set_cons_zero]
      show wpList _ _ _ [] _ _
      go_wp2
      go_ret
      exact ⟨by rw [HB2.out]; rfl, bt HB0.out hb⟩
  · by_cases h2 : (n : Int) ≤ rk
    · have e := HB.out
      rw [decide_eq_true (show 0 ≤ rk by omega), decide_eq_false (show ¬ rk < (n : Int) by omega)] at e
      have HB2 := Lib.hid e
      clear HB e
      go_wp2_with fail
      rw [← HW.out]
      refine wp_region_facts_t rfl 28 (by kernel_rfl) (F_refb KB W.heap.size n cap a rk rf) (F_refb_mono KB W.heap.size n cap a rk rf) ?_ ?_
      · refine ⟨?_, ?_, ?_, ?_, ?_, ?_, ?_, ?_, ?_, ?_, ?_, ?_, ?_, ?_, ?_, ?_, ?_, ?_, ?_, ?_, ?_, ?_, ?_, ?_, ?_, ?_, ?_, ?_, trivial⟩
        · intro vs w' F hb hd hF hl hT
          have e := (hF 2).trans (look_out _ 2 _ _ (by kernel_rfl))
          exact one_field _ _ _ rfl rfl _ _ e (0) (fun w => by kernel_rfl) ⟨_, rfl, Below.refl _ _, rfl⟩
        · intro vs w' F hb hd hF hl hT
          have e := ((hF 4).trans (look_at _ 4 0 _ _ (by kernel_rfl) (by kernel_rfl) hl)).trans (dep_of (Fact := F_refb KB W.heap.size n cap a rk rf) hd 0 (by kernel_rfl))
          exact one_load _ _ rfl rfl _ _ e (cell_abides Q0.out hb) (by kernel_rfl) ⟨_, rfl, Below.refl _ _, rfl⟩
        · intro vs w' F hb hd hF hl hT
          have e1 := ((hF 5).trans (look_at _ 5 1 _ _ (by kernel_rfl) (by kernel_rfl) hl)).trans (dep_of (Fact := F_refb KB W.heap.size n cap a rk rf) hd 1 (by kernel_rfl))
          exact rg_geq _ _ _ _ rfl rfl .i64 (rk) (0) true e1 rfl (decide_eq_true (by omega)) ⟨_, rfl, Below.refl _ _, rfl⟩
        · intro vs w' F hb hd hF hl hT
          have e := ((hF 6).trans (look_at _ 6 2 _ _ (by kernel_rfl) (by kernel_rfl) hl)).trans (dep_of (Fact := F_refb KB W.heap.size n cap a rk rf) hd 2 (by kernel_rfl))
          exact one_move _ rfl (by first | exact Or.inl rfl | exact Or.inr rfl) ⟨_, rfl, Below.refl _ _, e⟩
        · intro vs w' F hb hd hF hl hT
          have eg := ((hF 7).trans (look_at _ 7 3 _ _ (by kernel_rfl) (by kernel_rfl) hl)).trans (dep_of (Fact := F_refb KB W.heap.size n cap a rk rf) hd 3 (by kernel_rfl))
          refine wpList_on rfl (t := 7) (by kernel_rfl) eg ?_
          have e := (hF 2).trans (look_out _ 2 _ _ (by kernel_rfl))
          exact one_field _ _ _ rfl rfl _ _ e (0) (fun w => by kernel_rfl) ⟨_, rfl, Below.refl _ _, rfl⟩
        · intro vs w' F hb hd hF hl hT
          have eg := ((hF 7).trans (look_at _ 7 3 _ _ (by kernel_rfl) (by kernel_rfl) hl)).trans (dep_of (Fact := F_refb KB W.heap.size n cap a rk rf) hd 3 (by kernel_rfl))
          refine wpList_on rfl (t := 7) (by kernel_rfl) eg ?_
          have e := ((hF 8).trans (look_at _ 8 4 _ _ (by kernel_rfl) (by kernel_rfl) hl)).trans (dep_of (Fact := F_refb KB W.heap.size n cap a rk rf) hd 4 (by kernel_rfl))
          exact one_load _ _ rfl rfl _ _ e (cell_abides Q0.out hb) (by kernel_rfl) ⟨_, rfl, Below.refl _ _, rfl⟩
        · intro vs w' F hb hd hF hl hT
          have eg := ((hF 7).trans (look_at _ 7 3 _ _ (by kernel_rfl) (by kernel_rfl) hl)).trans (dep_of (Fact := F_refb KB W.heap.size n cap a rk rf) hd 3 (by kernel_rfl))
          refine wpList_on rfl (t := 7) (by kernel_rfl) eg ?_
          have e := (hF 1).trans (look_out _ 1 _ _ (by kernel_rfl))
          exact one_load _ _ rfl rfl _ _ e (cell_abides KQ.out hb) (by kernel_rfl) ⟨_, rfl, Below.refl _ _, rfl⟩
        · intro vs w' F hb hd hF hl hT
          have eg := ((hF 7).trans (look_at _ 7 3 _ _ (by kernel_rfl) (by kernel_rfl) hl)).trans (dep_of (Fact := F_refb KB W.heap.size n cap a rk rf) hd 3 (by kernel_rfl))
          refine wpList_on rfl (t := 7) (by kernel_rfl) eg ?_
          have e := ((hF 10).trans (look_at _ 10 6 _ _ (by kernel_rfl) (by kernel_rfl) hl)).trans (dep_of (Fact := F_refb KB W.heap.size n cap a rk rf) hd 6 (by kernel_rfl))
          exact rg_len _ 22 43 rfl rfl Tryd.underlying22 a (n) (cap) e ⟨_, rfl, Below.refl _ _, rfl⟩
        · intro vs w' F hb hd hF hl hT
          have eg := ((hF 7).trans (look_at _ 7 3 _ _ (by kernel_rfl) (by kernel_rfl) hl)).trans (dep_of (Fact := F_refb KB W.heap.size n cap a rk rf) hd 3 (by kernel_rfl))
          refine wpList_on rfl (t := 7) (by kernel_rfl) eg ?_
          have e1 := ((hF 9).trans (look_at _ 9 5 _ _ (by kernel_rfl) (by kernel_rfl) hl)).trans (dep_of (Fact := F_refb KB W.heap.size n cap a rk rf) hd 5 (by kernel_rfl))
          have e2 := ((hF 11).trans (look_at _ 11 7 _ _ (by kernel_rfl) (by kernel_rfl) hl)).trans (dep_of (Fact := F_refb KB W.heap.size n cap a rk rf) hd 7 (by kernel_rfl))
          exact rg_lss _ _ _ _ rfl rfl .i64 (rk) ((n : Int)) false e1 e2 (decide_eq_false (by omega)) ⟨_, rfl, Below.refl _ _, rfl⟩
        · intro vs w' F hb hd hF hl hT
          have ec := ((hF 7).trans (look_at _ 7 3 _ _ (by kernel_rfl) (by kernel_rfl) hl)).trans (dep_of (Fact := F_refb KB W.heap.size n cap a rk rf) hd 3 (by kernel_rfl))
          have e := ((hF 12).trans (look_at _ 12 8 _ _ (by kernel_rfl) (by kernel_rfl) hl)).trans (dep_of (Fact := F_refb KB W.heap.size n cap a rk rf) hd 8 (by kernel_rfl))
          exact one_pick_t _ _ _ rfl rfl _ ec e ⟨_, rfl, Below.refl _ _, rfl⟩
        · intro vs w' F hb hd hF hl hT
          have e := ((hF 13).trans (look_at _ 13 9 _ _ (by kernel_rfl) (by kernel_rfl) hl)).trans (dep_of (Fact := F_refb KB W.heap.size n cap a rk rf) hd 9 (by kernel_rfl))
          exact one_move _ rfl (by first | exact Or.inl rfl | exact Or.inr rfl) ⟨_, rfl, Below.refl _ _, e⟩
        · intro vs w' F hb hd hF hl hT
          have eg := ((hF 14).trans (look_at _ 14 10 _ _ (by kernel_rfl) (by kernel_rfl) hl)).trans (dep_of (Fact := F_refb KB W.heap.size n cap a rk rf) hd 10 (by kernel_rfl))
          exact wpList_off rfl (t := 14) (d := false) (by kernel_rfl) eg (by decide) ⟨_, rfl, Below.refl _ _, rfl⟩
        · intro vs w' F hb hd hF hl hT
          have eg := ((hF 14).trans (look_at _ 14 10 _ _ (by kernel_rfl) (by kernel_rfl) hl)).trans (dep_of (Fact := F_refb KB W.heap.size n cap a rk rf) hd 10 (by kernel_rfl))
          exact wpList_off rfl (t := 14) (d := false) (by kernel_rfl) eg (by decide) ⟨_, rfl, Below.refl _ _, rfl⟩
        · intro vs w' F hb hd hF hl hT
          have eg := ((hF 14).trans (look_at _ 14 10 _ _ (by kernel_rfl) (by kernel_rfl) hl)).trans (dep_of (Fact := F_refb KB W.heap.size n cap a rk rf) hd 10 (by kernel_rfl))
          exact wpList_off rfl (t := 14) (d := false) (by kernel_rfl) eg (by decide) ⟨_, rfl, Below.refl _ _, rfl⟩
        · intro vs w' F hb hd hF hl hT
          have ec := ((hF 14).trans (look_at _ 14 10 _ _ (by kernel_rfl) (by kernel_rfl) hl)).trans (dep_of (Fact := F_refb KB W.heap.size n cap a rk rf) hd 10 (by kernel_rfl))
          exact one_pick_f _ _ _ rfl rfl _ ec rfl ⟨_, rfl, Below.refl _ _, rfl⟩
        · intro vs w' F hb hd hF hl hT
          have e := ((hF 18).trans (look_at _ 18 14 _ _ (by kernel_rfl) (by kernel_rfl) hl)).trans (dep_of (Fact := F_refb KB W.heap.size n cap a rk rf) hd 14 (by kernel_rfl))
          exact one_move _ rfl (by first | exact Or.inl rfl | exact Or.inr rfl) ⟨_, rfl, Below.refl _ _, e⟩
        · intro vs w' F hb hd hF hl hT
          have eg := ((hF 19).trans (look_at _ 19 15 _ _ (by kernel_rfl) (by kernel_rfl) hl)).trans (dep_of (Fact := F_refb KB W.heap.size n cap a rk rf) hd 15 (by kernel_rfl))
          exact wpList_off rfl (t := 19) (d := false) (by kernel_rfl) eg (by decide) ⟨_, rfl, Below.refl _ _, rfl⟩
        · intro vs w' F hb hd hF hl hT
          have eg := ((hF 19).trans (look_at _ 19 15 _ _ (by kernel_rfl) (by kernel_rfl) hl)).trans (dep_of (Fact := F_refb KB W.heap.size n cap a rk rf) hd 15 (by kernel_rfl))
          exact wpList_off rfl (t := 19) (d := false) (by kernel_rfl) eg (by decide) ⟨_, rfl, Below.refl _ _, rfl⟩
        · intro vs w' F hb hd hF hl hT
          have eg := ((hF 19).trans (look_at _ 19 15 _ _ (by kernel_rfl) (by kernel_rfl) hl)).trans (dep_of (Fact := F_refb KB W.heap.size n cap a rk rf) hd 15 (by kernel_rfl))
          exact wpList_off rfl (t := 19) (d := false) (by kernel_rfl) eg (by decide) ⟨_, rfl, Below.refl _ _, rfl⟩
        · intro vs w' F hb hd hF hl hT
          have eg := ((hF 19).trans (look_at _ 19 15 _ _ (by kernel_rfl) (by kernel_rfl) hl)).trans (dep_of (Fact := F_refb KB W.heap.size n cap a rk rf) hd 15 (by kernel_rfl))
          exact wpList_off rfl (t := 19) (d := false) (by kernel_rfl) eg (by decide) ⟨_, rfl, Below.refl _ _, rfl⟩
        · intro vs w' F hb hd hF hl hT
          have eg := ((hF 19).trans (look_at _ 19 15 _ _ (by kernel_rfl) (by kernel_rfl) hl)).trans (dep_of (Fact := F_refb KB W.heap.size n cap a rk rf) hd 15 (by kernel_rfl))
          exact wpList_off rfl (t := 19) (d := false) (by kernel_rfl) eg (by decide) ⟨_, rfl, Below.refl _ _, rfl⟩
        · intro vs w' F hb hd hF hl hT
          have eg := ((hF 19).trans (look_at _ 19 15 _ _ (by kernel_rfl) (by kernel_rfl) hl)).trans (dep_of (Fact := F_refb KB W.heap.size n cap a rk rf) hd 15 (by kernel_rfl))
          exact wpList_off rfl (t := 19) (d := false) (by kernel_rfl) eg (by decide) ⟨_, rfl, Below.refl _ _, rfl⟩
        · intro vs w' F hb hd hF hl hT
          have eg := ((hF 19).trans (look_at _ 19 15 _ _ (by kernel_rfl) (by kernel_rfl) hl)).trans (dep_of (Fact := F_refb KB W.heap.size n cap a rk rf) hd 15 (by kernel_rfl))
          exact wpList_off rfl (t := 19) (d := false) (by kernel_rfl) eg (by decide) ⟨_, rfl, Below.refl _ _, rfl⟩
        · intro vs w' F hb hd hF hl hT
          have eg := ((hF 19).trans (look_at _ 19 15 _ _ (by kernel_rfl) (by kernel_rfl) hl)).trans (dep_of (Fact := F_refb KB W.heap.size n cap a rk rf) hd 15 (by kernel_rfl))
          exact wpList_off rfl (t := 19) (d := false) (by kernel_rfl) eg (by decide) ⟨_, rfl, Below.refl _ _, rfl⟩
        · intro vs w' F hb hd hF hl hT
          have eg := ((hF 19).trans (look_at _ 19 15 _ _ (by kernel_rfl) (by kernel_rfl) hl)).trans (dep_of (Fact := F_refb KB W.heap.size n cap a rk rf) hd 15 (by kernel_rfl))
          exact wpList_off rfl (t := 19) (d := false) (by kernel_rfl) eg (by decide) ⟨_, rfl, Below.refl _ _, rfl⟩
        · intro vs w' F hb hd hF hl hT
          have eg := ((hF 19).trans (look_at _ 19 15 _ _ (by kernel_rfl) (by kernel_rfl) hl)).trans (dep_of (Fact := F_refb KB W.heap.size n cap a rk rf) hd 15 (by kernel_rfl))
          exact wpList_off rfl (t := 19) (d := false) (by kernel_rfl) eg (by decide) ⟨_, rfl, Below.refl _ _, rfl⟩
        · intro vs w' F hb hd hF hl hT
          have ec := ((hF 19).trans (look_at _ 19 15 _ _ (by kernel_rfl) (by kernel_rfl) hl)).trans (dep_of (Fact := F_refb KB W.heap.size n cap a rk rf) hd 15 (by kernel_rfl))
          exact one_pick_f _ _ _ rfl rfl _ ec rfl ⟨_, rfl, Below.refl _ _, rfl⟩
        · intro vs w' F hb hd hF hl hT
          have e := ((hF 30).trans (look_at _ 30 26 _ _ (by kernel_rfl) (by kernel_rfl) hl)).trans (dep_of (Fact := F_refb KB W.heap.size n cap a rk rf) hd 26 (by kernel_rfl))
          exact one_move _ rfl (by first | exact Or.inl rfl | exact Or.inr rfl) ⟨_, rfl, Below.refl _ _, e⟩
      · intro vs8 W8 hl hb hI
        have hv : vs8.getD 27 undef = .bool false := hI 27 (by omega)
        obtain ⟨x0, x1, x2, x3, x4, x5, x6, x7, x8, x9, x10, x11, x12, x13, x14, x15, x16, x17, x18, x19, x20, x21, x22, x23, x24, x25, x26, x27, hvs⟩ := list28 hl
        subst hvs
        replace hv : x27 = .bool false := hv
        subst hv
        clear hI hl
        simp only [fillAll, Act.put, List.setIfInBounds_toArray, List.set_cons_succ, List.set_cons_zero]
        show wpList _ _ _ [] _ _
        go_wp2
        go_ret
        exact ⟨by rw [HB2.out]; rfl, bt HB0.out hb⟩
    · obtain ⟨q, rfl⟩ : ∃ q : Nat, rk = (q : Int) := ⟨rk.toNat, by omega⟩
      have hq : q < n := by omega
      obtain ⟨x, rfl, hx, _⟩ := HZ.out (by rw [HN.out]; omega)
      obtain ⟨kb, ko, rfl, af, cf, hck, _⟩ := kind_cells HZ.out q (by rw [HN.out]; exact hq)
      have e := HB.out
      rw [decide_eq_true (show (0 : Int) ≤ (q : Int) by omega), decide_eq_true (show (q : Int) < (n : Int) by omega), Int.toNat_natCast, show ks.getD q default = ks[q]'(by rw [HN.out]; exact hq) by rw [List.getD_eq_getElem?_getD, List.getElem?_eq_getElem (by rw [HN.out]; exact hq)]; rfl] at e
      obtain ⟨nf, hnf⟩ : ∃ nf, nf = (ks[q]'(by rw [HN.out]; exact hq)).fields.length := ⟨_, rfl⟩
      rw [← hnf] at hck e
      have HCK := Lib.hid (hck 1 _ rfl)
      clear hck hnf hx
      by_cases h3 : rf < 0
      · rw [decide_eq_false (show ¬ 0 ≤ rf by omega)] at e
        have HB2 := Lib.hid e
        clear HB e
        go_wp2_with fail
        rw [← HW.out]
        refine wp_region_facts_t rfl 28 (by kernel_rfl) (F_refc KB W.heap.size n cap kb ko q rf af nf cf true) (F_refc_mono KB W.heap.size n cap kb ko q rf af nf cf true) ?_ ?_
        · refine ⟨?_, ?_, ?_, ?_, ?_, ?_, ?_, ?_, ?_, ?_, ?_, ?_, ?_, ?_, ?_, ?_, ?_, ?_, ?_, ?_, ?_, ?_, ?_, ?_, ?_, ?_, ?_, ?_, trivial⟩
          · intro vs w' F hb hd hF hl hT
            have e := (hF 2).trans (look_out _ 2 _ _ (by kernel_rfl))
            exact one_field _ _ _ rfl rfl _ _ e (0) (fun w => by kernel_rfl) ⟨_, rfl, Below.refl _ _, rfl⟩
          · intro vs w' F hb hd hF hl hT
            have e := ((hF 4).trans (look_at _ 4 0 _ _ (by kernel_rfl) (by kernel_rfl) hl)).trans (dep_of (Fact := F_refc KB W.heap.size n cap kb ko q rf af nf cf true) hd 0 (by kernel_rfl))
            exact one_load _ _ rfl rfl _ _ e (cell_abides Q0.out hb) (by kernel_rfl) ⟨_, rfl, Below.refl _ _, rfl⟩
          · intro vs w' F hb hd hF hl hT
            have e1 := ((hF 5).trans (look_at _ 5 1 _ _ (by kernel_rfl) (by kernel_rfl) hl)).trans (dep_of (Fact := F_refc KB W.heap.size n cap kb ko q rf af nf cf true) hd 1 (by kernel_rfl))
            exact rg_geq _ _ _ _ rfl rfl .i64 ((q : Int)) (0) true e1 rfl (decide_eq_true (by omega)) ⟨_, rfl, Below.refl _ _, rfl⟩
          · intro vs w' F hb hd hF hl hT
            have e := ((hF 6).trans (look_at _ 6 2 _ _ (by kernel_rfl) (by kernel_rfl) hl)).trans (dep_of (Fact := F_refc KB W.heap.size n cap kb ko q rf af nf cf true) hd 2 (by kernel_rfl))
            exact one_move _ rfl (by first | exact Or.inl rfl | exact Or.inr rfl) ⟨_, rfl, Below.refl _ _, e⟩
          · intro vs w' F hb hd hF hl hT
            have eg := ((hF 7).trans (look_at _ 7 3 _ _ (by kernel_rfl) (by kernel_rfl) hl)).trans (dep_of (Fact := F_refc KB W.heap.size n cap kb ko q rf af nf cf true) hd 3 (by kernel_rfl))
            refine wpList_on rfl (t := 7) (by kernel_rfl) eg ?_
            have e := (hF 2).trans (look_out _ 2 _ _ (by kernel_rfl))
            exact one_field _ _ _ rfl rfl _ _ e (0) (fun w => by kernel_rfl) ⟨_, rfl, Below.refl _ _, rfl⟩
          · intro vs w' F hb hd hF hl hT
            have eg := ((hF 7).trans (look_at _ 7 3 _ _ (by kernel_rfl) (by kernel_rfl) hl)).trans (dep_of (Fact := F_refc KB W.heap.size n cap kb ko q rf af nf cf true) hd 3 (by kernel_rfl))
            refine wpList_on rfl (t := 7) (by kernel_rfl) eg ?_
            have e := ((hF 8).trans (look_at _ 8 4 _ _ (by kernel_rfl) (by kernel_rfl) hl)).trans (dep_of (Fact := F_refc KB W.heap.size n cap kb ko q rf af nf cf true) hd 4 (by kernel_rfl))
            exact one_load _ _ rfl rfl _ _ e (cell_abides Q0.out hb) (by kernel_rfl) ⟨_, rfl, Below.refl _ _, rfl⟩
          · intro vs w' F hb hd hF hl hT
            have eg := ((hF 7).trans (look_at _ 7 3 _ _ (by kernel_rfl) (by kernel_rfl) hl)).trans (dep_of (Fact := F_refc KB W.heap.size n cap kb ko q rf af nf cf true) hd 3 (by kernel_rfl))
            refine wpList_on rfl (t := 7) (by kernel_rfl) eg ?_
            have e := (hF 1).trans (look_out _ 1 _ _ (by kernel_rfl))
            exact one_load _ _ rfl rfl _ _ e (cell_abides KQ.out hb) (by kernel_rfl) ⟨_, rfl, Below.refl _ _, rfl⟩
          · intro vs w' F hb hd hF hl hT
            have eg := ((hF 7).trans (look_at _ 7 3 _ _ (by kernel_rfl) (by kernel_rfl) hl)).trans (dep_of (Fact := F_refc KB W.heap.size n cap kb ko q rf af nf cf true) hd 3 (by kernel_rfl))
            refine wpList_on rfl (t := 7) (by kernel_rfl) eg ?_
            have e := ((hF 10).trans (look_at _ 10 6 _ _ (by kernel_rfl) (by kernel_rfl) hl)).trans (dep_of (Fact := F_refc KB W.heap.size n cap kb ko q rf af nf cf true) hd 6 (by kernel_rfl))
            exact rg_len _ 22 43 rfl rfl Tryd.underlying22 (some ⟨kb, ko, none⟩) (n) (cap) e ⟨_, rfl, Below.refl _ _, rfl⟩
          · intro vs w' F hb hd hF hl hT
            have eg := ((hF 7).trans (look_at _ 7 3 _ _ (by kernel_rfl) (by kernel_rfl) hl)).trans (dep_of (Fact := F_refc KB W.heap.size n cap kb ko q rf af nf cf true) hd 3 (by kernel_rfl))
            refine wpList_on rfl (t := 7) (by kernel_rfl) eg ?_
            have e1 := ((hF 9).trans (look_at _ 9 5 _ _ (by kernel_rfl) (by kernel_rfl) hl)).trans (dep_of (Fact := F_refc KB W.heap.size n cap kb ko q rf af nf cf true) hd 5 (by kernel_rfl))
            have e2 := ((hF 11).trans (look_at _ 11 7 _ _ (by kernel_rfl) (by kernel_rfl) hl)).trans (dep_of (Fact := F_refc KB W.heap.size n cap kb ko q rf af nf cf true) hd 7 (by kernel_rfl))
            exact rg_lss _ _ _ _ rfl rfl .i64 ((q : Int)) ((n : Int)) true e1 e2 (decide_eq_true (by omega)) ⟨_, rfl, Below.refl _ _, rfl⟩
          · intro vs w' F hb hd hF hl hT
            have ec := ((hF 7).trans (look_at _ 7 3 _ _ (by kernel_rfl) (by kernel_rfl) hl)).trans (dep_of (Fact := F_refc KB W.heap.size n cap kb ko q rf af nf cf true) hd 3 (by kernel_rfl))
            have e := ((hF 12).trans (look_at _ 12 8 _ _ (by kernel_rfl) (by kernel_rfl) hl)).trans (dep_of (Fact := F_refc KB W.heap.size n cap kb ko q rf af nf cf true) hd 8 (by kernel_rfl))
            exact one_pick_t _ _ _ rfl rfl _ ec e ⟨_, rfl, Below.refl _ _, rfl⟩
          · intro vs w' F hb hd hF hl hT
            have e := ((hF 13).trans (look_at _ 13 9 _ _ (by kernel_rfl) (by kernel_rfl) hl)).trans (dep_of (Fact := F_refc KB W.heap.size n cap kb ko q rf af nf cf true) hd 9 (by kernel_rfl))
            exact one_move _ rfl (by first | exact Or.inl rfl | exact Or.inr rfl) ⟨_, rfl, Below.refl _ _, e⟩
          · intro vs w' F hb hd hF hl hT
            have eg := ((hF 14).trans (look_at _ 14 10 _ _ (by kernel_rfl) (by kernel_rfl) hl)).trans (dep_of (Fact := F_refc KB W.heap.size n cap kb ko q rf af nf cf true) hd 10 (by kernel_rfl))
            refine wpList_on rfl (t := 14) (by kernel_rfl) eg ?_
            have e := (hF 2).trans (look_out _ 2 _ _ (by kernel_rfl))
            exact one_field _ _ _ rfl rfl _ _ e (1) (fun w => by kernel_rfl) ⟨_, rfl, Below.refl _ _, rfl⟩
          · intro vs w' F hb hd hF hl hT
            have eg := ((hF 14).trans (look_at _ 14 10 _ _ (by kernel_rfl) (by kernel_rfl) hl)).trans (dep_of (Fact := F_refc KB W.heap.size n cap kb ko q rf af nf cf true) hd 10 (by kernel_rfl))
            refine wpList_on rfl (t := 14) (by kernel_rfl) eg ?_
            have e := ((hF 15).trans (look_at _ 15 11 _ _ (by kernel_rfl) (by kernel_rfl) hl)).trans (dep_of (Fact := F_refc KB W.heap.size n cap kb ko q rf af nf cf true) hd 11 (by kernel_rfl))
            exact one_load _ _ rfl rfl _ _ e (cell_abides Q1.out hb) (by kernel_rfl) ⟨_, rfl, Below.refl _ _, rfl⟩
          · intro vs w' F hb hd hF hl hT
            have eg := ((hF 14).trans (look_at _ 14 10 _ _ (by kernel_rfl) (by kernel_rfl) hl)).trans (dep_of (Fact := F_refc KB W.heap.size n cap kb ko q rf af nf cf true) hd 10 (by kernel_rfl))
            refine wpList_on rfl (t := 14) (by kernel_rfl) eg ?_
            have e1 := ((hF 16).trans (look_at _ 16 12 _ _ (by kernel_rfl) (by kernel_rfl) hl)).trans (dep_of (Fact := F_refc KB W.heap.size n cap kb ko q rf af nf cf true) hd 12 (by kernel_rfl))
            exact rg_geq _ _ _ _ rfl rfl .i64 (rf) (0) false e1 rfl (decide_eq_false (by omega)) ⟨_, rfl, Below.refl _ _, rfl⟩
          · intro vs w' F hb hd hF hl hT
            have ec := ((hF 14).trans (look_at _ 14 10 _ _ (by kernel_rfl) (by kernel_rfl) hl)).trans (dep_of (Fact := F_refc KB W.heap.size n cap kb ko q rf af nf cf true) hd 10 (by kernel_rfl))
            have e := ((hF 17).trans (look_at _ 17 13 _ _ (by kernel_rfl) (by kernel_rfl) hl)).trans (dep_of (Fact := F_refc KB W.heap.size n cap kb ko q rf af nf cf true) hd 13 (by kernel_rfl))
            exact one_pick_t _ _ _ rfl rfl _ ec e ⟨_, rfl, Below.refl _ _, rfl⟩
          · intro vs w' F hb hd hF hl hT
            have e := ((hF 18).trans (look_at _ 18 14 _ _ (by kernel_rfl) (by kernel_rfl) hl)).trans (dep_of (Fact := F_refc KB W.heap.size n cap kb ko q rf af nf cf true) hd 14 (by kernel_rfl))
            exact one_move _ rfl (by first | exact Or.inl rfl | exact Or.inr rfl) ⟨_, rfl, Below.refl _ _, e⟩
          · intro vs w' F hb hd hF hl hT
            have eg := ((hF 19).trans (look_at _ 19 15 _ _ (by kernel_rfl) (by kernel_rfl) hl)).trans (dep_of (Fact := F_refc KB W.heap.size n cap kb ko q rf af nf cf true) hd 15 (by kernel_rfl))
            exact wpList_off rfl (t := 19) (d := false) (by kernel_rfl) eg (by decide) ⟨_, rfl, Below.refl _ _, rfl⟩
          · intro vs w' F hb hd hF hl hT
            have eg := ((hF 19).trans (look_at _ 19 15 _ _ (by kernel_rfl) (by kernel_rfl) hl)).trans (dep_of (Fact := F_refc KB W.heap.size n cap kb ko q rf af nf cf true) hd 15 (by kernel_rfl))
            exact wpList_off rfl (t := 19) (d := false) (by kernel_rfl) eg (by decide) ⟨_, rfl, Below.refl _ _, rfl⟩
          · intro vs w' F hb hd hF hl hT
            have eg := ((hF 19).trans (look_at _ 19 15 _ _ (by kernel_rfl) (by kernel_rfl) hl)).trans (dep_of (Fact := F_refc KB W.heap.size n cap kb ko q rf af nf cf true) hd 15 (by kernel_rfl))
            exact wpList_off rfl (t := 19) (d := false) (by kernel_rfl) eg (by decide) ⟨_, rfl, Below.refl _ _, rfl⟩
          · intro vs w' F hb hd hF hl hT
            have eg := ((hF 19).trans (look_at _ 19 15 _ _ (by kernel_rfl) (by kernel_rfl) hl)).trans (dep_of (Fact := F_refc KB W.heap.size n cap kb ko q rf af nf cf true) hd 15 (by kernel_rfl))
            exact wpList_off rfl (t := 19) (d := false) (by kernel_rfl) eg (by decide) ⟨_, rfl, Below.refl _ _, rfl⟩
          · intro vs w' F hb hd hF hl hT
            have eg := ((hF 19).trans (look_at _ 19 15 _ _ (by kernel_rfl) (by kernel_rfl) hl)).trans (dep_of (Fact := F_refc KB W.heap.size n cap kb ko q rf af nf cf true) hd 15 (by kernel_rfl))
            exact wpList_off rfl (t := 19) (d := false) (by kernel_rfl) eg (by decide) ⟨_, rfl, Below.refl _ _, rfl⟩
          · intro vs w' F hb hd hF hl hT
            have eg := ((hF 19).trans (look_at _ 19 15 _ _ (by kernel_rfl) (by kernel_rfl) hl)).trans (dep_of (Fact := F_refc KB W.heap.size n cap kb ko q rf af nf cf true) hd 15 (by kernel_rfl))
            exact wpList_off rfl (t := 19) (d := false) (by kernel_rfl) eg (by decide) ⟨_, rfl, Below.refl _ _, rfl⟩
          · intro vs w' F hb hd hF hl hT
            have eg := ((hF 19).trans (look_at _ 19 15 _ _ (by kernel_rfl) (by kernel_rfl) hl)).trans (dep_of (Fact := F_refc KB W.heap.size n cap kb ko q rf af nf cf true) hd 15 (by kernel_rfl))
            exact wpList_off rfl (t := 19) (d := false) (by kernel_rfl) eg (by decide) ⟨_, rfl, Below.refl _ _, rfl⟩
          · intro vs w' F hb hd hF hl hT
            have eg := ((hF 19).trans (look_at _ 19 15 _ _ (by kernel_rfl) (by kernel_rfl) hl)).trans (dep_of (Fact := F_refc KB W.heap.size n cap kb ko q rf af nf cf true) hd 15 (by kernel_rfl))
            exact wpList_off rfl (t := 19) (d := false) (by kernel_rfl) eg (by decide) ⟨_, rfl, Below.refl _ _, rfl⟩
          · intro vs w' F hb hd hF hl hT
            have eg := ((hF 19).trans (look_at _ 19 15 _ _ (by kernel_rfl) (by kernel_rfl) hl)).trans (dep_of (Fact := F_refc KB W.heap.size n cap kb ko q rf af nf cf true) hd 15 (by kernel_rfl))
            exact wpList_off rfl (t := 19) (d := false) (by kernel_rfl) eg (by decide) ⟨_, rfl, Below.refl _ _, rfl⟩
          · intro vs w' F hb hd hF hl hT
            have eg := ((hF 19).trans (look_at _ 19 15 _ _ (by kernel_rfl) (by kernel_rfl) hl)).trans (dep_of (Fact := F_refc KB W.heap.size n cap kb ko q rf af nf cf true) hd 15 (by kernel_rfl))
            exact wpList_off rfl (t := 19) (d := false) (by kernel_rfl) eg (by decide) ⟨_, rfl, Below.refl _ _, rfl⟩
          · intro vs w' F hb hd hF hl hT
            have ec := ((hF 19).trans (look_at _ 19 15 _ _ (by kernel_rfl) (by kernel_rfl) hl)).trans (dep_of (Fact := F_refc KB W.heap.size n cap kb ko q rf af nf cf true) hd 15 (by kernel_rfl))
            exact one_pick_f _ _ _ rfl rfl _ ec rfl ⟨_, rfl, Below.refl _ _, rfl⟩
          · intro vs w' F hb hd hF hl hT
            have e := ((hF 30).trans (look_at _ 30 26 _ _ (by kernel_rfl) (by kernel_rfl) hl)).trans (dep_of (Fact := F_refc KB W.heap.size n cap kb ko q rf af nf cf true) hd 26 (by kernel_rfl))
            exact one_move _ rfl (by first | exact Or.inl rfl | exact Or.inr rfl) ⟨_, rfl, Below.refl _ _, e⟩
        · intro vs8 W8 hl hb hI
          have hv : vs8.getD 27 undef = .bool false := hI 27 (by omega)
          obtain ⟨x0, x1, x2, x3, x4, x5, x6, x7, x8, x9, x10, x11, x12, x13, x14, x15, x16, x17, x18, x19, x20, x21, x22, x23, x24, x25, x26, x27, hvs⟩ := list28 hl
          subst hvs
          replace hv : x27 = .bool false := hv
          subst hv
          clear hI hl
          simp only [fillAll, Act.put, List.setIfInBounds_toArray, List.set_cons_succ, List.set_cons_zero]
          show wpList _ _ _ [] _ _
          go_wp2
          go_ret
          exact ⟨by rw [HB2.out]; rfl, bt HB0.out hb⟩
      · rw [decide_eq_true (show 0 ≤ rf by omega)] at e
        obtain ⟨BB, hBB⟩ : ∃ BB, BB = decide (rf < (nf : Int)) := ⟨_, rfl⟩
        rw [← hBB] at e
        have HB2 := Lib.hid e
        have HBB := Lib.hid hBB.symm
        clear HB e hBB
        go_wp2_with fail
        rw [← HW.out]
        refine wp_region_facts_t rfl 28 (by kernel_rfl) (F_refd KB W.heap.size n cap kb ko q rf af nf cf BB) (F_refd_mono KB W.heap.size n cap kb ko q rf af nf cf BB) ?_ ?_
        · refine ⟨?_, ?_, ?_, ?_, ?_, ?_, ?_, ?_, ?_, ?_, ?_, ?_, ?_, ?_, ?_, ?_, ?_, ?_, ?_, ?_, ?_, ?_, ?_, ?_, ?_, ?_, ?_, ?_, trivial⟩
          · intro vs w' F hb hd hF hl hT
            have e := (hF 2).trans (look_out _ 2 _ _ (by kernel_rfl))
            exact one_field _ _ _ rfl rfl _ _ e (0) (fun w => by kernel_rfl) ⟨_, rfl, Below.refl _ _, rfl⟩
          · intro vs w' F hb hd hF hl hT
            have e := ((hF 4).trans (look_at _ 4 0 _ _ (by kernel_rfl) (by kernel_rfl) hl)).trans (dep_of (Fact := F_refd KB W.heap.size n cap kb ko q rf af nf cf BB) hd 0 (by kernel_rfl))
            exact one_load _ _ rfl rfl _ _ e (cell_abides Q0.out hb) (by kernel_rfl) ⟨_, rfl, Below.refl _ _, rfl⟩
          · intro vs w' F hb hd hF hl hT
            have e1 := ((hF 5).trans (look_at _ 5 1 _ _ (by kernel_rfl) (by kernel_rfl) hl)).trans (dep_of (Fact := F_refd KB W.heap.size n cap kb ko q rf af nf cf BB) hd 1 (by kernel_rfl))
            exact rg_geq _ _ _ _ rfl rfl .i64 ((q : Int)) (0) true e1 rfl (decide_eq_true (by omega)) ⟨_, rfl, Below.refl _ _, rfl⟩
          · intro vs w' F hb hd hF hl hT
            have e := ((hF 6).trans (look_at _ 6 2 _ _ (by kernel_rfl) (by kernel_rfl) hl)).trans (dep_of (Fact := F_refd KB W.heap.size n cap kb ko q rf af nf cf BB) hd 2 (by kernel_rfl))
            exact one_move _ rfl (by first | exact Or.inl rfl | exact Or.inr rfl) ⟨_, rfl, Below.refl _ _, e⟩
          · intro vs w' F hb hd hF hl hT
            have eg := ((hF 7).trans (look_at _ 7 3 _ _ (by kernel_rfl) (by kernel_rfl) hl)).trans (dep_of (Fact := F_refd KB W.heap.size n cap kb ko q rf af nf cf BB) hd 3 (by kernel_rfl))
            refine wpList_on rfl (t := 7) (by kernel_rfl) eg ?_
            have e := (hF 2).trans (look_out _ 2 _ _ (by kernel_rfl))
            exact one_field _ _ _ rfl rfl _ _ e (0) (fun w => by kernel_rfl) ⟨_, rfl, Below.refl _ _, rfl⟩
          · intro vs w' F hb hd hF hl hT
            have eg := ((hF 7).trans (look_at _ 7 3 _ _ (by kernel_rfl) (by kernel_rfl) hl)).trans (dep_of (Fact := F_refd KB W.heap.size n cap kb ko q rf af nf cf BB) hd 3 (by kernel_rfl))
            refine wpList_on rfl (t := 7) (by kernel_rfl) eg ?_
            have e := ((hF 8).trans (look_at _ 8 4 _ _ (by kernel_rfl) (by kernel_rfl) hl)).trans (dep_of (Fact := F_refd KB W.heap.size n cap kb ko q rf af nf cf BB) hd 4 (by kernel_rfl))
            exact one_load _ _ rfl rfl _ _ e (cell_abides Q0.out hb) (by kernel_rfl) ⟨_, rfl, Below.refl _ _, rfl⟩
          · intro vs w' F hb hd hF hl hT
            have eg := ((hF 7).trans (look_at _ 7 3 _ _ (by kernel_rfl) (by kernel_rfl) hl)).trans (dep_of (Fact := F_refd KB W.heap.size n cap kb ko q rf af nf cf BB) hd 3 (by kernel_rfl))
            refine wpList_on rfl (t := 7) (by kernel_rfl) eg ?_
            have e := (hF 1).trans (look_out _ 1 _ _ (by kernel_rfl))
            exact one_load _ _ rfl rfl _ _ e (cell_abides KQ.out hb) (by kernel_rfl) ⟨_, rfl, Below.refl _ _, rfl⟩
          · intro vs w' F hb hd hF hl hT
            have eg := ((hF 7).trans (look_at _ 7 3 _ _ (by kernel_rfl) (by kernel_rfl) hl)).trans (dep_of (Fact := F_refd KB W.heap.size n cap kb ko q rf af nf cf BB) hd 3 (by kernel_rfl))
            refine wpList_on rfl (t := 7) (by kernel_rfl) eg ?_
            have e := ((hF 10).trans (look_at _ 10 6 _ _ (by kernel_rfl) (by kernel_rfl) hl)).trans (dep_of (Fact := F_refd KB W.heap.size n cap kb ko q rf af nf cf BB) hd 6 (by kernel_rfl))
            exact rg_len _ 22 43 rfl rfl Tryd.underlying22 (some ⟨kb, ko, none⟩) (n) (cap) e ⟨_, rfl, Below.refl _ _, rfl⟩
          · intro vs w' F hb hd hF hl hT
            have eg := ((hF 7).trans (look_at _ 7 3 _ _ (by kernel_rfl) (by kernel_rfl) hl)).trans (dep_of (Fact := F_refd KB W.heap.size n cap kb ko q rf af nf cf BB) hd 3 (by kernel_rfl))
            refine wpList_on rfl (t := 7) (by kernel_rfl) eg ?_
            have e1 := ((hF 9).trans (look_at _ 9 5 _ _ (by kernel_rfl) (by kernel_rfl) hl)).trans (dep_of (Fact := F_refd KB W.heap.size n cap kb ko q rf af nf cf BB) hd 5 (by kernel_rfl))
            have e2 := ((hF 11).trans (look_at _ 11 7 _ _ (by kernel_rfl) (by kernel_rfl) hl)).trans (dep_of (Fact := F_refd KB W.heap.size n cap kb ko q rf af nf cf BB) hd 7 (by kernel_rfl))
            exact rg_lss _ _ _ _ rfl rfl .i64 ((q : Int)) ((n : Int)) true e1 e2 (decide_eq_true (by omega)) ⟨_, rfl, Below.refl _ _, rfl⟩
          · intro vs w' F hb hd hF hl hT
            have ec := ((hF 7).trans (look_at _ 7 3 _ _ (by kernel_rfl) (by kernel_rfl) hl)).trans (dep_of (Fact := F_refd KB W.heap.size n cap kb ko q rf af nf cf BB) hd 3 (by kernel_rfl))
            have e := ((hF 12).trans (look_at _ 12 8 _ _ (by kernel_rfl) (by kernel_rfl) hl)).trans (dep_of (Fact := F_refd KB W.heap.size n cap kb ko q rf af nf cf BB) hd 8 (by kernel_rfl))
            exact one_pick_t _ _ _ rfl rfl _ ec e ⟨_, rfl, Below.refl _ _, rfl⟩
          · intro vs w' F hb hd hF hl hT
            have e := ((hF 13).trans (look_at _ 13 9 _ _ (by kernel_rfl) (by kernel_rfl) hl)).trans (dep_of (Fact := F_refd KB W.heap.size n cap kb ko q rf af nf cf BB) hd 9 (by kernel_rfl))
            exact one_move _ rfl (by first | exact Or.inl rfl | exact Or.inr rfl) ⟨_, rfl, Below.refl _ _, e⟩
          · intro vs w' F hb hd hF hl hT
            have eg := ((hF 14).trans (look_at _ 14 10 _ _ (by kernel_rfl) (by kernel_rfl) hl)).trans (dep_of (Fact := F_refd KB W.heap.size n cap kb ko q rf af nf cf BB) hd 10 (by kernel_rfl))
            refine wpList_on rfl (t := 14) (by kernel_rfl) eg ?_
            have e := (hF 2).trans (look_out _ 2 _ _ (by kernel_rfl))
            exact one_field _ _ _ rfl rfl _ _ e (1) (fun w => by kernel_rfl) ⟨_, rfl, Below.refl _ _, rfl⟩
          · intro vs w' F hb hd hF hl hT
            have eg := ((hF 14).trans (look_at _ 14 10 _ _ (by kernel_rfl) (by kernel_rfl) hl)).trans (dep_of (Fact := F_refd KB W.heap.size n cap kb ko q rf af nf cf BB) hd 10 (by kernel_rfl))
            refine wpList_on rfl (t := 14) (by kernel_rfl) eg ?_
            have e := ((hF 15).trans (look_at _ 15 11 _ _ (by kernel_rfl) (by kernel_rfl) hl)).trans (dep_of (Fact := F_refd KB W.heap.size n cap kb ko q rf af nf cf BB) hd 11 (by kernel_rfl))
            exact one_load _ _ rfl rfl _ _ e (cell_abides Q1.out hb) (by kernel_rfl) ⟨_, rfl, Below.refl _ _, rfl⟩
          · intro vs w' F hb hd hF hl hT
            have eg := ((hF 14).trans (look_at _ 14 10 _ _ (by kernel_rfl) (by kernel_rfl) hl)).trans (dep_of (Fact := F_refd KB W.heap.size n cap kb ko q rf af nf cf BB) hd 10 (by kernel_rfl))
            refine wpList_on rfl (t := 14) (by kernel_rfl) eg ?_
            have e1 := ((hF 16).trans (look_at _ 16 12 _ _ (by kernel_rfl) (by kernel_rfl) hl)).trans (dep_of (Fact := F_refd KB W.heap.size n cap kb ko q rf af nf cf BB) hd 12 (by kernel_rfl))
            exact rg_geq _ _ _ _ rfl rfl .i64 (rf) (0) true e1 rfl (decide_eq_true (by omega)) ⟨_, rfl, Below.refl _ _, rfl⟩
          · intro vs w' F hb hd hF hl hT
            have ec := ((hF 14).trans (look_at _ 14 10 _ _ (by kernel_rfl) (by kernel_rfl) hl)).trans (dep_of (Fact := F_refd KB W.heap.size n cap kb ko q rf af nf cf BB) hd 10 (by kernel_rfl))
            have e := ((hF 17).trans (look_at _ 17 13 _ _ (by kernel_rfl) (by kernel_rfl) hl)).trans (dep_of (Fact := F_refd KB W.heap.size n cap kb ko q rf af nf cf BB) hd 13 (by kernel_rfl))
            exact one_pick_t _ _ _ rfl rfl _ ec e ⟨_, rfl, Below.refl _ _, rfl⟩
          · intro vs w' F hb hd hF hl hT
            have e := ((hF 18).trans (look_at _ 18 14 _ _ (by kernel_rfl) (by kernel_rfl) hl)).trans (dep_of (Fact := F_refd KB W.heap.size n cap kb ko q rf af nf cf BB) hd 14 (by kernel_rfl))
            exact one_move _ rfl (by first | exact Or.inl rfl | exact Or.inr rfl) ⟨_, rfl, Below.refl _ _, e⟩
          · intro vs w' F hb hd hF hl hT
            have eg := ((hF 19).trans (look_at _ 19 15 _ _ (by kernel_rfl) (by kernel_rfl) hl)).trans (dep_of (Fact := F_refd KB W.heap.size n cap kb ko q rf af nf cf BB) hd 15 (by kernel_rfl))
            refine wpList_on rfl (t := 19) (by kernel_rfl) eg ?_
            have e := (hF 2).trans (look_out _ 2 _ _ (by kernel_rfl))
            exact one_field _ _ _ rfl rfl _ _ e (1) (fun w => by kernel_rfl) ⟨_, rfl, Below.refl _ _, rfl⟩
          · intro vs w' F hb hd hF hl hT
            have eg := ((hF 19).trans (look_at _ 19 15 _ _ (by kernel_rfl) (by kernel_rfl) hl)).trans (dep_of (Fact := F_refd KB W.heap.size n cap kb ko q rf af nf cf BB) hd 15 (by kernel_rfl))
            refine wpList_on rfl (t := 19) (by kernel_rfl) eg ?_
            have e := ((hF 20).trans (look_at _ 20 16 _ _ (by kernel_rfl) (by kernel_rfl) hl)).trans (dep_of (Fact := F_refd KB W.heap.size n cap kb ko q rf af nf cf BB) hd 16 (by kernel_rfl))
            exact one_load _ _ rfl rfl _ _ e (cell_abides Q1.out hb) (by kernel_rfl) ⟨_, rfl, Below.refl _ _, rfl⟩
          · intro vs w' F hb hd hF hl hT
            have eg := ((hF 19).trans (look_at _ 19 15 _ _ (by kernel_rfl) (by kernel_rfl) hl)).trans (dep_of (Fact := F_refd KB W.heap.size n cap kb ko q rf af nf cf BB) hd 15 (by kernel_rfl))
            refine wpList_on rfl (t := 19) (by kernel_rfl) eg ?_
            have e := (hF 1).trans (look_out _ 1 _ _ (by kernel_rfl))
            exact one_load _ _ rfl rfl _ _ e (cell_abides KQ.out hb) (by kernel_rfl) ⟨_, rfl, Below.refl _ _, rfl⟩
          · intro vs w' F hb hd hF hl hT
            have eg := ((hF 19).trans (look_at _ 19 15 _ _ (by kernel_rfl) (by kernel_rfl) hl)).trans (dep_of (Fact := F_refd KB W.heap.size n cap kb ko q rf af nf cf BB) hd 15 (by kernel_rfl))
            refine wpList_on rfl (t := 19) (by kernel_rfl) eg ?_
            have e := (hF 2).trans (look_out _ 2 _ _ (by kernel_rfl))
            exact one_field _ _ _ rfl rfl _ _ e (0) (fun w => by kernel_rfl) ⟨_, rfl, Below.refl _ _, rfl⟩
          · intro vs w' F hb hd hF hl hT
            have eg := ((hF 19).trans (look_at _ 19 15 _ _ (by kernel_rfl) (by kernel_rfl) hl)).trans (dep_of (Fact := F_refd KB W.heap.size n cap kb ko q rf af nf cf BB) hd 15 (by kernel_rfl))
            refine wpList_on rfl (t := 19) (by kernel_rfl) eg ?_
            have e := ((hF 23).trans (look_at _ 23 19 _ _ (by kernel_rfl) (by kernel_rfl) hl)).trans (dep_of (Fact := F_refd KB W.heap.size n cap kb ko q rf af nf cf BB) hd 19 (by kernel_rfl))
            exact one_load _ _ rfl rfl _ _ e (cell_abides Q0.out hb) (by kernel_rfl) ⟨_, rfl, Below.refl _ _, rfl⟩
          · intro vs w' F hb hd hF hl hT
            have eg := ((hF 19).trans (look_at _ 19 15 _ _ (by kernel_rfl) (by kernel_rfl) hl)).trans (dep_of (Fact := F_refd KB W.heap.size n cap kb ko q rf af nf cf BB) hd 15 (by kernel_rfl))
            refine wpList_on rfl (t := 19) (by kernel_rfl) eg ?_
            have ex := ((hF 22).trans (look_at _ 22 18 _ _ (by kernel_rfl) (by kernel_rfl) hl)).trans (dep_of (Fact := F_refd KB W.heap.size n cap kb ko q rf af nf cf BB) hd 18 (by kernel_rfl))
            have ey := ((hF 24).trans (look_at _ 24 20 _ _ (by kernel_rfl) (by kernel_rfl) hl)).trans (dep_of (Fact := F_refd KB W.heap.size n cap kb ko q rf af nf cf BB) hd 20 (by kernel_rfl))
            exact one_index 22 _ _ rfl rfl (.slice (some ⟨kb, ko, none⟩) n cap) (.int .i64 (q : Int)) (.pointer (some ⟨kb, ko + q * 2, none⟩)) ex ey (fun w => rg_idx Tryd.underlying22 (show (Tryd.prog.info? 43).map (·.size) = some 2 by kernel_rfl) (kb) (ko) (n) (cap) (q) (by omega) w) ⟨_, rfl, Below.refl _ _, rfl⟩
          · intro vs w' F hb hd hF hl hT
            have eg := ((hF 19).trans (look_at _ 19 15 _ _ (by kernel_rfl) (by kernel_rfl) hl)).trans (dep_of (Fact := F_refd KB W.heap.size n cap kb ko q rf af nf cf BB) hd 15 (by kernel_rfl))
            refine wpList_on rfl (t := 19) (by kernel_rfl) eg ?_
            have e := ((hF 25).trans (look_at _ 25 21 _ _ (by kernel_rfl) (by kernel_rfl) hl)).trans (dep_of (Fact := F_refd KB W.heap.size n cap kb ko q rf af nf cf BB) hd 21 (by kernel_rfl))
            exact one_field _ _ _ rfl rfl _ _ e (ko + q * 2 + 1) (fun w => by kernel_rfl) ⟨_, rfl, Below.refl _ _, rfl⟩
          · intro vs w' F hb hd hF hl hT
            have eg := ((hF 19).trans (look_at _ 19 15 _ _ (by kernel_rfl) (by kernel_rfl) hl)).trans (dep_of (Fact := F_refd KB W.heap.size n cap kb ko q rf af nf cf BB) hd 15 (by kernel_rfl))
            refine wpList_on rfl (t := 19) (by kernel_rfl) eg ?_
            have e := ((hF 26).trans (look_at _ 26 22 _ _ (by kernel_rfl) (by kernel_rfl) hl)).trans (dep_of (Fact := F_refd KB W.heap.size n cap kb ko q rf af nf cf BB) hd 22 (by kernel_rfl))
            exact one_load _ _ rfl rfl _ _ e (cell_abides HCK.out hb) (by kernel_rfl) ⟨_, rfl, Below.refl _ _, rfl⟩
          · intro vs w' F hb hd hF hl hT
            have eg := ((hF 19).trans (look_at _ 19 15 _ _ (by kernel_rfl) (by kernel_rfl) hl)).trans (dep_of (Fact := F_refd KB W.heap.size n cap kb ko q rf af nf cf BB) hd 15 (by kernel_rfl))
            refine wpList_on rfl (t := 19) (by kernel_rfl) eg ?_
            have e := ((hF 27).trans (look_at _ 27 23 _ _ (by kernel_rfl) (by kernel_rfl) hl)).trans (dep_of (Fact := F_refd KB W.heap.size n cap kb ko q rf af nf cf BB) hd 23 (by kernel_rfl))
            exact rg_len _ 41 40 rfl rfl Tryd.underlying41 af (nf) (cf) e ⟨_, rfl, Below.refl _ _, rfl⟩
          · intro vs w' F hb hd hF hl hT
            have eg := ((hF 19).trans (look_at _ 19 15 _ _ (by kernel_rfl) (by kernel_rfl) hl)).trans (dep_of (Fact := F_refd KB W.heap.size n cap kb ko q rf af nf cf BB) hd 15 (by kernel_rfl))
            refine wpList_on rfl (t := 19) (by kernel_rfl) eg ?_
            have e1 := ((hF 21).trans (look_at _ 21 17 _ _ (by kernel_rfl) (by kernel_rfl) hl)).trans (dep_of (Fact := F_refd KB W.heap.size n cap kb ko q rf af nf cf BB) hd 17 (by kernel_rfl))
            have e2 := ((hF 28).trans (look_at _ 28 24 _ _ (by kernel_rfl) (by kernel_rfl) hl)).trans (dep_of (Fact := F_refd KB W.heap.size n cap kb ko q rf af nf cf BB) hd 24 (by kernel_rfl))
            exact rg_lss _ _ _ _ rfl rfl .i64 (rf) ((nf : Int)) BB e1 e2 (HBB.out) ⟨_, rfl, Below.refl _ _, rfl⟩
          · intro vs w' F hb hd hF hl hT
            have ec := ((hF 19).trans (look_at _ 19 15 _ _ (by kernel_rfl) (by kernel_rfl) hl)).trans (dep_of (Fact := F_refd KB W.heap.size n cap kb ko q rf af nf cf BB) hd 15 (by kernel_rfl))
            have e := ((hF 29).trans (look_at _ 29 25 _ _ (by kernel_rfl) (by kernel_rfl) hl)).trans (dep_of (Fact := F_refd KB W.heap.size n cap kb ko q rf af nf cf BB) hd 25 (by kernel_rfl))
            exact one_pick_t _ _ _ rfl rfl _ ec e ⟨_, rfl, Below.refl _ _, rfl⟩
          · intro vs w' F hb hd hF hl hT
            have e := ((hF 30).trans (look_at _ 30 26 _ _ (by kernel_rfl) (by kernel_rfl) hl)).trans (dep_of (Fact := F_refd KB W.heap.size n cap kb ko q rf af nf cf BB) hd 26 (by kernel_rfl))
            exact one_move _ rfl (by first | exact Or.inl rfl | exact Or.inr rfl) ⟨_, rfl, Below.refl _ _, e⟩
        · intro vs8 W8 hl hb hI
          have hv : vs8.getD 27 undef = .bool BB := hI 27 (by omega)
          obtain ⟨x0, x1, x2, x3, x4, x5, x6, x7, x8, x9, x10, x11, x12, x13, x14, x15, x16, x17, x18, x19, x20, x21, x22, x23, x24, x25, x26, x27, hvs⟩ := list28 hl
          subst hvs
          replace hv : x27 = .bool BB := hv
          subst hv
          clear hI hl
          simp only [fillAll, Act.put, List.setIfInBounds_toArray, List.set_cons_succ, List.set_cons_zero]
          show wpList _ _ _ [] _ _
          go_wp2
          go_ret
          exact ⟨by rw [HB2.out]; simp, bt HB0.out hb⟩
end Go.Proofs.YtijeninfmjhbnaaDoor
end
