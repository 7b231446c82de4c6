/- Lemmas for the law TopSlotWorld: TmGrow, TmRd, TmGrowA, TmKinds. No conditions. -/
import Derived.Test.YtpilpkbblkhnaaaM11
import Derived.Test.YtpilpkbblkhnaaaM06
import Derived.Test.YtpilpkbblkhnaaaM05
import Derived.Deep.LoopGhost
import Derived.Deep.DeepMust
import Derived.Deep.DeepCutAuto
import Derived.RegionTactic
import Derived.OwnWalk
/- Lists grown while a stream below them moves on; literals of strings. -/
section
namespace Go.Proofs.Ytpilpkbblkhnaaa
open Go.ChangeShapes Go.WideShapes Go.ChangeAt Go.RowKit Go.Nm Go.Mem
set_option linter.unusedVariables false
theorem GrowL.pushS {α : Type} {E : World → List Value → α → Prop} {base : Nat} {T : TypeId} {sz : Nat} {w w2 w3 : World} {v v' : Value} {l : List α} (hbase : base ≤ w.heap.size) (hs : w.heap.size ≤ w2.heap.size) (hb : ∀ g, base ≤ g → g < w.heap.size → w2.heap[g]? = w.heap[g]?)
    (cs : List Value) (y : α) (hcs : cs.length = sz) (hy : Win w.heap.size w2.heap.size (fun w => E w cs y) w2)
    {css : List (List Value)} (hcss : css.length = l.length ∧ (∀ c ∈ css, c.length = sz) ∧ w.ownsRow base T sz v l.length css.flatten ∧ ∀ j (h : j < l.length) (h2 : j < css.length), ∃ lo hi, base ≤ lo ∧ (∀ g, v.ownBlock = some g → ¬(lo ≤ g ∧ g < hi)) ∧ Win lo hi (fun w => E w css[j] l[j]) w)
    (hown : w3.ownsRow base T sz v' (l.length + 1) (css.flatten ++ cs)) (hg : w2.grownBy w3 v.ownBlock) (hlie2 : v'.ownBlock = v.ownBlock ∨ v'.ownBlock = some w2.heap.size) : GrowL E base T sz w3 v' (l ++ [y]) := by
  obtain ⟨g', cap, hv'', _, _⟩ := hown.form (by omega)
  have hv' : v'.ownBlock = some g' := by rw [hv'']; rfl
  have hlie : v.ownBlock = some g' ∨ g' = w2.heap.size := by
    rcases hlie2 with hl | hl
    · exact Or.inl (by rw [← hl]; exact hv')
    · exact Or.inr (by rw [hv'] at hl; injection hl)
  obtain ⟨h1, h2, h3, h4⟩ := hcss
  refine ⟨css ++ [cs], by simp [h1], ?_, ?_, fun j hj hj2 => ?_⟩
  · intro c hc
    rcases List.mem_append.1 hc with hc | hc
    · exact h2 c hc
    · rw [List.mem_singleton.1 hc]; exact hcs
  · rw [List.flatten_append, List.length_append]
    simpa using hown
  · by_cases hjl : j < l.length
    · obtain ⟨lo, hi, p0, p1, p2⟩ := h4 j hjl (by omega)
      have e1 : (css ++ [cs])[j]'hj2 = css[j]'(by omega) := List.getElem_append_left (by omega)
      have e2 : (l ++ [y])[j]'hj = l[j]'hjl := List.getElem_append_left hjl
      rw [e1, e2]
      refine ⟨lo, hi, p0, fun g hgg => ?_, p2.to (Nat.le_trans p2.1 (Nat.le_trans hs hg.size)) (fun g g1 g2 => ?_)⟩
      · rw [hv'] at hgg
        injection hgg with hgg
        subst hgg
        rcases hlie with hl | hl
        · exact p1 _ hl
        · have := p2.1
          omega
      · have hgw : g < w.heap.size := Nat.lt_of_lt_of_le g2 p2.1
        rw [hg.block g (Nat.lt_of_lt_of_le hgw hs) (fun e => p1 g e.symm ⟨g1, g2⟩)]
        exact hb g (Nat.le_trans p0 g1) hgw
    · have hje : j = l.length := by simp at hj; omega
      subst hje
      have e1 : (css ++ [cs])[l.length]'hj2 = cs := by
        rw [List.getElem_append_right (by omega)]; simp [h1]
      have e2 : (l ++ [y])[l.length]'hj = y := by
        rw [List.getElem_append_right (by omega)]; simp
      rw [e1, e2]
      refine ⟨w.heap.size, w2.heap.size, hbase, fun g hgg => ?_, hy.to hg.size (fun g g1 g2 => ?_)⟩
      · rw [hv'] at hgg
        injection hgg with hgg
        subst hgg
        rcases hlie with hl | hl
        · have := (own_lt h3 _ hl).2
          omega
        · omega
      · exact hg.block g g2 (fun e => by have := (own_lt h3 _ e.symm).2; omega)
section
variable {P : Program} {ops : Array Oper} {o : Oper} {F : Act} {w : World} {Q : Exit → Act → World → Prop}
theorem rg_slice3s (t e : TypeId) (x y z : ByteArray) (hgd : o.guard = none) (ho : o.op = .buildSlice t 3 #[(0, .const (.string x)), (1, .const (.string y)), (2, .const (.string z))])
    (hu : P.underlying t = some (.slice e)) (hi : (P.info? e).map (fun i => (i.zero, i.size)) = some (some (.string ByteArray.empty), 1)) (h : Q .normal (F.put o.dst (.slice (some ⟨w.heap.size, 0, none⟩) 3 3)) (w.alloc (.cells #[.string x, .string y, .string z] e (0, 0)))) : wpList P ops Q [o] F w := by
  obtain ⟨i, hi2, hzz⟩ := Option.map_eq_some_iff.1 hi
  simp only [Prod.mk.injEq] at hzz
  refine wpList_plain hgd fun K hK => ?_
  refine wp_buildSlice t e 3 _ ho #[.string x, .string y, .string z] i (.string ByteArray.empty) hu hi2 hzz.1 (by rw [hzz.2]; decide) (by rw [hzz.2]; decide) ?_ (hK _ _ h)
  rw [hzz.2]
  simp only [List.map_toArray, List.map_cons, List.map_nil, Act.eval]
  have hr : Array.range 3 = #[0, 1, 2] := by decide
  simp [Instr.fill, Value.cells, hr]
end
theorem lit3 {w : World} {b j : Nat} {x y z : ByteArray} {t : TypeId} (h : w.heap[b]? = some (.cells #[.string x, .string y, .string z] t (0, 0))) (hj : j < 3) : w.cell? ⟨b, j, none⟩ = some (.string (if j = 0 then x else if j = 1 then y else z)) := by
  have hc := cell_of_row _ _ j _ _ _ h
  rcases (show j = 0 ∨ j = 1 ∨ j = 2 by omega) with rfl | rfl | rfl <;> exact hc
theorem lit4 {w : World} {b j : Nat} {x y z u : ByteArray} {t : TypeId} (h : w.heap[b]? = some (.cells #[.string x, .string y, .string z, .string u] t (0, 0))) (hj : j < 4) : w.cell? ⟨b, j, none⟩ = some (.string (if j = 0 then x else if j = 1 then y else if j = 2 then z else u)) := by
  have hc := cell_of_row _ _ j _ _ _ h
  rcases (show j = 0 ∨ j = 1 ∨ j = 2 ∨ j = 3 by omega) with rfl | rfl | rfl | rfl <;> exact hc
theorem Strm.gb {w w' : World} {g B : Nat} {row : Option Nat} (h : Strm w g) (hg : w.grownBy w' row) (hB : g < B) (hr : ∀ r, row = some r → B ≤ r) : Strm w' g := by
  obtain ⟨a, l, c, h1, h2, h3, h4, h5⟩ := h
  refine ⟨a, l, c, (hg.block g (lt_of_heap h1) (fun e => by have := hr g e.symm; omega)).trans h1, fun h0 => ?_, h3, h4, h5⟩
  obtain ⟨x, hx, hb, hc⟩ := h2 h0
  exact ⟨x, hx, Nat.lt_of_lt_of_le hb hg.size, fun i hi => World.grownBy.cell hg (hc i hi) (by
    rw [block_of_add]
    have := h5 x hx
    intro e
    have := hr _ e.symm
    omega)⟩
theorem gb_set1 (w : World) (b i : Nat) (v : Value) : w.grownBy (w.setCell ⟨b, i, none⟩ v) (some b) := ⟨rfl, rfl, rfl, by simp, fun q hq hne => Below.heap_setCell w ⟨b, i, none⟩ _ q (fun e => hne (by rw [e]))⟩
theorem gb_new {a b c : World} {row row2 : Option Nat} (h1 : a.grownBy b row) (h2 : b.grownBy c row2) (hk : ∀ r, row2 = some r → a.heap.size ≤ r) : a.grownBy c row :=
  ⟨h2.os.trans h1.os, h2.tape.trans h1.tape, h2.output.trans h1.output, Nat.le_trans h1.size h2.size, fun q hq hne => (h2.block q (Nat.lt_of_lt_of_le hq h1.size) (fun e => by have := hk q e.symm; omega)).trans (h1.block q hq hne)⟩
theorem gb_putT {w w2 : World} {g : Nat} {t : TypeId} {cs : Array Value} (h : PutR w w2 g t cs) : w.grownBy w2 (some g) := ⟨h.os, h.tape, h.output, by rw [h.size]; exact Nat.le_refl _, fun k _ hk => h.else_ k (fun e => hk (by rw [e]))⟩
theorem heap_gb {w w' : World} {b : Nat} {o : Obj} {row : Option Nat} (h : w.heap[b]? = some o) (hg : w.grownBy w' row) (hne : some b ≠ row) : w'.heap[b]? = some o := (hg.block b (lt_of_heap h) hne).trans h
theorem some_ne {a b : Nat} (h : a ≠ b) : some a ≠ some b := fun e => h (by injection e)
theorem own_same {w w2 : World} {B e size n : Nat} {v : Value} {xs : List Value} (h : w.ownsRow B e size v n xs) (hs : SameUp B w w2) : w2.ownsRow B e size v n xs := by
  refine ⟨h.1, ?_⟩
  rcases h.2 with h | ⟨g, cap, cur, k1, k2, k3, k4⟩
  · exact Or.inl h
  · exact Or.inr ⟨g, cap, cur, k1, k2, (hs.2 g k2 (lt_of_heap k3)).trans k3, k4⟩
theorem new_cellsT (w : World) (cs : Array Value) (t : TypeId) : CellsAt (w.alloc (.cells cs t (0, 0))) (some ⟨w.heap.size, 0, none⟩) cs.toList := fun _ => ⟨_, rfl, by simp, fun j u hu => by
  have := new_row w cs t j u hu
  rw [add_zero_block]
  simpa using this⟩
theorem sameUp_gb {w w2 : World} {B g : Nat} (h : w.grownBy w2 (some g)) (hg : g < B) : SameUp B w w2 := ⟨h.size, fun q h1 h2 => h.block q h2 (fun e => by injection e with e; omega)⟩
end Go.Proofs.Ytpilpkbblkhnaaa
end
/- Kinds read while a stream below them moves on; shifts; drawn regions that write two blocks. -/
section
namespace Go.Proofs.Ytpilpkbblkhnaaa
open Go.ChangeShapes Go.WideShapes Go.ChangeAt Go.RowKit Go.Nm Go.Mem
set_option linter.unusedVariables false
theorem GrowL.ge {α : Type} {E : World → List Value → α → Prop} {base : Nat} {T : TypeId} {sz : Nat} {w : World} {v : Value} {l : List α} (h : GrowL E base T sz w v l) (a : Option Addr) (n c : Nat) (hv : v = .slice a n c) : ∀ x, a = some x → base ≤ x.block := by
  obtain ⟨css, h1, h2, h3, h4⟩ := h
  intro x hx
  rcases h3.2 with ⟨h, h0⟩ | ⟨g, cap, cur, k1, k2, k3, k4⟩
  · rw [h] at hv; injection hv with hv; rw [hx] at hv; cases hv
  · rw [k1] at hv; injection hv with hv; rw [hx] at hv; injection hv with hv; rw [← hv]; exact k2
theorem Up.same {B : Nat} {R : World → Prop} {w w' : World} (h : Up B R w) (hs : SameUp B w w') : Up B R w' := fun w2 h2 => h w2 ⟨Nat.le_trans hs.1 h2.1, fun g h1 h3 => (h2.2 g h1 (Nat.lt_of_lt_of_le h3 hs.1)).trans (hs.2 g h1 h3)⟩
/-- kinds that lean on the blocks from B on alone -/
def KRd (B : Nat) (w : World) (a : Option Addr) (ks : List KindV) : Prop := Up B (fun w => SlAt 2 KindAt w a ks) w ∧ ∀ x, a = some x → B ≤ x.block
theorem KRd.same {B : Nat} {w w' : World} {a : Option Addr} {ks : List KindV} (h : KRd B w a ks) (hs : SameUp B w w') : KRd B w' a ks := ⟨Up.same h.1 hs, h.2⟩
theorem KRd.kind {B : Nat} {w : World} {a : Option Addr} {ks : List KindV} (h : KRd B w a ks) (i : Nat) (hi : i < ks.length) : ∃ kb ko fa fc, a = some ⟨kb, ko, none⟩ ∧ CellsK w kb (ko + i * 2) [.string ks[i].name, .slice fa ks[i].fields.length fc] ∧ ks[i].fields.length ≤ fc ∧ fc ≤ 9223372036854775807 ∧ Up B (fun w => SlAt 3 FieldAt w fa ks[i].fields) w := by
  obtain ⟨x, hx, hlt, _⟩ := h.1.now (by omega)
  have h1 := h.1.now
  rw [hx] at h1
  obtain ⟨kb, ko, hkx, fa, fc, hck, _, hl, hm, hf⟩ := kind_cells h1 i hi
  have hge := h.2 x hx
  rw [hkx] at hx hge hlt
  simp only at hge hlt
  refine ⟨kb, ko, fa, fc, hx, hck, hl, hm, fun w2 hs => ?_⟩
  have h2 := h.1 w2 hs
  simp only at h2
  rw [hx] at h2
  obtain ⟨kb2, ko2, hkx2, fa2, fc2, hck2, _, _, _, hf2⟩ := kind_cells h2 i hi
  injection hkx2 with e1 e2
  subst e1 e2
  have c1 := hck 1 _ rfl
  have c2 := hck2 1 _ rfl
  rw [cell_same (w := w) (w2 := w2) (p := ⟨kb, ko + i * 2 + 1, none⟩) (hs.2 kb hge hlt), c1] at c2
  injection c2 with c2
  injection c2 with c2
  rw [c2]; exact hf2
section
variable {P : Program} {ops : Array Oper} {o : Oper} {F : Act} {w : World} {Q : Exit → Act → World → Prop}
theorem rg_shl1 (ty yt : TypeId) (x y : Operand) (hgd : o.guard = none) (ho : o.op = .binOp .shl ty x y yt) (n : Nat) (hn : n ≤ 32) (hx : F.eval x = .int .i64 1) (hy : F.eval y = .int .i64 (n : Int))
    (h : Q .normal (F.put o.dst (.int .i64 ((2 ^ n : Nat) : Int))) w) : wpList P ops Q [o] F w := by
  have h2 : 2 ^ n ≤ 2 ^ 32 := Nat.pow_le_pow_right (by decide) hn
  exact one_binop .shl ty x y yt hgd ho _ _ hx hy _ (by simp [eqGuard]) (by
    simp [binOp]
    rw [show (2 : Int) ^ n = ((2 ^ n : Nat) : Int) by simp, IntKind.wrap_i64]
    generalize 2 ^ n = N at h2 ⊢
    omega) h
end
/-- what changes but these two rows stays -/
structure G2 (r1 r2 : Option Nat) (a b : World) : Prop where
  os : b.os = a.os
  tape : b.tape = a.tape
  output : b.output = a.output
  size : a.heap.size ≤ b.heap.size
  block : ∀ k, k < a.heap.size → some k ≠ r1 → some k ≠ r2 → b.heap[k]? = a.heap[k]?
theorem G2.trans {r1 r2 : Option Nat} {a b c : World} (h1 : G2 r1 r2 a b) (h2 : G2 r1 r2 b c) : G2 r1 r2 a c := ⟨h2.os.trans h1.os, h2.tape.trans h1.tape, h2.output.trans h1.output, Nat.le_trans h1.size h2.size, fun k hk e1 e2 => (h2.block k (Nat.lt_of_lt_of_le hk h1.size) e1 e2).trans (h1.block k hk e1 e2)⟩
theorem G2.drew (r1 r2 : Option Nat) (w : World) : G2 r1 r2 w w.drew := ⟨rfl, rfl, rfl, Nat.le_refl _, fun _ _ _ _ => rfl⟩
theorem G2.row {r1 r2 : Option Nat} {a b : World} {k : Nat} {o : Obj} (h : G2 r1 r2 a b) (hk : a.heap[k]? = some o) (e1 : some k ≠ r1) (e2 : some k ≠ r2) : b.heap[k]? = some o := (h.block k (lt_of_heap hk) e1 e2).trans hk
/-- what operation i does: p moves the stream in block g, q appends to its row, the others only lay blocks -/
def R2 (p q g : Nat) (row : Option Nat) (i : Nat) (a b : World) : Prop := (i ≠ p → i ≠ q → Below a.heap.size a b) ∧ (i = p → a.grownBy b (some g) ∧ Strm b g) ∧ (i = q → a.grownBy b row)
theorem R2.same {p q g : Nat} {row : Option Nat} {i : Nat} (w : World) (h1 : i ≠ p) : R2 p q g row i w w := ⟨fun _ _ => Below.refl _ _, fun h => absurd h h1, fun _ => World.grownBy.refl _ _⟩
theorem R2.below {p q g : Nat} {row : Option Nat} {i : Nat} {a b : World} (h1 : i ≠ p) (h2 : i ≠ q) (hb : Below a.heap.size a b) : R2 p q g row i a b := ⟨fun _ _ => hb, fun h => absurd h h1, fun h => absurd h h2⟩
theorem R2.g2 {p q g : Nat} {row : Option Nat} {i : Nat} {a b : World} (h : R2 p q g row i a b) : G2 (some g) row a b := by
  by_cases h1 : i = p
  · have := (h.2.1 h1).1
    exact ⟨this.os, this.tape, this.output, this.size, fun k hk e1 _ => this.block k hk e1⟩
  · by_cases h2 : i = q
    · have := h.2.2 h2
      exact ⟨this.os, this.tape, this.output, this.size, fun k hk _ e2 => this.block k hk e2⟩
    · have := h.1 h1 h2
      exact ⟨this.os, this.tape, this.output, this.size, fun k hk _ _ => this.block k hk⟩
theorem R2.sub {p q g : Nat} {row : Option Nat} : ∀ i a b, R2 p q g row i a b → G2 (some g) row a b := fun _ _ _ h => h.g2
theorem R2.strm {p q g B : Nat} {row : Option Nat} {i : Nat} {a b : World} (h : R2 p q g row i a b) (hg : g < B) (hr : ∀ r, row = some r → B ≤ r) (hs : Strm a g) : Strm b g := by
  by_cases h1 : i = p
  · exact (h.2.1 h1).2
  · by_cases h2 : i = q
    · exact hs.gb (h.2.2 h2) hg hr
    · exact hs.below (h.1 h1 h2)
end Go.Proofs.Ytpilpkbblkhnaaa
end
/- Lists grown by append beside another row that grows. -/
section
namespace Go.Proofs.Ytpilpkbblkhnaaa
open Go.ChangeShapes Go.WideShapes Go.ChangeAt Go.RowKit Go.Nm Go.Mem
set_option linter.unusedVariables false
/-- like GrowL; u: a block that no element leans on -/
def GrowA {α : Type} (E : World → List Value → α → Prop) (base : Nat) (T : TypeId) (sz : Nat) (w : World) (v : Value) (u : Option Nat) (l : List α) : Prop :=
  ∃ css : List (List Value), css.length = l.length ∧ (∀ c ∈ css, c.length = sz) ∧ w.ownsRow base T sz v l.length css.flatten ∧
    ∀ j (h : j < l.length) (h2 : j < css.length), ∃ lo hi, base ≤ lo ∧ (∀ g, v.ownBlock = some g → ¬(lo ≤ g ∧ g < hi)) ∧ (∀ g, u = some g → ¬(lo ≤ g ∧ g < hi)) ∧ Win lo hi (fun w => E w css[j] l[j]) w
theorem GrowA.toL {α : Type} {E : World → List Value → α → Prop} {base : Nat} {T : TypeId} {sz : Nat} {w : World} {v : Value} {u : Option Nat} {l : List α} (h : GrowA E base T sz w v u l) : GrowL E base T sz w v l := by
  obtain ⟨css, h1, h2, h3, h4⟩ := h
  exact ⟨css, h1, h2, h3, fun j a b => by obtain ⟨lo, hi, p0, p1, _, p3⟩ := h4 j a b; exact ⟨lo, hi, p0, p1, p3⟩⟩
theorem GrowA.nil {α : Type} (E : World → List Value → α → Prop) (T : TypeId) (sz : Nat) (base : Nat) (w : World) (u : Option Nat) : GrowA E base T sz w (.slice none 0 0) u [] :=
  ⟨[], rfl, fun c h => absurd h (by simp), ⟨by simp, Or.inl ⟨rfl, rfl⟩⟩, fun j h => absurd h (by simp)⟩
theorem GrowA.move {α : Type} {E : World → List Value → α → Prop} {base : Nat} {T : TypeId} {sz : Nat} {w w' : World} {v : Value} {u u' : Option Nat} {l : List α} (h : GrowA E base T sz w v u l) (hs : w.heap.size ≤ w'.heap.size) (hb : ∀ q, base ≤ q → q < w.heap.size → some q ≠ u → w'.heap[q]? = w.heap[q]?)
    (hvu : ∀ g, v.ownBlock = some g → some g ≠ u) (hu : ∀ g, u' = some g → u = some g ∨ w.heap.size ≤ g) : GrowA E base T sz w' v u' l := by
  obtain ⟨css, h1, h2, h3, h4⟩ := h
  refine ⟨css, h1, h2, ?_, fun j hj hj2 => ?_⟩
  · refine ⟨h3.1, ?_⟩
    rcases h3.2 with h | ⟨g, cap, cur, k1, k2, k3, k4⟩
    · exact Or.inl h
    · exact Or.inr ⟨g, cap, cur, k1, k2, (hb g k2 (lt_of_heap k3) (hvu g (by rw [k1]; rfl))).trans k3, k4⟩
  · obtain ⟨lo, hi, p0, p1, p2, p3⟩ := h4 j hj hj2
    refine ⟨lo, hi, p0, p1, fun g hg => ?_, p3.to (Nat.le_trans p3.1 hs) (fun g g1 g2 => hb g (Nat.le_trans p0 g1) (Nat.lt_of_lt_of_le g2 p3.1) (fun e => p2 g e.symm ⟨g1, g2⟩))⟩
    rcases hu g hg with hu | hu
    · exact p2 g hu
    · have := p3.1; omega
theorem GrowA.push {α : Type} {E : World → List Value → α → Prop} {base : Nat} {T : TypeId} {sz : Nat} {w w3 : World} {v v' : Value} {u : Option Nat} {l : List α} (lo2 hi2 : Nat) (hlo : base ≤ lo2) (hv2 : ∀ g, v.ownBlock = some g → ¬(lo2 ≤ g ∧ g < hi2)) (hu2 : ∀ g, u = some g → ¬(lo2 ≤ g ∧ g < hi2))
    (cs : List Value) (y : α) (hcs : cs.length = sz) (hy : Win lo2 hi2 (fun w => E w cs y) w)
    {css : List (List Value)} (hcss : css.length = l.length ∧ (∀ c ∈ css, c.length = sz) ∧ w.ownsRow base T sz v l.length css.flatten ∧ ∀ j (h : j < l.length) (h2 : j < css.length), ∃ lo hi, base ≤ lo ∧ (∀ g, v.ownBlock = some g → ¬(lo ≤ g ∧ g < hi)) ∧ (∀ g, u = some g → ¬(lo ≤ g ∧ g < hi)) ∧ Win lo hi (fun w => E w css[j] l[j]) w)
    (hown : w3.ownsRow base T sz v' (l.length + 1) (css.flatten ++ cs)) (hg : w.grownBy w3 v.ownBlock) (hlie2 : v'.ownBlock = v.ownBlock ∨ v'.ownBlock = some w.heap.size) : GrowA E base T sz w3 v' u (l ++ [y]) := by
  obtain ⟨h1, h2, h3, h4⟩ := hcss
  have key : ∀ (lo hi : Nat) (Q : World → Prop), (∀ g, v.ownBlock = some g → ¬(lo ≤ g ∧ g < hi)) → Win lo hi Q w → (∀ g, v'.ownBlock = some g → ¬(lo ≤ g ∧ g < hi)) ∧ Win lo hi Q w3 := by
    intro lo hi Q p1 p2
    refine ⟨fun g hgg => ?_, p2.to (Nat.le_trans p2.1 hg.size) (fun g g1 g2 => hg.block g (Nat.lt_of_lt_of_le g2 p2.1) (fun e => p1 g e.symm ⟨g1, g2⟩))⟩
    rcases hlie2 with hl | hl
    · exact p1 g (by rw [← hl]; exact hgg)
    · rw [hl] at hgg; injection hgg with hgg; have := p2.1; omega
  refine ⟨css ++ [cs], by simp [h1], ?_, ?_, fun j hj hj2 => ?_⟩
  · intro c hc
    rcases List.mem_append.1 hc with hc | hc
    · exact h2 c hc
    · rw [List.mem_singleton.1 hc]; exact hcs
  · rw [List.flatten_append, List.length_append]
    simpa using hown
  · by_cases hjl : j < l.length
    · obtain ⟨lo, hi, p0, p1, p2, p3⟩ := h4 j hjl (by omega)
      have e1 : (css ++ [cs])[j]'hj2 = css[j]'(by omega) := List.getElem_append_left (by omega)
      have e2 : (l ++ [y])[j]'hj = l[j]'hjl := List.getElem_append_left hjl
      rw [e1, e2]
      obtain ⟨k1, k2⟩ := key lo hi _ p1 p3
      exact ⟨lo, hi, p0, k1, p2, k2⟩
    · have hje : j = l.length := by simp at hj; omega
      subst hje
      have e1 : (css ++ [cs])[l.length]'hj2 = cs := by
        rw [List.getElem_append_right (by omega)]; simp [h1]
      have e2 : (l ++ [y])[l.length]'hj = y := by
        rw [List.getElem_append_right (by omega)]; simp
      rw [e1, e2]
      obtain ⟨k1, k2⟩ := key lo2 hi2 _ hv2 hy
      exact ⟨lo2, hi2, hlo, k1, hu2, k2⟩
theorem own_diff {w : World} {B B' e e' sz sz' n n' : Nat} {v v' : Value} {xs xs' : List Value} (h : w.ownsRow B e sz v n xs) (h' : w.ownsRow B' e' sz' v' n' xs') (hne : e ≠ e') : ∀ g, v.ownBlock = some g → some g ≠ v'.ownBlock := by
  intro g hg e2
  rcases h.2 with ⟨rfl, _⟩ | ⟨g1, _, _, rfl, _, k1, _⟩
  · cases hg
  · rcases h'.2 with ⟨rfl, _⟩ | ⟨g2, _, _, rfl, _, k2, _⟩
    · cases e2
    · have a1 : g1 = g := by simpa [Value.ownBlock] using hg
      have a2 : g = g2 := by simpa [Value.ownBlock] using e2
      subst a1 a2
      rw [k1] at k2
      injection k2 with k2
      injection k2 with _ k2 _
      exact hne k2
end Go.Proofs.Ytpilpkbblkhnaaa
end
/- tourmake.kinds: by program (gen_tmkinds.py). -/
section
namespace Go.Proofs.Ytpilpkbblkhnaaa
open Go.ChangeShapes Go.WideShapes Go.ChangeAt Go.RowKit Go.Nm Go.Mem
set_option linter.unusedVariables false
def F_tmk (g j B7 : Nat) (fn : ByteArray) (jq : Nat) (v : Value) (w : World) : Prop :=
  match jq with
  | 0 => ∃ b, v = .slice (some ⟨b, 0, none⟩) 3 3 ∧ b ≠ g ∧ w.heap[b]? = some (.cells #[.string (⟨#[120]⟩ : ByteArray), .string (⟨#[121]⟩ : ByteArray), .string (⟨#[122]⟩ : ByteArray)] 9 (0, 0))
  | 1 => v = .int .i64 (j : Int)
  | 2 => ∃ b, v = .pointer (some ⟨b, j, none⟩) ∧ b ≠ g ∧ w.heap[b]? = some (.cells #[.string (⟨#[120]⟩ : ByteArray), .string (⟨#[121]⟩ : ByteArray), .string (⟨#[122]⟩ : ByteArray)] 9 (0, 0))
  | 3 => v = .string fn
  | 4 => v = .pointer (some ⟨g, 0, none⟩)
  | 5 => (∃ r : Nat, v = .int .i64 (r : Int) ∧ r < 9) ∧ Strm w g
  | 6 => ∃ b : Int, v = .int .i64 b ∧ 1 ≤ b ∧ b ≤ 9
  | 7 => ∃ b : Int, v = .agg #[.string fn, .int .i64 b, .int .i64 0] ∧ 1 ≤ b ∧ b ≤ 9
  | 8 => ∃ b, v = .pointer (some ⟨b, 0, none⟩) ∧ B7 ≤ b ∧ w.heap[b]? = some (.cells #[.string (⟨#[]⟩ : ByteArray), .int .i64 0, .int .i64 0] 55 (0, 0))
  | _ => True
theorem F_tmk_mono (g j B7 : Nat) (fn : ByteArray) (hgB : g < B7) : FactsR (RG 5 (some g)) (F_tmk g j B7 fn) := ⟨by
  intro i jq v w w' hij h hb
  unfold F_tmk at h ⊢
  split at h
  all_goals first
    | exact h
    | (obtain ⟨b, e, h1, h2⟩ := h; exact ⟨b, e, h1, heap_gb h2 hb.gb (some_ne h1)⟩)
    | (obtain ⟨b, e, h1, h2⟩ := h; exact ⟨b, e, h1, heap_gb h2 hb.gb (some_ne (by omega))⟩)
    | exact ⟨h.1, h.2.below (hb.1 hij)⟩
    | trivial⟩
theorem kname_if {i : Nat} (h : i < 4) : kname i = if i = 0 then (⟨#[115, 112, 111, 116]⟩ : ByteArray) else if i = 1 then ⟨#[108, 105, 102, 101]⟩ else if i = 2 then ⟨#[116, 101, 97, 109]⟩ else ⟨#[103, 111, 97, 108]⟩ := by
  rcases (show i = 0 ∨ i = 1 ∨ i = 2 ∨ i = 3 by omega) with rfl | rfl | rfl | rfl <;> rfl
theorem fname_if {i : Nat} (h : i < 3) : fname i = if i = 0 then (⟨#[120]⟩ : ByteArray) else if i = 1 then ⟨#[121]⟩ else ⟨#[122]⟩ := by
  rcases (show i = 0 ∨ i = 1 ∨ i = 2 by omega) with rfl | rfl | rfl <;> rfl
theorem fvals_pushT (l : List FieldV) (f : FieldV) : fvals (l ++ [f]) = fvals l ++ [.string f.name, .int .i64 f.bits, .int .i64 f.low] := by
  apply List.ext_getElem?
  intro j
  have hn := fvals_len l
  have key : ∀ u, (fvals (l ++ [f]))[j]? = some u ↔ (fvals l ++ [.string f.name, .int .i64 f.bits, .int .i64 f.low])[j]? = some u := by
    intro u
    rw [fvals_get, List.length_append, List.length_singleton]
    by_cases hj : j < l.length * 3
    · rw [List.getElem?_append_left (by omega), fvals_get]
      have e : fval (l ++ [f]) j = fval l j := by
        unfold fval
        rw [List.getD_eq_getElem?_getD, List.getD_eq_getElem?_getD, List.getElem?_append_left (by omega)]
      rw [e]
      constructor
      · rintro ⟨_, h⟩; exact ⟨hj, h⟩
      · rintro ⟨_, h⟩; exact ⟨by omega, h⟩
    · rw [List.getElem?_append_right (by omega), hn]
      by_cases hj2 : j < (l.length + 1) * 3
      · have hd : (l ++ [f]).getD l.length default = f := by rw [List.getD_eq_getElem?_getD, List.getElem?_append_right (Nat.le_refl _), Nat.sub_self]; rfl
        rcases (show j = l.length * 3 ∨ j = l.length * 3 + 1 ∨ j = l.length * 3 + 2 by omega) with e | e | e
        · subst e
          rw [Nat.sub_self]
          have : fval (l ++ [f]) (l.length * 3) = .string f.name := by unfold fval; rw [if_pos (by omega), show l.length * 3 / 3 = l.length by omega, hd]
          rw [this]
          exact ⟨fun h => by rw [h.2]; rfl, fun h => ⟨hj2, by simpa using h.symm⟩⟩
        · subst e
          rw [show l.length * 3 + 1 - l.length * 3 = 1 by omega]
          have : fval (l ++ [f]) (l.length * 3 + 1) = .int .i64 f.bits := by unfold fval; rw [if_neg (by omega), if_pos (by omega), show (l.length * 3 + 1) / 3 = l.length by omega, hd]
          rw [this]
          exact ⟨fun h => by rw [h.2]; rfl, fun h => ⟨hj2, by simpa using h.symm⟩⟩
        · subst e
          rw [show l.length * 3 + 2 - l.length * 3 = 2 by omega]
          have : fval (l ++ [f]) (l.length * 3 + 2) = .int .i64 f.low := by unfold fval; rw [if_neg (by omega), if_neg (by omega), show (l.length * 3 + 2) / 3 = l.length by omega, hd]
          rw [this]
          exact ⟨fun h => by rw [h.2]; rfl, fun h => ⟨hj2, by simpa using h.symm⟩⟩
      · rw [List.getElem?_eq_none (by simp; omega)]
        exact ⟨fun h => absurd h.1 hj2, fun h => by cases h⟩
  cases h : (fvals (l ++ [f]))[j]? with
  | some u => exact ((key u).1 h).symm
  | none =>
    cases h2 : (fvals l ++ [.string f.name, .int .i64 f.bits, .int .i64 f.low])[j]? with
    | none => rfl
    | some u => rw [(key u).2 h2] at h; cases h
/-- the kinds so far, and the stream -/
def KSt (W : World) (g i : Nat) (w : World) (V : Value) : Prop := ∃ ks : List KindV, GrowL EKind W.heap.size 58 2 w V ks ∧ ks.length = i ∧ KsOk ks ∧ Strm w g ∧ W.grownBy w (some g)
/-- the fields of the kind in its box b -/
def FSt (W : World) (g b j : Nat) (nm : ByteArray) (w : World) : Prop := ∃ (V : Value) (fs : List FieldV), w.heap[b]? = some (.cells #[.string nm, V] 58 (0, 0)) ∧ w.ownsRow (b + 1) 55 3 V j (fvals fs) ∧ fs.length = j ∧ FldsOk fs ∧ Strm w g ∧ W.grownBy w (some g)
def TmKindsP (g : Nat) (W : World) (e : Ending) (w' : World) : Prop := ∃ (ks : List KindV) (a : Option Addr) (c : Nat), e = .returned (.slice a ks.length c) ∧ ks.length ≤ c ∧ c ≤ 9223372036854775807 ∧ KsOk ks ∧ 1 ≤ ks.length ∧ Up W.heap.size (fun w => SlAt 2 KindAt w a ks) w' ∧ Strm w' g ∧ W.grownBy w' (some g) ∧ (∀ x, a = some x → W.heap.size ≤ x.block)
set_option maxHeartbeats 8000000 in
set_option maxRecDepth 100000 in
theorem tm_kinds (g : Nat) (W : World) (hs : Strm W g) : Calls Try.prog 21 #[.pointer (some ⟨g, 0, none⟩)] W (TmKindsP g W) := by
  have HS := Lib.hid hs
  have HG := Lib.hid hs.lt
  have CN := Lib.hid (fun n h1 h2 w hs => tm_Next g n h1 h2 w hs)
  clear hs
  go_enter Try.func21, Try.ntmps21
  go_wp2_with fail
  refine (CN.out 4 (by decide) (by decide) W HS.out).mono ?_
  rintro e w1 ⟨⟨r, rfl, hr⟩, hs1, hg1, -⟩
  obtain ⟨N, hN⟩ : ∃ N : Nat, N = 1 + r := ⟨_, rfl⟩
  have hN4 : 1 ≤ N ∧ N ≤ 4 := by omega
  have wN : IntKind.i64.wrap (1 + (r : Int)) = (N : Int) := by rw [IntKind.wrap_i64]; omega
  have HN := Lib.hid hN4
  have HK0 := Lib.hid (show KSt W g 0 w1 (.slice none 0 0) from ⟨[], GrowL.nil _ _ _ _ _, rfl, ⟨by decide, fun i h => absurd h (by simp)⟩, hs1, hg1⟩)
  clear hN hN4 hr hs1 hg1
  go_wp2_with fail
  go_loopg [3, 4, 5, 6, 7, 11] N (fun gk v3 _ _ _ _ vi wx => ∃ (i : Nat) (V : Value), V = v3 ∧ i ≤ N ∧ gk = N - i ∧ vi = .int .i64 i ∧ Hid (KSt W g i wx V))
  case atStart => exact ⟨0, _, rfl, Nat.zero_le _, rfl, rfl, HK0⟩
  case round =>
    clear HK0
    obtain ⟨i, V, hV, hi, g2, rfl, HK⟩ := hrel
    subst hV
    have G2 := Lib.hid g2
    clear g2
    by_cases hlt : i < N
    · have hi4 : i < 4 := by have := HN.out; omega
      obtain ⟨nm, hnm⟩ : ∃ s, s = kname i := ⟨_, rfl⟩
      have HNM := Lib.hid hnm
      have hl := heap_alloc_new wr (.cells #[.string ⟨#[115, 112, 111, 116]⟩, .string ⟨#[108, 105, 102, 101]⟩, .string ⟨#[116, 101, 97, 109]⟩, .string ⟨#[103, 111, 97, 108]⟩] 9)
      have c0 := lit4 hl hi4
      rw [← kname_if hi4, ← hnm] at c0
      have hbox := heap_alloc_new (wr.alloc (.cells #[.string ⟨#[115, 112, 111, 116]⟩, .string ⟨#[108, 105, 102, 101]⟩, .string ⟨#[116, 101, 97, 109]⟩, .string ⟨#[103, 111, 97, 108]⟩] 9)) (.cells #[.string nm, .slice none 0 0] 58)
      rw [World.size_alloc] at hbox
      have hb5 := ((Below.refl wr.heap.size wr).alloc (Nat.le_refl _) (.cells #[.string ⟨#[115, 112, 111, 116]⟩, .string ⟨#[108, 105, 102, 101]⟩, .string ⟨#[116, 101, 97, 109]⟩, .string ⟨#[103, 111, 97, 108]⟩] 9)).alloc (by simp) (.cells #[.string nm, .slice none 0 0] 58)
      obtain ⟨w5, hw5⟩ : ∃ w, w = (wr.alloc (.cells #[.string ⟨#[115, 112, 111, 116]⟩, .string ⟨#[108, 105, 102, 101]⟩, .string ⟨#[116, 101, 97, 109]⟩, .string ⟨#[103, 111, 97, 108]⟩] 9)).alloc (.cells #[.string nm, .slice none 0 0] 58) := ⟨_, rfl⟩
      rw [← hw5] at hbox hb5
      obtain ⟨b5, hb5e⟩ : ∃ b, b = wr.heap.size + 1 := ⟨_, rfl⟩
      rw [← hb5e] at hbox
      obtain ⟨ks, hgr, hkl, hko, hst, hgw⟩ := HK.out
      have HST5 := Lib.hid (hst.below hb5)
      have HGW5 := Lib.hid (show wr.grownBy w5 (some g) from ⟨hb5.os, hb5.tape, hb5.output, hb5.size, fun k hk _ => hb5.block k hk⟩)
      have HBOX := Lib.hid hbox
      have HW5 := Lib.hid (And.intro hw5 hb5e)
      have HGB := Lib.hid (show g < wr.heap.size from hst.lt)
      have HWB := Lib.hid (show W.heap.size ≤ wr.heap.size from hgw.size)
      have wi : IntKind.i64.wrap ((i : Int) + 1) = ((i + 1 : Nat) : Int) := by rw [IntKind.wrap_i64]; omega
      have HI4 := Lib.hid (And.intro hlt hi4)
      clear hnm hl hbox hb5 hw5 hb5e hgr hkl hko hst hgw
      go_wp2_with fail
      rw [← HW5.out.1, ← HW5.out.2]
      refine (CN.out 3 (by decide) (by decide) w5 HST5.out).mono ?_
      rintro e w6 ⟨⟨r2, rfl, hr2⟩, hs6, hg6, -⟩
      obtain ⟨M, hM⟩ : ∃ M : Nat, M = 1 + r2 := ⟨_, rfl⟩
      have hM3 : 1 ≤ M ∧ M ≤ 3 := by omega
      have wM : IntKind.i64.wrap (1 + (r2 : Int)) = (M : Int) := by rw [IntKind.wrap_i64]; omega
      have HM3 := Lib.hid hM3
      obtain ⟨wo, hwo⟩ : ∃ wo, wo = wr := ⟨_, rfl⟩
      subst hwo
      have hb5g : b5 ≠ g := by have := HGB.out; have := HW5.out.2; omega
      have HB5 := Lib.hid (show wo.heap.size ≤ b5 by have := HW5.out.2; omega)
      have HF0 := Lib.hid (show FSt wo g b5 0 nm w6 from ⟨.slice none 0 0, [], heap_gb HBOX.out hg6 (some_ne hb5g), World.ownsRow_nil _ _ _ _, rfl, ⟨by decide, fun j h => absurd h (by simp)⟩, hs6, HGW5.out.trans hg6⟩)
      have tI : decide (i < N) = true := by simp; exact hlt
      clear hM hM3 hr2 hs6 hg6 HGW5 HST5 HBOX HW5 hb5g c0
      go_wp2_with fail
      go_loopg [6, 7, 22] M (fun gk2 _ _ vj wy => ∃ j : Nat, j ≤ M ∧ gk2 = M - j ∧ vj = .int .i64 j ∧ Hid (FSt wo g b5 j nm wy))
      case atStart => exact ⟨0, Nat.zero_le _, rfl, rfl, HF0⟩
      case round =>
        clear HF0
        obtain ⟨j, hj, g3, rfl, HF⟩ := hrel
        have G3 := Lib.hid g3
        clear g3
        by_cases hjt : j < M
        · have hj3 : j < 3 := by have := HM3.out; omega
          obtain ⟨fn, hfn⟩ : ∃ s, s = fname j := ⟨_, rfl⟩
          have HFN := Lib.hid hfn
          have HJ3 := Lib.hid hj3
          obtain ⟨V5, fs, hbox, hown, hfl, hfo, hst, hgw⟩ := HF.out
          have HST := Lib.hid hst
          have HBX := Lib.hid hbox
          have HOW := Lib.hid hown
          have HFS := Lib.hid (And.intro hfl hfo)
          have HGW := Lib.hid hgw
          have HGL := Lib.hid hst.lt
          have HLJ := Lib.hid hjt
          have wj : IntKind.i64.wrap ((j : Int) + 1) = ((j + 1 : Nat) : Int) := by rw [IntKind.wrap_i64]; omega
          have tJ : decide (j < M) = true := by simp; exact hjt
          clear hfn hj3 hbox hown hfl hfo hst hgw HF
          go_upto_region 9 with fail
          refine wp_region_facts_r rfl 9 (by kernel_rfl) (fun a b => World.grownBy a b (some g)) (gb_drew _ _) (fun _ _ _ h h2 => h.trans h2) (RG 5 (some g)) RG.sub (F_tmk g j wr.heap.size fn) (F_tmk_mono g j wr.heap.size fn HGL.out) 5 (fun w => Strm w g) (HST.out.below ((Below.refl _ _).drew)) (fun i a b hi h ho => ho.below (h.1 hi)) ?_ ?_
          · refine ⟨?_, ?_, ?_, ?_, ?_, ?_, ?_, ?_, ?_, trivial⟩
            · intro vs w' F hb hd hF hl hT hq
              exact rg_slice3s 100 9 _ _ _ rfl rfl Try.underlying100 (by kernel_rfl) ⟨_, rfl, RG.below (by decide) ((Below.refl _ _).alloc (Nat.le_refl _) _), _, rfl, (by have := HGL.out; have := hb.size; omega), heap_alloc_new _ _⟩
            · intro vs w' F hb hd hF hl hT hq
              have e := (hF 6).trans (look_out _ 6 _ _ (by kernel_rfl))
              exact one_move _ rfl (by first | exact Or.inl rfl | exact Or.inr rfl) ⟨_, rfl, RG.same _ _ _ _, e⟩
            · intro vs w' F hb hd hF hl hT hq
              obtain ⟨b, hv2, hbg, hrw⟩ := (dep_of (Fact := F_tmk g j wr.heap.size fn) hd 0 (by kernel_rfl))
              have ex := ((hF 25).trans (look_at _ 25 0 _ _ (by kernel_rfl) (by kernel_rfl) hl)).trans hv2
              have ey := (((hF 26).trans (look_at _ 26 1 _ _ (by kernel_rfl) (by kernel_rfl) hl)).trans (dep_of (Fact := F_tmk g j wr.heap.size fn) hd 1 (by kernel_rfl)))
              exact one_index 100 _ _ rfl rfl (.slice (some ⟨b, 0, none⟩) 3 3) (.int .i64 (j : Int)) (.pointer (some ⟨b, j, none⟩)) ex ey (fun w => by have h := rg_idx Try.underlying100 (show (Try.prog.info? 9).map (·.size) = some 1 by kernel_rfl) (b) (0) (3) (3) (j) (HJ3.out) w; rw [Nat.zero_add, Nat.mul_one] at h; exact h) ⟨_, rfl, RG.same _ _ _ _, b, rfl, hbg, hrw⟩
            · intro vs w' F hb hd hF hl hT hq
              obtain ⟨b, hv2, hbg, hrw⟩ := (dep_of (Fact := F_tmk g j wr.heap.size fn) hd 2 (by kernel_rfl))
              have e := ((hF 27).trans (look_at _ 27 2 _ _ (by kernel_rfl) (by kernel_rfl) hl)).trans hv2
              have hc := lit3 hrw HJ3.out
              rw [← fname_if HJ3.out, ← HFN.out] at hc
              exact one_load _ _ rfl rfl _ _ e hc (by kernel_rfl) ⟨_, rfl, RG.same _ _ _ _, rfl⟩
            · intro vs w' F hb hd hF hl hT hq
              have e := (hF 0).trans (look_out _ 0 _ _ (by kernel_rfl))
              exact one_move _ rfl (by first | exact Or.inl rfl | exact Or.inr rfl) ⟨_, rfl, RG.same _ _ _ _, e⟩
            · intro vs w' F hb hd hF hl hT hq
              have e1 := (((hF 29).trans (look_at _ 29 4 _ _ (by kernel_rfl) (by kernel_rfl) hl)).trans (dep_of (Fact := F_tmk g j wr.heap.size fn) hd 4 (by kernel_rfl)))
              have hst := hq rfl
              refine one_call _ _ rfl rfl (enters_of Try.func22 (by kernel_rfl) rfl) #[.pointer (some ⟨g, 0, none⟩), .int .i64 9] (eval2 e1 rfl) ?_
              refine (CN.out 9 (by decide) (by decide) w' hst).mono ?_
              rintro e2 w2 ⟨⟨r, rfl, hr⟩, hs2, hg2, _⟩
              exact ⟨_, rfl, _, rfl, RG.at_ rfl hg2, ⟨r, rfl, by omega⟩, hs2⟩
            · intro vs w' F hb hd hF hl hT hq
              obtain ⟨⟨r, hv2, hr⟩, _⟩ := (dep_of (Fact := F_tmk g j wr.heap.size fn) hd 5 (by kernel_rfl))
              have e2 := ((hF 30).trans (look_at _ 30 5 _ _ (by kernel_rfl) (by kernel_rfl) hl)).trans hv2
              exact rg_add _ _ _ _ rfl rfl 1 (r : Int) (1 + (r : Int)) rfl e2 (by rw [IntKind.wrap_i64]; omega) ⟨_, rfl, RG.same _ _ _ _, _, rfl, by omega, by omega⟩
            · intro vs w' F hb hd hF hl hT hq
              obtain ⟨b, hv2, h1, h2⟩ := (dep_of (Fact := F_tmk g j wr.heap.size fn) hd 6 (by kernel_rfl))
              have e1 := (((hF 28).trans (look_at _ 28 3 _ _ (by kernel_rfl) (by kernel_rfl) hl)).trans (dep_of (Fact := F_tmk g j wr.heap.size fn) hd 3 (by kernel_rfl)))
              have e2 := ((hF 31).trans (look_at _ 31 6 _ _ (by kernel_rfl) (by kernel_rfl) hl)).trans hv2
              exact one_build _ _ rfl rfl #[(0, .string fn), (1, .int .i64 b)] (parts2 e1 e2) (.agg #[.string fn, .int .i64 b, .int .i64 0]) (fun w => by kernel_rfl) ⟨_, rfl, RG.same _ _ _ _, b, rfl, h1, h2⟩
            · intro vs w' F hb hd hF hl hT hq
              exact one_alloc_agg 55 rfl rfl (.agg #[.string (⟨#[]⟩ : ByteArray), .int .i64 0, .int .i64 0]) #[.string (⟨#[]⟩ : ByteArray), .int .i64 0, .int .i64 0] (by kernel_rfl) rfl ⟨_, rfl, RG.below (by decide) ((Below.refl _ _).alloc (Nat.le_refl _) _), _, rfl, hb.size, heap_alloc_new _ _⟩
          · intro vs8 W8 hl hb hI
            have i5 := hI 5 (by omega)
            have i7 := hI 7 (by omega)
            have i8 := hI 8 (by omega)
            have hst8 : Strm W8 g := i5.2
            obtain ⟨bits, i7, hb1, hb2⟩ := i7
            obtain ⟨b7, i8, hB7, hrow7⟩ := i8
            obtain ⟨x0, x1, x2, x3, x4, x5, x6, x7, x8, x9, hvs⟩ := Mem.list10 hl
            subst hvs
            replace i7 : x7 = .agg #[.string fn, .int .i64 bits, .int .i64 0] := i7
            replace i8 : x8 = .pointer (some ⟨b7, 0, none⟩) := i8
            subst i7 i8
            have HGBo := Lib.hid (show g < wo.heap.size from HGB.out)
            have HB7 := Lib.hid (show wo.heap.size ≤ b7 from Nat.le_trans HGW.out.size hB7)
            have HGr := Lib.hid (show wr.grownBy W8 (some g) from hb)
            have HG8 := Lib.hid (show wo.grownBy W8 (some g) from HGW.out.trans hb)
            have HS8 := Lib.hid hst8
            have HBB := Lib.hid (And.intro hb1 hb2)
            have HB57 := Lib.hid (show b5 ≠ b7 by have := lt_of_heap HBX.out; omega)
            have HVB := Lib.hid (show ∀ q, V5.ownBlock = some q → q ≠ b7 from fun q hq => by have := (own_lt HOW.out q hq).2; omega)
            clear hI hl hb i5 hst8 hb1 hb2 hB7
            simp only [fillAll, Act.put, List.setIfInBounds_toArray, List.set_cons_succ, List.set_cons_zero, List.drop_succ_cons, List.drop_zero]
            refine wpList_store_rowP rfl 55 (.tmp 7) (.tmp 32) rfl b7 #[.string fn, .int .i64 bits, .int .i64 0] rfl rfl _ _ hrow7 (by kernel_rfl) rfl (by simp [Value.oneCell']) ?_
            intro w9 hput
            have h9 := hput.here
            have hg9 := gb_putT hput
            have hG9 : wo.grownBy w9 (some g) := gb_new HG8.out hg9 (fun r hr => by injection hr with hr; rw [← hr]; exact HB7.out)
            have hS9 : Strm w9 g := HS8.out.gb hg9 HGBo.out (fun r hr => by injection hr with hr; rw [← hr]; exact HB7.out)
            have hbox9 := heap_gb (heap_gb HBX.out HGr.out (some_ne (show b5 ≠ g by have := HB5.out; have := HGBo.out; omega))) hg9 (some_ne HB57.out)
            have hown9 := own_grown (own_grown HOW.out HGr.out (fun q hq e => by have := (own_lt HOW.out q hq).1; have := HB5.out; have := HGBo.out; injection e with e; omega)) hg9 (fun q hq e => HVB.out q hq (by injection e))
            replace HBX := Lib.hid hbox9
            replace HOW := Lib.hid hown9
            have HG9 := Lib.hid hG9
            have HS9 := Lib.hid hS9
            have H9 := Lib.hid h9
            clear hput h9 hg9 hG9 hS9 hbox9 hown9 hrow7 HGr HG8 HS8 HST HGW
            go_wp2_with fail
            refine (CN.out 40 (by decide) (by decide) w9 HS9.out).mono ?_
            rintro e w10 ⟨⟨r3, rfl, hr3⟩, hs10, hg10, -⟩
            have hb7g : b7 ≠ g := by have := HB7.out; have := HGBo.out; omega
            have hb5g : b5 ≠ g := by have := HB5.out; have := HGBo.out; omega
            have h10 := heap_gb H9.out hg10 (some_ne hb7g)
            obtain ⟨lo, hlo⟩ : ∃ lo, lo = (r3 : Int) - 30 := ⟨_, rfl⟩
            have hlo2 : -30 ≤ lo ∧ lo ≤ 9 := by omega
            have wl : IntKind.i64.wrap ((r3 : Int) - 30) = lo := by rw [IntKind.wrap_i64]; omega
            have z2 := cell_of_row _ _ 2 _ _ _ h10
            have k2 := Mem.frozen_of_row h10 2
            obtain ⟨w11, hw11⟩ : ∃ w, w = w10.setCell ⟨b7, 2, none⟩ (.int .i64 lo) := ⟨_, rfl⟩
            have h11 : w11.heap[b7]? = some (.cells #[.string fn, .int .i64 bits, .int .i64 lo] 55 (0, 0)) := by rw [hw11]; exact heap_set h10 2 _
            have hg11 : w10.grownBy w11 (some b7) := by rw [hw11]; exact gb_set1 _ _ _ _
            have hS11 : Strm w11 g := hs10.gb hg11 HGBo.out (fun r hr => by injection hr with hr; rw [← hr]; exact HB7.out)
            have hG11 : wo.grownBy w11 (some g) := gb_new (HG9.out.trans hg10) hg11 (fun r hr => by injection hr with hr; rw [← hr]; exact HB7.out)
            have hbox11 := heap_gb (heap_gb HBX.out hg10 (some_ne hb5g)) hg11 (some_ne HB57.out)
            have hown11 := own_grown (own_grown HOW.out hg10 (fun q hq e => by have := (own_lt HOW.out q hq).1; injection e with e; have := HB5.out; have := HGBo.out; omega)) hg11 (fun q hq e => HVB.out q hq (by injection e))
            replace HBX := Lib.hid hbox11
            replace HOW := Lib.hid hown11
            have HG11 := Lib.hid hG11
            have HS11 := Lib.hid hS11
            have H11 := Lib.hid h11
            have HW11 := Lib.hid hw11
            have HLO := Lib.hid hlo2
            clear h10 hlo hlo2 h11 hg11 hS11 hG11 hbox11 hown11 hw11 hs10 hg10 hr3 HG9 HS9 H9
            go_wp2_with fail
            rw [← HW11.out]
            refine (CN.out 8 (by decide) (by decide) w11 HS11.out).mono ?_
            rintro e w12 ⟨⟨r4, rfl, hr4⟩, hs12, hg12, -⟩
            have h12 := heap_gb H11.out hg12 (some_ne hb7g)
            have hbox12 := heap_gb HBX.out hg12 (some_ne hb5g)
            have hown12 := own_grown HOW.out hg12 (fun q hq e => by have := (own_lt HOW.out q hq).1; injection e with e; have := HB5.out; have := HGBo.out; omega)
            replace HBX := Lib.hid hbox12
            replace HOW := Lib.hid hown12
            have HS12 := Lib.hid hs12
            have HG12 := Lib.hid (HG11.out.trans hg12)
            have H12 := Lib.hid h12
            clear h12 hbox12 hown12 hs12 hg12 hr4 HG11 HS11 H11 HW11 z2 k2 wl
            by_cases h7 : r4 = 7
            · subst h7
              have z1 := cell_of_row _ _ 1 _ _ _ H12.out
              have k1 := Mem.frozen_of_row H12.out 1
              have z2 := cell_of_row _ _ 2 _ _ _ H12.out
              have k2 := Mem.frozen_of_row H12.out 2
              obtain ⟨w13, hw13⟩ : ∃ w, w = (w12.setCell ⟨b7, 1, none⟩ (.int .i64 32)).setCell ⟨b7, 2, none⟩ (.int .i64 (-2147483648)) := ⟨_, rfl⟩
              have h13 : w13.heap[b7]? = some (.cells #[.string fn, .int .i64 32, .int .i64 (-2147483648)] 55 (0, 0)) := by rw [hw13]; exact heap_set (heap_set H12.out 1 _) 2 _
              have hg13 : w12.grownBy w13 (some b7) := by rw [hw13]; exact (gb_set1 _ _ _ _).trans (gb_set1 _ _ _ _)
              have HSx := Lib.hid (show Strm w13 g from HS12.out.gb hg13 HGBo.out (fun r hr => by injection hr with hr; rw [← hr]; exact HB7.out))
              have HGx := Lib.hid (show wo.grownBy w13 (some g) from gb_new HG12.out hg13 (fun r hr => by injection hr with hr; rw [← hr]; exact HB7.out))
              have hbox13 := heap_gb HBX.out hg13 (some_ne HB57.out)
              have hown13 := own_grown HOW.out hg13 (fun q hq e => HVB.out q hq (by injection e))
              replace HBX := Lib.hid hbox13
              replace HOW := Lib.hid hown13
              have HR7x := Lib.hid h13
              have HW13 := Lib.hid hw13
              clear h13 hg13 hbox13 hown13 hw13 HS12 HG12 H12
              go_upto_region 13 with fail
              rw [← HW13.out]
              have hrow5 := HBX.out
              have hownx := HOW.out
              have c5 := cell_of_row _ _ 1 _ _ _ hrow5
              have f0 := cell_of_row _ _ 0 _ _ _ HR7x.out
              have f1 := cell_of_row _ _ 1 _ _ _ HR7x.out
              have f2 := cell_of_row _ _ 2 _ _ _ HR7x.out
              have hb8 : b5 + 1 ≤ w13.heap.size := lt_of_heap hrow5
              have HR5 := Lib.hid hrow5
              have HVO := Lib.hid (own_lt hownx)
              have hj3 := HJ3.out
              clear hrow5
              go_wp2_with (at_builtin; (refine wpList_append_new rfl _ _ 56 rfl (b5 + 1) 55 (.agg #[.string ByteArray.empty, .int .i64 0, .int .i64 0]) 3 32 Try.underlying56 (by kernel_rfl) rfl (by decide) V5 j _ rfl hownx _ _ rfl rfl rfl (by omega) (by decide) hb8 ?_))
              intro g' cap' w14 hown' hg hor hlt'
              have hvne : some b5 ≠ V5.ownBlock := fun e => by have := (HVO.out b5 e.symm).1; omega
              have hrow5' := heap_gb HR5.out hg hvne
              have z5 := cell_of_row _ _ 1 _ _ _ hrow5'
              have k5 := Mem.frozen_of_row hrow5' 1
              have hgb14 : wo.grownBy w14 (some g) := gb_new HGx.out hg (fun r hr => by have := (HVO.out r hr).1; have := HB5.out; omega)
              have hst14 : Strm w14 g := HSx.out.gb hg HGBo.out (fun r hr => by have := (HVO.out r hr).1; have := HB5.out; omega)
              have hg'5 : b5 + 1 ≤ g' := by
                rcases hor with h | h
                · exact (HVO.out g' h).1
                · have := hb8; omega
              have HF2 := Lib.hid (show FSt wo g b5 (j + 1) nm (w14.setCell ⟨b5, 1, none⟩ (.slice (some ⟨g', 0, none⟩) (j + 1) cap')) from
                ⟨.slice (some ⟨g', 0, none⟩) (j + 1) cap', fs ++ [⟨fn, 32, (-2147483648)⟩], heap_set hrow5' 1 _, by
                  rw [fvals_pushT]
                  exact own_grown hown' (gb_set1 w14 b5 1 _) (fun q hq e => by
                    have h1 : g' = q := by simpa [Value.ownBlock] using hq
                    injection e with e; omega), by rw [List.length_append, HFS.out.1]; rfl,
                  HFS.out.2.snoc (by rw [HFS.out.1]; exact HJ3.out) (by rw [HFS.out.1]; exact ⟨HFN.out, Or.inr ⟨rfl, rfl⟩⟩),
                  hst14.gb (gb_set1 w14 b5 1 _) HGBo.out (fun r hr => by injection hr with hr; have := HB5.out; omega),
                  gb_new hgb14 (gb_set1 w14 b5 1 _) (fun r hr => by injection hr with hr; have := HB5.out; omega)⟩)
              clear hown' hg hor hlt' hvne hrow5' hgb14 hst14 hg'5 hownx hb8 c5 f0 f1 f2 hj3
              go_wp2_with fail
              go_roundg (M - (j + 1))
              case measure => rw [G3.out]; have := HLJ.out; omega
              case rel => have := HLJ.out; exact ⟨j + 1, by omega, rfl, (by first | rfl | go_num | simp), HF2⟩
            · have t7 : ((r4 : Int) == 7) = false := by simp; omega
              have HR7x := Lib.hid H12.out
              have HGx := Lib.hid HG12.out
              have HSx := Lib.hid HS12.out
              have HBL := Lib.hid (show (1 ≤ bits ∧ bits ≤ 9 ∧ -30 ≤ lo ∧ lo ≤ 9) ∨ (bits = 32 ∧ lo = -2147483648) from Or.inl ⟨HBB.out.1, HBB.out.2, HLO.out.1, HLO.out.2⟩)
              go_upto_region 13 with fail
              have hrow5 := HBX.out
              have hownx := HOW.out
              have c5 := cell_of_row _ _ 1 _ _ _ hrow5
              have f0 := cell_of_row _ _ 0 _ _ _ HR7x.out
              have f1 := cell_of_row _ _ 1 _ _ _ HR7x.out
              have f2 := cell_of_row _ _ 2 _ _ _ HR7x.out
              have hb8 : b5 + 1 ≤ w12.heap.size := lt_of_heap hrow5
              have HR5 := Lib.hid hrow5
              have HVO := Lib.hid (own_lt hownx)
              have hj3 := HJ3.out
              clear hrow5
              go_wp2_with (at_builtin; (refine wpList_append_new rfl _ _ 56 rfl (b5 + 1) 55 (.agg #[.string ByteArray.empty, .int .i64 0, .int .i64 0]) 3 32 Try.underlying56 (by kernel_rfl) rfl (by decide) V5 j _ rfl hownx _ _ rfl rfl rfl (by omega) (by decide) hb8 ?_))
              intro g' cap' w14 hown' hg hor hlt'
              have hvne : some b5 ≠ V5.ownBlock := fun e => by have := (HVO.out b5 e.symm).1; omega
              have hrow5' := heap_gb HR5.out hg hvne
              have z5 := cell_of_row _ _ 1 _ _ _ hrow5'
              have k5 := Mem.frozen_of_row hrow5' 1
              have hgb14 : wo.grownBy w14 (some g) := gb_new HGx.out hg (fun r hr => by have := (HVO.out r hr).1; have := HB5.out; omega)
              have hst14 : Strm w14 g := HSx.out.gb hg HGBo.out (fun r hr => by have := (HVO.out r hr).1; have := HB5.out; omega)
              have hg'5 : b5 + 1 ≤ g' := by
                rcases hor with h | h
                · exact (HVO.out g' h).1
                · have := hb8; omega
              have HF2 := Lib.hid (show FSt wo g b5 (j + 1) nm (w14.setCell ⟨b5, 1, none⟩ (.slice (some ⟨g', 0, none⟩) (j + 1) cap')) from
                ⟨.slice (some ⟨g', 0, none⟩) (j + 1) cap', fs ++ [⟨fn, bits, lo⟩], heap_set hrow5' 1 _, by
                  rw [fvals_pushT]
                  exact own_grown hown' (gb_set1 w14 b5 1 _) (fun q hq e => by
                    have h1 : g' = q := by simpa [Value.ownBlock] using hq
                    injection e with e; omega), by rw [List.length_append, HFS.out.1]; rfl,
                  HFS.out.2.snoc (by rw [HFS.out.1]; exact HJ3.out) (by rw [HFS.out.1]; exact ⟨HFN.out, HBL.out⟩),
                  hst14.gb (gb_set1 w14 b5 1 _) HGBo.out (fun r hr => by injection hr with hr; have := HB5.out; omega),
                  gb_new hgb14 (gb_set1 w14 b5 1 _) (fun r hr => by injection hr with hr; have := HB5.out; omega)⟩)
              clear hown' hg hor hlt' hvne hrow5' hgb14 hst14 hg'5 hownx hb8 c5 f0 f1 f2 hj3
              go_wp2_with fail
              go_roundg (M - (j + 1))
              case measure => rw [G3.out]; have := HLJ.out; omega
              case rel => have := HLJ.out; exact ⟨j + 1, by omega, rfl, (by first | rfl | go_num | simp), HF2⟩
        · obtain rfl : j = M := by omega
          obtain ⟨V5, fs, hbox, hown, hfl, hfo, hst, hgw⟩ := HF.out
          have hsz : ∀ y ∈ fs, y.name.size ≤ 9223372036854775807 := fun y hy => by
            obtain ⟨q, hq, rfl⟩ := List.getElem_of_mem hy
            rw [(hfo.2 q hq).1]
            exact fname_size ⟨q, by have := hfo.1; omega⟩
          rw [← hfl] at hown
          obtain ⟨a5, c5, hv5, hc5, hm5, hs5, _⟩ := flds_own rfl hown hsz
          have hup : Up (b5 + 1) (fun w => SlAt 3 FieldAt w a5 fs) wr := fun w2 hs => by
            obtain ⟨a6, c6, hv6, _, _, hs6, _⟩ := flds_own rfl (own_same hown hs) hsz
            rw [hv5] at hv6
            injection hv6 with hv6
            rw [hv6]; exact hs6
          rw [hfl] at hv5 hc5
          subst hv5
          have r0 := cell_of_row _ _ 0 _ _ _ hbox
          have r1 := cell_of_row _ _ 1 _ _ _ hbox
          obtain ⟨ks, hgr, hkl, hko, hst0, hgw0⟩ := HK.out
          obtain ⟨css, hcss⟩ := hgr
          have hgW : g < W.heap.size := HG.out
          have hba := (Below.refl wr.heap.size wr).alloc (Nat.le_refl _) (.cells #[.string nm, .slice a5 j c5] 58 (0, 0))
          obtain ⟨w14, hw14⟩ : ∃ w, w = wr.alloc (.cells #[.string nm, .slice a5 j c5] 58 (0, 0)) := ⟨_, rfl⟩
          have hcl := new_cellsT wr #[.string nm, .slice a5 j c5] 58
          rw [← hw14] at hba hcl
          have hsame : SameUp W.heap.size wo w14 := ⟨Nat.le_trans hgw.size hba.size, fun q h1 h2 => (hba.block q (Nat.lt_of_lt_of_le h2 hgw.size)).trans (hgw.block q h2 (fun e => by injection e with e; omega))⟩
          have hownV := own_same hcss.2.2.1 hsame
          rw [hkl] at hownV
          have HCS := Lib.hid hcss
          have HSM := Lib.hid hsame
          have HW14 := Lib.hid hw14
          have HBA := Lib.hid hba
          have HUP := Lib.hid hup
          have HKO := Lib.hid (And.intro hkl hko)
          have HFO := Lib.hid (And.intro hfl (And.intro hfo (And.intro hc5 hm5)))
          have HST := Lib.hid (hst.below hba)
          have HG14 := Lib.hid (show W.grownBy w14 (some g) from gb_new (hgw0.trans hgw) (row2 := some w14.heap.size) ⟨hba.os, hba.tape, hba.output, hba.size, fun q hq _ => hba.block q hq⟩ (fun r hr => by injection hr with hr; rw [← hr]; exact Nat.le_trans (Nat.le_trans hgw0.size hgw.size) hba.size))
          have hbs : W.heap.size ≤ w14.heap.size := HG14.out.size
          have hi4 := HI4.out
          clear hbox hown hfl hfo hst hgw hsz hc5 hm5 hs5 hup hkl hko hst0 hgw0 hcss hba hw14 hsame HF
          go_wp2_with (rw [← HW14.out]; at_builtin; (refine wpList_append_cells rfl _ _ 24 rfl W.heap.size 58 (.agg #[.string ByteArray.empty, .slice none 0 0]) 2 40 Try.underlying24 (by kernel_rfl) rfl (by decide) V i css.flatten rfl hownV (some ⟨wr.heap.size, 0, none⟩) 1 1 [.string nm, .slice a5 j c5] rfl rfl hcl (by simp [Value.oneCell']) (by unfold maxLen; omega) (by omega) hbs ?_))
          intro v' w15 hown' hg hor
          have hlo : ∀ r, V.ownBlock = some r → W.heap.size ≤ r := fun r hr => (own_lt hownV r hr).1
          have hgr2 : GrowL EKind W.heap.size 58 2 w15 v' (ks ++ [⟨nm, fs⟩]) :=
            GrowL.pushS HWB.out (w := wo) (w2 := w14) HSM.out.1 HSM.out.2 [.string nm, .slice a5 j c5] ⟨nm, fs⟩ rfl
              ⟨Nat.le_refl _, fun w2 h1 h2 => ⟨a5, c5, by rw [← HFO.out.1], by rw [HNM.out]; exact kname_size ⟨i, hi4.2⟩, by simp only; rw [HFO.out.1]; exact HFO.out.2.2.1, HFO.out.2.2.2, (HUP.out.below HBA.out) w2 ⟨h1, fun q q1 q2 => h2 q (by have := HB5.out; omega) q2⟩⟩⟩
              HCS.out (by rw [HKO.out.1]; exact hown') hg hor
          have HK2 := Lib.hid (show KSt W g (i + 1) w15 v' from ⟨ks ++ [⟨nm, fs⟩], hgr2, by rw [List.length_append, HKO.out.1]; rfl, HKO.out.2.snoc (by rw [HKO.out.1]; exact hi4.2) (by rw [HKO.out.1]; exact ⟨HNM.out, HFO.out.2.1⟩), HST.out.gb hg hgW hlo, gb_new HG14.out hg hlo⟩)
          clear hlo hgr2 hown' hg hor hownV hcl hbs r0 r1
          go_wp2_with fail
          go_roundg (N - (i + 1))
          case measure => rw [G2.out]; omega
          case rel => exact ⟨i + 1, _, rfl, by omega, rfl, (by first | rfl | go_num | simp), HK2⟩
    · obtain rfl : i = N := by omega
      obtain ⟨ks, hgr, hkl, hko, hst, hgw⟩ := HK.out
      obtain ⟨a, c, hv, hc, hm⟩ := hgr.slice
      have hup := hgr.up EKind.at a c hv
      have hge := hgr.ge a _ c hv
      subst hv
      rw [hkl] at hc ⊢
      have HP := Lib.hid (show TmKindsP g W (.returned (.slice a i c)) wr from ⟨ks, a, c, by rw [hkl], by rw [hkl]; exact hc, hm, hko, by rw [hkl]; exact HN.out.1, hup, hst, hgw, hge⟩)
      clear hgr hkl hko hst hgw hc hm hup hge HK
      go_wp2_with fail
      go_ret
      exact HP.out
end Go.Proofs.Ytpilpkbblkhnaaa
end
