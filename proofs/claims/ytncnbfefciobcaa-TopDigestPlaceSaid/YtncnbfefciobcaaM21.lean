/- Lemmas for the law TopDigestPlace: FirstP, RegMap, RegOut, Close, OpenS, WOpen, WFree, BinS. No conditions. -/
import Derived.Test.YtncnbfefciobcaaM06
import Derived.Test.YtncnbfefciobcaaM07
import Derived.Test.YtncnbfefciobcaaM09
import Derived.Test.YtncnbfefciobcaaM08
import Derived.Test.YtncnbfefciobcaaM12
import Derived.Test.YtncnbfefciobcaaM17
import Derived.Test.YtncnbfefciobcaaM19
import Derived.Test.YtncnbfefciobcaaM14
import Derived.Test.YtncnbfefciobcaaM18
import Derived.Deep.DeepMust
import Derived.OwnWalk
import Derived.Test.YtncnbfefciobcaaM16
import Derived.Test.YtncnbfefciobcaaM20
import Derived.Deep.LoopGhost
/- The first index at which a test holds; rows of Bools. -/
section
namespace Go.Proofs.Ytncnbfefciobcaa
open Go.RowKit Go.ChangeShapes Go.WideShapes Go.Mem
set_option linter.unusedVariables false
/-- the first index below n at which p holds, or n -/
def firstP (p : Nat → Bool) : Nat → Nat
  | 0 => 0
  | n + 1 => if firstP p n < n then firstP p n else if p n = true then n else n + 1
theorem firstP_none {p : Nat → Bool} : ∀ {n : Nat}, (∀ j, j < n → p j = false) → firstP p n = n
  | 0, _ => rfl
  | n + 1, h => by
    unfold firstP
    rw [firstP_none (n := n) (fun j hj => h j (by omega)), if_neg (by omega), if_neg (by rw [h n (by omega)]; simp)]
theorem firstP_at {p : Nat → Bool} {i : Nat} (h : ∀ j, j < i → p j = false) (hi : p i = true) : ∀ {n : Nat}, i < n → firstP p n = i
  | 0, hn => absurd hn (by omega)
  | n + 1, hn => by
    unfold firstP
    by_cases e : i < n
    · rw [firstP_at h hi e, if_pos e]
    · obtain rfl : i = n := by omega
      rw [firstP_none h, if_neg (by omega), if_pos hi]
theorem firstP_le (p : Nat → Bool) (n : Nat) : firstP p n ≤ n := by
  induction n with
  | zero => exact Nat.le_refl _
  | succ n ih =>
    unfold firstP
    split
    · omega
    · split <;> omega
/-- Block U is a row of n Bools. -/
def BoolRow (w : World) (U n : Nat) (f : Nat → Bool) : Prop := ∃ cs, w.heap[U]? = some (.cells cs 4 (0, 0)) ∧ cs.size = n ∧ ∀ i, i < n → cs[i]? = some (.bool (f i))
theorem BoolRow.lt {w : World} {U n : Nat} {f : Nat → Bool} (h : BoolRow w U n f) : U < w.heap.size := by obtain ⟨cs, h1, _⟩ := h; exact lt_of_heap h1
theorem BoolRow.cell {w : World} {U n : Nat} {f : Nat → Bool} (h : BoolRow w U n f) (i : Nat) (hi : i < n) : w.cell? ⟨U, i, none⟩ = some (.bool (f i)) := by
  obtain ⟨cs, h1, h2, h3⟩ := h
  rw [cell_of_row w U i _ _ _ h1]
  exact h3 i hi
theorem BoolRow.free {w : World} {U n : Nat} {f : Nat → Bool} (h : BoolRow w U n f) (i : Nat) : w.frozen? ⟨U, i, none⟩ = false := by
  obtain ⟨cs, h1, _⟩ := h; exact Mem.frozen_of_row h1 i
theorem BoolRow.below {w w' : World} {U n : Nat} {f : Nat → Bool} (h : BoolRow w U n f) (hb : Below w.heap.size w w') : BoolRow w' U n f := by
  obtain ⟨cs, h1, h2⟩ := h; exact ⟨cs, heap_below h1 hb, h2⟩
theorem BoolRow.set {w : World} {U n : Nat} {f g : Nat → Bool} (h : BoolRow w U n f) (i : Nat) (hi : i < n) (v : Bool) (hg : ∀ j, j < n → g j = if j = i then v else f j) : BoolRow (w.setCell ⟨U, i, none⟩ (.bool v)) U n g := by
  obtain ⟨cs, h1, h2, h3⟩ := h
  refine ⟨_, heap_set h1 i (.bool v), by simpa using h2, fun j hj => ?_⟩
  rw [Array.getElem?_setIfInBounds, hg j hj]
  by_cases e : i = j
  · subst e
    rw [if_pos rfl, if_pos (by omega), if_pos rfl]
  · rw [if_neg e, if_neg (fun x => e x.symm), h3 j hj]
theorem BoolRow.congr {w : World} {U n : Nat} {f g : Nat → Bool} (h : BoolRow w U n f) (hg : ∀ j, j < n → g j = f j) : BoolRow w U n g := by
  obtain ⟨cs, h1, h2, h3⟩ := h
  exact ⟨cs, h1, h2, fun i hi => by rw [hg i hi]; exact h3 i hi⟩
theorem wpList_make_bools {P : Program} {ops : Array Oper} {rest : List Oper} {o : Oper} {a : Act} {w : World} {Q : Exit → Act → World → Prop}
    (hg : o.guard = none) (l c : Operand) (t : TypeId) (hop : o.op = Op.makeSlice t l c) (h1 : P.underlying t = some (.slice 4)) (h2 : (P.info? 4).map (fun i => (i.zero, i.size, i.bytes)) = some (some (.bool false), 1, 1))
    (kl kc : IntKind) (L C : Int) (n : Nat) (hl : a.eval l = .int kl L) (hc : a.eval c = .int kc C) (hL : L = (n : Int)) (hC : C = (n : Int)) (b2 : 1 * n ≤ 281474976710656) (b3 : n ≤ maxLen)
    (hK : ∀ w2, BoolRow w2 w.heap.size n (fun _ => false) → Below w.heap.size w w2 → w2.heap.size = w.heap.size + 1 → wpList P ops Q rest (a.put o.dst (.slice (some ⟨w.heap.size, 0, none⟩) n n)) w2) :
    wpList P ops Q (o :: rest) a w := by
  refine wpList_plain hg fun K hK' => ?_
  obtain ⟨i, hi, hz, hs, hby⟩ := info_parts h2
  subst hL
  subst hC
  have hb : (i.bytes : Int) * (n : Int) ≤ 281474976710656 := by
    have h : ((i.bytes * n : Nat) : Int) ≤ 281474976710656 := by rw [hby]; omega
    rwa [Int.natCast_mul] at h
  have hr := run_make (P := P) w t 4 i (.bool false) h1 hi hz kl kc n n (by omega) (by omega) hb (by unfold maxLen at b3; omega)
  simp only [Int.toNat_natCast] at hr
  unfold Oper.wp
  simp [execOp, hop, hl, hc, hr, Result.andThen, Oper.upon]
  refine hK' _ _ (hK _ ⟨_, heap_alloc_new _ _, ?_, fun j hj => ?_⟩ ((Below.refl _ _).alloc (Nat.le_refl _) _) (by simp))
  · rw [size_madeCells, hs, Nat.mul_one]
  · rw [hs, Nat.mul_one]
    unfold madeCells
    rw [Array.getElem?_map, Array.getElem?_range, if_pos hj]
    show some ((#[Value.bool false] : Array Value)[j % 1]!) = _
    rw [Nat.mod_one]; rfl
end Go.Proofs.Ytncnbfefciobcaa
end
/- Maps in drawn regions: look-ups, nil checks, maps held against nil. -/
section
namespace Go.Mem
open Go.Proofs Go.RowKit
set_option linter.unusedVariables false
section
variable {P : Program} {ops : Array Oper} {o : Oper} {F : Act} {w : World} {Q : Exit → Act → World → Prop}
end
end Go.Mem
namespace Go.Proofs.Ytncnbfefciobcaa
open Go.ChangeShapes Go.WideShapes Go.ChangeAt Go.RowKit Go.Nm Go.Mem Go.Maps
set_option linter.unusedVariables false
end Go.Proofs.Ytncnbfefciobcaa
end
/- Drawn regions that append to a boxed slice of ints twice: the relations of worlds. -/
section
namespace Go.Proofs.Ytncnbfefciobcaa
open Go.ChangeShapes Go.WideShapes Go.ChangeAt Go.RowKit Go.Mem
set_option linter.unusedVariables false
/-- what operation i does: the append (q) writes its row, the others only lay blocks -/
def RI (B X q : Nat) (row : Option Nat) (i : Nat) (a b : World) : Prop := (i ≠ q → Below a.heap.size a b) ∧ (i = q → a.grownBy b row) ∧ FrY B X a b
theorem RI.same (B X q : Nat) (row : Option Nat) (i : Nat) (w : World) : RI B X q row i w w := ⟨fun _ => Below.refl _ _, fun _ => World.grownBy.refl _ _, FrY.refl _ _ _⟩
theorem RI.below {B X q : Nat} {row : Option Nat} {i : Nat} {a b : World} (hi : i ≠ q) (hB : B ≤ a.heap.size) (hb : Below a.heap.size a b) : RI B X q row i a b := ⟨fun _ => hb, fun h => absurd h hi, FrY.of_below hB hb⟩
theorem RI.at_ {B X q : Nat} {row : Option Nat} {i : Nat} {a b : World} (hi : i = q) (hg : a.grownBy b row) (hf : FrY B X a b) : RI B X q row i a b := ⟨fun h => absurd hi h, fun _ => hg, hf⟩
theorem RI.gb {B X q : Nat} {row : Option Nat} {i : Nat} {a b : World} (h : RI B X q row i a b) : a.grownBy b row := by
  by_cases hi : i = q
  · exact h.2.1 hi
  · have hb := h.1 hi
    exact ⟨hb.os, hb.tape, hb.output, hb.size, fun k hk _ => hb.block k hk⟩
theorem RI.sub {B X q : Nat} {row : Option Nat} : ∀ i a b, RI B X q row i a b → FrY B X a b := fun _ _ _ h => h.2.2
end Go.Proofs.Ytncnbfefciobcaa
end
/- The reference's Flat and its Close. -/
section
namespace Go.Proofs.Ytncnbfefciobcaa
open Go.ChangeShapes Go.WideShapes Go.ChangeAt Go.RowKit Go.Nm Go.Mem Go.Maps
set_option linter.unusedVariables false
def F_clk (X BK nf cf : Nat) (af : Option Addr) (nmv : ByteArray) (V : Value) (y : KindV) (l : List KindV) (jq : Nat) (v : Value) (w : World) : Prop :=
  match jq with
  | 0 => v = .pointer (some ⟨X, 0, none⟩)
  | 1 => v = V
  | 2 => v = .pointer (some ⟨BK, 0, none⟩)
  | 3 => v = .string nmv
  | 4 => v = .pointer (some ⟨BK, 1, none⟩)
  | 5 => v = .slice af nf cf
  | 6 => ∃ a c, v = .slice a nf c ∧ nf ≤ c ∧ c ≤ 9223372036854775807 ∧ Up BK (fun w => SlAt 3 FieldAt w a y.fields) w
  | 7 => ∃ a c, v = .agg #[.string nmv, .slice a nf c] ∧ nf ≤ c ∧ c ≤ 9223372036854775807 ∧ Up BK (fun w => SlAt 3 FieldAt w a y.fields) w
  | 8 => ∃ g a c, v = .slice (some ⟨g, 0, none⟩) 1 1 ∧ CellsAt w (some ⟨g, 0, none⟩) [.string nmv, .slice a nf c] ∧ BK ≤ g ∧ Up BK (fun w => EKind w [.string nmv, .slice a nf c] y) w
  | 9 => GrowL EKind (X + 1) 53 2 w v (l ++ [y])
  | 10 => v = .pointer (some ⟨X, 0, none⟩)
  | _ => True
def F_cli (X BK B2 nl i bi : Nat) (g : Int) (V : Value) (PF : Part) (l : List ItemV) (jq : Nat) (v : Value) (w : World) : Prop :=
  match jq with
  | 0 => v = .pointer (some ⟨X, 2, none⟩)
  | 1 => v = V
  | 2 => v = .int .i64 (i : Int)
  | 3 => v = .int .i64 g
  | 4 => v = .agg #[.int .i64 (i : Int), .int .i64 g]
  | 5 => v = .map (some bi)
  | 6 => ∃ a c, v = .slice a nl c ∧ Up BK (fun w => SlAt 2 CompAt w a (listed PF)) w
  | 7 => ∃ a c, v = .agg #[.int .i64 (i : Int), .int .i64 g, .slice a nl c] ∧ Up BK (fun w => SlAt 2 CompAt w a (listed PF)) w
  | 8 => ∃ q a c, v = .slice (some ⟨q, 0, none⟩) 1 1 ∧ CellsAt w (some ⟨q, 0, none⟩) [.int .i64 (i : Int), .int .i64 g, .slice a nl c] ∧ BK ≤ q ∧ Up BK (fun w => EItem w [.int .i64 (i : Int), .int .i64 g, .slice a nl c] ⟨(i : Int), g, listed PF⟩) w
  | 9 => GrowL EItem B2 70 3 w v (l ++ [⟨(i : Int), g, listed PF⟩])
  | 10 => v = .pointer (some ⟨X, 2, none⟩)
  | _ => True
end Go.Proofs.Ytncnbfefciobcaa
end
/- What is opened is small. -/
section
namespace Go.Proofs.Ytncnbfefciobcaa
open Go.ChangeShapes Go.WideShapes Go.ChangeAt Go.RowKit Go.Nm Go.Mem Go.Maps
set_option linter.unusedVariables false
def SmallP (B : Nat) (F : Part) : Prop := ∀ k L, F k = some L → L.length ≤ B
def SmallG (B : Nat) (G : Nat → Option Part) : Prop := ∀ i F, G i = some F → SmallP B F
end Go.Proofs.Ytncnbfefciobcaa
end
/- The reference's Open. -/
section
namespace Go.Proofs.Ytncnbfefciobcaa
open Go.ChangeShapes Go.WideShapes Go.ChangeAt Go.RowKit Go.Nm Go.Mem Go.Maps
set_option linter.unusedVariables false
def openR (y : WorldV) : Option (Nat → Option Part) → Int
  | none => 3
  | some G => if gensO y.gens G y.gens.length = true ∧ sameB (closeV (openV y G)) y = true then 0 else 3
def F_opk (X BK nf cf : Nat) (af : Option Addr) (nmv : ByteArray) (V : Value) (y : KindV) (l : List KindV) (jq : Nat) (v : Value) (w : World) : Prop :=
  match jq with
  | 0 => v = .pointer (some ⟨X, 0, none⟩)
  | 1 => v = .pointer (some ⟨X, 0, none⟩)
  | 2 => v = .pointer (some ⟨X, 0, none⟩)
  | 3 => v = .pointer (some ⟨X, 0, none⟩)
  | 4 => v = V
  | 5 => v = .pointer (some ⟨BK, 0, none⟩)
  | 6 => v = .string nmv
  | 7 => v = .pointer (some ⟨BK, 1, none⟩)
  | 8 => v = .slice af nf cf
  | 9 => ∃ a c, v = .slice a nf c ∧ nf ≤ c ∧ c ≤ 9223372036854775807 ∧ Up BK (fun w => SlAt 3 FieldAt w a y.fields) w
  | 10 => ∃ a c, v = .agg #[.string nmv, .slice a nf c] ∧ nf ≤ c ∧ c ≤ 9223372036854775807 ∧ Up BK (fun w => SlAt 3 FieldAt w a y.fields) w
  | 11 => ∃ g a c, v = .slice (some ⟨g, 0, none⟩) 1 1 ∧ CellsAt w (some ⟨g, 0, none⟩) [.string nmv, .slice a nf c] ∧ BK ≤ g ∧ Up BK (fun w => EKind w [.string nmv, .slice a nf c] y) w
  | 12 => GrowL EKind (X + 1) 53 2 w v (l ++ [y])
  | 13 => v = .pointer (some ⟨X, 0, none⟩)
  | 14 => v = .pointer (some ⟨X, 0, none⟩)
  | _ => True
def F_opta (X BX ng gc : Nat) (E kn : Int) (ga : Option Addr) (jq : Nat) (v : Value) (w : World) : Prop :=
  match jq with
  | 0 => v = .int .i64 E
  | 1 => v = .bool true
  | 2 => v = .bool true
  | 3 => v = undef
  | 4 => v = undef
  | 5 => v = undef
  | 6 => v = undef
  | 7 => v = .bool true
  | 8 => v = .bool true
  | 9 => v = undef
  | 10 => v = undef
  | 11 => v = undef
  | 12 => v = undef
  | 13 => v = undef
  | 14 => v = undef
  | 15 => v = undef
  | 16 => v = undef
  | 17 => v = undef
  | 18 => v = .bool true
  | _ => True
def F_optb (X BX ng gc : Nat) (kn : Int) (ga : Option Addr) (jq : Nat) (v : Value) (w : World) : Prop :=
  match jq with
  | 0 => v = .int .i64 0
  | 1 => v = .bool false
  | 2 => v = .bool false
  | 3 => v = .pointer (some ⟨BX, 0, none⟩)
  | 4 => v = .pointer (some ⟨BX, 0, none⟩)
  | 5 => v = .int .i64 kn
  | 6 => v = .bool true
  | 7 => v = .bool true
  | 8 => v = .bool true
  | 9 => v = undef
  | 10 => v = undef
  | 11 => v = undef
  | 12 => v = undef
  | 13 => v = undef
  | 14 => v = undef
  | 15 => v = undef
  | 16 => v = undef
  | 17 => v = undef
  | 18 => v = .bool true
  | _ => True
def F_optc (X BX ng gc : Nat) (kn : Int) (ga : Option Addr) (jq : Nat) (v : Value) (w : World) : Prop :=
  match jq with
  | 0 => v = .int .i64 0
  | 1 => v = .bool false
  | 2 => v = .bool false
  | 3 => v = .pointer (some ⟨BX, 0, none⟩)
  | 4 => v = .pointer (some ⟨BX, 0, none⟩)
  | 5 => v = .int .i64 kn
  | 6 => v = .bool false
  | 7 => v = .bool false
  | 8 => v = .bool false
  | 9 => v = .pointer (some ⟨BX, 0, none⟩)
  | 10 => v = .pointer (some ⟨BX, 0, none⟩)
  | 11 => v = .int .i64 kn
  | 12 => v = .pointer (some ⟨X, 0, none⟩)
  | 13 => v = .pointer (some ⟨X, 0, none⟩)
  | 14 => v = .pointer (some ⟨X, 1, none⟩)
  | 15 => v = .slice ga ng gc
  | 16 => v = .int .i64 (ng : Int)
  | 17 => v = .bool true
  | 18 => v = .bool true
  | _ => True
def F_optd (X BX ng gc q : Nat) (ga : Option Addr) (jq : Nat) (v : Value) (w : World) : Prop :=
  match jq with
  | 0 => v = .int .i64 0
  | 1 => v = .bool false
  | 2 => v = .bool false
  | 3 => v = .pointer (some ⟨BX, 0, none⟩)
  | 4 => v = .pointer (some ⟨BX, 0, none⟩)
  | 5 => v = .int .i64 (q : Int)
  | 6 => v = .bool false
  | 7 => v = .bool false
  | 8 => v = .bool false
  | 9 => v = .pointer (some ⟨BX, 0, none⟩)
  | 10 => v = .pointer (some ⟨BX, 0, none⟩)
  | 11 => v = .int .i64 (q : Int)
  | 12 => v = .pointer (some ⟨X, 0, none⟩)
  | 13 => v = .pointer (some ⟨X, 0, none⟩)
  | 14 => v = .pointer (some ⟨X, 1, none⟩)
  | 15 => v = .slice ga ng gc
  | 16 => v = .int .i64 (ng : Int)
  | 17 => v = .bool false
  | 18 => v = .bool false
  | _ => True
def F_opm (X BX b bm q : Nat) (jq : Nat) (v : Value) (w : World) : Prop :=
  match jq with
  | 0 => v = .pointer (some ⟨X, 0, none⟩)
  | 1 => v = .pointer (some ⟨X, 0, none⟩)
  | 2 => v = .pointer (some ⟨X, 2, none⟩)
  | 3 => v = .map (some b)
  | 4 => v = .pointer (some ⟨BX, 0, none⟩)
  | 5 => v = .pointer (some ⟨BX, 0, none⟩)
  | 6 => v = .int .i64 (q : Int)
  | 7 => v = .map (some bm)
  | _ => True
theorem list5 {α : Type} {vs : List α} (h : vs.length = 5) : ∃ x0 x1 x2 x3 x4, vs = [x0, x1, x2, x3, x4] := by
  obtain ⟨x0, t0, rfl, h0⟩ := cons_of h
  obtain ⟨x1, t1, rfl, h1⟩ := cons_of h0
  obtain ⟨x2, t2, rfl, h2⟩ := cons_of h1
  obtain ⟨x3, t3, rfl, h3⟩ := cons_of h2
  obtain ⟨x4, t4, rfl, h4⟩ := cons_of h3
  exact ⟨x0, x1, x2, x3, x4, by rw [List.eq_nil_of_length_eq_zero h4]⟩
def F_ops (X WB nk ck ng cg ni ci : Nat) (ak ag ai : Option Addr) (CV : WorldV) (SB : Bool) (jq : Nat) (v : Value) (w : World) : Prop :=
  match jq with
  | 0 => v = .pointer (some ⟨X, 0, none⟩)
  | 1 => WorldIn w v CV
  | 2 => v = .agg #[.slice ak nk ck, .slice ag ng cg, .slice ai ni ci]
  | 3 => v = .bool SB
  | 4 => v = .bool (!SB)
  | _ => True
end Go.Proofs.Ytncnbfefciobcaa
end
/- world.Free. -/
section
namespace Go.Proofs.Ytncnbfefciobcaa
open Go.ChangeShapes Go.WideShapes Go.ChangeAt Go.RowKit Go.Nm Go.Mem
set_option linter.unusedVariables false
def usedI (l : List ItemV) (n : Nat) : Bool := l.any fun t => decide (t.n = (n : Int))
def freeP (y : WorldV) (i : Nat) : Bool := !usedI y.items i && decide (y.gens.getD i 0 < 1073741824)
def freeN (y : WorldV) : Nat := firstP (freeP y) y.gens.length
def freeOk (y : WorldV) : Bool := decide (freeN y < y.gens.length) || decide (y.gens.length < 256)
theorem usedI_snoc (l : List ItemV) (t : ItemV) (n : Nat) : usedI (l ++ [t]) n = (usedI l n || decide (t.n = (n : Int))) := by
  unfold usedI
  rw [List.any_append]
  simp
def F_free (WB ng cg : Nat) (ag : Option Addr) (BB : Bool) (jq : Nat) (v : Value) (w : World) : Prop :=
  match jq with
  | 0 => v = .pointer (some ⟨WB, 1, none⟩)
  | 1 => v = .slice ag ng cg
  | 2 => v = .int .i64 (ng : Int)
  | 3 => v = .pointer (some ⟨WB, 1, none⟩)
  | 4 => v = .slice ag ng cg
  | 5 => v = .int .i64 (ng : Int)
  | 6 => v = .bool BB
  | 7 => v = .int .i64 (ng : Int)
  | 8 => v = .bool BB
  | _ => True
theorem F_free_mono (WB ng cg : Nat) (ag : Option Addr) (BB : Bool) : Facts (F_free WB ng cg  ag  BB ) := ⟨by
  intro jq v w w' h hb
  unfold F_free at h ⊢
  split at h
  all_goals first
    | exact h
    | trivial⟩

set_option maxHeartbeats 4000000 in
set_option maxRecDepth 20000 in
theorem world_Free (y : WorldV) (v : Value) (W : World) (hv : WorldIn W v y) (hsm : SmallW y) :
    Calls Try.prog 40 #[v] W fun e w' => e = .returned (.tuple #[.int .i64 (freeN y), .bool (freeOk y)]) ∧ Below W.heap.size W w' := by
  obtain ⟨ak, ck, ag, cg, ai, ci, rfl, hzk, hzg, hzi, hk1, hk2⟩ := hv
  obtain ⟨s1, s2, s3, s4⟩ := hsm
  obtain ⟨nk, hnk⟩ : ∃ nk, nk = y.kinds.length := ⟨_, rfl⟩
  obtain ⟨ng, hng⟩ : ∃ ng, ng = y.gens.length := ⟨_, rfl⟩
  obtain ⟨ni, hni⟩ : ∃ ni, ni = y.items.length := ⟨_, rfl⟩
  rw [← hng] at s2
  rw [← hni] at s3
  rw [← hnk, ← hng, ← hni]
  obtain ⟨FN, hFN⟩ : ∃ FN, FN = freeN y := ⟨_, rfl⟩
  obtain ⟨FO, hFO⟩ : ∃ FO, FO = freeOk y := ⟨_, rfl⟩
  rw [← hFN, ← hFO]
  have ffo : FO = (decide (FN < ng) || decide (ng < 256)) := by rw [hFO, hFN, hng]; rfl
  have ffn : FN = firstP (freeP y) ng := by rw [hFN, hng]; rfl
  have HFO := Lib.hid ffo
  have HFN := Lib.hid ffn
  have hbA := (Below.refl W.heap.size W).alloc (Nat.le_refl _) (.cells #[.slice ak nk ck, .slice ag ng cg, .slice ai ni ci] 27 (0, 0))
  have hbx := heap_alloc_new W (.cells #[.slice ak nk ck, .slice ag ng cg, .slice ai ni ci] 27 (0, 0))
  have HBA := Lib.hid hbA
  have HBX := Lib.hid hbx
  have NG := Lib.hid hng
  have NI := Lib.hid hni
  have HZG := Lib.hid hzg
  have HZI := Lib.hid hzi
  clear hFN hFO ffo ffn hbA hbx hnk hng hni hzk hzg hzi hk1 hk2 s1 s4
  go_enter Try.func40, Try.ntmps40
  have e1 := cell_of_row _ _ 1 _ _ _ HBX.out
  have e2 := cell_of_row _ _ 2 _ _ _ HBX.out
  obtain ⟨w0, hw0⟩ : ∃ w0, w0 = W.alloc (.cells #[.slice ak nk ck, .slice ag ng cg, .slice ai ni ci] 27 (0, 0)) := ⟨_, rfl⟩
  go_wp2_with (at_make; refine wpList_make_bools rfl _ _ 110 rfl Try.underlying110 (by kernel_rfl) _ _ _ _ ng rfl rfl rfl rfl (by omega) (by unfold maxLen; omega) ?_; intro w1 hrow hb1 hsz1; have e2 : w1.cell? ⟨W.heap.size, 2, none⟩ = some (.slice ai ni ci) := (by rw [cell_of_row _ _ 2 _ _ _ (heap_below HBX.out hb1)]; rfl); have HROW := Lib.hid hrow; have HB1 := Lib.hid hb1; have HSZ := Lib.hid hsz1; clear hrow hb1 hsz1)
  obtain ⟨U, hU⟩ : ∃ U, U = (W.alloc (.cells #[.slice ak nk ck, .slice ag ng cg, .slice ai ni ci] 27 (0, 0))).heap.size := ⟨_, rfl⟩
  have hWU : W.heap.size < U := by rw [hU, World.size_alloc]; omega
  have HRW := HROW.out
  have HRB := Lib.hid (heap_below HBX.out HB1.out)
  have HBW := Lib.hid (bt HBA.out HB1.out)
  rw [World.size_alloc] at hU
  rw [World.size_alloc, ← hU] at HRW
  rw [← hU]
  have HROWU := Lib.hid HRW
  clear HRW HROW HB1 HSZ hU e1 e2 HBX HBA hw0 w0
  go_loopg [16, 6] ni (fun gk v16 _ wx => ∃ i : Nat, i ≤ ni ∧ gk = ni - i ∧ v16 = .int .i64 i ∧ BoolRow wx U ng (usedI (y.items.take i)) ∧ w1.grownBy wx (some U))
  case atStart => exact ⟨0, Nat.zero_le _, rfl, rfl, HROWU.out.congr (fun j _ => rfl), World.grownBy.refl _ _⟩
  case round =>
    obtain ⟨i, i1, i2, rfl, hrow, hg⟩ := hrel
    have I2 := Lib.hid i2
    have HROW := Lib.hid hrow
    have HG := Lib.hid hg
    have HBR := Lib.hid (HBW.out.grown hg HBW.out.size (fun r h => by injection h with h; omega))
    have HRBR := Lib.hid ((hg.block _ (lt_of_heap HRB.out) (fun e => by injection e with e; omega)).trans HRB.out)
    clear i2 hrow hg
    by_cases hi : i < ni
    · obtain ⟨x, rfl, _, _⟩ := HZI.out (by rw [← NI.out]; omega)
      obtain ⟨xb, xo, rfl, av, cv, hcl, _⟩ := item_cells (HZI.out.below ItemAt.abides HBR.out) i (by rw [← NI.out]; exact hi)
      obtain ⟨it, hitd⟩ : ∃ it, it = y.items[i]'(by rw [← NI.out]; exact hi) := ⟨_, rfl⟩
      have htk : y.items.take (i + 1) = y.items.take i ++ [it] := by rw [hitd, List.take_add_one, List.getElem?_eq_getElem (by rw [← NI.out]; exact hi)]; rfl
      rw [← hitd] at hcl
      obtain ⟨nv, hnv⟩ : ∃ nv, nv = it.comps.length := ⟨_, rfl⟩
      obtain ⟨kn, hkn⟩ : ∃ kn, kn = it.n := ⟨_, rfl⟩
      obtain ⟨kg, hkg⟩ : ∃ kg, kg = it.gen := ⟨_, rfl⟩
      rw [← hkn, ← hkg, ← hnv] at hcl
      have e0 := hcl.at 0 (by simp)
      have e1 := hcl.at 1 (by simp)
      have e2 := hcl.at 2 (by simp)
      simp only [List.getElem_cons_zero, List.getElem_cons_succ, Nat.add_zero] at e0 e1 e2
      have hro := new_row wr #[.int .i64 kn, .int .i64 kg, .slice av nv cv] 70
      have q0 := hro.at 0 (by simp)
      simp only [List.getElem_cons_zero, Nat.zero_add] at q0
      have hbA : Below wr.heap.size wr (wr.alloc (.cells #[.int .i64 kn, .int .i64 kg, .slice av nv cv] 70 (0, 0))) := (Below.refl _ _).alloc (Nat.le_refl _) _
      have HGA := Lib.hid ((HG.out).trans (below_gn hbA (some U)))
      have HRA := Lib.hid (HROW.out.below hbA)
      have HTK := Lib.hid htk
      have HKN := Lib.hid hkn
      clear hcl hro hbA hitd htk hkg hnv hkn
      by_cases hA : kn < 0
      · have HNX := Lib.hid (show ∀ j, j < ng → usedI (y.items.take (i + 1)) j = usedI (y.items.take i) j from fun j _ => by rw [HTK.out, usedI_snoc, ← HKN.out, decide_eq_false (by omega), Bool.or_false])
        go_wp2
        go_roundg (ni - (i + 1))
        case measure => rw [I2.out]; omega
        case rel => exact ⟨i + 1, hi, rfl, by go_num, HRA.out.congr HNX.out, HGA.out⟩
      · by_cases hB : kn < ng
        · obtain ⟨q, rfl⟩ : ∃ q : Nat, kn = (q : Int) := ⟨kn.toNat, by omega⟩
          have hq : q < ng := by omega
          have c0 := HRA.out.cell q hq
          have f0 := HRA.out.free q
          have HNX := Lib.hid (show ∀ j, j < ng → usedI (y.items.take (i + 1)) j = if j = q then true else usedI (y.items.take i) j from fun j _ => by
            rw [HTK.out, usedI_snoc, ← HKN.out]
            by_cases e : j = q
            · subst e; rw [if_pos rfl, decide_eq_true rfl, Bool.or_true]
            · rw [if_neg e, decide_eq_false (by omega), Bool.or_false])
          have HRN := Lib.hid (HRA.out.set q hq true HNX.out)
          have HGN := Lib.hid (HGA.out.trans (gb_set (World.grownBy.refl _ _) q (.bool true)))
          go_wp2
          go_roundg (ni - (i + 1))
          case measure => rw [I2.out]; omega
          case rel => exact ⟨i + 1, hi, rfl, by go_num, HRN.out, HGN.out⟩
        · have HNX := Lib.hid (show ∀ j, j < ng → usedI (y.items.take (i + 1)) j = usedI (y.items.take i) j from fun j hj => by rw [HTK.out, usedI_snoc, ← HKN.out, decide_eq_false (by omega), Bool.or_false])
          go_wp2
          go_roundg (ni - (i + 1))
          case measure => rw [I2.out]; omega
          case rel => exact ⟨i + 1, hi, rfl, by go_num, HRA.out.congr HNX.out, HGA.out⟩
    · obtain rfl : ni = i := by omega
      have HRF := Lib.hid (show BoolRow wr U ng (usedI y.items) by have h := HROW.out; rw [List.take_of_length_le (by rw [← NI.out]; exact Nat.le_refl _)] at h; exact h)
      have e1 := cell_of_row _ _ 1 _ _ _ HRBR.out
      obtain ⟨W2, hW2⟩ : ∃ W2, W2 = wr := ⟨_, rfl⟩
      subst hW2
      clear HROW I2
      go_wp2_with fail
      go_loopg [41, 7, 8] ng (fun gk v41 _ _ wx => ∃ i : Nat, i ≤ ng ∧ gk = ng - i ∧ v41 = .int .i64 i ∧ (∀ j, j < i → freeP y j = false) ∧ wx = W2)
      case atStart => exact ⟨0, Nat.zero_le _, rfl, rfl, fun j h => absurd h (by omega), rfl⟩
      case round =>
        obtain ⟨i, i1, i2, rfl, hat, rfl⟩ := hrel
        have I2 := Lib.hid i2
        have HAT := Lib.hid hat
        clear i2 hat
        by_cases hi : i < ng
        · obtain ⟨x, rfl, _, _⟩ := HZG.out (by rw [← NG.out]; omega)
          obtain ⟨xb, xo, rfl, hgc⟩ := ints_cell (HZG.out.below HBR.out) i (by rw [← NG.out]; exact hi)
          rw [Nat.mul_one] at hgc
          obtain ⟨g, hgv⟩ : ∃ g, g = y.gens.getD i 0 := ⟨_, rfl⟩
          rw [← hgv] at hgc
          have c0 := HRF.out.cell i hi
          obtain ⟨UB, hUB⟩ : ∃ b, b = usedI y.items i := ⟨_, rfl⟩
          rw [← hUB] at c0
          have HP := Lib.hid (show freeP y i = (!UB && decide (g < 1073741824)) by unfold freeP; rw [hUB, hgv])
          have HNX := Lib.hid (fun (h : freeP y i = false) => show ∀ j, j < i + 1 → freeP y j = false from fun j hj => by
            by_cases e : j < i
            · exact HAT.out j e
            · obtain rfl : j = i := by omega
              exact h)
          clear hgv hUB
          cases UB with
          | true =>
            have HN2 := Lib.hid (HNX.out (by rw [HP.out]; rfl))
            go_wp2
            go_roundg (ng - (i + 1))
            case measure => rw [I2.out]; omega
            case rel => exact ⟨i + 1, hi, rfl, by go_num, HN2.out, rfl⟩
          | false =>
            by_cases hlt : g < 1073741824
            · have HR1 := Lib.hid (show FN = i by rw [HFN.out]; exact firstP_at HAT.out (by rw [HP.out, decide_eq_true hlt]; rfl) hi)
              have HR2 := Lib.hid (show FO = true by rw [HFO.out, HR1.out, decide_eq_true hi, Bool.true_or])
              go_wp2
              go_ret2
              exact ⟨by rw [HR1.out, HR2.out]; rfl, HBR.out⟩
            · have HN2 := Lib.hid (HNX.out (by rw [HP.out, decide_eq_false hlt]; rfl))
              go_wp2
              go_roundg (ng - (i + 1))
              case measure => rw [I2.out]; omega
              case rel => exact ⟨i + 1, hi, rfl, by go_num, HN2.out, rfl⟩
        · obtain rfl : ng = i := by omega
          have HR1 := Lib.hid (show FN = ng by rw [HFN.out]; exact firstP_none HAT.out)
          obtain ⟨BB, hBB⟩ : ∃ b, b = decide ((ng : Int) < 256) := ⟨_, rfl⟩
          have HBB := Lib.hid hBB.symm
          have HR2 := Lib.hid (show FO = BB by
            rw [HFO.out, HR1.out, decide_eq_false (Nat.lt_irrefl _), Bool.false_or, hBB]
            by_cases h : ng < 256
            · rw [decide_eq_true h, decide_eq_true (by omega)]
            · rw [decide_eq_false h, decide_eq_false (by omega)])
          have E1 := Lib.hid e1
          clear hBB e1
          go_wp2_with fail
          refine wp_region_facts_t rfl 9 (by kernel_rfl) (F_free W.heap.size ng cg ag BB) (F_free_mono W.heap.size ng cg ag BB) ?_ ?_
          · refine ⟨?_, ?_, ?_, ?_, ?_, ?_, ?_, ?_, ?_, trivial⟩
            · intro vs w' F hb hd hF hl hT
              have e := (hF 1).trans (look_out _ 1 _ _ (by kernel_rfl))
              exact one_field _ _ _ rfl rfl _ _ e (1) (fun w => by kernel_rfl) ⟨_, rfl, Below.refl _ _, rfl⟩
            · intro vs w' F hb hd hF hl hT
              have e := ((hF 57).trans (look_at _ 57 0 _ _ (by kernel_rfl) (by kernel_rfl) hl)).trans (dep_of (Fact := F_free W.heap.size ng cg ag BB) hd 0 (by kernel_rfl))
              exact one_load _ _ rfl rfl _ _ e (cell_abides E1.out hb) (by kernel_rfl) ⟨_, rfl, Below.refl _ _, rfl⟩
            · intro vs w' F hb hd hF hl hT
              have e := ((hF 58).trans (look_at _ 58 1 _ _ (by kernel_rfl) (by kernel_rfl) hl)).trans (dep_of (Fact := F_free W.heap.size ng cg ag BB) hd 1 (by kernel_rfl))
              exact rg_len _ 22 3 rfl rfl Try.underlying22 ag (ng) (cg) e ⟨_, rfl, Below.refl _ _, rfl⟩
            · intro vs w' F hb hd hF hl hT
              have e := (hF 1).trans (look_out _ 1 _ _ (by kernel_rfl))
              exact one_field _ _ _ rfl rfl _ _ e (1) (fun w => by kernel_rfl) ⟨_, rfl, Below.refl _ _, rfl⟩
            · intro vs w' F hb hd hF hl hT
              have e := ((hF 60).trans (look_at _ 60 3 _ _ (by kernel_rfl) (by kernel_rfl) hl)).trans (dep_of (Fact := F_free W.heap.size ng cg ag BB) hd 3 (by kernel_rfl))
              exact one_load _ _ rfl rfl _ _ e (cell_abides E1.out hb) (by kernel_rfl) ⟨_, rfl, Below.refl _ _, rfl⟩
            · intro vs w' F hb hd hF hl hT
              have e := ((hF 61).trans (look_at _ 61 4 _ _ (by kernel_rfl) (by kernel_rfl) hl)).trans (dep_of (Fact := F_free W.heap.size ng cg ag BB) hd 4 (by kernel_rfl))
              exact rg_len _ 22 3 rfl rfl Try.underlying22 ag (ng) (cg) e ⟨_, rfl, Below.refl _ _, rfl⟩
            · intro vs w' F hb hd hF hl hT
              have e1 := ((hF 62).trans (look_at _ 62 5 _ _ (by kernel_rfl) (by kernel_rfl) hl)).trans (dep_of (Fact := F_free W.heap.size ng cg ag BB) hd 5 (by kernel_rfl))
              exact rg_lss _ _ _ _ rfl rfl .i64 ((ng : Int)) (256) BB e1 rfl (HBB.out) ⟨_, rfl, Below.refl _ _, rfl⟩
            · intro vs w' F hb hd hF hl hT
              have e := ((hF 59).trans (look_at _ 59 2 _ _ (by kernel_rfl) (by kernel_rfl) hl)).trans (dep_of (Fact := F_free W.heap.size ng cg ag BB) hd 2 (by kernel_rfl))
              exact one_move _ rfl (by first | exact Or.inl rfl | exact Or.inr rfl) ⟨_, rfl, Below.refl _ _, e⟩
            · intro vs w' F hb hd hF hl hT
              have e := ((hF 63).trans (look_at _ 63 6 _ _ (by kernel_rfl) (by kernel_rfl) hl)).trans (dep_of (Fact := F_free W.heap.size ng cg ag BB) hd 6 (by kernel_rfl))
              exact one_move _ rfl (by first | exact Or.inl rfl | exact Or.inr rfl) ⟨_, rfl, Below.refl _ _, e⟩
          · intro vs8 W8 hl hb hI
            have i7 : vs8.getD 7 undef = .int .i64 (ng : Int) := hI 7 (by omega)
            have i8 : vs8.getD 8 undef = .bool BB := hI 8 (by omega)
            obtain ⟨x0, x1, x2, x3, x4, x5, x6, x7, x8, hvs⟩ := list9 hl
            subst hvs
            replace i7 : x7 = .int .i64 (ng : Int) := i7
            replace i8 : x8 = .bool BB := i8
            subst i7 i8
            have HBE := Lib.hid (bt HBR.out hb)
            clear hI hl hb
            simp only [fillAll, Act.put, List.setIfInBounds_toArray, List.set_cons_succ, List.set_cons_zero]
            show wpList _ _ _ [] _ _
            go_wp2
            go_ret2
            exact ⟨by rw [HR1.out, HR2.out]; rfl, HBE.out⟩
end Go.Proofs.Ytncnbfefciobcaa
end
/- slices.BinarySearchFunc at items, by their slots. -/
section
namespace Go.Proofs.Ytncnbfefciobcaa
open Go.ChangeShapes Go.WideShapes Go.ChangeAt Go.RowKit Go.Nm Go.Mem
set_option linter.unusedVariables false
set_option maxHeartbeats 1000000 in
theorem clos_slot (k g t : Int) (a : Option Addr) (n c : Nat) (W : World) : Calls Try.prog 42 #[.agg #[.int .i64 k, .int .i64 g, .slice a n c], .int .i64 t] W fun e w' => e = .returned (.int .i64 (cmpI k t)) ∧ Below W.heap.size W w' := by
  have HC := Lib.hid (fun W' => cmp_ints k t W')
  have hb0 := (Below.refl W.heap.size W).alloc (Nat.le_refl _) (.cells #[.int .i64 k, .int .i64 g, .slice a n c] 70)
  have HB0 := Lib.hid hb0
  obtain ⟨R, hR⟩ : ∃ R, R = cmpI k t := ⟨_, rfl⟩
  rw [← hR] at HC ⊢
  clear hR hb0
  go_enter Try.func42, Try.ntmps42
  go_wp2_with fail
  refine (HC.out _).mono ?_
  rintro e w' ⟨rfl, rfl⟩
  go_wp2
  go_ret
  exact ⟨rfl, HB0.out⟩
theorem cmpI_lt (x y : Int) : decide (cmpI x y < 0) = decide (x < y) := by
  unfold cmpI
  by_cases h1 : x < y
  · simp [h1]
  · by_cases h2 : y < x <;> simp [h1, h2]
theorem cmpI_eq (x y : Int) : (cmpI x y == 0) = decide (x = y) := by
  unfold cmpI
  by_cases h1 : x < y
  · have : x ≠ y := by omega
    simp [h1, this]
  · by_cases h2 : y < x
    · have : x ≠ y := by omega
      simp [h1, h2, this]
    · have : x = y := by omega
      simp [this]
set_option maxHeartbeats 4000000 in
theorem bin_items (l : List ItemV) (a : Option Addr) (n cap : Nat) (t : Int) (hn : l.length = n) (h1 : n ≤ 1048576) (hs : l.Pairwise (fun x y => x.n < y.n)) (W : World) (hz : SlAt 3 ItemAt W a l) :
    Calls Try.prog 41 #[.slice a n cap, .int .i64 t, .func (.func 42) #[] #[]] W fun e w' => (∃ (i : Nat) (f : Bool), i ≤ n ∧ e = .returned (.tuple #[.int .i64 i, .bool f]) ∧ (∀ j (h : j < l.length), j < i → l[j].n < t) ∧ (∀ j (h : j < l.length), i ≤ j → t ≤ l[j].n) ∧ f = decide (∃ h : i < l.length, l[i].n = t)) ∧ Below W.heap.size W w' := by
  have HN := Lib.hid hn
  have HS := Lib.hid hs
  have HZ := Lib.hid hz
  clear hn hs hz
  go_enter Try.func41, Try.ntmps41
  go_wp2_with fail
  go_loopg [9, 10, 11] n (fun gk v9 v10 _ wx => ∃ lo hi : Nat, lo ≤ hi ∧ hi ≤ n ∧ gk = hi - lo ∧ v9 = .int .i64 lo ∧ v10 = .int .i64 hi ∧ (∀ j (h : j < l.length), j < lo → l[j].n < t) ∧ (∀ j (h : j < l.length), hi ≤ j → t ≤ l[j].n) ∧ Below W.heap.size W wx)
  case atStart => exact ⟨0, n, Nat.zero_le _, Nat.le_refl _, rfl, rfl, rfl, fun j h h2 => absurd h2 (by omega), fun j h h2 => absurd h2 (by rw [HN.out] at h; omega), Below.refl _ _⟩
  case round =>
    obtain ⟨lo, hi, h2, h3, g2, rfl, rfl, hlo, hhi, hb⟩ := hrel
    have G2 := Lib.hid g2
    have HLO := Lib.hid hlo
    have HHI := Lib.hid hhi
    have HB := Lib.hid hb
    clear g2 hlo hhi hb
    by_cases hlt : lo < hi
    · have hMl : lo ≤ (lo + hi) / 2 ∧ (lo + hi) / 2 < hi := by omega
      obtain ⟨x, rfl, _, _⟩ := HZ.out (by rw [HN.out]; omega)
      obtain ⟨xb, xo, rfl, av, cv, hcl, _⟩ := item_cells (HZ.out.below ItemAt.abides HB.out) ((lo + hi) / 2) (by rw [HN.out]; omega)
      obtain ⟨it, hit⟩ : ∃ it, it = l[(lo + hi) / 2]'(by rw [HN.out]; omega) := ⟨_, rfl⟩
      rw [← hit] at hcl
      obtain ⟨kn, hkn⟩ : ∃ k, k = it.n := ⟨_, rfl⟩
      obtain ⟨kg, hkg⟩ : ∃ k, k = it.gen := ⟨_, rfl⟩
      obtain ⟨nv, hnv⟩ : ∃ k, k = it.comps.length := ⟨_, rfl⟩
      rw [← hkn, ← hkg, ← hnv] at hcl
      have e0 := hcl.at 0 (by simp)
      have e1 := hcl.at 1 (by simp)
      have e2 := hcl.at 2 (by simp)
      simp only [List.getElem_cons_zero, List.getElem_cons_succ, Nat.add_zero] at e0 e1 e2
      have HIT := Lib.hid (show kn = (l[(lo + hi) / 2]'(by rw [HN.out]; omega)).n by rw [hkn, hit])
      have HCL := Lib.hid (clos_slot kn kg t av nv cv wr)
      have HMC := Lib.hid (show ((lo : Int) + hi) / 2 = (((lo + hi) / 2 : Nat) : Int) by omega)
      have hlt2 := cmpI_lt kn t
      obtain ⟨R, hR⟩ : ∃ R, R = cmpI kn t := ⟨_, rfl⟩
      rw [← hR] at HCL hlt2
      have HLT := Lib.hid hlt2
      clear hcl hit hkn hkg hnv hR hlt2
      go_wp2_with fail
      refine HCL.out.mono ?_
      rintro e w1 ⟨rfl, hb1⟩
      have HB1 := Lib.hid (bt HB.out hb1)
      clear hb1 HCL e0 e1 e2
      by_cases hR : R < 0
      · have hk : kn < t := of_decide_eq_true (by rw [← HLT.out]; exact decide_eq_true hR)
        have HN2 := Lib.hid (show ∀ j (h : j < l.length), j < (lo + hi) / 2 + 1 → l[j].n < t from fun j h hj => by
          by_cases e : j = (lo + hi) / 2
          · subst e; rw [← HIT.out]; exact hk
          · have := List.pairwise_iff_getElem.1 HS.out j ((lo + hi) / 2) h (by rw [HN.out]; omega) (by omega)
            rw [← HIT.out] at this
            omega)
        clear hk
        go_wp2
        go_roundg (hi - ((lo + hi) / 2 + 1))
        case measure => rw [G2.out]; omega
        case rel => exact ⟨(lo + hi) / 2 + 1, hi, by omega, h3, rfl, by rw [HMC.out]; go_num, rfl, HN2.out, HHI.out, HB1.out⟩
      · have hk : ¬ kn < t := of_decide_eq_false (by rw [← HLT.out]; exact decide_eq_false hR)
        have HN2 := Lib.hid (show ∀ j (h : j < l.length), (lo + hi) / 2 ≤ j → t ≤ l[j].n from fun j h hj => by
          by_cases e : j = (lo + hi) / 2
          · subst e; rw [← HIT.out]; omega
          · have := List.pairwise_iff_getElem.1 HS.out ((lo + hi) / 2) j (by rw [HN.out]; omega) h (by omega)
            rw [← HIT.out] at this
            omega)
        clear hk
        go_wp2
        go_roundg ((lo + hi) / 2 - lo)
        case measure => rw [G2.out]; omega
        case rel => exact ⟨lo, (lo + hi) / 2, by omega, by omega, rfl, rfl, by rw [HMC.out], HLO.out, HN2.out, HB1.out⟩
    · obtain rfl : hi = lo := by omega
      by_cases hin : hi < n
      · obtain ⟨x, rfl, _, _⟩ := HZ.out (by rw [HN.out]; omega)
        obtain ⟨xb, xo, rfl, av, cv, hcl, _⟩ := item_cells (HZ.out.below ItemAt.abides HB.out) hi (by rw [HN.out]; omega)
        obtain ⟨it, hit⟩ : ∃ it, it = l[hi]'(by rw [HN.out]; omega) := ⟨_, rfl⟩
        rw [← hit] at hcl
        obtain ⟨kn, hkn⟩ : ∃ k, k = it.n := ⟨_, rfl⟩
        obtain ⟨kg, hkg⟩ : ∃ k, k = it.gen := ⟨_, rfl⟩
        obtain ⟨nv, hnv⟩ : ∃ k, k = it.comps.length := ⟨_, rfl⟩
        rw [← hkn, ← hkg, ← hnv] at hcl
        have e0 := hcl.at 0 (by simp)
        have e1 := hcl.at 1 (by simp)
        have e2 := hcl.at 2 (by simp)
        simp only [List.getElem_cons_zero, List.getElem_cons_succ, Nat.add_zero] at e0 e1 e2
        have HIT := Lib.hid (show kn = (l[hi]'(by rw [HN.out]; omega)).n by rw [hkn, hit])
        have HCL := Lib.hid (clos_slot kn kg t av nv cv wr)
        have heq2 := cmpI_eq kn t
        obtain ⟨R, hR⟩ : ∃ R, R = cmpI kn t := ⟨_, rfl⟩
        rw [← hR] at HCL heq2
        have HEQ := Lib.hid heq2
        clear hcl hit hkn hkg hnv hR heq2
        go_wp2_with fail
        refine HCL.out.mono ?_
        rintro e w1 ⟨rfl, hb1⟩
        have HB1 := Lib.hid (bt HB.out hb1)
        clear hb1 HCL e0 e1 e2
        obtain ⟨F, hF⟩ : ∃ F, F = (R == 0) := ⟨_, rfl⟩
        have hF2 := hF.symm
        have HFE := Lib.hid (show F = decide (∃ h : hi < l.length, l[hi].n = t) by
          rw [hF, HEQ.out]
          by_cases e : kn = t
          · rw [decide_eq_true e, decide_eq_true ⟨by rw [HN.out]; exact hin, by rw [← HIT.out]; exact e⟩]
          · rw [decide_eq_false e, decide_eq_false (fun ⟨_, h⟩ => e (by rw [HIT.out]; exact h))])
        clear hF
        go_wp2
        go_ret2
        exact ⟨⟨hi, F, h3, by simp, HLO.out, HHI.out, HFE.out⟩, HB1.out⟩
      · have HFE := Lib.hid (show false = decide (∃ h : hi < l.length, l[hi].n = t) from (decide_eq_false (fun ⟨h, _⟩ => hin (by rw [HN.out] at h; exact h))).symm)
        go_wp2
        go_ret2
        exact ⟨⟨hi, false, h3, rfl, HLO.out, HHI.out, HFE.out⟩, HB.out⟩
end Go.Proofs.Ytncnbfefciobcaa
end
