/- Lemmas for the law SystemChecks: Rd, AggB, ApiComp, ApiSyst. No conditions. -/
import Derived.Test.YtijeninfmjhbnaaDoorM01
import Derived.Deep.Slices
import Derived.OpenShut
import Derived.ChangeArms
/- Arguments of nested slices and structs, read whole. No function of the program is named here. -/
section
namespace Go.Proofs.YtijeninfmjhbnaaDoor
open Go.RowKit Go.ChangeShapes Go.WideShapes Go.Deep Go.Mem
set_option linter.unusedVariables false
/-- The elements of a slice whose elements take sz cells each; E says what lies at an element's address. -/
def SlAt {α : Type} (sz : Nat) (E : World → Addr → α → Prop) (w : World) (a : Option Addr) (l : List α) : Prop :=
  0 < l.length → ∃ x, a = some x ∧ x.block < w.heap.size ∧ ∀ i (h : i < l.length), E w (x.add (i * sz)) l[i]
/-- a fact that abides what lies beyond -/
def Abides {α : Type} (E : World → Addr → α → Prop) : Prop := ∀ w w' p y, E w p y → Below w.heap.size w w' → E w' p y
theorem SlAt.below {α : Type} {sz : Nat} {E : World → Addr → α → Prop} (hE : Abides E) {w w' : World} {a : Option Addr} {l : List α} (h : SlAt sz E w a l) (hb : Below w.heap.size w w') : SlAt sz E w' a l := fun h0 => by
  obtain ⟨x, h1, h2, h3⟩ := h h0
  exact ⟨x, h1, Nat.lt_of_lt_of_le h2 hb.size, fun i hi => hE _ _ _ _ (h3 i hi) hb⟩
theorem cell_abides {w w' : World} {p : Addr} {v : Value} (h : w.cell? p = some v) (hb : Below w.heap.size w w') : w'.cell? p = some v :=
  (hb.cell (World.block_lt_of_cell? _ _ h)).trans h
/-- the blocks from B on are as they were -/
def SameUp (B : Nat) (w w2 : World) : Prop := w.heap.size ≤ w2.heap.size ∧ ∀ g, B ≤ g → g < w.heap.size → w2.heap[g]? = w.heap[g]?
/-- R holds, and leans on the blocks from B on alone -/
def Up (B : Nat) (R : World → Prop) (w : World) : Prop := ∀ w2, SameUp B w w2 → R w2
theorem Up.now {B : Nat} {R : World → Prop} {w : World} (h : Up B R w) : R w := h w ⟨Nat.le_refl _, fun _ _ _ => rfl⟩
theorem Up.below {B : Nat} {R : World → Prop} {w w' : World} (h : Up B R w) (hb : Below w.heap.size w w') : Up B R w' := fun w2 hs => h w2 ⟨Nat.le_trans hb.size hs.1, fun g h1 h2 => (hs.2 g h1 (Nat.lt_of_lt_of_le h2 hb.size)).trans (hb.block g h2)⟩
theorem Up.lower {B C : Nat} {R : World → Prop} {w : World} (h : Up B R w) (hc : C ≤ B) : Up C R w := fun w2 hs => h w2 ⟨hs.1, fun g h1 h2 => hs.2 g (Nat.le_trans hc h1) h2⟩
theorem Up.set {B : Nat} {R : World → Prop} {w : World} (h : Up B R w) (p : Addr) (v : Value) (hp : p.block < B) : Up B R (w.setCell p v) := fun w2 hs => h w2 ⟨by simpa using hs.1, fun g h1 h2 => (hs.2 g h1 (by simpa using h2)).trans (Below.heap_setCell w p v g (by omega))⟩
theorem Up.grown {B : Nat} {R : World → Prop} {w w' : World} {row : Option Nat} (h : Up B R w) (hg : w.grownBy w' row) (hr : ∀ r, row = some r → r < B) : Up B R w' := fun w2 hs => h w2 ⟨Nat.le_trans hg.size hs.1, fun g h1 h2 => (hs.2 g h1 (Nat.lt_of_lt_of_le h2 hg.size)).trans (hg.block g h2 (fun e => by have := hr g e.symm; omega))⟩
theorem cell_same {w w2 : World} {p : Addr} (h : w2.heap[p.block]? = w.heap[p.block]?) : w2.cell? p = w.cell? p := by
  unfold World.cell?; rw [h]
theorem cell_up {B : Nat} {w w2 : World} {p : Addr} {v : Value} (hs : SameUp B w w2) (hp : B ≤ p.block) (h : w.cell? p = some v) : w2.cell? p = some v :=
  (cell_same (hs.2 _ hp (World.block_lt_of_cell? _ _ h))).trans h
theorem ints_up {B : Nat} {w w2 : World} {k : IntKind} {a : Option Addr} {zs : List Int} (hs : SameUp B w w2) (hp : ∀ x, a = some x → B ≤ x.block) (h : IntsAt k w a zs) : IntsAt k w2 a zs := fun h0 => by
  obtain ⟨x, e, h1, h2⟩ := h h0
  exact ⟨x, e, Nat.lt_of_lt_of_le h1 hs.1, fun i hi => cell_up hs (by rw [block_of_add]; exact hp x e) (h2 i hi)⟩
section
variable {H : Type} {enc : TypeId × Value → H} {P : Program} {w : World} {base : Nat} {spare : Nat → Bool} {held : Bool}
theorem bulk_range {D : Nat → DataW H} {α : Type} {cost : α → Nat} (n : Nat) (Y : Nat → α) (h : ∀ i, i < n → cost (Y i) ≤ Rows.uptoBulk (D i)) : (((List.range n).map Y).map cost).sum ≤ Rows.uptoBulkAll ((List.range n).map D) := by
  have key : ∀ l : List Nat, (∀ i ∈ l, i < n) → ((l.map Y).map cost).sum ≤ Rows.uptoBulkAll (l.map D) := by
    intro l
    induction l with
    | nil => intro _; simp [Rows.uptoBulkAll]
    | cons i r ih =>
      intro hl
      have h1 := h i (hl i List.mem_cons_self)
      have h2 := ih (fun j hj => hl j (List.mem_cons_of_mem _ hj))
      simp only [List.map_cons, List.sum_cons, Rows.uptoBulkAll]
      omega
  exact key _ fun i hi => List.mem_range.1 hi
theorem read_slice {α : Type} [Inhabited α] {t e : TypeId} {sz : Nat} {E : World → Addr → α → Prop} {cost : α → Nat} (ht : P.underlying t = some (.slice e)) (hs : P.cellsOf e = sz) (h0 : 0 < sz)
    (hE : ∀ (fuel : Nat) (cs : List Value) (x : DataW H × List MemPlace) (p : Addr), cs.length = sz → (∀ j, j < sz → w.cell? (p.add j) = cs[j]?) → DataW.trod enc P w base spare held fuel e cs = some x → ∃ y, E w p y ∧ cost y ≤ Rows.uptoBulk x.1)
    {fuel : Nat} {cs : List Value} {x : DataW H × List MemPlace} (h : DataW.trod enc P w base spare held fuel t cs = some x) :
    ∃ (a : Option Addr) (l : List α) (cap : Nat), cs = [.slice a l.length cap] ∧ l.length ≤ cap ∧ cap ≤ maxLen ∧ SlAt sz E w a l ∧ (l.map cost).sum + 1 ≤ Rows.uptoBulk x.1 := by
  rcases open_slice ht h with ⟨rfl, rfl⟩ | ⟨a, n, cap, m, n2, D, Pl, rfl, _, hl, hm, hmm, rfl, hi⟩
  · exact ⟨none, [], 0, rfl, Nat.le_refl _, Nat.zero_le _, fun hh => by simp at hh, by simp [Rows.uptoBulk]⟩
  · have hnm : n ≤ m := by rw [hmm]; split <;> omega
    have key : ∀ i, i < n → ∃ y, E w (a.add (i * sz)) y ∧ cost y ≤ Rows.uptoBulk (D i) := by
      intro i hin
      obtain ⟨cs', hc, htr⟩ := hi i (by omega)
      obtain ⟨_, hcl, hat⟩ := World.cells?_some hc
      rw [hs] at hcl hat
      exact hE _ cs' _ (a.add (i * sz)) hcl (fun j hj => hat j hj) htr
    obtain ⟨Y, hY⟩ := choose_lt key
    refine ⟨some a, (List.range n).map Y, cap, by simp, by simpa using hl, hm, fun hh => ?_, ?_⟩
    · rw [List.length_map, List.length_range] at hh
      refine ⟨a, rfl, ?_, fun i hi' => ?_⟩
      · obtain ⟨cs', hc, _⟩ := hi 0 (by omega)
        obtain ⟨_, hcl, hat⟩ := World.cells?_some hc
        have h1 := hat 0 (by rw [hs]; exact h0)
        rw [List.getElem?_eq_getElem (by rw [hcl, hs]; exact h0)] at h1
        have := World.block_lt_of_cell? _ _ h1
        simpa [block_of_add] using this
      · rw [List.length_map, List.length_range] at hi'
        simpa using (hY i hi').1
    · have := bulk_range n Y (fun i hi => (hY i hi).2)
      simp only [Rows.uptoBulk]
      omega
end
end Go.Proofs.YtijeninfmjhbnaaDoor
end
/- The bulk of a part of a struct. -/
section
namespace Go.Proofs.YtijeninfmjhbnaaDoor
open Go.RowKit Go.ChangeShapes Go.WideShapes Go.Deep Go.Mem
set_option linter.unusedVariables false
section
variable {H : Type} {enc : TypeId × Value → H} {w : World} {base : Nat} {spare : Nat → Bool} {held : Bool}
theorem agg_bulk {xs : List (DataW H × List MemPlace)} {i : Nat} {y : DataW H × List MemPlace} (h : xs[i]? = some y) : Rows.uptoBulk y.1 + 1 ≤ Rows.uptoBulk (.agg (xs.map (·.1))) := by
  have hm : y.1 ∈ xs.map (·.1) := List.mem_map.2 ⟨y, List.mem_of_getElem? h, rfl⟩
  have := Bulk.mem hm
  simp only [Rows.uptoBulk]
  omega
end
end Go.Proofs.YtijeninfmjhbnaaDoor
end
/- Components as they lie in memory. -/
section
namespace Go.Proofs.YtijeninfmjhbnaaDoor
open Go.RowKit Go.ChangeShapes Go.WideShapes Go.Deep Go.Mem
set_option linter.unusedVariables false
structure CompV where
  kind : Int
  vals : List Int
  deriving Inhabited, DecidableEq
/-- a component at an address: its cells, and its numbers -/
def CompAt (w : World) (p : Addr) (y : CompV) : Prop := w.cell? p = some (.int .i64 y.kind) ∧ ∃ a c, w.cell? ⟨p.block, p.off + 1, none⟩ = some (.slice a y.vals.length c) ∧ IntsAt .i64 w a y.vals
theorem CompAt.abides : Abides CompAt := fun w w' p y h hb => by
  obtain ⟨h1, a, c, h2, h3⟩ := h
  exact ⟨cell_abides h1 hb, a, c, cell_abides h2 hb, h3.below hb⟩
def costComp (y : CompV) : Nat := y.vals.length + 1
section
variable {H : Type} {enc : TypeId × Value → H} {w : World} {base : Nat} {spare : Nat → Bool} {held : Bool}
theorem int_cost : ∀ l : List Int, (l.map fun _ => 1).sum = l.length := fun l => by induction l with | nil => rfl | cons a l ih => simp [ih]; omega
/-- a slice of ints, as a list and a bulk -/
theorem read_ints {fuel : Nat} {cs : List Value} {x : DataW H × List MemPlace} (h : DataW.trod enc Tryd.prog w base spare held fuel 23 cs = some x) :
    ∃ (a : Option Addr) (l : List Int) (cap : Nat), cs = [.slice a l.length cap] ∧ l.length ≤ cap ∧ cap ≤ maxLen ∧ IntsAt .i64 w a l ∧ l.length + 1 ≤ Rows.uptoBulk x.1 := by
  obtain ⟨a, l, cap, h1, h2, h3, h4, h5⟩ := read_slice (E := fun w p (z : Int) => w.cell? p = some (.int .i64 z)) (cost := fun _ => 1) Tryd.underlying23 (show Tryd.prog.cellsOf 3 = 1 by kernel_rfl) (by decide) (fun fuel cs x p hl hc ht => by
    obtain ⟨z, rfl, rfl, _⟩ := DataW.trod_int Tryd.underlying3 ht
    refine ⟨z, by have := hc 0 (by decide); simpa [Addr.add] using this, by simp [Rows.uptoBulk]⟩) h
  refine ⟨a, l, cap, h1, h2, h3, ?_, by rw [int_cost] at h5; exact h5⟩
  intro h0
  obtain ⟨x, e, hx, hi⟩ := h4 h0
  refine ⟨x, e, hx, fun i hi' => ?_⟩
  have := hi i hi'
  rw [Nat.mul_one] at this
  rw [this, List.getD_eq_getElem?_getD, List.getElem?_eq_getElem hi']; rfl
set_option maxRecDepth 100000 in
theorem read_comp (fuel : Nat) (cs : List Value) (x : DataW H × List MemPlace) (p : Addr) (hl : cs.length = 2) (hc : ∀ j, j < 2 → w.cell? (p.add j) = cs[j]?) (ht : DataW.trod enc Tryd.prog w base spare held fuel 87 cs = some x) : ∃ y, CompAt w p y ∧ costComp y ≤ Rows.uptoBulk x.1 := by
  obtain ⟨xs, n, _, rfl, _, hxl, hf⟩ := DataW.trod_struct Tryd.underlying87 ht
  match cs, hl with
  | [v0, v1], _ =>
    have g0 : DataW.trod enc Tryd.prog w base spare held n 3 (([v0, v1].drop 0).take (Tryd.prog.cellsOf 3)) = xs[0]? := hf 0 _ rfl
    have g1 : DataW.trod enc Tryd.prog w base spare held n 23 (([v0, v1].drop 1).take (Tryd.prog.cellsOf 23)) = xs[1]? := hf 1 _ rfl
    rw [show Tryd.prog.cellsOf 3 = 1 by kernel_rfl] at g0
    rw [show Tryd.prog.cellsOf 23 = 1 by kernel_rfl] at g1
    match xs, hxl with
    | [y0, y1], _ =>
      obtain ⟨z, e0, _, _⟩ := DataW.trod_int Tryd.underlying3 (show DataW.trod enc Tryd.prog w base spare held n 3 [v0] = some y0 from g0)
      obtain ⟨a, l, cap, e1, _, _, h4, h5⟩ := read_ints (show DataW.trod enc Tryd.prog w base spare held n 23 [v1] = some y1 from g1)
      injection e0 with e0; injection e1 with e1
      subst e0 e1
      have c0 := hc 0 (by decide)
      have c1 := hc 1 (by decide)
      have hb : Rows.uptoBulk y1.1 + 1 ≤ Rows.uptoBulk (.agg ([y0, y1].map (·.1))) := agg_bulk (xs := [y0, y1]) (i := 1) (y := y1) rfl
      exact ⟨⟨z, l⟩, ⟨by simpa [Addr.add] using c0, a, cap, by simpa [Addr.add] using c1, h4⟩, by unfold costComp; simp only at hb ⊢; omega⟩
set_option maxRecDepth 100000 in
theorem read_comps {fuel : Nat} {cs : List Value} {x : DataW H × List MemPlace} (h : DataW.trod enc Tryd.prog w base spare held fuel 25 cs = some x) :
    ∃ (a : Option Addr) (l : List CompV) (cap : Nat), cs = [.slice a l.length cap] ∧ l.length ≤ cap ∧ cap ≤ maxLen ∧ SlAt 2 CompAt w a l ∧ (l.map costComp).sum + 1 ≤ Rows.uptoBulk x.1 :=
  read_slice Tryd.underlying25 (by kernel_rfl) (by decide) read_comp h
end
end Go.Proofs.YtijeninfmjhbnaaDoor
end
/- Systems as they lie in memory, whole: names, lists of kinds, operations, components. -/
section
namespace Go.Proofs.YtijeninfmjhbnaaDoor
open Go.RowKit Go.ChangeShapes Go.WideShapes Go.Deep Go.Mem
set_option linter.unusedVariables false
structure ArgV where
  has : Bool
  n : Int
  rk : Int
  rf : Int
  deriving Inhabited, DecidableEq
structure OpV where
  do_ : Int
  tk : Int
  tf : Int
  a : ArgV
  b : ArgV
  deriving Inhabited, DecidableEq
structure SystV where
  name : ByteArray
  withs : List Int
  without : List Int
  reads : List Int
  writes : List Int
  ops : List OpV
  spawn : List CompV
  deriving Inhabited, DecidableEq
abbrev argA (x : ArgV) : Value := .agg #[.bool x.has, .int .i64 x.n, .int .i64 x.rk, .int .i64 x.rf]
abbrev opA (y : OpV) : Value := .agg #[.int .i64 y.do_, .int .i64 y.tk, .int .i64 y.tf, .bool y.a.has, .int .i64 y.a.n, .int .i64 y.a.rk, .int .i64 y.a.rf, .bool y.b.has, .int .i64 y.b.n, .int .i64 y.b.rk, .int .i64 y.b.rf]
def ArgAt (w : World) (p : Addr) (x : ArgV) : Prop := w.cell? p = some (.bool x.has) ∧ w.cell? ⟨p.block, p.off + 1, none⟩ = some (.int .i64 x.n) ∧ w.cell? ⟨p.block, p.off + 2, none⟩ = some (.int .i64 x.rk) ∧ w.cell? ⟨p.block, p.off + 3, none⟩ = some (.int .i64 x.rf)
def OpAt (w : World) (p : Addr) (y : OpV) : Prop := (w.cell? p = some (.int .i64 y.do_) ∧ w.cell? ⟨p.block, p.off + 1, none⟩ = some (.int .i64 y.tk) ∧ w.cell? ⟨p.block, p.off + 2, none⟩ = some (.int .i64 y.tf)) ∧
  (w.cell? ⟨p.block, p.off + 3, none⟩ = some (.bool y.a.has) ∧ w.cell? ⟨p.block, p.off + 4, none⟩ = some (.int .i64 y.a.n) ∧ w.cell? ⟨p.block, p.off + 5, none⟩ = some (.int .i64 y.a.rk) ∧ w.cell? ⟨p.block, p.off + 6, none⟩ = some (.int .i64 y.a.rf)) ∧
  (w.cell? ⟨p.block, p.off + 7, none⟩ = some (.bool y.b.has) ∧ w.cell? ⟨p.block, p.off + 8, none⟩ = some (.int .i64 y.b.n) ∧ w.cell? ⟨p.block, p.off + 9, none⟩ = some (.int .i64 y.b.rk) ∧ w.cell? ⟨p.block, p.off + 10, none⟩ = some (.int .i64 y.b.rf))
theorem OpAt.abides : Abides OpAt := fun w w' p y h hb => by
  obtain ⟨⟨h0, h1, h2⟩, ⟨h3, h4, h5, h6⟩, h7, h8, h9, h10⟩ := h
  exact ⟨⟨cell_abides h0 hb, cell_abides h1 hb, cell_abides h2 hb⟩, ⟨cell_abides h3 hb, cell_abides h4 hb, cell_abides h5 hb, cell_abides h6 hb⟩, cell_abides h7 hb, cell_abides h8 hb, cell_abides h9 hb, cell_abides h10 hb⟩
/-- a system as a value -/
structure SystIn (w : World) (v : Value) (y : SystV) : Prop where
  out : ∃ a1 c1 a2 c2 a3 c3 a4 c4 a5 c5 a6 c6, v = .agg #[.string y.name, .slice a1 y.withs.length c1, .slice a2 y.without.length c2, .slice a3 y.reads.length c3, .slice a4 y.writes.length c4, .slice a5 y.ops.length c5, .slice a6 y.spawn.length c6] ∧
    (IntsAt .i64 w a1 y.withs ∧ IntsAt .i64 w a2 y.without ∧ IntsAt .i64 w a3 y.reads ∧ IntsAt .i64 w a4 y.writes ∧ SlAt 11 OpAt w a5 y.ops ∧ SlAt 2 CompAt w a6 y.spawn) ∧
    (y.withs.length ≤ c1 ∧ y.without.length ≤ c2 ∧ y.reads.length ≤ c3 ∧ y.writes.length ≤ c4 ∧ y.ops.length ≤ c5 ∧ y.spawn.length ≤ c6) ∧ (c1 ≤ maxLen ∧ c2 ≤ maxLen ∧ c3 ≤ maxLen ∧ c4 ≤ maxLen ∧ c5 ≤ maxLen ∧ c6 ≤ maxLen) ∧ y.name.size ≤ maxLen
theorem SystIn.below {w w' : World} {v : Value} {y : SystV} (h : SystIn w v y) (hb : Below w.heap.size w w') : SystIn w' v y := by
  obtain ⟨a1, c1, a2, c2, a3, c3, a4, c4, a5, c5, a6, c6, rfl, ⟨h1, h2, h3, h4, h5, h6⟩, h7⟩ := h.out
  exact ⟨a1, c1, a2, c2, a3, c3, a4, c4, a5, c5, a6, c6, rfl, ⟨h1.below hb, h2.below hb, h3.below hb, h4.below hb, h5.below OpAt.abides hb, h6.below CompAt.abides hb⟩, h7⟩
def costOp (_ : OpV) : Nat := 1
def costSyst (y : SystV) : Nat := y.name.size + y.withs.length + y.without.length + y.reads.length + y.writes.length + y.ops.length + (y.spawn.map costComp).sum
section
variable {H : Type} {enc : TypeId × Value → H} {w : World} {base : Nat} {spare : Nat → Bool} {held : Bool}
set_option maxRecDepth 100000 in
theorem read_ref (fuel : Nat) (v0 v1 : Value) (x : DataW H × List MemPlace) (ht : DataW.trod enc Tryd.prog w base spare held fuel 53 [v0, v1] = some x) : ∃ k f : Int, v0 = .int .i64 k ∧ v1 = .int .i64 f := by
  obtain ⟨xs, n, _, rfl, _, hxl, hf⟩ := DataW.trod_struct Tryd.underlying53 ht
  have g0 : DataW.trod enc Tryd.prog w base spare held n 3 (([v0, v1].drop 0).take (Tryd.prog.cellsOf 3)) = xs[0]? := hf 0 _ rfl
  have g1 : DataW.trod enc Tryd.prog w base spare held n 3 (([v0, v1].drop 1).take (Tryd.prog.cellsOf 3)) = xs[1]? := hf 1 _ rfl
  rw [show Tryd.prog.cellsOf 3 = 1 by kernel_rfl] at g0 g1
  match xs, hxl with
  | [y0, y1], _ =>
    obtain ⟨k, e0, _, _⟩ := DataW.trod_int Tryd.underlying3 (show DataW.trod enc Tryd.prog w base spare held n 3 [v0] = some y0 from g0)
    obtain ⟨f, e1, _, _⟩ := DataW.trod_int Tryd.underlying3 (show DataW.trod enc Tryd.prog w base spare held n 3 [v1] = some y1 from g1)
    injection e0 with e0; injection e1 with e1
    exact ⟨k, f, e0, e1⟩
set_option maxRecDepth 100000 in
theorem read_arg (fuel : Nat) (v0 v1 v2 v3 : Value) (x : DataW H × List MemPlace) (ht : DataW.trod enc Tryd.prog w base spare held fuel 55 [v0, v1, v2, v3] = some x) : ∃ y : ArgV, v0 = .bool y.has ∧ v1 = .int .i64 y.n ∧ v2 = .int .i64 y.rk ∧ v3 = .int .i64 y.rf := by
  obtain ⟨xs, n, _, rfl, _, hxl, hf⟩ := DataW.trod_struct Tryd.underlying55 ht
  have g0 : DataW.trod enc Tryd.prog w base spare held n 4 (([v0, v1, v2, v3].drop 0).take (Tryd.prog.cellsOf 4)) = xs[0]? := hf 0 _ rfl
  have g1 : DataW.trod enc Tryd.prog w base spare held n 3 (([v0, v1, v2, v3].drop 1).take (Tryd.prog.cellsOf 3)) = xs[1]? := hf 1 _ rfl
  have g2 : DataW.trod enc Tryd.prog w base spare held n 53 (([v0, v1, v2, v3].drop 2).take (Tryd.prog.cellsOf 53)) = xs[2]? := hf 2 _ rfl
  rw [show Tryd.prog.cellsOf 4 = 1 by kernel_rfl] at g0
  rw [show Tryd.prog.cellsOf 3 = 1 by kernel_rfl] at g1
  rw [show Tryd.prog.cellsOf 53 = 2 by kernel_rfl] at g2
  match xs, hxl with
  | [y0, y1, y2], _ =>
    obtain ⟨h, e0, _⟩ := DataW.trod_bool Tryd.underlying4 (show DataW.trod enc Tryd.prog w base spare held n 4 [v0] = some y0 from g0)
    obtain ⟨k, e1, _, _⟩ := DataW.trod_int Tryd.underlying3 (show DataW.trod enc Tryd.prog w base spare held n 3 [v1] = some y1 from g1)
    obtain ⟨r, f, e2, e3⟩ := read_ref n v2 v3 y2 (show DataW.trod enc Tryd.prog w base spare held n 53 [v2, v3] = some y2 from g2)
    injection e0 with e0; injection e1 with e1
    exact ⟨⟨h, k, r, f⟩, e0, e1, e2, e3⟩
set_option maxRecDepth 100000 in
theorem read_op (fuel : Nat) (cs : List Value) (x : DataW H × List MemPlace) (p : Addr) (hl : cs.length = 11) (hc : ∀ j, j < 11 → w.cell? (p.add j) = cs[j]?) (ht : DataW.trod enc Tryd.prog w base spare held fuel 57 cs = some x) : ∃ y, OpAt w p y ∧ costOp y ≤ Rows.uptoBulk x.1 := by
  obtain ⟨xs, n, _, rfl, _, hxl, hf⟩ := DataW.trod_struct Tryd.underlying57 ht
  match cs, hl with
  | [v0, v1, v2, v3, v4, v5, v6, v7, v8, v9, v10], _ =>
    have g0 : DataW.trod enc Tryd.prog w base spare held n 3 (([v0, v1, v2, v3, v4, v5, v6, v7, v8, v9, v10].drop 0).take (Tryd.prog.cellsOf 3)) = xs[0]? := hf 0 _ rfl
    have g1 : DataW.trod enc Tryd.prog w base spare held n 53 (([v0, v1, v2, v3, v4, v5, v6, v7, v8, v9, v10].drop 1).take (Tryd.prog.cellsOf 53)) = xs[1]? := hf 1 _ rfl
    have g2 : DataW.trod enc Tryd.prog w base spare held n 55 (([v0, v1, v2, v3, v4, v5, v6, v7, v8, v9, v10].drop 3).take (Tryd.prog.cellsOf 55)) = xs[2]? := hf 2 _ rfl
    have g3 : DataW.trod enc Tryd.prog w base spare held n 55 (([v0, v1, v2, v3, v4, v5, v6, v7, v8, v9, v10].drop 7).take (Tryd.prog.cellsOf 55)) = xs[3]? := hf 3 _ rfl
    rw [show Tryd.prog.cellsOf 3 = 1 by kernel_rfl] at g0
    rw [show Tryd.prog.cellsOf 53 = 2 by kernel_rfl] at g1
    rw [show Tryd.prog.cellsOf 55 = 4 by kernel_rfl] at g2 g3
    match xs, hxl with
    | [y0, y1, y2, y3], _ =>
      obtain ⟨d, e0, _, _⟩ := DataW.trod_int Tryd.underlying3 (show DataW.trod enc Tryd.prog w base spare held n 3 [v0] = some y0 from g0)
      obtain ⟨tk, tf, e1, e2⟩ := read_ref n v1 v2 y1 (show DataW.trod enc Tryd.prog w base spare held n 53 [v1, v2] = some y1 from g1)
      obtain ⟨a, a0, a1, a2, a3⟩ := read_arg n v3 v4 v5 v6 y2 (show DataW.trod enc Tryd.prog w base spare held n 55 [v3, v4, v5, v6] = some y2 from g2)
      obtain ⟨b, b0, b1, b2, b3⟩ := read_arg n v7 v8 v9 v10 y3 (show DataW.trod enc Tryd.prog w base spare held n 55 [v7, v8, v9, v10] = some y3 from g3)
      injection e0 with e0
      subst e0 e1 e2 a0 a1 a2 a3 b0 b1 b2 b3
      have c0 := hc 0 (by decide)
      have c1 := hc 1 (by decide)
      have c2 := hc 2 (by decide)
      have c3 := hc 3 (by decide)
      have c4 := hc 4 (by decide)
      have c5 := hc 5 (by decide)
      have c6 := hc 6 (by decide)
      have c7 := hc 7 (by decide)
      have c8 := hc 8 (by decide)
      have c9 := hc 9 (by decide)
      have c10 := hc 10 (by decide)
      exact ⟨⟨d, tk, tf, a, b⟩, ⟨⟨by simpa [Addr.add] using c0, by simpa [Addr.add] using c1, by simpa [Addr.add] using c2⟩, ⟨by simpa [Addr.add] using c3, by simpa [Addr.add] using c4, by simpa [Addr.add] using c5, by simpa [Addr.add] using c6⟩, by simpa [Addr.add] using c7, by simpa [Addr.add] using c8, by simpa [Addr.add] using c9, by simpa [Addr.add] using c10⟩, Bulk.one_le _⟩
set_option maxRecDepth 100000 in
theorem read_ops {fuel : Nat} {cs : List Value} {x : DataW H × List MemPlace} (h : DataW.trod enc Tryd.prog w base spare held fuel 24 cs = some x) :
    ∃ (a : Option Addr) (l : List OpV) (cap : Nat), cs = [.slice a l.length cap] ∧ l.length ≤ cap ∧ cap ≤ maxLen ∧ SlAt 11 OpAt w a l ∧ (l.map costOp).sum + 1 ≤ Rows.uptoBulk x.1 :=
  read_slice Tryd.underlying24 (by kernel_rfl) (by decide) read_op h
theorem op_cost : ∀ l : List OpV, (l.map costOp).sum = l.length := fun l => by induction l with | nil => rfl | cons a l ih => simp [ih, costOp]; omega
set_option maxRecDepth 100000 in
theorem read_syst {fuel : Nat} {cs : List Value} {x : DataW H × List MemPlace} (hl : cs.length = 7) (ht : DataW.trod enc Tryd.prog w base spare held fuel 27 cs = some x) : ∃ y : SystV, SystIn w (.agg cs.toArray) y ∧ costSyst y ≤ Rows.uptoBulk x.1 := by
  obtain ⟨xs, n, _, rfl, _, hxl, hf⟩ := DataW.trod_struct Tryd.underlying27 ht
  match cs, hl with
  | [v0, v1, v2, v3, v4, v5, v6], _ =>
    have g0 : DataW.trod enc Tryd.prog w base spare held n 9 (([v0, v1, v2, v3, v4, v5, v6].drop 0).take (Tryd.prog.cellsOf 9)) = xs[0]? := hf 0 _ rfl
    have g1 : DataW.trod enc Tryd.prog w base spare held n 23 (([v0, v1, v2, v3, v4, v5, v6].drop 1).take (Tryd.prog.cellsOf 23)) = xs[1]? := hf 1 _ rfl
    have g2 : DataW.trod enc Tryd.prog w base spare held n 23 (([v0, v1, v2, v3, v4, v5, v6].drop 2).take (Tryd.prog.cellsOf 23)) = xs[2]? := hf 2 _ rfl
    have g3 : DataW.trod enc Tryd.prog w base spare held n 23 (([v0, v1, v2, v3, v4, v5, v6].drop 3).take (Tryd.prog.cellsOf 23)) = xs[3]? := hf 3 _ rfl
    have g4 : DataW.trod enc Tryd.prog w base spare held n 23 (([v0, v1, v2, v3, v4, v5, v6].drop 4).take (Tryd.prog.cellsOf 23)) = xs[4]? := hf 4 _ rfl
    have g5 : DataW.trod enc Tryd.prog w base spare held n 24 (([v0, v1, v2, v3, v4, v5, v6].drop 5).take (Tryd.prog.cellsOf 24)) = xs[5]? := hf 5 _ rfl
    have g6 : DataW.trod enc Tryd.prog w base spare held n 25 (([v0, v1, v2, v3, v4, v5, v6].drop 6).take (Tryd.prog.cellsOf 25)) = xs[6]? := hf 6 _ rfl
    rw [show Tryd.prog.cellsOf 9 = 1 by kernel_rfl] at g0
    rw [show Tryd.prog.cellsOf 23 = 1 by kernel_rfl] at g1 g2 g3 g4
    rw [show Tryd.prog.cellsOf 24 = 1 by kernel_rfl] at g5
    rw [show Tryd.prog.cellsOf 25 = 1 by kernel_rfl] at g6
    match xs, hxl with
    | [y0, y1, y2, y3, y4, y5, y6], _ =>
      obtain ⟨s0, e0, z0, k0⟩ := DataW.trod_string Tryd.underlying9 (show DataW.trod enc Tryd.prog w base spare held n 9 [v0] = some y0 from g0)
      obtain ⟨a1, l1, c1, e1, p1, q1, h1, b1⟩ := read_ints (show DataW.trod enc Tryd.prog w base spare held n 23 [v1] = some y1 from g1)
      obtain ⟨a2, l2, c2, e2, p2, q2, h2, b2⟩ := read_ints (show DataW.trod enc Tryd.prog w base spare held n 23 [v2] = some y2 from g2)
      obtain ⟨a3, l3, c3, e3, p3, q3, h3, b3⟩ := read_ints (show DataW.trod enc Tryd.prog w base spare held n 23 [v3] = some y3 from g3)
      obtain ⟨a4, l4, c4, e4, p4, q4, h4, b4⟩ := read_ints (show DataW.trod enc Tryd.prog w base spare held n 23 [v4] = some y4 from g4)
      obtain ⟨a5, l5, c5, e5, p5, q5, h5, b5⟩ := read_ops (show DataW.trod enc Tryd.prog w base spare held n 24 [v5] = some y5 from g5)
      obtain ⟨a6, l6, c6, e6, p6, q6, h6, b6⟩ := read_comps (show DataW.trod enc Tryd.prog w base spare held n 25 [v6] = some y6 from g6)
      injection e0 with e0; injection e1 with e1; injection e2 with e2; injection e3 with e3; injection e4 with e4; injection e5 with e5; injection e6 with e6
      subst e0 e1 e2 e3 e4 e5 e6
      have hs : Rows.uptoBulk y0.1 = s0.size + 1 := by rw [z0]; simp only [Rows.uptoBulk]; rfl
      rw [op_cost] at b5
      simp only [List.map_cons, List.map_nil, Rows.uptoBulk, Rows.uptoBulkAll]
      refine ⟨⟨s0, l1, l2, l3, l4, l5, l6⟩, ⟨a1, c1, a2, c2, a3, c3, a4, c4, a5, c5, a6, c6, rfl, ⟨h1, h2, h3, h4, h5, h6⟩, ⟨p1, p2, p3, p4, p5, p6⟩, ⟨q1, q2, q3, q4, q5, q6⟩, k0⟩, ?_⟩
      unfold costSyst
      simp only
      omega
end
end Go.Proofs.YtijeninfmjhbnaaDoor
end
