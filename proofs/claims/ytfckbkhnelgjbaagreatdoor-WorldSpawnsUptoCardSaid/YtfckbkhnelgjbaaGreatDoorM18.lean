/- Lemmas for the law WorldSpawns: OutB, RegOut, CopyC, CloneN. No conditions. -/
import Derived.Test.YtfckbkhnelgjbaaGreatDoorM01
import Derived.Test.YtfckbkhnelgjbaaGreatDoorRows
import Derived.Deep.DeepMust
import Derived.Test.YtfckbkhnelgjbaaGreatDoorM05
import Derived.Test.YtfckbkhnelgjbaaGreatDoorM03
import Derived.Test.YtfckbkhnelgjbaaGreatDoorM07
import Derived.Test.YtfckbkhnelgjbaaGreatDoorM02
import Derived.Deep.LoopGhost
import Derived.Test.YtfckbkhnelgjbaaGreatDoorM06
import Derived.Shelf.Abstract
import Derived.Deep.AppendSrc
import Derived.Lib.AppendZeros
/- A boxed slice of ints that grows by append: the variable in block X, its row in a block of its own. -/
section
namespace Go.Proofs.YtfckbkhnelgjbaaGreatDoor
open Go.ChangeShapes Go.WideShapes Go.ChangeAt Go.RowKit Go.Mem
set_option linter.unusedVariables false
/-- the variable in block X holds v, and v is the call's own row of these numbers; all that turns lies at or beyond B -/
structure OutV (w : World) (B X : Nat) (v : Value) (L : List Int) : Prop where
  le : B ≤ X
  box : w.heap[X]? = some (.cells #[v] 23 (0, 0))
  row : w.ownsRow B 3 1 v L.length (vints .i64 L)
/-- nothing has turned but block X and rows of ints at or beyond B -/
structure FrX (B X : Nat) (w w' : World) : Prop where
  bel : Below B w w'
  far : ∀ (k : Nat) (cs : Array Value) (t : TypeId) (fr : Nat × Nat), w.heap[k]? = some (.cells cs t fr) → t ≠ 3 → k ≠ X → w'.heap[k]? = some (.cells cs t fr)
theorem FrX.refl (B X : Nat) (w : World) : FrX B X w w := ⟨Below.refl _ _, fun k cs t fr h _ _ => h⟩
theorem FrX.trans {B X : Nat} {a b c : World} (h : FrX B X a b) (h2 : FrX B X b c) : FrX B X a c := ⟨h.bel.trans h2.bel, fun k cs t fr h3 h4 h5 => h2.far k cs t fr (h.far k cs t fr h3 h4 h5) h4 h5⟩
theorem FrX.below {B X : Nat} {a b c : World} (h : FrX B X a b) (hB : B ≤ a.heap.size) (hb : Below b.heap.size b c) : FrX B X a c :=
  ⟨h.bel.trans (hb.mono (Nat.le_trans hB h.bel.size)), fun k cs t fr h3 h4 h5 => heap_below (h.far k cs t fr h3 h4 h5) hb⟩
theorem FrX.of_below {B X : Nat} {a b : World} (hB : B ≤ a.heap.size) (hb : Below a.heap.size a b) : FrX B X a b := (FrX.refl B X a).below hB hb
theorem FrX.low {B X N : Nat} {a b : World} {o : Obj} (h : FrX B X a b) (hN : N < B) (hr : a.heap[N]? = some o) : b.heap[N]? = some o := (h.bel.block N hN).trans hr
theorem OutV.cell {w : World} {B X : Nat} {v : Value} {L : List Int} (h : OutV w B X v L) : w.cell? ⟨X, 0, none⟩ = some v := cell_of_row _ _ 0 _ _ _ h.box
theorem OutV.lt {w : World} {B X : Nat} {v : Value} {L : List Int} (h : OutV w B X v L) : X < w.heap.size := lt_of_heap h.box
theorem OutV.ble {w : World} {B X : Nat} {v : Value} {L : List Int} (h : OutV w B X v L) : B ≤ w.heap.size := Nat.le_trans h.le (Nat.le_of_lt h.lt)
theorem OutV.free {w : World} {B X : Nat} {v : Value} {L : List Int} (h : OutV w B X v L) : w.frozen? ⟨X, 0, none⟩ = false := Mem.frozen_of_row h.box 0
theorem OutV.below {w w' : World} {B X : Nat} {v : Value} {L : List Int} (h : OutV w B X v L) (hb : Below w.heap.size w w') : OutV w' B X v L := ⟨h.le, heap_below h.box hb, own_below h.row hb⟩
theorem OutV.one {w : World} {B X : Nat} {v : Value} {L : List Int} (h : OutV w B X v L) : v.oneCell' = true ∧ v.cells = #[v] := by
  rcases h.row.2 with ⟨rfl, _⟩ | ⟨g, cap, cur, rfl, _⟩
  · exact ⟨rfl, rfl⟩
  · exact ⟨rfl, rfl⟩
theorem OutV.len {w : World} {B X : Nat} {v : Value} {L : List Int} (h : OutV w B X v L) : ∃ a c, v = .slice a L.length c := by
  rcases h.row.2 with ⟨rfl, h0⟩ | ⟨g, cap, cur, rfl, _⟩
  · exact ⟨none, 0, by rw [h0]⟩
  · exact ⟨_, _, rfl⟩
theorem OutV.ints {w : World} {B X : Nat} {v : Value} {L : List Int} (h : OutV w B X v L) : ∃ a c, v = .slice a L.length c ∧ IntsAt .i64 w a L := by
  obtain ⟨a, c, rfl⟩ := h.len
  exact ⟨a, c, rfl, IntsAt.of_own h.row rfl⟩
/-- the row's block is a block of ints at or beyond B -/
theorem OutV.own {w : World} {B X : Nat} {v : Value} {L : List Int} (h : OutV w B X v L) (g : Nat) (hv : v.ownBlock = some g) : B ≤ g ∧ g < w.heap.size ∧ ∃ cs fr, w.heap[g]? = some (.cells cs 3 fr) := by
  rcases h.row.2 with ⟨rfl, _⟩ | ⟨g', cap, cur, rfl, hb, hh, _⟩
  · cases hv
  · injection hv with hv
    have hv : g' = g := hv
    subst hv
    exact ⟨hb, lt_of_heap hh, _, _, hh⟩
theorem int_ne {w : World} {X g : Nat} {v : Value} {cs : Array Value} {fr : Nat × Nat} (hX : w.heap[X]? = some (.cells #[v] 23 (0, 0))) (hg : w.heap[g]? = some (.cells cs 3 fr)) : g ≠ X := fun e => by
  subst e
  rw [hX] at hg
  injection hg with hg
  injection hg with _ h7 _
  exact absurd h7 (by decide)
theorem new_ints1 (w : World) (a : Int) : IntsAt .i64 (w.alloc (.cells #[.int .i64 a] 3 (0, 0))) (some ⟨w.heap.size, 0, none⟩) [a] := RowB.ints (k := .i64) (zs := [a]) (heap_alloc_new w _)
theorem new_ints2 (w : World) (a b : Int) : IntsAt .i64 (w.alloc (.cells #[.int .i64 a, .int .i64 b] 3 (0, 0))) (some ⟨w.heap.size, 0, none⟩) [a, b] := RowB.ints (k := .i64) (zs := [a, b]) (heap_alloc_new w _)
theorem new_ints3 (w : World) (a b c : Int) : IntsAt .i64 (w.alloc (.cells #[.int .i64 a, .int .i64 b, .int .i64 c] 3 (0, 0))) (some ⟨w.heap.size, 0, none⟩) [a, b, c] := RowB.ints (k := .i64) (zs := [a, b, c]) (heap_alloc_new w _)
/-- as FrX, and block X too is as it was -/
structure FrY (B X : Nat) (w w' : World) : Prop where
  fr : FrX B X w w'
  box : ∀ o, w.heap[X]? = some o → w'.heap[X]? = some o
theorem FrY.refl (B X : Nat) (w : World) : FrY B X w w := ⟨FrX.refl _ _ _, fun o h => h⟩
theorem FrY.trans {B X : Nat} {a b c : World} (h : FrY B X a b) (h2 : FrY B X b c) : FrY B X a c := ⟨h.fr.trans h2.fr, fun o ho => h2.box o (h.box o ho)⟩
theorem FrY.of_below {B X : Nat} {a b : World} (hB : B ≤ a.heap.size) (hb : Below a.heap.size a b) : FrY B X a b := ⟨FrX.of_below hB hb, fun o ho => heap_below ho hb⟩
theorem FrY.drew (B X : Nat) (w : World) : FrY B X w w.drew := ⟨⟨(Below.refl _ _).drew, fun k cs t fr h _ _ => h⟩, fun o h => h⟩
theorem row_own {w : World} {B n : Nat} {v : Value} {xs : List Value} (h : w.ownsRow B 3 1 v n xs) (g : Nat) (hv : v.ownBlock = some g) : B ≤ g ∧ g < w.heap.size ∧ ∃ cs fr, w.heap[g]? = some (.cells cs 3 fr) := by
  rcases h.2 with ⟨rfl, _⟩ | ⟨g', cap, cur, rfl, hb, hh, _⟩
  · cases hv
  · injection hv with hv
    have hv : g' = g := hv
    subst hv
    exact ⟨hb, lt_of_heap hh, _, _, hh⟩
theorem own_frY {w w' : World} {B X n : Nat} {u v : Value} {xs : List Value} (hB : B ≤ w.heap.size) (hbox : w.heap[X]? = some (.cells #[u] 23 (0, 0))) (h : w.ownsRow B 3 1 v n xs) (hg : w.grownBy w' v.ownBlock) : FrY B X w w' := by
  refine ⟨⟨⟨hg.os, hg.tape, hg.output, hg.size, fun k hk => ?_⟩, fun k cs t fr h3 h4 h5 => ?_⟩, fun o ho => (hg.block X (lt_of_heap hbox) (fun e => ?_)).trans ho⟩
  · exact hg.block k (Nat.lt_of_lt_of_le hk hB) (fun e => by have := (row_own h k e.symm).1; omega)
  · refine (hg.block k (lt_of_heap h3) (fun e => ?_)).trans h3
    obtain ⟨_, _, cs2, fr2, h6⟩ := row_own h k e.symm
    rw [h3] at h6
    injection h6 with h6
    injection h6 with _ h7 _
    exact h4 h7
  · obtain ⟨_, _, cs, fr, h6⟩ := row_own h X e.symm
    exact int_ne hbox h6 rfl
/-- .. and the store into the variable -/
theorem out_store {w w2 : World} {B X : Nat} {v v' : Value} {L : List Int} (hle : B ≤ X) (hb : w.heap[X]? = some (.cells #[v] 23 (0, 0))) (hown : w.ownsRow B 3 1 v' L.length (vints .i64 L)) (hput : Put w w2 X 23 v') : OutV w2 B X v' L ∧ FrX B X w w2 := by
  refine ⟨⟨hle, hput.here, own_keep hown (fun g hg => ?_)⟩, ⟨hput.below hle, fun k cs t fr h3 h4 h5 => (hput.else_ k h5).trans h3⟩⟩
  refine hput.else_ g ?_
  rcases hown.2 with ⟨rfl, _⟩ | ⟨g', cap, cur, rfl, _, hh, _⟩
  · cases hg
  · injection hg with hg
    have hg : g' = g := hg
    subst hg
    exact int_ne hb hh
/-- both, in the walk: the variable holds u, the row that grows is v -/
theorem wpList_out2 {w : World} {ops : Array Oper} {rest : List Oper} {o o2 : Oper} {a : Act} {Q : Exit → Act → World → Prop} (hgd : o.guard = none) (s x : Operand)
    (ho : o.op = .call { callee := .builtin .append, args := #[s, x], argTypes := #[23, 23] }) (hgd2 : o2.guard = none) (p y : Operand) (ho2 : o2.op = .store 23 p y)
    (B X : Nat) (u v : Value) (L : List Int) (hs : a.eval s = v) (hle : B ≤ X) (hbox : w.heap[X]? = some (.cells #[u] 23 (0, 0))) (hrow : w.ownsRow B 3 1 v L.length (vints .i64 L)) (A : Option Addr) (m c : Nat) (zs : List Int) (hx : a.eval x = .slice A m c) (hm : zs.length = m) (hr : IntsAt .i64 w A zs)
    (hn : (L.length + m) * 8 ≤ 140737488355328) (hp : ∀ u, (a.put o.dst u).eval p = .pointer (some ⟨X, 0, none⟩)) (hy : ∀ u, (a.put o.dst u).eval y = u)
    (hK : ∀ v2 w2, OutV w2 B X v2 (L ++ zs) → FrX B X w w2 → wpList Tryz.prog ops Q rest ((a.put o.dst v2).put o2.dst undef) w2) : wpList Tryz.prog ops Q (o :: o2 :: rest) a w := by
  have hBw : B ≤ w.heap.size := Nat.le_trans hle (Nat.le_of_lt (lt_of_heap hbox))
  refine wpList_append_ints hgd s x 23 ho B 3 .i64 8 Tryz.underlying23 (by kernel_rfl) v L.length L hs hrow A m c zs hx hm hr (by unfold maxLen; omega) hn hBw fun v' w' hown hg hor => ?_
  rw [← hm] at hown
  have hfr := own_frY hBw hbox hrow hg
  have hb := hfr.box _ hbox
  have hown2 : w'.ownsRow B 3 1 v' (L ++ zs).length (vints .i64 (L ++ zs)) := by rw [List.length_append]; exact hown
  have hone : v'.oneCell' = true ∧ v'.cells = #[v'] := by
    rcases hown.2 with ⟨rfl, _⟩ | ⟨g, cap, cur, rfl, _⟩
    · exact ⟨rfl, rfl⟩
    · exact ⟨rfl, rfl⟩
  refine wpList_store_var hgd2 23 p y ho2 X v' (hp v') (hy v') hone.2 hone.1 23 u hb (by kernel_rfl) fun w2 hput => ?_
  obtain ⟨h1, h2⟩ := out_store hle hb hown2 hput
  exact hK v' w2 h1 (hfr.fr.trans h2)
theorem wpList_out {w : World} {ops : Array Oper} {rest : List Oper} {o o2 : Oper} {a : Act} {Q : Exit → Act → World → Prop} (hgd : o.guard = none) (s x : Operand)
    (ho : o.op = .call { callee := .builtin .append, args := #[s, x], argTypes := #[23, 23] }) (hgd2 : o2.guard = none) (p y : Operand) (ho2 : o2.op = .store 23 p y)
    (B X : Nat) (v : Value) (L : List Int) (hs : a.eval s = v) (h : OutV w B X v L) (A : Option Addr) (m c : Nat) (zs : List Int) (hx : a.eval x = .slice A m c) (hm : zs.length = m) (hr : IntsAt .i64 w A zs)
    (hn : (L.length + m) * 8 ≤ 140737488355328) (hp : ∀ u, (a.put o.dst u).eval p = .pointer (some ⟨X, 0, none⟩)) (hy : ∀ u, (a.put o.dst u).eval y = u)
    (hK : ∀ v2 w2, OutV w2 B X v2 (L ++ zs) → FrX B X w w2 → wpList Tryz.prog ops Q rest ((a.put o.dst v2).put o2.dst undef) w2) : wpList Tryz.prog ops Q (o :: o2 :: rest) a w :=
  wpList_out2 hgd s x ho hgd2 p y ho2 B X v v L hs h.le h.box h.row A m c zs hx hm hr hn hp hy hK
end Go.Proofs.YtfckbkhnelgjbaaGreatDoor
end
/- Drawn regions that append to a boxed slice of ints twice: the relations of worlds. -/
section
namespace Go.Proofs.YtfckbkhnelgjbaaGreatDoor
open Go.ChangeShapes Go.WideShapes Go.ChangeAt Go.RowKit Go.Mem
set_option linter.unusedVariables false
/-- what operation i does: the append (q) writes its row, the others only lay blocks -/
def RI (B X q : Nat) (row : Option Nat) (i : Nat) (a b : World) : Prop := (i ≠ q → Below a.heap.size a b) ∧ (i = q → a.grownBy b row) ∧ FrY B X a b
theorem RI.same (B X q : Nat) (row : Option Nat) (i : Nat) (w : World) : RI B X q row i w w := ⟨fun _ => Below.refl _ _, fun _ => World.grownBy.refl _ _, FrY.refl _ _ _⟩
theorem RI.below {B X q : Nat} {row : Option Nat} {i : Nat} {a b : World} (hi : i ≠ q) (hB : B ≤ a.heap.size) (hb : Below a.heap.size a b) : RI B X q row i a b := ⟨fun _ => hb, fun h => absurd h hi, FrY.of_below hB hb⟩
theorem RI.at_ {B X q : Nat} {row : Option Nat} {i : Nat} {a b : World} (hi : i = q) (hg : a.grownBy b row) (hf : FrY B X a b) : RI B X q row i a b := ⟨fun h => absurd hi h, fun _ => hg, hf⟩
theorem RI.gb {B X q : Nat} {row : Option Nat} {i : Nat} {a b : World} (h : RI B X q row i a b) : a.grownBy b row := by
  by_cases hi : i = q
  · exact h.2.1 hi
  · have hb := h.1 hi
    exact ⟨hb.os, hb.tape, hb.output, hb.size, fun k hk _ => hb.block k hk⟩
theorem RI.sub {B X q : Nat} {row : Option Nat} : ∀ i a b, RI B X q row i a b → FrY B X a b := fun _ _ _ h => h.2.2
theorem ints_gbo {k : IntKind} {w w' : World} {a : Option Addr} {zs : List Int} {row : Option Nat} (h : IntsAt k w a zs) (hg : w.grownBy w' row) (ha : ∀ x, a = some x → some x.block ≠ row) : IntsAt k w' a zs := by
  intro hn
  obtain ⟨x, rfl, hx, hc⟩ := h hn
  refine ⟨x, rfl, Nat.lt_of_lt_of_le hx hg.size, fun i hi => ?_⟩
  rw [World.cell?_of_block (w := w) (hg.block _ (by rw [block_of_add]; exact hx) (fun e => ha x rfl (by rw [← e, block_of_add])))]
  exact hc i hi
end Go.Proofs.YtfckbkhnelgjbaaGreatDoor
end
/- world.CopyComps. -/
section
namespace Go.Proofs.YtfckbkhnelgjbaaGreatDoor
open Go.ChangeShapes Go.WideShapes Go.ChangeAt Go.RowKit Go.Mem
set_option linter.unusedVariables false
def F_cc (BB G n k m : Nat) (q : Int) (av : Option Addr) (cv : Nat) (zs : List Int) (j : Nat) (v : Value) (w : World) : Prop :=
  match j with
  | 0 => v = .slice (some ⟨G, 0, none⟩) n n
  | 1 => v = .int .i64 k
  | 2 => v = .pointer (some ⟨BB, 0, none⟩)
  | 3 => v = .int .i64 q
  | 4 => v = .pointer (some ⟨BB, 1, none⟩)
  | 5 => v = .slice av m cv
  | 6 => ∃ a c, v = .slice a m c ∧ IntsAt .i64 w a zs ∧ (∀ x, a = some x → BB < x.block)
  | 7 => ∃ a c, v = .agg #[.int .i64 q, .slice a m c] ∧ IntsAt .i64 w a zs ∧ (∀ x, a = some x → BB < x.block)
  | 8 => v = .pointer (some ⟨G, k * 2, none⟩)
  | _ => True
theorem F_cc_mono (BB G n k m : Nat) (q : Int) (av : Option Addr) (cv : Nat) (zs : List Int) : Facts (F_cc BB G n k m q av cv zs) := ⟨by
  intro j v w w' h hb
  unfold F_cc at h ⊢
  split at h
  all_goals first
    | exact h
    | (obtain ⟨a, c, e, hi, hx⟩ := h; exact ⟨a, c, e, hi.below hb, hx⟩)
    | trivial⟩
/-- a component in the making: its numbers lie in another block than the row -/
def CompNew (G : Nat) (w : World) (i : Nat) (y : CompV) : Prop := w.cell? ⟨G, i, none⟩ = some (.int .i64 y.kind) ∧ ∃ a c, w.cell? ⟨G, i + 1, none⟩ = some (.slice a y.vals.length c) ∧ IntsAt .i64 w a y.vals ∧ (∀ x, a = some x → G < x.block)
theorem ints_far {k : IntKind} {w : World} {a : Option Addr} {zs : List Int} (h : IntsAt k w a zs) {p : Addr} (hx : ∀ x, a = some x → x.block ≠ p.block) (v : Value) : IntsAt k (w.setCell p v) a zs := fun h0 => by
  obtain ⟨x, e, h1, h2⟩ := h h0
  refine ⟨x, e, by simpa using h1, fun i hi => ?_⟩
  rw [cell_set_ne (fun e2 => hx x e (by rw [e2, block_of_add]))]
  exact h2 i hi
theorem CompNew.below {G : Nat} {w w' : World} {i : Nat} {y : CompV} (h : CompNew G w i y) (hb : Below w.heap.size w w') : CompNew G w' i y := by
  obtain ⟨h1, a, c, h2, h3, h4⟩ := h
  exact ⟨cell_abides h1 hb, a, c, cell_abides h2 hb, h3.below hb, h4⟩
theorem CompNew.far {G : Nat} {w : World} {i : Nat} {y : CompV} (h : CompNew G w i y) (j : Nat) (v : Value) (n1 : j ≠ i) (n2 : j ≠ i + 1) : CompNew G (w.setCell ⟨G, j, none⟩ v) i y := by
  obtain ⟨h1, a, c, h2, h3, h4⟩ := h
  exact ⟨by rw [cell_set_ne (fun e => n1 (by injection e))]; exact h1, a, c, by rw [cell_set_ne (fun e => n2 (by injection e))]; exact h2, ints_far h3 (fun x e => by have := h4 x e; show x.block ≠ G; omega) v, h4⟩
theorem CompNew.at {G : Nat} {w : World} {i : Nat} {y : CompV} (h : CompNew G w i y) : CompAt w ⟨G, i, none⟩ y := by
  obtain ⟨h1, a, c, h2, h3, _⟩ := h
  exact ⟨h1, a, c, h2, h3⟩
/-- one element written -/
theorem CompNew.new {G : Nat} {w : World} {i : Nat} {y : CompV} {a : Option Addr} {c : Nat} {o1 o2 : Value} (h1 : w.cell? ⟨G, i, none⟩ = some o1) (h2 : w.cell? ⟨G, i + 1, none⟩ = some o2) (hi : IntsAt .i64 w a y.vals) (hx0 : ∀ x, a = some x → G < x.block) :
    CompNew G ((w.setCell ⟨G, i, none⟩ (.int .i64 y.kind)).setCell ⟨G, i + 1, none⟩ (.slice a y.vals.length c)) i y := by
  have hx : ∀ x, a = some x → x.block ≠ G := fun x e => by have := hx0 x e; omega
  have hne : (⟨G, i + 1, none⟩ : Addr) ≠ ⟨G, i, none⟩ := fun e => by injection e with _ e; omega
  refine ⟨?_, a, c, ?_, ints_far (ints_far hi hx _) hx _, hx0⟩
  · rw [cell_set_ne hne]; exact cell_set_eq h1
  · exact cell_set_eq (u := o2) (by rw [cell_set_ne hne.symm]; exact h2)
theorem CompNew.up {G : Nat} {w w2 : World} {i : Nat} {y : CompV} (h : CompNew G w i y) (hs : SameUp G w w2) : CompNew G w2 i y := by
  obtain ⟨h1, a, c, h2, h3, h4⟩ := h
  exact ⟨cell_up hs (Nat.le_refl _) h1, a, c, cell_up hs (Nat.le_refl _) h2, ints_up hs (fun x e => Nat.le_of_lt (h4 x e)) h3, h4⟩
def CopyPost (l : List CompV) (n : Nat) (W : World) (e : Ending) (w' : World) : Prop := ∃ a, e = .returned (.slice a n n) ∧ Up W.heap.size (fun w => SlAt 2 CompAt w a l) w' ∧ Below W.heap.size W w'
set_option maxHeartbeats 4000000 in
theorem copy_comps (l : List CompV) (a : Option Addr) (n cap : Nat) (hn : l.length = n) (h1 : n ≤ 1048576) (hv : ∀ y ∈ l, y.vals.length ≤ 1048576) (W : World) (hz : SlAt 2 CompAt W a l) :
    Calls Tryz.prog 62 #[.slice a n cap] W (CopyPost l n W) := by
  have HN := Lib.hid hn
  have HZ := Lib.hid hz
  have HV := Lib.hid hv
  clear hn hz hv
  go_enter Tryz.func62, Tryz.ntmps62
  go_wp2_with (at_make; go_must (refine wpList_make_blk rfl _ _ 27 rfl 42 (.agg #[.int .i64 0, .slice none 0 0]) 2 32 Tryz.underlying27 (by kernel_rfl) _ _ _ _ n rfl rfl rfl rfl ?b1 ?b2 ?_))
  case b1 => omega
  case b2 => unfold maxLen; omega
  intro w1 hblk hb1 hs1
  obtain ⟨G, hG⟩ : ∃ G, G = W.heap.size := ⟨_, rfl⟩
  rw [← hG] at hblk hs1 ⊢
  have HG := Lib.hid hG
  have HBLK := Lib.hid hblk
  have HB1 := Lib.hid hb1
  clear hG hblk hb1 hs1
  go_wp2_with fail
  go_loopg [4, 5, 11] n (fun gk v4 v5 vi wx => ∃ k : Nat, k ≤ n ∧ gk = n - k ∧ vi = .int .i64 k ∧ Blk wx G 42 (n * 2) ∧ (∀ j (h : j < l.length), j < k → CompNew G wx (j * 2) l[j]) ∧ Below W.heap.size W wx)
  case atStart => exact ⟨0, Nat.zero_le _, rfl, rfl, HBLK.out, fun j h h2 => absurd h2 (by omega), HB1.out⟩
  case round =>
    obtain ⟨k, hk, g2, rfl, hblk, hat, hb⟩ := hrel
    have G2 := Lib.hid g2
    have HB := Lib.hid hb
    have HBLK2 := Lib.hid hblk
    have HAT := Lib.hid hat
    have hgl := hblk.lt
    clear g2 hb hblk hat HBLK HB1
    by_cases hlt : k < n
    · obtain ⟨x, rfl, hx, hi⟩ := (HZ.out.below CompAt.abides HB.out) (by rw [HN.out]; omega)
      obtain ⟨c0, av, cv, c1, hv⟩ := hi k (by rw [HN.out]; exact hlt)
      obtain ⟨y, hy⟩ : ∃ y, y = l[k]'(by rw [HN.out]; exact hlt) := ⟨_, rfl⟩
      rw [← hy] at c0 c1 hv
      have hm : y.vals.length ≤ 1048576 := HV.out y (by rw [hy]; exact List.getElem_mem _)
      obtain ⟨m, hm2⟩ : ∃ m, m = y.vals.length := ⟨_, rfl⟩
      rw [← hm2] at c1 hm
      obtain ⟨q, hq⟩ : ∃ q, q = y.kind := ⟨_, rfl⟩
      rw [← hq] at c0
      have HY := Lib.hid hy
      have HM := Lib.hid hm2
      have HQ := Lib.hid hq
      have HI := Lib.hid hv
      clear hi hv hy hm2 hq
      go_wp2_with fail
      have B0 : (wr.alloc (.cells #[.int .i64 q, .slice av m cv] 42)).cell? ⟨wr.heap.size, 0, none⟩ = some (.int .i64 q) := by simp
      have B1 : (wr.alloc (.cells #[.int .i64 q, .slice av m cv] 42)).cell? ⟨wr.heap.size, 1, none⟩ = some (.slice av m cv) := by simp
      have hb0 := (Below.refl wr.heap.size wr).alloc (Nat.le_refl _) (.cells #[.int .i64 q, .slice av m cv] 42)
      have HC := Lib.hid (clone_at y.vals av m cv HM.out.symm (by omega))
      have HI2 := Lib.hid (HI.out.below hb0)
      refine wp_region_facts rfl 9 (by kernel_rfl) (F_cc wr.heap.size G n k m q av cv y.vals) (F_cc_mono wr.heap.size G n k m q av cv y.vals) ?_ ?_
      · refine ⟨?_, ?_, ?_, ?_, ?_, ?_, ?_, ?_, ?_, trivial⟩
        · intro vs w' F hb hd hF hl
          have e := (hF 3).trans (look_out _ 3 _ _ (by kernel_rfl))
          exact one_move _ rfl (by first | exact Or.inl rfl | exact Or.inr rfl) ⟨_, rfl, Below.refl _ _, e⟩
        · intro vs w' F hb hd hF hl
          have e := (hF 4).trans (look_out _ 4 _ _ (by kernel_rfl))
          exact one_move _ rfl (by first | exact Or.inl rfl | exact Or.inr rfl) ⟨_, rfl, Below.refl _ _, e⟩
        · intro vs w' F hb hd hF hl
          have e := (hF 5).trans (look_out _ 5 _ _ (by kernel_rfl))
          exact one_field _ _ _ rfl rfl _ _ e _ (fun w => by kernel_rfl) ⟨_, rfl, Below.refl _ _, rfl⟩
        · intro vs w' F hb hd hF hl
          have e := ((hF 18).trans (look_at _ 18 2 _ _ (by kernel_rfl) (by kernel_rfl) hl)).trans (dep_of (Fact := F_cc wr.heap.size G n k m q av cv y.vals) hd 2 (by kernel_rfl))
          exact one_load _ _ rfl rfl _ _ e (cell_abides B0 hb) (by kernel_rfl) ⟨_, rfl, Below.refl _ _, rfl⟩
        · intro vs w' F hb hd hF hl
          have e := (hF 5).trans (look_out _ 5 _ _ (by kernel_rfl))
          exact one_field _ _ _ rfl rfl _ _ e _ (fun w => by kernel_rfl) ⟨_, rfl, Below.refl _ _, rfl⟩
        · intro vs w' F hb hd hF hl
          have e := ((hF 20).trans (look_at _ 20 4 _ _ (by kernel_rfl) (by kernel_rfl) hl)).trans (dep_of (Fact := F_cc wr.heap.size G n k m q av cv y.vals) hd 4 (by kernel_rfl))
          exact one_load _ _ rfl rfl _ _ e (cell_abides B1 hb) (by kernel_rfl) ⟨_, rfl, Below.refl _ _, rfl⟩
        · intro vs w' F hb hd hF hl
          have e := (((hF 21).trans (look_at _ 21 5 _ _ (by kernel_rfl) (by kernel_rfl) hl)).trans (dep_of (Fact := F_cc wr.heap.size G n k m q av cv y.vals) hd 5 (by kernel_rfl)))
          refine one_call _ _ rfl rfl (enters_of Tryz.func49 (by kernel_rfl) rfl) #[.slice av m cv] (eval1 e) ?_
          refine (HC.out w' (HI2.out.below hb)).mono ?_
          rintro e2 w2 ⟨a2, c2, rfl, hi2, hx2, hb2⟩
          exact ⟨_, rfl, _, rfl, hb2, a2, c2, rfl, hi2, fun x hx => by have h1 := hx2 x hx; have h2 := hb.size; simp at h2; omega⟩
        · intro vs w' F hb hd hF hl
          obtain ⟨a2, c2, hv2, hi2, hx2⟩ := (dep_of (Fact := F_cc wr.heap.size G n k m q av cv y.vals) hd 6 (by kernel_rfl))
          have e1 := (((hF 19).trans (look_at _ 19 3 _ _ (by kernel_rfl) (by kernel_rfl) hl)).trans (dep_of (Fact := F_cc wr.heap.size G n k m q av cv y.vals) hd 3 (by kernel_rfl)))
          have e2 := ((hF 22).trans (look_at _ 22 6 _ _ (by kernel_rfl) (by kernel_rfl) hl)).trans hv2
          exact one_build _ _ rfl rfl #[(0, .int .i64 q), (1, .slice a2 m c2)] (parts2 e1 e2) (.agg #[.int .i64 q, .slice a2 m c2]) (fun w => by kernel_rfl) ⟨_, rfl, Below.refl _ _, a2, c2, rfl, hi2, hx2⟩
        · intro vs w' F hb hd hF hl
          have ex := (((hF 16).trans (look_at _ 16 0 _ _ (by kernel_rfl) (by kernel_rfl) hl)).trans (dep_of (Fact := F_cc wr.heap.size G n k m q av cv y.vals) hd 0 (by kernel_rfl)))
          have ey := (((hF 17).trans (look_at _ 17 1 _ _ (by kernel_rfl) (by kernel_rfl) hl)).trans (dep_of (Fact := F_cc wr.heap.size G n k m q av cv y.vals) hd 1 (by kernel_rfl)))
          exact one_index 27 _ _ rfl rfl (.slice (some ⟨G, 0, none⟩) n n) (.int .i64 k) (.pointer (some ⟨G, k * 2, none⟩)) ex ey (fun w => by clear hb hd hF hl ex ey; go_simp) ⟨_, rfl, Below.refl _ _, rfl⟩
      · intro vs W1 hl hb hI
        obtain ⟨a8, c8, i7, hi8, hx8⟩ := hI 7 (by omega)
        have i8 : vs.getD 8 undef = .pointer (some ⟨G, k * 2, none⟩) := hI 8 (by omega)
        obtain ⟨v0, v1, v2, v3, v4, v5, v6, v7, v8, v9, rfl⟩ := list10 hl
        replace i7 : v7 = .agg #[.int .i64 q, .slice a8 m c8] := i7
        replace i8 : v8 = .pointer (some ⟨G, k * 2, none⟩) := i8
        subst i7 i8
        have hblk1 := (HBLK2.out.below hb0).below hb
        obtain ⟨o1, ho1⟩ := hblk1.cell (k * 2) (by omega)
        obtain ⟨o2, ho2⟩ := hblk1.cell (k * 2 + 1) (by omega)
        have f1 := hblk1.frozen (k * 2)
        have f2 := hblk1.frozen (k * 2 + 1)
        have hbw : Below wr.heap.size wr W1 := hb0.trans (hb.mono (by simp))
        have hbn : Below W.heap.size W ((W1.setCell ⟨G, k * 2, none⟩ (.int .i64 q)).setCell ⟨G, k * 2 + 1, none⟩ (.slice a8 m c8)) := ((HB.out.trans (hbw.mono HB.out.size)).setCell (by rw [← HG.out]; exact Nat.le_refl _) _).setCell (by rw [← HG.out]; exact Nat.le_refl _) _
        have HBN := Lib.hid hbn
        have HBK := Lib.hid ((hblk1.set (k * 2) (.int .i64 q)).set (k * 2 + 1) (.slice a8 m c8))
        have hatn : ∀ j (h : j < l.length), j < k + 1 → CompNew G ((W1.setCell ⟨G, k * 2, none⟩ (.int .i64 q)).setCell ⟨G, k * 2 + 1, none⟩ (.slice a8 m c8)) (j * 2) l[j] := by
          intro j h hj
          by_cases hjk : j < k
          · exact (((HAT.out j h hjk).below hbw).far _ _ (by omega) (by omega)).far _ _ (by omega) (by omega)
          · obtain rfl : j = k := by omega
            rw [← HY.out, HQ.out, HM.out]
            exact CompNew.new ho1 ho2 hi8 (fun x hx => by have := hx8 x hx; omega)
        have HATN := Lib.hid hatn
        clear hI hl hb hbw hbn hblk1 hatn hi8 hx8 HC HI2 hb0 B0 B1
        simp only [fillAll, Act.put, List.setIfInBounds_toArray, List.set_cons_succ, List.set_cons_zero]
        go_wp2
        go_roundg (n - (k + 1))
        case measure => rw [G2.out]; omega
        case rel => exact ⟨k + 1, hlt, rfl, by go_num, HBK.out, HATN.out, HBN.out⟩
    · have hke : k = n := by omega
      have HK := Lib.hid hke
      clear hke
      go_wp2_with fail
      go_ret
      refine ⟨some ⟨G, 0, none⟩, rfl, fun w2 hs h0 => ⟨_, rfl, Nat.lt_of_lt_of_le hgl hs.1, fun i hi => ?_⟩, HB.out⟩
      have := HAT.out i hi (by rw [HK.out, ← HN.out]; exact hi)
      rw [add_zero_block]; exact (this.up (by rw [HG.out]; exact hs)).at
end Go.Proofs.YtfckbkhnelgjbaaGreatDoor
end
/- slices.Clone of ints once more: no cell of the new row is a string. -/
section
namespace Go.Proofs.YtfckbkhnelgjbaaGreatDoor
open Go.ChangeShapes Go.WideShapes Go.ChangeAt Go.RowKit Go.Mem
set_option linter.unusedVariables false
/-- no cell of block G is a string -/
def NoStr (w : World) (G : Nat) : Prop := ∀ i s, w.cell? ⟨G, i, none⟩ ≠ some (.string s)
theorem NoStr.below {w w' : World} {G : Nat} (h : NoStr w G) (hG : G < w.heap.size) (hb : Below w.heap.size w w') : NoStr w' G := fun i s => by
  rw [World.cell?_of_block (w := w) (hb.block G hG)]
  exact h i s
theorem nostr_row0 {w : World} {G : Nat} {cs : Array Value} {t : TypeId} {fr : Nat × Nat} (h : w.heap[G]? = some (.cells cs t fr)) (hs : ∀ (j : Nat) (s : ByteArray), cs[j]? ≠ some (Value.string s)) : NoStr w G := fun i s => by
  rw [cell_of_row _ _ _ _ _ _ h]; exact hs i s
/-- A slice of ints that the call owns; its row holds no string. -/
def OwnPostN (zs : List Int) (n : Nat) (w : World) (e : Ending) (w' : World) : Prop := ∃ v, e = .returned v ∧ w'.ownsRow w.heap.size 3 1 v n (vints .i64 zs) ∧ Below w.heap.size w w' ∧ ∀ g, v.ownBlock = some g → NoStr w' g
set_option maxHeartbeats 4000000 in
theorem clone_intsN (l : List Int) (a : Option Addr) (n cap : Nat) (hn : l.length = n) (h1 : n ≤ 17592186044416) (w : World) (hin : IntsAt .i64 w a l) :
    Calls Tryz.prog 49 #[.slice a n cap] w (OwnPostN l n w) := by
  rcases a with _ | x
  · have h0 : n = 0 := by
      rcases Nat.eq_zero_or_pos n with h | h
      · exact h
      · obtain ⟨x, h2, _⟩ := hin (by omega)
        cases h2
    subst h0
    have : l = [] := List.eq_nil_of_length_eq_zero hn
    subst this
    have hnil : w.ownsRow w.heap.size 3 1 (.slice none 0 0) 0 (vints .i64 []) := ⟨rfl, .inl ⟨rfl, rfl⟩⟩
    have HNIL := Lib.hid hnil
    clear hnil hin hn
    have hq := fun wx => Lib.run_eql_slice_nil (P := Tryz.prog) wx 23 3 none 0 cap 0 0 Tryz.underlying23
    simp only [Option.isNone] at hq
    go_enter Tryz.func49, Tryz.ntmps49
    go_wp2
    go_ret
    exact ⟨_, rfl, HNIL.out, Below.refl _ _, fun g h => by cases h⟩
  · have HN := Lib.hid hn
    obtain ⟨i0, hi0, hz0, hzs, hzb⟩ := info_parts (show (Tryz.prog.info? 3).map (fun i => (i.zero, i.size, i.bytes)) = some (some (.int .i64 0), 1, 8) by kernel_rfl)
    have hq := fun wx => Lib.run_eql_slice_nil (P := Tryz.prog) wx 23 3 (some x) n cap 0 0 Tryz.underlying23
    simp only [Option.isNone] at hq
    obtain ⟨W1, hW1⟩ : ∃ W1, W1 = w.alloc (.cells #[] 3) := ⟨_, rfl⟩
    have hba : Below w.heap.size w W1 := by rw [hW1]; exact (Below.refl w.heap.size w).alloc (Nat.le_refl _) (.cells #[] 3)
    have hs1 : W1.heap.size = w.heap.size + 1 := by rw [hW1, World.size_alloc]
    have hr1 : W1.heap[w.heap.size]? = some (.cells #[] 3 (0, 0)) := by rw [hW1]; exact heap_alloc_new w _
    have hin1 := hin.below hba
    by_cases h0 : n = 0
    · subst h0
      have hl0 : l = [] := List.eq_nil_of_length_eq_zero hn
      have hown : W1.ownsRow w.heap.size 3 1 (.slice (some ⟨w.heap.size, 0, none⟩) 0 0) 0 (vints .i64 l) := by
        rw [hl0]
        exact ⟨rfl, Or.inr ⟨w.heap.size, 0, #[], rfl, Nat.le_refl _, hr1, Nat.le_refl _, by unfold maxLen; omega, rfl, rfl⟩⟩
      have hno : NoStr W1 w.heap.size := nostr_row0 hr1 (fun j s => by simp)
      have hlo : ∀ wx : World, (loadCells x 0).run Tryz.prog wx = .ok #[] wx := fun wx => by simpa using run_loadCells_list (P := Tryz.prog) wx x [] (by simp)
      have hrun : ∀ ty, (Builtin.append_ #[23, 23] ty #[.slice (some ⟨w.heap.size, 0, none⟩) 0 0, .slice (some x) 0 cap]).run Tryz.prog W1 = .ok (.slice (some ⟨w.heap.size, 0, none⟩) 0 0) W1 := fun ty => by
        simp [Builtin.append_, run_underlying Tryz.underlying23, sizeOf, typeInfo, hi0, Builtin.lenOf, Builtin.firstCells, storeCells, hlo]
      have HR := Lib.hid hrun
      have HO := Lib.hid hown
      have HNO := Lib.hid hno
      have HBA := Lib.hid hba
      clear hown hno hlo hin1 hr1 hs1 hba hi0 hz0 hzs hzb hl0 hin hn HN
      subst hW1
      go_enter Tryz.func49, Tryz.ntmps49
      go_wp2_with (at_builtin; go_must (refine Lib.wpList_append_run _ rfl _ _ _ _ rfl _ _ rfl rfl _ _ (HR.out _) ?_))
      go_ret
      exact ⟨_, rfl, HO.out, HBA.out, fun g hg => by injection hg with hg; have hg2 : w.heap.size = g := hg; rw [← hg2]; exact HNO.out⟩
    · obtain ⟨_, ex, hxb, hxc⟩ := hin1 (by omega)
      injection ex with ex
      subst ex
      have hsrc : Src Tryz.prog i0.size 23 (.slice (some x) n cap) n (vints .i64 l) W1 := by
        rw [hzs]
        refine Src.ofSlice W1 Tryz.underlying23 x n cap (vints .i64 l) (by rw [vints_length, hn, Nat.mul_one]) (fun j u hj => ?_) (vints_one .i64 l)
        have hjl : j < l.length := by
          have := (List.getElem?_eq_some_iff.1 hj).1
          rwa [vints_length] at this
        rw [hxc j hjl]
        rw [vints_get .i64 l j hjl] at hj
        exact hj
      have hold : (Builtin.firstCells i0.size 0 (.slice (some ⟨w.heap.size, 0, none⟩) 0 0)).run Tryz.prog W1.drew = .ok ([] : List Value).toArray W1.drew := by
        exact run_firstCells_some W1.drew i0.size 0 ⟨w.heap.size, 0, none⟩ 0 0 [] (by simp) (fun j v hj => by simp at hj)
      have hrun := fun ty => run_append_grow_src W1 23 23 ty 3 i0 _ Tryz.underlying23 hi0 hz0 (some ⟨w.heap.size, 0, none⟩) 0 0 [] hold _ n (vints .i64 l) hsrc (by omega) (by omega) (by rw [hzb]; exact growslice_fits (by omega) (by omega))
      obtain ⟨C, hC⟩ : ∃ C, C = grownCap W1 (0 + n) 0 3 := ⟨_, rfl⟩
      obtain ⟨ROW, hROW⟩ : ∃ ROW : Array Value, ROW = (([] : List Value) ++ vints .i64 l).toArray ++ Builtin.zeroCells (Value.int .i64 0).cells (C - (0 + n)) := ⟨_, rfl⟩
      rw [← hC, ← hROW] at hrun
      have hCn : 0 + n ≤ C := by rw [hC]; exact grownCap_ge W1 _ _ _
      have hCm : C ≤ maxLen := by rw [hC]; exact grownCap_le_maxLen W1 (0 + n) 0 3 (by unfold maxLen; omega)
      obtain ⟨W2, hW2⟩ : ∃ W2, W2 = W1.drew.alloc (.cells ROW 3) := ⟨_, rfl⟩
      have hr2 : W2.heap[W1.heap.size]? = some (.cells ROW 3 (0, 0)) := by rw [hW2]; exact heap_alloc_new W1.drew _
      have hb2 : Below w.heap.size w W2 := by rw [hW2]; exact hba.drew.alloc (by show w.heap.size ≤ W1.heap.size; omega) _
      have hRs : ROW.size = C * 1 := by
        rw [hROW]
        simp [Builtin.zeroCells, Value.cells, vints_length, hn]
        omega
      have hown : W2.ownsRow w.heap.size 3 1 (.slice (some ⟨W1.heap.size, 0, none⟩) n C) n (vints .i64 l) := by
        refine ⟨by rw [vints_length, hn, Nat.mul_one], Or.inr ⟨W1.heap.size, C, ROW, rfl, by omega, hr2, by omega, hCm, hRs, ?_⟩⟩
        rw [hROW]
        simp only [List.nil_append, Array.toList_append]
        rw [List.take_append_of_le_length (by rw [vints_length]; omega), List.take_of_length_le (by rw [vints_length]; omega)]
      have hno : NoStr W2 W1.heap.size := nostr_row0 hr2 (fun j s hj => by
        have hm := Array.mem_of_getElem? hj
        rw [hROW] at hm
        rw [Array.mem_append] at hm
        rcases hm with hm | hm
        · simp [vints] at hm
        · simp [Builtin.zeroCells, Value.cells] at hm
          obtain ⟨a, _, ha⟩ := hm
          rw [Nat.mod_one] at ha
          simp at ha)
      rw [Nat.zero_add, ← hW2, hs1] at hrun
      rw [hs1] at hown hno
      have HR := Lib.hid hrun
      have HO := Lib.hid hown
      have HNO := Lib.hid hno
      have HB2 := Lib.hid hb2
      clear hown hno hin1 hr1 hs1 hba hi0 hz0 hzs hzb hin hn HN hxc hxb hsrc hold hrun hROW hC hr2 hb2 hRs hCn hCm hW2
      subst hW1
      go_enter Tryz.func49, Tryz.ntmps49
      go_wp2_with (at_builtin; go_must (refine Lib.wpList_append_run _ rfl _ _ _ _ rfl _ _ rfl rfl _ _ (HR.out _) ?_))
      go_ret
      exact ⟨_, rfl, HO.out, HB2.out, fun g hg => by injection hg with hg; have hg2 : _ = g := hg; rw [← hg2]; exact HNO.out⟩
theorem OwnPostN.own {zs : List Int} {n : Nat} {w w' : World} {e : Ending} (h : OwnPostN zs n w e w') : OwnPost zs n w e w' := by
  obtain ⟨v, h1, h2, h3, _⟩ := h
  exact ⟨v, h1, h2, h3⟩
end Go.Proofs.YtfckbkhnelgjbaaGreatDoor
end
