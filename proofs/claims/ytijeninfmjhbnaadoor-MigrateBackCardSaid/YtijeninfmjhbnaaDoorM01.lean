/- Lemmas for the law MigrateBack: Bulk, Mem, Mem2, Rd. No conditions. -/
import Derived.Test.YtijeninfmjhbnaaDoorRows
import Derived.WalkKit
import Derived.ProofKit
import Derived.Lib.Hide
import Derived.Deep.AppendLies
import Derived.BigQuiet
import Derived.Deep.QuietTactic
import Derived.Laws.Rows
import Derived.Laws.OwnMore
import Derived.Laws.MakeOwn
import Derived.Deep.Slices
import Derived.OpenShut
import Derived.ChangeArms
/- What the bound of the second form gives. -/
section
namespace Go.Proofs.YtijeninfmjhbnaaDoor.Bulk
theorem one_le {H : Type} (d : DataW H) : 1 ≤ Rows.uptoBulk d := by
  cases d with
  | lit l => cases l <;> simp [Rows.uptoBulk]
  | nil => simp [Rows.uptoBulk]
  | ptr d => simp [Rows.uptoBulk]
  | slice elems spare => simp [Rows.uptoBulk]
  | agg parts => simp [Rows.uptoBulk]
  | iface t d => simp [Rows.uptoBulk]
  | map entries => simp [Rows.uptoBulk]
  | held h => simp [Rows.uptoBulk]
theorem mem {H : Type} {d : DataW H} {l : List (DataW H)} (h : d ∈ l) : Rows.uptoBulk d ≤ Rows.uptoBulkAll l := by
  induction l with
  | nil => cases h
  | cons x r ih =>
    simp only [Rows.uptoBulkAll]
    rcases List.mem_cons.1 h with e | e
    · subst e; omega
    · have := ih e; omega
theorem len {H : Type} (l : List (DataW H)) : l.length ≤ Rows.uptoBulkAll l := by
  induction l with
  | nil => simp
  | cons x r ih => have := one_le x; simp only [Rows.uptoBulkAll, List.length_cons]; omega
theorem slice {H : Type} {elems spare l : List (DataW H)} (h : DataW.slice elems spare ∈ l) (hk : Rows.uptoSmall H l = true) : elems.length + spare.length ≤ 1048576 := by
  have h1 := mem h
  have h2 := of_decide_eq_true hk
  have h3 := len elems
  have h4 := len spare
  simp only [Rows.uptoBulk] at h1
  omega
theorem nth {H : Type} {elems spare l : List (DataW H)} (i : Nat) (hk : Rows.uptoSmall H l = true) (h : l[i]? = some (.slice elems spare)) : elems.length + spare.length ≤ 1048576 :=
  slice (List.mem_of_getElem? h) hk
theorem string {H : Type} {b : List UInt8} {l : List (DataW H)} (h : DataW.lit (.string b) ∈ l) (hk : Rows.uptoSmall H l = true) : b.length ≤ 1048576 := by
  have h1 := mem h
  have h2 := of_decide_eq_true hk
  simp only [Rows.uptoBulk] at h1
  omega
end Go.Proofs.YtijeninfmjhbnaaDoor.Bulk
end
/- Laws on memory that the walks of this seat use: appends and makes on rows of the call's own, whole rows stored, draws. No program is named here. -/
section
namespace Go
open Go.RowKit

namespace Mem
/-- Two calls, one behind the other. -/
theorem bt {w a b : World} (h1 : Below w.heap.size w a) (h2 : Below a.heap.size a b) : Below w.heap.size w b := h1.trans (h2.mono h1.size)
theorem below_drewN {B : Nat} {w w2 : World} (h : Below B w w2) (n : Nat) : Below B w (w2.drewN n) := ⟨h.os, h.tape, h.output, h.size, h.block⟩

/-- 'append(v, x)' of one element, v nil or the call's own: the one element lies in a new block of its own. -/
theorem wpList_append_new {P : Program} {w : World} {ops : Array Oper} {rest : List Oper} {o : Oper} {a : Act} {Q : Exit → Act → World → Prop} (hgd : o.guard = none) (s x : Operand) (t : TypeId)
    (ho : o.op = .call { callee := .builtin .append, args := #[s, x], argTypes := #[t, t] })
    (base : Nat) (e : TypeId) (z : Value) (size bytes : Nat) (ht : P.underlying t = some (.slice e)) (hi : (P.info? e).map (fun i => (i.zero, i.size, i.bytes)) = some (some z, size, bytes))
    (hzs : z.cells.size = size) (hsz : 0 < size)
    (v : Value) (n : Nat) (xs : List Value) (hs : a.eval s = v) (hown : w.ownsRow base e size v n xs)
    (U : Array Value) (T : TypeId) (hx : a.eval x = .slice (some ⟨w.heap.size, 0, none⟩) 1 1) (hU : U.size = size) (h1 : U.toList.all (·.oneCell') = true)
    (hbytes : (n + 1) * bytes ≤ 140737488355328) (hby : 0 < bytes) (hbase : base ≤ w.heap.size)
    (h : ∀ g cap w', w'.ownsRow base e size (.slice (some ⟨g, 0, none⟩) (n + 1) cap) (n + 1) (xs ++ U.toList) → w.grownBy w' v.ownBlock → (v.ownBlock = some g ∨ g = w.heap.size + 1) → g < w'.heap.size → wpList P ops Q rest (a.put o.dst (.slice (some ⟨g, 0, none⟩) (n + 1) cap)) w') :
    wpList P ops Q (o :: rest) a (w.alloc (.cells U T)) := by
  obtain ⟨i, hi1, hi2, hi3, hi4⟩ := info_parts hi
  have hn : n + 1 ≤ 140737488355328 := Nat.le_trans (Nat.le_mul_of_pos_right _ hby) hbytes
  refine wpList_append_lies _ hgd s x t ho base e i z size bytes ht hi1 hi2 hi3 hi4 hzs hsz v n xs hs (hown.alloc _) ⟨w.heap.size, 0, none⟩ 1 1 U.toList hx (by simp [hU]) (World.news_of_block (heap_alloc_new w _)) (fun v hv => List.all_eq_true.1 h1 v hv)
    (by omega) (by unfold maxLen; omega) hbytes (by simp; omega) (w.heap.size + 1) (by simp) ?_
  intro g cap w' hown' hg hor hlt
  exact h g cap w' hown' ((World.grownBy_alloc w _ _).trans hg) hor hlt

/-- 'build' with its cells named. -/
theorem wpList_build_as {P : Program} {ops : Array Oper} {rest : List Oper} {o : Oper} {a : Act} {w : World} {Q : Exit → Act → World → Prop} (hg : o.guard = none) (t : TypeId) (parts : Array (Nat × Operand)) (ho : o.op = .build t parts)
    (cells : Array Value) (hf : P.built t (parts.map fun (i, x) => (i, a.eval x)).toList = some cells)
    (h : wpList P ops Q rest (a.put o.dst (.agg cells)) w) : wpList P ops Q (o :: rest) a w :=
  wpList_build hg t parts ho (by rw [hf]; rfl) (by rw [hf]; exact h)

/-- A whole row stored into a block of the call's own: the world behind it is a name. -/
theorem wpList_store_abs {P : Program} {ops : Array Oper} {rest : List Oper} {o : Oper} {a : Act} {w : World} {Q : Exit → Act → World → Prop} (hgd : o.guard = none) (ty : TypeId) (x y : Operand) (ho : o.op = .store ty x y)
    (g : Nat) (cells : Array Value) (hx : a.eval x = .pointer (some ⟨g, 0, none⟩)) (hy : a.eval y = .agg cells)
    (t : TypeId) (old : Array Value) (hg : w.heap[g]? = some (.cells old t (0, 0))) (hi : (P.info? ty).map (·.size) = some cells.size)
    (hold : old.size = cells.size) (h1 : cells.all (·.oneCell') = true)
    (h : ∀ w2 : World, w2.heap[g]? = some (.cells cells t (0, 0)) → RowKit.Below g w w2 → w2.heap.size = w.heap.size → wpList P ops Q rest (a.put o.dst undef) w2) : wpList P ops Q (o :: rest) a w :=
  wpList_store_row hgd ty x y ho g cells hx hy t old hg hi hold h1
    (h _ (setRow_heap w g old cells t _ hg) ⟨rfl, rfl, rfl, by simp, fun k hk => setRow_other w g k cells (by omega)⟩ (by simp))

/-- Behind a store into a variable of its own block: the block holds the new value, all others are as they were. -/
structure Put (w w2 : World) (g : Nat) (t : TypeId) (v : Value) : Prop where
  here : w2.heap[g]? = some (.cells #[v] t (0, 0))
  else_ : ∀ k, k ≠ g → w2.heap[k]? = w.heap[k]?
  size : w2.heap.size = w.heap.size
  os : w2.os = w.os
  tape : w2.tape = w.tape
  output : w2.output = w.output
theorem Put.below {w w2 : World} {g B : Nat} {t : TypeId} {v : Value} (h : Put w w2 g t v) (hB : B ≤ g) : Below B w w2 := ⟨h.os, h.tape, h.output, by rw [h.size]; exact Nat.le_refl _, fun k hk => h.else_ k (by omega)⟩

theorem Put.drew {w w2 : World} {g : Nat} {t : TypeId} {v : Value} (h : Put w w2 g t v) : Put w w2.drew g t v := ⟨h.here, h.else_, h.size, h.os, h.tape, h.output⟩
theorem put_setCell {w : World} {g : Nat} {t : TypeId} {old v : Value} (hg : w.heap[g]? = some (.cells #[old] t (0, 0))) : Put w (w.setCell ⟨g, 0, none⟩ v) g t v :=
  ⟨by rw [heap_setCell_same w g 0 _ t v hg]; rfl, fun k hk => heap_setCell_other w ⟨g, 0, none⟩ k v hk, by simp, rfl, rfl, rfl⟩

theorem wpList_store_var {P : Program} {ops : Array Oper} {rest : List Oper} {o : Oper} {a : Act} {w : World} {Q : Exit → Act → World → Prop} (hgd : o.guard = none) (ty : TypeId) (x y : Operand) (ho : o.op = .store ty x y)
    (g : Nat) (v : Value) (hx : a.eval x = .pointer (some ⟨g, 0, none⟩)) (hy : a.eval y = v) (hv : v.cells = #[v]) (h1 : v.oneCell' = true)
    (t : TypeId) (old : Value) (hg : w.heap[g]? = some (.cells #[old] t (0, 0))) (hi : (P.info? ty).map (·.size) = some 1)
    (h : ∀ w2 : World, Put w w2 g t v → wpList P ops Q rest (a.put o.dst undef) w2) : wpList P ops Q (o :: rest) a w := by
  have hrun : (storeVar ty ⟨g, 0, none⟩ v).run P w = .ok () (w.setRow g #[v]) := by
    have := run_storeCells_from (P := P) g t [v] 0 #[old] w hg (by simp) (fun u hu => by simp at hu; subst hu; exact h1)
    cases hq : P.info? ty with
    | none => simp [hq] at hi
    | some i =>
      have hs : i.size = 1 := by simpa [hq] using hi
      simp [storeVar, sizeOf, typeInfo, hq, hv, hs, this]
  refine wpList_plain hgd fun K hK => ?_
  unfold Oper.wp execOp
  simp only [ho, hx, hy, Instr.storeAt, Instr.sureAddr, Sem.run_bind, Sem.run_pure, Result.andThen_ok, hrun]
  exact hK _ _ (h _ ⟨setRow_heap w g _ _ t _ hg, fun k hk => setRow_other w g k _ hk, by simp, rfl, rfl, rfl⟩)

/-- A slice of integers that came in: nil, or 'cap' cells, of which the first 'len' are its elements. -/
def IsRow (k : IntKind) (w : World) (a : Option Addr) (len cap : Nat) (zs : List Int) : Prop :=
  (a = none ∧ len = 0 ∧ cap = 0 ∧ zs = []) ∨
  ∃ x, a = some x ∧ len ≤ cap ∧ cap ≤ maxLen ∧ zs.length = cap ∧ (∀ i, i < zs.length → w.cell? (x.add i) = some (.int k (zs.getD i 0))) ∧ ∀ n ∈ zs, (Lit.int k n).wf = true
end Mem
end Go
end
/- More laws on memory: a whole row stored into a variable's block; results out of slots and blocks. No program is named here. -/
section
namespace Go
open Go.RowKit
namespace Mem
/-- Behind a store of a whole row into block g: it holds the new cells, all other blocks are as they were. -/
structure PutR (w w2 : World) (g : Nat) (t : TypeId) (cs : Array Value) : Prop where
  here : w2.heap[g]? = some (.cells cs t (0, 0))
  else_ : ∀ k, k ≠ g → w2.heap[k]? = w.heap[k]?
  size : w2.heap.size = w.heap.size
  os : w2.os = w.os
  tape : w2.tape = w.tape
  output : w2.output = w.output
theorem PutR.below {w w2 : World} {g B : Nat} {t : TypeId} {cs : Array Value} (h : PutR w w2 g t cs) (hB : B ≤ g) : Below B w w2 := ⟨h.os, h.tape, h.output, by rw [h.size]; exact Nat.le_refl _, fun k hk => h.else_ k (by omega)⟩
theorem PutR.drew {w w2 : World} {g : Nat} {t : TypeId} {cs : Array Value} (h : PutR w w2 g t cs) : PutR w w2.drew g t cs := ⟨h.here, h.else_, h.size, h.os, h.tape, h.output⟩
theorem PutR.lt {w w2 : World} {g : Nat} {t : TypeId} {cs : Array Value} (h : PutR w w2 g t cs) : g < w.heap.size := by
  have := h.here
  rcases Nat.lt_or_ge g w2.heap.size with hlt | hge
  · rwa [h.size] at hlt
  · rw [Array.getElem?_eq_none hge] at this; cases this

theorem wpList_store_rowP {P : Program} {ops : Array Oper} {rest : List Oper} {o : Oper} {a : Act} {w : World} {Q : Exit → Act → World → Prop} (hgd : o.guard = none) (ty : TypeId) (x y : Operand) (ho : o.op = .store ty x y)
    (g : Nat) (cells : Array Value) (hx : a.eval x = .pointer (some ⟨g, 0, none⟩)) (hy : a.eval y = .agg cells)
    (t : TypeId) (old : Array Value) (hg : w.heap[g]? = some (.cells old t (0, 0))) (hi : (P.info? ty).map (·.size) = some cells.size)
    (hold : old.size = cells.size) (h1 : cells.all (·.oneCell') = true)
    (h : ∀ w2 : World, PutR w w2 g t cells → wpList P ops Q rest (a.put o.dst undef) w2) : wpList P ops Q (o :: rest) a w :=
  wpList_store_row hgd ty x y ho g cells hx hy t old hg hi hold h1
    (h _ ⟨setRow_heap w g old cells t _ hg, fun k hk => setRow_other w g k cells hk, by simp, rfl, rfl, rfl⟩)

theorem results_tc {P : Program} {fn : Func} {a p : Tmp} {ty : TypeId} (h : fn.results = #[.tmp a, .cell p ty]) (tmps : Array Value) (w : World) (g : Nat) (t : TypeId) (cs : Array Value) (fr : Nat × Nat) (d : TypeDesc)
    (hp : tmps.getD p undef = .pointer (some ⟨g, 0, none⟩)) (hg : w.heap[g]? = some (.cells cs t fr))
    (hu : P.underlying ty = some d) (hd : (match d with | .struct _ | .array _ _ => true | _ => false) = true) (hi : (P.info? ty).map (·.size) = some cs.size) :
    (results fn tmps).run P w = .ok (.tuple #[tmps.getD a undef, .agg cs]) w := by
  have hp' : tmps[p]?.getD undef = .pointer (some ⟨g, 0, none⟩) := by simpa using hp
  simp [results, h, hp', asAddr, run_loadVar_row w g t ty cs fr d hg hu hd hi]
theorem results_ct {P : Program} {fn : Func} {a p : Tmp} {ty : TypeId} (h : fn.results = #[.cell p ty, .tmp a]) (tmps : Array Value) (w : World) (g : Nat) (t : TypeId) (cs : Array Value) (fr : Nat × Nat) (d : TypeDesc)
    (hp : tmps.getD p undef = .pointer (some ⟨g, 0, none⟩)) (hg : w.heap[g]? = some (.cells cs t fr))
    (hu : P.underlying ty = some d) (hd : (match d with | .struct _ | .array _ _ => true | _ => false) = true) (hi : (P.info? ty).map (·.size) = some cs.size) :
    (results fn tmps).run P w = .ok (.tuple #[.agg cs, tmps.getD a undef]) w := by
  have hp' : tmps[p]?.getD undef = .pointer (some ⟨g, 0, none⟩) := by simpa using hp
  simp [results, h, hp', asAddr, run_loadVar_row w g t ty cs fr d hg hu hd hi]
theorem results_cc {P : Program} {fn : Func} {p q : Tmp} {ty tz : TypeId} (h : fn.results = #[.cell p ty, .cell q tz]) (tmps : Array Value) (w : World) (g g2 : Nat) (t t2 : TypeId) (cs cs2 : Array Value) (fr fr2 : Nat × Nat) (d d2 : TypeDesc)
    (hp : tmps.getD p undef = .pointer (some ⟨g, 0, none⟩)) (hg : w.heap[g]? = some (.cells cs t fr))
    (hu : P.underlying ty = some d) (hd : (match d with | .struct _ | .array _ _ => true | _ => false) = true) (hi : (P.info? ty).map (·.size) = some cs.size)
    (hp2 : tmps.getD q undef = .pointer (some ⟨g2, 0, none⟩)) (hg2 : w.heap[g2]? = some (.cells cs2 t2 fr2))
    (hu2 : P.underlying tz = some d2) (hd2 : (match d2 with | .struct _ | .array _ _ => true | _ => false) = true) (hi2 : (P.info? tz).map (·.size) = some cs2.size) :
    (results fn tmps).run P w = .ok (.tuple #[.agg cs, .agg cs2]) w := by
  have hp' : tmps[p]?.getD undef = .pointer (some ⟨g, 0, none⟩) := by simpa using hp
  have hp2' : tmps[q]?.getD undef = .pointer (some ⟨g2, 0, none⟩) := by simpa using hp2
  simp [results, h, hp', hp2', asAddr, run_loadVar_row w g t ty cs fr d hg hu hd hi, run_loadVar_row w g2 t2 tz cs2 fr2 d2 hg2 hu2 hd2 hi2]
theorem results_tct {P : Program} {fn : Func} {a p b : Tmp} {ty : TypeId} (h : fn.results = #[.tmp a, .cell p ty, .tmp b]) (tmps : Array Value) (w : World) (g : Nat) (t : TypeId) (cs : Array Value) (fr : Nat × Nat) (d : TypeDesc)
    (hp : tmps.getD p undef = .pointer (some ⟨g, 0, none⟩)) (hg : w.heap[g]? = some (.cells cs t fr))
    (hu : P.underlying ty = some d) (hd : (match d with | .struct _ | .array _ _ => true | _ => false) = true) (hi : (P.info? ty).map (·.size) = some cs.size) :
    (results fn tmps).run P w = .ok (.tuple #[tmps.getD a undef, .agg cs, tmps.getD b undef]) w := by
  have hp' : tmps[p]?.getD undef = .pointer (some ⟨g, 0, none⟩) := by simpa using hp
  simp [results, h, hp', asAddr, run_loadVar_row w g t ty cs fr d hg hu hd hi]
theorem row_second (w : World) (o o2 : Obj) : ((w.alloc o).alloc o2).heap[w.heap.size + 1]? = some o2 := by
  have := heap_alloc_new (w.alloc o) o2
  simpa using this
theorem row_first (w : World) (o o2 : Obj) : ((w.alloc o).alloc o2).heap[w.heap.size]? = some o :=
  (Below.heap_alloc (w.alloc o) o2 w.heap.size (by simp)).trans (heap_alloc_new w o)
theorem lt_of_heap {w : World} {g : Nat} {o : Obj} (h : w.heap[g]? = some o) : g < w.heap.size := by
  rcases Nat.lt_or_ge g w.heap.size with hlt | hge
  · exact hlt
  · rw [Array.getElem?_eq_none hge] at h; cases h
theorem ones1 (a : Value) (ha : a.oneCell' = true) : (#[a] : Array Value).all (·.oneCell') = true := by simp [ha]
theorem ones2 (a b : Value) (ha : a.oneCell' = true) (hb : b.oneCell' = true) : (#[a, b] : Array Value).all (·.oneCell') = true := by simp [ha, hb]
theorem ones3 (a b c : Value) (ha : a.oneCell' = true) (hb : b.oneCell' = true) (hc : c.oneCell' = true) : (#[a, b, c] : Array Value).all (·.oneCell') = true := by simp [ha, hb, hc]
theorem ones4 (a b c d : Value) (ha : a.oneCell' = true) (hb : b.oneCell' = true) (hc : c.oneCell' = true) (hd : d.oneCell' = true) : (#[a, b, c, d] : Array Value).all (·.oneCell') = true := by simp [ha, hb, hc, hd]
theorem heap_set {w : World} {g : Nat} {t : TypeId} {cs : Array Value} (h : w.heap[g]? = some (.cells cs t (0, 0))) (i : Nat) (u : Value) : (w.setCell ⟨g, i, none⟩ u).heap[g]? = some (.cells (cs.setIfInBounds i u) t (0, 0)) := by
  simp [World.setCell, Array.getElem?_modify, h]
theorem frozen_of_row {w : World} {g : Nat} {t : TypeId} {cs : Array Value} (h : w.heap[g]? = some (.cells cs t (0, 0))) (i : Nat) : w.frozen? ⟨g, i, none⟩ = false := by
  simp [World.frozen?, h]
theorem heap_far {w : World} {g : Nat} {o : Obj} (h : w.heap[g]? = some o) {p : Addr} (hne : g ≠ p.block) (u : Value) : (w.setCell p u).heap[g]? = some o := (Below.heap_setCell w p u g hne).trans h
theorem heap_drew {w : World} {g : Nat} {o : Obj} (h : w.heap[g]? = some o) : w.drew.heap[g]? = some o := h
theorem heap_set2 {w : World} {g : Nat} {t : TypeId} {a b : Value} (h : w.heap[g]? = some (.cells #[a, b] t (0, 0))) (x y : Value) : ((w.setCell ⟨g, 0, none⟩ x).setCell ⟨g, 1, none⟩ y).heap[g]? = some (.cells #[x, y] t (0, 0)) := heap_set (heap_set h 0 x) 1 y
theorem heap_far2 {w : World} {g g2 : Nat} {o : Obj} (h : w.heap[g]? = some o) (hne : g ≠ g2) (i j : Nat) (x y : Value) : ((w.setCell ⟨g2, i, none⟩ x).setCell ⟨g2, j, none⟩ y).heap[g]? = some o := heap_far (heap_far h hne x) hne y
theorem below_set {B : Nat} {w w2 : World} (h : Below B w w2) {g : Nat} (hg : B ≤ g) (i : Nat) (u : Value) : Below B w (w2.setCell ⟨g, i, none⟩ u) := h.setCell hg u
/-- The elements of a slice of integers; the address is asked for only where there is one. -/
def IntsAt (k : IntKind) (w : World) (a : Option Addr) (zs : List Int) : Prop :=
  0 < zs.length → ∃ x, a = some x ∧ x.block < w.heap.size ∧ ∀ i, i < zs.length → w.cell? (x.add i) = some (.int k (zs.getD i 0))
theorem block_of_add (a : Addr) (n : Nat) : (a.add n).block = a.block := by unfold Addr.add; split <;> rfl
theorem IntsAt.of_row {k : IntKind} {w : World} {a : Option Addr} {len cap : Nat} {zs : List Int} (h : IsRow k w a len cap zs) : IntsAt k w a (zs.take len) := by
  intro hn
  rcases h with ⟨rfl, rfl, rfl, rfl⟩ | ⟨x, rfl, h1, h2, h3, h4, h5⟩
  · simp at hn
  · have hz : 0 < zs.length := by simp at hn; omega
    refine ⟨x, rfl, ?_, fun i hi => ?_⟩
    · have := World.block_lt_of_cell? w _ (h4 0 hz)
      rwa [block_of_add] at this
    · rw [h4 i (by simp at hi; omega)]
      simp at hi
      rw [List.getD_eq_getElem?_getD, List.getD_eq_getElem?_getD, List.getElem?_take_of_lt (by omega)]
theorem IntsAt.below {k : IntKind} {w w' : World} {a : Option Addr} {zs : List Int} (h : IntsAt k w a zs) (hb : Below w.heap.size w w') : IntsAt k w' a zs := by
  intro hn
  obtain ⟨x, rfl, hx, hc⟩ := h hn
  exact ⟨x, rfl, Nat.lt_of_lt_of_le hx hb.size, fun i hi => (hb.cell (by rw [block_of_add]; exact hx)).trans (hc i hi)⟩
theorem IntsAt.drew {k : IntKind} {w : World} {a : Option Addr} {zs : List Int} (h : IntsAt k w a zs) : IntsAt k w.drew a zs := h
theorem IsRow.len {k : IntKind} {w : World} {a : Option Addr} {len cap : Nat} {zs : List Int} (h : IsRow k w a len cap zs) : (zs.take len).length = len := by
  rcases h with ⟨rfl, rfl, rfl, rfl⟩ | ⟨x, rfl, h1, h2, h3, h4, h5⟩
  · rfl
  · simp; omega
theorem IsRow.le {k : IntKind} {w : World} {a : Option Addr} {len cap : Nat} {zs : List Int} (h : IsRow k w a len cap zs) : len ≤ cap := by
  rcases h with ⟨rfl, rfl, rfl, rfl⟩ | ⟨x, rfl, h1, h2, h3, h4, h5⟩
  · exact Nat.le_refl _
  · exact h1
theorem IsRow.wf {k : IntKind} {w : World} {a : Option Addr} {len cap : Nat} {zs : List Int} (h : IsRow k w a len cap zs) : ∀ n ∈ zs.take len, (Lit.int k n).wf = true := by
  rcases h with ⟨rfl, rfl, rfl, rfl⟩ | ⟨x, rfl, h1, h2, h3, h4, h5⟩
  · simp
  · exact fun n hn => h5 n (List.mem_of_mem_take hn)
/-- Integers of kind k as values. -/
def vints (k : IntKind) (zs : List Int) : List Value := zs.map (.int k)
theorem vints_set (k : IntKind) (zs : List Int) (j : Nat) (v : Int) : (vints k zs).set j (.int k v) = vints k (zs.set j v) := by simp [vints, List.map_set]
theorem vints_replicate (k : IntKind) (n : Nat) : List.replicate n (Value.int k 0) = vints k (List.replicate n 0) := by simp [vints]
theorem vints_get (k : IntKind) (zs : List Int) (j : Nat) (h : j < zs.length) : (vints k zs)[j]? = some (.int k (zs.getD j 0)) := by
  simp [vints, List.getD_eq_getElem?_getD, List.getElem?_eq_getElem h]
theorem vints_length (k : IntKind) (zs : List Int) : (vints k zs).length = zs.length := by simp [vints]
theorem vints_snoc (k : IntKind) (zs : List Int) (d : Int) : vints k zs ++ #[Value.int k d].toList = vints k (zs ++ [d]) := by simp [vints]
theorem vints_append (k : IntKind) (zs ys : List Int) : vints k zs ++ vints k ys = vints k (zs ++ ys) := by simp [vints]
theorem vints_one (k : IntKind) (zs : List Int) : ∀ v ∈ vints k zs, v.oneCell' = true := by
  intro v hv
  obtain ⟨z, _, rfl⟩ := List.mem_map.1 hv
  rfl
/-- A row of the call's own, as a slice of integers. -/
theorem IntsAt.of_own {k : IntKind} {w : World} {base e : Nat} {a : Option Addr} {n cap : Nat} {zs : List Int} (h : w.ownsRow base e 1 (.slice a n cap) n (vints k zs)) (hn : n = zs.length) : IntsAt k w a zs := by
  intro hz
  rcases a with _ | ad
  · obtain ⟨g, cap', hv, _⟩ := h.form (by omega)
    cases hv
  · obtain ⟨g, cap', hv, _, hlt⟩ := h.form (by omega)
    injection hv with hv
    injection hv with hv
    subst hv
    refine ⟨_, rfl, hlt, fun i hi => ?_⟩
    have := h.cells (g := g) rfl i _ (vints_get k zs i hi)
    exact this
theorem getD_eq_of_ext {zs ys : List Int} (hl : zs.length = ys.length) (h : ∀ j, j < zs.length → zs.getD j 0 = ys.getD j 0) : zs = ys := by
  apply List.ext_getElem hl
  intro i h1 h2
  have := h i h1
  simpa [h1, h2] using this
theorem IntsAt.cut {k : IntKind} {w : World} {a : Option Addr} {zs : List Int} (h : IntsAt k w a zs) (j cap : Nat) (hc : zs.length ≤ cap) : IntsAt k w (if cap = j then a else a.map (·.add j)) (zs.drop j) := by
  intro hn
  simp at hn
  obtain ⟨x, rfl, hx, hcell⟩ := h (by omega)
  rw [if_neg (by omega)]
  refine ⟨x.add j, rfl, by rw [block_of_add]; exact hx, fun i hi => ?_⟩
  simp at hi
  have e : (x.add j).add i = x.add (j + i) := by
    unfold Addr.add
    by_cases h1 : j = 0 <;> by_cases h2 : i = 0 <;> simp [h1, h2, Nat.add_assoc]
  rw [e, hcell (j + i) (by omega)]
  simp [List.getD_eq_getElem?_getD]
theorem IntsAt.take {k : IntKind} {w : World} {a : Option Addr} {zs : List Int} (h : IntsAt k w a zs) (j : Nat) : IntsAt k w a (zs.take j) := by
  intro hn
  simp at hn
  obtain ⟨x, rfl, hx, hcell⟩ := h (by omega)
  refine ⟨x, rfl, hx, fun i hi => ?_⟩
  simp at hi
  rw [hcell i (by omega), List.getD_eq_getElem?_getD, List.getD_eq_getElem?_getD, List.getElem?_take_of_lt (by omega)]

/-! A block that holds a row of integers, known whole. -/
/-- Block g holds just the integers zs. -/
def RowB (w : World) (g : Nat) (t : TypeId) (k : IntKind) (zs : List Int) : Prop := w.heap[g]? = some (.cells (vints k zs).toArray t (0, 0))
theorem RowB.lt {w : World} {g : Nat} {t : TypeId} {k : IntKind} {zs : List Int} (h : RowB w g t k zs) : g < w.heap.size := lt_of_heap h
theorem RowB.cell {w : World} {g : Nat} {t : TypeId} {k : IntKind} {zs : List Int} (h : RowB w g t k zs) (j : Nat) (hj : j < zs.length) : w.cell? ⟨g, j, none⟩ = some (.int k (zs.getD j 0)) := by
  rw [cell_of_row w g j _ t (0, 0) h]
  simpa using vints_get k zs j hj
theorem RowB.frozen {w : World} {g : Nat} {t : TypeId} {k : IntKind} {zs : List Int} (h : RowB w g t k zs) (j : Nat) : w.frozen? ⟨g, j, none⟩ = false := frozen_of_row h j
theorem RowB.set {w : World} {g : Nat} {t : TypeId} {k : IntKind} {zs : List Int} (h : RowB w g t k zs) (j : Nat) (v : Int) : RowB (w.setCell ⟨g, j, none⟩ (.int k v)) g t k (zs.set j v) := by
  have := heap_set h j (.int k v)
  rw [List.setIfInBounds_toArray, vints_set] at this
  exact this
theorem RowB.far {w : World} {g : Nat} {t : TypeId} {k : IntKind} {zs : List Int} (h : RowB w g t k zs) {p : Addr} (hne : g ≠ p.block) (u : Value) : RowB (w.setCell p u) g t k zs := heap_far h hne u
theorem RowB.drew {w : World} {g : Nat} {t : TypeId} {k : IntKind} {zs : List Int} (h : RowB w g t k zs) : RowB w.drew g t k zs := h
theorem RowB.drewN {w : World} {g : Nat} {t : TypeId} {k : IntKind} {zs : List Int} (h : RowB w g t k zs) (n : Nat) : RowB (w.drewN n) g t k zs := h
theorem RowB.below {w w2 : World} {g : Nat} {t : TypeId} {k : IntKind} {zs : List Int} (h : RowB w g t k zs) (hb : Below w.heap.size w w2) : RowB w2 g t k zs := (hb.block g h.lt).trans h
theorem RowB.alloc {w : World} {g : Nat} {t : TypeId} {k : IntKind} {zs : List Int} (h : RowB w g t k zs) (o : Obj) : RowB (w.alloc o) g t k zs := (Below.heap_alloc w o g h.lt).trans h
theorem RowB.putR {w w2 : World} {g g2 : Nat} {t t2 : TypeId} {k : IntKind} {zs : List Int} {cs : Array Value} (h : RowB w g t k zs) (hp : PutR w w2 g2 t2 cs) (hne : g ≠ g2) : RowB w2 g t k zs := (hp.else_ g hne).trans h
theorem RowB.ints {w : World} {g : Nat} {t : TypeId} {k : IntKind} {zs : List Int} (h : RowB w g t k zs) : IntsAt k w (some ⟨g, 0, none⟩) zs := fun _ =>
  ⟨_, rfl, h.lt, fun i hi => by
    have := h.cell i hi
    have e : (Addr.mk g 0 none).add i = ⟨g, i, none⟩ := by
      unfold Addr.add; split <;> simp_all
    rw [e]; exact this⟩
theorem heap_below {w w2 : World} {g : Nat} {o : Obj} (h : w.heap[g]? = some o) (hb : Below w.heap.size w w2) : w2.heap[g]? = some o := (hb.block g (lt_of_heap h)).trans h
theorem heap_keep {w : World} {g : Nat} {o : Obj} (h : w.heap[g]? = some o) (x : Obj) : (w.alloc x).heap[g]? = some o := (Below.heap_alloc w x g (lt_of_heap h)).trans h
theorem heap_putR {w w2 : World} {g g2 : Nat} {t2 : TypeId} {o : Obj} {cs : Array Value} (h : w.heap[g]? = some o) (hp : PutR w w2 g2 t2 cs) (hne : g ≠ g2) : w2.heap[g]? = some o := (hp.else_ g hne).trans h

/-- 'make([]T, n)', T an integer type: a block of its own that holds n zeros. -/
theorem wpList_make_rowB {P : Program} {ops : Array Oper} {rest : List Oper} {o : Oper} {a : Act} {w : World} {Q : Exit → Act → World → Prop}
    (hg : o.guard = none) (l c : Operand) (t : TypeId) (hop : o.op = Op.makeSlice t l c) (e : TypeId) (k : IntKind) (bytes : Nat) (h1 : P.underlying t = some (.slice e)) (h2 : (P.info? e).map (fun i => (i.zero, i.size, i.bytes)) = some (some (.int k 0), 1, bytes))
    (kl kc : IntKind) (L C : Int) (n : Nat) (hl : a.eval l = .int kl L) (hc : a.eval c = .int kc C) (hL : L = (n : Int)) (hC : C = (n : Int)) (b2 : bytes * n ≤ 281474976710656) (b3 : n ≤ maxLen)
    (hK : ∀ w2, RowB w2 w.heap.size e k (List.replicate n 0) → Below w.heap.size w w2 → w2.heap.size = w.heap.size + 1 → wpList P ops Q rest (a.put o.dst (.slice (some ⟨w.heap.size, 0, none⟩) n n)) w2) :
    wpList P ops Q (o :: rest) a w := by
  refine wpList_plain hg fun K hK' => ?_
  obtain ⟨i, hi, hz, hs, hby⟩ := info_parts h2
  subst hL
  subst hC
  have hb : (i.bytes : Int) * (n : Int) ≤ 281474976710656 := by
    have h : ((i.bytes * n : Nat) : Int) ≤ 281474976710656 := by rw [hby]; omega
    rwa [Int.natCast_mul] at h
  have hr := run_make (P := P) w t e i (.int k 0) h1 hi hz kl kc n n (by omega) (by omega) hb (by unfold maxLen at b3; omega)
  simp only [Int.toNat_natCast] at hr
  unfold Oper.wp
  simp [execOp, hop, hl, hc, hr, Result.andThen, Oper.upon]
  refine hK' _ _ (hK _ ?_ ((Below.refl _ _).alloc (Nat.le_refl _) _) (by simp))
  unfold RowB
  rw [heap_alloc_new, hs]
  congr 1
  have := toList_madeCells_one (Value.int k 0) n
  rw [vints_replicate] at this
  rw [← this]
  simp
  rfl
end Mem
end Go
end
/- Arguments of nested slices and structs, read whole. No function of the program is named here. -/
section
namespace Go.Proofs.YtijeninfmjhbnaaDoor
open Go.RowKit Go.ChangeShapes Go.WideShapes Go.Deep Go.Mem
set_option linter.unusedVariables false
/-- The elements of a slice whose elements take sz cells each; E says what lies at an element's address. -/
def SlAt {α : Type} (sz : Nat) (E : World → Addr → α → Prop) (w : World) (a : Option Addr) (l : List α) : Prop :=
  0 < l.length → ∃ x, a = some x ∧ x.block < w.heap.size ∧ ∀ i (h : i < l.length), E w (x.add (i * sz)) l[i]
/-- a fact that abides what lies beyond -/
def Abides {α : Type} (E : World → Addr → α → Prop) : Prop := ∀ w w' p y, E w p y → Below w.heap.size w w' → E w' p y
theorem SlAt.below {α : Type} {sz : Nat} {E : World → Addr → α → Prop} (hE : Abides E) {w w' : World} {a : Option Addr} {l : List α} (h : SlAt sz E w a l) (hb : Below w.heap.size w w') : SlAt sz E w' a l := fun h0 => by
  obtain ⟨x, h1, h2, h3⟩ := h h0
  exact ⟨x, h1, Nat.lt_of_lt_of_le h2 hb.size, fun i hi => hE _ _ _ _ (h3 i hi) hb⟩
theorem cell_abides {w w' : World} {p : Addr} {v : Value} (h : w.cell? p = some v) (hb : Below w.heap.size w w') : w'.cell? p = some v :=
  (hb.cell (World.block_lt_of_cell? _ _ h)).trans h
/-- the blocks from B on are as they were -/
def SameUp (B : Nat) (w w2 : World) : Prop := w.heap.size ≤ w2.heap.size ∧ ∀ g, B ≤ g → g < w.heap.size → w2.heap[g]? = w.heap[g]?
/-- R holds, and leans on the blocks from B on alone -/
def Up (B : Nat) (R : World → Prop) (w : World) : Prop := ∀ w2, SameUp B w w2 → R w2
theorem Up.now {B : Nat} {R : World → Prop} {w : World} (h : Up B R w) : R w := h w ⟨Nat.le_refl _, fun _ _ _ => rfl⟩
theorem Up.below {B : Nat} {R : World → Prop} {w w' : World} (h : Up B R w) (hb : Below w.heap.size w w') : Up B R w' := fun w2 hs => h w2 ⟨Nat.le_trans hb.size hs.1, fun g h1 h2 => (hs.2 g h1 (Nat.lt_of_lt_of_le h2 hb.size)).trans (hb.block g h2)⟩
theorem Up.lower {B C : Nat} {R : World → Prop} {w : World} (h : Up B R w) (hc : C ≤ B) : Up C R w := fun w2 hs => h w2 ⟨hs.1, fun g h1 h2 => hs.2 g (Nat.le_trans hc h1) h2⟩
theorem Up.set {B : Nat} {R : World → Prop} {w : World} (h : Up B R w) (p : Addr) (v : Value) (hp : p.block < B) : Up B R (w.setCell p v) := fun w2 hs => h w2 ⟨by simpa using hs.1, fun g h1 h2 => (hs.2 g h1 (by simpa using h2)).trans (Below.heap_setCell w p v g (by omega))⟩
theorem Up.grown {B : Nat} {R : World → Prop} {w w' : World} {row : Option Nat} (h : Up B R w) (hg : w.grownBy w' row) (hr : ∀ r, row = some r → r < B) : Up B R w' := fun w2 hs => h w2 ⟨Nat.le_trans hg.size hs.1, fun g h1 h2 => (hs.2 g h1 (Nat.lt_of_lt_of_le h2 hg.size)).trans (hg.block g h2 (fun e => by have := hr g e.symm; omega))⟩
theorem cell_same {w w2 : World} {p : Addr} (h : w2.heap[p.block]? = w.heap[p.block]?) : w2.cell? p = w.cell? p := by
  unfold World.cell?; rw [h]
theorem cell_up {B : Nat} {w w2 : World} {p : Addr} {v : Value} (hs : SameUp B w w2) (hp : B ≤ p.block) (h : w.cell? p = some v) : w2.cell? p = some v :=
  (cell_same (hs.2 _ hp (World.block_lt_of_cell? _ _ h))).trans h
theorem ints_up {B : Nat} {w w2 : World} {k : IntKind} {a : Option Addr} {zs : List Int} (hs : SameUp B w w2) (hp : ∀ x, a = some x → B ≤ x.block) (h : IntsAt k w a zs) : IntsAt k w2 a zs := fun h0 => by
  obtain ⟨x, e, h1, h2⟩ := h h0
  exact ⟨x, e, Nat.lt_of_lt_of_le h1 hs.1, fun i hi => cell_up hs (by rw [block_of_add]; exact hp x e) (h2 i hi)⟩
section
variable {H : Type} {enc : TypeId × Value → H} {P : Program} {w : World} {base : Nat} {spare : Nat → Bool} {held : Bool}
theorem bulk_range {D : Nat → DataW H} {α : Type} {cost : α → Nat} (n : Nat) (Y : Nat → α) (h : ∀ i, i < n → cost (Y i) ≤ Rows.uptoBulk (D i)) : (((List.range n).map Y).map cost).sum ≤ Rows.uptoBulkAll ((List.range n).map D) := by
  have key : ∀ l : List Nat, (∀ i ∈ l, i < n) → ((l.map Y).map cost).sum ≤ Rows.uptoBulkAll (l.map D) := by
    intro l
    induction l with
    | nil => intro _; simp [Rows.uptoBulkAll]
    | cons i r ih =>
      intro hl
      have h1 := h i (hl i List.mem_cons_self)
      have h2 := ih (fun j hj => hl j (List.mem_cons_of_mem _ hj))
      simp only [List.map_cons, List.sum_cons, Rows.uptoBulkAll]
      omega
  exact key _ fun i hi => List.mem_range.1 hi
theorem read_slice {α : Type} [Inhabited α] {t e : TypeId} {sz : Nat} {E : World → Addr → α → Prop} {cost : α → Nat} (ht : P.underlying t = some (.slice e)) (hs : P.cellsOf e = sz) (h0 : 0 < sz)
    (hE : ∀ (fuel : Nat) (cs : List Value) (x : DataW H × List MemPlace) (p : Addr), cs.length = sz → (∀ j, j < sz → w.cell? (p.add j) = cs[j]?) → DataW.trod enc P w base spare held fuel e cs = some x → ∃ y, E w p y ∧ cost y ≤ Rows.uptoBulk x.1)
    {fuel : Nat} {cs : List Value} {x : DataW H × List MemPlace} (h : DataW.trod enc P w base spare held fuel t cs = some x) :
    ∃ (a : Option Addr) (l : List α) (cap : Nat), cs = [.slice a l.length cap] ∧ l.length ≤ cap ∧ cap ≤ maxLen ∧ SlAt sz E w a l ∧ (l.map cost).sum + 1 ≤ Rows.uptoBulk x.1 := by
  rcases open_slice ht h with ⟨rfl, rfl⟩ | ⟨a, n, cap, m, n2, D, Pl, rfl, _, hl, hm, hmm, rfl, hi⟩
  · exact ⟨none, [], 0, rfl, Nat.le_refl _, Nat.zero_le _, fun hh => by simp at hh, by simp [Rows.uptoBulk]⟩
  · have hnm : n ≤ m := by rw [hmm]; split <;> omega
    have key : ∀ i, i < n → ∃ y, E w (a.add (i * sz)) y ∧ cost y ≤ Rows.uptoBulk (D i) := by
      intro i hin
      obtain ⟨cs', hc, htr⟩ := hi i (by omega)
      obtain ⟨_, hcl, hat⟩ := World.cells?_some hc
      rw [hs] at hcl hat
      exact hE _ cs' _ (a.add (i * sz)) hcl (fun j hj => hat j hj) htr
    obtain ⟨Y, hY⟩ := choose_lt key
    refine ⟨some a, (List.range n).map Y, cap, by simp, by simpa using hl, hm, fun hh => ?_, ?_⟩
    · rw [List.length_map, List.length_range] at hh
      refine ⟨a, rfl, ?_, fun i hi' => ?_⟩
      · obtain ⟨cs', hc, _⟩ := hi 0 (by omega)
        obtain ⟨_, hcl, hat⟩ := World.cells?_some hc
        have h1 := hat 0 (by rw [hs]; exact h0)
        rw [List.getElem?_eq_getElem (by rw [hcl, hs]; exact h0)] at h1
        have := World.block_lt_of_cell? _ _ h1
        simpa [block_of_add] using this
      · rw [List.length_map, List.length_range] at hi'
        simpa using (hY i hi').1
    · have := bulk_range n Y (fun i hi => (hY i hi).2)
      simp only [Rows.uptoBulk]
      omega
end
end Go.Proofs.YtijeninfmjhbnaaDoor
end
