/- Lemmas for the law TopSlotWorld: Mix, Mem, Mem2, W64, Sum, SumBytes. No conditions. -/
import Derived.WalkKit
import Derived.ProofKit
import Derived.Laws.Bits64b
import Derived.Lib.Hide
import Derived.LoopN
import Derived.Test.YtpilpkbblkhnaaaRows
import Derived.Deep.AppendLies
import Derived.BigQuiet
import Derived.Deep.QuietTactic
import Derived.Laws.Rows
import Derived.Laws.OwnMore
import Derived.Laws.MakeOwn
import Derived.Deep.RegionWith
import Derived.Deep.LoopGhost
import Derived.Deep.CutRange
import Derived.Deep.DeepCutAuto
/- rnd: Mix; the reference's Scrambled. -/
section
namespace Go.Proofs.Ytpilpkbblkhnaaa
open Go.ChangeShapes Go.WideShapes Go.ChangeAt Go.RowKit
set_option linter.unusedVariables false

theorem xor_u64_nat (a b : Nat) (ha : a < 18446744073709551616) (hb : b < 18446744073709551616) : bits .xor .u64 (a : Int) (b : Int) = ((a ^^^ b : Nat) : Int) := by
  have hx : a ^^^ b < 2 ^ 64 := Nat.xor_lt_two_pow (by omega) (by omega)
  have h1 : (BitVec.ofInt 64 (a : Int)).toNat = a := by
    rw [BitVec.ofInt_natCast, BitVec.toNat_ofNat]; exact Nat.mod_eq_of_lt (by omega)
  have h2 : (BitVec.ofInt 64 (b : Int)).toNat = b := by
    rw [BitVec.ofInt_natCast, BitVec.toNat_ofNat]; exact Nat.mod_eq_of_lt (by omega)
  show IntKind.u64.wrap ((BitVec.ofInt 64 (a : Int) ^^^ BitVec.ofInt 64 (b : Int)).toNat : Int) = _
  rw [BitVec.toNat_xor, h1, h2, IntKind.wrap_u64]
  omega

/-- x with its upper bits laid over it. -/
def over (x k : Nat) : Nat := x ^^^ (x / k)
theorem over_lt (x k : Nat) (h : x < 18446744073709551616) : over x k < 18446744073709551616 := by
  have : x / k ≤ x := Nat.div_le_self _ _
  exact Nat.xor_lt_two_pow (n := 64) (by omega) (by omega)
def mix1 (x : Nat) : Nat := over x 2147483648 * 7640891576956012809 % 18446744073709551616
def mix2 (x : Nat) : Nat := over (mix1 x) 134217728 * 13503953896175478587 % 18446744073709551616
def mix (x : Nat) : Nat := over (mix2 x) 1073741824
theorem mix_lt (x : Nat) : mix x < 18446744073709551616 := over_lt _ _ (Nat.mod_lt _ (by omega))
theorem over_eq (x k : Nat) (h : x < 18446744073709551616) : bits .xor .u64 (x : Int) ((x : Int) / (k : Int)) = over x k := by
  have : x / k ≤ x := Nat.div_le_self _ _
  rw [← Int.natCast_ediv]; exact xor_u64_nat x (x / k) h (by omega)

theorem rnd_Mix (x : Nat) (h1 : x < 18446744073709551616) (w : World) : Calls Try.prog 66 #[.int .u64 x] w fun e w' => e = .returned (.int .u64 (mix x : Nat)) ∧ w = w' := by
  obtain ⟨a1, ha1⟩ : ∃ k, k = over x 2147483648 := ⟨_, rfl⟩
  obtain ⟨a2, ha2⟩ : ∃ k, k = mix1 x := ⟨_, rfl⟩
  obtain ⟨b1, hb1⟩ : ∃ k, k = over a2 134217728 := ⟨_, rfl⟩
  obtain ⟨b2, hb2⟩ : ∃ k, k = mix2 x := ⟨_, rfl⟩
  obtain ⟨c1, hc1⟩ : ∃ k, k = mix x := ⟨_, rfl⟩
  have l2 : a2 < 18446744073709551616 := by rw [ha2]; exact Nat.mod_lt _ (by omega)
  have l3 : b2 < 18446744073709551616 := by rw [hb2]; exact Nat.mod_lt _ (by omega)
  have e1 : bits .xor .u64 (x : Int) ((x : Int) / 2147483648) = a1 := by rw [ha1]; exact over_eq x 2147483648 h1
  have e2 : IntKind.u64.wrap ((a1 : Int) * 7640891576956012809) = a2 := by rw [ha2, mix1, ← ha1, IntKind.wrap_u64]; omega
  have e3 : bits .xor .u64 (a2 : Int) ((a2 : Int) / 134217728) = b1 := by rw [hb1]; exact over_eq a2 134217728 l2
  have e4 : IntKind.u64.wrap ((b1 : Int) * 13503953896175478587) = b2 := by rw [hb2, mix2, ← ha2, ← hb1, IntKind.wrap_u64]; omega
  have e5 : bits .xor .u64 (b2 : Int) ((b2 : Int) / 1073741824) = c1 := by rw [hc1, mix, ← hb2]; exact over_eq b2 1073741824 l3
  rw [← hc1]
  clear ha1 ha2 hb1 hb2 hc1
  go_enter Try.func66, Try.ntmps66
  go_wp2
  go_ret
  exact ⟨rfl, rfl⟩

end Go.Proofs.Ytpilpkbblkhnaaa
end
/- Laws on memory that the walks of this seat use: appends and makes on rows of the call's own, whole rows stored, draws. No program is named here. -/
section
namespace Go
open Go.RowKit

namespace Mem
/-- Two calls, one behind the other. -/
theorem bt {w a b : World} (h1 : Below w.heap.size w a) (h2 : Below a.heap.size a b) : Below w.heap.size w b := h1.trans (h2.mono h1.size)
theorem below_drewN {B : Nat} {w w2 : World} (h : Below B w w2) (n : Nat) : Below B w (w2.drewN n) := ⟨h.os, h.tape, h.output, h.size, h.block⟩

/-- 'append(v, x)' of one element, v nil or the call's own: the one element lies in a new block of its own. -/
theorem wpList_append_new {P : Program} {w : World} {ops : Array Oper} {rest : List Oper} {o : Oper} {a : Act} {Q : Exit → Act → World → Prop} (hgd : o.guard = none) (s x : Operand) (t : TypeId)
    (ho : o.op = .call { callee := .builtin .append, args := #[s, x], argTypes := #[t, t] })
    (base : Nat) (e : TypeId) (z : Value) (size bytes : Nat) (ht : P.underlying t = some (.slice e)) (hi : (P.info? e).map (fun i => (i.zero, i.size, i.bytes)) = some (some z, size, bytes))
    (hzs : z.cells.size = size) (hsz : 0 < size)
    (v : Value) (n : Nat) (xs : List Value) (hs : a.eval s = v) (hown : w.ownsRow base e size v n xs)
    (U : Array Value) (T : TypeId) (hx : a.eval x = .slice (some ⟨w.heap.size, 0, none⟩) 1 1) (hU : U.size = size) (h1 : U.toList.all (·.oneCell') = true)
    (hbytes : (n + 1) * bytes ≤ 140737488355328) (hby : 0 < bytes) (hbase : base ≤ w.heap.size)
    (h : ∀ g cap w', w'.ownsRow base e size (.slice (some ⟨g, 0, none⟩) (n + 1) cap) (n + 1) (xs ++ U.toList) → w.grownBy w' v.ownBlock → (v.ownBlock = some g ∨ g = w.heap.size + 1) → g < w'.heap.size → wpList P ops Q rest (a.put o.dst (.slice (some ⟨g, 0, none⟩) (n + 1) cap)) w') :
    wpList P ops Q (o :: rest) a (w.alloc (.cells U T)) := by
  obtain ⟨i, hi1, hi2, hi3, hi4⟩ := info_parts hi
  have hn : n + 1 ≤ 140737488355328 := Nat.le_trans (Nat.le_mul_of_pos_right _ hby) hbytes
  refine wpList_append_lies _ hgd s x t ho base e i z size bytes ht hi1 hi2 hi3 hi4 hzs hsz v n xs hs (hown.alloc _) ⟨w.heap.size, 0, none⟩ 1 1 U.toList hx (by simp [hU]) (World.news_of_block (heap_alloc_new w _)) (fun v hv => List.all_eq_true.1 h1 v hv)
    (by omega) (by unfold maxLen; omega) hbytes (by simp; omega) (w.heap.size + 1) (by simp) ?_
  intro g cap w' hown' hg hor hlt
  exact h g cap w' hown' ((World.grownBy_alloc w _ _).trans hg) hor hlt

/-- Behind a store into a variable of its own block: the block holds the new value, all others are as they were. -/
structure Put (w w2 : World) (g : Nat) (t : TypeId) (v : Value) : Prop where
  here : w2.heap[g]? = some (.cells #[v] t (0, 0))
  else_ : ∀ k, k ≠ g → w2.heap[k]? = w.heap[k]?
  size : w2.heap.size = w.heap.size
  os : w2.os = w.os
  tape : w2.tape = w.tape
  output : w2.output = w.output
theorem Put.below {w w2 : World} {g B : Nat} {t : TypeId} {v : Value} (h : Put w w2 g t v) (hB : B ≤ g) : Below B w w2 := ⟨h.os, h.tape, h.output, by rw [h.size]; exact Nat.le_refl _, fun k hk => h.else_ k (by omega)⟩

theorem Put.drew {w w2 : World} {g : Nat} {t : TypeId} {v : Value} (h : Put w w2 g t v) : Put w w2.drew g t v := ⟨h.here, h.else_, h.size, h.os, h.tape, h.output⟩
theorem wpList_store_var {P : Program} {ops : Array Oper} {rest : List Oper} {o : Oper} {a : Act} {w : World} {Q : Exit → Act → World → Prop} (hgd : o.guard = none) (ty : TypeId) (x y : Operand) (ho : o.op = .store ty x y)
    (g : Nat) (v : Value) (hx : a.eval x = .pointer (some ⟨g, 0, none⟩)) (hy : a.eval y = v) (hv : v.cells = #[v]) (h1 : v.oneCell' = true)
    (t : TypeId) (old : Value) (hg : w.heap[g]? = some (.cells #[old] t (0, 0))) (hi : (P.info? ty).map (·.size) = some 1)
    (h : ∀ w2 : World, Put w w2 g t v → wpList P ops Q rest (a.put o.dst undef) w2) : wpList P ops Q (o :: rest) a w := by
  have hrun : (storeVar ty ⟨g, 0, none⟩ v).run P w = .ok () (w.setRow g #[v]) := by
    have := run_storeCells_from (P := P) g t [v] 0 #[old] w hg (by simp) (fun u hu => by simp at hu; subst hu; exact h1)
    cases hq : P.info? ty with
    | none => simp [hq] at hi
    | some i =>
      have hs : i.size = 1 := by simpa [hq] using hi
      simp [storeVar, sizeOf, typeInfo, hq, hv, hs, this]
  refine wpList_plain hgd fun K hK => ?_
  unfold Oper.wp execOp
  simp only [ho, hx, hy, Instr.storeAt, Instr.sureAddr, Sem.run_bind, Sem.run_pure, Result.andThen_ok, hrun]
  exact hK _ _ (h _ ⟨setRow_heap w g _ _ t _ hg, fun k hk => setRow_other w g k _ hk, by simp, rfl, rfl, rfl⟩)

/-- A slice of integers that came in: nil, or 'cap' cells, of which the first 'len' are its elements. -/
def IsRow (k : IntKind) (w : World) (a : Option Addr) (len cap : Nat) (zs : List Int) : Prop :=
  (a = none ∧ len = 0 ∧ cap = 0 ∧ zs = []) ∨
  ∃ x, a = some x ∧ len ≤ cap ∧ cap ≤ maxLen ∧ zs.length = cap ∧ (∀ i, i < zs.length → w.cell? (x.add i) = some (.int k (zs.getD i 0))) ∧ ∀ n ∈ zs, (Lit.int k n).wf = true
end Mem
end Go
end
/- More laws on memory: a whole row stored into a variable's block; results out of slots and blocks. No program is named here. -/
section
namespace Go
open Go.RowKit
namespace Mem
/-- Behind a store of a whole row into block g: it holds the new cells, all other blocks are as they were. -/
structure PutR (w w2 : World) (g : Nat) (t : TypeId) (cs : Array Value) : Prop where
  here : w2.heap[g]? = some (.cells cs t (0, 0))
  else_ : ∀ k, k ≠ g → w2.heap[k]? = w.heap[k]?
  size : w2.heap.size = w.heap.size
  os : w2.os = w.os
  tape : w2.tape = w.tape
  output : w2.output = w.output
theorem PutR.below {w w2 : World} {g B : Nat} {t : TypeId} {cs : Array Value} (h : PutR w w2 g t cs) (hB : B ≤ g) : Below B w w2 := ⟨h.os, h.tape, h.output, by rw [h.size]; exact Nat.le_refl _, fun k hk => h.else_ k (by omega)⟩
theorem PutR.drew {w w2 : World} {g : Nat} {t : TypeId} {cs : Array Value} (h : PutR w w2 g t cs) : PutR w w2.drew g t cs := ⟨h.here, h.else_, h.size, h.os, h.tape, h.output⟩
theorem PutR.lt {w w2 : World} {g : Nat} {t : TypeId} {cs : Array Value} (h : PutR w w2 g t cs) : g < w.heap.size := by
  have := h.here
  rcases Nat.lt_or_ge g w2.heap.size with hlt | hge
  · rwa [h.size] at hlt
  · rw [Array.getElem?_eq_none hge] at this; cases this

theorem wpList_store_rowP {P : Program} {ops : Array Oper} {rest : List Oper} {o : Oper} {a : Act} {w : World} {Q : Exit → Act → World → Prop} (hgd : o.guard = none) (ty : TypeId) (x y : Operand) (ho : o.op = .store ty x y)
    (g : Nat) (cells : Array Value) (hx : a.eval x = .pointer (some ⟨g, 0, none⟩)) (hy : a.eval y = .agg cells)
    (t : TypeId) (old : Array Value) (hg : w.heap[g]? = some (.cells old t (0, 0))) (hi : (P.info? ty).map (·.size) = some cells.size)
    (hold : old.size = cells.size) (h1 : cells.all (·.oneCell') = true)
    (h : ∀ w2 : World, PutR w w2 g t cells → wpList P ops Q rest (a.put o.dst undef) w2) : wpList P ops Q (o :: rest) a w :=
  wpList_store_row hgd ty x y ho g cells hx hy t old hg hi hold h1
    (h _ ⟨setRow_heap w g old cells t _ hg, fun k hk => setRow_other w g k cells hk, by simp, rfl, rfl, rfl⟩)

theorem results_ct {P : Program} {fn : Func} {a p : Tmp} {ty : TypeId} (h : fn.results = #[.cell p ty, .tmp a]) (tmps : Array Value) (w : World) (g : Nat) (t : TypeId) (cs : Array Value) (fr : Nat × Nat) (d : TypeDesc)
    (hp : tmps.getD p undef = .pointer (some ⟨g, 0, none⟩)) (hg : w.heap[g]? = some (.cells cs t fr))
    (hu : P.underlying ty = some d) (hd : (match d with | .struct _ | .array _ _ => true | _ => false) = true) (hi : (P.info? ty).map (·.size) = some cs.size) :
    (results fn tmps).run P w = .ok (.tuple #[.agg cs, tmps.getD a undef]) w := by
  have hp' : tmps[p]?.getD undef = .pointer (some ⟨g, 0, none⟩) := by simpa using hp
  simp [results, h, hp', asAddr, run_loadVar_row w g t ty cs fr d hg hu hd hi]
theorem row_second (w : World) (o o2 : Obj) : ((w.alloc o).alloc o2).heap[w.heap.size + 1]? = some o2 := by
  have := heap_alloc_new (w.alloc o) o2
  simpa using this
theorem row_first (w : World) (o o2 : Obj) : ((w.alloc o).alloc o2).heap[w.heap.size]? = some o :=
  (Below.heap_alloc (w.alloc o) o2 w.heap.size (by simp)).trans (heap_alloc_new w o)
theorem lt_of_heap {w : World} {g : Nat} {o : Obj} (h : w.heap[g]? = some o) : g < w.heap.size := by
  rcases Nat.lt_or_ge g w.heap.size with hlt | hge
  · exact hlt
  · rw [Array.getElem?_eq_none hge] at h; cases h
theorem ones2 (a b : Value) (ha : a.oneCell' = true) (hb : b.oneCell' = true) : (#[a, b] : Array Value).all (·.oneCell') = true := by simp [ha, hb]
theorem ones3 (a b c : Value) (ha : a.oneCell' = true) (hb : b.oneCell' = true) (hc : c.oneCell' = true) : (#[a, b, c] : Array Value).all (·.oneCell') = true := by simp [ha, hb, hc]
theorem heap_set {w : World} {g : Nat} {t : TypeId} {cs : Array Value} (h : w.heap[g]? = some (.cells cs t (0, 0))) (i : Nat) (u : Value) : (w.setCell ⟨g, i, none⟩ u).heap[g]? = some (.cells (cs.setIfInBounds i u) t (0, 0)) := by
  simp [World.setCell, Array.getElem?_modify, h]
theorem frozen_of_row {w : World} {g : Nat} {t : TypeId} {cs : Array Value} (h : w.heap[g]? = some (.cells cs t (0, 0))) (i : Nat) : w.frozen? ⟨g, i, none⟩ = false := by
  simp [World.frozen?, h]
theorem heap_far {w : World} {g : Nat} {o : Obj} (h : w.heap[g]? = some o) {p : Addr} (hne : g ≠ p.block) (u : Value) : (w.setCell p u).heap[g]? = some o := (Below.heap_setCell w p u g hne).trans h
theorem heap_drew {w : World} {g : Nat} {o : Obj} (h : w.heap[g]? = some o) : w.drew.heap[g]? = some o := h
theorem heap_set2 {w : World} {g : Nat} {t : TypeId} {a b : Value} (h : w.heap[g]? = some (.cells #[a, b] t (0, 0))) (x y : Value) : ((w.setCell ⟨g, 0, none⟩ x).setCell ⟨g, 1, none⟩ y).heap[g]? = some (.cells #[x, y] t (0, 0)) := heap_set (heap_set h 0 x) 1 y
/-- The elements of a slice of integers; the address is asked for only where there is one. -/
def IntsAt (k : IntKind) (w : World) (a : Option Addr) (zs : List Int) : Prop :=
  0 < zs.length → ∃ x, a = some x ∧ x.block < w.heap.size ∧ ∀ i, i < zs.length → w.cell? (x.add i) = some (.int k (zs.getD i 0))
theorem block_of_add (a : Addr) (n : Nat) : (a.add n).block = a.block := by unfold Addr.add; split <;> rfl
theorem IntsAt.of_row {k : IntKind} {w : World} {a : Option Addr} {len cap : Nat} {zs : List Int} (h : IsRow k w a len cap zs) : IntsAt k w a (zs.take len) := by
  intro hn
  rcases h with ⟨rfl, rfl, rfl, rfl⟩ | ⟨x, rfl, h1, h2, h3, h4, h5⟩
  · simp at hn
  · have hz : 0 < zs.length := by simp at hn; omega
    refine ⟨x, rfl, ?_, fun i hi => ?_⟩
    · have := World.block_lt_of_cell? w _ (h4 0 hz)
      rwa [block_of_add] at this
    · rw [h4 i (by simp at hi; omega)]
      simp at hi
      rw [List.getD_eq_getElem?_getD, List.getD_eq_getElem?_getD, List.getElem?_take_of_lt (by omega)]
theorem IntsAt.below {k : IntKind} {w w' : World} {a : Option Addr} {zs : List Int} (h : IntsAt k w a zs) (hb : Below w.heap.size w w') : IntsAt k w' a zs := by
  intro hn
  obtain ⟨x, rfl, hx, hc⟩ := h hn
  exact ⟨x, rfl, Nat.lt_of_lt_of_le hx hb.size, fun i hi => (hb.cell (by rw [block_of_add]; exact hx)).trans (hc i hi)⟩
theorem IntsAt.drew {k : IntKind} {w : World} {a : Option Addr} {zs : List Int} (h : IntsAt k w a zs) : IntsAt k w.drew a zs := h
theorem IsRow.len {k : IntKind} {w : World} {a : Option Addr} {len cap : Nat} {zs : List Int} (h : IsRow k w a len cap zs) : (zs.take len).length = len := by
  rcases h with ⟨rfl, rfl, rfl, rfl⟩ | ⟨x, rfl, h1, h2, h3, h4, h5⟩
  · rfl
  · simp; omega
theorem IsRow.le {k : IntKind} {w : World} {a : Option Addr} {len cap : Nat} {zs : List Int} (h : IsRow k w a len cap zs) : len ≤ cap := by
  rcases h with ⟨rfl, rfl, rfl, rfl⟩ | ⟨x, rfl, h1, h2, h3, h4, h5⟩
  · exact Nat.le_refl _
  · exact h1
theorem IsRow.wf {k : IntKind} {w : World} {a : Option Addr} {len cap : Nat} {zs : List Int} (h : IsRow k w a len cap zs) : ∀ n ∈ zs.take len, (Lit.int k n).wf = true := by
  rcases h with ⟨rfl, rfl, rfl, rfl⟩ | ⟨x, rfl, h1, h2, h3, h4, h5⟩
  · simp
  · exact fun n hn => h5 n (List.mem_of_mem_take hn)
/-- Integers of kind k as values. -/
def vints (k : IntKind) (zs : List Int) : List Value := zs.map (.int k)
theorem vints_set (k : IntKind) (zs : List Int) (j : Nat) (v : Int) : (vints k zs).set j (.int k v) = vints k (zs.set j v) := by simp [vints, List.map_set]
theorem vints_replicate (k : IntKind) (n : Nat) : List.replicate n (Value.int k 0) = vints k (List.replicate n 0) := by simp [vints]
theorem vints_get (k : IntKind) (zs : List Int) (j : Nat) (h : j < zs.length) : (vints k zs)[j]? = some (.int k (zs.getD j 0)) := by
  simp [vints, List.getD_eq_getElem?_getD, List.getElem?_eq_getElem h]
theorem vints_length (k : IntKind) (zs : List Int) : (vints k zs).length = zs.length := by simp [vints]
theorem vints_snoc (k : IntKind) (zs : List Int) (d : Int) : vints k zs ++ #[Value.int k d].toList = vints k (zs ++ [d]) := by simp [vints]
theorem vints_append (k : IntKind) (zs ys : List Int) : vints k zs ++ vints k ys = vints k (zs ++ ys) := by simp [vints]
theorem vints_one (k : IntKind) (zs : List Int) : ∀ v ∈ vints k zs, v.oneCell' = true := by
  intro v hv
  obtain ⟨z, _, rfl⟩ := List.mem_map.1 hv
  rfl
/-- A row of the call's own, as a slice of integers. -/
theorem IntsAt.of_own {k : IntKind} {w : World} {base e : Nat} {a : Option Addr} {n cap : Nat} {zs : List Int} (h : w.ownsRow base e 1 (.slice a n cap) n (vints k zs)) (hn : n = zs.length) : IntsAt k w a zs := by
  intro hz
  rcases a with _ | ad
  · obtain ⟨g, cap', hv, _⟩ := h.form (by omega)
    cases hv
  · obtain ⟨g, cap', hv, _, hlt⟩ := h.form (by omega)
    injection hv with hv
    injection hv with hv
    subst hv
    refine ⟨_, rfl, hlt, fun i hi => ?_⟩
    have := h.cells (g := g) rfl i _ (vints_get k zs i hi)
    exact this
theorem getD_eq_of_ext {zs ys : List Int} (hl : zs.length = ys.length) (h : ∀ j, j < zs.length → zs.getD j 0 = ys.getD j 0) : zs = ys := by
  apply List.ext_getElem hl
  intro i h1 h2
  have := h i h1
  simpa [h1, h2] using this
theorem IntsAt.cut {k : IntKind} {w : World} {a : Option Addr} {zs : List Int} (h : IntsAt k w a zs) (j cap : Nat) (hc : zs.length ≤ cap) : IntsAt k w (if cap = j then a else a.map (·.add j)) (zs.drop j) := by
  intro hn
  simp at hn
  obtain ⟨x, rfl, hx, hcell⟩ := h (by omega)
  rw [if_neg (by omega)]
  refine ⟨x.add j, rfl, by rw [block_of_add]; exact hx, fun i hi => ?_⟩
  simp at hi
  have e : (x.add j).add i = x.add (j + i) := by
    unfold Addr.add
    by_cases h1 : j = 0 <;> by_cases h2 : i = 0 <;> simp [h1, h2, Nat.add_assoc]
  rw [e, hcell (j + i) (by omega)]
  simp [List.getD_eq_getElem?_getD]
theorem IntsAt.take {k : IntKind} {w : World} {a : Option Addr} {zs : List Int} (h : IntsAt k w a zs) (j : Nat) : IntsAt k w a (zs.take j) := by
  intro hn
  simp at hn
  obtain ⟨x, rfl, hx, hcell⟩ := h (by omega)
  refine ⟨x, rfl, hx, fun i hi => ?_⟩
  simp at hi
  rw [hcell i (by omega), List.getD_eq_getElem?_getD, List.getD_eq_getElem?_getD, List.getElem?_take_of_lt (by omega)]

/-! A block that holds a row of integers, known whole. -/
/-- Block g holds just the integers zs. -/
def RowB (w : World) (g : Nat) (t : TypeId) (k : IntKind) (zs : List Int) : Prop := w.heap[g]? = some (.cells (vints k zs).toArray t (0, 0))
theorem RowB.lt {w : World} {g : Nat} {t : TypeId} {k : IntKind} {zs : List Int} (h : RowB w g t k zs) : g < w.heap.size := lt_of_heap h
theorem RowB.cell {w : World} {g : Nat} {t : TypeId} {k : IntKind} {zs : List Int} (h : RowB w g t k zs) (j : Nat) (hj : j < zs.length) : w.cell? ⟨g, j, none⟩ = some (.int k (zs.getD j 0)) := by
  rw [cell_of_row w g j _ t (0, 0) h]
  simpa using vints_get k zs j hj
theorem RowB.frozen {w : World} {g : Nat} {t : TypeId} {k : IntKind} {zs : List Int} (h : RowB w g t k zs) (j : Nat) : w.frozen? ⟨g, j, none⟩ = false := frozen_of_row h j
theorem RowB.set {w : World} {g : Nat} {t : TypeId} {k : IntKind} {zs : List Int} (h : RowB w g t k zs) (j : Nat) (v : Int) : RowB (w.setCell ⟨g, j, none⟩ (.int k v)) g t k (zs.set j v) := by
  have := heap_set h j (.int k v)
  rw [List.setIfInBounds_toArray, vints_set] at this
  exact this
theorem RowB.far {w : World} {g : Nat} {t : TypeId} {k : IntKind} {zs : List Int} (h : RowB w g t k zs) {p : Addr} (hne : g ≠ p.block) (u : Value) : RowB (w.setCell p u) g t k zs := heap_far h hne u
theorem RowB.drew {w : World} {g : Nat} {t : TypeId} {k : IntKind} {zs : List Int} (h : RowB w g t k zs) : RowB w.drew g t k zs := h
theorem RowB.drewN {w : World} {g : Nat} {t : TypeId} {k : IntKind} {zs : List Int} (h : RowB w g t k zs) (n : Nat) : RowB (w.drewN n) g t k zs := h
theorem RowB.below {w w2 : World} {g : Nat} {t : TypeId} {k : IntKind} {zs : List Int} (h : RowB w g t k zs) (hb : Below w.heap.size w w2) : RowB w2 g t k zs := (hb.block g h.lt).trans h
theorem RowB.alloc {w : World} {g : Nat} {t : TypeId} {k : IntKind} {zs : List Int} (h : RowB w g t k zs) (o : Obj) : RowB (w.alloc o) g t k zs := (Below.heap_alloc w o g h.lt).trans h
theorem RowB.ints {w : World} {g : Nat} {t : TypeId} {k : IntKind} {zs : List Int} (h : RowB w g t k zs) : IntsAt k w (some ⟨g, 0, none⟩) zs := fun _ =>
  ⟨_, rfl, h.lt, fun i hi => by
    have := h.cell i hi
    have e : (Addr.mk g 0 none).add i = ⟨g, i, none⟩ := by
      unfold Addr.add; split <;> simp_all
    rw [e]; exact this⟩
theorem heap_below {w w2 : World} {g : Nat} {o : Obj} (h : w.heap[g]? = some o) (hb : Below w.heap.size w w2) : w2.heap[g]? = some o := (hb.block g (lt_of_heap h)).trans h
theorem heap_keep {w : World} {g : Nat} {o : Obj} (h : w.heap[g]? = some o) (x : Obj) : (w.alloc x).heap[g]? = some o := (Below.heap_alloc w x g (lt_of_heap h)).trans h
/-- 'make([]T, n)', T an integer type: a block of its own that holds n zeros. -/
theorem wpList_make_rowB {P : Program} {ops : Array Oper} {rest : List Oper} {o : Oper} {a : Act} {w : World} {Q : Exit → Act → World → Prop}
    (hg : o.guard = none) (l c : Operand) (t : TypeId) (hop : o.op = Op.makeSlice t l c) (e : TypeId) (k : IntKind) (bytes : Nat) (h1 : P.underlying t = some (.slice e)) (h2 : (P.info? e).map (fun i => (i.zero, i.size, i.bytes)) = some (some (.int k 0), 1, bytes))
    (kl kc : IntKind) (L C : Int) (n : Nat) (hl : a.eval l = .int kl L) (hc : a.eval c = .int kc C) (hL : L = (n : Int)) (hC : C = (n : Int)) (b2 : bytes * n ≤ 281474976710656) (b3 : n ≤ maxLen)
    (hK : ∀ w2, RowB w2 w.heap.size e k (List.replicate n 0) → Below w.heap.size w w2 → w2.heap.size = w.heap.size + 1 → wpList P ops Q rest (a.put o.dst (.slice (some ⟨w.heap.size, 0, none⟩) n n)) w2) :
    wpList P ops Q (o :: rest) a w := by
  refine wpList_plain hg fun K hK' => ?_
  obtain ⟨i, hi, hz, hs, hby⟩ := info_parts h2
  subst hL
  subst hC
  have hb : (i.bytes : Int) * (n : Int) ≤ 281474976710656 := by
    have h : ((i.bytes * n : Nat) : Int) ≤ 281474976710656 := by rw [hby]; omega
    rwa [Int.natCast_mul] at h
  have hr := run_make (P := P) w t e i (.int k 0) h1 hi hz kl kc n n (by omega) (by omega) hb (by unfold maxLen at b3; omega)
  simp only [Int.toNat_natCast] at hr
  unfold Oper.wp
  simp [execOp, hop, hl, hc, hr, Result.andThen, Oper.upon]
  refine hK' _ _ (hK _ ?_ ((Below.refl _ _).alloc (Nat.le_refl _) _) (by simp))
  unfold RowB
  rw [heap_alloc_new, hs]
  congr 1
  have := toList_madeCells_one (Value.int k 0) n
  rw [vints_replicate] at this
  rw [← this]
  simp
  rfl
end Mem
end Go
end
/- Numbers of 64 bits: wraps, conversions, or with 1 (plain). -/
section
namespace Go.W64
open Go.RowKit
theorem w1 (n : Int) : IntKind.i64.wrap (IntKind.i64.wrap n + 1) = IntKind.i64.wrap (n + 1) := by
  simp only [IntKind.wrap_i64]; omega
/-- The 64 bits of a number. -/
def u (n : Int) : Nat := (n % 18446744073709551616).toNat
theorem u_lt (n : Int) : u n < 18446744073709551616 := by unfold u; omega
theorem u_eq (n : Int) : IntKind.u64.wrap n = (u n : Int) := by rw [IntKind.wrap_u64]; unfold u; omega
theorem u_nat (n : Nat) (h : n < 18446744073709551616) : u (n : Int) = n := by unfold u; omega
theorem u_in (n : Nat) (h : n < 18446744073709551616) : IntKind.u64.wrap (n : Int) = n := by rw [IntKind.wrap_u64]; omega
theorem bits_or_u64 (a b : Nat) (ha : a < 18446744073709551616) (hb : b < 18446744073709551616) : bits .or .u64 (a : Int) (b : Int) = ((a ||| b : Nat) : Int) := by
  have hx : a ||| b < 2 ^ 64 := Nat.or_lt_two_pow (by omega) (by omega)
  have h1 : (BitVec.ofInt 64 (a : Int)).toNat = a := by
    rw [BitVec.ofInt_natCast, BitVec.toNat_ofNat]; exact Nat.mod_eq_of_lt (by omega)
  have h2 : (BitVec.ofInt 64 (b : Int)).toNat = b := by
    rw [BitVec.ofInt_natCast, BitVec.toNat_ofNat]; exact Nat.mod_eq_of_lt (by omega)
  show IntKind.u64.wrap ((BitVec.ofInt 64 (a : Int) ||| BitVec.ofInt 64 (b : Int)).toNat : Int) = _
  rw [BitVec.toNat_or, h1, h2, IntKind.wrap_u64]
  omega
theorem bits_and_u64 (a b : Nat) (ha : a < 18446744073709551616) (hb : b < 18446744073709551616) : bits .and .u64 (a : Int) (b : Int) = ((a &&& b : Nat) : Int) := by
  have hx : a &&& b < 2 ^ 64 := Nat.and_lt_two_pow _ (by omega)
  have h1 : (BitVec.ofInt 64 (a : Int)).toNat = a := by
    rw [BitVec.ofInt_natCast, BitVec.toNat_ofNat]; exact Nat.mod_eq_of_lt (by omega)
  have h2 : (BitVec.ofInt 64 (b : Int)).toNat = b := by
    rw [BitVec.ofInt_natCast, BitVec.toNat_ofNat]; exact Nat.mod_eq_of_lt (by omega)
  show IntKind.u64.wrap ((BitVec.ofInt 64 (a : Int) &&& BitVec.ofInt 64 (b : Int)).toNat : Int) = _
  rw [BitVec.toNat_and, h1, h2, IntKind.wrap_u64]
  omega
end Go.W64
end
/- sum: Join, Words, Ints; the reference's Tied, Digest. -/
section
namespace Go.Proofs.Ytpilpkbblkhnaaa
open Go.ChangeShapes Go.WideShapes Go.ChangeAt Go.RowKit
set_option linter.unusedVariables false

/-- The digest of two digests. -/
def tied (a b : Nat) : Nat := mix ((mix ((a + 5840696475078001361) % 18446744073709551616) * 11170449401992604703 + b) % 18446744073709551616)
theorem tie_lt (a b : Nat) : tied a b < 18446744073709551616 := mix_lt _

theorem sum_Join (a b : Nat) (ha : a < 18446744073709551616) (hb : b < 18446744073709551616) (w : World) :
    Calls Try.prog 44 #[.int .u64 a, .int .u64 b] w fun e w' => e = .returned (.int .u64 (tied a b : Nat)) ∧ w = w' := by
  obtain ⟨A, hA⟩ : ∃ A, A = (a + 5840696475078001361) % 18446744073709551616 := ⟨_, rfl⟩
  have lA : A < 18446744073709551616 := by omega
  have e1 : IntKind.u64.wrap ((a : Int) + 5840696475078001361) = A := by rw [IntKind.wrap_u64]; omega
  have c1 := rnd_Mix A lA
  obtain ⟨M, hM⟩ : ∃ M, M = mix A := ⟨_, rfl⟩
  rw [← hM] at c1
  obtain ⟨B, hB⟩ : ∃ B, B = M * 11170449401992604703 % 18446744073709551616 := ⟨_, rfl⟩
  have lB : B < 18446744073709551616 := by omega
  have e2 : IntKind.u64.wrap ((M : Int) * 11170449401992604703) = B := by rw [IntKind.wrap_u64]; omega
  obtain ⟨C, hC⟩ : ∃ C, C = (B + b) % 18446744073709551616 := ⟨_, rfl⟩
  have lC : C < 18446744073709551616 := by omega
  have e3 : IntKind.u64.wrap ((B : Int) + (b : Int)) = C := by rw [IntKind.wrap_u64]; omega
  have c2 := rnd_Mix C lC
  have ht : tied a b = mix C := by
    rw [tied, ← hA, ← hM, hC, hB, Nat.mod_add_mod]
  obtain ⟨N, hN⟩ : ∃ N, N = mix C := ⟨_, rfl⟩
  rw [ht]
  rw [← hN] at c2 ⊢
  have C1 := Lib.hid c1
  have C2 := Lib.hid c2
  clear c1 c2 ht hA hM hB hC hN
  go_enter Try.func44, Try.ntmps44
  go_wp2_with (first
    | (go_at_call 66; (with_reducible refine (C1.out _).mono ?_); rintro e w1 ⟨rfl, rfl⟩)
    | (go_at_call 66; (with_reducible refine (C2.out _).mono ?_); rintro e w1 ⟨rfl, rfl⟩))
  go_ret
  exact ⟨rfl, rfl⟩

/-- The digest of a list, begun at d. -/
def dig1 : Nat → List Int → Nat
  | d, [] => d
  | d, n :: l => dig1 (tied d (W64.u n)) l
theorem dig1_snoc (d : Nat) (l : List Int) (n : Int) : dig1 d (l ++ [n]) = tied (dig1 d l) (W64.u n) := by
  induction l generalizing d with
  | nil => rfl
  | cons a l ih => exact ih _
theorem dig1_lt (d : Nat) (l : List Int) (h : d < 18446744073709551616) : dig1 d l < 18446744073709551616 := by
  induction l generalizing d with
  | nil => exact h
  | cons a l ih => exact ih _ (tie_lt _ _)
def dig (l : List Int) : Nat := dig1 (tied 5840696475078001361 l.length) l
theorem dig1_map (d : Nat) (l : List Int) : dig1 d (l.map fun z => (W64.u z : Int)) = dig1 d l := by
  induction l generalizing d with
  | nil => rfl
  | cons a l ih =>
    show dig1 (tied d (W64.u (W64.u a : Int))) _ = _
    rw [ih, W64.u_nat _ (W64.u_lt a)]; rfl
theorem dig_map (l : List Int) : dig (l.map fun z => (W64.u z : Int)) = dig l := by
  unfold dig; rw [dig1_map, List.length_map]
theorem take_snocS {α : Type} (l : List α) (k : Nat) (d : α) (h : k < l.length) : l.take (k + 1) = l.take k ++ [l.getD k d] := by
  rw [List.take_succ_eq_append_getElem h]; simp [h]
/-- All numbers are of 64 bits. -/
def U64s (l : List Int) : Prop := ∀ z ∈ l, 0 ≤ z ∧ z < 18446744073709551616
theorem U64s.get {l : List Int} (h : U64s l) (k : Nat) (hk : k < l.length) : ((W64.u (l.getD k 0) : Nat) : Int) = l.getD k 0 := by
  have hm : l.getD k 0 ∈ l := by simp [hk]
  obtain ⟨h1, h2⟩ := h _ hm
  unfold W64.u; omega

set_option maxHeartbeats 4000000 in
theorem sum_Words (a : Option Addr) (cap : Nat) (l : List Int) (hl : l.length ≤ 9223372036854775807) (hu : U64s l) (w : World) (hin : Mem.IntsAt .u64 w a l) :
    Calls Try.prog 19 #[.slice a l.length cap] w fun e w' => e = .returned (.int .u64 (dig l : Nat)) ∧ w = w' := by
  obtain ⟨n, hn⟩ : ∃ n, n = l.length := ⟨_, rfl⟩
  rw [← hn]
  have HN := Lib.hid hn
  have un : IntKind.u64.wrap (n : Int) = n := W64.u_in n (by omega)
  have cj := sum_Join 5840696475078001361 n (by omega) (by omega) w
  obtain ⟨D, hD⟩ : ∃ D, D = tied 5840696475078001361 n := ⟨_, rfl⟩
  rw [← hD] at cj
  have lD : D < 18446744073709551616 := by rw [hD]; exact tie_lt _ _
  have HD := Lib.hid hD
  have CJ := Lib.hid cj
  have HI := Lib.hid hin
  have h63 : n ≤ 9223372036854775807 := by omega
  have HU := Lib.hid hu
  clear hin hn hl cj hD hu
  go_enter Try.func19, Try.ntmps19
  go_wp2_with (go_at_call 44; refine (CJ.out).mono ?_; rintro e w1 ⟨rfl, rfl⟩)
  clear un
  go_loopg [3, 5, 12] n (fun gk vs _ vi wx => ∃ k : Nat, k ≤ n ∧ gk = n - k ∧ vi = .int .i64 k ∧ vs = .int .u64 (dig1 D (l.take k) : Nat) ∧ wx = w)
  case atStart => exact ⟨0, by omega, rfl, rfl, rfl, rfl⟩
  case round =>
    obtain ⟨k, h1, h2, rfl, rfl, rfl⟩ := hrel
    have H2 := Lib.hid h2
    clear h2
    have lS := dig1_lt D (l.take k) (by omega)
    by_cases hlt : k < n
    · obtain ⟨x, rfl, hx, hc⟩ := HI.out (by rw [← HN.out]; omega)
      have hcell := hc k (by rw [← HN.out]; omega)
      have hz := HU.out.get k (by rw [← HN.out]; omega)
      obtain ⟨S, hS⟩ : ∃ S, S = dig1 D (l.take k) := ⟨_, rfl⟩
      obtain ⟨Z, hZ⟩ : ∃ Z, Z = W64.u (l.getD k 0) := ⟨_, rfl⟩
      have lZ : Z < 18446744073709551616 := by rw [hZ]; exact W64.u_lt _
      rw [← hz, ← hZ] at hcell
      rw [← hS] at lS ⊢
      have HS := Lib.hid hS
      have HZ := Lib.hid hZ
      have ct := sum_Join S Z lS lZ wr
      obtain ⟨T, hT⟩ : ∃ T, T = tied S Z := ⟨_, rfl⟩
      rw [← hT] at ct
      have HT := Lib.hid hT
      have CT := Lib.hid ct
      clear hc hS hz hT hZ ct
      go_wp2_with (go_at_call 44; refine (CT.out).mono ?_; rintro e w1 ⟨rfl, rfl⟩)
      go_roundg (n - (k + 1))
      case measure => rw [H2.out]; omega
      case rel => exact ⟨k + 1, by omega, rfl, by go_num, by rw [take_snocS l k 0 (by rw [← HN.out]; omega), dig1_snoc, ← HS.out, ← HZ.out, ← HT.out], rfl⟩
    · obtain rfl : k = n := by omega
      have eS : dig1 D (l.take k) = dig l := by rw [List.take_of_length_le (by rw [← HN.out]; omega), dig, ← HN.out, HD.out]
      rw [eS]
      clear eS
      go_wp2
      go_ret
      exact ⟨rfl, rfl⟩

end Go.Proofs.Ytpilpkbblkhnaaa
end
/- sum.Bytes; the reference's ByteDigest. -/
section
namespace Go.Proofs.Ytpilpkbblkhnaaa
open Go.ChangeShapes Go.WideShapes Go.ChangeAt Go.RowKit Go.Mem
set_option linter.unusedVariables false

/-- The number of bytes, the lowest one first. -/
def le : List Int → Nat
  | [] => 0
  | c :: r => c.toNat + 256 * le r
def U8s (l : List Int) : Prop := ∀ z ∈ l, 0 ≤ z ∧ z < 256
theorem le_snoc (l : List Int) (c : Int) : le (l ++ [c]) = le l + 256 ^ l.length * c.toNat := by
  induction l with
  | nil => simp [le]
  | cons a l ih =>
    show a.toNat + 256 * le (l ++ [c]) = a.toNat + 256 * le l + _
    rw [ih, List.length_cons, Nat.pow_succ, Nat.mul_add, Nat.mul_comm (256 ^ l.length) 256, Nat.mul_assoc]; omega
theorem le_lt (l : List Int) (h : U8s l) : le l < 256 ^ l.length := by
  induction l with
  | nil => simp [le]
  | cons a l ih =>
    have h1 := ih fun z hz => h z (List.mem_cons_of_mem _ hz)
    have h2 := h a (List.mem_cons_self ..)
    show a.toNat + 256 * le l < 256 ^ (l.length + 1)
    rw [Nat.pow_succ]; omega
/-- One chunk of 8 behind the other. -/
def bd : Nat → Nat → List Int → Nat
  | 0, d, _ => d
  | j + 1, d, l => bd j (tied d (le (l.take 8))) (l.drop 8)
theorem bd_lt (j d : Nat) (l : List Int) (h : d < 18446744073709551616) : bd j d l < 18446744073709551616 := by
  induction j generalizing d l with
  | zero => exact h
  | succ j ih => exact ih _ _ (tie_lt _ _)
theorem bd_succ (j d : Nat) (l : List Int) : bd (j + 1) d l = tied (bd j d l) (le ((l.drop (8 * j)).take 8)) := by
  induction j generalizing d l with
  | zero => rfl
  | succ j ih =>
    show bd (j + 1) (tied d (le (l.take 8))) (l.drop 8) = _
    rw [ih, List.drop_drop]
    show tied (bd (j + 1) d l) _ = _
    rw [show 8 + 8 * j = 8 * (j + 1) by omega]
def bdig (l : List Int) : Nat := bd ((l.length + 7) / 8) (tied 11170449401992604703 l.length) l

theorem pow8 (i : Nat) : (2 : Int) ^ (8 * i) = ((256 ^ i : Nat) : Int) := by
  rw [Int.pow_mul, Int.natCast_pow]; rfl
theorem byte_lt (z i : Nat) (hz : z < 256) (hi : i < 8) : 256 ^ i * z < 18446744073709551616 := by
  have h1 : 256 ^ i ≤ 256 ^ 7 := Nat.pow_le_pow_right (by omega) (by omega)
  have h2 : 256 ^ i * z ≤ 256 ^ 7 * 255 := Nat.mul_le_mul h1 (by omega)
  have h3 : 256 ^ 7 * 255 < 18446744073709551616 := by decide
  omega
theorem byte_shl (z i : Nat) (hz : z < 256) (hi : i < 8) : IntKind.u64.wrap ((z : Int) * 2 ^ (8 * i)) = ((256 ^ i * z : Nat) : Int) := by
  have h := byte_lt z i hz hi
  rw [pow8, ← Int.natCast_mul, Nat.mul_comm]
  exact W64.u_in _ h
theorem byte_or (W z i : Nat) (hW : W < 256 ^ i) (hz : z < 256) (hi : i < 8) : bits .or .u64 (W : Int) ((256 ^ i * z : Nat) : Int) = ((W + 256 ^ i * z : Nat) : Int) := by
  have h := byte_lt z i hz hi
  have h1 : 256 ^ i ≤ 256 ^ 7 := Nat.pow_le_pow_right (by omega) (by omega)
  have h3 : 256 ^ 7 < 18446744073709551616 := by decide
  rw [W64.bits_or_u64 W _ (by omega) h]
  congr 1
  have e : 256 ^ i * z = z <<< (8 * i) := by rw [Nat.shiftLeft_eq, Nat.pow_mul, Nat.mul_comm]
  have e2 : W < 2 ^ (8 * i) := by rw [Nat.pow_mul]; exact hW
  rw [e, Nat.or_comm, ← Nat.shiftLeft_add_eq_or_of_lt e2, Nat.add_comm]

set_option maxHeartbeats 4000000 in
theorem sum_Bytes (a : Option Addr) (cap : Nat) (l : List Int) (hcap : l.length ≤ cap) (hl : cap ≤ 140737488355328) (hu : U8s l) (w : World) (hin : Mem.IntsAt .u8 w a l) :
    Calls Try.prog 20 #[.slice a l.length cap] w fun e w' => e = .returned (.int .u64 (bdig l : Nat)) ∧ Below w.heap.size w w' := by
  obtain ⟨n, hn⟩ : ∃ n, n = l.length := ⟨_, rfl⟩
  rw [← hn] at hcap ⊢
  have HN := Lib.hid hn
  have un : IntKind.u64.wrap (n : Int) = n := W64.u_in n (by omega)
  have cj := sum_Join 11170449401992604703 n (by omega) (by omega) w
  obtain ⟨D, hD⟩ : ∃ D, D = tied 11170449401992604703 n := ⟨_, rfl⟩
  rw [← hD] at cj
  have lD : D < 18446744073709551616 := by rw [hD]; exact tie_lt _ _
  have HD := Lib.hid hD
  have CJ := Lib.hid cj
  have HI := Lib.hid hin
  have HU := Lib.hid hu
  clear hin hn cj hD hu
  go_enter Try.func20, Try.ntmps20
  go_wp2_with (go_at_call 44; refine (CJ.out).mono ?_; rintro e w1 ⟨rfl, rfl⟩)
  clear un
  go_loopg [0, 3, 4, 5, 6] n (fun gk vb vs _ _ _ wx => ∃ (j : Nat) (b : Option Addr) (c : Nat), 8 * j < n + 8 ∧ gk = n - 8 * j ∧ vs = .int .u64 (bd j D l : Nat) ∧ vb = .slice b (n - 8 * j) c ∧ n - 8 * j ≤ c ∧ c ≤ 140737488355328 ∧ IntsAt .u8 wx b (l.drop (8 * j)) ∧ Below w.heap.size w wx)
  case atStart => exact ⟨0, a, cap, by omega, rfl, rfl, by simp, by omega, hl, by rw [Nat.mul_zero, List.drop_zero]; exact HI.out, Below.refl _ _⟩
  case round =>
    obtain ⟨j, b, c, h1, h2, rfl, rfl, h3, h4, h5, hb⟩ := hrel
    have H2 := Lib.hid h2
    have H5 := Lib.hid h5
    clear h2 h5
    have lS := bd_lt j D l (by omega)
    obtain ⟨S, hS⟩ : ∃ S, S = bd j D l := ⟨_, rfl⟩
    rw [← hS] at lS ⊢
    have HS := Lib.hid hS
    clear hS
    obtain ⟨r, hr⟩ : ∃ r, r = n - 8 * j := ⟨_, rfl⟩
    rw [← hr] at h3 ⊢
    have HR := Lib.hid hr
    clear hr
    by_cases hlt : 0 < r
    · obtain ⟨ch, hch⟩ : ∃ ch, ch = (l.drop (8 * j)).take 8 := ⟨_, rfl⟩
      have hcl : ch.length = min r 8 := by rw [hch, List.length_take, List.length_drop, ← HN.out, ← HR.out]; omega
      have hci : IntsAt .u8 wr b ch := by rw [hch]; exact H5.out.take 8
      have hcu : U8s ch := fun z hz => HU.out z (by rw [hch] at hz; exact List.mem_of_mem_drop (List.mem_of_mem_take hz))
      have HCH := Lib.hid hch
      have HCI := Lib.hid hci
      have HCU := Lib.hid hcu
      have HCL := Lib.hid hcl
      clear hch hci hcu hcl
      by_cases h8 : (r : Int) ≤ 8
      · obtain ⟨gk_, hgk_⟩ : ∃ q, q = gk := ⟨_, rfl⟩
        subst hgk_
        go_wp2_with fail

        go_loopg [4, 5, 6, 20] r (fun gi vw _ _ vi wx => ∃ i : Nat, i ≤ r ∧ gi = r - i ∧ vi = .int .i64 i ∧ vw = .int .u64 (le (ch.take i) : Nat) ∧ wx = wr)
        case atStart => exact ⟨0, by omega, rfl, rfl, rfl, rfl⟩
        case round =>
          obtain ⟨i, g1, g2, rfl, rfl, rfl⟩ := hrel
          have G2 := Lib.hid g2
          clear g2
          by_cases hli : i < r
          · obtain ⟨x, rfl, hx, hc⟩ := HCI.out (by rw [HCL.out]; omega)
            have hcell := hc i (by rw [HCL.out]; omega)
            have hcb := HCU.out (ch.getD i 0) (by have := HCL.out; have h3 : i < ch.length := by omega
                                                  simp [h3])
            obtain ⟨z, hz⟩ : ∃ z : Nat, (z : Int) = ch.getD i 0 := ⟨(ch.getD i 0).toNat, by omega⟩
            rw [← hz] at hcell hcb
            have lz : z < 256 := by omega
            obtain ⟨W, hW⟩ : ∃ W, W = le (ch.take i) := ⟨_, rfl⟩
            have lW : W < 256 ^ i := by
              have h3 := le_lt (ch.take i) (fun q hq => HCU.out q (List.mem_of_mem_take hq))
              rw [List.length_take, Nat.min_eq_left (by rw [HCL.out]; omega), ← hW] at h3
              exact h3
            have uz : IntKind.u64.wrap (z : Int) = z := W64.u_in z (by omega)
            have b1 := byte_shl z i lz (by omega)
            have b2 := byte_or W z i lW lz (by omega)
            have l7 := byte_lt z i lz (by omega)
            obtain ⟨V, hV⟩ : ∃ V, V = 256 ^ i * z := ⟨_, rfl⟩
            rw [← hV] at b1 b2 l7
            rw [← hW]
            have nx : le (ch.take (i + 1)) = W + V := by
              rw [take_snocS ch i 0 (by rw [HCL.out]; omega), le_snoc, List.length_take, Nat.min_eq_left (by rw [HCL.out]; omega), ← hz, ← hW, hV]; rfl
            have NX := Lib.hid nx
            clear hc hcb hz hV hW nx lW
            go_wp2
            go_roundg (r - (i + 1))
            case measure => rw [G2.out]; omega
            case rel => exact ⟨i + 1, by omega, rfl, by go_num, by rw [NX.out]; go_num, rfl⟩
          · obtain rfl : i = r := by omega
            have ew : ch.take i = ch := List.take_of_length_le (by rw [HCL.out]; omega)
            rw [ew]
            have lW : le ch < 18446744073709551616 := by
              have h3 := le_lt ch HCU.out
              have h4 : 256 ^ ch.length ≤ 256 ^ 8 := Nat.pow_le_pow_right (by omega) (by rw [HCL.out]; omega)
              have h5 : 256 ^ 8 = 18446744073709551616 := by decide
              omega
            obtain ⟨W, hW⟩ : ∃ W, W = le ch := ⟨_, rfl⟩
            rw [← hW] at lW ⊢
            have ct := sum_Join S W lS lW
            obtain ⟨T, hT⟩ : ∃ T, T = tied S W := ⟨_, rfl⟩
            rw [← hT] at ct
            have ct2 : ∀ w : World, Calls Try.prog 44 #[.int .u64 S, .int .u64 W] w fun e w' => e = .returned (.int .u64 (T : Nat)) ∧ w' = w := fun w => (ct w).mono fun e w' h => ⟨h.1, h.2.symm⟩
            have CT := Lib.hid ct2
            have tn : bd (j + 1) D l = T := by rw [bd_succ, ← HS.out, ← HCH.out, ← hW, hT]
            have TN := Lib.hid tn
            have ni : IntsAt .u8 wr (if c = i then b else b.map (·.add i)) (l.drop (8 * (j + 1))) := by
              have h := H5.out.cut i c (by rw [List.length_drop, ← HN.out, ← HR.out]; omega)
              rw [List.drop_drop] at h
              rw [show l.drop (8 * j + i) = l.drop (8 * (j + 1)) by rw [List.drop_eq_nil_of_le (by rw [← HN.out]; have := HR.out; omega), List.drop_eq_nil_of_le (by rw [← HN.out]; have := HR.out; omega)]] at h
              exact h
            have NI := Lib.hid ni
            have hk : 8 * (j + 1) < n + 8 := by have := HR.out; omega
            have hr2 : n - 8 * (j + 1) = 0 := by have := HR.out; omega
            have HR2 := Lib.hid hr2
            have HR3 := Lib.hid (show gk_ = i by rw [H2.out, ← HR.out])
            have HK := Lib.hid hk
            clear ct ct2 hW hT ni ew tn hk hr2 G2 H2
            by_cases hcm : c = i
            all_goals
              go_wp2
              go_quiet ((go_at_call 44; exact Calls.quiet_of_same (CT.out _)))
              go_wp2
              go_roundg (n - 8 * (j + 1))
              case measure => rw [HR3.out]; have := HR2.out; omega
              case rel =>
                have h := NI.out
                (first | rw [if_pos hcm] at h | rw [if_neg hcm] at h)
                exact ⟨j + 1, _, _, HK.out, rfl, by rw [TN.out], (by rw [HR2.out]; first | done | rfl), by have := HR2.out; omega, by omega, h, below_drewN hb _⟩
      · obtain ⟨gk_, hgk_⟩ : ∃ q, q = gk := ⟨_, rfl⟩
        subst hgk_
        have h8' : (8 : Int) < r := by omega
        go_wp2_with fail
        try simp only [show max (8 : Int) 0 = 8 from rfl]
        go_loopg [4, 5, 6, 20] 8 (fun gi vw _ _ vi wx => ∃ i : Nat, i ≤ 8 ∧ gi = 8 - i ∧ vi = .int .i64 i ∧ vw = .int .u64 (le (ch.take i) : Nat) ∧ wx = wr)
        case atStart => exact ⟨0, by omega, rfl, rfl, rfl, rfl⟩
        case round =>
          obtain ⟨i, g1, g2, rfl, rfl, rfl⟩ := hrel
          have G2 := Lib.hid g2
          clear g2
          by_cases hli : i < 8
          · obtain ⟨x, rfl, hx, hc⟩ := HCI.out (by rw [HCL.out]; omega)
            have hcell := hc i (by rw [HCL.out]; omega)
            have hcb := HCU.out (ch.getD i 0) (by have := HCL.out; have h3 : i < ch.length := by omega
                                                  simp [h3])
            obtain ⟨z, hz⟩ : ∃ z : Nat, (z : Int) = ch.getD i 0 := ⟨(ch.getD i 0).toNat, by omega⟩
            rw [← hz] at hcell hcb
            have lz : z < 256 := by omega
            obtain ⟨W, hW⟩ : ∃ W, W = le (ch.take i) := ⟨_, rfl⟩
            have lW : W < 256 ^ i := by
              have h3 := le_lt (ch.take i) (fun q hq => HCU.out q (List.mem_of_mem_take hq))
              rw [List.length_take, Nat.min_eq_left (by rw [HCL.out]; omega), ← hW] at h3
              exact h3
            have uz : IntKind.u64.wrap (z : Int) = z := W64.u_in z (by omega)
            have b1 := byte_shl z i lz (by omega)
            have b2 := byte_or W z i lW lz (by omega)
            have l7 := byte_lt z i lz (by omega)
            obtain ⟨V, hV⟩ : ∃ V, V = 256 ^ i * z := ⟨_, rfl⟩
            rw [← hV] at b1 b2 l7
            rw [← hW]
            have nx : le (ch.take (i + 1)) = W + V := by
              rw [take_snocS ch i 0 (by rw [HCL.out]; omega), le_snoc, List.length_take, Nat.min_eq_left (by rw [HCL.out]; omega), ← hz, ← hW, hV]; rfl
            have NX := Lib.hid nx
            clear hc hcb hz hV hW nx lW
            go_wp2
            go_roundg (8 - (i + 1))
            case measure => rw [G2.out]; omega
            case rel => exact ⟨i + 1, by omega, rfl, by go_num, by rw [NX.out]; go_num, rfl⟩
          · obtain rfl : i = 8 := by omega
            have ew : ch.take 8 = ch := List.take_of_length_le (by rw [HCL.out]; omega)
            rw [ew]
            have lW : le ch < 18446744073709551616 := by
              have h3 := le_lt ch HCU.out
              have h4 : 256 ^ ch.length ≤ 256 ^ 8 := Nat.pow_le_pow_right (by omega) (by rw [HCL.out]; omega)
              have h5 : 256 ^ 8 = 18446744073709551616 := by decide
              omega
            obtain ⟨W, hW⟩ : ∃ W, W = le ch := ⟨_, rfl⟩
            rw [← hW] at lW ⊢
            have ct := sum_Join S W lS lW
            obtain ⟨T, hT⟩ : ∃ T, T = tied S W := ⟨_, rfl⟩
            rw [← hT] at ct
            have ct2 : ∀ w : World, Calls Try.prog 44 #[.int .u64 S, .int .u64 W] w fun e w' => e = .returned (.int .u64 (T : Nat)) ∧ w' = w := fun w => (ct w).mono fun e w' h => ⟨h.1, h.2.symm⟩
            have CT := Lib.hid ct2
            have tn : bd (j + 1) D l = T := by rw [bd_succ, ← HS.out, ← HCH.out, ← hW, hT]
            have TN := Lib.hid tn
            have ni : IntsAt .u8 wr (if c = 8 then b else b.map (·.add 8)) (l.drop (8 * (j + 1))) := by
              have h := H5.out.cut 8 c (by rw [List.length_drop, ← HN.out, ← HR.out]; omega)
              rw [List.drop_drop] at h
              rw [show 8 * j + 8 = 8 * (j + 1) by omega] at h
              exact h
            have NI := Lib.hid ni
            have hk : 8 * (j + 1) < n + 8 := by have := HR.out; omega
            have hr2 : n - 8 * (j + 1) = r - 8 := by have := HR.out; omega
            have HR2 := Lib.hid hr2
            have HR3 := Lib.hid (show gk_ = r by rw [H2.out, ← HR.out])
            have HK := Lib.hid hk
            clear ct ct2 hW hT ni ew tn hk hr2 G2 H2
            by_cases hcm : c = 8
            all_goals
              go_wp2
              go_quiet ((go_at_call 44; exact Calls.quiet_of_same (CT.out _)))
              go_wp2
              go_roundg (n - 8 * (j + 1))
              case measure => rw [HR3.out]; have := HR2.out; omega
              case rel =>
                have h := NI.out
                (first | rw [if_pos hcm] at h | rw [if_neg hcm] at h)
                exact ⟨j + 1, _, _, HK.out, rfl, by rw [TN.out], (by rw [HR2.out]; first | done | rfl), by have := HR2.out; omega, by omega, h, below_drewN hb _⟩
    · obtain rfl : r = 0 := by omega
      have hj : j = (n + 7) / 8 := by have := HR.out; omega
      have ed : bdig l = S := by rw [bdig, ← HN.out, ← hj, ← HD.out, ← HS.out]
      have ED := Lib.hid ed
      clear ed hj H2 H5
      go_wp2
      go_ret
      exact ⟨by rw [ED.out]; rfl, hb⟩
end Go.Proofs.Ytpilpkbblkhnaaa
end
