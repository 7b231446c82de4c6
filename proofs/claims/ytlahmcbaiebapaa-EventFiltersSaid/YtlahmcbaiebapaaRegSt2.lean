/- Single operations in drawn regions: a slice of one value built, an append of one such slice. No function of the program is named here. -/
import Derived.Test.YtlahmcbaiebapaaRegSt
import Derived.Test.YtlahmcbaiebapaaRegNil
import Derived.Test.YtlahmcbaiebapaaSlotM
namespace Go.Mem
open Go.Proofs Go.RowKit
set_option linter.unusedVariables false
section
variable {P : Program} {ops : Array Oper} {o : Oper} {F : Act} {w : World} {Q : Exit → Act → World → Prop}
theorem rg_slice_val (t e : TypeId) (x0 : Operand) (hgd : o.guard = none) (ho : o.op = .buildSlice t 1 #[(0, x0)]) (v z : Value) (h0 : F.eval x0 = v) (hv : v.cells = #[v])
    (hu : P.underlying t = some (.slice e)) (hi : (P.info? e).map (fun i => (i.zero, i.size)) = some (some z, 1)) (hz : z.cells = #[z]) (h : Q .normal (F.put o.dst (.slice (some ⟨w.heap.size, 0, none⟩) 1 1)) (w.alloc (.cells #[v] e (0, 0)))) : wpList P ops Q [o] F w := by
  obtain ⟨i, hi2, hzz⟩ := Option.map_eq_some_iff.1 hi
  simp only [Prod.mk.injEq] at hzz
  refine wpList_plain hgd fun K hK => ?_
  refine wp_buildSlice t e 1 _ ho #[v] i z hu hi2 hzz.1 (by rw [hzz.2]; decide) (by rw [hzz.2]; decide) ?_ (hK _ _ h)
  rw [hzz.2]
  simp only [List.map_toArray, List.map_cons, List.map_nil, h0]
  have hr : Array.range 1 = #[0] := by decide
  simp [Instr.fill, hv, hr, hz]
end
/-- 'append(v, x)' of one element that lies in a block of its own. -/
theorem wpList_append_blk {P : Program} {w : World} {ops : Array Oper} {rest : List Oper} {o : Oper} {a : Act} {Q : Exit → Act → World → Prop} (hgd : o.guard = none) (s x : Operand) (t : TypeId)
    (ho : o.op = .call { callee := .builtin .append, args := #[s, x], argTypes := #[t, t] })
    (base : Nat) (e : TypeId) (z : Value) (size bytes : Nat) (ht : P.underlying t = some (.slice e)) (hi : (P.info? e).map (fun i => (i.zero, i.size, i.bytes)) = some (some z, size, bytes))
    (hzs : z.cells.size = size) (hsz : 0 < size)
    (v : Value) (n : Nat) (xs : List Value) (hs : a.eval s = v) (hown : w.ownsRow base e size v n xs)
    (g0 : Nat) (U : Array Value) (T : TypeId) (hx : a.eval x = .slice (some ⟨g0, 0, none⟩) 1 1) (hg0 : w.heap[g0]? = some (.cells U T (0, 0))) (hU : U.size = size) (h1 : U.toList.all (·.oneCell') = true)
    (hbytes : (n + 1) * bytes ≤ 140737488355328) (hby : 0 < bytes) (hbase : base ≤ w.heap.size)
    (h : ∀ g cap w', w'.ownsRow base e size (.slice (some ⟨g, 0, none⟩) (n + 1) cap) (n + 1) (xs ++ U.toList) → w.grownBy w' v.ownBlock → (v.ownBlock = some g ∨ g = w.heap.size) → g < w'.heap.size → wpList P ops Q rest (a.put o.dst (.slice (some ⟨g, 0, none⟩) (n + 1) cap)) w') :
    wpList P ops Q (o :: rest) a w := by
  obtain ⟨i, hi1, hi2, hi3, hi4⟩ := info_parts hi
  have hn : n + 1 ≤ 140737488355328 := Nat.le_trans (Nat.le_mul_of_pos_right _ hby) hbytes
  refine wpList_append_lies _ hgd s x t ho base e i z size bytes ht hi1 hi2 hi3 hi4 hzs hsz v n xs hs hown ⟨g0, 0, none⟩ 1 1 U.toList hx (by simp [hU]) (World.news_of_block hg0) (fun v hv => List.all_eq_true.1 h1 v hv)
    (by omega) (by unfold maxLen; omega) hbytes hbase w.heap.size rfl ?_
  intro g cap w' hown' hg hor hlt
  exact h g cap w' hown' hg hor hlt
variable {P : Nat → Prop} {a b w w' : World}
theorem GrP.set' (h : GrP P a b) {k : Nat} (hk : k < a.heap.size → P k) (i : Nat) (v : Value) : GrP P a (b.setCell ⟨k, i, none⟩ v) :=
  ⟨h.os, h.tape, h.output, by simpa using h.size, fun j hj hp => (Below.heap_setCell b ⟨k, i, none⟩ v j (fun e => hp (by subst e; exact hk hj))).trans (h.block j hj hp)⟩
theorem GrP.gb' (h : GrP P a b) {row : Option Nat} (hg : b.grownBy w' row) (hr : ∀ k, row = some k → k < a.heap.size → P k) : GrP P a w' :=
  ⟨hg.os.trans h.os, hg.tape.trans h.tape, hg.output.trans h.output, Nat.le_trans h.size hg.size, fun j hj hp => (hg.block j (Nat.lt_of_lt_of_le hj h.size) (fun e => hp (hr j e.symm hj))).trans (h.block j hj hp)⟩
end Go.Mem
