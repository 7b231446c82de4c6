/- Drawn regions by facts: slices of ints of one's own, an append to such a one, closures. No program is named here. -/
import Derived.Test.YtlahmcbaiebapaaRegAnc
import Derived.Test.YtlahmcbaiebapaaRegGuard
import Derived.Test.YtlahmcbaiebapaaOwn
import Derived.ArgAppend
import Derived.Great.BuildSlice
import Derived.Laws.OwnMore
namespace Go.Mem
open Go.Proofs Go.ChangeShapes Go.WideShapes Go.ChangeAt Go.RowKit
section
variable {P : Program} {ops : Array Oper} {o : Oper} {F : Act} {w : World} {Q : Exit → Act → World → Prop}
theorem one_slice1i (t e : TypeId) (x0 : Operand) (hgd : o.guard = none) (ho : o.op = .buildSlice t 1 #[(0, x0)]) (a : Int) (h0 : F.eval x0 = .int .i64 a)
    (hu : P.underlying t = some (.slice e)) (hie : (P.info? e).map (fun i => (i.zero, i.size)) = some (some (.int .i64 0), 1))
    (h : Q .normal (F.put o.dst (.slice (some ⟨w.heap.size, 0, none⟩) 1 1)) (w.alloc (.cells #[.int .i64 a] e))) : wpList P ops Q [o] F w := by
  obtain ⟨ie, hi, hzz⟩ := Option.map_eq_some_iff.1 hie
  simp only [Prod.mk.injEq] at hzz
  refine wpList_plain hgd fun K hK => ?_
  refine wp_buildSlice t e 1 _ ho #[.int .i64 a] ie (.int .i64 0) hu hi hzz.1 (by rw [hzz.2]; decide) (by rw [hzz.2]; decide) ?_ (hK _ _ h)
  rw [hzz.2]
  simp only [List.map_toArray, List.map_cons, List.map_nil, h0]
  have hr : Array.range 1 = #[0] := by decide
  simp [Instr.fill, Value.cells, hr]
theorem one_slice2v (t e : TypeId) (x0 x1 : Operand) (hgd : o.guard = none) (ho : o.op = .buildSlice t 2 #[(0, x0), (1, x1)]) (A B : Option Addr) (m n c d : Nat) (h0 : F.eval x0 = .slice A m c) (h1 : F.eval x1 = .slice B n d)
    (hu : P.underlying t = some (.slice e)) (hie : (P.info? e).map (fun i => (i.zero, i.size)) = some (some (.slice none 0 0), 1))
    (h : Q .normal (F.put o.dst (.slice (some ⟨w.heap.size, 0, none⟩) 2 2)) (w.alloc (.cells #[.slice A m c, .slice B n d] e))) : wpList P ops Q [o] F w := by
  obtain ⟨ie, hi, hzz⟩ := Option.map_eq_some_iff.1 hie
  simp only [Prod.mk.injEq] at hzz
  refine wpList_plain hgd fun K hK => ?_
  refine wp_buildSlice t e 2 _ ho #[.slice A m c, .slice B n d] ie (.slice none 0 0) hu hi hzz.1 (by rw [hzz.2]; decide) (by rw [hzz.2]; decide) ?_ (hK _ _ h)
  rw [hzz.2]
  simp only [List.map_toArray, List.map_cons, List.map_nil, h0, h1]
  have hr : Array.range 2 = #[0, 1] := by decide
  simp [Instr.fill, Value.cells, hr]
theorem one_makeFunc (f : FuncId) (caps : Array Operand) (vals : Array Value) (hgd : o.guard = none) (ho : o.op = .makeFunc (.func f) #[] caps) (hc : caps.map F.eval = vals)
    (h : Q .normal (F.put o.dst (.func (.func f) #[] vals)) w) : wpList P ops Q [o] F w := by
  refine wpList_plain hgd fun K hK => ?_
  unfold Oper.wp execOp
  simp [ho, hc, Instr.makeFunc, Oper.upon]
  exact hK _ _ h
/-- What an append to a row zs of the call's own does to the world. -/
structure RApp (B e : Nat) (zs : List Int) (x : Int) (w w2 : World) : Prop where
  sub : B ≤ w.heap.size → RowKit.Below B w w2
  oth : ∀ k : Nat, k < w.heap.size → (∀ cs : Array Value, w.heap[k]? ≠ some (Obj.cells cs e (0, 0))) → w2.heap[k]? = w.heap[k]?
  row : ∀ v, w.ownsRow B e 1 v zs.length (vints .i64 zs) → w2.ownsRow B e 1 v zs.length (vints .i64 zs)
  one : ∀ k : Nat, w.heap[k]? = some (Obj.cells #[.int .i64 x] e (0, 0)) → w2.heap[k]? = some (Obj.cells #[.int .i64 x] e (0, 0))
theorem RApp.of_grown {B e : Nat} {zs : List Int} {x : Int} {w w2 : World} (h : w.grownBy w2 none) : RApp B e zs x w w2 :=
  ⟨fun hB => (Below.refl _ _).grown h hB (fun k e => by cases e), fun k k1 _ => h.block k k1 (by simp), fun v hv => hv.kept h (by cases v.ownBlock <;> simp), fun k hk => (h.block k (lt_of_heap hk) (by simp)).trans hk⟩
theorem one_append_row (s x : Operand) (t e : TypeId) (hgd : o.guard = none) (ho : o.op = .call { callee := .builtin .append, args := #[s, x], argTypes := #[t, t] })
    (ht : P.underlying t = some (.slice e)) (hi : (P.info? e).map (fun i => (i.zero, i.size, i.bytes)) = some (some (.int .i64 0), 1, 8))
    (B : Nat) (a : Option Addr) (n c : Nat) (zs : List Int) (hn : zs.length = n) (hs : F.eval s = .slice a n c) (hown : w.ownsRow B e 1 (.slice a n c) n (vints .i64 zs))
    (X : Nat) (z : Int) (hx : F.eval x = .slice (some ⟨X, 0, none⟩) 1 1) (hX : w.heap[X]? = some (.cells #[.int .i64 z] e (0, 0))) (hb : (n + 1) * 8 ≤ 140737488355328)
    (h : ∀ (a' : Option Addr) (c' : Nat) w', IntsAt .i64 w' a' (zs ++ [z]) → RApp B e zs z w w' → Q .normal (F.put o.dst (.slice a' (n + 1) c')) w') : wpList P ops Q [o] F w := by
  obtain ⟨i, hi1, hi2, hi3, hi4⟩ := info_parts hi
  have hnew : ∀ j u, [Value.int .i64 z][j]? = some u → w.cell? ((⟨X, 0, none⟩ : Addr).add j) = some u := by
    intro j u hj
    match j, hj with
    | 0, hj => simp at hj; subst hj; exact cell_of_row _ _ 0 _ _ _ hX
    | j + 1, hj => simp at hj
  rcases hown.2 with ⟨hv, h0⟩ | ⟨g, cap, cur, hv, hBg, hg, hnc, hcm, hcs, htk⟩
  · injection hv with q1 q2 q3
    subst q1; subst q3; subst h0
    have hz : zs = [] := List.eq_nil_of_length_eq_zero hn
    subst hz
    refine wpList_append_grows w hgd s x t ho e i (.int .i64 0) 1 8 ht hi1 hi2 hi3 hi4 rfl (by decide) none 0 0 [] hs (fun _ => ⟨rfl, rfl⟩) rfl (fun b hb => by cases hb) ⟨X, 0, none⟩ 1 1 [.int .i64 z] hx rfl hnew (by simp [Value.oneCell']) (by omega) (by unfold maxLen; omega) (by omega) ?_
    intro v' w' hr hgr
    have hr' : w'.ownsRow w.heap.size e 1 v' (0 + 1) (vints .i64 ([] ++ [z])) := hr
    obtain ⟨g2, c2, hv2, _⟩ := hr'.form (by omega)
    subst hv2
    exact h _ _ _ (IntsAt.of_own hr' (by simp)) (RApp.of_grown hgr)
  · injection hv with q1 q2 q3
    subst q1; subst q3
    have hcell : ∀ j u, (vints .i64 zs)[j]? = some u → w.cell? ⟨g, 0 + j, none⟩ = some u := by
      intro j u hj
      rw [Nat.zero_add]
      have := hown.cellAt j (by have := (List.getElem?_eq_some_iff.1 hj).1; rw [vints_length, hn] at this; omega)
      rw [this]; exact hj
    have hlt : ∀ j, j < c → (w.cell? ⟨g, j, none⟩).isSome = true := by
      intro j hj
      rw [cell_of_row _ _ j _ _ _ hg]
      rw [Array.getElem?_eq_getElem (by rw [hcs]; omega)]; rfl
    refine wpList_append_arg w hgd s x t ho e i (.int .i64 0) 1 8 ht hi1 hi2 hi3 hi4 rfl (by decide) g 0 n c (vints .i64 zs) hs (by rw [vints_length, hn, Nat.mul_one]) hcell ⟨X, 0, none⟩ 1 1 [.int .i64 z] hx rfl hnew (by simp [Value.oneCell'])
      (fun hr j hj => by
        have hj0 : j = 0 := by simpa using hj
        subst hj0
        exact ⟨hlt _ (by omega), Mem.frozen_of_row hg _⟩) (by unfold maxLen; omega) hb ?_ ?_
    · intro hr
      have e1 : w.setCells g (0 + n * 1) [.int .i64 z] = w.setCell ⟨g, n, none⟩ (.int .i64 z) := by
        rw [Nat.zero_add, Nat.mul_one]; rfl
      rw [e1]
      have hg2 : (w.setCell ⟨g, n, none⟩ (.int .i64 z)).heap[g]? = some (.cells (cur.setIfInBounds n (.int .i64 z)) e (0, 0)) := heap_setCell_same w g n cur e _ hg
      have hoth : ∀ k, k ≠ g → (w.setCell ⟨g, n, none⟩ (.int .i64 z)).heap[k]? = w.heap[k]? := fun k hk => heap_setCell_other w ⟨g, n, none⟩ k _ hk
      have htk' : cur.toList.take n = vints .i64 zs := by rw [Nat.mul_one] at htk; exact htk
      refine h _ _ _ ?_ ⟨fun _ => (Below.refl _ _).setCell (p := ⟨g, n, none⟩) hBg _, fun k k1 k2 => ?_, fun v hv => ?_, fun k hk => ?_⟩
      · intro _
        refine ⟨⟨g, 0, none⟩, rfl, by rw [World.size_setCell]; exact lt_of_heap hg, fun j hj => ?_⟩
        rw [Addr.add_lit, Nat.zero_add, cell_of_row _ _ j _ _ _ hg2]
        simp at hj
        by_cases hjn : j = n
        · subst hjn
          rw [Array.getElem?_setIfInBounds]
          rw [if_pos rfl, if_pos (by rw [hcs]; omega)]
          rw [List.getD_eq_getElem?_getD, List.getElem?_append_right (by omega), hn, Nat.sub_self]; rfl
        · rw [Array.getElem?_setIfInBounds, if_neg (by omega)]
          have := hcell j _ (vints_get .i64 zs j (by omega))
          rw [Nat.zero_add, cell_of_row _ _ j _ _ _ hg] at this
          rw [this, List.getD_eq_getElem?_getD, List.getD_eq_getElem?_getD, List.getElem?_append_left (by omega)]
      · exact hoth k (fun e2 => by subst e2; exact k2 _ hg)
      · rw [hn] at hv ⊢
        rcases hv.2 with ⟨h1, h2⟩ | ⟨g2, cap2, cur2, h1, h2, h3, h4, h5, h6, h7⟩
        · exact ⟨hv.1, .inl ⟨h1, h2⟩⟩
        · refine ⟨hv.1, .inr ?_⟩
          by_cases hgg : g2 = g
          · subst hgg
            rw [hg] at h3
            injection h3 with h3
            injection h3 with q1 q2 q3
            subst q1
            refine ⟨g2, cap2, _, h1, h2, hg2, h4, h5, by simpa using h6, ?_⟩
            rw [Array.toList_setIfInBounds, List.take_set_of_le (by omega)]
            exact h7
          · exact ⟨g2, cap2, cur2, h1, h2, (hoth g2 hgg).trans h3, h4, h5, h6, h7⟩
      · by_cases hkg : k = g
        · subst hkg
          rw [hg] at hk
          injection hk with hk
          injection hk with q1 q2 q3
          subst q1
          have hn0 : n = 0 := by simp at hcs; omega
          subst hn0
          rw [hg2]; rfl
        · exact (hoth k hkg).trans hk
    · intro hr v' w' hro hgr
      have hro' : w'.ownsRow w.heap.size e 1 v' (n + 1) (vints .i64 (zs ++ [z])) := by rw [← vints_append]; exact hro
      obtain ⟨g2, c2, hv2, _⟩ := hro'.form (by omega)
      subst hv2
      exact h _ _ _ (IntsAt.of_own hro' (by simp [hn])) (RApp.of_grown hgr)
end
end Go.Mem
