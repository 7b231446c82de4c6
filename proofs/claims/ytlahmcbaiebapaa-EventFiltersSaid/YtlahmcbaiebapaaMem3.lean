/- Rows of elements of several cells: made, and written. No program is named here. -/
import Derived.Test.YtlahmcbaiebapaaMem2
import Derived.Laws.MakeOwn
import Derived.Test.YtlahmcbaiebapaaOwn
namespace Go
open Go.RowKit
namespace Mem
/-- Block g is a row of N cells. -/
def Blk (w : World) (g : Nat) (t : TypeId) (N : Nat) : Prop := ∃ cs, w.heap[g]? = some (.cells cs t (0, 0)) ∧ cs.size = N
theorem Blk.lt {w : World} {g : Nat} {t : TypeId} {N : Nat} (h : Blk w g t N) : g < w.heap.size := by obtain ⟨cs, h1, _⟩ := h; exact lt_of_heap h1
theorem Blk.below {w w' : World} {g : Nat} {t : TypeId} {N : Nat} (h : Blk w g t N) (hb : Below w.heap.size w w') : Blk w' g t N := by obtain ⟨cs, h1, h2⟩ := h; exact ⟨cs, heap_below h1 hb, h2⟩
theorem Blk.set {w : World} {g : Nat} {t : TypeId} {N : Nat} (h : Blk w g t N) (i : Nat) (v : Value) : Blk (w.setCell ⟨g, i, none⟩ v) g t N := by
  obtain ⟨cs, h1, h2⟩ := h
  exact ⟨_, heap_set h1 i v, by simpa using h2⟩
theorem Blk.far {w : World} {g : Nat} {t : TypeId} {N : Nat} (h : Blk w g t N) {p : Addr} (hne : g ≠ p.block) (v : Value) : Blk (w.setCell p v) g t N := by
  obtain ⟨cs, h1, h2⟩ := h
  exact ⟨_, heap_far h1 hne v, h2⟩
theorem Blk.cell {w : World} {g : Nat} {t : TypeId} {N : Nat} (h : Blk w g t N) (i : Nat) (hi : i < N) : ∃ v, w.cell? ⟨g, i, none⟩ = some v := by
  obtain ⟨cs, h1, h2⟩ := h
  rw [cell_of_row w g i _ _ _ h1]
  exact ⟨cs[i]'(by omega), Array.getElem?_eq_getElem (by omega)⟩
theorem Blk.frozen {w : World} {g : Nat} {t : TypeId} {N : Nat} (h : Blk w g t N) (i : Nat) : w.frozen? ⟨g, i, none⟩ = false := by
  obtain ⟨cs, h1, _⟩ := h; exact Mem.frozen_of_row h1 i
theorem wpList_make_blk {P : Program} {ops : Array Oper} {rest : List Oper} {o : Oper} {a : Act} {w : World} {Q : Exit → Act → World → Prop}
    (hg : o.guard = none) (l c : Operand) (t : TypeId) (hop : o.op = Op.makeSlice t l c) (e : TypeId) (z : Value) (sz bytes : Nat) (h1 : P.underlying t = some (.slice e)) (h2 : (P.info? e).map (fun i => (i.zero, i.size, i.bytes)) = some (some z, sz, bytes))
    (kl kc : IntKind) (L C : Int) (n : Nat) (hl : a.eval l = .int kl L) (hc : a.eval c = .int kc C) (hL : L = (n : Int)) (hC : C = (n : Int)) (b2 : bytes * n ≤ 281474976710656) (b3 : n ≤ maxLen)
    (hK : ∀ w2, Blk w2 w.heap.size e (n * sz) → Below w.heap.size w w2 → w2.heap.size = w.heap.size + 1 → wpList P ops Q rest (a.put o.dst (.slice (some ⟨w.heap.size, 0, none⟩) n n)) w2) :
    wpList P ops Q (o :: rest) a w := by
  refine wpList_plain hg fun K hK' => ?_
  obtain ⟨i, hi, hz, hs, hby⟩ := info_parts h2
  subst hL
  subst hC
  have hb : (i.bytes : Int) * (n : Int) ≤ 281474976710656 := by
    have h : ((i.bytes * n : Nat) : Int) ≤ 281474976710656 := by rw [hby]; omega
    rwa [Int.natCast_mul] at h
  have hr := run_make (P := P) w t e i z h1 hi hz kl kc n n (by omega) (by omega) hb (by unfold maxLen at b3; omega)
  simp only [Int.toNat_natCast] at hr
  unfold Oper.wp
  simp [execOp, hop, hl, hc, hr, Result.andThen, Oper.upon]
  refine hK' _ _ (hK _ ⟨_, heap_alloc_new _ _, ?_⟩ ((Below.refl _ _).alloc (Nat.le_refl _) _) (by simp))
  rw [size_madeCells, hs]
theorem list10 {α : Type} {vs : List α} (h : vs.length = 10) : ∃ a b c d e f g i j k, vs = [a, b, c, d, e, f, g, i, j, k] := by
  match vs, h with
  | [a, b, c, d, e, f, g, i, j, k], _ => exact ⟨a, b, c, d, e, f, g, i, j, k, rfl⟩
theorem add_nextN (x : Addr) (i r : Nat) (h : 0 < r) : x.add (i + r) = ⟨(x.add i).block, (x.add i).off + r, none⟩ := by
  unfold Addr.add
  by_cases h0 : i = 0
  · subst h0; rw [if_neg (by omega), if_pos rfl, Nat.zero_add]
  · rw [if_neg (by omega), if_neg h0]; simp [Nat.add_assoc]
theorem cell_set_ne {w : World} {p q : Addr} {v : Value} (h : p ≠ q) : (w.setCell p v).cell? q = w.cell? q := World.cell?_setCell_other (h := h) ..
theorem cell_set_eq {w : World} {p : Addr} {u v : Value} (h : w.cell? p = some u) : (w.setCell p v).cell? p = some v := World.cell?_setCell_same (h := h) ..
theorem add_zero_block (G i : Nat) : (⟨G, 0, none⟩ : Addr).add i = ⟨G, i, none⟩ := by
  unfold Addr.add
  by_cases h : i = 0
  · rw [if_pos h, h]
  · rw [if_neg h]; simp
/-- The cells behind an address that is asked for only where there is one. -/
def CellsAt (w : World) (a : Option Addr) (us : List Value) : Prop := 0 < us.length → ∃ x, a = some x ∧ x.block < w.heap.size ∧ ∀ j u, us[j]? = some u → w.cell? (x.add j) = some u
/-- 'append(v, s...)' of a slice of whatever elements, whatever it is, v nil or the call's own. -/
theorem wpList_append_cells {P : Program} {w : World} {ops : Array Oper} {rest : List Oper} {o : Oper} {a : Act} {Q : Exit → Act → World → Prop} (hgd : o.guard = none) (s x : Operand) (t : TypeId)
    (ho : o.op = .call { callee := .builtin .append, args := #[s, x], argTypes := #[t, t] })
    (base : Nat) (e : TypeId) (z : Value) (sz bytes : Nat) (ht : P.underlying t = some (.slice e)) (hi : (P.info? e).map (fun i => (i.zero, i.size, i.bytes)) = some (some z, sz, bytes)) (hzs : z.cells.size = sz) (hsz : 0 < sz)
    (v : Value) (n : Nat) (xs : List Value) (hs : a.eval s = v) (hown : w.ownsRow base e sz v n xs)
    (A : Option Addr) (m c : Nat) (zs : List Value) (hx : a.eval x = .slice A m c) (hm : zs.length = m * sz) (hr : CellsAt w A zs) (hone : ∀ u ∈ zs, u.oneCell' = true)
    (hn : n + m ≤ maxLen) (hbytes : (n + m) * bytes ≤ 140737488355328) (hbase : base ≤ w.heap.size)
    (h : ∀ v' w', w'.ownsRow base e sz v' (n + m) (xs ++ zs) → w.grownBy w' v.ownBlock → (v'.ownBlock = v.ownBlock ∨ v'.ownBlock = some w.heap.size) → wpList P ops Q rest (a.put o.dst v') w') :
    wpList P ops Q (o :: rest) a w := by
  obtain ⟨i, hi1, hi2, hi3, hi4⟩ := info_parts hi
  have key : ∃ v' w', (Builtin.append_ #[t, t] o.type #[v, .slice A m c]).run P w = .ok v' w' ∧ w'.ownsRow base e sz v' (n + m) (xs ++ zs) ∧ w.grownBy w' v.ownBlock ∧ (v'.ownBlock = v.ownBlock ∨ v'.ownBlock = some w.heap.size) := by
    by_cases h0 : m = 0
    · subst h0
      have hz : zs = [] := List.eq_nil_of_length_eq_zero (by omega)
      subst hz
      rcases A with _ | ad
      · refine ⟨v, w, ?_, by simpa using hown, World.grownBy.refl w _, .inl rfl⟩
        rcases hown.2 with ⟨rfl, rfl⟩ | ⟨g, cap, cur, rfl, _, _, hnc, _⟩
        · simp [Builtin.append_, run_underlying ht, sizeOf, typeInfo, hi1, Builtin.lenOf, Builtin.firstCells]
        · simp [Builtin.append_, run_underlying ht, sizeOf, typeInfo, hi1, Builtin.lenOf, Builtin.firstCells, hnc, storeCells]
      · obtain ⟨v', w', hrun, h2, h3, _, h5⟩ := run_append_own_at (P := P) w base t o.type e i z sz bytes ht hi1 hi2 hi3 hi4 hzs hsz v n _ hown ad 0 c [] (by simp) (by simp) (by simp) hn hbytes hbase
        exact ⟨v', w', hrun, by simpa using h2, h3, h5⟩
    · obtain ⟨ad, rfl, _, hc⟩ := hr (by rw [hm]; exact Nat.mul_pos (by omega) hsz)
      obtain ⟨v', w', hrun, h2, h3, _, h5⟩ := run_append_own_at (P := P) w base t o.type e i z sz bytes ht hi1 hi2 hi3 hi4 hzs hsz v n _ hown ad m c zs hm hc hone hn hbytes hbase
      exact ⟨v', w', hrun, h2, h3, h5⟩
  obtain ⟨v', w', hrun, h2, h3, h4⟩ := key
  refine wpList_plain hgd fun K hK => ?_
  unfold Oper.wp execOp
  simp only [ho, resolve, invoke, builtin, Sem.run_bind, Sem.run_pure, Result.andThen_ok, List.map_toArray, List.map_cons, List.map_nil, hs, hx, hrun]
  exact hK _ _ (h v' w' h2 h3 h4)
end Mem
end Go
