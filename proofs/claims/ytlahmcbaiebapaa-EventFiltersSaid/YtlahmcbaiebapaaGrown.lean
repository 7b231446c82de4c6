/- Worlds that grew, one block written: laws. Rows of Bools. No program is named here. -/
import Derived.Test.YtlahmcbaiebapaaOwn
namespace Go
open Go.RowKit
namespace Mem
theorem gb_refl (w : World) (row : Option Nat) : w.grownBy w row := ⟨rfl, rfl, rfl, Nat.le_refl _, fun _ _ _ => rfl⟩
theorem gb_trans {a w w' : World} {row : Option Nat} (h : a.grownBy w row) (k : w.grownBy w' row) : a.grownBy w' row :=
  ⟨k.os.trans h.os, k.tape.trans h.tape, k.output.trans h.output, Nat.le_trans h.size k.size, fun j hj hr => (k.block j (Nat.lt_of_lt_of_le hj h.size) hr).trans (h.block j hj hr)⟩
theorem gb_drew {a w : World} {row : Option Nat} (h : a.grownBy w row) : a.grownBy w.drew row := ⟨h.os, h.tape, h.output, h.size, h.block⟩
theorem gb_drewN {a w : World} {row : Option Nat} (h : a.grownBy w row) (n : Nat) : a.grownBy (w.drewN n) row := ⟨h.os, h.tape, h.output, h.size, h.block⟩
theorem gb_set {a w : World} {g : Nat} (h : a.grownBy w (some g)) (i : Nat) (v : Value) : a.grownBy (w.setCell ⟨g, i, none⟩ v) (some g) :=
  gb_trans h ⟨rfl, rfl, rfl, by simp, fun k _ hk => heap_setCell_other w ⟨g, i, none⟩ k v (fun e => hk (by rw [e]))⟩
theorem gb_alloc {a w : World} {row : Option Nat} (h : a.grownBy w row) (o : Obj) : a.grownBy (w.alloc o) row := gb_trans h (World.grownBy_alloc w o row)
theorem gb_below {a w : World} {row : Option Nat} (h : Below a.heap.size a w) : a.grownBy w row := ⟨h.os, h.tape, h.output, h.size, fun k hk _ => h.block k hk⟩
theorem below_gb {B g : Nat} {a w : World} (h : a.grownBy w (some g)) (hB : B ≤ g) (hs : B ≤ a.heap.size) : Below B a w :=
  ⟨h.os, h.tape, h.output, h.size, fun k hk => h.block k (by omega) (fun e => by injection e; omega)⟩
theorem heap_gb {a w : World} {row : Option Nat} {k : Nat} {o : Obj} (h : a.heap[k]? = some o) (hg : a.grownBy w row) (hne : some k ≠ row) : w.heap[k]? = some o := (hg.block k (lt_of_heap h) hne).trans h
/-- An owned row lies in another block than one that holds cells of another type. -/
theorem own_ne {w : World} {base e size n g t : Nat} {v : Value} {xs : List Value} {cs : Array Value} (h : w.ownsRow base e size v n xs) (hg : w.heap[g]? = some (.cells cs t (0, 0))) (hne : e ≠ t) : ∀ k, v.ownBlock = some k → some k ≠ some g := by
  intro k hk he
  injection he with he
  subst he
  rcases h.2 with ⟨h3, _⟩ | ⟨g', cap, cur, h3, _, h4, _⟩
  · rw [h3] at hk; cases hk
  · rw [h3] at hk
    obtain rfl : g' = k := by simpa [Value.ownBlock] using hk
    rw [hg] at h4
    injection h4 with h4
    injection h4 with _ ht
    exact hne ht.symm
theorem block_ne {w : World} {base e size n g t m c : Nat} {a : Option Addr} {xs : List Value} {cs : Array Value} (h : w.ownsRow base e size (.slice a m c) n xs) (hg : w.heap[g]? = some (.cells cs t (0, 0))) (hne : e ≠ t) : ∀ x, a = some x → x.block ≠ g := by
  intro x hx he
  subst hx
  exact own_ne h hg hne x.block rfl (by rw [he])
theorem own_set {w : World} {base e size n g : Nat} {v : Value} {xs : List Value} (h : w.ownsRow base e size v n xs) (hne : ∀ k, v.ownBlock = some k → some k ≠ some g) (i : Nat) (u : Value) : (w.setCell ⟨g, i, none⟩ u).ownsRow base e size v n xs :=
  own_keep h fun k hk => heap_setCell_other w ⟨g, i, none⟩ k u (fun e => hne k hk (by rw [e]))
def vbools (l : List Bool) : List Value := l.map .bool
theorem vbools_length (l : List Bool) : (vbools l).length = l.length := by simp [vbools]
theorem vbools_get (l : List Bool) (j : Nat) (h : j < l.length) : (vbools l)[j]? = some (.bool (l.getD j false)) := by
  simp [vbools, List.getD_eq_getElem?_getD, List.getElem?_eq_getElem h]
theorem vbools_append (l m : List Bool) : vbools l ++ vbools m = vbools (l ++ m) := by simp [vbools]
theorem vbools_one (l : List Bool) : ∀ v ∈ vbools l, v.oneCell' = true := by
  intro v hv
  obtain ⟨z, _, rfl⟩ := List.mem_map.1 hv
  rfl
theorem add_next (x : Addr) (i : Nat) : x.add (i + 1) = ⟨(x.add i).block, (x.add i).off + 1, none⟩ := by
  unfold Addr.add
  by_cases h : i = 0
  · subst h; simp
  · rw [if_neg (by omega), if_neg h]; simp [Nat.add_assoc]
theorem add_next2 (x : Addr) (i : Nat) : x.add (i + 2) = ⟨(x.add i).block, (x.add i).off + 2, none⟩ := by
  unfold Addr.add
  by_cases h : i = 0
  · subst h; simp
  · rw [if_neg (by omega), if_neg h]; simp [Nat.add_assoc]
theorem mem_getD {l : List Int} {i : Nat} (h : i < l.length) : l.getD i 0 ∈ l := by simp [h]
/-- A slice of Bools. -/
def BoolsAt (w : World) (a : Option Addr) (L : List Bool) : Prop := 0 < L.length → ∃ x, a = some x ∧ x.block < w.heap.size ∧ ∀ i, i < L.length → w.cell? (x.add i) = some (.bool (L.getD i false))
theorem BoolsAt.below {w w' : World} {a : Option Addr} {L : List Bool} (h : BoolsAt w a L) (hb : Below w.heap.size w w') : BoolsAt w' a L := by
  intro hn
  obtain ⟨x, rfl, hx, hc⟩ := h hn
  exact ⟨x, rfl, Nat.lt_of_lt_of_le hx hb.size, fun i hi => (hb.cell (by rw [block_of_add]; exact hx)).trans (hc i hi)⟩
theorem BoolsAt.of_own {w : World} {base e n cap : Nat} {a : Option Addr} {L : List Bool} (h : w.ownsRow base e 1 (.slice a n cap) n (vbools L)) (hn : n = L.length) : BoolsAt w a L := by
  intro hz
  rcases a with _ | ad
  · obtain ⟨g, cap', hv, _⟩ := h.form (by omega)
    cases hv
  · obtain ⟨g, cap', hv, _, hlt⟩ := h.form (by omega)
    injection hv with hv
    injection hv with hv
    subst hv
    refine ⟨_, rfl, hlt, fun i hi => ?_⟩
    exact h.cells (g := g) rfl i _ (vbools_get L i hi)
/-- An owned row as a slice. -/
theorem own_slice {w : World} {base e n : Nat} {v : Value} {xs : List Value} (h : w.ownsRow base e 1 v n xs) : ∃ a cap, v = .slice a n cap ∧ n ≤ cap ∧ (0 < n → ∃ g, a = some ⟨g, 0, none⟩) := by
  rcases h.2 with ⟨h1, h2⟩ | ⟨g, cap, cur, h1, h2, h3, h4, h5⟩
  · exact ⟨none, 0, by rw [h1, h2], by omega, fun h => by omega⟩
  · exact ⟨_, cap, h1, h4, fun _ => ⟨g, rfl⟩⟩
theorem IntsAt.gb {k : IntKind} {w w' : World} {a : Option Addr} {zs : List Int} {g : Nat} (h : IntsAt k w a zs) (hg : w.grownBy w' (some g)) (ha : ∀ x, a = some x → x.block ≠ g) : IntsAt k w' a zs := by
  intro hn
  obtain ⟨x, rfl, hx, hc⟩ := h hn
  refine ⟨x, rfl, Nat.lt_of_lt_of_le hx hg.size, fun i hi => ?_⟩
  rw [World.cell?_of_block (w := w) (hg.block _ (by rw [block_of_add]; exact hx) (fun e => ha x rfl (by rw [block_of_add] at e; injection e)))]
  exact hc i hi

/-- Values that lie from an address on. -/
def ValsAt (w : World) (a : Option Addr) (vs : List Value) : Prop := 0 < vs.length → ∃ x, a = some x ∧ ∀ j u, vs[j]? = some u → w.cell? (x.add j) = some u
theorem ValsAt.of_own {w : World} {base e n cap : Nat} {a : Option Addr} {vs : List Value} (h : w.ownsRow base e 1 (.slice a n cap) n vs) (hn : n = vs.length) : ValsAt w a vs := by
  intro hz
  rcases a with _ | ad
  · obtain ⟨g, cap', hv, _⟩ := h.form (by omega)
    cases hv
  · obtain ⟨g, cap', hv, _, hlt⟩ := h.form (by omega)
    injection hv with hv
    injection hv with hv
    subst hv
    exact ⟨_, rfl, fun i u hu => h.cells (g := g) rfl i u hu⟩
/-- 'append(v, s...)' of a slice of one-cell values, whatever it is, v nil or the call's own. -/
theorem wpList_append_vals {P : Program} {w : World} {ops : Array Oper} {rest : List Oper} {o : Oper} {a : Act} {Q : Exit → Act → World → Prop} (hgd : o.guard = none) (s x : Operand) (t : TypeId)
    (ho : o.op = .call { callee := .builtin .append, args := #[s, x], argTypes := #[t, t] })
    (base : Nat) (e : TypeId) (z : Value) (bytes : Nat) (ht : P.underlying t = some (.slice e)) (hi : (P.info? e).map (fun i => (i.zero, i.size, i.bytes)) = some (some z, 1, bytes)) (hzc : z.cells.size = 1)
    (v : Value) (n : Nat) (xs : List Value) (hs : a.eval s = v) (hown : w.ownsRow base e 1 v n xs)
    (A : Option Addr) (m c : Nat) (zs : List Value) (hx : a.eval x = .slice A m c) (hm : zs.length = m) (h1 : ∀ v ∈ zs, v.oneCell' = true) (hr : ValsAt w A zs)
    (hn : n + m ≤ maxLen) (hbytes : (n + m) * bytes ≤ 140737488355328) (hbase : base ≤ w.heap.size)
    (h : ∀ v' w', w'.ownsRow base e 1 v' (n + m) (xs ++ zs) → w.grownBy w' v.ownBlock → (v'.ownBlock = v.ownBlock ∨ v'.ownBlock = some w.heap.size) → wpList P ops Q rest (a.put o.dst v') w') :
    wpList P ops Q (o :: rest) a w := by
  obtain ⟨i, hi1, hi2, hi3, hi4⟩ := info_parts hi
  have key : ∃ v' w', (Builtin.append_ #[t, t] o.type #[v, .slice A m c]).run P w = .ok v' w' ∧ w'.ownsRow base e 1 v' (n + m) (xs ++ zs) ∧ w.grownBy w' v.ownBlock ∧ (v'.ownBlock = v.ownBlock ∨ v'.ownBlock = some w.heap.size) := by
    by_cases h0 : m = 0
    · subst h0
      have hz : zs = [] := List.eq_nil_of_length_eq_zero hm
      subst hz
      rcases A with _ | ad
      · refine ⟨v, w, ?_, by simpa using hown, World.grownBy.refl w _, .inl rfl⟩
        rcases hown.2 with ⟨rfl, rfl⟩ | ⟨g, cap, cur, rfl, _, _, hnc, _⟩
        · simp [Builtin.append_, run_underlying ht, sizeOf, typeInfo, hi1, Builtin.lenOf, Builtin.firstCells]
        · simp [Builtin.append_, run_underlying ht, sizeOf, typeInfo, hi1, Builtin.lenOf, Builtin.firstCells, hnc, storeCells]
      · obtain ⟨v', w', hrun, h2, h3, _, h5⟩ := run_append_own_at (P := P) w base t o.type e i z 1 bytes ht hi1 hi2 hi3 hi4 hzc (by omega) v n _ hown ad 0 c [] rfl (by simp) (by simp) hn hbytes hbase
        exact ⟨v', w', hrun, by simpa using h2, h3, h5⟩
    · obtain ⟨ad, rfl, hc⟩ := hr (by omega)
      obtain ⟨v', w', hrun, h2, h3, _, h5⟩ := run_append_own_at (P := P) w base t o.type e i z 1 bytes ht hi1 hi2 hi3 hi4 hzc (by omega) v n _ hown ad m c zs (by rw [hm, Nat.mul_one]) hc h1 hn hbytes hbase
      exact ⟨v', w', hrun, h2, h3, h5⟩
  obtain ⟨v', w', hrun, h2, h3, h4⟩ := key
  refine wpList_plain hgd fun K hK => ?_
  unfold Oper.wp execOp
  simp only [ho, resolve, invoke, builtin, Sem.run_bind, Sem.run_pure, Result.andThen_ok, List.map_toArray, List.map_cons, List.map_nil, hs, hx, hrun]
  exact hK _ _ (h v' w' h2 h3 h4)
/-- Two blocks written at the most, new ones made. -/
structure Gr2 (w w' : World) (r1 r2 : Option Nat) : Prop where
  os : w'.os = w.os
  tape : w'.tape = w.tape
  output : w'.output = w.output
  size : w.heap.size ≤ w'.heap.size
  block : ∀ k, k < w.heap.size → some k ≠ r1 → some k ≠ r2 → w'.heap[k]? = w.heap[k]?
theorem Gr2.refl (w : World) (r1 r2 : Option Nat) : Gr2 w w r1 r2 := ⟨rfl, rfl, rfl, Nat.le_refl _, fun _ _ _ _ => rfl⟩
/-- The second row may have moved to a new block. -/
theorem Gr2.step {a w w' : World} {r1 r2 s2 : Option Nat} (h : Gr2 a w r1 r2) (k : Gr2 w w' r1 s2) (hs : ∀ b, s2 = some b → r2 = some b ∨ a.heap.size ≤ b) : Gr2 a w' r1 r2 :=
  ⟨k.os.trans h.os, k.tape.trans h.tape, k.output.trans h.output, Nat.le_trans h.size k.size, fun j hj h1 h2 => (k.block j (Nat.lt_of_lt_of_le hj h.size) h1 (fun e => by
    rcases hs j e.symm with h3 | h3
    · exact h2 h3.symm
    · omega)).trans (h.block j hj h1 h2)⟩
theorem Gr2.of1 {w w' : World} {r1 r2 : Option Nat} (h : w.grownBy w' r1) : Gr2 w w' r1 r2 := ⟨h.os, h.tape, h.output, h.size, fun k hk h1 _ => h.block k hk h1⟩
theorem Gr2.of2 {w w' : World} {r1 r2 : Option Nat} (h : w.grownBy w' r2) : Gr2 w w' r1 r2 := ⟨h.os, h.tape, h.output, h.size, fun k hk _ h2 => h.block k hk h2⟩
theorem Gr2.drewN {a w : World} {r1 r2 : Option Nat} (h : Gr2 a w r1 r2) (n : Nat) : Gr2 a (w.drewN n) r1 r2 := ⟨h.os, h.tape, h.output, h.size, h.block⟩
theorem Gr2.drew {a w : World} {r1 r2 : Option Nat} (h : Gr2 a w r1 r2) : Gr2 a w.drew r1 r2 := ⟨h.os, h.tape, h.output, h.size, h.block⟩
theorem Gr2.heap {w w' : World} {r1 r2 : Option Nat} {k : Nat} {o : Obj} (h : Gr2 w w' r1 r2) (hk : w.heap[k]? = some o) (h1 : some k ≠ r1) (h2 : some k ≠ r2) : w'.heap[k]? = some o := (h.block k (lt_of_heap hk) h1 h2).trans hk
theorem Gr2.own {w w' : World} {r1 r2 : Option Nat} {base e size n : Nat} {v : Value} {xs : List Value} (h : Gr2 w w' r1 r2) (ho : w.ownsRow base e size v n xs) (h1 : ∀ k, v.ownBlock = some k → some k ≠ r1) (h2 : ∀ k, v.ownBlock = some k → some k ≠ r2) : w'.ownsRow base e size v n xs :=
  own_keep ho fun g hg => h.block g (own_lt ho g hg).2 (h1 g hg) (h2 g hg)
theorem Gr2.below {w w' : World} {r1 r2 : Option Nat} {B : Nat} (h : Gr2 w w' r1 r2) (hs : B ≤ w.heap.size) (h1 : ∀ k, r1 = some k → B ≤ k) (h2 : ∀ k, r2 = some k → B ≤ k) : Below B w w' :=
  ⟨h.os, h.tape, h.output, h.size, fun k hk => h.block k (by omega) (fun e => by have := h1 k e.symm; omega) (fun e => by have := h2 k e.symm; omega)⟩
theorem gr_of_below {w w' : World} {r1 r2 : Option Nat} (h : Below w.heap.size w w') : Gr2 w w' r1 r2 := ⟨h.os, h.tape, h.output, h.size, fun k hk _ _ => h.block k hk⟩
end Mem
end Go
