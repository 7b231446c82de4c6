/- Lemmas for the law MigrateBack: KindCells, MigInv. No conditions. -/
import Derived.Test.YtijeninfmjhbnaaDoorM02
import Derived.Test.YtijeninfmjhbnaaDoorM05
import Derived.Test.YtijeninfmjhbnaaDoorM08
import Derived.Test.YtijeninfmjhbnaaDoorM09
import Derived.Test.YtijeninfmjhbnaaDoorM01
import Derived.RegionTactic
import Derived.BigRegion
import Derived.ChangeAlike
import Derived.Deep.DeepCutAuto
/- A list of fields as the cells of a row. -/
section
namespace Go.Proofs.YtijeninfmjhbnaaDoor
open Go.RowKit Go.ChangeShapes Go.WideShapes Go.Deep Go.Mem Go.Nm
set_option linter.unusedVariables false
def fval (l : List FieldV) (j : Nat) : Value := if j % 3 = 0 then .string (l.getD (j / 3) default).name else if j % 3 = 1 then .int .i64 (l.getD (j / 3) default).bits else .int .i64 (l.getD (j / 3) default).low
def fvals (l : List FieldV) : List Value := (List.range (l.length * 3)).map (fval l)
theorem fvals_len (l : List FieldV) : (fvals l).length = l.length * 3 := by unfold fvals; simp
theorem fvals_get (l : List FieldV) (j : Nat) (u : Value) : (fvals l)[j]? = some u ↔ j < l.length * 3 ∧ u = fval l j := by
  unfold fvals
  rw [List.getElem?_map]
  by_cases h : j < l.length * 3
  · rw [List.getElem?_range h]; simp [h, eq_comm]
  · rw [List.getElem?_eq_none (by simpa using h)]; simp [h]
theorem fvals_one (l : List FieldV) : ∀ u ∈ fvals l, u.oneCell' = true := by
  intro u hu
  unfold fvals at hu
  obtain ⟨j, _, rfl⟩ := List.mem_map.1 hu
  unfold fval
  split
  · rfl
  · split <;> rfl
theorem fval_parts (l : List FieldV) (q : Nat) (h : q < l.length) : fval l (q * 3) = .string l[q].name ∧ fval l (q * 3 + 1) = .int .i64 l[q].bits ∧ fval l (q * 3 + 2) = .int .i64 l[q].low := by
  have hd : l.getD q default = l[q] := by rw [List.getD_eq_getElem?_getD, List.getElem?_eq_getElem h]; rfl
  unfold fval
  refine ⟨?_, ?_, ?_⟩
  · rw [if_pos (by omega), show q * 3 / 3 = q by omega, hd]
  · rw [if_neg (by omega), if_pos (by omega), show (q * 3 + 1) / 3 = q by omega, hd]
  · rw [if_neg (by omega), if_neg (by omega), show (q * 3 + 2) / 3 = q by omega, hd]
theorem cells_flds {w : World} {a : Option Addr} {l : List FieldV} (h : SlAt 3 FieldAt w a l) : CellsAt w a (fvals l) := fun h0 => by
  rw [fvals_len] at h0
  obtain ⟨x, e, hx, hi⟩ := h (by omega)
  refine ⟨x, e, hx, fun j u hu => ?_⟩
  obtain ⟨hj, rfl⟩ := (fvals_get l j u).1 hu
  have hq : j / 3 < l.length := by omega
  obtain ⟨k0, k1, k2, _⟩ := hi (j / 3) hq
  obtain ⟨p0, p1, p2⟩ := fval_parts l (j / 3) hq
  rcases (show j = j / 3 * 3 ∨ j = j / 3 * 3 + 1 ∨ j = j / 3 * 3 + 2 by omega) with e | e | e
  · rw [show fval l j = fval l (j / 3 * 3) by rw [← e], p0, show x.add j = x.add (j / 3 * 3) by rw [← e]]; exact k0
  · rw [show fval l j = fval l (j / 3 * 3 + 1) by rw [← e], p1, show x.add j = x.add (j / 3 * 3 + 1) by rw [← e], add_nextN _ _ 1 (by decide)]; exact k1
  · rw [show fval l j = fval l (j / 3 * 3 + 2) by rw [← e], p2, show x.add j = x.add (j / 3 * 3 + 2) by rw [← e], add_nextN _ _ 2 (by decide)]; exact k2
theorem flds_own {w : World} {base e n : Nat} {v : Value} {l : List FieldV} (hn : l.length = n) (h : w.ownsRow base e 3 v n (fvals l)) (hs : ∀ y ∈ l, y.name.size ≤ 9223372036854775807) :
    ∃ a c, v = .slice a n c ∧ n ≤ c ∧ c ≤ 9223372036854775807 ∧ SlAt 3 FieldAt w a l ∧ (∀ x, a = some x → base ≤ x.block) := by
  subst hn
  obtain ⟨_, ⟨hv, h0⟩ | ⟨g, cap, cur, hv, hb, hg, hc1, hc2, hc3, hc4⟩⟩ := h
  · exact ⟨none, 0, by rw [hv, h0], by omega, by omega, fun h => by omega, fun x hx => by cases hx⟩
  · refine ⟨some ⟨g, 0, none⟩, cap, hv, hc1, by unfold maxLen at hc2; omega, fun _ => ⟨_, rfl, lt_of_heap hg, fun q hq => ?_⟩, fun x hx => by injection hx with hx; rw [← hx]; exact hb⟩
    have cell : ∀ j, j < l.length * 3 → w.cell? ⟨g, j, none⟩ = some (fval l j) := by
      intro j hj
      rw [cell_of_row _ _ _ _ _ _ hg]
      have := (fvals_get l j (fval l j)).2 ⟨hj, rfl⟩
      rw [← hc4, List.getElem?_take, if_pos hj] at this
      simpa using this
    obtain ⟨p0, p1, p2⟩ := fval_parts l q hq
    rw [add_zero_block]
    exact ⟨by rw [cell _ (by omega), p0], by show w.cell? ⟨g, q * 3 + 1, none⟩ = _; rw [cell _ (by omega), p1], by show w.cell? ⟨g, q * 3 + 2, none⟩ = _; rw [cell _ (by omega), p2], hs _ (List.getElem_mem _)⟩
theorem flds_names {w : World} {a : Option Addr} {l : List FieldV} (h : SlAt 3 FieldAt w a l) : ∀ y ∈ l, y.name.size ≤ 9223372036854775807 := by
  intro y hy
  obtain ⟨j, hj, rfl⟩ := List.mem_iff_getElem.1 hy
  obtain ⟨x, e, hx, hi⟩ := h (by omega)
  exact (hi j hj).2.2.2
end Go.Proofs.YtijeninfmjhbnaaDoor
end
/- migrate.inverse. By program (gen_miginv.py). -/
section
namespace Go.Proofs.YtijeninfmjhbnaaDoor
open Go.ChangeShapes Go.WideShapes Go.ChangeAt Go.RowKit Go.Nm Go.Mem
set_option linter.unusedVariables false
def InvPost (ks : List KindV) (y : MoveV) (W : World) (e : Ending) (w' : World) : Prop := e = .returned (.tuple #[.agg #[.int .i64 (invV ks y).do_, .string (invV ks y).kind, .string (invV ks y).field, .string (invV ks y).name, .int .i64 0, .string (⟨#[]⟩ : ByteArray), .int .i64 (invV ks y).new.bits, .int .i64 (invV ks y).new.low, .string (⟨#[]⟩ : ByteArray), .slice none 0 0], .bool (invB ks y)]) ∧ Below W.heap.size W w'
theorem InvPost.mk {ks : List KindV} {y z : MoveV} {b : Bool} {W w' : World} (hz : invV ks y = z) (hb : invB ks y = b) (h : Below W.heap.size W w') : InvPost ks y W (.returned (.tuple #[.agg #[.int .i64 z.do_, .string z.kind, .string z.field, .string z.name, .int .i64 0, .string (⟨#[]⟩ : ByteArray), .int .i64 z.new.bits, .int .i64 z.new.low, .string (⟨#[]⟩ : ByteArray), .slice none 0 0], .bool b])) w' := ⟨by rw [hz, hb], h⟩
set_option maxHeartbeats 8000000 in
set_option maxRecDepth 100000 in
theorem mig_inv_0 (ks : List KindV) (ka : Option Addr) (n kc : Nat) (hn : ks.length = n) (h1 : n ≤ 1048576) (hv : ∀ k ∈ ks, k.fields.length ≤ 1048576) (y : MoveV) (a : Option Addr) (c : Nat) (W : World) (hz : SlAt 2 KindAt W ka ks) (hk0 : kindsE ks = 0) (he : oneE ks y = 0) (hd : y.do_ = 0) :
    Calls Tryd.prog 31 #[.slice ka n kc, .agg #[.int .i64 0, .string y.kind, .string y.field, .string y.name, .int .i64 y.value, .string y.new.name, .int .i64 y.new.bits, .int .i64 y.new.low, .string y.whole.name, .slice a y.whole.fields.length c]] W (InvPost ks y W) := by
  have hp := (oneE_kinds he).1
  have hp0 : pI ks y = 0 ∧ pJ ks y = 0 := ⟨by unfold pI; rw [if_pos (Or.inr hd)], by unfold pJ; rw [if_pos (Or.inr (by rw [hd]; decide))]⟩
  have hV : invV ks y = ⟨1, y.whole.name, (⟨#[]⟩ : ByteArray), (⟨#[]⟩ : ByteArray), 0, zF, zK⟩ := by unfold invV; rw [if_pos hd]
  have hB : invB ks y = true := by unfold invB; rw [if_neg (by rw [hd]; decide), if_neg (by rw [hd]; decide)]
  have HVV := Lib.hid hV
  have HBB := Lib.hid hB
  have hb0 := ((Below.refl W.heap.size W).alloc (Nat.le_refl _) (.cells #[.int .i64 0, .string y.kind, .string y.field, .string y.name, .int .i64 y.value, .string y.new.name, .int .i64 y.new.bits, .int .i64 y.new.low, .string y.whole.name, .slice a y.whole.fields.length c] 45)).alloc (by simp) (.cells #[.int .i64 0, .string (⟨#[]⟩ : ByteArray), .string (⟨#[]⟩ : ByteArray), .string (⟨#[]⟩ : ByteArray), .int .i64 0, .string (⟨#[]⟩ : ByteArray), .int .i64 0, .int .i64 0, .string (⟨#[]⟩ : ByteArray), .slice none 0 0] 45)
  have hrow := heap_keep (heap_alloc_new W (.cells #[.int .i64 0, .string y.kind, .string y.field, .string y.name, .int .i64 y.value, .string y.new.name, .int .i64 y.new.bits, .int .i64 y.new.low, .string y.whole.name, .slice a y.whole.fields.length c] 45)) (.cells #[.int .i64 0, .string (⟨#[]⟩ : ByteArray), .string (⟨#[]⟩ : ByteArray), .string (⟨#[]⟩ : ByteArray), .int .i64 0, .string (⟨#[]⟩ : ByteArray), .int .i64 0, .int .i64 0, .string (⟨#[]⟩ : ByteArray), .slice none 0 0] 45)
  have hres := heap_alloc_new (W.alloc (.cells #[.int .i64 0, .string y.kind, .string y.field, .string y.name, .int .i64 y.value, .string y.new.name, .int .i64 y.new.bits, .int .i64 y.new.low, .string y.whole.name, .slice a y.whole.fields.length c] 45)) (.cells #[.int .i64 0, .string (⟨#[]⟩ : ByteArray), .string (⟨#[]⟩ : ByteArray), .string (⟨#[]⟩ : ByteArray), .int .i64 0, .string (⟨#[]⟩ : ByteArray), .int .i64 0, .int .i64 0, .string (⟨#[]⟩ : ByteArray), .slice none 0 0] 45)
  rw [World.size_alloc] at hres
  obtain ⟨w0, hw0⟩ : ∃ w, w = (W.alloc (.cells #[.int .i64 0, .string y.kind, .string y.field, .string y.name, .int .i64 y.value, .string y.new.name, .int .i64 y.new.bits, .int .i64 y.new.low, .string y.whole.name, .slice a y.whole.fields.length c] 45)).alloc (.cells #[.int .i64 0, .string (⟨#[]⟩ : ByteArray), .string (⟨#[]⟩ : ByteArray), .string (⟨#[]⟩ : ByteArray), .int .i64 0, .string (⟨#[]⟩ : ByteArray), .int .i64 0, .int .i64 0, .string (⟨#[]⟩ : ByteArray), .slice none 0 0] 45) := ⟨_, rfl⟩
  rw [← hw0] at hb0 hrow hres
  have cP := mig_place ks ka n kc hn h1 hv y a c w0 (hz.below KindAt.abides hb0)
  rw [hd, hp, hp0.1, hp0.2] at cP
  obtain ⟨nk, hnk⟩ : ∃ x, x = y.kind := ⟨_, rfl⟩
  obtain ⟨nf, hnf⟩ : ∃ x, x = y.field := ⟨_, rfl⟩
  obtain ⟨nm, hnm⟩ : ∃ x, x = y.name := ⟨_, rfl⟩
  obtain ⟨vv, hvv⟩ : ∃ x, x = y.value := ⟨_, rfl⟩
  obtain ⟨fn, hfn⟩ : ∃ x, x = y.new.name := ⟨_, rfl⟩
  obtain ⟨fb, hfb⟩ : ∃ x, x = y.new.bits := ⟨_, rfl⟩
  obtain ⟨fo, hfo⟩ : ∃ x, x = y.new.low := ⟨_, rfl⟩
  obtain ⟨wn, hwn⟩ : ∃ x, x = y.whole.name := ⟨_, rfl⟩
  obtain ⟨wl, hwl⟩ : ∃ x, x = y.whole.fields.length := ⟨_, rfl⟩
  rw [← hnk, ← hnf, ← hnm, ← hvv, ← hfn, ← hfb, ← hfo, ← hwn, ← hwl] at hrow hw0 ⊢
  rw [← hnk, ← hnf, ← hnm, ← hvv, ← hfn, ← hfb, ← hfo, ← hwn, ← hwl] at cP
  rw [← hwn] at HVV
  obtain ⟨g, hg⟩ : ∃ g, g = W.heap.size := ⟨_, rfl⟩
  obtain ⟨g4, hg4⟩ : ∃ x, x = W.heap.size + 1 := ⟨_, rfl⟩
  rw [← hg] at hrow
  rw [← hg4] at hres
  have HB := Lib.hid hb0
  have HROW := Lib.hid hrow
  have HRES := Lib.hid hres
  have HW0 := Lib.hid hw0
  have HG := Lib.hid (And.intro hg hg4)
  have HN := Lib.hid hn
  have H1 := Lib.hid h1
  have HZ := Lib.hid hz
  have CP := Lib.hid cP
  clear hV hB hp hb0 hrow hres hw0 hg hg4 hn h1 hv hz hd hk0 he hnk hnf hnm hvv hfn hfb hfo hwn hwl cP hp0
  go_enter Tryd.func31, Tryd.ntmps31
  go_wp2_with fail
  rw [← HW0.out, ← HG.out.2, ← HG.out.1]
  refine CP.out.mono ?_
  rintro e w1 ⟨rfl, hb1⟩
  replace HB := Lib.hid (bt HB.out hb1)
  replace HROW := Lib.hid (heap_below HROW.out hb1)
  replace HRES := Lib.hid (heap_below HRES.out hb1)
  have hgs : g < g4 := by have := HG.out.1; have := HG.out.2; omega
  have r0 := cell_of_row _ _ 0 _ _ _ HROW.out
  clear hb1 CP HW0
  have r8 := cell_of_row _ _ 8 _ _ _ HROW.out
  go_wp2_with (refine wpList_store_rowP rfl 45 (.tmp 4) (.tmp 25) rfl g4 #[.int .i64 1, .string wn, .string (⟨#[]⟩ : ByteArray), .string (⟨#[]⟩ : ByteArray), .int .i64 0, .string (⟨#[]⟩ : ByteArray), .int .i64 0, .int .i64 0, .string (⟨#[]⟩ : ByteArray), .slice none 0 0] rfl rfl _ _ HRES.out (by kernel_rfl) rfl (by simp [Value.oneCell']) ?_; intro w9 hput; have HPUT := Lib.hid hput; clear hput)
  have hput := HPUT.out
  refine bodyPost_ret (results_ct Tryd.results31 _ _ g4 45 #[.int .i64 1, .string wn, .string (⟨#[]⟩ : ByteArray), .string (⟨#[]⟩ : ByteArray), .int .i64 0, .string (⟨#[]⟩ : ByteArray), .int .i64 0, .int .i64 0, .string (⟨#[]⟩ : ByteArray), .slice none 0 0] (0, 0) _ rfl hput.here Tryd.underlying45 rfl (by kernel_rfl)) rfl ?_
  exact InvPost.mk HVV.out HBB.out (HB.out.trans (hput.below (by have := HG.out.2; omega)))
set_option maxHeartbeats 8000000 in
set_option maxRecDepth 100000 in
theorem mig_inv_1 (ks : List KindV) (ka : Option Addr) (n kc : Nat) (hn : ks.length = n) (h1 : n ≤ 1048576) (hv : ∀ k ∈ ks, k.fields.length ≤ 1048576) (y : MoveV) (a : Option Addr) (c : Nat) (W : World) (hz : SlAt 2 KindAt W ka ks) (hk0 : kindsE ks = 0) (he : oneE ks y = 0) (hd : y.do_ = 1) :
    Calls Tryd.prog 31 #[.slice ka n kc, .agg #[.int .i64 1, .string y.kind, .string y.field, .string y.name, .int .i64 y.value, .string y.new.name, .int .i64 y.new.bits, .int .i64 y.new.low, .string y.whole.name, .slice a y.whole.fields.length c]] W (InvPost ks y W) := by
  have hp := (oneE_kinds he).1
  obtain ⟨q, hq⟩ : ∃ q : Nat, pI ks y = (q : Int) := ⟨(pI ks y).toNat, by have := pI_bound hp (by rw [hd]; decide); omega⟩
  have hqn : q < n := by have := pI_bound hp (by rw [hd]; decide); rw [hq, hn] at this; omega
  have hj0 : pJ ks y = 0 := by unfold pJ; rw [if_pos (Or.inr (by rw [hd]; decide))]
  have hV : invV ks y = ⟨0, (⟨#[]⟩ : ByteArray), (⟨#[]⟩ : ByteArray), (⟨#[]⟩ : ByteArray), 0, zF, zK⟩ := by unfold invV; rw [if_neg (show ¬ y.do_ = 0 by rw [hd]; decide), if_neg (show ¬ y.do_ = 2 by rw [hd]; decide), if_neg (show ¬ y.do_ = 3 by rw [hd]; decide), if_neg (show ¬ y.do_ = 5 by rw [hd]; decide), if_neg (show ¬ y.do_ = 6 by rw [hd]; decide)]
  have hB : invB ks y = false := by unfold invB; rw [if_pos (Or.inl hd)]
  have HVV := Lib.hid hV
  have HBB := Lib.hid hB
  have hb0 := ((Below.refl W.heap.size W).alloc (Nat.le_refl _) (.cells #[.int .i64 1, .string y.kind, .string y.field, .string y.name, .int .i64 y.value, .string y.new.name, .int .i64 y.new.bits, .int .i64 y.new.low, .string y.whole.name, .slice a y.whole.fields.length c] 45)).alloc (by simp) (.cells #[.int .i64 0, .string (⟨#[]⟩ : ByteArray), .string (⟨#[]⟩ : ByteArray), .string (⟨#[]⟩ : ByteArray), .int .i64 0, .string (⟨#[]⟩ : ByteArray), .int .i64 0, .int .i64 0, .string (⟨#[]⟩ : ByteArray), .slice none 0 0] 45)
  have hrow := heap_keep (heap_alloc_new W (.cells #[.int .i64 1, .string y.kind, .string y.field, .string y.name, .int .i64 y.value, .string y.new.name, .int .i64 y.new.bits, .int .i64 y.new.low, .string y.whole.name, .slice a y.whole.fields.length c] 45)) (.cells #[.int .i64 0, .string (⟨#[]⟩ : ByteArray), .string (⟨#[]⟩ : ByteArray), .string (⟨#[]⟩ : ByteArray), .int .i64 0, .string (⟨#[]⟩ : ByteArray), .int .i64 0, .int .i64 0, .string (⟨#[]⟩ : ByteArray), .slice none 0 0] 45)
  have hres := heap_alloc_new (W.alloc (.cells #[.int .i64 1, .string y.kind, .string y.field, .string y.name, .int .i64 y.value, .string y.new.name, .int .i64 y.new.bits, .int .i64 y.new.low, .string y.whole.name, .slice a y.whole.fields.length c] 45)) (.cells #[.int .i64 0, .string (⟨#[]⟩ : ByteArray), .string (⟨#[]⟩ : ByteArray), .string (⟨#[]⟩ : ByteArray), .int .i64 0, .string (⟨#[]⟩ : ByteArray), .int .i64 0, .int .i64 0, .string (⟨#[]⟩ : ByteArray), .slice none 0 0] 45)
  rw [World.size_alloc] at hres
  obtain ⟨w0, hw0⟩ : ∃ w, w = (W.alloc (.cells #[.int .i64 1, .string y.kind, .string y.field, .string y.name, .int .i64 y.value, .string y.new.name, .int .i64 y.new.bits, .int .i64 y.new.low, .string y.whole.name, .slice a y.whole.fields.length c] 45)).alloc (.cells #[.int .i64 0, .string (⟨#[]⟩ : ByteArray), .string (⟨#[]⟩ : ByteArray), .string (⟨#[]⟩ : ByteArray), .int .i64 0, .string (⟨#[]⟩ : ByteArray), .int .i64 0, .int .i64 0, .string (⟨#[]⟩ : ByteArray), .slice none 0 0] 45) := ⟨_, rfl⟩
  rw [← hw0] at hb0 hrow hres
  have cP := mig_place ks ka n kc hn h1 hv y a c w0 (hz.below KindAt.abides hb0)
  rw [hd, hp, hq, hj0] at cP
  obtain ⟨nk, hnk⟩ : ∃ x, x = y.kind := ⟨_, rfl⟩
  obtain ⟨nf, hnf⟩ : ∃ x, x = y.field := ⟨_, rfl⟩
  obtain ⟨nm, hnm⟩ : ∃ x, x = y.name := ⟨_, rfl⟩
  obtain ⟨vv, hvv⟩ : ∃ x, x = y.value := ⟨_, rfl⟩
  obtain ⟨fn, hfn⟩ : ∃ x, x = y.new.name := ⟨_, rfl⟩
  obtain ⟨fb, hfb⟩ : ∃ x, x = y.new.bits := ⟨_, rfl⟩
  obtain ⟨fo, hfo⟩ : ∃ x, x = y.new.low := ⟨_, rfl⟩
  obtain ⟨wn, hwn⟩ : ∃ x, x = y.whole.name := ⟨_, rfl⟩
  obtain ⟨wl, hwl⟩ : ∃ x, x = y.whole.fields.length := ⟨_, rfl⟩
  rw [← hnk, ← hnf, ← hnm, ← hvv, ← hfn, ← hfb, ← hfo, ← hwn, ← hwl] at hrow hw0 ⊢
  rw [← hnk, ← hnf, ← hnm, ← hvv, ← hfn, ← hfb, ← hfo, ← hwn, ← hwl] at cP
  obtain ⟨g, hg⟩ : ∃ g, g = W.heap.size := ⟨_, rfl⟩
  obtain ⟨g4, hg4⟩ : ∃ x, x = W.heap.size + 1 := ⟨_, rfl⟩
  rw [← hg] at hrow
  rw [← hg4] at hres
  have HB := Lib.hid hb0
  have HROW := Lib.hid hrow
  have HRES := Lib.hid hres
  have HW0 := Lib.hid hw0
  have HG := Lib.hid (And.intro hg hg4)
  have HN := Lib.hid hn
  have H1 := Lib.hid h1
  have HZ := Lib.hid hz
  have CP := Lib.hid cP
  clear hV hB hp hb0 hrow hres hw0 hg hg4 hn h1 hv hz hd hk0 he hnk hnf hnm hvv hfn hfb hfo hwn hwl cP hq hj0 hqn
  go_enter Tryd.func31, Tryd.ntmps31
  go_wp2_with fail
  rw [← HW0.out, ← HG.out.2, ← HG.out.1]
  refine CP.out.mono ?_
  rintro e w1 ⟨rfl, hb1⟩
  replace HB := Lib.hid (bt HB.out hb1)
  replace HROW := Lib.hid (heap_below HROW.out hb1)
  replace HRES := Lib.hid (heap_below HRES.out hb1)
  have hgs : g < g4 := by have := HG.out.1; have := HG.out.2; omega
  have r0 := cell_of_row _ _ 0 _ _ _ HROW.out
  clear hb1 CP HW0

  go_wp2_with (refine wpList_store_rowP rfl 45 (.tmp 4) (.tmp 91) rfl g4 #[.int .i64 0, .string (⟨#[]⟩ : ByteArray), .string (⟨#[]⟩ : ByteArray), .string (⟨#[]⟩ : ByteArray), .int .i64 0, .string (⟨#[]⟩ : ByteArray), .int .i64 0, .int .i64 0, .string (⟨#[]⟩ : ByteArray), .slice none 0 0] rfl rfl _ _ HRES.out (by kernel_rfl) rfl (by simp [Value.oneCell']) ?_; intro w9 hput; have HPUT := Lib.hid hput; clear hput)
  have hput := HPUT.out
  refine bodyPost_ret (results_ct Tryd.results31 _ _ g4 45 #[.int .i64 0, .string (⟨#[]⟩ : ByteArray), .string (⟨#[]⟩ : ByteArray), .string (⟨#[]⟩ : ByteArray), .int .i64 0, .string (⟨#[]⟩ : ByteArray), .int .i64 0, .int .i64 0, .string (⟨#[]⟩ : ByteArray), .slice none 0 0] (0, 0) _ rfl hput.here Tryd.underlying45 rfl (by kernel_rfl)) rfl ?_
  exact InvPost.mk HVV.out HBB.out (HB.out.trans (hput.below (by have := HG.out.2; omega)))
set_option maxHeartbeats 8000000 in
set_option maxRecDepth 100000 in
theorem mig_inv_2 (ks : List KindV) (ka : Option Addr) (n kc : Nat) (hn : ks.length = n) (h1 : n ≤ 1048576) (hv : ∀ k ∈ ks, k.fields.length ≤ 1048576) (y : MoveV) (a : Option Addr) (c : Nat) (W : World) (hz : SlAt 2 KindAt W ka ks) (hk0 : kindsE ks = 0) (he : oneE ks y = 0) (hd : y.do_ = 2) :
    Calls Tryd.prog 31 #[.slice ka n kc, .agg #[.int .i64 2, .string y.kind, .string y.field, .string y.name, .int .i64 y.value, .string y.new.name, .int .i64 y.new.bits, .int .i64 y.new.low, .string y.whole.name, .slice a y.whole.fields.length c]] W (InvPost ks y W) := by
  have hp := (oneE_kinds he).1
  obtain ⟨q, hq⟩ : ∃ q : Nat, pI ks y = (q : Int) := ⟨(pI ks y).toNat, by have := pI_bound hp (by rw [hd]; decide); omega⟩
  have hqn : q < n := by have := pI_bound hp (by rw [hd]; decide); rw [hq, hn] at this; omega
  have hj0 : pJ ks y = 0 := by unfold pJ; rw [if_pos (Or.inr (by rw [hd]; decide))]
  have hV : invV ks y = ⟨2, y.name, (⟨#[]⟩ : ByteArray), y.kind, 0, zF, zK⟩ := by unfold invV; rw [if_neg (show ¬ y.do_ = 0 by rw [hd]; decide), if_pos hd]
  have hB : invB ks y = true := by unfold invB; rw [if_neg (by rw [hd]; decide), if_neg (by rw [hd]; decide)]
  have HVV := Lib.hid hV
  have HBB := Lib.hid hB
  have hb0 := ((Below.refl W.heap.size W).alloc (Nat.le_refl _) (.cells #[.int .i64 2, .string y.kind, .string y.field, .string y.name, .int .i64 y.value, .string y.new.name, .int .i64 y.new.bits, .int .i64 y.new.low, .string y.whole.name, .slice a y.whole.fields.length c] 45)).alloc (by simp) (.cells #[.int .i64 0, .string (⟨#[]⟩ : ByteArray), .string (⟨#[]⟩ : ByteArray), .string (⟨#[]⟩ : ByteArray), .int .i64 0, .string (⟨#[]⟩ : ByteArray), .int .i64 0, .int .i64 0, .string (⟨#[]⟩ : ByteArray), .slice none 0 0] 45)
  have hrow := heap_keep (heap_alloc_new W (.cells #[.int .i64 2, .string y.kind, .string y.field, .string y.name, .int .i64 y.value, .string y.new.name, .int .i64 y.new.bits, .int .i64 y.new.low, .string y.whole.name, .slice a y.whole.fields.length c] 45)) (.cells #[.int .i64 0, .string (⟨#[]⟩ : ByteArray), .string (⟨#[]⟩ : ByteArray), .string (⟨#[]⟩ : ByteArray), .int .i64 0, .string (⟨#[]⟩ : ByteArray), .int .i64 0, .int .i64 0, .string (⟨#[]⟩ : ByteArray), .slice none 0 0] 45)
  have hres := heap_alloc_new (W.alloc (.cells #[.int .i64 2, .string y.kind, .string y.field, .string y.name, .int .i64 y.value, .string y.new.name, .int .i64 y.new.bits, .int .i64 y.new.low, .string y.whole.name, .slice a y.whole.fields.length c] 45)) (.cells #[.int .i64 0, .string (⟨#[]⟩ : ByteArray), .string (⟨#[]⟩ : ByteArray), .string (⟨#[]⟩ : ByteArray), .int .i64 0, .string (⟨#[]⟩ : ByteArray), .int .i64 0, .int .i64 0, .string (⟨#[]⟩ : ByteArray), .slice none 0 0] 45)
  rw [World.size_alloc] at hres
  obtain ⟨w0, hw0⟩ : ∃ w, w = (W.alloc (.cells #[.int .i64 2, .string y.kind, .string y.field, .string y.name, .int .i64 y.value, .string y.new.name, .int .i64 y.new.bits, .int .i64 y.new.low, .string y.whole.name, .slice a y.whole.fields.length c] 45)).alloc (.cells #[.int .i64 0, .string (⟨#[]⟩ : ByteArray), .string (⟨#[]⟩ : ByteArray), .string (⟨#[]⟩ : ByteArray), .int .i64 0, .string (⟨#[]⟩ : ByteArray), .int .i64 0, .int .i64 0, .string (⟨#[]⟩ : ByteArray), .slice none 0 0] 45) := ⟨_, rfl⟩
  rw [← hw0] at hb0 hrow hres
  have cP := mig_place ks ka n kc hn h1 hv y a c w0 (hz.below KindAt.abides hb0)
  rw [hd, hp, hq, hj0] at cP
  obtain ⟨nk, hnk⟩ : ∃ x, x = y.kind := ⟨_, rfl⟩
  obtain ⟨nf, hnf⟩ : ∃ x, x = y.field := ⟨_, rfl⟩
  obtain ⟨nm, hnm⟩ : ∃ x, x = y.name := ⟨_, rfl⟩
  obtain ⟨vv, hvv⟩ : ∃ x, x = y.value := ⟨_, rfl⟩
  obtain ⟨fn, hfn⟩ : ∃ x, x = y.new.name := ⟨_, rfl⟩
  obtain ⟨fb, hfb⟩ : ∃ x, x = y.new.bits := ⟨_, rfl⟩
  obtain ⟨fo, hfo⟩ : ∃ x, x = y.new.low := ⟨_, rfl⟩
  obtain ⟨wn, hwn⟩ : ∃ x, x = y.whole.name := ⟨_, rfl⟩
  obtain ⟨wl, hwl⟩ : ∃ x, x = y.whole.fields.length := ⟨_, rfl⟩
  rw [← hnk, ← hnf, ← hnm, ← hvv, ← hfn, ← hfb, ← hfo, ← hwn, ← hwl] at hrow hw0 ⊢
  rw [← hnk, ← hnf, ← hnm, ← hvv, ← hfn, ← hfb, ← hfo, ← hwn, ← hwl] at cP
  rw [← hnm, ← hnk] at HVV
  obtain ⟨g, hg⟩ : ∃ g, g = W.heap.size := ⟨_, rfl⟩
  obtain ⟨g4, hg4⟩ : ∃ x, x = W.heap.size + 1 := ⟨_, rfl⟩
  rw [← hg] at hrow
  rw [← hg4] at hres
  have HB := Lib.hid hb0
  have HROW := Lib.hid hrow
  have HRES := Lib.hid hres
  have HW0 := Lib.hid hw0
  have HG := Lib.hid (And.intro hg hg4)
  have HN := Lib.hid hn
  have H1 := Lib.hid h1
  have HZ := Lib.hid hz
  have CP := Lib.hid cP
  clear hV hB hp hb0 hrow hres hw0 hg hg4 hn h1 hv hz hd hk0 he hnk hnf hnm hvv hfn hfb hfo hwn hwl cP hq hj0 hqn
  go_enter Tryd.func31, Tryd.ntmps31
  go_wp2_with fail
  rw [← HW0.out, ← HG.out.2, ← HG.out.1]
  refine CP.out.mono ?_
  rintro e w1 ⟨rfl, hb1⟩
  replace HB := Lib.hid (bt HB.out hb1)
  replace HROW := Lib.hid (heap_below HROW.out hb1)
  replace HRES := Lib.hid (heap_below HRES.out hb1)
  have hgs : g < g4 := by have := HG.out.1; have := HG.out.2; omega
  have r0 := cell_of_row _ _ 0 _ _ _ HROW.out
  clear hb1 CP HW0
  have r1 := cell_of_row _ _ 1 _ _ _ HROW.out
  have r3 := cell_of_row _ _ 3 _ _ _ HROW.out
  go_wp2_with (refine wpList_store_rowP rfl 45 (.tmp 4) (.tmp 32) rfl g4 #[.int .i64 2, .string nm, .string (⟨#[]⟩ : ByteArray), .string nk, .int .i64 0, .string (⟨#[]⟩ : ByteArray), .int .i64 0, .int .i64 0, .string (⟨#[]⟩ : ByteArray), .slice none 0 0] rfl rfl _ _ HRES.out (by kernel_rfl) rfl (by simp [Value.oneCell']) ?_; intro w9 hput; have HPUT := Lib.hid hput; clear hput)
  have hput := HPUT.out
  refine bodyPost_ret (results_ct Tryd.results31 _ _ g4 45 #[.int .i64 2, .string nm, .string (⟨#[]⟩ : ByteArray), .string nk, .int .i64 0, .string (⟨#[]⟩ : ByteArray), .int .i64 0, .int .i64 0, .string (⟨#[]⟩ : ByteArray), .slice none 0 0] (0, 0) _ rfl hput.here Tryd.underlying45 rfl (by kernel_rfl)) rfl ?_
  exact InvPost.mk HVV.out HBB.out (HB.out.trans (hput.below (by have := HG.out.2; omega)))
set_option maxHeartbeats 8000000 in
set_option maxRecDepth 100000 in
theorem mig_inv_3 (ks : List KindV) (ka : Option Addr) (n kc : Nat) (hn : ks.length = n) (h1 : n ≤ 1048576) (hv : ∀ k ∈ ks, k.fields.length ≤ 1048576) (y : MoveV) (a : Option Addr) (c : Nat) (W : World) (hz : SlAt 2 KindAt W ka ks) (hk0 : kindsE ks = 0) (he : oneE ks y = 0) (hd : y.do_ = 3) :
    Calls Tryd.prog 31 #[.slice ka n kc, .agg #[.int .i64 3, .string y.kind, .string y.field, .string y.name, .int .i64 y.value, .string y.new.name, .int .i64 y.new.bits, .int .i64 y.new.low, .string y.whole.name, .slice a y.whole.fields.length c]] W (InvPost ks y W) := by
  have hp := (oneE_kinds he).1
  obtain ⟨q, hq⟩ : ∃ q : Nat, pI ks y = (q : Int) := ⟨(pI ks y).toNat, by have := pI_bound hp (by rw [hd]; decide); omega⟩
  have hqn : q < n := by have := pI_bound hp (by rw [hd]; decide); rw [hq, hn] at this; omega
  have hj0 : pJ ks y = 0 := by unfold pJ; rw [if_pos (Or.inr (by rw [hd]; decide))]
  have hV : invV ks y = ⟨4, y.kind, y.new.name, (⟨#[]⟩ : ByteArray), 0, zF, zK⟩ := by unfold invV; rw [if_neg (show ¬ y.do_ = 0 by rw [hd]; decide), if_neg (show ¬ y.do_ = 2 by rw [hd]; decide), if_pos hd]
  have hB : invB ks y = true := by unfold invB; rw [if_neg (by rw [hd]; decide), if_neg (by rw [hd]; decide)]
  have HVV := Lib.hid hV
  have HBB := Lib.hid hB
  have hb0 := ((Below.refl W.heap.size W).alloc (Nat.le_refl _) (.cells #[.int .i64 3, .string y.kind, .string y.field, .string y.name, .int .i64 y.value, .string y.new.name, .int .i64 y.new.bits, .int .i64 y.new.low, .string y.whole.name, .slice a y.whole.fields.length c] 45)).alloc (by simp) (.cells #[.int .i64 0, .string (⟨#[]⟩ : ByteArray), .string (⟨#[]⟩ : ByteArray), .string (⟨#[]⟩ : ByteArray), .int .i64 0, .string (⟨#[]⟩ : ByteArray), .int .i64 0, .int .i64 0, .string (⟨#[]⟩ : ByteArray), .slice none 0 0] 45)
  have hrow := heap_keep (heap_alloc_new W (.cells #[.int .i64 3, .string y.kind, .string y.field, .string y.name, .int .i64 y.value, .string y.new.name, .int .i64 y.new.bits, .int .i64 y.new.low, .string y.whole.name, .slice a y.whole.fields.length c] 45)) (.cells #[.int .i64 0, .string (⟨#[]⟩ : ByteArray), .string (⟨#[]⟩ : ByteArray), .string (⟨#[]⟩ : ByteArray), .int .i64 0, .string (⟨#[]⟩ : ByteArray), .int .i64 0, .int .i64 0, .string (⟨#[]⟩ : ByteArray), .slice none 0 0] 45)
  have hres := heap_alloc_new (W.alloc (.cells #[.int .i64 3, .string y.kind, .string y.field, .string y.name, .int .i64 y.value, .string y.new.name, .int .i64 y.new.bits, .int .i64 y.new.low, .string y.whole.name, .slice a y.whole.fields.length c] 45)) (.cells #[.int .i64 0, .string (⟨#[]⟩ : ByteArray), .string (⟨#[]⟩ : ByteArray), .string (⟨#[]⟩ : ByteArray), .int .i64 0, .string (⟨#[]⟩ : ByteArray), .int .i64 0, .int .i64 0, .string (⟨#[]⟩ : ByteArray), .slice none 0 0] 45)
  rw [World.size_alloc] at hres
  obtain ⟨w0, hw0⟩ : ∃ w, w = (W.alloc (.cells #[.int .i64 3, .string y.kind, .string y.field, .string y.name, .int .i64 y.value, .string y.new.name, .int .i64 y.new.bits, .int .i64 y.new.low, .string y.whole.name, .slice a y.whole.fields.length c] 45)).alloc (.cells #[.int .i64 0, .string (⟨#[]⟩ : ByteArray), .string (⟨#[]⟩ : ByteArray), .string (⟨#[]⟩ : ByteArray), .int .i64 0, .string (⟨#[]⟩ : ByteArray), .int .i64 0, .int .i64 0, .string (⟨#[]⟩ : ByteArray), .slice none 0 0] 45) := ⟨_, rfl⟩
  rw [← hw0] at hb0 hrow hres
  have cP := mig_place ks ka n kc hn h1 hv y a c w0 (hz.below KindAt.abides hb0)
  rw [hd, hp, hq, hj0] at cP
  obtain ⟨nk, hnk⟩ : ∃ x, x = y.kind := ⟨_, rfl⟩
  obtain ⟨nf, hnf⟩ : ∃ x, x = y.field := ⟨_, rfl⟩
  obtain ⟨nm, hnm⟩ : ∃ x, x = y.name := ⟨_, rfl⟩
  obtain ⟨vv, hvv⟩ : ∃ x, x = y.value := ⟨_, rfl⟩
  obtain ⟨fn, hfn⟩ : ∃ x, x = y.new.name := ⟨_, rfl⟩
  obtain ⟨fb, hfb⟩ : ∃ x, x = y.new.bits := ⟨_, rfl⟩
  obtain ⟨fo, hfo⟩ : ∃ x, x = y.new.low := ⟨_, rfl⟩
  obtain ⟨wn, hwn⟩ : ∃ x, x = y.whole.name := ⟨_, rfl⟩
  obtain ⟨wl, hwl⟩ : ∃ x, x = y.whole.fields.length := ⟨_, rfl⟩
  rw [← hnk, ← hnf, ← hnm, ← hvv, ← hfn, ← hfb, ← hfo, ← hwn, ← hwl] at hrow hw0 ⊢
  rw [← hnk, ← hnf, ← hnm, ← hvv, ← hfn, ← hfb, ← hfo, ← hwn, ← hwl] at cP
  rw [← hnk, ← hfn] at HVV
  obtain ⟨g, hg⟩ : ∃ g, g = W.heap.size := ⟨_, rfl⟩
  obtain ⟨g4, hg4⟩ : ∃ x, x = W.heap.size + 1 := ⟨_, rfl⟩
  rw [← hg] at hrow
  rw [← hg4] at hres
  have HB := Lib.hid hb0
  have HROW := Lib.hid hrow
  have HRES := Lib.hid hres
  have HW0 := Lib.hid hw0
  have HG := Lib.hid (And.intro hg hg4)
  have HN := Lib.hid hn
  have H1 := Lib.hid h1
  have HZ := Lib.hid hz
  have CP := Lib.hid cP
  clear hV hB hp hb0 hrow hres hw0 hg hg4 hn h1 hv hz hd hk0 he hnk hnf hnm hvv hfn hfb hfo hwn hwl cP hq hj0 hqn
  go_enter Tryd.func31, Tryd.ntmps31
  go_wp2_with fail
  rw [← HW0.out, ← HG.out.2, ← HG.out.1]
  refine CP.out.mono ?_
  rintro e w1 ⟨rfl, hb1⟩
  replace HB := Lib.hid (bt HB.out hb1)
  replace HROW := Lib.hid (heap_below HROW.out hb1)
  replace HRES := Lib.hid (heap_below HRES.out hb1)
  have hgs : g < g4 := by have := HG.out.1; have := HG.out.2; omega
  have r0 := cell_of_row _ _ 0 _ _ _ HROW.out
  clear hb1 CP HW0
  have r1 := cell_of_row _ _ 1 _ _ _ HROW.out
  have r5 := cell_of_row _ _ 5 _ _ _ HROW.out
  go_wp2_with (refine wpList_store_rowP rfl 45 (.tmp 4) (.tmp 40) rfl g4 #[.int .i64 4, .string nk, .string fn, .string (⟨#[]⟩ : ByteArray), .int .i64 0, .string (⟨#[]⟩ : ByteArray), .int .i64 0, .int .i64 0, .string (⟨#[]⟩ : ByteArray), .slice none 0 0] rfl rfl _ _ HRES.out (by kernel_rfl) rfl (by simp [Value.oneCell']) ?_; intro w9 hput; have HPUT := Lib.hid hput; clear hput)
  have hput := HPUT.out
  refine bodyPost_ret (results_ct Tryd.results31 _ _ g4 45 #[.int .i64 4, .string nk, .string fn, .string (⟨#[]⟩ : ByteArray), .int .i64 0, .string (⟨#[]⟩ : ByteArray), .int .i64 0, .int .i64 0, .string (⟨#[]⟩ : ByteArray), .slice none 0 0] (0, 0) _ rfl hput.here Tryd.underlying45 rfl (by kernel_rfl)) rfl ?_
  exact InvPost.mk HVV.out HBB.out (HB.out.trans (hput.below (by have := HG.out.2; omega)))
set_option maxHeartbeats 8000000 in
set_option maxRecDepth 100000 in
theorem mig_inv_4 (ks : List KindV) (ka : Option Addr) (n kc : Nat) (hn : ks.length = n) (h1 : n ≤ 1048576) (hv : ∀ k ∈ ks, k.fields.length ≤ 1048576) (y : MoveV) (a : Option Addr) (c : Nat) (W : World) (hz : SlAt 2 KindAt W ka ks) (hk0 : kindsE ks = 0) (he : oneE ks y = 0) (hd : y.do_ = 4) :
    Calls Tryd.prog 31 #[.slice ka n kc, .agg #[.int .i64 4, .string y.kind, .string y.field, .string y.name, .int .i64 y.value, .string y.new.name, .int .i64 y.new.bits, .int .i64 y.new.low, .string y.whole.name, .slice a y.whole.fields.length c]] W (InvPost ks y W) := by
  have hp := (oneE_kinds he).1
  obtain ⟨q, hq⟩ : ∃ q : Nat, pI ks y = (q : Int) := ⟨(pI ks y).toNat, by have := pI_bound hp (by rw [hd]; decide); omega⟩
  have hqn : q < n := by have := pI_bound hp (by rw [hd]; decide); rw [hq, hn] at this; omega
  obtain ⟨j, hj⟩ : ∃ j : Nat, pJ ks y = (j : Int) := ⟨(pJ ks y).toNat, by have := pJ_bound hp (by rw [hd]; decide); omega⟩
  have hjn : ∀ h : q < ks.length, j < (ks[q]'h).fields.length := fun h => by
    have := pJ_bound hp (by rw [hd]; decide)
    rw [hj, hq, Int.toNat_natCast, List.getD_eq_getElem?_getD, List.getElem?_eq_getElem h] at this
    simp only [Option.getD_some] at this
    omega
  have hV : invV ks y = ⟨0, (⟨#[]⟩ : ByteArray), (⟨#[]⟩ : ByteArray), (⟨#[]⟩ : ByteArray), 0, zF, zK⟩ := by unfold invV; rw [if_neg (show ¬ y.do_ = 0 by rw [hd]; decide), if_neg (show ¬ y.do_ = 2 by rw [hd]; decide), if_neg (show ¬ y.do_ = 3 by rw [hd]; decide), if_neg (show ¬ y.do_ = 5 by rw [hd]; decide), if_neg (show ¬ y.do_ = 6 by rw [hd]; decide)]
  have hB : invB ks y = false := by unfold invB; rw [if_pos (Or.inr hd)]
  have HVV := Lib.hid hV
  have HBB := Lib.hid hB
  have hb0 := ((Below.refl W.heap.size W).alloc (Nat.le_refl _) (.cells #[.int .i64 4, .string y.kind, .string y.field, .string y.name, .int .i64 y.value, .string y.new.name, .int .i64 y.new.bits, .int .i64 y.new.low, .string y.whole.name, .slice a y.whole.fields.length c] 45)).alloc (by simp) (.cells #[.int .i64 0, .string (⟨#[]⟩ : ByteArray), .string (⟨#[]⟩ : ByteArray), .string (⟨#[]⟩ : ByteArray), .int .i64 0, .string (⟨#[]⟩ : ByteArray), .int .i64 0, .int .i64 0, .string (⟨#[]⟩ : ByteArray), .slice none 0 0] 45)
  have hrow := heap_keep (heap_alloc_new W (.cells #[.int .i64 4, .string y.kind, .string y.field, .string y.name, .int .i64 y.value, .string y.new.name, .int .i64 y.new.bits, .int .i64 y.new.low, .string y.whole.name, .slice a y.whole.fields.length c] 45)) (.cells #[.int .i64 0, .string (⟨#[]⟩ : ByteArray), .string (⟨#[]⟩ : ByteArray), .string (⟨#[]⟩ : ByteArray), .int .i64 0, .string (⟨#[]⟩ : ByteArray), .int .i64 0, .int .i64 0, .string (⟨#[]⟩ : ByteArray), .slice none 0 0] 45)
  have hres := heap_alloc_new (W.alloc (.cells #[.int .i64 4, .string y.kind, .string y.field, .string y.name, .int .i64 y.value, .string y.new.name, .int .i64 y.new.bits, .int .i64 y.new.low, .string y.whole.name, .slice a y.whole.fields.length c] 45)) (.cells #[.int .i64 0, .string (⟨#[]⟩ : ByteArray), .string (⟨#[]⟩ : ByteArray), .string (⟨#[]⟩ : ByteArray), .int .i64 0, .string (⟨#[]⟩ : ByteArray), .int .i64 0, .int .i64 0, .string (⟨#[]⟩ : ByteArray), .slice none 0 0] 45)
  rw [World.size_alloc] at hres
  obtain ⟨w0, hw0⟩ : ∃ w, w = (W.alloc (.cells #[.int .i64 4, .string y.kind, .string y.field, .string y.name, .int .i64 y.value, .string y.new.name, .int .i64 y.new.bits, .int .i64 y.new.low, .string y.whole.name, .slice a y.whole.fields.length c] 45)).alloc (.cells #[.int .i64 0, .string (⟨#[]⟩ : ByteArray), .string (⟨#[]⟩ : ByteArray), .string (⟨#[]⟩ : ByteArray), .int .i64 0, .string (⟨#[]⟩ : ByteArray), .int .i64 0, .int .i64 0, .string (⟨#[]⟩ : ByteArray), .slice none 0 0] 45) := ⟨_, rfl⟩
  rw [← hw0] at hb0 hrow hres
  have cP := mig_place ks ka n kc hn h1 hv y a c w0 (hz.below KindAt.abides hb0)
  rw [hd, hp, hq, hj] at cP
  obtain ⟨nk, hnk⟩ : ∃ x, x = y.kind := ⟨_, rfl⟩
  obtain ⟨nf, hnf⟩ : ∃ x, x = y.field := ⟨_, rfl⟩
  obtain ⟨nm, hnm⟩ : ∃ x, x = y.name := ⟨_, rfl⟩
  obtain ⟨vv, hvv⟩ : ∃ x, x = y.value := ⟨_, rfl⟩
  obtain ⟨fn, hfn⟩ : ∃ x, x = y.new.name := ⟨_, rfl⟩
  obtain ⟨fb, hfb⟩ : ∃ x, x = y.new.bits := ⟨_, rfl⟩
  obtain ⟨fo, hfo⟩ : ∃ x, x = y.new.low := ⟨_, rfl⟩
  obtain ⟨wn, hwn⟩ : ∃ x, x = y.whole.name := ⟨_, rfl⟩
  obtain ⟨wl, hwl⟩ : ∃ x, x = y.whole.fields.length := ⟨_, rfl⟩
  rw [← hnk, ← hnf, ← hnm, ← hvv, ← hfn, ← hfb, ← hfo, ← hwn, ← hwl] at hrow hw0 ⊢
  rw [← hnk, ← hnf, ← hnm, ← hvv, ← hfn, ← hfb, ← hfo, ← hwn, ← hwl] at cP
  obtain ⟨g, hg⟩ : ∃ g, g = W.heap.size := ⟨_, rfl⟩
  obtain ⟨g4, hg4⟩ : ∃ x, x = W.heap.size + 1 := ⟨_, rfl⟩
  rw [← hg] at hrow
  rw [← hg4] at hres
  have HB := Lib.hid hb0
  have HROW := Lib.hid hrow
  have HRES := Lib.hid hres
  have HW0 := Lib.hid hw0
  have HG := Lib.hid (And.intro hg hg4)
  have HN := Lib.hid hn
  have H1 := Lib.hid h1
  have HZ := Lib.hid hz
  have CP := Lib.hid cP
  clear hV hB hp hb0 hrow hres hw0 hg hg4 hn h1 hv hz hd hk0 he hnk hnf hnm hvv hfn hfb hfo hwn hwl cP hq hj hqn hjn
  go_enter Tryd.func31, Tryd.ntmps31
  go_wp2_with fail
  rw [← HW0.out, ← HG.out.2, ← HG.out.1]
  refine CP.out.mono ?_
  rintro e w1 ⟨rfl, hb1⟩
  replace HB := Lib.hid (bt HB.out hb1)
  replace HROW := Lib.hid (heap_below HROW.out hb1)
  replace HRES := Lib.hid (heap_below HRES.out hb1)
  have hgs : g < g4 := by have := HG.out.1; have := HG.out.2; omega
  have r0 := cell_of_row _ _ 0 _ _ _ HROW.out
  clear hb1 CP HW0

  go_wp2_with (refine wpList_store_rowP rfl 45 (.tmp 4) (.tmp 91) rfl g4 #[.int .i64 0, .string (⟨#[]⟩ : ByteArray), .string (⟨#[]⟩ : ByteArray), .string (⟨#[]⟩ : ByteArray), .int .i64 0, .string (⟨#[]⟩ : ByteArray), .int .i64 0, .int .i64 0, .string (⟨#[]⟩ : ByteArray), .slice none 0 0] rfl rfl _ _ HRES.out (by kernel_rfl) rfl (by simp [Value.oneCell']) ?_; intro w9 hput; have HPUT := Lib.hid hput; clear hput)
  have hput := HPUT.out
  refine bodyPost_ret (results_ct Tryd.results31 _ _ g4 45 #[.int .i64 0, .string (⟨#[]⟩ : ByteArray), .string (⟨#[]⟩ : ByteArray), .string (⟨#[]⟩ : ByteArray), .int .i64 0, .string (⟨#[]⟩ : ByteArray), .int .i64 0, .int .i64 0, .string (⟨#[]⟩ : ByteArray), .slice none 0 0] (0, 0) _ rfl hput.here Tryd.underlying45 rfl (by kernel_rfl)) rfl ?_
  exact InvPost.mk HVV.out HBB.out (HB.out.trans (hput.below (by have := HG.out.2; omega)))
set_option maxHeartbeats 8000000 in
set_option maxRecDepth 100000 in
theorem mig_inv_5 (ks : List KindV) (ka : Option Addr) (n kc : Nat) (hn : ks.length = n) (h1 : n ≤ 1048576) (hv : ∀ k ∈ ks, k.fields.length ≤ 1048576) (y : MoveV) (a : Option Addr) (c : Nat) (W : World) (hz : SlAt 2 KindAt W ka ks) (hk0 : kindsE ks = 0) (he : oneE ks y = 0) (hd : y.do_ = 5) :
    Calls Tryd.prog 31 #[.slice ka n kc, .agg #[.int .i64 5, .string y.kind, .string y.field, .string y.name, .int .i64 y.value, .string y.new.name, .int .i64 y.new.bits, .int .i64 y.new.low, .string y.whole.name, .slice a y.whole.fields.length c]] W (InvPost ks y W) := by
  have hp := (oneE_kinds he).1
  obtain ⟨q, hq⟩ : ∃ q : Nat, pI ks y = (q : Int) := ⟨(pI ks y).toNat, by have := pI_bound hp (by rw [hd]; decide); omega⟩
  have hqn : q < n := by have := pI_bound hp (by rw [hd]; decide); rw [hq, hn] at this; omega
  obtain ⟨j, hj⟩ : ∃ j : Nat, pJ ks y = (j : Int) := ⟨(pJ ks y).toNat, by have := pJ_bound hp (by rw [hd]; decide); omega⟩
  have hjn : ∀ h : q < ks.length, j < (ks[q]'h).fields.length := fun h => by
    have := pJ_bound hp (by rw [hd]; decide)
    rw [hj, hq, Int.toNat_natCast, List.getD_eq_getElem?_getD, List.getElem?_eq_getElem h] at this
    simp only [Option.getD_some] at this
    omega
  have hV : invV ks y = ⟨5, y.kind, y.name, y.field, 0, zF, zK⟩ := by unfold invV; rw [if_neg (show ¬ y.do_ = 0 by rw [hd]; decide), if_neg (show ¬ y.do_ = 2 by rw [hd]; decide), if_neg (show ¬ y.do_ = 3 by rw [hd]; decide), if_pos hd]
  have hB : invB ks y = true := by unfold invB; rw [if_neg (by rw [hd]; decide), if_neg (by rw [hd]; decide)]
  have HVV := Lib.hid hV
  have HBB := Lib.hid hB
  have hb0 := ((Below.refl W.heap.size W).alloc (Nat.le_refl _) (.cells #[.int .i64 5, .string y.kind, .string y.field, .string y.name, .int .i64 y.value, .string y.new.name, .int .i64 y.new.bits, .int .i64 y.new.low, .string y.whole.name, .slice a y.whole.fields.length c] 45)).alloc (by simp) (.cells #[.int .i64 0, .string (⟨#[]⟩ : ByteArray), .string (⟨#[]⟩ : ByteArray), .string (⟨#[]⟩ : ByteArray), .int .i64 0, .string (⟨#[]⟩ : ByteArray), .int .i64 0, .int .i64 0, .string (⟨#[]⟩ : ByteArray), .slice none 0 0] 45)
  have hrow := heap_keep (heap_alloc_new W (.cells #[.int .i64 5, .string y.kind, .string y.field, .string y.name, .int .i64 y.value, .string y.new.name, .int .i64 y.new.bits, .int .i64 y.new.low, .string y.whole.name, .slice a y.whole.fields.length c] 45)) (.cells #[.int .i64 0, .string (⟨#[]⟩ : ByteArray), .string (⟨#[]⟩ : ByteArray), .string (⟨#[]⟩ : ByteArray), .int .i64 0, .string (⟨#[]⟩ : ByteArray), .int .i64 0, .int .i64 0, .string (⟨#[]⟩ : ByteArray), .slice none 0 0] 45)
  have hres := heap_alloc_new (W.alloc (.cells #[.int .i64 5, .string y.kind, .string y.field, .string y.name, .int .i64 y.value, .string y.new.name, .int .i64 y.new.bits, .int .i64 y.new.low, .string y.whole.name, .slice a y.whole.fields.length c] 45)) (.cells #[.int .i64 0, .string (⟨#[]⟩ : ByteArray), .string (⟨#[]⟩ : ByteArray), .string (⟨#[]⟩ : ByteArray), .int .i64 0, .string (⟨#[]⟩ : ByteArray), .int .i64 0, .int .i64 0, .string (⟨#[]⟩ : ByteArray), .slice none 0 0] 45)
  rw [World.size_alloc] at hres
  obtain ⟨w0, hw0⟩ : ∃ w, w = (W.alloc (.cells #[.int .i64 5, .string y.kind, .string y.field, .string y.name, .int .i64 y.value, .string y.new.name, .int .i64 y.new.bits, .int .i64 y.new.low, .string y.whole.name, .slice a y.whole.fields.length c] 45)).alloc (.cells #[.int .i64 0, .string (⟨#[]⟩ : ByteArray), .string (⟨#[]⟩ : ByteArray), .string (⟨#[]⟩ : ByteArray), .int .i64 0, .string (⟨#[]⟩ : ByteArray), .int .i64 0, .int .i64 0, .string (⟨#[]⟩ : ByteArray), .slice none 0 0] 45) := ⟨_, rfl⟩
  rw [← hw0] at hb0 hrow hres
  have cP := mig_place ks ka n kc hn h1 hv y a c w0 (hz.below KindAt.abides hb0)
  rw [hd, hp, hq, hj] at cP
  obtain ⟨nk, hnk⟩ : ∃ x, x = y.kind := ⟨_, rfl⟩
  obtain ⟨nf, hnf⟩ : ∃ x, x = y.field := ⟨_, rfl⟩
  obtain ⟨nm, hnm⟩ : ∃ x, x = y.name := ⟨_, rfl⟩
  obtain ⟨vv, hvv⟩ : ∃ x, x = y.value := ⟨_, rfl⟩
  obtain ⟨fn, hfn⟩ : ∃ x, x = y.new.name := ⟨_, rfl⟩
  obtain ⟨fb, hfb⟩ : ∃ x, x = y.new.bits := ⟨_, rfl⟩
  obtain ⟨fo, hfo⟩ : ∃ x, x = y.new.low := ⟨_, rfl⟩
  obtain ⟨wn, hwn⟩ : ∃ x, x = y.whole.name := ⟨_, rfl⟩
  obtain ⟨wl, hwl⟩ : ∃ x, x = y.whole.fields.length := ⟨_, rfl⟩
  rw [← hnk, ← hnf, ← hnm, ← hvv, ← hfn, ← hfb, ← hfo, ← hwn, ← hwl] at hrow hw0 ⊢
  rw [← hnk, ← hnf, ← hnm, ← hvv, ← hfn, ← hfb, ← hfo, ← hwn, ← hwl] at cP
  rw [← hnk, ← hnm, ← hnf] at HVV
  obtain ⟨g, hg⟩ : ∃ g, g = W.heap.size := ⟨_, rfl⟩
  obtain ⟨g4, hg4⟩ : ∃ x, x = W.heap.size + 1 := ⟨_, rfl⟩
  rw [← hg] at hrow
  rw [← hg4] at hres
  have HB := Lib.hid hb0
  have HROW := Lib.hid hrow
  have HRES := Lib.hid hres
  have HW0 := Lib.hid hw0
  have HG := Lib.hid (And.intro hg hg4)
  have HN := Lib.hid hn
  have H1 := Lib.hid h1
  have HZ := Lib.hid hz
  have CP := Lib.hid cP
  clear hV hB hp hb0 hrow hres hw0 hg hg4 hn h1 hv hz hd hk0 he hnk hnf hnm hvv hfn hfb hfo hwn hwl cP hq hj hqn hjn
  go_enter Tryd.func31, Tryd.ntmps31
  go_wp2_with fail
  rw [← HW0.out, ← HG.out.2, ← HG.out.1]
  refine CP.out.mono ?_
  rintro e w1 ⟨rfl, hb1⟩
  replace HB := Lib.hid (bt HB.out hb1)
  replace HROW := Lib.hid (heap_below HROW.out hb1)
  replace HRES := Lib.hid (heap_below HRES.out hb1)
  have hgs : g < g4 := by have := HG.out.1; have := HG.out.2; omega
  have r0 := cell_of_row _ _ 0 _ _ _ HROW.out
  clear hb1 CP HW0
  have r1 := cell_of_row _ _ 1 _ _ _ HROW.out
  have r2 := cell_of_row _ _ 2 _ _ _ HROW.out
  have r3 := cell_of_row _ _ 3 _ _ _ HROW.out
  go_wp2_with (refine wpList_store_rowP rfl 45 (.tmp 4) (.tmp 49) rfl g4 #[.int .i64 5, .string nk, .string nm, .string nf, .int .i64 0, .string (⟨#[]⟩ : ByteArray), .int .i64 0, .int .i64 0, .string (⟨#[]⟩ : ByteArray), .slice none 0 0] rfl rfl _ _ HRES.out (by kernel_rfl) rfl (by simp [Value.oneCell']) ?_; intro w9 hput; have HPUT := Lib.hid hput; clear hput)
  have hput := HPUT.out
  refine bodyPost_ret (results_ct Tryd.results31 _ _ g4 45 #[.int .i64 5, .string nk, .string nm, .string nf, .int .i64 0, .string (⟨#[]⟩ : ByteArray), .int .i64 0, .int .i64 0, .string (⟨#[]⟩ : ByteArray), .slice none 0 0] (0, 0) _ rfl hput.here Tryd.underlying45 rfl (by kernel_rfl)) rfl ?_
  exact InvPost.mk HVV.out HBB.out (HB.out.trans (hput.below (by have := HG.out.2; omega)))
end Go.Proofs.YtijeninfmjhbnaaDoor
end
