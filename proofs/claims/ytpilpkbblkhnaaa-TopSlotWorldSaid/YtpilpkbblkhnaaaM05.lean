/- Lemmas for the law TopSlotWorld: Grown, SlotM, SlotA, RegInv. No conditions. -/
import Derived.Test.YtpilpkbblkhnaaaM03
import Derived.Test.YtpilpkbblkhnaaaM04
import Derived.BigQuiet
import Derived.WalkKit
import Derived.ProofKit
import Derived.Orders
import Derived.StillTail
import Derived.Shelf.Abstract
import Derived.Laws.Rows
/- Worlds that grew, one block written: laws. Rows of Bools. No program is named here. -/
section
namespace Go
open Go.RowKit
namespace Mem
theorem gb_refl (w : World) (row : Option Nat) : w.grownBy w row := ⟨rfl, rfl, rfl, Nat.le_refl _, fun _ _ _ => rfl⟩
theorem gb_trans {a w w' : World} {row : Option Nat} (h : a.grownBy w row) (k : w.grownBy w' row) : a.grownBy w' row :=
  ⟨k.os.trans h.os, k.tape.trans h.tape, k.output.trans h.output, Nat.le_trans h.size k.size, fun j hj hr => (k.block j (Nat.lt_of_lt_of_le hj h.size) hr).trans (h.block j hj hr)⟩
theorem gb_drew {a w : World} {row : Option Nat} (h : a.grownBy w row) : a.grownBy w.drew row := ⟨h.os, h.tape, h.output, h.size, h.block⟩
theorem gb_set {a w : World} {g : Nat} (h : a.grownBy w (some g)) (i : Nat) (v : Value) : a.grownBy (w.setCell ⟨g, i, none⟩ v) (some g) :=
  gb_trans h ⟨rfl, rfl, rfl, by simp, fun k _ hk => heap_setCell_other w ⟨g, i, none⟩ k v (fun e => hk (by rw [e]))⟩
theorem gb_below {a w : World} {row : Option Nat} (h : Below a.heap.size a w) : a.grownBy w row := ⟨h.os, h.tape, h.output, h.size, fun k hk _ => h.block k hk⟩
theorem heap_gb {a w : World} {row : Option Nat} {k : Nat} {o : Obj} (h : a.heap[k]? = some o) (hg : a.grownBy w row) (hne : some k ≠ row) : w.heap[k]? = some o := (hg.block k (lt_of_heap h) hne).trans h
/-- An owned row lies in another block than one that holds cells of another type. -/
theorem own_ne {w : World} {base e size n g t : Nat} {v : Value} {xs : List Value} {cs : Array Value} (h : w.ownsRow base e size v n xs) (hg : w.heap[g]? = some (.cells cs t (0, 0))) (hne : e ≠ t) : ∀ k, v.ownBlock = some k → some k ≠ some g := by
  intro k hk he
  injection he with he
  subst he
  rcases h.2 with ⟨h3, _⟩ | ⟨g', cap, cur, h3, _, h4, _⟩
  · rw [h3] at hk; cases hk
  · rw [h3] at hk
    obtain rfl : g' = k := by simpa [Value.ownBlock] using hk
    rw [hg] at h4
    injection h4 with h4
    injection h4 with _ ht
    exact hne ht.symm
theorem own_set {w : World} {base e size n g : Nat} {v : Value} {xs : List Value} (h : w.ownsRow base e size v n xs) (hne : ∀ k, v.ownBlock = some k → some k ≠ some g) (i : Nat) (u : Value) : (w.setCell ⟨g, i, none⟩ u).ownsRow base e size v n xs :=
  own_keep h fun k hk => heap_setCell_other w ⟨g, i, none⟩ k u (fun e => hne k hk (by rw [e]))
def vbools (l : List Bool) : List Value := l.map .bool
theorem vbools_get (l : List Bool) (j : Nat) (h : j < l.length) : (vbools l)[j]? = some (.bool (l.getD j false)) := by
  simp [vbools, List.getD_eq_getElem?_getD, List.getElem?_eq_getElem h]
/-- A slice of Bools. -/
def BoolsAt (w : World) (a : Option Addr) (L : List Bool) : Prop := 0 < L.length → ∃ x, a = some x ∧ x.block < w.heap.size ∧ ∀ i, i < L.length → w.cell? (x.add i) = some (.bool (L.getD i false))
theorem BoolsAt.below {w w' : World} {a : Option Addr} {L : List Bool} (h : BoolsAt w a L) (hb : Below w.heap.size w w') : BoolsAt w' a L := by
  intro hn
  obtain ⟨x, rfl, hx, hc⟩ := h hn
  exact ⟨x, rfl, Nat.lt_of_lt_of_le hx hb.size, fun i hi => (hb.cell (by rw [block_of_add]; exact hx)).trans (hc i hi)⟩
theorem BoolsAt.of_own {w : World} {base e n cap : Nat} {a : Option Addr} {L : List Bool} (h : w.ownsRow base e 1 (.slice a n cap) n (vbools L)) (hn : n = L.length) : BoolsAt w a L := by
  intro hz
  rcases a with _ | ad
  · obtain ⟨g, cap', hv, _⟩ := h.form (by omega)
    cases hv
  · obtain ⟨g, cap', hv, _, hlt⟩ := h.form (by omega)
    injection hv with hv
    injection hv with hv
    subst hv
    refine ⟨_, rfl, hlt, fun i hi => ?_⟩
    exact h.cells (g := g) rfl i _ (vbools_get L i hi)
/-- An owned row as a slice. -/
theorem own_slice {w : World} {base e n : Nat} {v : Value} {xs : List Value} (h : w.ownsRow base e 1 v n xs) : ∃ a cap, v = .slice a n cap ∧ n ≤ cap ∧ (0 < n → ∃ g, a = some ⟨g, 0, none⟩) := by
  rcases h.2 with ⟨h1, h2⟩ | ⟨g, cap, cur, h1, h2, h3, h4, h5⟩
  · exact ⟨none, 0, by rw [h1, h2], by omega, fun h => by omega⟩
  · exact ⟨_, cap, h1, h4, fun _ => ⟨g, rfl⟩⟩
theorem IntsAt.gb {k : IntKind} {w w' : World} {a : Option Addr} {zs : List Int} {g : Nat} (h : IntsAt k w a zs) (hg : w.grownBy w' (some g)) (ha : ∀ x, a = some x → x.block ≠ g) : IntsAt k w' a zs := by
  intro hn
  obtain ⟨x, rfl, hx, hc⟩ := h hn
  refine ⟨x, rfl, Nat.lt_of_lt_of_le hx hg.size, fun i hi => ?_⟩
  rw [World.cell?_of_block (w := w) (hg.block _ (by rw [block_of_add]; exact hx) (fun e => ha x rfl (by rw [block_of_add] at e; injection e)))]
  exact hc i hi

/-- Values that lie from an address on. -/
def ValsAt (w : World) (a : Option Addr) (vs : List Value) : Prop := 0 < vs.length → ∃ x, a = some x ∧ ∀ j u, vs[j]? = some u → w.cell? (x.add j) = some u
theorem ValsAt.of_own {w : World} {base e n cap : Nat} {a : Option Addr} {vs : List Value} (h : w.ownsRow base e 1 (.slice a n cap) n vs) (hn : n = vs.length) : ValsAt w a vs := by
  intro hz
  rcases a with _ | ad
  · obtain ⟨g, cap', hv, _⟩ := h.form (by omega)
    cases hv
  · obtain ⟨g, cap', hv, _, hlt⟩ := h.form (by omega)
    injection hv with hv
    injection hv with hv
    subst hv
    exact ⟨_, rfl, fun i u hu => h.cells (g := g) rfl i u hu⟩
/-- Two blocks written at the most, new ones made. -/
structure Gr2 (w w' : World) (r1 r2 : Option Nat) : Prop where
  os : w'.os = w.os
  tape : w'.tape = w.tape
  output : w'.output = w.output
  size : w.heap.size ≤ w'.heap.size
  block : ∀ k, k < w.heap.size → some k ≠ r1 → some k ≠ r2 → w'.heap[k]? = w.heap[k]?
theorem Gr2.refl (w : World) (r1 r2 : Option Nat) : Gr2 w w r1 r2 := ⟨rfl, rfl, rfl, Nat.le_refl _, fun _ _ _ _ => rfl⟩
/-- The second row may have moved to a new block. -/
theorem Gr2.step {a w w' : World} {r1 r2 s2 : Option Nat} (h : Gr2 a w r1 r2) (k : Gr2 w w' r1 s2) (hs : ∀ b, s2 = some b → r2 = some b ∨ a.heap.size ≤ b) : Gr2 a w' r1 r2 :=
  ⟨k.os.trans h.os, k.tape.trans h.tape, k.output.trans h.output, Nat.le_trans h.size k.size, fun j hj h1 h2 => (k.block j (Nat.lt_of_lt_of_le hj h.size) h1 (fun e => by
    rcases hs j e.symm with h3 | h3
    · exact h2 h3.symm
    · omega)).trans (h.block j hj h1 h2)⟩
theorem Gr2.drewN {a w : World} {r1 r2 : Option Nat} (h : Gr2 a w r1 r2) (n : Nat) : Gr2 a (w.drewN n) r1 r2 := ⟨h.os, h.tape, h.output, h.size, h.block⟩
theorem Gr2.drew {a w : World} {r1 r2 : Option Nat} (h : Gr2 a w r1 r2) : Gr2 a w.drew r1 r2 := ⟨h.os, h.tape, h.output, h.size, h.block⟩
theorem Gr2.heap {w w' : World} {r1 r2 : Option Nat} {k : Nat} {o : Obj} (h : Gr2 w w' r1 r2) (hk : w.heap[k]? = some o) (h1 : some k ≠ r1) (h2 : some k ≠ r2) : w'.heap[k]? = some o := (h.block k (lt_of_heap hk) h1 h2).trans hk
theorem Gr2.own {w w' : World} {r1 r2 : Option Nat} {base e size n : Nat} {v : Value} {xs : List Value} (h : Gr2 w w' r1 r2) (ho : w.ownsRow base e size v n xs) (h1 : ∀ k, v.ownBlock = some k → some k ≠ r1) (h2 : ∀ k, v.ownBlock = some k → some k ≠ r2) : w'.ownsRow base e size v n xs :=
  own_keep ho fun g hg => h.block g (own_lt ho g hg).2 (h1 g hg) (h2 g hg)
theorem Gr2.below {w w' : World} {r1 r2 : Option Nat} {B : Nat} (h : Gr2 w w' r1 r2) (hs : B ≤ w.heap.size) (h1 : ∀ k, r1 = some k → B ≤ k) (h2 : ∀ k, r2 = some k → B ≤ k) : Below B w w' :=
  ⟨h.os, h.tape, h.output, h.size, fun k hk => h.block k (by omega) (fun e => by have := h1 k e.symm; omega) (fun e => by have := h2 k e.symm; omega)⟩
end Mem
end Go
end
/- Slots and the reference's room in memory. -/
section
namespace Go.Mem
open Go.RowKit
/-- Worlds that grew, but for a set of blocks. -/
structure GrP (P : Nat → Prop) (a b : World) : Prop where
  os : b.os = a.os
  tape : b.tape = a.tape
  output : b.output = a.output
  size : a.heap.size ≤ b.heap.size
  block : ∀ k, k < a.heap.size → ¬ P k → b.heap[k]? = a.heap[k]?
variable {P Q : Nat → Prop} {a b c w w' : World}
theorem GrP.refl (P : Nat → Prop) (a : World) : GrP P a a := ⟨rfl, rfl, rfl, Nat.le_refl _, fun _ _ _ => rfl⟩
theorem GrP.step (h : GrP P a b) (k : GrP Q b c) (hq : ∀ j, j < a.heap.size → Q j → P j) : GrP P a c :=
  ⟨k.os.trans h.os, k.tape.trans h.tape, k.output.trans h.output, Nat.le_trans h.size k.size, fun j hj hp => (k.block j (Nat.lt_of_lt_of_le hj h.size) (fun q => hp (hq j hj q))).trans (h.block j hj hp)⟩
theorem GrP.of_below (h : Below a.heap.size a b) : GrP P a b := ⟨h.os, h.tape, h.output, h.size, fun k hk _ => h.block k hk⟩
theorem GrP.of_gb {row : Option Nat} (h : a.grownBy b row) (hr : ∀ k, row = some k → P k) : GrP P a b :=
  ⟨h.os, h.tape, h.output, h.size, fun k hk hp => h.block k hk (fun e => hp (hr k e.symm))⟩
theorem GrP.set (h : GrP P a b) {k : Nat} (hk : P k) (i : Nat) (v : Value) : GrP P a (b.setCell ⟨k, i, none⟩ v) :=
  ⟨h.os, h.tape, h.output, by simpa using h.size, fun j hj hp => (Below.heap_setCell b ⟨k, i, none⟩ v j (fun e => hp (by subst e; exact hk))).trans (h.block j hj hp)⟩
theorem GrP.drew (h : GrP P a b) : GrP P a b.drew := ⟨h.os, h.tape, h.output, h.size, h.block⟩
theorem GrP.drewN (h : GrP P a b) (n : Nat) : GrP P a (b.drewN n) := ⟨h.os, h.tape, h.output, h.size, h.block⟩
theorem GrP.alloc (h : GrP P a b) (o : Obj) : GrP P a (b.alloc o) := h.step (Q := P) (.of_below ((Below.refl _ _).alloc (Nat.le_refl _) o)) fun _ _ q => q
theorem GrP.then (h : GrP P a b) (k : Below b.heap.size b c) : GrP P a c := h.step (Q := P) (.of_below k) fun _ _ q => q
theorem GrP.below (h : GrP P a b) {n : Nat} (hn : n ≤ a.heap.size) (hp : ∀ k, P k → n ≤ k) : Below n a b :=
  ⟨h.os, h.tape, h.output, h.size, fun k hk => h.block k (by omega) (fun q => by have := hp k q; omega)⟩
theorem own_grp {base e size n : Nat} {v : Value} {xs : List Value} (h : w.ownsRow base e size v n xs) (hg : GrP P w w') (hne : ∀ g, v.ownBlock = some g → ¬ P g) : w'.ownsRow base e size v n xs :=
  own_keep h fun g hv => hg.block g (own_lt h g hv).2 (hne g hv)
theorem heap_grp {k : Nat} {o : Obj} (h : w.heap[k]? = some o) (hg : GrP P w w') (hne : ¬ P k) : w'.heap[k]? = some o := (hg.block k (lt_of_heap h) hne).trans h
end Go.Mem
namespace Go.Proofs.Ytpilpkbblkhnaaa
open Go.ChangeShapes Go.WideShapes Go.ChangeAt Go.RowKit Go.Mem Go.Sp Go.Slt
set_option linter.unusedVariables false
/-- Slots in memory. -/
structure Sl (ww : World) (DD s : Nat) (vg vu vf : Value) (G : List Int) (B : List Bool) (U F : List Nat) : Prop where
  block : ww.heap[s]? = some (.cells #[vg, vu, vf] 74 (0, 0))
  gens : ww.ownsRow DD 3 1 vg G.length (vints .i64 G)
  used : ww.ownsRow DD 61 1 vu U.length (vints .u64 (V U))
  free : ww.ownsRow DD 61 1 vf F.length (vints .u64 (V F))
  ds : DD ≤ s
  dw : DD ≤ ww.heap.size
def SlP (s : Nat) (vg : Value) (k : Nat) : Prop := k = s ∨ vg.ownBlock = some k
variable {w w' : World} {D s r : Nat} {vg vu vf vb vh : Value} {G : List Int} {B : List Bool} {U F : List Nat}
theorem Sl.keep {P : Nat → Prop} (h : Sl w D s vg vu vf G B U F) (hg : GrP P w w') (hs : ¬ P s) (h1 : ∀ k, vg.ownBlock = some k → ¬ P k) (h2 : ∀ k, vu.ownBlock = some k → ¬ P k) (h3 : ∀ k, vf.ownBlock = some k → ¬ P k) : Sl w' D s vg vu vf G B U F :=
  ⟨heap_grp h.block hg hs, own_grp h.gens hg h1, own_grp h.used hg h2, own_grp h.free hg h3, h.ds, Nat.le_trans h.dw hg.size⟩
theorem Sl.below (h : Sl w D s vg vu vf G B U F) (hb : Below w.heap.size w w') : Sl w' D s vg vu vf G B U F := h.keep (P := fun _ => False) (.of_below hb) id (fun _ _ => id) (fun _ _ => id) (fun _ _ => id)
theorem Sl.c0 (h : Sl w D s vg vu vf G B U F) : w.cell? ⟨s, 0, none⟩ = some vg := by rw [cell_of_row w s 0 _ _ _ h.block]; rfl
theorem Sl.c1 (h : Sl w D s vg vu vf G B U F) : w.cell? ⟨s, 1, none⟩ = some vu := by rw [cell_of_row w s 1 _ _ _ h.block]; rfl
theorem Sl.c2 (h : Sl w D s vg vu vf G B U F) : w.cell? ⟨s, 2, none⟩ = some vf := by rw [cell_of_row w s 2 _ _ _ h.block]; rfl
theorem Sl.fz (h : Sl w D s vg vu vf G B U F) (i : Nat) : w.frozen? ⟨s, i, none⟩ = false := Mem.frozen_of_row h.block i
theorem Sl.su {ra : Option Addr} {n ca : Nat} (h : Sl w D s vg (.slice ra n ca) vf G B U F) : SetAt w ra U := by
  have hn : n = U.length := by obtain ⟨a, c, e⟩ := own_slice h.used; exact (Value.slice.inj e).2.1
  have := h.used
  rw [← hn] at this
  exact IntsAt.of_own this (by rw [V_length, hn])
theorem Sl.sf {ra : Option Addr} {n ca : Nat} (h : Sl w D s vg vu (.slice ra n ca) G B U F) : SetAt w ra F := by
  have hn : n = F.length := by obtain ⟨a, c, e⟩ := own_slice h.free; exact (Value.slice.inj e).2.1
  have := h.free
  rw [← hn] at this
  exact IntsAt.of_own this (by rw [V_length, hn])
end Go.Proofs.Ytpilpkbblkhnaaa
end
/- Slots: Alive, Free, Gens, and the room's. -/
section
namespace Go.Proofs.Ytpilpkbblkhnaaa
open Go.ChangeShapes Go.WideShapes Go.ChangeAt Go.RowKit Go.Mem Go.Sp Go.Slt
set_option linter.unusedVariables false
variable {w w' : World} {D s r : Nat} {vg vu vf vb vh : Value} {G : List Int} {B : List Bool} {U F : List Nat}
theorem add_zero_at (g i : Nat) : (Addr.mk g 0 none).add i = ⟨g, i, none⟩ := by unfold Addr.add; split <;> simp_all
theorem sets_HasN (A : List Nat) (a : Option Addr) (n c : Nat) (hn : A.length = n) (h1 : n ≤ 17592186044416) (ha : Words A) (i : Int) (hi : i ≤ 9223372036854775807) (w : World) (hz : SetAt w a A) (k : Nat) :
    Calls Try.prog 25 #[.slice a n c, .int .i64 i] (w.drewN k) fun e w' => e = .returned (.bool (decide (0 ≤ i) && bit A i.toNat)) ∧ w' = w.drewN k :=
  (sets_Has A a n c hn h1 ha i hi (w.drewN k) hz).mono fun _ _ ⟨h, h2⟩ => ⟨h, h2.symm⟩
theorem vints_cell {w : World} {base e n : Nat} {a : Option Addr} {cap : Nat} {L : List Int} (h : w.ownsRow base e 1 (.slice a n cap) L.length (vints .i64 L)) (i : Nat) (hi : i < L.length) : ∃ g, a = some ⟨g, 0, none⟩ ∧ n = L.length ∧ L.length ≤ cap ∧ g < w.heap.size ∧ base ≤ g ∧ w.cell? ⟨g, i, none⟩ = some (.int .i64 (L.getD i 0)) ∧ w.frozen? ⟨g, i, none⟩ = false := by
  rcases h.2 with ⟨h1, h2⟩ | ⟨g, cap', cur, h1, h2, h3, h4, h5⟩
  · omega
  · injection h1 with e1 e2 e3
    subst e1
    exact ⟨g, rfl, e2, by omega, lt_of_heap h3, h2, (by have := h.cells (g := g) rfl i _ (vints_get .i64 L i hi); rwa [add_zero_at] at this), Mem.frozen_of_row h3 i⟩

set_option maxRecDepth 100000 in
set_option maxHeartbeats 4000000 in
theorem sl_Alive (h : Sl w D s vg vu vf G B U F) (si : SI G B U F) (N g : Int) (hN : N ≤ 9223372036854775807) :
    Calls Try.prog 14 #[.pointer (some ⟨s, 0, none⟩), .agg #[.int .i64 N, .int .i64 g]] w fun e w' => e = .returned (.bool (alive G B N g)) ∧ Below w.heap.size w w' := by
  have hb0 : Below w.heap.size w (w.alloc (.cells #[.int .i64 N, .int .i64 g] 30)) := (Below.refl _ _).alloc (Nat.le_refl _) _
  have h0 := h.below hb0
  have bx := heap_alloc_new w (.cells #[.int .i64 N, .int .i64 g] 30)
  have x0 := cell_of_row _ _ 0 _ _ _ bx
  have x1 := cell_of_row _ _ 1 _ _ _ bx
  simp only [List.getElem?_toArray, List.getElem?_cons_zero, List.getElem?_cons_succ] at x0 x1
  obtain ⟨au, cu, rfl⟩ := own_slice h.used
  obtain ⟨ag, cg, rfl⟩ := own_slice h.gens
  have c0 := h0.c0
  have c1 := h0.c1
  have CH := sets_HasN U au U.length cu rfl (by have := si.cu.1; omega) si.cu.2.1 N hN _ h0.su
  rw [si.used] at CH
  by_cases ha : 0 ≤ N ∧ B.getD N.toNat false = true
  · obtain ⟨n, rfl⟩ : ∃ n : Nat, N = (n : Int) := ⟨N.toNat, by omega⟩
    rw [Int.toNat_natCast] at ha CH
    have hn : n < G.length := by
      rw [← si.len]
      rcases Nat.lt_or_ge n B.length with q | q
      · exact q
      · rw [getD_over q] at ha; cases ha.2
    have hal : alive G B (n : Int) g = decide (G.getD n 0 = g) := by unfold alive; rw [Int.toNat_natCast, ha.2, decide_eq_true ha.1]; rfl
    rw [ha.2, decide_eq_true ha.1] at CH
    obtain ⟨gg, rfl, _, _, _, _, cc, _⟩ := vints_cell h0.gens n hn
    obtain ⟨q, hq⟩ : ∃ q, q = G.getD n 0 := ⟨_, rfl⟩
    rw [hal, ← hq]
    rw [← hq] at cc
    obtain ⟨m, hm⟩ : ∃ m, m = G.length := ⟨_, rfl⟩
    rw [← hm] at c0 hn
    have i1 : (0 : Int) ≤ (n : Int) := by omega
    have i2 : (n : Int) < (m : Int) := by omega
    have HCH := Lib.hid CH
    have HB0 := Lib.hid hb0
    clear h h0 si hb0 bx CH ha hal hq hm
    go_enter Try.func14, Try.ntmps14
    go_wp2_with fail
    go_quiet ((go_at_call 25; exact Calls.quiet_of_same (HCH.out _)))
    go_wp2_with fail
    go_ret
    exact ⟨rfl, below_drewN HB0.out _⟩
  · have hal : alive G B N g = false := by
      unfold alive
      by_cases h1 : 0 ≤ N
      · have : B.getD N.toNat false = false := Bool.eq_false_iff.2 (fun h2 => ha ⟨h1, h2⟩)
        rw [this]; simp
      · rw [decide_eq_false h1]; rfl
    have hf : (decide (0 ≤ N) && B.getD N.toNat false) = false := by
      rw [Bool.and_eq_false_iff]
      by_cases h1 : 0 ≤ N
      · exact .inr (Bool.eq_false_iff.2 (fun h2 => ha ⟨h1, h2⟩))
      · exact .inl (decide_eq_false h1)
    rw [hal]
    rw [hf] at CH
    have HCH := Lib.hid CH
    have HB0 := Lib.hid hb0
    clear h h0 si hb0 bx CH ha hal hf
    go_enter Try.func14, Try.ntmps14
    go_wp2_with fail
    go_quiet ((go_at_call 25; exact Calls.quiet_of_same (HCH.out _)))
    go_wp2_with fail
    go_ret
    exact ⟨rfl, below_drewN HB0.out _⟩
theorem sl_Gens (h : Sl w D s vg vu vf G B U F) (hl : G.length ≤ 256) :
    Calls Try.prog 16 #[.pointer (some ⟨s, 0, none⟩)] w fun e w' => ∃ a c, e = .returned (.slice a G.length c) ∧ IntsAt .i64 w' a G ∧ Below w.heap.size w w' := by
  obtain ⟨ag, cg, rfl⟩ := own_slice h.gens
  have c0 := h.c0
  have HI := Lib.hid (IntsAt.of_own h.gens rfl)
  obtain ⟨m, hm⟩ : ∃ m, m = G.length := ⟨_, rfl⟩
  rw [← hm] at c0 hl
  rw [← hm]
  have HM := Lib.hid hm
  have hnil := World.ownsRow_nil w w.heap.size 3 1
  clear h hm
  go_enter Try.func16, Try.ntmps16
  go_wp2_with (at_builtin; go_must (refine wpList_append_ints rfl _ _ 22 rfl w.heap.size 3 .i64 8 Try.underlying22 (by kernel_rfl) (.slice none 0 0) 0 [] rfl hnil ag m cg G rfl HM.out.symm HI.out (by unfold maxLen; omega) (by omega) (by simp) ?_))
  intro v1 w1 hown hgr hat
  obtain ⟨a1, c1, rfl⟩ := own_slice hown
  have HO := Lib.hid (IntsAt.of_own hown HM.out)
  have hb1 : Below w.heap.size w w1 := (Below.refl _ _).grown hgr (Nat.le_refl _) (fun k hk => by cases hk)
  have HB1 := Lib.hid hb1
  clear hown hgr hat hb1
  go_wp2_with fail
  go_ret
  exact ⟨_, _, rfl, HO.out, HB1.out⟩
end Go.Proofs.Ytpilpkbblkhnaaa
end
/- A region that draws its order, walked by an invariant: one obligation for each operation, whatever was done before it. No program is named here. -/
section
namespace Go.Mem
open Go.Proofs

/-- The frame, with what the region's operations have left in their slots. -/
def fillAll (a0 : Act) : List Oper → List Value → Act
  | o :: os, v :: vs => (fillAll a0 os vs).put o.dst v
  | _, _ => a0

/-- What a slot holds in such a frame. -/
def look (a0 : Act) (t : Nat) : List Oper → List Value → Value
  | o :: os, v :: vs => if o.dst = some t ∧ t < a0.tmps.size then v else look a0 t os vs
  | _, _ => a0.eval (.tmp t)
theorem fillAll_size (a0 : Act) : ∀ (ops : List Oper) (vs : List Value), (fillAll a0 ops vs).tmps.size = a0.tmps.size
  | [], _ => rfl
  | _ :: _, [] => rfl
  | o :: os, v :: vs => by
    show ((fillAll a0 os vs).put o.dst v).tmps.size = _
    cases h : o.dst with
    | none => exact fillAll_size a0 os vs
    | some d => simp [Act.put, fillAll_size a0 os vs]
theorem eval_fill (a0 : Act) (t : Nat) : ∀ (ops : List Oper) (vs : List Value), (fillAll a0 ops vs).eval (.tmp t) = look a0 t ops vs
  | [], _ => rfl
  | _ :: _, [] => rfl
  | o :: os, v :: vs => by
    show ((fillAll a0 os vs).put o.dst v).eval (.tmp t) = _
    unfold look
    rw [← eval_fill a0 t os vs]
    cases h : o.dst with
    | none => simp [Act.put]
    | some d =>
      have hs := fillAll_size a0 os vs
      by_cases e : d = t
      · subst e
        by_cases hlt : d < a0.tmps.size
        · simp [Act.put, Act.eval, Array.getD_eq_getD_getElem?, hlt, hs]
        · simp [Act.put, Act.eval, Array.getD_eq_getD_getElem?, hlt, hs]
      · simp [Act.put, Act.eval, Array.getD_eq_getD_getElem?, e]
theorem put_put_same (a : Act) (d : Option Tmp) (u v : Value) : (a.put d u).put d v = a.put d v := by
  cases d with
  | none => rfl
  | some d => simp [Act.put]
theorem put_put_comm (a : Act) (d e : Option Tmp) (u v : Value) (h : d = none ∨ e = none ∨ d ≠ e) : (a.put d u).put e v = (a.put e v).put d u := by
  cases d with
  | none => rfl
  | some d =>
    cases e with
    | none => rfl
    | some e =>
      have hne : d ≠ e := by rcases h with h | h | h; cases h; cases h; exact fun x => h (by rw [x])
      simp only [Act.put, Array.setIfInBounds_comm u v hne]
def distinctB : List Oper → Bool
  | [] => true
  | o :: r => r.all (fun x => x.dst == none || o.dst == none || x.dst != o.dst) && distinctB r
theorem fillAll_set (a0 : Act) : ∀ (ops : List Oper) (vs : List Value) (i : Nat) (o : Oper) (v : Value), distinctB ops = true → ops[i]? = some o → i < vs.length → (fillAll a0 ops vs).put o.dst v = fillAll a0 ops (vs.set i v)
  | [], _, i, o, v, _, h, _ => by simp at h
  | x :: os, [], i, o, v, _, _, h => by simp at h
  | x :: os, u :: vs, 0, o, v, _, h, _ => by
    simp at h; subst h
    exact put_put_same _ _ _ _
  | x :: os, u :: vs, i + 1, o, v, hd, h, hl => by
    simp only [distinctB, Bool.and_eq_true] at hd
    have ho : os[i]? = some o := by simpa using h
    have := List.all_eq_true.1 hd.1 o (List.mem_of_getElem? ho)
    show ((fillAll a0 os vs).put x.dst u).put o.dst v = (fillAll a0 os (vs.set i v)).put x.dst u
    rw [put_put_comm, fillAll_set a0 os vs i o v hd.2 ho (by simpa using hl)]
    simp only [Bool.or_eq_true, beq_iff_eq, bne_iff_ne] at this
    rcases this with (h' | h') | h'
    · exact Or.inr (Or.inl h')
    · exact Or.inl h'
    · exact Or.inr (Or.inr (fun e => h' e.symm))
/-- A region's values: what is known of operation j's value once it is done; it must last while memory grows. -/
structure Facts (Fact : Nat → Value → World → Prop) : Prop where
  mono : ∀ j v w w', Fact j v w → RowKit.Below w.heap.size w w' → Fact j v w'

section
variable (P : Program) (ops : List Oper) (Q : Exit → Act → World → Prop) (a0 : Act) (W0 : World) (Fact : Nat → Value → World → Prop)

/-- What stands behind operation i. -/
def QOne (w : World) (i : Nat) (o : Oper) (F : Act) : Exit → Act → World → Prop
  | .normal, a, w' => ∃ v : Value, a = F.put o.dst v ∧ RowKit.Below w.heap.size w w' ∧ Fact i v w'
  | e, a, w => Q e a w

/-- What is owed for operation i. -/
def OblOne (i : Nat) (o : Oper) : Prop := ∀ (vs : List Value) (w : World) (F : Act), RowKit.Below W0.heap.size W0 w → (∀ e ∈ o.after, Region.binds .any e = true → Fact e.on (vs.getD e.on undef) w) → (∀ t, F.eval (.tmp t) = look a0 t ops vs) → vs.length = ops.length → wpList P ops.toArray (QOne Q Fact w i o F) [o] F w
def Obl : List Oper → Nat → Prop
  | [], _ => True
  | o :: r, i => OblOne P ops Q a0 W0 Fact i o ∧ Obl r (i + 1)
end

theorem Obl.get {P : Program} {ops : List Oper} {Q : Exit → Act → World → Prop} {a0 : Act} {W0 : World} {Fact : Nat → Value → World → Prop} : ∀ {l : List Oper} {k : Nat}, Obl P ops Q a0 W0 Fact l k → ∀ {i : Nat} {o : Oper}, l[i]? = some o → OblOne P ops Q a0 W0 Fact (k + i) o
  | [], _, _, i, o, h => by simp at h
  | x :: r, k, H, 0, o, h => by simp at h; subst h; exact H.1
  | x :: r, k, H, i + 1, o, h => by
    have := H.2.get (i := i) (o := o) (by simpa using h)
    rwa [show k + 1 + i = k + (i + 1) by omega] at this

def acyclicB (ops : List Oper) : Bool := (ops.zipIdx).all fun x => x.1.after.all fun e => !Region.binds .any e || decide (e.on < x.2)

def unl (l : List Bool) : Nat := (l.filter (!·)).length
theorem unl_set : ∀ (l : List Bool) (i : Nat), l[i]? = some false → unl (l.set i true) + 1 = unl l
  | [], i, h => by simp at h
  | b :: r, 0, h => by simp at h; subst h; simp [unl]
  | b :: r, i + 1, h => by
    have := unl_set r i (by simpa using h)
    unfold unl at *
    cases b <;> simp at * <;> omega
theorem unl_zero {l : List Bool} (h : unl l = 0) : ∀ b ∈ l, b = true := by
  intro b hb
  unfold unl at h
  have := List.length_eq_zero_iff.1 h
  rw [List.filter_eq_nil_iff] at this
  have := this b hb
  simpa using this
theorem first_false : ∀ (l : List Bool), 0 < unl l → ∃ i : Nat, l[i]? = some false ∧ ∀ j : Nat, j < i → l[j]? = some true
  | [], h => by simp [unl] at h
  | false :: r, _ => ⟨0, rfl, fun j hj => by omega⟩
  | true :: r, h => by
    obtain ⟨i, h1, h2⟩ := first_false r (by simpa [unl] using h)
    refine ⟨i + 1, by simpa using h1, fun j hj => ?_⟩
    cases j with
    | zero => rfl
    | succ j => simpa using h2 j (by omega)

/-- What the slots hold before the region runs. -/
def origs (a0 : Act) (ops : List Oper) : List Value := ops.map fun o => match o.dst with | some d => a0.tmps.getD d undef | none => undef
theorem put_self (a : Act) (d : Tmp) : a.put (some d) (a.tmps.getD d undef) = a := by
  cases a with
  | mk tmps defers =>
    simp only [Act.put]
    congr 1
    apply Array.ext_getElem?
    intro i
    rw [Array.getElem?_setIfInBounds]
    by_cases e : d = i
    · subst e
      by_cases h : d < tmps.size <;> simp [h]
    · simp [e]
theorem fillAll_origs (a0 : Act) : ∀ ops : List Oper, fillAll a0 ops (origs a0 ops) = a0
  | [] => rfl
  | o :: os => by
    show (fillAll a0 os (origs a0 os)).put o.dst _ = a0
    rw [fillAll_origs a0 os]
    rcases o with ⟨dst, op, gd, af⟩
    cases dst with
    | none => rfl
    | some d => exact put_self a0 d

/-- Each operation from n on waits for all that stand before it. -/
def tailB (ops : List Oper) (n : Nat) : Bool := (ops.zipIdx).all fun x => decide (x.2 < n) || (List.range x.2).all fun i => x.1.after.any fun e => Region.binds .any e && e.on == i
def headTail (n m : Nat) : Array Bool := (List.replicate n true ++ List.replicate m false).toArray

theorem wp_region_facts {P : Program} {id : Nat} {ops : List Oper} {Q : Exit → Act → World → Prop} {a0 : Act} {w0 : World} (hm : P.follows .mixedOrders = true) (n : Nat)
    (hac : (acyclicB ops && distinctB ops && tailB ops n && Region.seqB .any ops.toArray (ops.drop n).length n (headTail n (ops.length - n)) && decide (n ≤ ops.length)) = true)
    (Fact : Nat → Value → World → Prop) (hF : Facts Fact)
    (hstep : Obl P ops Q a0 w0 Fact (ops.take n) 0)
    (hend : ∀ (vs : List Value) (w : World), vs.length = ops.length → RowKit.Below w0.heap.size w0 w → (∀ j, j < n → Fact j (vs.getD j undef) w) → wpList P ops.toArray Q (ops.drop n) (fillAll a0 ops vs) w) :
    (Code.region id ops.toArray true).wp P Q a0 w0 := by
  simp only [Bool.and_eq_true, decide_eq_true_eq] at hac
  obtain ⟨⟨⟨⟨hac, hdis⟩, htl⟩, hseq⟩, hn⟩ := hac
  refine wp_region_any hm ?_
  have key : ∀ (fuel : Nat) (listed : Array Bool) (vs : List Value) (w : World), listed.size = ops.length → vs.length = ops.length → unl listed.toList = fuel → (∀ t, n ≤ t → t < ops.length → listed.getD t true = false) →
      RowKit.Below w0.heap.size w0 w → (∀ j, j < ops.length → listed.getD j true = true → Fact j (vs.getD j undef) w) → wpAny P .any ops.toArray Q fuel listed (fillAll a0 ops vs) w := by
    intro fuel
    induction fuel with
    | zero =>
      intro listed vs w hs hvl hu ht hb hI
      have hall : ∀ j, listed.getD j true = true := by
        intro j
        by_cases hj : j < listed.size
        · exact unl_zero hu (listed.getD j true) (by simp [hj])
        · simp [hj]
      have hno : n = ops.length := by
        rcases Nat.lt_or_ge n ops.length with h | h
        · have h1 := ht n (Nat.le_refl _) h; rw [hall n] at h1; cases h1
        · omega
      have hd : ops.drop n = [] := by rw [hno]; simp
      have := hend vs w hvl hb (fun j hj => hI j (by omega) (hall j))
      rw [hd] at this
      refine ⟨?_, this⟩
      unfold Region.ready
      rw [List.filter_eq_nil_iff]
      intro i hi
      simp [hall i]
    | succ fuel ih =>
      intro listed vs w hs hvl hu ht hb hI
      by_cases hpre : ∀ j, j < n → listed.getD j true = true
      · -- the head is done: the tail, in its one order
        have hL : listed = headTail n (ops.length - n) := by
          unfold headTail
          apply Array.ext
          · simp; omega
          · intro i h1 h2
            have e : listed[i] = listed.getD i true := by simp [h1]
            rw [e]
            by_cases hi : i < n
            · rw [hpre i hi]; simp [hi]
            · rw [ht i (by omega) (by omega)]; simp [List.getElem_append, hi]
        have hf : fuel + 1 = (ops.drop n).length := by
          rw [← hu, hL]; simp [headTail, unl]
        rw [hf]
        refine wpAny_of_seq (ops.drop n) n listed _ w (fun j => by simp [List.getElem?_drop]) (by rw [hL]; exact hseq) ?_
        exact hend vs w hvl hb (fun j hj => hI j (by omega) (hpre j hj))
      · constructor
        · intro hr
          exfalso
          obtain ⟨i, h1, h2⟩ := first_false listed.toList (by omega)
          have hi : i < listed.size := by
            have := (List.getElem?_eq_some_iff.1 h1).1; simpa using this
          have hio : i < ops.length := by omega
          have hmem : i ∈ Region.ready .any ops.toArray listed := by
            unfold Region.ready
            rw [List.mem_filter]
            refine ⟨by simp; omega, ?_⟩
            have hl : listed.getD i true = false := by simp [Array.getD_eq_getD_getElem?, ← Array.getElem?_toList, h1]
            rw [hl]
            have ho : ops.toArray[i]? = some ops[i] := by simp [hio]
            rw [ho]
            simp only [Option.map_some, Option.getD_some, Bool.not_false, Bool.true_and, Array.all_eq_true_iff_forall_mem]
            intro e he
            unfold acyclicB at hac
            have := List.all_eq_true.1 hac (ops[i], i) (by rw [List.mem_zipIdx_iff_getElem?]; simp [hio])
            have := (Array.all_eq_true_iff_forall_mem.1 this) e he
            simp only [Bool.or_eq_true, Bool.not_eq_true', decide_eq_true_eq] at this ⊢
            rcases this with h | h
            · exact Or.inl h
            · right
              have := h2 e.on h
              simp [Array.getD_eq_getD_getElem?, ← Array.getElem?_toList, this]
          rw [hr] at hmem
          cases hmem
        · intro i hi
          unfold Region.ready at hi
          rw [List.mem_filter] at hi
          obtain ⟨hir, hi⟩ := hi
          have hio : i < ops.length := by simpa using hir
          have hoA : ops.toArray[i]? = some ops[i] := by simp [hio]
          rw [hoA] at hi
          simp only [Option.map_some, Option.getD_some, Bool.and_eq_true, Bool.not_eq_true', Array.all_eq_true_iff_forall_mem] at hi
          obtain ⟨hl, hdep⟩ := hi
          have hdep' : ∀ e ∈ (ops[i]).after, Region.binds .any e = true → e.on < listed.size ∧ listed.getD e.on true = true := by
            intro e he hbd
            have := hdep e he
            rw [hbd] at this
            simp only [Bool.not_true, Bool.false_or] at this
            by_cases hb : e.on < listed.size
            · exact ⟨hb, by simpa [hb] using this⟩
            · simp [hb] at this
          have hin : i < n := by
            rcases Nat.lt_or_ge i n with h | h
            · exact h
            · exfalso
              apply hpre
              intro j hj
              unfold tailB at htl
              have := List.all_eq_true.1 htl (ops[i], i) (by rw [List.mem_zipIdx_iff_getElem?]; simp [hio])
              simp only [Bool.or_eq_true, decide_eq_true_eq] at this
              rcases this with h' | h'
              · omega
              · have := List.all_eq_true.1 h' j (by simp; omega)
                obtain ⟨e, he, hbe⟩ := Array.any_eq_true'.1 this
                simp only [Bool.and_eq_true, beq_iff_eq] at hbe
                have := (hdep' e he hbe.1).2
                rwa [hbe.2] at this
          have ho : ops[i]? = some ops[i] := by simp [hio]
          have hot : (ops.take n)[i]? = some ops[i] := by rw [List.getElem?_take, if_pos hin]; exact ho
          have hl' : listed.toList[i]? = some false := by
            have hlt : i < listed.size := by omega
            have : listed.getD i true = listed[i] := by simp [hlt]
            rw [this] at hl
            rw [Array.getElem?_toList, Array.getElem?_eq_getElem hlt, hl]
          have hstep' := hstep.get hot
          rw [Nat.zero_add] at hstep'
          have H := hstep' vs w (fillAll a0 ops vs) hb (fun e he hbd => hI e.on (by have := (hdep' e he hbd).1; omega) (hdep' e he hbd).2) (fun t => eval_fill a0 t ops vs) hvl
          have hnext : ∀ (a' : Act) (w' : World), QOne Q Fact w i ops[i] (fillAll a0 ops vs) .normal a' w' → wpAny P .any ops.toArray Q fuel (listed.setIfInBounds i true) a' w' := by
            rintro a' w' ⟨v, rfl, hb', hv⟩
            rw [fillAll_set a0 ops vs i ops[i] v hdis ho (by omega)]
            refine ih _ (vs.set i v) w' (by simpa using hs) (by simpa using hvl) ?_ ?_ (hb.trans (hb'.mono hb.size)) ?_
            · have := unl_set listed.toList i hl'
              rw [Array.toList_setIfInBounds]; omega
            · intro t h1 h2
              rw [Array.getD_eq_getD_getElem?, Array.getElem?_setIfInBounds, if_neg (by omega), ← Array.getD_eq_getD_getElem?]
              exact ht t h1 h2
            · intro j hj hlj
              by_cases e : j = i
              · subst e
                rw [List.getD_eq_getElem?_getD, List.getElem?_set_self (by omega)]
                exact hv
              · rw [List.getD_eq_getElem?_getD, List.getElem?_set_ne (by omega), ← List.getD_eq_getElem?_getD]
                refine hF.mono _ _ _ _ (hI j hj ?_) hb'
                rwa [Array.getD_eq_getD_getElem?, Array.getElem?_setIfInBounds, if_neg (by omega), ← Array.getD_eq_getD_getElem?] at hlj
          unfold wpOp
          rw [hoA]
          simp only
          unfold wpList at H
          split
          · rename_i hw
            rw [if_pos hw] at H
            have conv : ∀ {K : Act → World → Prop}, (ops[i]).wp P (fillAll a0 ops vs) w K (QOne Q Fact w i ops[i] (fillAll a0 ops vs)) → (ops[i]).wp P (fillAll a0 ops vs) w K Q := by
              intro K hh
              unfold Oper.wp at *
              generalize (execOp (fillAll a0 ops vs).eval ops[i]).run P w = r at *
              cases r with
              | ok n w' =>
                cases n <;> simp only [Oper.upon] at hh ⊢ <;>
                  first
                    | exact hh
                    | (refine Calls.mono hh (fun e w'' he => ?_)
                       cases e with
                       | returned v => exact he
                       | panicked c => exact he
                       | outgrown =>
                         obtain ⟨a1, w1, hq⟩ := he
                         exact ⟨a1, w1, hq⟩)
              | halt x w' => cases x <;> simp only [Oper.upon] at hh ⊢ <;> exact hh
            rcases H with H | ⟨hasks, a1, w1, hq⟩
            · left
              refine conv (Oper.wp_mono (fun a w h => ?_) H)
              exact hnext _ _ h
            · right
              exact ⟨hasks, a1, w1, hq⟩
          · rename_i hw
            rw [if_neg hw] at H
            exact hnext _ _ H
  have hrep : unl (Array.replicate ops.toArray.size false).toList = ops.toArray.size := by
    simp [unl]
  have := key ops.toArray.size (Array.replicate ops.toArray.size false) (origs a0 ops) w0.drew (by simp) (by simp [origs]) hrep (fun t h1 h2 => by simp [h2]) (RowKit.Below.refl _ _).drew (fun j hj h => by simp [hj] at h)
  rwa [fillAll_origs] at this

/-- What an operation that this one waits for has left. -/
theorem dep_of {Fact : Nat → Value → World → Prop} {vs : List Value} {w : World} {o : Oper} (hd : ∀ e ∈ o.after, Region.binds .any e = true → Fact e.on (vs.getD e.on undef) w) (j : Nat)
    (h : (o.after.any fun e => Region.binds .any e && e.on == j) = true) : Fact j (vs.getD j undef) w := by
  obtain ⟨e, he, hb⟩ := Array.any_eq_true'.1 h
  simp only [Bool.and_eq_true, beq_iff_eq] at hb
  have := hd e he hb.1
  rwa [hb.2] at this
theorem look_out (a0 : Act) (t : Nat) : ∀ (ops : List Oper) (vs : List Value), (ops.all fun o => o.dst != some t) = true → look a0 t ops vs = a0.eval (.tmp t)
  | [], _, _ => rfl
  | _ :: _, [], _ => rfl
  | o :: os, v :: vs, h => by
    simp only [List.all_cons, Bool.and_eq_true, bne_iff_ne] at h
    unfold look
    rw [if_neg (fun hh => h.1 hh.1), look_out a0 t os vs h.2]
theorem look_at (a0 : Act) (t : Nat) : ∀ (j : Nat) (ops : List Oper) (vs : List Value), ((ops[j]?).map (·.dst) == some (some t) && decide (t < a0.tmps.size)) = true → ((ops.take j).all fun o => o.dst != some t) = true → vs.length = ops.length → look a0 t ops vs = vs.getD j undef
  | j, [], _, h, _, _ => by simp at h
  | j, _ :: _, [], _, _, h => by simp at h
  | 0, o :: os, v :: vs, h, _, _ => by
    simp only [List.getElem?_cons_zero, Option.map_some, Bool.and_eq_true, beq_iff_eq, decide_eq_true_eq, Option.some.injEq] at h
    unfold look
    rw [if_pos h]; rfl
  | j + 1, o :: os, v :: vs, h, h2, hl => by
    simp only [List.take_succ_cons, List.all_cons, Bool.and_eq_true, bne_iff_ne] at h2
    unfold look
    rw [if_neg (fun hh => h2.1 hh.1), look_at a0 t j os vs (by simpa using h) (by simpa using h2.2) (by simpa using hl)]
    simp
theorem list9 {vs : List Value} (h : vs.length = 9) : ∃ a b c d e f g i j, vs = [a, b, c, d, e, f, g, i, j] := by
  match vs, h with
  | [a, b, c, d, e, f, g, i, j], _ => exact ⟨a, b, c, d, e, f, g, i, j, rfl⟩
theorem eval2 {F : Act} {x y : Operand} {u v : Value} (hx : F.eval x = u) (hy : F.eval y = v) : #[x, y].map F.eval = #[u, v] := by simp [hx, hy]
theorem eval1 {F : Act} {x : Operand} {u : Value} (hx : F.eval x = u) : #[x].map F.eval = #[u] := by simp [hx]

/-! The operations, one by one, in whatever frame. -/
section
variable {P : Program} {ops : Array Oper} {o : Oper} {F : Act} {w : World} {Q : Exit → Act → World → Prop}
theorem one_call {f : FuncId} (args : Array Operand) (T : Array TypeId) (hgd : o.guard = none) (ho : o.op = .call { callee := .value (.func f), args := args, argTypes := T }) (hE : ∀ (args : Array Value) (w : World), (callFunc f args).run P w = .ok (.enter f args) w)
    (vals : Array Value) (hv : args.map F.eval = vals) (h : Calls P f vals w fun e w' => ∃ v, e = .returned v ∧ Q .normal (F.put o.dst v) w') : wpList P ops Q [o] F w := by
  refine wpList_plain hgd fun K hK => ?_
  unfold Oper.wp execOp
  simp [ho, resolve, Deferred.ofValue, invoke, hv, Act.eval, hE, Oper.upon]
  exact h.mono (fun e w' ⟨v, he, hq⟩ => by subst he; exact hK _ _ hq)

theorem one_load0 (ty : TypeId) (x : Operand) (hgd : o.guard = none) (ho : o.op = .load ty x) (ad : Addr) (v : Value) (hx : F.eval x = .pointer (some ad)) (hc : w.cell? ad = some v)
    (d : TypeDesc) (hu : P.underlying ty = some d) (hd : (match d with | .struct _ | .array _ _ => true | _ => false) = false) (h : Q .normal (F.put o.dst v) w) : wpList P ops Q [o] F w := by
  refine wpList_plain hgd fun K hK => ?_
  unfold Oper.wp execOp
  simp [ho, hx, Instr.loadAt, Instr.sureAddr, loadVar, run_isAgg_plain hu hd, hc, Oper.upon]
  exact hK _ _ h

theorem one_load (ty : TypeId) (x : Operand) (hgd : o.guard = none) (ho : o.op = .load ty x) (ad : Addr) (v : Value) (hx : F.eval x = .pointer (some ad)) (hc : w.cell? ad = some v)
    (hu : (P.underlying ty).map (fun d => match d with | .struct _ | .array _ _ => true | _ => false) = some false) (h : Q .normal (F.put o.dst v) w) : wpList P ops Q [o] F w := by
  obtain ⟨d, hd, he⟩ := Option.map_eq_some_iff.1 hu
  exact one_load0 ty x hgd ho ad v hx hc d hd (by cases d <;> first | rfl | simp at he) h

theorem one_field (ty : TypeId) (x : Operand) (k : Nat) (hgd : o.guard = none) (ho : o.op = .fieldAddr ty x k) (B i : Nat) (hx : F.eval x = .pointer (some ⟨B, i, none⟩)) (n : Nat)
    (hi : ∀ w : World, (Instr.fieldAt ty (.pointer (some ⟨B, i, none⟩)) k).run P w = .ok (.pointer (some ⟨B, n, none⟩)) w) (h : Q .normal (F.put o.dst (.pointer (some ⟨B, n, none⟩))) w) : wpList P ops Q [o] F w := by
  refine wpList_plain hgd fun K hK => ?_
  unfold Oper.wp execOp
  simp [ho, hx, hi, Oper.upon]
  exact hK _ _ h

theorem one_build (ty : TypeId) (parts : Array (Nat × Operand)) (hgd : o.guard = none) (ho : o.op = .build ty parts) (vals : Array (Nat × Value)) (hx : parts.map (fun p => (p.1, F.eval p.2)) = vals) (v : Value)
    (hi : ∀ w : World, (Instr.build ty vals).run P w = .ok v w) (h : Q .normal (F.put o.dst v) w) : wpList P ops Q [o] F w := by
  refine wpList_plain hgd fun K hK => ?_
  unfold Oper.wp execOp
  have hx' : parts.map (fun x => match x with | (i, x) => (i, F.eval x)) = vals := hx
  simp [ho, hx', hi, Oper.upon]
  exact hK _ _ h
theorem parts2 {F : Act} {i j : Nat} {x y : Operand} {u v : Value} (hx : F.eval x = u) (hy : F.eval y = v) : #[(i, x), (j, y)].map (fun p => (p.1, F.eval p.2)) = #[(i, u), (j, v)] := by simp [hx, hy]
theorem one_binop (b : BinOp) (ty : TypeId) (x y : Operand) (yt : TypeId) (hgd : o.guard = none) (ho : o.op = .binOp b ty x y yt) (u v : Value) (hx : F.eval x = u) (hy : F.eval y = v) (r : Value)
    (hr : (eqGuard b ty x y u v).run P w = .ok () w) (hi : (binOp b ty u v).run P w = .ok r w) (h : Q .normal (F.put o.dst r) w) : wpList P ops Q [o] F w := by
  refine wpList_plain hgd fun K hK => ?_
  unfold Oper.wp execOp
  simp [ho, hx, hy, hr, hi, Oper.upon]
  exact hK _ _ h
theorem one_load_row (ty : TypeId) (x : Operand) (hgd : o.guard = none) (ho : o.op = .load ty x) (g : Nat) (cs : Array Value) (t : TypeId) (fr : Nat × Nat) (hx : F.eval x = .pointer (some ⟨g, 0, none⟩)) (hg : w.heap[g]? = some (.cells cs t fr))
    (d : TypeDesc) (hu : P.underlying ty = some d) (hd : (match d with | .struct _ | .array _ _ => true | _ => false) = true) (hs : (P.info? ty).map (·.size) = some cs.size) (h : Q .normal (F.put o.dst (.agg cs)) w) : wpList P ops Q [o] F w := by
  refine wpList_plain hgd fun K hK => ?_
  unfold Oper.wp execOp
  simp [ho, hx, Instr.loadAt, Instr.sureAddr, run_loadVar_row w g t ty cs fr d hg hu hd hs, Oper.upon]
  exact hK _ _ h
theorem one_alloc_agg (e : TypeId) (hgd : o.guard = none) (ho : o.op = .alloc e) (z : Value) (cs : Array Value) (hz : (P.info? e).map (fun i => i.zero) = some (some z)) (hc : z.cells = cs)
    (h : Q .normal (F.put o.dst (.pointer (some ⟨w.heap.size, 0, none⟩))) (w.alloc (.cells cs e))) : wpList P ops Q [o] F w := by
  refine wpList_plain hgd fun K hK => ?_
  obtain ⟨i, hi, hzz⟩ := Option.map_eq_some_iff.1 hz
  unfold Oper.wp execOp
  simp [ho, Instr.alloc, zeroValue, typeInfo, hi, hzz, newVar, hc, Oper.upon]
  exact hK _ _ h
theorem one_move (x : Operand) (hgd : o.guard = none) (ho : o.op = .move x ∨ o.op = .assign x) (h : Q .normal (F.put o.dst (F.eval x)) w) : wpList P ops Q [o] F w := by
  refine wpList_plain hgd fun K hK => ?_
  unfold Oper.wp execOp
  rcases ho with ho | ho <;> (simp [ho, Oper.upon]; exact hK _ _ h)
end
/-- A variable of the region's own: a row of its own block. -/
def NewRow (B : Nat) (t : TypeId) (cs : Array Value) (v : Value) (w : World) : Prop := ∃ X, v = .pointer (some ⟨X, 0, none⟩) ∧ B ≤ X ∧ X < w.heap.size ∧ w.heap[X]? = some (.cells cs t (0, 0))
theorem NewRow.mono {B : Nat} {t : TypeId} {cs : Array Value} {w w' : World} {v : Value} (h : NewRow B t cs v w) (hb : RowKit.Below w.heap.size w w') : NewRow B t cs v w' := by
  obtain ⟨X, h1, h2, h3, h4⟩ := h
  exact ⟨X, h1, h2, Nat.lt_of_lt_of_le h3 hb.size, (hb.block X h3).trans h4⟩
end Go.Mem
end
