/- Slots and the reference's room in memory. -/
import Derived.Test.YtlahmcbaiebapaaSlotP
import Derived.Test.YtlahmcbaiebapaaSetW
import Derived.Test.YtlahmcbaiebapaaGrown
namespace Go.Mem
open Go.RowKit
/-- Worlds that grew, but for a set of blocks. -/
structure GrP (P : Nat → Prop) (a b : World) : Prop where
  os : b.os = a.os
  tape : b.tape = a.tape
  output : b.output = a.output
  size : a.heap.size ≤ b.heap.size
  block : ∀ k, k < a.heap.size → ¬ P k → b.heap[k]? = a.heap[k]?
variable {P Q : Nat → Prop} {a b c w w' : World}
theorem GrP.refl (P : Nat → Prop) (a : World) : GrP P a a := ⟨rfl, rfl, rfl, Nat.le_refl _, fun _ _ _ => rfl⟩
theorem GrP.step (h : GrP P a b) (k : GrP Q b c) (hq : ∀ j, j < a.heap.size → Q j → P j) : GrP P a c :=
  ⟨k.os.trans h.os, k.tape.trans h.tape, k.output.trans h.output, Nat.le_trans h.size k.size, fun j hj hp => (k.block j (Nat.lt_of_lt_of_le hj h.size) (fun q => hp (hq j hj q))).trans (h.block j hj hp)⟩
theorem GrP.of_below (h : Below a.heap.size a b) : GrP P a b := ⟨h.os, h.tape, h.output, h.size, fun k hk _ => h.block k hk⟩
theorem GrP.of_gb {row : Option Nat} (h : a.grownBy b row) (hr : ∀ k, row = some k → P k) : GrP P a b :=
  ⟨h.os, h.tape, h.output, h.size, fun k hk hp => h.block k hk (fun e => hp (hr k e.symm))⟩
theorem GrP.set (h : GrP P a b) {k : Nat} (hk : P k) (i : Nat) (v : Value) : GrP P a (b.setCell ⟨k, i, none⟩ v) :=
  ⟨h.os, h.tape, h.output, by simpa using h.size, fun j hj hp => (Below.heap_setCell b ⟨k, i, none⟩ v j (fun e => hp (by subst e; exact hk))).trans (h.block j hj hp)⟩
theorem GrP.drew (h : GrP P a b) : GrP P a b.drew := ⟨h.os, h.tape, h.output, h.size, h.block⟩
theorem GrP.drewN (h : GrP P a b) (n : Nat) : GrP P a (b.drewN n) := ⟨h.os, h.tape, h.output, h.size, h.block⟩
theorem GrP.alloc (h : GrP P a b) (o : Obj) : GrP P a (b.alloc o) := h.step (Q := P) (.of_below ((Below.refl _ _).alloc (Nat.le_refl _) o)) fun _ _ q => q
theorem GrP.then (h : GrP P a b) (k : Below b.heap.size b c) : GrP P a c := h.step (Q := P) (.of_below k) fun _ _ q => q
theorem GrP.below (h : GrP P a b) {n : Nat} (hn : n ≤ a.heap.size) (hp : ∀ k, P k → n ≤ k) : Below n a b :=
  ⟨h.os, h.tape, h.output, h.size, fun k hk => h.block k (by omega) (fun q => by have := hp k q; omega)⟩
theorem own_grp {base e size n : Nat} {v : Value} {xs : List Value} (h : w.ownsRow base e size v n xs) (hg : GrP P w w') (hne : ∀ g, v.ownBlock = some g → ¬ P g) : w'.ownsRow base e size v n xs :=
  own_keep h fun g hv => hg.block g (own_lt h g hv).2 (hne g hv)
theorem heap_grp {k : Nat} {o : Obj} (h : w.heap[k]? = some o) (hg : GrP P w w') (hne : ¬ P k) : w'.heap[k]? = some o := (hg.block k (lt_of_heap h) hne).trans h
end Go.Mem
namespace Go.Proofs.Ytlahmcbaiebapaa
open Go.ChangeShapes Go.WideShapes Go.ChangeAt Go.RowKit Go.Mem Go.Sp Go.Slt
set_option linter.unusedVariables false
/-- Slots in memory. -/
structure Sl (ww : World) (DD s : Nat) (vg vu vf : Value) (G : List Int) (B : List Bool) (U F : List Nat) : Prop where
  block : ww.heap[s]? = some (.cells #[vg, vu, vf] 134 (0, 0))
  gens : ww.ownsRow DD 3 1 vg G.length (vints .i64 G)
  used : ww.ownsRow DD 26 1 vu U.length (vints .u64 (V U))
  free : ww.ownsRow DD 26 1 vf F.length (vints .u64 (V F))
  ds : DD ≤ s
  dw : DD ≤ ww.heap.size
/-- The reference's room in memory. -/
structure Rm (ww : World) (DD r : Nat) (vg vb : Value) (G : List Int) (B : List Bool) : Prop where
  block : ww.heap[r]? = some (.cells #[vg, vb] 65 (0, 0))
  gens : ww.ownsRow DD 3 1 vg G.length (vints .i64 G)
  used : ww.ownsRow DD 4 1 vb B.length (vbools B)
  dr : DD ≤ r
  dw : DD ≤ ww.heap.size
def SlP (s : Nat) (vg : Value) (k : Nat) : Prop := k = s ∨ vg.ownBlock = some k
def RmP (r : Nat) (vg vb : Value) (k : Nat) : Prop := k = r ∨ vg.ownBlock = some k ∨ vb.ownBlock = some k
variable {w w' : World} {D s r : Nat} {vg vu vf vb vh : Value} {G : List Int} {B : List Bool} {U F : List Nat}
theorem Sl.keep {P : Nat → Prop} (h : Sl w D s vg vu vf G B U F) (hg : GrP P w w') (hs : ¬ P s) (h1 : ∀ k, vg.ownBlock = some k → ¬ P k) (h2 : ∀ k, vu.ownBlock = some k → ¬ P k) (h3 : ∀ k, vf.ownBlock = some k → ¬ P k) : Sl w' D s vg vu vf G B U F :=
  ⟨heap_grp h.block hg hs, own_grp h.gens hg h1, own_grp h.used hg h2, own_grp h.free hg h3, h.ds, Nat.le_trans h.dw hg.size⟩
theorem Sl.below (h : Sl w D s vg vu vf G B U F) (hb : Below w.heap.size w w') : Sl w' D s vg vu vf G B U F := h.keep (P := fun _ => False) (.of_below hb) id (fun _ _ => id) (fun _ _ => id) (fun _ _ => id)
theorem Rm.keep {P : Nat → Prop} (h : Rm w D r vg vb G B) (hg : GrP P w w') (hs : ¬ P r) (h1 : ∀ k, vg.ownBlock = some k → ¬ P k) (h2 : ∀ k, vb.ownBlock = some k → ¬ P k) : Rm w' D r vg vb G B :=
  ⟨heap_grp h.block hg hs, own_grp h.gens hg h1, own_grp h.used hg h2, h.dr, Nat.le_trans h.dw hg.size⟩
theorem Rm.below (h : Rm w D r vg vb G B) (hb : Below w.heap.size w w') : Rm w' D r vg vb G B := h.keep (P := fun _ => False) (.of_below hb) id (fun _ _ => id) (fun _ _ => id)
/-- What the slots' calls write is not the room's. -/
theorem Rm.apart (h : Rm w D r vh vb G B) {G2 : List Int} {B2 : List Bool} (k : Sl w D s vg vu vf G2 B2 U F) (hne : ∀ j, vg.ownBlock = some j → vh.ownBlock ≠ some j) (hg : GrP (SlP s vg) w w') : Rm w' D r vh vb G B := by
  refine h.keep hg ?_ ?_ ?_
  · rintro (e | e)
    · have h1 := h.block; rw [e, k.block] at h1; injection h1 with h1; injection h1 with _ h1; exact absurd h1 (by decide)
    · exact own_ne k.gens h.block (by decide) r e rfl
  · rintro j hj (e | e)
    · exact own_ne h.gens k.block (by decide) j hj (by rw [e])
    · exact hne j e hj
  · rintro j hj (e | e)
    · exact own_ne h.used k.block (by decide) j hj (by rw [e])
    · exact own_other h.used k.gens (by decide) j hj e.symm
theorem Sl.apart (k : Sl w D s vg vu vf G B U F) {G2 : List Int} {B2 : List Bool} (h : Rm w D r vh vb G2 B2) (hne : ∀ j, vg.ownBlock = some j → vh.ownBlock ≠ some j) (hg : GrP (RmP r vh vb) w w') : Sl w' D s vg vu vf G B U F := by
  refine k.keep hg ?_ ?_ ?_ ?_
  · rintro (e | e | e)
    · have h1 := h.block; rw [← e, k.block] at h1; injection h1 with h1; injection h1 with _ h1; exact absurd h1 (by decide)
    · exact own_ne h.gens k.block (by decide) s e rfl
    · exact own_ne h.used k.block (by decide) s e rfl
  · rintro j hj (e | e | e)
    · exact own_ne k.gens h.block (by decide) j hj (by rw [e])
    · exact hne j hj e
    · exact own_other k.gens h.used (by decide) j hj e.symm
  · rintro j hj (e | e | e)
    · exact own_ne k.used h.block (by decide) j hj (by rw [e])
    · exact own_other k.used h.gens (by decide) j hj e.symm
    · exact own_other k.used h.used (by decide) j hj e.symm
  · rintro j hj (e | e | e)
    · exact own_ne k.free h.block (by decide) j hj (by rw [e])
    · exact own_other k.free h.gens (by decide) j hj e.symm
    · exact own_other k.free h.used (by decide) j hj e.symm
theorem Sl.c0 (h : Sl w D s vg vu vf G B U F) : w.cell? ⟨s, 0, none⟩ = some vg := by rw [cell_of_row w s 0 _ _ _ h.block]; rfl
theorem Sl.c1 (h : Sl w D s vg vu vf G B U F) : w.cell? ⟨s, 1, none⟩ = some vu := by rw [cell_of_row w s 1 _ _ _ h.block]; rfl
theorem Sl.c2 (h : Sl w D s vg vu vf G B U F) : w.cell? ⟨s, 2, none⟩ = some vf := by rw [cell_of_row w s 2 _ _ _ h.block]; rfl
theorem Sl.fz (h : Sl w D s vg vu vf G B U F) (i : Nat) : w.frozen? ⟨s, i, none⟩ = false := Mem.frozen_of_row h.block i
theorem Rm.c0 (h : Rm w D r vg vb G B) : w.cell? ⟨r, 0, none⟩ = some vg := by rw [cell_of_row w r 0 _ _ _ h.block]; rfl
theorem Rm.c1 (h : Rm w D r vg vb G B) : w.cell? ⟨r, 1, none⟩ = some vb := by rw [cell_of_row w r 1 _ _ _ h.block]; rfl
theorem Rm.fz (h : Rm w D r vg vb G B) (i : Nat) : w.frozen? ⟨r, i, none⟩ = false := Mem.frozen_of_row h.block i
theorem V_words_length (A : List Nat) : A.length = (V A).length := (V_length A).symm
theorem Sl.su {ra : Option Addr} {n ca : Nat} (h : Sl w D s vg (.slice ra n ca) vf G B U F) : SetAt w ra U := by
  have hn : n = U.length := by obtain ⟨a, c, e⟩ := own_slice h.used; exact (Value.slice.inj e).2.1
  have := h.used
  rw [← hn] at this
  exact IntsAt.of_own this (by rw [V_length, hn])
theorem Sl.sf {ra : Option Addr} {n ca : Nat} (h : Sl w D s vg vu (.slice ra n ca) G B U F) : SetAt w ra F := by
  have hn : n = F.length := by obtain ⟨a, c, e⟩ := own_slice h.free; exact (Value.slice.inj e).2.1
  have := h.free
  rw [← hn] at this
  exact IntsAt.of_own this (by rw [V_length, hn])
end Go.Proofs.Ytlahmcbaiebapaa
