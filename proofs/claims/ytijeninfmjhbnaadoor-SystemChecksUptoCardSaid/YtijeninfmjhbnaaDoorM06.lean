/- Lemmas for the law SystemChecks: WCells, MapsW, KindOne. No conditions. -/
import Derived.Test.YtijeninfmjhbnaaDoorM04
import Derived.Test.YtijeninfmjhbnaaDoorM05
import Derived.Deep.DeepMust
import Derived.OwnWalk
import Derived.WideKeyArgs2
import Derived.Maps.OwnSet
import Derived.Maps.OwnOps
import Derived.Maps.Views
import Derived.Carry
import Derived.Test.YtijeninfmjhbnaaDoorM03
import Derived.Deep.LoopGhost
/- Components, kinds, items among others: their cells. -/
section
namespace Go.Proofs.YtijeninfmjhbnaaDoor
open Go.RowKit Go.ChangeShapes Go.WideShapes Go.Mem
set_option linter.unusedVariables false
theorem comp_cells {w : World} {x : Addr} {l : List CompV} (h : SlAt 2 CompAt w (some x) l) (i : Nat) (hi : i < l.length) : ∃ xb xo, x = ⟨xb, xo, none⟩ ∧ ∃ a c, CellsK w xb (xo + i * 2) [.int .i64 l[i].kind, .slice a l[i].vals.length c] ∧ IntsAt .i64 w a l[i].vals := by
  obtain ⟨y, hy, hb, hc⟩ := h (by omega)
  injection hy with hy
  subst hy
  obtain ⟨xb, xo, sp⟩ := x
  have hsp : sp = none := by
    obtain ⟨f0, _⟩ := hc 0 (by omega)
    simpa [Addr.add] using World.cell?_spot f0
  obtain ⟨e0, a, c, e1, h2⟩ := hc i hi
  subst hsp
  rw [Addr.add_lit] at e0 e1
  refine ⟨xb, xo, rfl, a, c, fun j v hv => ?_, h2⟩
  match j with
  | 0 => cases hv; exact e0
  | 1 => cases hv; exact e1
  | j + 2 => simp at hv
theorem kind_cells {w : World} {x : Addr} {l : List KindV} (h : SlAt 2 KindAt w (some x) l) (i : Nat) (hi : i < l.length) : ∃ xb xo, x = ⟨xb, xo, none⟩ ∧ ∃ a c, CellsK w xb (xo + i * 2) [.string l[i].name, .slice a l[i].fields.length c] ∧ l[i].name.size ≤ 9223372036854775807 ∧ l[i].fields.length ≤ c ∧ c ≤ 9223372036854775807 ∧ SlAt 3 FieldAt w a l[i].fields := by
  obtain ⟨y, hy, hb, hc⟩ := h (by omega)
  injection hy with hy
  subst hy
  obtain ⟨xb, xo, sp⟩ := x
  have hsp : sp = none := by
    obtain ⟨f0, _⟩ := hc 0 (by omega)
    simpa [Addr.add] using World.cell?_spot f0
  obtain ⟨e0, hs, a, c, e1, h2, h3, h4⟩ := hc i hi
  subst hsp
  rw [Addr.add_lit] at e0 e1
  refine ⟨xb, xo, rfl, a, c, fun j v hv => ?_, hs, h2, h3, h4⟩
  match j with
  | 0 => cases hv; exact e0
  | 1 => cases hv; exact e1
  | j + 2 => simp at hv
theorem item_cells {w : World} {x : Addr} {l : List ItemV} (h : SlAt 3 ItemAt w (some x) l) (i : Nat) (hi : i < l.length) : ∃ xb xo, x = ⟨xb, xo, none⟩ ∧ ∃ a c, CellsK w xb (xo + i * 3) [.int .i64 l[i].n, .int .i64 l[i].gen, .slice a l[i].comps.length c] ∧ SlAt 2 CompAt w a l[i].comps := by
  obtain ⟨y, hy, hb, hc⟩ := h (by omega)
  injection hy with hy
  subst hy
  obtain ⟨xb, xo, sp⟩ := x
  have hsp : sp = none := by
    obtain ⟨f0, _⟩ := hc 0 (by omega)
    simpa [Addr.add] using World.cell?_spot f0
  obtain ⟨e0, e1, a, c, e2, h2⟩ := hc i hi
  subst hsp
  rw [Addr.add_lit] at e0 e1 e2
  refine ⟨xb, xo, rfl, a, c, fun j v hv => ?_, h2⟩
  match j with
  | 0 => cases hv; exact e0
  | 1 => cases hv; exact e1
  | 2 => cases hv; exact e2
  | j + 3 => simp at hv
theorem fld_cells {w : World} {x : Addr} {l : List FieldV} (h : SlAt 3 FieldAt w (some x) l) (i : Nat) (hi : i < l.length) : ∃ xb xo, x = ⟨xb, xo, none⟩ ∧ CellsK w xb (xo + i * 3) [.string l[i].name, .int .i64 l[i].bits, .int .i64 l[i].low] := by
  obtain ⟨y, hy, hb, hc⟩ := h (by omega)
  injection hy with hy
  subst hy
  obtain ⟨xb, xo, sp⟩ := x
  have hsp : sp = none := by
    obtain ⟨f0, _⟩ := hc 0 (by omega)
    simpa [Addr.add] using World.cell?_spot f0
  obtain ⟨e0, e1, e2, _⟩ := hc i hi
  subst hsp
  rw [Addr.add_lit] at e0 e1 e2
  refine ⟨xb, xo, rfl, fun j v hv => ?_⟩
  match j with
  | 0 => cases hv; exact e0
  | 1 => cases hv; exact e1
  | 2 => cases hv; exact e2
  | j + 3 => simp at hv
theorem ints_cell {k : IntKind} {w : World} {x : Addr} {l : List Int} (h : IntsAt k w (some x) l) (i : Nat) (hi : i < l.length) : ∃ xb xo, x = ⟨xb, xo, none⟩ ∧ w.cell? ⟨xb, xo + i * 1, none⟩ = some (.int k (l.getD i 0)) := by
  obtain ⟨y, hy, hb, hc⟩ := h (by omega)
  injection hy with hy
  subst hy
  obtain ⟨xb, xo, sp⟩ := x
  have hsp : sp = none := by
    have f0 := hc 0 (by omega)
    simpa [Addr.add] using World.cell?_spot f0
  have e0 := hc i hi
  subst hsp
  rw [Addr.add_lit] at e0
  exact ⟨xb, xo, rfl, by rw [Nat.mul_one]; exact e0⟩
theorem CellsK.at {w : World} {b q : Nat} {vs : List Value} (h : CellsK w b q vs) (j : Nat) (hj : j < vs.length) : w.cell? ⟨b, q + j, none⟩ = some vs[j] := h j _ (List.getElem?_eq_getElem hj)
theorem new_row (w : World) (cs : Array Value) (t : TypeId) : CellsK (w.alloc (.cells cs t (0, 0))) w.heap.size 0 cs.toList := CellsK.row (heap_alloc_new w _)
end Go.Proofs.YtijeninfmjhbnaaDoor
end
/- Maps of the call's own, told as functions of natural keys: map[int][]int (MapI), map[int]map[int][]int (MapO). -/
section
namespace Go.Proofs.YtijeninfmjhbnaaDoor
open Go.ChangeShapes Go.WideShapes Go.ChangeAt Go.RowKit Go.Nm Go.Mem Go.Maps
set_option linter.unusedVariables false
theorem keyInt : Keyed Tryd.prog 3 := int_keyed Tryd.underlying3
theorem zeroRow (w : World) : (zeroValue 23).run Tryd.prog w = .ok (.slice none 0 0) w := by kernel_rfl
theorem zeroMap (w : World) : (zeroValue 70).run Tryd.prog w = .ok (.map none) w := by kernel_rfl
abbrev RV (v : Value) : Option (DataW Value × List MemPlace) := some (.held v, [])
abbrev OwnV (w : World) (M n : Nat) (D : DataW Value) : Prop := w.ownsMap Tryd.prog 3 RV M n D
abbrev keyN (i : Nat) : Lit := .int .i64 (i : Int)
theorem keyN_ne {i j : Nat} (h : i ≠ j) : keyN i ≠ keyN j := by
  intro e
  injection e with _ e
  omega
theorem keyN_of {i : Nat} (h : i ≤ 9223372036854775807) : keyOf Tryd.prog 3 (.int .i64 (i : Int)) = some (keyN i) := keyOf_int_mk Tryd.underlying3 (by simp [Lit.wf, IntKind.min, IntKind.max, IntKind.bits, IntKind.signed]; omega)
theorem below_gn {w w' : World} (h : Below w.heap.size w w') (row : Option Nat) : w.grownBy w' row := ⟨h.os, h.tape, h.output, h.size, fun k hk _ => h.block k hk⟩
theorem own_block {w : World} {b n : Nat} {D : DataW Value} (h : OwnV w b n D) : ∃ es c, w.heap[b]? = some (.map es c) := by
  obtain ⟨es, c, h, _⟩ := h
  exact ⟨es, c, h⟩
theorem own_nocell {w : World} {b n : Nat} {D : DataW Value} (h : OwnV w b n D) (q : Nat) (s) : w.cell? ⟨b, q, s⟩ = none := by
  obtain ⟨es, c, h⟩ := own_block h
  simp [World.cell?, h]
theorem ints_own {w w' : World} {a : Option Addr} {L : List Int} {b n : Nat} {D : DataW Value} (h : IntsAt .i64 w a L) (hm : OwnV w b n D) (hg : w.grownBy w' (some b)) : IntsAt .i64 w' a L := by
  intro hn
  obtain ⟨x, rfl, hx, hc⟩ := h hn
  have hne : x.block ≠ b := by
    intro e
    have h0 := hc 0 hn
    obtain ⟨xb, xo, xs⟩ := x
    simp only at e
    subst e
    unfold Addr.add at h0
    split at h0
    · rw [own_nocell hm] at h0
      cases h0
    · rw [own_nocell hm] at h0
      cases h0
  refine ⟨x, rfl, Nat.lt_of_lt_of_le hx hg.size, fun i hi => ?_⟩
  rw [World.cell?_of_block (w := w) (hg.block _ (by rw [block_of_add]; exact hx) (fun e => hne (by rw [block_of_add] at e; injection e)))]
  exact hc i hi
abbrev Part := Nat → Option (List Int)
def updF {α : Type} (F : Nat → Option α) (k : Nat) (v : α) : Nat → Option α := fun i => if i = k then some v else F i
theorem updF_same {α : Type} (F : Nat → Option α) (k : Nat) (v : α) : updF F k v k = some v := if_pos rfl
theorem updF_other {α : Type} (F : Nat → Option α) {k i : Nat} (v : α) (h : i ≠ k) : updF F k v i = F i := if_neg h
/-- ints that lie in the blocks from lo on -/
structure IntsU (lo : Nat) (w : World) (a : Option Addr) (L : List Int) : Prop where
  ints : IntsAt .i64 w a L
  lo : ∀ x, a = some x → lo ≤ x.block
theorem IntsU.below {lo : Nat} {w w' : World} {a : Option Addr} {L : List Int} (h : IntsU lo w a L) (hb : Below w.heap.size w w') : IntsU lo w' a L := ⟨h.ints.below hb, h.lo⟩
theorem IntsU.own {lo : Nat} {w w' : World} {a : Option Addr} {L : List Int} {b n : Nat} {D : DataW Value} (h : IntsU lo w a L) (hm : OwnV w b n D) (hg : w.grownBy w' (some b)) : IntsU lo w' a L := ⟨ints_own h.ints hm hg, h.lo⟩
def MapI (w : World) (b n : Nat) (F : Part) : Prop := ∃ D, OwnV w b n D ∧ ∀ i : Nat, Maps.has D (keyN i) = (F i).isSome ∧ ∀ L, F i = some L → ∃ a c, D.atKey (keyN i) (.held (.slice none 0 0)) = .held (.slice a L.length c) ∧ IntsU b w a L
theorem MapI.lt {w : World} {b n : Nat} {F : Part} (h : MapI w b n F) : b < w.heap.size := by
  obtain ⟨D, h, _⟩ := h
  exact World.ownsMap.lt h
theorem MapI.new (w : World) : MapI (w.alloc (.map #[] 0)) w.heap.size 0 (fun _ => none) := ⟨_, World.ownsMap_made w Tryd.prog 3 RV, fun i => ⟨rfl, fun L h => by cases h⟩⟩
theorem MapI.below {w w' : World} {b n : Nat} {F : Part} (h : MapI w b n F) (hb : Below w.heap.size w w') : MapI w' b n F := by
  obtain ⟨D, h, hF⟩ := h
  refine ⟨D, h.kept (row := none) (below_gn hb _) (by simp), fun i => ⟨(hF i).1, fun L hL => ?_⟩⟩
  obtain ⟨a, c, h1, h2⟩ := (hF i).2 L hL
  exact ⟨a, c, h1, h2.below hb⟩
/-- another map is written -/
theorem MapI.beside {w w' : World} {b n b2 n2 : Nat} {F : Part} {D2 : DataW Value} (h : MapI w b n F) (h2 : OwnV w b2 n2 D2) (hne : b ≠ b2) (hg : w.grownBy w' (some b2)) : MapI w' b n F := by
  obtain ⟨D, h, hF⟩ := h
  refine ⟨D, h.kept hg (fun e => hne (by injection e)), fun i => ⟨(hF i).1, fun L hL => ?_⟩⟩
  obtain ⟨a, c, h3, h4⟩ := (hF i).2 L hL
  exact ⟨a, c, h3, h4.own h2 hg⟩
theorem MapI.put {w w' : World} {b n : Nat} {F : Part} {D : DataW Value} (hD : OwnV w b n D) (hF : ∀ i : Nat, Maps.has D (keyN i) = (F i).isSome ∧ ∀ L, F i = some L → ∃ a c, D.atKey (keyN i) (.held (.slice none 0 0)) = .held (.slice a L.length c) ∧ IntsU b w a L)
    (k : Nat) (L : List Int) (a : Option Addr) (c : Nat) (hL : IntsU b w a L) (h' : OwnV w' b (n + 1) (D.put (keyN k) (.held (.slice a L.length c)))) (hg : w.grownBy w' (some b)) : MapI w' b (n + 1) (updF F k L) := by
  refine ⟨_, h', fun i => ?_⟩
  by_cases e : i = k
  · subst e
    refine ⟨?_, fun L' hL' => ?_⟩
    · rw [updF_same, Maps.has_put_same (World.ownsMap.isMap hD) (show WideAt.IsKeyLit (keyN i) from trivial)]; rfl
    · rw [updF_same] at hL'
      injection hL' with hL'
      subst hL'
      exact ⟨a, c, Maps.atKey_put_same (World.ownsMap.isMap hD) (show WideAt.IsKeyLit (keyN i) from trivial) _ _, hL.own hD hg⟩
  · refine ⟨?_, fun L' hL' => ?_⟩
    · rw [updF_other F L e, Maps.has_put_other (keyN_ne e)]; exact (hF i).1
    · rw [updF_other F L e] at hL'
      obtain ⟨a2, c2, h1, h2⟩ := (hF i).2 L' hL'
      exact ⟨a2, c2, by rw [Maps.atKey_put_other (keyN_ne e)]; exact h1, h2.own hD hg⟩
def MapO (w : World) (base b n : Nat) (G : Nat → Option Part) : Prop := ∃ (D : DataW Value) (B : Nat → Nat), OwnV w b n D ∧ ∀ i : Nat, Maps.has D (keyN i) = (G i).isSome ∧ (G i = none → D.atKey (keyN i) (.held (.map none)) = .held (.map none)) ∧ ∀ F, G i = some F → D.atKey (keyN i) (.held (.map none)) = .held (.map (some (B i))) ∧ base ≤ B i ∧ B i ≠ b ∧ (∃ m, MapI w (B i) m F) ∧ ∀ j, (G j).isSome = true → B j = B i → j = i
theorem MapO.lt {w : World} {base b n : Nat} {G : Nat → Option Part} (h : MapO w base b n G) : b < w.heap.size := by
  obtain ⟨D, B, h, _⟩ := h
  exact World.ownsMap.lt h
theorem MapO.new (w : World) (base : Nat) : MapO (w.alloc (.map #[] 0)) base w.heap.size 0 (fun _ => none) := ⟨_, fun _ => 0, World.ownsMap_made w Tryd.prog 3 RV, fun i => ⟨rfl, fun _ => rfl, fun L h => by cases h⟩⟩
theorem MapO.below {w w' : World} {base b n : Nat} {G : Nat → Option Part} (h : MapO w base b n G) (hb : Below w.heap.size w w') : MapO w' base b n G := by
  obtain ⟨D, B, h, hG⟩ := h
  refine ⟨D, B, h.kept (row := none) (below_gn hb _) (by simp), fun i => ⟨(hG i).1, (hG i).2.1, fun F hF => ?_⟩⟩
  obtain ⟨h1, h0, h2, ⟨m, h3⟩, h4⟩ := (hG i).2.2 F hF
  exact ⟨h1, h0, h2, ⟨m, h3.below hb⟩, h4⟩
theorem MapO.put {w w' : World} {base b n : Nat} {G : Nat → Option Part} {D : DataW Value} {B : Nat → Nat} (hD : OwnV w b n D) (hG : ∀ i : Nat, Maps.has D (keyN i) = (G i).isSome ∧ (G i = none → D.atKey (keyN i) (.held (.map none)) = .held (.map none)) ∧ ∀ F, G i = some F → D.atKey (keyN i) (.held (.map none)) = .held (.map (some (B i))) ∧ base ≤ B i ∧ B i ≠ b ∧ (∃ m, MapI w (B i) m F) ∧ ∀ j, (G j).isSome = true → B j = B i → j = i)
    (k : Nat) (F : Part) (bi m : Nat) (hF : MapI w bi m F) (hbb : base ≤ bi) (hbi : bi ≠ b) (hfr : ∀ j F', G j = some F' → B j ≠ bi) (h' : OwnV w' b (n + 1) (D.put (keyN k) (.held (.map (some bi))))) (hg : w.grownBy w' (some b)) : MapO w' base b (n + 1) (updF G k F) := by
  refine ⟨_, fun i => if i = k then bi else B i, h', fun i => ?_⟩
  by_cases e : i = k
  · subst e
    refine ⟨?_, ?_, fun F' hF' => ?_⟩
    · rw [updF_same, Maps.has_put_same (World.ownsMap.isMap hD) (show WideAt.IsKeyLit (keyN i) from trivial)]; rfl
    · rw [updF_same]; intro h; cases h
    · rw [updF_same] at hF'
      injection hF' with hF'
      subst hF'
      simp only [if_pos]
      refine ⟨Maps.atKey_put_same (World.ownsMap.isMap hD) (show WideAt.IsKeyLit (keyN i) from trivial) _ _, hbb, hbi, ⟨m, hF.beside hD hbi hg⟩, fun j hj hB => ?_⟩
      by_cases ej : j = i
      · exact ej
      · rw [updF_other G F ej] at hj
        rw [if_neg ej] at hB
        obtain ⟨F2, hF2⟩ := Option.isSome_iff_exists.1 hj
        exact absurd hB (hfr j F2 hF2)
  · refine ⟨?_, ?_, fun F' hF' => ?_⟩
    · rw [updF_other G F e, Maps.has_put_other (keyN_ne e)]; exact (hG i).1
    · rw [updF_other G F e, Maps.atKey_put_other (keyN_ne e)]; exact (hG i).2.1
    · rw [updF_other G F e] at hF'
      obtain ⟨h1, h0, h2, ⟨m2, h3⟩, h4⟩ := (hG i).2.2 F' hF'
      simp only [if_neg e]
      refine ⟨by rw [Maps.atKey_put_other (keyN_ne e)]; exact h1, h0, h2, ⟨m2, h3.beside hD h2 hg⟩, fun j hj hB => ?_⟩
      by_cases ej : j = k
      · subst ej
        rw [if_pos rfl] at hB
        exact absurd hB.symm (hfr i F' hF')
      · rw [updF_other G F ej] at hj
        rw [if_neg ej] at hB
        exact h4 j hj hB
end Go.Proofs.YtijeninfmjhbnaaDoor
end
/- kind.Find, kind.Field; kind.One. -/
section
namespace Go.Proofs.YtijeninfmjhbnaaDoor
open Go.ChangeShapes Go.WideShapes Go.ChangeAt Go.RowKit Go.Nm Go.Mem
set_option linter.unusedVariables false
/-- the first place of a name, or -1 -/
def firstAt (names : List ByteArray) (s : ByteArray) (k : Nat) : Int := match names with
  | [] => -1
  | a :: r => if a.toList == s.toList then (k : Int) else firstAt r s (k + 1)
theorem firstAt_none (names : List ByteArray) (s : ByteArray) (k : Nat) (h : ∀ j (hj : j < names.length), (names[j].toList == s.toList) = false) : firstAt names s k = -1 := by
  induction names generalizing k with
  | nil => rfl
  | cons a r ih =>
    have h0 := h 0 (by simp)
    simp only [List.getElem_cons_zero] at h0
    unfold firstAt
    rw [h0]
    exact ih (k + 1) fun j hj => by have := h (j + 1) (by simp; omega); simpa using this
theorem firstAt_some (names : List ByteArray) (s : ByteArray) (k i : Nat) (hi : i < names.length) (h : ∀ j (hj : j < names.length), j < i → (names[j].toList == s.toList) = false) (h1 : (names[i].toList == s.toList) = true) : firstAt names s k = ((k + i : Nat) : Int) := by
  induction names generalizing k i with
  | nil => exact absurd hi (by simp)
  | cons a r ih =>
    unfold firstAt
    rcases i with _ | i
    · simp only [List.getElem_cons_zero] at h1
      rw [h1]; rfl
    · have h0 := h 0 (by simp) (by omega)
      simp only [List.getElem_cons_zero] at h0
      rw [h0]
      have := ih (k + 1) i (by simpa using hi) (fun j hj hji => by have := h (j + 1) (by simp; omega) (by omega); simpa using this) (by simpa using h1)
      rw [show (k + (i + 1)) = k + 1 + i by omega]
      exact this
set_option maxHeartbeats 4000000 in
theorem kind_Find (l : List KindV) (a : Option Addr) (n cap : Nat) (s : ByteArray) (hn : l.length = n) (h1 : n ≤ 17592186044000) (W : World) (hz : SlAt 2 KindAt W a l) :
    Calls Tryd.prog 39 #[.slice a n cap, .string s] W fun e w' => e = .returned (.int .i64 (firstAt (l.map (·.name)) s 0)) ∧ Below W.heap.size W w' := by
  obtain ⟨R, hR⟩ : ∃ R, R = firstAt (l.map (·.name)) s 0 := ⟨_, rfl⟩
  rw [← hR]
  have HR := Lib.hid hR
  have HN := Lib.hid hn
  have HZ := Lib.hid hz
  clear hR hn hz
  go_enter Tryd.func39, Tryd.ntmps39
  go_wp2_with fail
  go_loopg [5, 6, 9] n (fun gk v5 v6 vi wx => ∃ i : Nat, i ≤ n ∧ gk = n - i ∧ vi = .int .i64 i ∧ (∀ j (h : j < l.length), j < i → (l[j].name.toList == s.toList) = false) ∧ Below W.heap.size W wx)
  case atStart => exact ⟨0, Nat.zero_le _, rfl, rfl, fun j h h2 => absurd h2 (by omega), Below.refl _ _⟩
  case round =>
    obtain ⟨i, hi, g2, rfl, hat, hb⟩ := hrel
    have G2 := Lib.hid g2
    have HAT := Lib.hid hat
    have HB := Lib.hid hb
    have hbs := hb.size
    clear g2 hat hb
    by_cases hlt : i < n
    · obtain ⟨x, rfl, hx, hix⟩ := (HZ.out.below KindAt.abides HB.out) (by rw [HN.out]; omega)
      obtain ⟨k0, k1, ay, cy, k2, k3, k4, _⟩ := hix i (by rw [HN.out]; exact hlt)
      obtain ⟨y, hy⟩ : ∃ y, y = l[i]'(by rw [HN.out]; exact hlt) := ⟨_, rfl⟩
      rw [← hy] at k0 k1 k2 k3
      have HY := Lib.hid hy
      have HB2 := Lib.hid (HB.out.alloc hbs (.cells #[.string y.name, .slice ay y.fields.length cy] 43))
      clear hix hy
      by_cases he : (y.name.toList == s.toList) = true
      · have HF := Lib.hid (show R = (i : Int) by
          rw [HR.out]
          have := firstAt_some (l.map (·.name)) s 0 i (by rw [List.length_map, HN.out]; exact hlt) (fun j hj hji => by simpa using HAT.out j (by simpa using hj) hji) (by rw [List.getElem_map, ← HY.out]; exact he)
          rw [this]; simp)
        go_wp2_with fail
        go_ret
        exact ⟨by rw [HF.out]; rfl, HB2.out⟩
      · have he2 : (y.name.toList == s.toList) = false := by simpa using he
        have HE := Lib.hid he2
        clear he
        go_wp2_with fail
        go_roundg (n - (i + 1))
        case measure => rw [G2.out]; omega
        case rel => exact ⟨i + 1, hlt, rfl, by go_num, fun j h hj => by
          by_cases hji : j < i
          · exact HAT.out j h hji
          · obtain rfl : j = i := by omega
            rw [← HY.out]; exact HE.out, HB2.out⟩
    · have HF := Lib.hid (show R = -1 by
        rw [HR.out]
        exact firstAt_none _ _ _ fun j hj => by simpa using HAT.out j (by simpa using hj) (by have h2 : j < l.length := (by simpa using hj); rw [HN.out] at h2; omega))
      go_wp2_with fail
      go_ret
      exact ⟨by rw [HF.out]; rfl, HB.out⟩
set_option maxHeartbeats 4000000 in
theorem kind_Field (l : List FieldV) (a : Option Addr) (n cap : Nat) (s nm : ByteArray) (hn : l.length = n) (h1 : n ≤ 17592186044000) (W : World) (hz : SlAt 3 FieldAt W a l) :
    Calls Tryd.prog 79 #[.agg #[.string nm, .slice a n cap], .string s] W fun e w' => e = .returned (.int .i64 (firstAt (l.map (·.name)) s 0)) ∧ Below W.heap.size W w' := by
  obtain ⟨R, hR⟩ : ∃ R, R = firstAt (l.map (·.name)) s 0 := ⟨_, rfl⟩
  rw [← hR]
  have HR := Lib.hid hR
  have HN := Lib.hid hn
  have HZ := Lib.hid hz
  clear hR hn hz
  go_enter Tryd.func79, Tryd.ntmps79
  go_wp2_with fail
  go_loopg [5, 6, 10] n (fun gk v5 v6 vi wx => ∃ i : Nat, i ≤ n ∧ gk = n - i ∧ vi = .int .i64 i ∧ (∀ j (h : j < l.length), j < i → (l[j].name.toList == s.toList) = false) ∧ Below W.heap.size W wx)
  case atStart => exact ⟨0, Nat.zero_le _, rfl, rfl, fun j h h2 => absurd h2 (by omega), (Below.refl _ _).alloc (Nat.le_refl _) _⟩
  case round =>
    obtain ⟨i, hi, g2, rfl, hat, hb⟩ := hrel
    have G2 := Lib.hid g2
    have HAT := Lib.hid hat
    have HB := Lib.hid hb
    have hbs := hb.size
    clear g2 hat hb
    by_cases hlt : i < n
    · obtain ⟨x, rfl, hx, hix⟩ := (HZ.out.below FieldAt.abides HB.out) (by rw [HN.out]; omega)
      obtain ⟨k0, k1, k2, k3⟩ := hix i (by rw [HN.out]; exact hlt)
      obtain ⟨y, hy⟩ : ∃ y, y = l[i]'(by rw [HN.out]; exact hlt) := ⟨_, rfl⟩
      rw [← hy] at k0 k1 k2 k3
      have HY := Lib.hid hy
      have HB2 := Lib.hid (HB.out.alloc hbs (.cells #[.string y.name, .int .i64 y.bits, .int .i64 y.low] 40))
      clear hix hy
      by_cases he : (y.name.toList == s.toList) = true
      · have HF := Lib.hid (show R = (i : Int) by
          rw [HR.out]
          have := firstAt_some (l.map (·.name)) s 0 i (by rw [List.length_map, HN.out]; exact hlt) (fun j hj hji => by simpa using HAT.out j (by simpa using hj) hji) (by rw [List.getElem_map, ← HY.out]; exact he)
          rw [this]; simp)
        go_wp2_with fail
        go_ret
        exact ⟨by rw [HF.out]; rfl, HB2.out⟩
      · have he2 : (y.name.toList == s.toList) = false := by simpa using he
        have HE := Lib.hid he2
        clear he
        go_wp2_with fail
        go_roundg (n - (i + 1))
        case measure => rw [G2.out]; omega
        case rel => exact ⟨i + 1, hlt, rfl, by go_num, fun j h hj => by
          by_cases hji : j < i
          · exact HAT.out j h hji
          · obtain rfl : j = i := by omega
            rw [← HY.out]; exact HE.out, HB2.out⟩
    · have HF := Lib.hid (show R = -1 by
        rw [HR.out]
        exact firstAt_none _ _ _ fun j hj => by simpa using HAT.out j (by simpa using hj) (by have h2 : j < l.length := (by simpa using hj); rw [HN.out] at h2; omega))
      go_wp2_with fail
      go_ret
      exact ⟨by rw [HF.out]; rfl, HB.out⟩
theorem dup_none {names : List ByteArray} {i : Nat} (hi : i < names.length) (h : ∀ j (hj : j < i), (names[j].toList == names[i].toList) = false) : dupAt names i = false := by
  unfold dupAt
  rw [Bool.eq_false_iff]
  intro ha
  obtain ⟨s, hs, he⟩ := List.any_eq_true.1 ha
  obtain ⟨j, hj, rfl⟩ := List.mem_iff_getElem.1 hs
  rw [List.length_take] at hj
  rw [List.getElem_take, List.getD_eq_getElem?_getD, List.getElem?_eq_getElem hi] at he
  have := h j (by omega)
  simp only [Option.getD_some] at he
  rw [this] at he
  exact absurd he (by decide)
theorem dup_some {names : List ByteArray} {i j : Nat} (hi : i < names.length) (hj : j < i) (h : (names[j].toList == names[i].toList) = true) : dupAt names i = true := by
  unfold dupAt
  rw [List.any_eq_true]
  refine ⟨names[j], ?_, ?_⟩
  · rw [List.mem_iff_getElem]
    exact ⟨j, by rw [List.length_take]; omega, by rw [List.getElem_take]⟩
  · rw [List.getD_eq_getElem?_getD, List.getElem?_eq_getElem hi]; exact h
theorem getD_at {α : Type} [Inhabited α] (l : List α) (i : Nat) (h : i < l.length) : l.getD i default = l[i] := by
  rw [List.getD_eq_getElem?_getD, List.getElem?_eq_getElem h]; rfl
theorem fld_step (l : List FieldV) (k : Nat) (h0 : fldErr l k = 0) : fldErr l (k + 1) = if okF (l.getD k default) = false then 3 else if dupAt (l.map (·.name)) k = true then 5 else 0 := by
  show (if fldErr l k ≠ 0 then _ else _) = _
  rw [if_neg (by rw [h0]; simp)]
set_option maxHeartbeats 8000000 in
theorem kind_One (k : KindV) (a : Option Addr) (n cap : Nat) (hn : k.fields.length = n) (hnm : k.name.size ≤ 9223372036854775807) (hnc : n ≤ cap) (hcm : cap ≤ 9223372036854775807) (W : World) (hz : SlAt 3 FieldAt W a k.fields) :
    Calls Tryd.prog 38 #[.agg #[.string k.name, .slice a n cap]] W fun e w' => e = .returned (.int .i64 (kindE k)) ∧ Below W.heap.size W w' := by
  obtain ⟨nm, l⟩ := k
  simp only at hn hnm hz ⊢
  obtain ⟨R, hR⟩ : ∃ R, R = kindE ⟨nm, l⟩ := ⟨_, rfl⟩
  rw [← hR]
  have HR := Lib.hid hR
  have HN := Lib.hid hn
  have HZ := Lib.hid hz
  have HNM := Lib.hid (kind_Name nm hnm)
  have hb0 := (Below.refl W.heap.size W).alloc (Nat.le_refl _) (.cells #[.string nm, .slice a n cap] 43)
  have x0 := heap_alloc_new W (.cells #[.string nm, .slice a n cap] 43)
  have HB0 := Lib.hid hb0
  have HX0 := Lib.hid x0
  clear hR hn hz hnm hb0 x0
  cases hnb : nameB nm.data.toList
  · have HF := Lib.hid (show R = 3 by rw [HR.out]; unfold kindE; rw [if_pos hnb])
    rw [hnb] at HNM
    clear hnb
    go_enter Tryd.func38, Tryd.ntmps38
    go_wp2_with fail
    refine (HNM.out _).mono ?_
    rintro e w1 ⟨rfl, rfl⟩
    go_wp2_with fail
    go_ret
    exact ⟨by rw [HF.out]; rfl, HB0.out⟩
  · rw [hnb] at HNM
    by_cases h8 : 8 < n
    · have HF := Lib.hid (show R = 2 by rw [HR.out]; unfold kindE; rw [if_neg (by rw [hnb]; decide), if_pos (by rw [HN.out]; exact h8)])
      clear hnb
      go_enter Tryd.func38, Tryd.ntmps38
      go_wp2_with fail
      refine (HNM.out _).mono ?_
      rintro e w1 ⟨rfl, rfl⟩
      go_wp2_with fail
      go_ret
      exact ⟨by rw [HF.out]; rfl, HB0.out⟩
    · have HF := Lib.hid (show R = fldErr l n by rw [HR.out]; unfold kindE; rw [if_neg (by rw [hnb]; decide), if_neg (by rw [HN.out]; exact h8)]; rw [HN.out])
      have h8' : n ≤ 8 := by omega
      clear hnb h8
      go_enter Tryd.func38, Tryd.ntmps38
      go_wp2_with fail
      refine (HNM.out _).mono ?_
      rintro e w1 ⟨rfl, rfl⟩
      go_wp2_with fail
      go_loopg [3, 4, 5, 19] n (fun gk v3 v4 v5 vi wx => ∃ i : Nat, i ≤ n ∧ gk = n - i ∧ vi = .int .i64 i ∧ fldErr l i = 0 ∧ wx.heap[W.heap.size]? = some (.cells #[.string nm, .slice a n cap] 43 (0, 0)) ∧ Below W.heap.size W wx)
      case atStart => exact ⟨0, Nat.zero_le _, rfl, rfl, rfl, HX0.out, HB0.out⟩
      case round =>
        obtain ⟨i, hi, g2, rfl, hfe, hx0, hb⟩ := hrel
        have G2 := Lib.hid g2
        have HFE := Lib.hid hfe
        have HX := Lib.hid hx0
        have HB := Lib.hid hb
        have hbs := hb.size
        clear g2 hfe hx0 hb
        obtain ⟨Wo, rfl⟩ : ∃ Wo : World, Wo = wr := ⟨_, rfl⟩
        by_cases hlt : i < n
        · obtain ⟨x, rfl, hx, hix⟩ := (HZ.out.below FieldAt.abides HB.out) (by rw [HN.out]; omega)
          obtain ⟨k0, k1, k2, k3⟩ := hix i (by rw [HN.out]; exact hlt)
          obtain ⟨y, hy⟩ : ∃ y, y = l[i]'(by rw [HN.out]; exact hlt) := ⟨_, rfl⟩
          rw [← hy] at k0 k1 k2 k3
          have hb2 := (Below.refl Wo.heap.size Wo).alloc (Nat.le_refl _) (.cells #[.string y.name, .int .i64 y.bits, .int .i64 y.low] 40)
          have HC := Lib.hid (kind_field y.name y.bits y.low k3 (Wo.alloc (.cells #[.string y.name, .int .i64 y.bits, .int .i64 y.low] 40)))
          have HY := Lib.hid hy
          have HB2 := Lib.hid hb2
          clear hix hy hb2
          have hst := fld_step l i HFE.out
          rw [getD_at l i (by rw [HN.out]; exact hlt), ← HY.out] at hst
          unfold okF at hst
          by_cases hok : fieldB y.name y.bits y.low = true
          · rw [hok] at HC hst
            rw [if_neg (by decide)] at hst
            have HST := Lib.hid hst
            have HC2 : Hid (Calls Tryd.prog 65 #[.agg #[.string y.name, .int .i64 y.bits, .int .i64 y.low]] (Wo.alloc (.cells #[.string y.name, .int .i64 y.bits, .int .i64 y.low] 40)) fun e w' => e = .returned (.int .i64 0) ∧ Below (Wo.alloc (.cells #[.string y.name, .int .i64 y.bits, .int .i64 y.low] 40)).heap.size (Wo.alloc (.cells #[.string y.name, .int .i64 y.bits, .int .i64 y.low] 40)) w') := Lib.hid HC.out
            clear hst hok HC k3
            go_wp2_with fail
            refine HC2.out.mono ?_
            rintro e w2 ⟨rfl, hb3⟩
            have hyb := heap_below (heap_alloc_new Wo (.cells #[.string y.name, .int .i64 y.bits, .int .i64 y.low] 40)) hb3
            have hxb := heap_below HX.out (HB2.out.trans (hb3.mono (by simp)))
            have hBW := HB.out.trans ((HB2.out.trans (hb3.mono (by simp))).mono hbs)
            have d1 : w2.cell? ⟨W.heap.size, 1, none⟩ = some (.slice (some x) n cap) := by rw [cell_of_row _ _ 1 _ _ _ hxb]; rfl
            have HYB := Lib.hid hyb
            have HXB := Lib.hid hxb
            have HBW := Lib.hid hBW
            have hic : i ≤ cap := by omega
            clear hb3 hyb hxb hBW HC2 HX k0 k1 k2
            go_wp2_with fail
            clear d1
            go_loopg [7, 34] i (fun gk v7 vi wx => ∃ j : Nat, j ≤ i ∧ gk = i - j ∧ vi = .int .i64 j ∧ (∀ q (h : q < l.length), q < j → (l[q].name.toList == y.name.toList) = false) ∧ wx.heap[Wo.heap.size]? = some (.cells #[.string y.name, .int .i64 y.bits, .int .i64 y.low] 40 (0, 0)) ∧ wx.heap[W.heap.size]? = some (.cells #[.string nm, .slice (some x) n cap] 43 (0, 0)) ∧ Below W.heap.size W wx)
            case atStart => exact ⟨0, Nat.zero_le _, rfl, rfl, fun q h h2 => absurd h2 (by omega), HYB.out, HXB.out, HBW.out⟩
            case round =>
              obtain ⟨j, hj, g4, rfl, hat, hyb, hxb, hb⟩ := hrel
              have G4 := Lib.hid g4
              have HAT := Lib.hid hat
              have HYB2 := Lib.hid hyb
              have HXB2 := Lib.hid hxb
              have HB5 := Lib.hid hb
              have hbs5 := hb.size
              clear g4 hat hyb hxb hb
              by_cases hji : j < i
              · obtain ⟨z, hz, hzx, hiz⟩ := (HZ.out.below FieldAt.abides HB5.out) (by rw [HN.out]; omega)
                injection hz with hz
                subst hz
                obtain ⟨m0, m1, m2, m3⟩ := hiz j (by rw [HN.out]; omega)
                obtain ⟨o, ho⟩ : ∃ o, o = l[j]'(by rw [HN.out]; omega) := ⟨_, rfl⟩
                rw [← ho] at m0 m1 m2
                have HO := Lib.hid ho
                have n0 : wr.cell? ⟨Wo.heap.size, 0, none⟩ = some (.string y.name) := by rw [cell_of_row _ _ 0 _ _ _ HYB2.out]; rfl
                have hlt2 : Wo.heap.size < wr.heap.size := lt_of_heap HYB2.out
                have HK1 := Lib.hid (heap_keep HYB2.out (.cells #[.string o.name, .int .i64 o.bits, .int .i64 o.low] 40))
                have HK2 := Lib.hid (heap_keep HXB2.out (.cells #[.string o.name, .int .i64 o.bits, .int .i64 o.low] 40))
                have HB6 := Lib.hid (HB5.out.alloc hbs5 (.cells #[.string o.name, .int .i64 o.bits, .int .i64 o.low] 40))
                clear hiz ho m3
                by_cases he : (o.name.toList == y.name.toList) = true
                · have hR5 : R = 5 := by
                    have hd := dup_some (names := l.map (·.name)) (i := i) (j := j) (by rw [List.length_map, HN.out]; exact hlt) hji (by rw [List.getElem_map, List.getElem_map, ← HO.out, ← HY.out]; exact he)
                    have hs := HST.out
                    rw [if_pos hd] at hs
                    rw [HF.out, fldErr_stays l (i + 1) n hlt (by rw [hs]; decide), hs]
                  have HR5 := Lib.hid hR5
                  clear hR5
                  go_wp2_with fail
                  go_ret
                  exact ⟨by rw [HR5.out]; rfl, HB6.out⟩
                · have he2 : (o.name.toList == y.name.toList) = false := by simpa using he
                  have HE := Lib.hid he2
                  clear he
                  go_wp2_with fail
                  go_roundg (i - (j + 1))
                  case measure => rw [G4.out]; omega
                  case rel => exact ⟨j + 1, hji, rfl, by go_num, fun q h hq => by
                    by_cases hqj : q < j
                    · exact HAT.out q h hqj
                    · obtain rfl : q = j := by omega
                      rw [← HO.out]; exact HE.out, HK1.out, HK2.out, HB6.out⟩
              · have hje : j = i := by omega
                have hf2 : fldErr l (i + 1) = 0 := by
                  have hd := dup_none (names := l.map (·.name)) (i := i) (by rw [List.length_map, HN.out]; exact hlt) (fun q hq => by rw [List.getElem_map, List.getElem_map, ← HY.out]; exact HAT.out q (by rw [HN.out]; omega) (by omega))
                  have hs := HST.out
                  rw [if_neg (by rw [hd]; decide)] at hs
                  exact hs
                have HF2 := Lib.hid hf2
                clear hf2 hje
                go_wp2_with fail
                go_roundg (n - (i + 1))
                case measure => rw [G2.out]; omega
                case rel => exact ⟨i + 1, hlt, rfl, by go_num, HF2.out, HXB2.out, HB5.out⟩
          · have hok2 : fieldB y.name y.bits y.low = false := by simpa using hok
            rw [hok2] at HC hst
            rw [if_pos rfl] at hst
            have HST := Lib.hid hst
            have HC2 : Hid (Calls Tryd.prog 65 #[.agg #[.string y.name, .int .i64 y.bits, .int .i64 y.low]] (Wo.alloc (.cells #[.string y.name, .int .i64 y.bits, .int .i64 y.low] 40)) fun e w' => e = .returned (.int .i64 3) ∧ Below (Wo.alloc (.cells #[.string y.name, .int .i64 y.bits, .int .i64 y.low] 40)).heap.size (Wo.alloc (.cells #[.string y.name, .int .i64 y.bits, .int .i64 y.low] 40)) w') := Lib.hid HC.out
            clear hst hok hok2 HC k3
            go_wp2_with fail
            refine HC2.out.mono ?_
            rintro e w2 ⟨rfl, hb3⟩
            have HB3 := Lib.hid (HB2.out.trans (hb3.mono (by simp)))
            clear hb3
            go_wp2_with fail
            go_ret
            refine ⟨?_, HB.out.trans (HB3.out.mono hbs)⟩
            rw [HF.out, fldErr_stays l (i + 1) n hlt (by rw [HST.out]; decide), HST.out]; rfl
        · have hie : i = n := by omega
          have HF0 := Lib.hid (show R = 0 by rw [HF.out, ← hie]; exact HFE.out)
          clear hie
          go_wp2_with fail
          go_ret
          exact ⟨by rw [HF0.out]; rfl, HB.out⟩
end Go.Proofs.YtijeninfmjhbnaaDoor
end
