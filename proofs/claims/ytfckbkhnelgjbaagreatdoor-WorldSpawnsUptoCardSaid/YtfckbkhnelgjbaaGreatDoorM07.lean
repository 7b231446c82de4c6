/- Lemmas for the law WorldSpawns: MapsW, CloneI, Listed, KindCells, FClone. No conditions. -/
import Derived.Test.YtfckbkhnelgjbaaGreatDoorM06
import Derived.Deep.DeepMust
import Derived.OwnWalk
import Derived.WideKeyArgs2
import Derived.Maps.OwnSet
import Derived.Maps.OwnOps
import Derived.Maps.Views
import Derived.Carry
import Derived.Test.YtfckbkhnelgjbaaGreatDoorM01
import Derived.Test.YtfckbkhnelgjbaaGreatDoorRows
import Derived.WalkSpells
import Derived.Lib.LazyBuf
import Derived.Great.BuildSlice
import Derived.Test.YtfckbkhnelgjbaaGreatDoorM03
import Derived.Test.YtfckbkhnelgjbaaGreatDoorM02
/- Maps of the call's own, told as functions of natural keys: map[int][]int (MapI), map[int]map[int][]int (MapO). -/
section
namespace Go.Proofs.YtfckbkhnelgjbaaGreatDoor
open Go.ChangeShapes Go.WideShapes Go.ChangeAt Go.RowKit Go.Nm Go.Mem Go.Maps
set_option linter.unusedVariables false
theorem keyInt : Keyed Tryz.prog 3 := int_keyed Tryz.underlying3
theorem zeroRow (w : World) : (zeroValue 23).run Tryz.prog w = .ok (.slice none 0 0) w := by kernel_rfl
theorem zeroMap (w : World) : (zeroValue 37).run Tryz.prog w = .ok (.map none) w := by kernel_rfl
abbrev RV (v : Value) : Option (DataW Value × List MemPlace) := some (.held v, [])
abbrev OwnV (w : World) (M n : Nat) (D : DataW Value) : Prop := w.ownsMap Tryz.prog 3 RV M n D
abbrev keyN (i : Nat) : Lit := .int .i64 (i : Int)
theorem keyN_ne {i j : Nat} (h : i ≠ j) : keyN i ≠ keyN j := by
  intro e
  injection e with _ e
  omega
theorem keyN_of {i : Nat} (h : i ≤ 9223372036854775807) : keyOf Tryz.prog 3 (.int .i64 (i : Int)) = some (keyN i) := keyOf_int_mk Tryz.underlying3 (by simp [Lit.wf, IntKind.min, IntKind.max, IntKind.bits, IntKind.signed]; omega)
theorem below_gn {w w' : World} (h : Below w.heap.size w w') (row : Option Nat) : w.grownBy w' row := ⟨h.os, h.tape, h.output, h.size, fun k hk _ => h.block k hk⟩
theorem own_block {w : World} {b n : Nat} {D : DataW Value} (h : OwnV w b n D) : ∃ es c, w.heap[b]? = some (.map es c) := by
  obtain ⟨es, c, h, _⟩ := h
  exact ⟨es, c, h⟩
theorem own_nocell {w : World} {b n : Nat} {D : DataW Value} (h : OwnV w b n D) (q : Nat) (s) : w.cell? ⟨b, q, s⟩ = none := by
  obtain ⟨es, c, h⟩ := own_block h
  simp [World.cell?, h]
theorem ints_own {w w' : World} {a : Option Addr} {L : List Int} {b n : Nat} {D : DataW Value} (h : IntsAt .i64 w a L) (hm : OwnV w b n D) (hg : w.grownBy w' (some b)) : IntsAt .i64 w' a L := by
  intro hn
  obtain ⟨x, rfl, hx, hc⟩ := h hn
  have hne : x.block ≠ b := by
    intro e
    have h0 := hc 0 hn
    obtain ⟨xb, xo, xs⟩ := x
    simp only at e
    subst e
    unfold Addr.add at h0
    split at h0
    · rw [own_nocell hm] at h0
      cases h0
    · rw [own_nocell hm] at h0
      cases h0
  refine ⟨x, rfl, Nat.lt_of_lt_of_le hx hg.size, fun i hi => ?_⟩
  rw [World.cell?_of_block (w := w) (hg.block _ (by rw [block_of_add]; exact hx) (fun e => hne (by rw [block_of_add] at e; injection e)))]
  exact hc i hi
abbrev Part := Nat → Option (List Int)
def updF {α : Type} (F : Nat → Option α) (k : Nat) (v : α) : Nat → Option α := fun i => if i = k then some v else F i
theorem updF_same {α : Type} (F : Nat → Option α) (k : Nat) (v : α) : updF F k v k = some v := if_pos rfl
theorem updF_other {α : Type} (F : Nat → Option α) {k i : Nat} (v : α) (h : i ≠ k) : updF F k v i = F i := if_neg h
/-- ints that lie in the blocks from lo on -/
structure IntsU (lo : Nat) (w : World) (a : Option Addr) (L : List Int) : Prop where
  ints : IntsAt .i64 w a L
  lo : ∀ x, a = some x → lo ≤ x.block
theorem IntsU.below {lo : Nat} {w w' : World} {a : Option Addr} {L : List Int} (h : IntsU lo w a L) (hb : Below w.heap.size w w') : IntsU lo w' a L := ⟨h.ints.below hb, h.lo⟩
theorem IntsU.own {lo : Nat} {w w' : World} {a : Option Addr} {L : List Int} {b n : Nat} {D : DataW Value} (h : IntsU lo w a L) (hm : OwnV w b n D) (hg : w.grownBy w' (some b)) : IntsU lo w' a L := ⟨ints_own h.ints hm hg, h.lo⟩
def MapI (w : World) (b n : Nat) (F : Part) : Prop := ∃ D, OwnV w b n D ∧ ∀ i : Nat, Maps.has D (keyN i) = (F i).isSome ∧ ∀ L, F i = some L → ∃ a c, D.atKey (keyN i) (.held (.slice none 0 0)) = .held (.slice a L.length c) ∧ IntsU b w a L
theorem MapI.lt {w : World} {b n : Nat} {F : Part} (h : MapI w b n F) : b < w.heap.size := by
  obtain ⟨D, h, _⟩ := h
  exact World.ownsMap.lt h
theorem MapI.new (w : World) : MapI (w.alloc (.map #[] 0)) w.heap.size 0 (fun _ => none) := ⟨_, World.ownsMap_made w Tryz.prog 3 RV, fun i => ⟨rfl, fun L h => by cases h⟩⟩
theorem MapI.below {w w' : World} {b n : Nat} {F : Part} (h : MapI w b n F) (hb : Below w.heap.size w w') : MapI w' b n F := by
  obtain ⟨D, h, hF⟩ := h
  refine ⟨D, h.kept (row := none) (below_gn hb _) (by simp), fun i => ⟨(hF i).1, fun L hL => ?_⟩⟩
  obtain ⟨a, c, h1, h2⟩ := (hF i).2 L hL
  exact ⟨a, c, h1, h2.below hb⟩
/-- another map is written -/
theorem MapI.beside {w w' : World} {b n b2 n2 : Nat} {F : Part} {D2 : DataW Value} (h : MapI w b n F) (h2 : OwnV w b2 n2 D2) (hne : b ≠ b2) (hg : w.grownBy w' (some b2)) : MapI w' b n F := by
  obtain ⟨D, h, hF⟩ := h
  refine ⟨D, h.kept hg (fun e => hne (by injection e)), fun i => ⟨(hF i).1, fun L hL => ?_⟩⟩
  obtain ⟨a, c, h3, h4⟩ := (hF i).2 L hL
  exact ⟨a, c, h3, h4.own h2 hg⟩
theorem MapI.put {w w' : World} {b n : Nat} {F : Part} {D : DataW Value} (hD : OwnV w b n D) (hF : ∀ i : Nat, Maps.has D (keyN i) = (F i).isSome ∧ ∀ L, F i = some L → ∃ a c, D.atKey (keyN i) (.held (.slice none 0 0)) = .held (.slice a L.length c) ∧ IntsU b w a L)
    (k : Nat) (L : List Int) (a : Option Addr) (c : Nat) (hL : IntsU b w a L) (h' : OwnV w' b (n + 1) (D.put (keyN k) (.held (.slice a L.length c)))) (hg : w.grownBy w' (some b)) : MapI w' b (n + 1) (updF F k L) := by
  refine ⟨_, h', fun i => ?_⟩
  by_cases e : i = k
  · subst e
    refine ⟨?_, fun L' hL' => ?_⟩
    · rw [updF_same, Maps.has_put_same (World.ownsMap.isMap hD) (show WideAt.IsKeyLit (keyN i) from trivial)]; rfl
    · rw [updF_same] at hL'
      injection hL' with hL'
      subst hL'
      exact ⟨a, c, Maps.atKey_put_same (World.ownsMap.isMap hD) (show WideAt.IsKeyLit (keyN i) from trivial) _ _, hL.own hD hg⟩
  · refine ⟨?_, fun L' hL' => ?_⟩
    · rw [updF_other F L e, Maps.has_put_other (keyN_ne e)]; exact (hF i).1
    · rw [updF_other F L e] at hL'
      obtain ⟨a2, c2, h1, h2⟩ := (hF i).2 L' hL'
      exact ⟨a2, c2, by rw [Maps.atKey_put_other (keyN_ne e)]; exact h1, h2.own hD hg⟩
def MapO (w : World) (base b n : Nat) (G : Nat → Option Part) : Prop := ∃ (D : DataW Value) (B : Nat → Nat), OwnV w b n D ∧ ∀ i : Nat, Maps.has D (keyN i) = (G i).isSome ∧ (G i = none → D.atKey (keyN i) (.held (.map none)) = .held (.map none)) ∧ ∀ F, G i = some F → D.atKey (keyN i) (.held (.map none)) = .held (.map (some (B i))) ∧ base ≤ B i ∧ B i ≠ b ∧ (∃ m, MapI w (B i) m F) ∧ ∀ j, (G j).isSome = true → B j = B i → j = i
theorem MapO.lt {w : World} {base b n : Nat} {G : Nat → Option Part} (h : MapO w base b n G) : b < w.heap.size := by
  obtain ⟨D, B, h, _⟩ := h
  exact World.ownsMap.lt h
theorem MapO.new (w : World) (base : Nat) : MapO (w.alloc (.map #[] 0)) base w.heap.size 0 (fun _ => none) := ⟨_, fun _ => 0, World.ownsMap_made w Tryz.prog 3 RV, fun i => ⟨rfl, fun _ => rfl, fun L h => by cases h⟩⟩
theorem MapO.below {w w' : World} {base b n : Nat} {G : Nat → Option Part} (h : MapO w base b n G) (hb : Below w.heap.size w w') : MapO w' base b n G := by
  obtain ⟨D, B, h, hG⟩ := h
  refine ⟨D, B, h.kept (row := none) (below_gn hb _) (by simp), fun i => ⟨(hG i).1, (hG i).2.1, fun F hF => ?_⟩⟩
  obtain ⟨h1, h0, h2, ⟨m, h3⟩, h4⟩ := (hG i).2.2 F hF
  exact ⟨h1, h0, h2, ⟨m, h3.below hb⟩, h4⟩
theorem MapO.put {w w' : World} {base b n : Nat} {G : Nat → Option Part} {D : DataW Value} {B : Nat → Nat} (hD : OwnV w b n D) (hG : ∀ i : Nat, Maps.has D (keyN i) = (G i).isSome ∧ (G i = none → D.atKey (keyN i) (.held (.map none)) = .held (.map none)) ∧ ∀ F, G i = some F → D.atKey (keyN i) (.held (.map none)) = .held (.map (some (B i))) ∧ base ≤ B i ∧ B i ≠ b ∧ (∃ m, MapI w (B i) m F) ∧ ∀ j, (G j).isSome = true → B j = B i → j = i)
    (k : Nat) (F : Part) (bi m : Nat) (hF : MapI w bi m F) (hbb : base ≤ bi) (hbi : bi ≠ b) (hfr : ∀ j F', G j = some F' → B j ≠ bi) (h' : OwnV w' b (n + 1) (D.put (keyN k) (.held (.map (some bi))))) (hg : w.grownBy w' (some b)) : MapO w' base b (n + 1) (updF G k F) := by
  refine ⟨_, fun i => if i = k then bi else B i, h', fun i => ?_⟩
  by_cases e : i = k
  · subst e
    refine ⟨?_, ?_, fun F' hF' => ?_⟩
    · rw [updF_same, Maps.has_put_same (World.ownsMap.isMap hD) (show WideAt.IsKeyLit (keyN i) from trivial)]; rfl
    · rw [updF_same]; intro h; cases h
    · rw [updF_same] at hF'
      injection hF' with hF'
      subst hF'
      simp only [if_pos]
      refine ⟨Maps.atKey_put_same (World.ownsMap.isMap hD) (show WideAt.IsKeyLit (keyN i) from trivial) _ _, hbb, hbi, ⟨m, hF.beside hD hbi hg⟩, fun j hj hB => ?_⟩
      by_cases ej : j = i
      · exact ej
      · rw [updF_other G F ej] at hj
        rw [if_neg ej] at hB
        obtain ⟨F2, hF2⟩ := Option.isSome_iff_exists.1 hj
        exact absurd hB (hfr j F2 hF2)
  · refine ⟨?_, ?_, fun F' hF' => ?_⟩
    · rw [updF_other G F e, Maps.has_put_other (keyN_ne e)]; exact (hG i).1
    · rw [updF_other G F e, Maps.atKey_put_other (keyN_ne e)]; exact (hG i).2.1
    · rw [updF_other G F e] at hF'
      obtain ⟨h1, h0, h2, ⟨m2, h3⟩, h4⟩ := (hG i).2.2 F' hF'
      simp only [if_neg e]
      refine ⟨by rw [Maps.atKey_put_other (keyN_ne e)]; exact h1, h0, h2, ⟨m2, h3.beside hD h2 hg⟩, fun j hj hB => ?_⟩
      by_cases ej : j = k
      · subst ej
        rw [if_pos rfl] at hB
        exact absurd hB.symm (hfr i F' hF')
      · rw [updF_other G F ej] at hj
        rw [if_neg ej] at hB
        exact h4 j hj hB
end Go.Proofs.YtfckbkhnelgjbaaGreatDoor
end
/- slices.Clone of ints. -/
section
namespace Go.Proofs.YtfckbkhnelgjbaaGreatDoor
open Go.ChangeShapes Go.WideShapes Go.ChangeAt Go.RowKit Go.Mem
set_option linter.unusedVariables false

/-- A slice of ints that the call owns. -/
def OwnPost (zs : List Int) (n : Nat) (w : World) (e : Ending) (w' : World) : Prop := ∃ v, e = .returned v ∧ w'.ownsRow w.heap.size 3 1 v n (vints .i64 zs) ∧ Below w.heap.size w w'

set_option maxHeartbeats 4000000 in
theorem clone_ints (l : List Int) (a : Option Addr) (n cap : Nat) (hn : l.length = n) (h1 : n ≤ 17592186044416) (w : World) (hin : IntsAt .i64 w a l) :
    Calls Tryz.prog 49 #[.slice a n cap] w (OwnPost l n w) := by
  rcases a with _ | x
  · have h0 : n = 0 := by
      rcases Nat.eq_zero_or_pos n with h | h
      · exact h
      · obtain ⟨x, h2, _⟩ := hin (by omega)
        cases h2
    subst h0
    have : l = [] := List.eq_nil_of_length_eq_zero hn
    subst this
    have hnil : w.ownsRow w.heap.size 3 1 (.slice none 0 0) 0 (vints .i64 []) := ⟨rfl, .inl ⟨rfl, rfl⟩⟩
    have HNIL := Lib.hid hnil
    clear hnil hin hn
    have hq := fun wx => Lib.run_eql_slice_nil (P := Tryz.prog) wx 23 3 none 0 cap 0 0 Tryz.underlying23
    simp only [Option.isNone] at hq
    go_enter Tryz.func49, Tryz.ntmps49
    go_wp2
    go_ret
    exact ⟨_, rfl, HNIL.out, Below.refl _ _⟩
  · have HN := Lib.hid hn
    have HI := Lib.hid hin
    clear hn hin
    have hq := fun wx => Lib.run_eql_slice_nil (P := Tryz.prog) wx 23 3 (some x) n cap 0 0 Tryz.underlying23
    simp only [Option.isNone] at hq
    go_enter Tryz.func49, Tryz.ntmps49
    have hlit := World.ownsRow_lit (e := 3) (size := 1) (base := w.heap.size) w #[] 0 (Nat.le_refl _) (by unfold maxLen; omega) rfl
    have HLIT := Lib.hid (show (w.alloc (.cells #[] 3)).ownsRow w.heap.size 3 1 (.slice (some ⟨w.heap.size, 0, none⟩) 0 0) 0 (vints .i64 []) from hlit)
    have hba := (Below.refl w.heap.size w).alloc (Nat.le_refl _) (.cells #[] 3)
    have HI2 := Lib.hid (HI.out.below hba)
    clear hlit
    go_wp2_with (at_builtin; go_must (refine wpList_append_ints rfl _ _ 23 rfl w.heap.size 3 .i64 8 Tryz.underlying23 (by kernel_rfl) (.slice (some ⟨w.heap.size, 0, none⟩) 0 0) 0 [] rfl HLIT.out (some x) n cap l rfl HN.out HI2.out (by unfold maxLen; omega) (by omega) (by simp) ?_))
    intro v1 w1 hown hgr hat
    have hb1 : Below w.heap.size w w1 := hba.grown hgr (by simp) (fun k hk => by
      have : k = w.heap.size := by simpa [Value.ownBlock] using hk.symm
      omega)
    have HO := Lib.hid hown
    clear hown hgr hat hba
    go_wp2
    go_ret
    exact ⟨_, rfl, HO.out, hb1⟩
theorem own_slice {w : World} {base e size n : Nat} {v : Value} {xs : List Value} (h : w.ownsRow base e size v n xs) : ∃ a c, v = .slice a n c := by
  rcases h.2 with ⟨rfl, rfl⟩ | ⟨g, cap, cur, rfl, _⟩
  · exact ⟨none, 0, rfl⟩
  · exact ⟨_, cap, rfl⟩
/-- the clone, as a list in new memory -/
def ClonePost (l : List Int) (n : Nat) (w : World) (e : Ending) (w' : World) : Prop := ∃ a c, e = .returned (.slice a n c) ∧ IntsAt .i64 w' a l ∧ (∀ x, a = some x → w.heap.size ≤ x.block) ∧ Below w.heap.size w w'
theorem clone_at (l : List Int) (a : Option Addr) (n cap : Nat) (hn : l.length = n) (h1 : n ≤ 17592186044416) (w : World) (hin : IntsAt .i64 w a l) :
    Calls Tryz.prog 49 #[.slice a n cap] w (ClonePost l n w) := by
  refine (clone_ints l a n cap hn h1 w hin).mono ?_
  rintro e w' ⟨v, rfl, ho, hb⟩
  rcases Nat.eq_zero_or_pos n with h0 | h0
  · subst h0
    have : l = [] := List.eq_nil_of_length_eq_zero hn
    subst this
    obtain ⟨a2, c2, rfl⟩ := own_slice ho
    exact ⟨a2, c2, rfl, fun h => absurd h (by simp), fun x hx => (own_lt ho x.block (by rw [hx]; rfl)).1, hb⟩
  · obtain ⟨g, c2, rfl, _, _⟩ := ho.form h0
    exact ⟨_, c2, rfl, IntsAt.of_own ho hn.symm, fun x hx => by injection hx with hx; subst hx; exact (own_lt ho g rfl).1, hb⟩
end Go.Proofs.YtfckbkhnelgjbaaGreatDoor
end
/- The reference's Listed. -/
section
namespace Go.Proofs.YtfckbkhnelgjbaaGreatDoor
open Go.ChangeShapes Go.WideShapes Go.ChangeAt Go.RowKit Go.Nm Go.Mem Go.Maps
set_option linter.unusedVariables false
def EComp (w : World) (cs : List Value) (c : CompV) : Prop := ∃ a cap, cs = [.int .i64 c.kind, .slice a c.vals.length cap] ∧ IntsAt .i64 w a c.vals
theorem EComp.at (w : World) (g q : Nat) (cs : List Value) (y : CompV) (h : EComp w cs y) (hc : ∀ i u, cs[i]? = some u → w.cell? ⟨g, q + i, none⟩ = some u) : CompAt w ⟨g, q, none⟩ y := by
  obtain ⟨a, cap, rfl, hi⟩ := h
  exact ⟨hc 0 _ rfl, a, cap, hc 1 _ rfl, hi⟩
theorem own_bel {w w' : World} {base e size n : Nat} {v : Value} {xs : List Value} (h : w.ownsRow base e size v n xs) (hb : Below w.heap.size w w') : w'.ownsRow base e size v n xs := by
  refine ⟨h.1, ?_⟩
  rcases h.2 with h | ⟨g, cap, cur, k1, k2, k3, k4⟩
  · exact Or.inl h
  · exact Or.inr ⟨g, cap, cur, k1, k2, heap_below k3 hb, k4⟩
def listedTo (F : Part) (k : Nat) : List CompV := (List.range k).filterMap (fun (i : Nat) => (F i).map (fun L => (⟨(i : Int), L⟩ : CompV)))
def listed (F : Part) : List CompV := listedTo F 16
theorem listedTo_succ (F : Part) (k : Nat) : listedTo F (k + 1) = listedTo F k ++ (match F k with | none => [] | some L => [⟨(k : Int), L⟩]) := by
  unfold listedTo
  rw [List.range_succ, List.filterMap_append]
  cases h : F k <;> simp [h]
theorem listedTo_len (F : Part) (k : Nat) : (listedTo F k).length ≤ k := by
  unfold listedTo
  exact Nat.le_trans (List.length_filterMap_le ..) (by simp)
set_option maxHeartbeats 1000000 in
set_option maxRecDepth 20000 in
theorem ref_Listed (F : Part) (b n : Nat) (hFl : ∀ k L, F k = some L → L.length ≤ 1048576) (W : World) (hm : MapI W b n F) :
    Calls Tryz.prog 11 #[.map (some b)] W fun e w' => (∃ a c, e = .returned (.slice a (listed F).length c) ∧ Up W.heap.size (fun w => SlAt 2 CompAt w a (listed F)) w') ∧ Below W.heap.size W w' := by
  have HFL := Lib.hid hFl
  have HMAP := Lib.hid hm
  clear hFl hm
  go_enter Tryz.func11, Tryz.ntmps11
  go_wp2_with fail
  go_loopg [7, 3, 4, 5, 6] 16 (fun gk v7 v3 _ _ _ wx => ∃ k : Nat, k ≤ 16 ∧ gk = 16 - k ∧ v7 = .int .i64 k ∧ GrowL EComp W.heap.size 42 2 wx v3 (listedTo F k) ∧ Below W.heap.size W wx)
  case atStart => exact ⟨0, Nat.zero_le _, rfl, rfl, GrowL.nil _ _ _ _ _, Below.refl _ _⟩
  case round =>
    obtain ⟨k, hk, g2, rfl, hgr, hb⟩ := hrel
    have G2 := Lib.hid g2
    have HGR := Lib.hid hgr
    have HB := Lib.hid hb
    have hbs := hb.size
    obtain ⟨D, hown, hF⟩ := HMAP.out.below hb
    have hhas := (hF k).1
    have hkey := keyN_of (i := k) (by omega)
    have HF := Lib.hid hF
    have hst := listedTo_succ F k
    clear g2 hgr hb hF
    by_cases hlt : k < 16
    · cases hs : F k with
      | none =>
        rw [hs] at hhas hst
        have HST := Lib.hid (show listedTo F (k + 1) = listedTo F k by rw [hst]; exact List.append_nil _)
        clear hst
        replace hhas : Maps.has D (keyN k) = false := hhas
        go_wp2_with (at_lookup; refine wpList_lookup_own_ok _ rfl _ _ 37 rfl 3 23 keyInt Tryz.underlying37 RV (zeroRow _) (.held (.slice none 0 0)) [] rfl b n D rfl hown (.int .i64 (k : Int)) (keyN k) rfl hkey ?_; intro cw ps hat; rw [hhas]; clear hat)
        go_roundg (16 - (k + 1))
        case measure => rw [G2.out]; omega
        case rel => exact ⟨k + 1, hlt, rfl, by go_num, by rw [HST.out]; exact HGR.out, HB.out⟩
      | some L =>
        obtain ⟨a, c, hat1, ⟨hiL, _⟩⟩ := (HF.out k).2 L hs
        have hLl := HFL.out k L hs
        rw [hs] at hhas hst
        replace hst : listedTo F (k + 1) = listedTo F k ++ [⟨(k : Int), L⟩] := hst
        replace hhas : Maps.has D (keyN k) = true := hhas
        have HST := Lib.hid hst
        have HAT := Lib.hid hat1
        obtain ⟨nL, hnL⟩ : ∃ nL, nL = L.length := ⟨_, rfl⟩
        have HC := Lib.hid (clone_at L a nL c hnL.symm (by omega) wr hiL)
        have HNL := Lib.hid hnL
        obtain ⟨css, hcss⟩ := HGR.out
        have HCSS := Lib.hid hcss
        have hlen := listedTo_len F k
        obtain ⟨nl, hnl⟩ : ∃ nl, nl = (listedTo F k).length := ⟨_, rfl⟩
        have HNN := Lib.hid hnl
        rw [← hnl] at hlen
        clear hst hat1 hiL hnL hcss hs hnl
        go_wp2_with (at_lookup; refine wpList_lookup_own_ok _ rfl _ _ 37 rfl 3 23 keyInt Tryz.underlying37 RV (zeroRow _) (.held (.slice none 0 0)) [] rfl b n D rfl hown (.int .i64 (k : Int)) (keyN k) rfl hkey ?_; intro cw ps hat; rw [hhas]; have hcw : cw = .slice a nL c := (by rw [HAT.out] at hat; rw [HNL.out]; injection hat with hat; injection hat with hat _; injection hat); have HCW := Lib.hid hcw; clear hat hcw)
        rw [HCW.out]
        refine HC.out.mono ?_
        rintro e w1 ⟨a1, c1, rfl, hi1, hx1, hb1⟩
        have hbs2 : W.heap.size ≤ (w1.alloc (.cells #[.int .i64 (k : Int), .slice a1 nL c1] 42 (0, 0))).heap.size := by rw [World.size_alloc]; have := hb1.size; omega
        have hro := new_row w1 #[.int .i64 (k : Int), .slice a1 nL c1] 42
        have hba := (Below.refl w1.heap.size w1).alloc (Nat.le_refl _) (.cells #[.int .i64 (k : Int), .slice a1 nL c1] 42 (0, 0))
        have hbw := hb1.trans (hba.mono hb1.size)
        have hcl : CellsAt (w1.alloc (.cells #[.int .i64 (k : Int), .slice a1 nL c1] 42 (0, 0))) (some ⟨w1.heap.size, 0, none⟩) [.int .i64 (k : Int), .slice a1 nL c1] := fun _ => ⟨_, rfl, by simp, fun j u hu => by
          have := hro j u hu
          rw [add_zero_block]
          simpa using this⟩
        have hownC := own_bel HCSS.out.2.2.1 hbw
        rw [← HNN.out] at hownC
        have hy : Win wr.heap.size (w1.alloc (.cells #[.int .i64 (k : Int), .slice a1 nL c1] 42 (0, 0))).heap.size (fun w => EComp w [.int .i64 (k : Int), .slice a1 nL c1] ⟨(k : Int), L⟩) (w1.alloc (.cells #[.int .i64 (k : Int), .slice a1 nL c1] 42 (0, 0))) :=
          Win.ofUp (Up.below (fun w2 hs => ⟨a1, c1, by rw [HNL.out], ints_up hs hx1 hi1⟩) hba)
        have HY := Lib.hid hy
        have HBW := Lib.hid hbw
        clear hy hro hi1 hx1 HC HAT hown hb1 hbw
        go_wp2_with (at_builtin; go_must (refine wpList_append_cells rfl _ _ 27 rfl W.heap.size 42 (.agg #[.int .i64 0, .slice none 0 0]) 2 32 Tryz.underlying27 (by kernel_rfl) rfl (by decide) _ nl css.flatten rfl hownC (some ⟨w1.heap.size, 0, none⟩) 1 1 [.int .i64 (k : Int), .slice a1 nL c1] rfl rfl hcl (by simp [Value.oneCell']) (by unfold maxLen; omega) (by omega) hbs2 ?_); intro v3 w3 hown3 hg3 hat3; have HO3 := Lib.hid hown3; have HG3 := Lib.hid hg3; have HA3 := Lib.hid hat3; clear hown3 hg3 hat3)
        have HNEW := Lib.hid (show GrowL EComp W.heap.size 42 2 w3 v3 (listedTo F (k + 1)) by
          rw [HST.out]
          exact GrowL.push2 HGR.out hbs HBW.out [.int .i64 (k : Int), .slice a1 nL c1] ⟨(k : Int), L⟩ rfl HY.out HCSS.out (by have := HO3.out; rw [HNN.out] at this; exact this) HG3.out HA3.out)
        have HB3 := Lib.hid ((HB.out.trans (HBW.out.mono HB.out.size)).grown HG3.out (HB.out.trans (HBW.out.mono HB.out.size)).size (fun r h => (own_lt HCSS.out.2.2.1 r h).1))
        clear hcl hownC
        go_roundg (16 - (k + 1))
        case measure => rw [G2.out]; omega
        case rel => exact ⟨k + 1, hlt, rfl, by go_num, HNEW.out, HB3.out⟩
    · obtain rfl : k = 16 := by omega
      obtain ⟨a, c, hv, _, _⟩ := GrowL.slice HGR.out
      have HV := Lib.hid hv
      clear hv hown hhas hst hkey
      go_wp2_with fail
      go_ret
      exact ⟨⟨a, c, by rw [HV.out]; rfl, GrowL.up EComp.at HGR.out a c HV.out⟩, HB.out⟩
end Go.Proofs.YtfckbkhnelgjbaaGreatDoor
end
/- A list of fields as the cells of a row. -/
section
namespace Go.Proofs.YtfckbkhnelgjbaaGreatDoor
open Go.RowKit Go.ChangeShapes Go.WideShapes Go.Deep Go.Mem Go.Nm
set_option linter.unusedVariables false
def fval (l : List FieldV) (j : Nat) : Value := if j % 3 = 0 then .string (l.getD (j / 3) default).name else if j % 3 = 1 then .int .i64 (l.getD (j / 3) default).bits else .int .i64 (l.getD (j / 3) default).low
def fvals (l : List FieldV) : List Value := (List.range (l.length * 3)).map (fval l)
theorem fvals_len (l : List FieldV) : (fvals l).length = l.length * 3 := by unfold fvals; simp
theorem fvals_get (l : List FieldV) (j : Nat) (u : Value) : (fvals l)[j]? = some u ↔ j < l.length * 3 ∧ u = fval l j := by
  unfold fvals
  rw [List.getElem?_map]
  by_cases h : j < l.length * 3
  · rw [List.getElem?_range h]; simp [h, eq_comm]
  · rw [List.getElem?_eq_none (by simpa using h)]; simp [h]
theorem fvals_one (l : List FieldV) : ∀ u ∈ fvals l, u.oneCell' = true := by
  intro u hu
  unfold fvals at hu
  obtain ⟨j, _, rfl⟩ := List.mem_map.1 hu
  unfold fval
  split
  · rfl
  · split <;> rfl
theorem fval_parts (l : List FieldV) (q : Nat) (h : q < l.length) : fval l (q * 3) = .string l[q].name ∧ fval l (q * 3 + 1) = .int .i64 l[q].bits ∧ fval l (q * 3 + 2) = .int .i64 l[q].low := by
  have hd : l.getD q default = l[q] := by rw [List.getD_eq_getElem?_getD, List.getElem?_eq_getElem h]; rfl
  unfold fval
  refine ⟨?_, ?_, ?_⟩
  · rw [if_pos (by omega), show q * 3 / 3 = q by omega, hd]
  · rw [if_neg (by omega), if_pos (by omega), show (q * 3 + 1) / 3 = q by omega, hd]
  · rw [if_neg (by omega), if_neg (by omega), show (q * 3 + 2) / 3 = q by omega, hd]
theorem cells_flds {w : World} {a : Option Addr} {l : List FieldV} (h : SlAt 3 FieldAt w a l) : CellsAt w a (fvals l) := fun h0 => by
  rw [fvals_len] at h0
  obtain ⟨x, e, hx, hi⟩ := h (by omega)
  refine ⟨x, e, hx, fun j u hu => ?_⟩
  obtain ⟨hj, rfl⟩ := (fvals_get l j u).1 hu
  have hq : j / 3 < l.length := by omega
  obtain ⟨k0, k1, k2, _⟩ := hi (j / 3) hq
  obtain ⟨p0, p1, p2⟩ := fval_parts l (j / 3) hq
  rcases (show j = j / 3 * 3 ∨ j = j / 3 * 3 + 1 ∨ j = j / 3 * 3 + 2 by omega) with e | e | e
  · rw [show fval l j = fval l (j / 3 * 3) by rw [← e], p0, show x.add j = x.add (j / 3 * 3) by rw [← e]]; exact k0
  · rw [show fval l j = fval l (j / 3 * 3 + 1) by rw [← e], p1, show x.add j = x.add (j / 3 * 3 + 1) by rw [← e], add_nextN _ _ 1 (by decide)]; exact k1
  · rw [show fval l j = fval l (j / 3 * 3 + 2) by rw [← e], p2, show x.add j = x.add (j / 3 * 3 + 2) by rw [← e], add_nextN _ _ 2 (by decide)]; exact k2
theorem flds_own {w : World} {base e n : Nat} {v : Value} {l : List FieldV} (hn : l.length = n) (h : w.ownsRow base e 3 v n (fvals l)) (hs : ∀ y ∈ l, y.name.size ≤ 9223372036854775807) :
    ∃ a c, v = .slice a n c ∧ n ≤ c ∧ c ≤ 9223372036854775807 ∧ SlAt 3 FieldAt w a l ∧ (∀ x, a = some x → base ≤ x.block) := by
  subst hn
  obtain ⟨_, ⟨hv, h0⟩ | ⟨g, cap, cur, hv, hb, hg, hc1, hc2, hc3, hc4⟩⟩ := h
  · exact ⟨none, 0, by rw [hv, h0], by omega, by omega, fun h => by omega, fun x hx => by cases hx⟩
  · refine ⟨some ⟨g, 0, none⟩, cap, hv, hc1, by unfold maxLen at hc2; omega, fun _ => ⟨_, rfl, lt_of_heap hg, fun q hq => ?_⟩, fun x hx => by injection hx with hx; rw [← hx]; exact hb⟩
    have cell : ∀ j, j < l.length * 3 → w.cell? ⟨g, j, none⟩ = some (fval l j) := by
      intro j hj
      rw [cell_of_row _ _ _ _ _ _ hg]
      have := (fvals_get l j (fval l j)).2 ⟨hj, rfl⟩
      rw [← hc4, List.getElem?_take, if_pos hj] at this
      simpa using this
    obtain ⟨p0, p1, p2⟩ := fval_parts l q hq
    rw [add_zero_block]
    exact ⟨by rw [cell _ (by omega), p0], by show w.cell? ⟨g, q * 3 + 1, none⟩ = _; rw [cell _ (by omega), p1], by show w.cell? ⟨g, q * 3 + 2, none⟩ = _; rw [cell _ (by omega), p2], hs _ (List.getElem_mem _)⟩
theorem flds_names {w : World} {a : Option Addr} {l : List FieldV} (h : SlAt 3 FieldAt w a l) : ∀ y ∈ l, y.name.size ≤ 9223372036854775807 := by
  intro y hy
  obtain ⟨j, hj, rfl⟩ := List.mem_iff_getElem.1 hy
  obtain ⟨x, e, hx, hi⟩ := h (by omega)
  exact (hi j hj).2.2.2
end Go.Proofs.YtfckbkhnelgjbaaGreatDoor
end
/- slices.Clone at []api.Field. -/
section
namespace Go.Proofs.YtfckbkhnelgjbaaGreatDoor
open Go.ChangeShapes Go.WideShapes Go.ChangeAt Go.RowKit Go.Nm Go.Mem
set_option linter.unusedVariables false
/-- the clone of fields, in new memory -/
def FClonePost (l : List FieldV) (n : Nat) (w : World) (e : Ending) (w' : World) : Prop := ∃ a c, e = .returned (.slice a n c) ∧ n ≤ c ∧ c ≤ 9223372036854775807 ∧ Up w.heap.size (fun w => SlAt 3 FieldAt w a l) w' ∧ Below w.heap.size w w'
theorem flds_up {B : Nat} {w w2 : World} {a : Option Addr} {l : List FieldV} (hs : SameUp B w w2) (hp : ∀ x, a = some x → B ≤ x.block) (h : SlAt 3 FieldAt w a l) : SlAt 3 FieldAt w2 a l := fun h0 => by
  obtain ⟨x, e, hx, hi⟩ := h h0
  have hB := hp x e
  refine ⟨x, e, Nat.lt_of_lt_of_le hx hs.1, fun i hl => ?_⟩
  obtain ⟨k0, k1, k2, k3⟩ := hi i hl
  exact ⟨cell_up hs (by rw [block_of_add]; exact hB) k0, cell_up hs (by simp only [block_of_add]; exact hB) k1, cell_up hs (by simp only [block_of_add]; exact hB) k2, k3⟩
set_option maxHeartbeats 1000000 in
theorem clone_flds (l : List FieldV) (a : Option Addr) (n cap : Nat) (hn : l.length = n) (h1 : n ≤ 1048576) (w : World) (hin : SlAt 3 FieldAt w a l) :
    Calls Tryz.prog 50 #[.slice a n cap] w (FClonePost l n w) := by
  have hnames := flds_names hin
  rcases a with _ | x
  · have h0 : n = 0 := by
      rcases Nat.eq_zero_or_pos n with h | h
      · exact h
      · obtain ⟨x, h2, _⟩ := hin (by omega)
        cases h2
    subst h0
    have HN := Lib.hid hn
    clear hin hn hnames
    have hq := fun wx => Lib.run_eql_slice_nil (P := Tryz.prog) wx 84 99 none 0 cap 0 0 Tryz.underlying84
    simp only [Option.isNone] at hq
    go_enter Tryz.func50, Tryz.ntmps50
    go_wp2
    go_ret
    exact ⟨none, 0, rfl, Nat.le_refl _, by omega, fun w2 _ h => by rw [HN.out] at h; omega, Below.refl _ _⟩
  · have HN := Lib.hid hn
    have HI := Lib.hid hin
    have HNM := Lib.hid hnames
    clear hn hin hnames
    have hq := fun wx => Lib.run_eql_slice_nil (P := Tryz.prog) wx 84 99 (some x) n cap 0 0 Tryz.underlying84
    simp only [Option.isNone] at hq
    go_enter Tryz.func50, Tryz.ntmps50
    have hlit : (w.alloc (.cells #[] 99)).ownsRow w.heap.size 99 3 (.slice (some ⟨w.heap.size, 0, none⟩) 0 0) 0 (fvals []) := World.ownsRow_lit (e := 99) (size := 3) (base := w.heap.size) w #[] 0 (Nat.le_refl _) (by unfold maxLen; omega) rfl
    have HLIT := Lib.hid hlit
    have hba := (Below.refl w.heap.size w).alloc (Nat.le_refl _) (.cells #[] 99)
    have HC := Lib.hid (cells_flds (HI.out.below FieldAt.abides hba))
    clear hlit
    go_wp2_with (at_builtin; go_must (refine wpList_append_cells rfl _ _ 84 rfl w.heap.size 99 (.agg #[.string ByteArray.empty, .int .i64 0, .int .i64 0]) 3 32 Tryz.underlying84 (by kernel_rfl) rfl (by decide) (.slice (some ⟨w.heap.size, 0, none⟩) 0 0) 0 (fvals []) rfl HLIT.out (some x) n cap (fvals l) rfl (by rw [fvals_len, HN.out]) HC.out (fvals_one l) (by unfold maxLen; omega) (by omega) (by simp) ?_))
    intro v1 w1 hown hgr hat
    have hb1 : Below w.heap.size w w1 := hba.grown hgr (by simp) (fun k hk => by
      have : k = w.heap.size := by simpa [Value.ownBlock] using hk.symm
      omega)
    have hown2 : w1.ownsRow w.heap.size 99 3 v1 n (fvals l) := by
      have := hown
      rw [show fvals [] = [] from rfl, List.nil_append] at this
      exact this
    obtain ⟨a1, c1, hv, hc1, hc2, hsl, hx1⟩ := flds_own HN.out hown2 HNM.out
    have HV := Lib.hid hv
    have HUP := Lib.hid (show Up w.heap.size (fun w => SlAt 3 FieldAt w a1 l) w1 from fun w2 hs => flds_up hs hx1 hsl)
    clear hown hgr hat hba hown2 hv hsl hx1
    go_wp2
    go_ret
    exact ⟨a1, c1, by rw [HV.out]; rfl, hc1, hc2, HUP.out, hb1⟩
end Go.Proofs.YtfckbkhnelgjbaaGreatDoor
end
