/- Lemmas for the law WorldChecks: CloneI, Listed, KindCells, FClone, RegGrow, EqI. No conditions. -/
import Derived.Test.YtfckbkhnelgjbaaDoorM02
import Derived.Test.YtfckbkhnelgjbaaDoorRows
import Derived.Test.YtfckbkhnelgjbaaDoorM05
import Derived.Deep.DeepMust
import Derived.WalkSpells
import Derived.Lib.LazyBuf
import Derived.Great.BuildSlice
import Derived.Test.YtfckbkhnelgjbaaDoorM06
import Derived.Test.YtfckbkhnelgjbaaDoorM04
import Derived.BigQuiet
import Derived.Deep.QuietTactic
import Derived.Deep.LoopGhost
/- slices.Clone of ints. -/
section
namespace Go.Proofs.YtfckbkhnelgjbaaDoor
open Go.ChangeShapes Go.WideShapes Go.ChangeAt Go.RowKit Go.Mem
set_option linter.unusedVariables false

/-- A slice of ints that the call owns. -/
def OwnPost (zs : List Int) (n : Nat) (w : World) (e : Ending) (w' : World) : Prop := ∃ v, e = .returned v ∧ w'.ownsRow w.heap.size 3 1 v n (vints .i64 zs) ∧ Below w.heap.size w w'

set_option maxHeartbeats 4000000 in
theorem clone_ints (l : List Int) (a : Option Addr) (n cap : Nat) (hn : l.length = n) (h1 : n ≤ 17592186044416) (w : World) (hin : IntsAt .i64 w a l) :
    Calls Tryd.prog 21 #[.slice a n cap] w (OwnPost l n w) := by
  rcases a with _ | x
  · have h0 : n = 0 := by
      rcases Nat.eq_zero_or_pos n with h | h
      · exact h
      · obtain ⟨x, h2, _⟩ := hin (by omega)
        cases h2
    subst h0
    have : l = [] := List.eq_nil_of_length_eq_zero hn
    subst this
    have hnil : w.ownsRow w.heap.size 3 1 (.slice none 0 0) 0 (vints .i64 []) := ⟨rfl, .inl ⟨rfl, rfl⟩⟩
    have HNIL := Lib.hid hnil
    clear hnil hin hn
    have hq := fun wx => Lib.run_eql_slice_nil (P := Tryd.prog) wx 23 3 none 0 cap 0 0 Tryd.underlying23
    simp only [Option.isNone] at hq
    go_enter Tryd.func21, Tryd.ntmps21
    go_wp2
    go_ret
    exact ⟨_, rfl, HNIL.out, Below.refl _ _⟩
  · have HN := Lib.hid hn
    have HI := Lib.hid hin
    clear hn hin
    have hq := fun wx => Lib.run_eql_slice_nil (P := Tryd.prog) wx 23 3 (some x) n cap 0 0 Tryd.underlying23
    simp only [Option.isNone] at hq
    go_enter Tryd.func21, Tryd.ntmps21
    have hlit := World.ownsRow_lit (e := 3) (size := 1) (base := w.heap.size) w #[] 0 (Nat.le_refl _) (by unfold maxLen; omega) rfl
    have HLIT := Lib.hid (show (w.alloc (.cells #[] 3)).ownsRow w.heap.size 3 1 (.slice (some ⟨w.heap.size, 0, none⟩) 0 0) 0 (vints .i64 []) from hlit)
    have hba := (Below.refl w.heap.size w).alloc (Nat.le_refl _) (.cells #[] 3)
    have HI2 := Lib.hid (HI.out.below hba)
    clear hlit
    go_wp2_with (at_builtin; go_must (refine wpList_append_ints rfl _ _ 23 rfl w.heap.size 3 .i64 8 Tryd.underlying23 (by kernel_rfl) (.slice (some ⟨w.heap.size, 0, none⟩) 0 0) 0 [] rfl HLIT.out (some x) n cap l rfl HN.out HI2.out (by unfold maxLen; omega) (by omega) (by simp) ?_))
    intro v1 w1 hown hgr hat
    have hb1 : Below w.heap.size w w1 := hba.grown hgr (by simp) (fun k hk => by
      have : k = w.heap.size := by simpa [Value.ownBlock] using hk.symm
      omega)
    have HO := Lib.hid hown
    clear hown hgr hat hba
    go_wp2
    go_ret
    exact ⟨_, rfl, HO.out, hb1⟩
theorem own_slice {w : World} {base e size n : Nat} {v : Value} {xs : List Value} (h : w.ownsRow base e size v n xs) : ∃ a c, v = .slice a n c := by
  rcases h.2 with ⟨rfl, rfl⟩ | ⟨g, cap, cur, rfl, _⟩
  · exact ⟨none, 0, rfl⟩
  · exact ⟨_, cap, rfl⟩
/-- the clone, as a list in new memory -/
def ClonePost (l : List Int) (n : Nat) (w : World) (e : Ending) (w' : World) : Prop := ∃ a c, e = .returned (.slice a n c) ∧ IntsAt .i64 w' a l ∧ (∀ x, a = some x → w.heap.size ≤ x.block) ∧ Below w.heap.size w w'
theorem clone_at (l : List Int) (a : Option Addr) (n cap : Nat) (hn : l.length = n) (h1 : n ≤ 17592186044416) (w : World) (hin : IntsAt .i64 w a l) :
    Calls Tryd.prog 21 #[.slice a n cap] w (ClonePost l n w) := by
  refine (clone_ints l a n cap hn h1 w hin).mono ?_
  rintro e w' ⟨v, rfl, ho, hb⟩
  rcases Nat.eq_zero_or_pos n with h0 | h0
  · subst h0
    have : l = [] := List.eq_nil_of_length_eq_zero hn
    subst this
    obtain ⟨a2, c2, rfl⟩ := own_slice ho
    exact ⟨a2, c2, rfl, fun h => absurd h (by simp), fun x hx => (own_lt ho x.block (by rw [hx]; rfl)).1, hb⟩
  · obtain ⟨g, c2, rfl, _, _⟩ := ho.form h0
    exact ⟨_, c2, rfl, IntsAt.of_own ho hn.symm, fun x hx => by injection hx with hx; subst hx; exact (own_lt ho g rfl).1, hb⟩
end Go.Proofs.YtfckbkhnelgjbaaDoor
end
/- The reference's Listed. -/
section
namespace Go.Proofs.YtfckbkhnelgjbaaDoor
open Go.ChangeShapes Go.WideShapes Go.ChangeAt Go.RowKit Go.Nm Go.Mem Go.Maps
set_option linter.unusedVariables false
def EComp (w : World) (cs : List Value) (c : CompV) : Prop := ∃ a cap, cs = [.int .i64 c.kind, .slice a c.vals.length cap] ∧ IntsAt .i64 w a c.vals
theorem EComp.at (w : World) (g q : Nat) (cs : List Value) (y : CompV) (h : EComp w cs y) (hc : ∀ i u, cs[i]? = some u → w.cell? ⟨g, q + i, none⟩ = some u) : CompAt w ⟨g, q, none⟩ y := by
  obtain ⟨a, cap, rfl, hi⟩ := h
  exact ⟨hc 0 _ rfl, a, cap, hc 1 _ rfl, hi⟩
theorem own_bel {w w' : World} {base e size n : Nat} {v : Value} {xs : List Value} (h : w.ownsRow base e size v n xs) (hb : Below w.heap.size w w') : w'.ownsRow base e size v n xs := by
  refine ⟨h.1, ?_⟩
  rcases h.2 with h | ⟨g, cap, cur, k1, k2, k3, k4⟩
  · exact Or.inl h
  · exact Or.inr ⟨g, cap, cur, k1, k2, heap_below k3 hb, k4⟩
def listedTo (F : Part) (k : Nat) : List CompV := (List.range k).filterMap (fun (i : Nat) => (F i).map (fun L => (⟨(i : Int), L⟩ : CompV)))
def listed (F : Part) : List CompV := listedTo F 16
theorem listedTo_succ (F : Part) (k : Nat) : listedTo F (k + 1) = listedTo F k ++ (match F k with | none => [] | some L => [⟨(k : Int), L⟩]) := by
  unfold listedTo
  rw [List.range_succ, List.filterMap_append]
  cases h : F k <;> simp [h]
theorem listedTo_len (F : Part) (k : Nat) : (listedTo F k).length ≤ k := by
  unfold listedTo
  exact Nat.le_trans (List.length_filterMap_le ..) (by simp)
set_option maxHeartbeats 1000000 in
set_option maxRecDepth 20000 in
theorem ref_Listed (F : Part) (b n : Nat) (hFl : ∀ k L, F k = some L → L.length ≤ 1048576) (W : World) (hm : MapI W b n F) :
    Calls Tryd.prog 42 #[.map (some b)] W fun e w' => (∃ a c, e = .returned (.slice a (listed F).length c) ∧ Up W.heap.size (fun w => SlAt 2 CompAt w a (listed F)) w') ∧ Below W.heap.size W w' := by
  have HFL := Lib.hid hFl
  have HMAP := Lib.hid hm
  clear hFl hm
  go_enter Tryd.func42, Tryd.ntmps42
  go_wp2_with fail
  go_loopg [7, 3, 4, 5, 6] 16 (fun gk v7 v3 _ _ _ wx => ∃ k : Nat, k ≤ 16 ∧ gk = 16 - k ∧ v7 = .int .i64 k ∧ GrowL EComp W.heap.size 51 2 wx v3 (listedTo F k) ∧ Below W.heap.size W wx)
  case atStart => exact ⟨0, Nat.zero_le _, rfl, rfl, GrowL.nil _ _ _ _ _, Below.refl _ _⟩
  case round =>
    obtain ⟨k, hk, g2, rfl, hgr, hb⟩ := hrel
    have G2 := Lib.hid g2
    have HGR := Lib.hid hgr
    have HB := Lib.hid hb
    have hbs := hb.size
    obtain ⟨D, hown, hF⟩ := HMAP.out.below hb
    have hhas := (hF k).1
    have hkey := keyN_of (i := k) (by omega)
    have HF := Lib.hid hF
    have hst := listedTo_succ F k
    clear g2 hgr hb hF
    by_cases hlt : k < 16
    · cases hs : F k with
      | none =>
        rw [hs] at hhas hst
        have HST := Lib.hid (show listedTo F (k + 1) = listedTo F k by rw [hst]; exact List.append_nil _)
        clear hst
        replace hhas : Maps.has D (keyN k) = false := hhas
        go_wp2_with (at_lookup; refine wpList_lookup_own_ok _ rfl _ _ 63 rfl 3 23 keyInt Tryd.underlying63 RV (zeroRow _) (.held (.slice none 0 0)) [] rfl b n D rfl hown (.int .i64 (k : Int)) (keyN k) rfl hkey ?_; intro cw ps hat; rw [hhas]; clear hat)
        go_roundg (16 - (k + 1))
        case measure => rw [G2.out]; omega
        case rel => exact ⟨k + 1, hlt, rfl, by go_num, by rw [HST.out]; exact HGR.out, HB.out⟩
      | some L =>
        obtain ⟨a, c, hat1, hiL⟩ := (HF.out k).2 L hs
        have hLl := HFL.out k L hs
        rw [hs] at hhas hst
        replace hst : listedTo F (k + 1) = listedTo F k ++ [⟨(k : Int), L⟩] := hst
        replace hhas : Maps.has D (keyN k) = true := hhas
        have HST := Lib.hid hst
        have HAT := Lib.hid hat1
        obtain ⟨nL, hnL⟩ : ∃ nL, nL = L.length := ⟨_, rfl⟩
        have HC := Lib.hid (clone_at L a nL c hnL.symm (by omega) wr hiL)
        have HNL := Lib.hid hnL
        obtain ⟨css, hcss⟩ := HGR.out
        have HCSS := Lib.hid hcss
        have hlen := listedTo_len F k
        obtain ⟨nl, hnl⟩ : ∃ nl, nl = (listedTo F k).length := ⟨_, rfl⟩
        have HNN := Lib.hid hnl
        rw [← hnl] at hlen
        clear hst hat1 hiL hnL hcss hs hnl
        go_wp2_with (at_lookup; refine wpList_lookup_own_ok _ rfl _ _ 63 rfl 3 23 keyInt Tryd.underlying63 RV (zeroRow _) (.held (.slice none 0 0)) [] rfl b n D rfl hown (.int .i64 (k : Int)) (keyN k) rfl hkey ?_; intro cw ps hat; rw [hhas]; have hcw : cw = .slice a nL c := (by rw [HAT.out] at hat; rw [HNL.out]; injection hat with hat; injection hat with hat _; injection hat); have HCW := Lib.hid hcw; clear hat hcw)
        rw [HCW.out]
        refine HC.out.mono ?_
        rintro e w1 ⟨a1, c1, rfl, hi1, hx1, hb1⟩
        have hbs2 : W.heap.size ≤ (w1.alloc (.cells #[.int .i64 (k : Int), .slice a1 nL c1] 51 (0, 0))).heap.size := by rw [World.size_alloc]; have := hb1.size; omega
        have hro := new_row w1 #[.int .i64 (k : Int), .slice a1 nL c1] 51
        have hba := (Below.refl w1.heap.size w1).alloc (Nat.le_refl _) (.cells #[.int .i64 (k : Int), .slice a1 nL c1] 51 (0, 0))
        have hbw := hb1.trans (hba.mono hb1.size)
        have hcl : CellsAt (w1.alloc (.cells #[.int .i64 (k : Int), .slice a1 nL c1] 51 (0, 0))) (some ⟨w1.heap.size, 0, none⟩) [.int .i64 (k : Int), .slice a1 nL c1] := fun _ => ⟨_, rfl, by simp, fun j u hu => by
          have := hro j u hu
          rw [add_zero_block]
          simpa using this⟩
        have hownC := own_bel HCSS.out.2.2.1 hbw
        rw [← HNN.out] at hownC
        have hy : Win wr.heap.size (w1.alloc (.cells #[.int .i64 (k : Int), .slice a1 nL c1] 51 (0, 0))).heap.size (fun w => EComp w [.int .i64 (k : Int), .slice a1 nL c1] ⟨(k : Int), L⟩) (w1.alloc (.cells #[.int .i64 (k : Int), .slice a1 nL c1] 51 (0, 0))) :=
          Win.ofUp (Up.below (fun w2 hs => ⟨a1, c1, by rw [HNL.out], ints_up hs hx1 hi1⟩) hba)
        have HY := Lib.hid hy
        have HBW := Lib.hid hbw
        clear hy hro hi1 hx1 HC HAT hown hb1 hbw
        go_wp2_with (at_builtin; go_must (refine wpList_append_cells rfl _ _ 45 rfl W.heap.size 51 (.agg #[.int .i64 0, .slice none 0 0]) 2 32 Tryd.underlying45 (by kernel_rfl) rfl (by decide) _ nl css.flatten rfl hownC (some ⟨w1.heap.size, 0, none⟩) 1 1 [.int .i64 (k : Int), .slice a1 nL c1] rfl rfl hcl (by simp [Value.oneCell']) (by unfold maxLen; omega) (by omega) hbs2 ?_); intro v3 w3 hown3 hg3 hat3; have HO3 := Lib.hid hown3; have HG3 := Lib.hid hg3; have HA3 := Lib.hid hat3; clear hown3 hg3 hat3)
        have HNEW := Lib.hid (show GrowL EComp W.heap.size 51 2 w3 v3 (listedTo F (k + 1)) by
          rw [HST.out]
          exact GrowL.push2 HGR.out hbs HBW.out [.int .i64 (k : Int), .slice a1 nL c1] ⟨(k : Int), L⟩ rfl HY.out HCSS.out (by have := HO3.out; rw [HNN.out] at this; exact this) HG3.out HA3.out)
        have HB3 := Lib.hid ((HB.out.trans (HBW.out.mono HB.out.size)).grown HG3.out (HB.out.trans (HBW.out.mono HB.out.size)).size (fun r h => (own_lt HCSS.out.2.2.1 r h).1))
        clear hcl hownC
        go_roundg (16 - (k + 1))
        case measure => rw [G2.out]; omega
        case rel => exact ⟨k + 1, hlt, rfl, by go_num, HNEW.out, HB3.out⟩
    · obtain rfl : k = 16 := by omega
      obtain ⟨a, c, hv, _, _⟩ := GrowL.slice HGR.out
      have HV := Lib.hid hv
      clear hv hown hhas hst hkey
      go_wp2_with fail
      go_ret
      exact ⟨⟨a, c, by rw [HV.out]; rfl, GrowL.up EComp.at HGR.out a c HV.out⟩, HB.out⟩
end Go.Proofs.YtfckbkhnelgjbaaDoor
end
/- A list of fields as the cells of a row. -/
section
namespace Go.Proofs.YtfckbkhnelgjbaaDoor
open Go.RowKit Go.ChangeShapes Go.WideShapes Go.Deep Go.Mem Go.Nm
set_option linter.unusedVariables false
def fval (l : List FieldV) (j : Nat) : Value := if j % 3 = 0 then .string (l.getD (j / 3) default).name else if j % 3 = 1 then .int .i64 (l.getD (j / 3) default).bits else .int .i64 (l.getD (j / 3) default).low
def fvals (l : List FieldV) : List Value := (List.range (l.length * 3)).map (fval l)
theorem fvals_len (l : List FieldV) : (fvals l).length = l.length * 3 := by unfold fvals; simp
theorem fvals_get (l : List FieldV) (j : Nat) (u : Value) : (fvals l)[j]? = some u ↔ j < l.length * 3 ∧ u = fval l j := by
  unfold fvals
  rw [List.getElem?_map]
  by_cases h : j < l.length * 3
  · rw [List.getElem?_range h]; simp [h, eq_comm]
  · rw [List.getElem?_eq_none (by simpa using h)]; simp [h]
theorem fvals_one (l : List FieldV) : ∀ u ∈ fvals l, u.oneCell' = true := by
  intro u hu
  unfold fvals at hu
  obtain ⟨j, _, rfl⟩ := List.mem_map.1 hu
  unfold fval
  split
  · rfl
  · split <;> rfl
theorem fval_parts (l : List FieldV) (q : Nat) (h : q < l.length) : fval l (q * 3) = .string l[q].name ∧ fval l (q * 3 + 1) = .int .i64 l[q].bits ∧ fval l (q * 3 + 2) = .int .i64 l[q].low := by
  have hd : l.getD q default = l[q] := by rw [List.getD_eq_getElem?_getD, List.getElem?_eq_getElem h]; rfl
  unfold fval
  refine ⟨?_, ?_, ?_⟩
  · rw [if_pos (by omega), show q * 3 / 3 = q by omega, hd]
  · rw [if_neg (by omega), if_pos (by omega), show (q * 3 + 1) / 3 = q by omega, hd]
  · rw [if_neg (by omega), if_neg (by omega), show (q * 3 + 2) / 3 = q by omega, hd]
theorem cells_flds {w : World} {a : Option Addr} {l : List FieldV} (h : SlAt 3 FieldAt w a l) : CellsAt w a (fvals l) := fun h0 => by
  rw [fvals_len] at h0
  obtain ⟨x, e, hx, hi⟩ := h (by omega)
  refine ⟨x, e, hx, fun j u hu => ?_⟩
  obtain ⟨hj, rfl⟩ := (fvals_get l j u).1 hu
  have hq : j / 3 < l.length := by omega
  obtain ⟨k0, k1, k2, _⟩ := hi (j / 3) hq
  obtain ⟨p0, p1, p2⟩ := fval_parts l (j / 3) hq
  rcases (show j = j / 3 * 3 ∨ j = j / 3 * 3 + 1 ∨ j = j / 3 * 3 + 2 by omega) with e | e | e
  · rw [show fval l j = fval l (j / 3 * 3) by rw [← e], p0, show x.add j = x.add (j / 3 * 3) by rw [← e]]; exact k0
  · rw [show fval l j = fval l (j / 3 * 3 + 1) by rw [← e], p1, show x.add j = x.add (j / 3 * 3 + 1) by rw [← e], add_nextN _ _ 1 (by decide)]; exact k1
  · rw [show fval l j = fval l (j / 3 * 3 + 2) by rw [← e], p2, show x.add j = x.add (j / 3 * 3 + 2) by rw [← e], add_nextN _ _ 2 (by decide)]; exact k2
theorem flds_own {w : World} {base e n : Nat} {v : Value} {l : List FieldV} (hn : l.length = n) (h : w.ownsRow base e 3 v n (fvals l)) (hs : ∀ y ∈ l, y.name.size ≤ 9223372036854775807) :
    ∃ a c, v = .slice a n c ∧ n ≤ c ∧ c ≤ 9223372036854775807 ∧ SlAt 3 FieldAt w a l ∧ (∀ x, a = some x → base ≤ x.block) := by
  subst hn
  obtain ⟨_, ⟨hv, h0⟩ | ⟨g, cap, cur, hv, hb, hg, hc1, hc2, hc3, hc4⟩⟩ := h
  · exact ⟨none, 0, by rw [hv, h0], by omega, by omega, fun h => by omega, fun x hx => by cases hx⟩
  · refine ⟨some ⟨g, 0, none⟩, cap, hv, hc1, by unfold maxLen at hc2; omega, fun _ => ⟨_, rfl, lt_of_heap hg, fun q hq => ?_⟩, fun x hx => by injection hx with hx; rw [← hx]; exact hb⟩
    have cell : ∀ j, j < l.length * 3 → w.cell? ⟨g, j, none⟩ = some (fval l j) := by
      intro j hj
      rw [cell_of_row _ _ _ _ _ _ hg]
      have := (fvals_get l j (fval l j)).2 ⟨hj, rfl⟩
      rw [← hc4, List.getElem?_take, if_pos hj] at this
      simpa using this
    obtain ⟨p0, p1, p2⟩ := fval_parts l q hq
    rw [add_zero_block]
    exact ⟨by rw [cell _ (by omega), p0], by show w.cell? ⟨g, q * 3 + 1, none⟩ = _; rw [cell _ (by omega), p1], by show w.cell? ⟨g, q * 3 + 2, none⟩ = _; rw [cell _ (by omega), p2], hs _ (List.getElem_mem _)⟩
theorem flds_names {w : World} {a : Option Addr} {l : List FieldV} (h : SlAt 3 FieldAt w a l) : ∀ y ∈ l, y.name.size ≤ 9223372036854775807 := by
  intro y hy
  obtain ⟨j, hj, rfl⟩ := List.mem_iff_getElem.1 hy
  obtain ⟨x, e, hx, hi⟩ := h (by omega)
  exact (hi j hj).2.2.2
end Go.Proofs.YtfckbkhnelgjbaaDoor
end
/- slices.Clone at []api.Field. -/
section
namespace Go.Proofs.YtfckbkhnelgjbaaDoor
open Go.ChangeShapes Go.WideShapes Go.ChangeAt Go.RowKit Go.Nm Go.Mem
set_option linter.unusedVariables false
/-- the clone of fields, in new memory -/
def FClonePost (l : List FieldV) (n : Nat) (w : World) (e : Ending) (w' : World) : Prop := ∃ a c, e = .returned (.slice a n c) ∧ n ≤ c ∧ c ≤ 9223372036854775807 ∧ Up w.heap.size (fun w => SlAt 3 FieldAt w a l) w' ∧ Below w.heap.size w w'
theorem flds_up {B : Nat} {w w2 : World} {a : Option Addr} {l : List FieldV} (hs : SameUp B w w2) (hp : ∀ x, a = some x → B ≤ x.block) (h : SlAt 3 FieldAt w a l) : SlAt 3 FieldAt w2 a l := fun h0 => by
  obtain ⟨x, e, hx, hi⟩ := h h0
  have hB := hp x e
  refine ⟨x, e, Nat.lt_of_lt_of_le hx hs.1, fun i hl => ?_⟩
  obtain ⟨k0, k1, k2, k3⟩ := hi i hl
  exact ⟨cell_up hs (by rw [block_of_add]; exact hB) k0, cell_up hs (by simp only [block_of_add]; exact hB) k1, cell_up hs (by simp only [block_of_add]; exact hB) k2, k3⟩
set_option maxHeartbeats 1000000 in
theorem clone_flds (l : List FieldV) (a : Option Addr) (n cap : Nat) (hn : l.length = n) (h1 : n ≤ 1048576) (w : World) (hin : SlAt 3 FieldAt w a l) :
    Calls Tryd.prog 22 #[.slice a n cap] w (FClonePost l n w) := by
  have hnames := flds_names hin
  rcases a with _ | x
  · have h0 : n = 0 := by
      rcases Nat.eq_zero_or_pos n with h | h
      · exact h
      · obtain ⟨x, h2, _⟩ := hin (by omega)
        cases h2
    subst h0
    have HN := Lib.hid hn
    clear hin hn hnames
    have hq := fun wx => Lib.run_eql_slice_nil (P := Tryd.prog) wx 53 57 none 0 cap 0 0 Tryd.underlying53
    simp only [Option.isNone] at hq
    go_enter Tryd.func22, Tryd.ntmps22
    go_wp2
    go_ret
    exact ⟨none, 0, rfl, Nat.le_refl _, by omega, fun w2 _ h => by rw [HN.out] at h; omega, Below.refl _ _⟩
  · have HN := Lib.hid hn
    have HI := Lib.hid hin
    have HNM := Lib.hid hnames
    clear hn hin hnames
    have hq := fun wx => Lib.run_eql_slice_nil (P := Tryd.prog) wx 53 57 (some x) n cap 0 0 Tryd.underlying53
    simp only [Option.isNone] at hq
    go_enter Tryd.func22, Tryd.ntmps22
    have hlit : (w.alloc (.cells #[] 57)).ownsRow w.heap.size 57 3 (.slice (some ⟨w.heap.size, 0, none⟩) 0 0) 0 (fvals []) := World.ownsRow_lit (e := 57) (size := 3) (base := w.heap.size) w #[] 0 (Nat.le_refl _) (by unfold maxLen; omega) rfl
    have HLIT := Lib.hid hlit
    have hba := (Below.refl w.heap.size w).alloc (Nat.le_refl _) (.cells #[] 57)
    have HC := Lib.hid (cells_flds (HI.out.below FieldAt.abides hba))
    clear hlit
    go_wp2_with (at_builtin; go_must (refine wpList_append_cells rfl _ _ 53 rfl w.heap.size 57 (.agg #[.string ByteArray.empty, .int .i64 0, .int .i64 0]) 3 32 Tryd.underlying53 (by kernel_rfl) rfl (by decide) (.slice (some ⟨w.heap.size, 0, none⟩) 0 0) 0 (fvals []) rfl HLIT.out (some x) n cap (fvals l) rfl (by rw [fvals_len, HN.out]) HC.out (fvals_one l) (by unfold maxLen; omega) (by omega) (by simp) ?_))
    intro v1 w1 hown hgr hat
    have hb1 : Below w.heap.size w w1 := hba.grown hgr (by simp) (fun k hk => by
      have : k = w.heap.size := by simpa [Value.ownBlock] using hk.symm
      omega)
    have hown2 : w1.ownsRow w.heap.size 57 3 v1 n (fvals l) := by
      have := hown
      rw [show fvals [] = [] from rfl, List.nil_append] at this
      exact this
    obtain ⟨a1, c1, hv, hc1, hc2, hsl, hx1⟩ := flds_own HN.out hown2 HNM.out
    have HV := Lib.hid hv
    have HUP := Lib.hid (show Up w.heap.size (fun w => SlAt 3 FieldAt w a1 l) w1 from fun w2 hs => flds_up hs hx1 hsl)
    clear hown hgr hat hba hown2 hv hsl hx1
    go_wp2
    go_ret
    exact ⟨a1, c1, by rw [HV.out]; rfl, hc1, hc2, HUP.out, hb1⟩
end Go.Proofs.YtfckbkhnelgjbaaDoor
end
/- Drawn regions that append to a row of the call's own: the relations of worlds. -/
section
namespace Go.Proofs.YtfckbkhnelgjbaaDoor
open Go.ChangeShapes Go.WideShapes Go.ChangeAt Go.RowKit Go.Nm Go.Mem
set_option linter.unusedVariables false
/-- what operation i does: the append (q) writes its row, the others only lay blocks -/
def RG (q : Nat) (row : Option Nat) (i : Nat) (a b : World) : Prop := (i ≠ q → Below a.heap.size a b) ∧ (i = q → a.grownBy b row)
theorem RG.same (q : Nat) (row : Option Nat) (i : Nat) (w : World) : RG q row i w w := ⟨fun _ => Below.refl _ _, fun _ => World.grownBy.refl _ _⟩
theorem RG.below {q : Nat} {row : Option Nat} {i : Nat} {a b : World} (hi : i ≠ q) (hb : Below a.heap.size a b) : RG q row i a b := ⟨fun _ => hb, fun h => absurd h hi⟩
theorem RG.at_ {q : Nat} {row : Option Nat} {i : Nat} {a b : World} (hi : i = q) (hg : a.grownBy b row) : RG q row i a b := ⟨fun h => absurd hi h, fun _ => hg⟩
theorem RG.gb {q : Nat} {row : Option Nat} {i : Nat} {a b : World} (h : RG q row i a b) : a.grownBy b row := by
  by_cases hi : i = q
  · exact h.2 hi
  · have hb := h.1 hi
    exact ⟨hb.os, hb.tape, hb.output, hb.size, fun k hk _ => hb.block k hk⟩
theorem RG.sub {q : Nat} {row : Option Nat} : ∀ i a b, RG q row i a b → a.grownBy b row := fun _ _ _ h => h.gb
theorem gb_drew (row : Option Nat) (w : World) : w.grownBy w.drew row := ⟨rfl, rfl, rfl, Nat.le_refl _, fun k _ _ => rfl⟩
theorem cells_gbo {w w' : World} {g : Nat} {zs : List Value} {row : Option Nat} (h : CellsAt w (some ⟨g, 0, none⟩) zs) (hg : w.grownBy w' row) (hne : some g ≠ row) : CellsAt w' (some ⟨g, 0, none⟩) zs := fun h0 => by
  obtain ⟨x, e, hx, hc⟩ := h h0
  injection e with e
  subst e
  exact ⟨_, rfl, Nat.lt_of_lt_of_le hx hg.size, fun j u hu => World.grownBy.cell hg (hc j u hu) (by rw [block_of_add]; exact hne)⟩
def EKind (w : World) (cs : List Value) (y : KindV) : Prop := ∃ a cap, cs = [.string y.name, .slice a y.fields.length cap] ∧ y.name.size ≤ 9223372036854775807 ∧ y.fields.length ≤ cap ∧ cap ≤ 9223372036854775807 ∧ SlAt 3 FieldAt w a y.fields
theorem EKind.at (w : World) (g q : Nat) (cs : List Value) (y : KindV) (h : EKind w cs y) (hc : ∀ i u, cs[i]? = some u → w.cell? ⟨g, q + i, none⟩ = some u) : KindAt w ⟨g, q, none⟩ y := by
  obtain ⟨a, cap, rfl, h1, h2, h3, hi⟩ := h
  exact ⟨hc 0 _ rfl, h1, a, cap, hc 1 _ rfl, h2, h3, hi⟩
def EItem (w : World) (cs : List Value) (y : ItemV) : Prop := ∃ a cap, cs = [.int .i64 y.n, .int .i64 y.gen, .slice a y.comps.length cap] ∧ SlAt 2 CompAt w a y.comps
theorem EItem.at (w : World) (g q : Nat) (cs : List Value) (y : ItemV) (h : EItem w cs y) (hc : ∀ i u, cs[i]? = some u → w.cell? ⟨g, q + i, none⟩ = some u) : ItemAt w ⟨g, q, none⟩ y := by
  obtain ⟨a, cap, rfl, hi⟩ := h
  exact ⟨hc 0 _ rfl, hc 1 _ rfl, a, cap, hc 2 _ rfl, hi⟩
section
variable {P : Program} {ops : Array Oper} {o : Oper} {F : Act} {w : World} {Q : Exit → Act → World → Prop}
theorem rg_slice_kind (t e : TypeId) (x0 : Operand) (hgd : o.guard = none) (ho : o.op = .buildSlice t 1 #[(0, x0)]) (s : ByteArray) (a : Option Addr) (n c : Nat) (h0 : F.eval x0 = .agg #[.string s, .slice a n c])
    (hu : P.underlying t = some (.slice e)) (hi : (P.info? e).map (fun i => (i.zero, i.size)) = some (some (.agg #[.string ByteArray.empty, .slice none 0 0]), 2)) (h : Q .normal (F.put o.dst (.slice (some ⟨w.heap.size, 0, none⟩) 1 1)) (w.alloc (.cells #[.string s, .slice a n c] e (0, 0)))) : wpList P ops Q [o] F w := by
  obtain ⟨i, hi2, hzz⟩ := Option.map_eq_some_iff.1 hi
  simp only [Prod.mk.injEq] at hzz
  refine wpList_plain hgd fun K hK => ?_
  refine wp_buildSlice t e 1 _ ho #[.string s, .slice a n c] i (.agg #[.string ByteArray.empty, .slice none 0 0]) hu hi2 hzz.1 (by rw [hzz.2]; decide) (by rw [hzz.2]; decide) ?_ (hK _ _ h)
  rw [hzz.2]
  simp only [List.map_toArray, List.map_cons, List.map_nil, h0]
  have hr : Array.range 2 = #[0, 1] := by decide
  simp [Instr.fill, Value.cells, hr]
theorem rg_slice_item (t e : TypeId) (x0 : Operand) (hgd : o.guard = none) (ho : o.op = .buildSlice t 1 #[(0, x0)]) (p g : Int) (a : Option Addr) (n c : Nat) (h0 : F.eval x0 = .agg #[.int .i64 p, .int .i64 g, .slice a n c])
    (hu : P.underlying t = some (.slice e)) (hi : (P.info? e).map (fun i => (i.zero, i.size)) = some (some (.agg #[.int .i64 0, .int .i64 0, .slice none 0 0]), 3)) (h : Q .normal (F.put o.dst (.slice (some ⟨w.heap.size, 0, none⟩) 1 1)) (w.alloc (.cells #[.int .i64 p, .int .i64 g, .slice a n c] e (0, 0)))) : wpList P ops Q [o] F w := by
  obtain ⟨i, hi2, hzz⟩ := Option.map_eq_some_iff.1 hi
  simp only [Prod.mk.injEq] at hzz
  refine wpList_plain hgd fun K hK => ?_
  refine wp_buildSlice t e 1 _ ho #[.int .i64 p, .int .i64 g, .slice a n c] i (.agg #[.int .i64 0, .int .i64 0, .slice none 0 0]) hu hi2 hzz.1 (by rw [hzz.2]; decide) (by rw [hzz.2]; decide) ?_ (hK _ _ h)
  rw [hzz.2]
  simp only [List.map_toArray, List.map_cons, List.map_nil, h0]
  have hr : Array.range 3 = #[0, 1, 2] := by decide
  simp [Instr.fill, Value.cells, hr]
end
end Go.Proofs.YtfckbkhnelgjbaaDoor
end
/- slices.Equal of two slices of integers. -/
section
namespace Go.Proofs.YtfckbkhnelgjbaaDoor
open Go.ChangeShapes Go.WideShapes Go.ChangeAt Go.RowKit Go.Mem
set_option linter.unusedVariables false
theorem list_ne_of_getD {zs ys : List Int} (k : Nat) (hk : k < zs.length) (hl : zs.length = ys.length) (h : zs.getD k 0 ≠ ys.getD k 0) : zs ≠ ys := by
  rintro rfl; exact h rfl

set_option maxHeartbeats 4000000 in
theorem eq_ints (a b : Option Addr) (ca cb : Nat) (zs ys : List Int) (h1 : zs.length ≤ 9223372036854775807) (h2 : ys.length ≤ 9223372036854775807) (w : World) (ha : IntsAt .i64 w a zs) (hb : IntsAt .i64 w b ys) :
    Calls Tryd.prog 13 #[.slice a zs.length ca, .slice b ys.length cb] w fun e w' => e = .returned (.bool (decide (zs = ys))) ∧ Below w.heap.size w w' := by
  by_cases hl : zs.length = ys.length
  · obtain ⟨n, hn⟩ : ∃ n, n = zs.length := ⟨_, rfl⟩
    have hm : ys.length = n := by omega
    have hne : ((n : Int) != (n : Int)) = false := by simp
    rw [hm, ← hn]
    have HN := Lib.hid hn
    have HM := Lib.hid hm
    have HA := Lib.hid ha
    have HB := Lib.hid hb
    have h63 : n ≤ 9223372036854775807 := by omega
    clear hn hm ha hb hl h1 h2
    go_enter Tryd.func13, Tryd.ntmps13
    go_wp2_with fail
    go_loopg [5, 13] n (fun gk _ vi wx => ∃ k : Nat, k ≤ n ∧ gk = n - k ∧ vi = .int .i64 k ∧ (∀ j, j < k → zs.getD j 0 = ys.getD j 0) ∧ Below w.heap.size w wx)
    case atStart => exact ⟨0, by omega, rfl, rfl, fun j h => by omega, Below.refl _ _⟩
    case round =>
      obtain ⟨k, g1, g2, rfl, heq, hbw⟩ := hrel
      have G2 := Lib.hid g2
      have HEQ := Lib.hid heq
      clear g2 heq
      by_cases hlt : k < n
      · obtain ⟨x, rfl, hx, hcx⟩ := HA.out (by rw [← HN.out]; omega)
        obtain ⟨y, rfl, hy, hcy⟩ := HB.out (by rw [HM.out]; omega)
        obtain ⟨p, hp⟩ : ∃ p, p = zs.getD k 0 := ⟨_, rfl⟩
        obtain ⟨q, hq⟩ : ∃ q, q = ys.getD k 0 := ⟨_, rfl⟩
        have cx := (hbw.cell (by rw [block_of_add]; exact hx)).trans (hcx k (by rw [← HN.out]; omega))
        have cy := (hbw.cell (by rw [block_of_add]; exact hy)).trans (hcy k (by rw [HM.out]; omega))
        rw [← hp] at cx
        rw [← hq] at cy
        have i1 : (0 : Int) ≤ (k : Int) := by omega
        have i2 : (k : Int) < (n : Int) := by omega
        have HPQ := Lib.hid (And.intro hp hq)
        clear hcx hcy hp hq
        by_cases e : p = q
        · subst e
          have hee : (p != p) = false := by simp
          go_wp2
          go_quiet (fail)
          go_wp2
          go_roundg (n - (k + 1))
          case measure => rw [G2.out]; omega
          case rel => exact ⟨k + 1, by omega, rfl, by go_num, fun j hj => by
            by_cases q : j = k
            · rw [q, ← HPQ.out.1, ← HPQ.out.2]
            · exact HEQ.out j (by omega), below_drewN hbw _⟩
        · have hee : (p != q) = true := by simp [e]
          have hz : zs ≠ ys := list_ne_of_getD k (by rw [← HN.out]; exact hlt) (by rw [← HN.out, HM.out]) (by rw [← HPQ.out.1, ← HPQ.out.2]; exact e)
          have HZ := Lib.hid hz
          clear hz e
          go_wp2
          go_quiet (fail)
          go_wp2
          go_ret
          exact ⟨by rw [decide_eq_false HZ.out]; rfl, below_drewN hbw _⟩
      · obtain rfl : k = n := by omega
        have hz : zs = ys := getD_eq_of_ext (by rw [← HN.out, HM.out]) (fun j hj => HEQ.out j (by rw [HN.out]; exact hj))
        have HZ := Lib.hid (decide_eq_true hz)
        clear hz
        go_wp2
        go_ret
        exact ⟨by rw [HZ.out]; rfl, hbw⟩
  · have hz : zs ≠ ys := fun h => hl (by rw [h])
    have HZ := Lib.hid hz
    obtain ⟨n, hn⟩ : ∃ n, n = zs.length := ⟨_, rfl⟩
    obtain ⟨m, hm⟩ : ∃ m, m = ys.length := ⟨_, rfl⟩
    rw [← hn, ← hm] at hl ⊢
    have hne : ((n : Int) != (m : Int)) = true := by simp; omega
    clear hz hl hn hm
    go_enter Tryd.func13, Tryd.ntmps13
    go_wp2_with fail
    go_ret
    exact ⟨by rw [decide_eq_false HZ.out]; rfl, Below.refl _ _⟩

end Go.Proofs.YtfckbkhnelgjbaaDoor
end
