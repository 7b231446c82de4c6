/- Lemmas for the law SystemChecks: FitSort, SystCheck. No conditions. -/
import Derived.Test.YtijeninfmjhbnaaDoorM24
import Derived.Test.YtijeninfmjhbnaaDoorM29
import Derived.Shelf.SlSortCmp.NoneTotal
import Derived.Sort.OwnSorted
import Derived.Test.YtijeninfmjhbnaaDoorM12
import Derived.Test.YtijeninfmjhbnaaDoorM07
/- The sort of fitted components, out of the kit's contract of slices.SortFunc. -/
section
namespace Go.Proofs.YtijeninfmjhbnaaDoor
open Go.ChangeShapes Go.WideShapes Go.ChangeAt Go.RowKit Go.Nm Go.Mem Go.Shelf
open Go.Sort (putRow putCells mapBlock grow SWO PermIn SortedIn onCells heap_grow_old flatK get_flatK HoldsK)
set_option linter.unusedVariables false
/-- a component as its two cells, with its numbers beside -/
abbrev KS := (Int × Option Addr × Nat × Nat) × CompV
def encS (x : KS) : List Value := [.int .i64 x.1.1, .slice x.1.2.1 x.1.2.2.1 x.1.2.2.2]
def cfS (x y : KS) : Int := cmpI x.1.1 y.1.1
theorem ltS (x y : KS) : ltOf cfS x y = decide (x.1.1 < y.1.1) := by
  unfold ltOf cfS cmpI
  by_cases h1 : x.1.1 < y.1.1
  · simp [h1]
  · by_cases h2 : y.1.1 < x.1.1 <;> simp [h1, h2]
theorem swoS : SWO (ltOf cfS) where
  irrefl x := by rw [ltS]; simp
  trans x y z h1 h2 := by rw [ltS] at *; simp at *; omega
  ntrans x y z h1 h2 := by rw [ltS] at *; simp at *; omega
set_option maxHeartbeats 1000000 in
theorem clos_sort (k1 k2 : Int) (a1 a2 : Option Addr) (n1 c1 n2 c2 : Nat) (W : World) : Calls Tryd.prog 47 #[.agg #[.int .i64 k1, .slice a1 n1 c1], .agg #[.int .i64 k2, .slice a2 n2 c2]] W fun e w' => e = .returned (.int .i64 (cmpI k1 k2)) ∧ ∃ q os', w' = grow (W.drewN q) os' := by
  have HC := Lib.hid (fun W' => cmp_ints k1 k2 W')
  obtain ⟨R, hR⟩ : ∃ R, R = cmpI k1 k2 := ⟨_, rfl⟩
  rw [← hR] at HC ⊢
  clear hR
  go_enter Tryd.func47, Tryd.ntmps47
  go_wp2_with fail
  refine (HC.out _).mono ?_
  rintro e w' ⟨rfl, rfl⟩
  go_wp2
  go_ret
  exact ⟨rfl, 0, _, by rw [Sort.alloc_eq_grow, Sort.alloc_eq_grow, Sort.grow_grow]; rfl⟩
theorem cmpLaysS (blk off size : Nat) (w : World) : CmpLays Tryd.prog 47 #[] encS 2 cfS blk off size w :=
  fun _ _ _ _ x y => clos_sort x.1.1 y.1.1 _ _ _ _ _ _ _
theorem heap_sortedG {w : World} {g n : Nat} {os : Array Obj} {cur : Array Value} {e : TypeId} {fr : Nat × Nat} (F : Array Value) (hb : w.heap[g]? = some (.cells cur e fr)) :
    (grow (putRow id (Sort.ahead w n) g 0 F) os).heap[g]? = some (.cells (putCells id 0 F cur) e fr) := by
  have hg : g < w.heap.size := (Array.getElem?_eq_some_iff.1 hb).1
  rw [heap_grow_old _ _ (by simpa using hg)]
  simp [putRow, mapBlock, Sort.ahead, Array.getElem?_modify, hb, onCells]
theorem grownBy_sortedG {w : World} {g n : Nat} {os : Array Obj} (F : Array Value) : w.grownBy (grow (putRow id (Sort.ahead w n) g 0 F) os) (some g) := by
  refine ⟨rfl, rfl, rfl, by simp, fun k hk hne => ?_⟩
  rw [heap_grow_old _ _ (by simpa using hk)]
  have : g ≠ k := fun e => hne (by rw [e])
  simp [putRow, mapBlock, Sort.ahead, Array.getElem?_modify, this]
theorem take_putCellsG (cur F : Array Value) (h : F.size ≤ cur.size) : (putCells id 0 F cur).toList.take F.size = F.toList := by
  apply List.ext_getElem?
  intro j
  by_cases hj : j < F.size
  · rw [List.getElem?_take_of_lt hj, Array.getElem?_toList]
    simp [putCells, hj, show j < cur.size by omega]
  · rw [List.getElem?_take_eq_none (by omega), List.getElem?_eq_none (by simp; omega)]
theorem flatK_list (D : List KS) : (flatK encS 2 D.toArray).toList = (D.map encS).flatten := by
  have hl : (D.map encS).flatten.length = D.length * 2 := by
    rw [flat_len (sz := 2) _ (fun c hc => by obtain ⟨x, _, rfl⟩ := List.mem_map.1 hc; rfl), List.length_map]
  apply List.ext_getElem?
  intro t
  by_cases ht : t < D.length * 2
  · have h2 : t / 2 < (D.map encS).length := by rw [List.length_map]; omega
    have hf := flat_get (sz := 2) (D.map encS) (fun c hc => by obtain ⟨x, _, rfl⟩ := List.mem_map.1 hc; rfl) (t / 2) h2 (t % 2) (by omega)
    rw [show t / 2 * 2 + t % 2 = t by omega] at hf
    rw [hf, Array.getElem?_toList]
    have hs : t < (flatK encS 2 D.toArray).size := by simp; omega
    have hg := get_flatK encS 2 D.toArray t (by simpa using ht)
    rw [getElem!_pos _ t hs] at hg
    rw [Array.getElem?_eq_getElem hs, hg]
    have h3 : t / 2 < D.length := by omega
    have e1 : (D.toArray[t / 2]! : KS) = D[t / 2]'h3 := by rw [getElem!_pos D.toArray (t / 2) (by simpa using h3)]; simp
    rw [e1, List.getElem_map]
    have h4 : t % 2 < (encS (D[t / 2]'h3)).length := by show t % 2 < 2; omega
    rw [getElem!_pos (encS (D[t / 2]'h3)) (t % 2) h4, List.getElem?_eq_getElem h4]
  · rw [List.getElem?_eq_none (by simp; omega), List.getElem?_eq_none (by rw [hl]; omega)]
/-- what is known of an element of the row -/
def GoodS (B g : Nat) (W : World) (x : KS) : Prop := x.1.1 = x.2.kind ∧ ∃ lo hi, B ≤ lo ∧ ¬(lo ≤ g ∧ g < hi) ∧ Win lo hi (fun w => EComp w (encS x) x.2) W
theorem sorts_comps : SortsC 47 := by
  intro W B v l hgr hB hl1
  by_cases h0 : l.length = 0
  · have hl : l = [] := List.eq_nil_of_length_eq_zero h0
    subst hl
    obtain ⟨a, c, rfl, _, _⟩ := hgr.slice
    have hcon := AnyF.slices_SortFunc_none Tryd.sortComps a c (.func (.func 47) #[] #[]) W
    change Calls Tryd.prog 46 _ _ _ at hcon
    refine hcon.mono ?_
    rintro e w' ⟨he, rfl⟩
    exact ⟨he, ⟨[], List.Perm.refl _, List.Pairwise.nil, hgr⟩, Below.refl _ _⟩
  · obtain ⟨css, h1, h2, h3, h4⟩ := hgr
    rcases h3.2 with ⟨_, h⟩ | ⟨g, cap, cur, rfl, hBg, hb, hnc, hcm, hcs, htk⟩
    · omega
    · have key : ∀ j, j < l.length → ∃ x : KS, css[j]? = some (encS x) ∧ l[j]? = some x.2 ∧ GoodS B g W x := by
        intro j hj
        obtain ⟨lo, hi, p0, p1, p2⟩ := h4 j hj (by omega)
        obtain ⟨a, c, ec, hi2⟩ := p2.now
        refine ⟨((l[j].kind, a, l[j].vals.length, c), l[j]), ?_, List.getElem?_eq_getElem hj, rfl, lo, hi, p0, p1 g rfl, ?_⟩
        · rw [List.getElem?_eq_getElem (by omega), ec]; rfl
        · have : encS ((l[j].kind, a, l[j].vals.length, c), l[j]) = css[j]'(by omega) := ec.symm
          rw [this]
          exact p2
      obtain ⟨Y, hY⟩ := Go.Deep.choose_lt key
      obtain ⟨D, hD⟩ : ∃ D : List KS, D = (List.range l.length).map Y := ⟨_, rfl⟩
      have hDl : D.length = l.length := by rw [hD]; simp
      have hDg : ∀ j (h : j < D.length), D[j] = Y j := fun j h => by simp [hD]
      have hcss : D.map encS = css := by
        apply List.ext_getElem (by rw [List.length_map, hDl, h1])
        intro j k1 k2
        rw [List.getElem_map, hDg]
        have := (hY j (by omega)).1
        rw [List.getElem?_eq_getElem k2] at this
        injection this with this
        exact this.symm
      have hls : D.map (·.2) = l := by
        apply List.ext_getElem (by rw [List.length_map, hDl])
        intro j k1 k2
        rw [List.getElem_map, hDg]
        have := (hY j (by omega)).2.1
        rw [List.getElem?_eq_getElem k2] at this
        injection this with this
        exact this.symm
      have hgood : ∀ x ∈ D, GoodS B g W x := by
        intro x hx
        obtain ⟨j, hj, rfl⟩ := List.getElem_of_mem hx
        rw [hDg]
        exact (hY j (by omega)).2.2
      have hfl := flatK_list D
      rw [hcss] at hfl
      have hfs : (flatK encS 2 D.toArray).size = l.length * 2 := by simp [hDl]
      have hH : HoldsK encS 2 W g 0 D.toArray := by
        intro j hj
        refine ⟨?_, by simp [World.frozen?, hb]⟩
        rw [Nat.zero_add, h3.cellAt j (by rw [hfs] at hj; exact hj), ← hfl, Array.getElem?_toList, getElem!_pos _ j hj, Array.getElem?_eq_getElem hj]
        rfl
      have hgl : g < W.heap.size := lt_of_heap hb
      have hcon := AnyQ.slices_SortFunc Tryd.sortComps 2 Tryd.isAgg87 Tryd.sizeOf87 encS (fun _ => rfl) (fun x v hv => by simp [encS] at hv; rcases hv with rfl | rfl <;> rfl) cfS swoS 47 #[] g 0 cap D.toArray W
        (enters_of Tryd.func47 (by kernel_rfl) rfl) (cmpLaysS g 0 _ W) hH hgl (by simp; omega)
      change Calls Tryd.prog 46 _ _ _ at hcon
      rw [show D.toArray.size = l.length by simp [hDl]] at hcon
      refine hcon.mono ?_
      rintro e w' ⟨he, d', m, os, hp, hs, hw⟩
      obtain ⟨hps, _, hpp⟩ := hp
      have hd's : d'.size = l.length := by rw [hps]; simp [hDl]
      have hperm : d'.toList.Perm D := by
        have e1 : d'.extract 0 l.length = d' := by rw [← hd's]; simp
        have e2 : D.toArray.extract 0 l.length = D.toArray := by rw [show l.length = D.toArray.size by simp [hDl]]; simp
        rw [e1, e2] at hpp
        simpa using hpp
      have hw2 : w' = grow (putRow id (Sort.ahead W m) g 0 (flatK encS 2 d')) os := hw
      have hfl2 := flatK_list d'.toList
      rw [show d'.toList.toArray = d' by simp] at hfl2
      have hfs2 : (flatK encS 2 d').size = l.length * 2 := by simp [hd's]
      have hgb : W.grownBy w' (some g) := by rw [hw2]; exact grownBy_sortedG _
      have hlen' : (d'.toList.map (·.2)).length = l.length := by simp [hd's]
      refine ⟨he, ⟨d'.toList.map (·.2), by rw [← hls]; exact hperm.map _, ?_, ?_⟩, (Below.refl B W).grown hgb hB (fun r hr => by injection hr with hr; rw [← hr]; exact hBg)⟩
      · rw [List.pairwise_iff_getElem]
        intro i j hi hj hij hlt
        rw [hlen'] at hi hj
        rw [List.getElem_map, List.getElem_map] at hlt
        have hx := hs i j (Nat.zero_le _) hij hj
        rw [getElem!_pos d' i (by omega), getElem!_pos d' j (by omega), ltS] at hx
        have g1 := (hgood _ (hperm.mem_iff.1 (List.getElem_mem (show i < d'.toList.length by simp; omega)))).1
        have g2 := (hgood _ (hperm.mem_iff.1 (List.getElem_mem (show j < d'.toList.length by simp; omega)))).1
        have hx' := of_decide_eq_false hx
        simp only [Array.getElem_toList] at hlt g1 g2
        omega
      · refine ⟨d'.toList.map encS, by simp, fun c hc => by obtain ⟨x, _, rfl⟩ := List.mem_map.1 hc; rfl, ?_, fun j hj hj2 => ?_⟩
        · rw [hlen']
          refine ⟨?_, Or.inr ⟨g, cap, _, rfl, hBg, by rw [hw2]; exact heap_sortedG _ hb, hnc, hcm, by simp [putCells, hcs], ?_⟩⟩
          · rw [← hfl2, Array.length_toList, hfs2]
          · rw [← hfl2, ← hfs2]
            exact take_putCellsG cur _ (by rw [hfs2, hcs]; exact Nat.mul_le_mul_right _ hnc)
        · have hjl : j < d'.toList.length := by simpa using hj
          obtain ⟨_, lo, hi, p0, p1, p2⟩ := hgood _ (hperm.mem_iff.1 (List.getElem_mem hjl))
          rw [List.getElem_map, List.getElem_map]
          refine ⟨lo, hi, p0, fun g2 hg2 => ?_, p2.to (Nat.le_trans p2.1 hgb.size) (fun q q1 q2 => hgb.block q (Nat.lt_of_lt_of_le q2 p2.1) (fun e => p1 (by injection e with e; rw [← e]; exact ⟨q1, q2⟩)))⟩
          injection hg2 with hg2
          have hg3 : g = g2 := hg2
          rw [← hg3]; exact p1
end Go.Proofs.YtijeninfmjhbnaaDoor
end
/- system.Check. -/
section
namespace Go.Proofs.YtijeninfmjhbnaaDoor
open Go.ChangeShapes Go.WideShapes Go.ChangeAt Go.RowKit Go.Nm Go.Mem
set_option linter.unusedVariables false
theorem kindsE_len' {l : List KindV} (h : kindsE l = 0) : l.length ≤ 16 := by
  unfold kindsE at h
  split at h
  · cases h
  · omega
theorem op_cells {w : World} {x : Addr} {l : List OpV} (h : SlAt 11 OpAt w (some x) l) (i : Nat) (hi : i < l.length) : ∃ xb xo, x = ⟨xb, xo, none⟩ ∧ CellsK w xb (xo + i * 11) [.int .i64 l[i].do_, .int .i64 l[i].tk, .int .i64 l[i].tf, .bool l[i].a.has, .int .i64 l[i].a.n, .int .i64 l[i].a.rk, .int .i64 l[i].a.rf, .bool l[i].b.has, .int .i64 l[i].b.n, .int .i64 l[i].b.rk, .int .i64 l[i].b.rf] := by
  obtain ⟨y, hy, hb, hc⟩ := h (by omega)
  injection hy with hy
  subst hy
  obtain ⟨xb, xo, sp⟩ := x
  have hsp : sp = none := by
    obtain ⟨⟨f0, _⟩, _⟩ := hc 0 (by omega)
    simpa [Addr.add] using World.cell?_spot f0
  obtain ⟨⟨e0, e1, e2⟩, ⟨e3, e4, e5, e6⟩, e7, e8, e9, e10⟩ := hc i hi
  subst hsp
  rw [Addr.add_lit] at e0 e1 e2 e3 e4 e5 e6 e7 e8 e9 e10
  refine ⟨xb, xo, rfl, fun j v hv => ?_⟩
  match j with
  | 0 => cases hv; exact e0
  | 1 => cases hv; exact e1
  | 2 => cases hv; exact e2
  | 3 => cases hv; exact e3
  | 4 => cases hv; exact e4
  | 5 => cases hv; exact e5
  | 6 => cases hv; exact e6
  | 7 => cases hv; exact e7
  | 8 => cases hv; exact e8
  | 9 => cases hv; exact e9
  | 10 => cases hv; exact e10
  | j + 11 => simp at hv
structure SmallS (s : SystV) : Prop where
  w : s.withs.length ≤ 1048576
  wo : s.without.length ≤ 1048576
  r : s.reads.length ≤ 1048576
  wr : s.writes.length ≤ 1048576
  o : s.ops.length ≤ 1048576
  sp : s.spawn.length ≤ 1048576
  v : ∀ z ∈ s.spawn, z.vals.length ≤ 1048576
  nm : s.name.size ≤ 9223372036854775807
set_option maxHeartbeats 16000000 in
set_option maxRecDepth 100000 in
theorem sys_Check (hsort : SortsC 47) (ks : List KindV) (ka : Option Addr) (n kc : Nat) (hn : ks.length = n) (h1 : n ≤ 1048576) (hkc : n ≤ kc) (hkm : kc ≤ 9223372036854775807) (s : SystV) (v : Value) (W : World) (hz : SlAt 2 KindAt W ka ks) (hv : SystIn W v s) (hs : SmallS s) :
    Calls Tryd.prog 6 #[.slice ka n kc, v] W fun e w' => e = .returned (.int .i64 (sysE ks s)) ∧ Below W.heap.size W w' := by
  obtain ⟨a1, c1, a2, c2, a3, c3, a4, c4, a5, c5, a6, c6, rfl, ⟨i1, i2, i3, i4, i5, i6⟩, ⟨p1, p2, p3, p4, p5, p6⟩, ⟨m1, m2, m3, m4, m5, m6⟩, m0⟩ := hv.out
  obtain ⟨R, hR⟩ : ∃ R, R = sysE ks s := ⟨_, rfl⟩
  rw [← hR]
  obtain ⟨nm, hnm⟩ : ∃ x, x = s.name := ⟨_, rfl⟩
  obtain ⟨n1, hn1⟩ : ∃ x, x = s.withs.length := ⟨_, rfl⟩
  obtain ⟨n2, hn2⟩ : ∃ x, x = s.without.length := ⟨_, rfl⟩
  obtain ⟨n3, hn3⟩ : ∃ x, x = s.reads.length := ⟨_, rfl⟩
  obtain ⟨n4, hn4⟩ : ∃ x, x = s.writes.length := ⟨_, rfl⟩
  obtain ⟨n5, hn5⟩ : ∃ x, x = s.ops.length := ⟨_, rfl⟩
  obtain ⟨n6, hn6⟩ : ∃ x, x = s.spawn.length := ⟨_, rfl⟩
  rw [← hnm, ← hn1, ← hn2, ← hn3, ← hn4, ← hn5, ← hn6]
  have hb0 := (Below.refl W.heap.size W).alloc (Nat.le_refl _) (.cells #[.string nm, .slice a1 n1 c1, .slice a2 n2 c2, .slice a3 n3 c3, .slice a4 n4 c4, .slice a5 n5 c5, .slice a6 n6 c6] 27)
  have hrow := heap_alloc_new W (.cells #[.string nm, .slice a1 n1 c1, .slice a2 n2 c2, .slice a3 n3 c3, .slice a4 n4 c4, .slice a5 n5 c5, .slice a6 n6 c6] 27)
  obtain ⟨w0, hw0⟩ : ∃ w, w = W.alloc (.cells #[.string nm, .slice a1 n1 c1, .slice a2 n2 c2, .slice a3 n3 c3, .slice a4 n4 c4, .slice a5 n5 c5, .slice a6 n6 c6] 27) := ⟨_, rfl⟩
  rw [← hw0] at hb0 hrow
  have HW0 := Lib.hid hw0
  obtain ⟨g, hg⟩ : ∃ g, g = W.heap.size := ⟨_, rfl⟩
  rw [← hg] at hrow
  have HG := Lib.hid hg
  have HB := Lib.hid hb0
  have HROW := Lib.hid hrow
  have HI1 := Lib.hid i1
  have HI2 := Lib.hid i2
  have HI3 := Lib.hid i3
  have HI4 := Lib.hid i4
  have HI5 := Lib.hid i5
  have HI6 := Lib.hid i6
  have HN := Lib.hid hn
  have H1 := Lib.hid h1
  have HKC := Lib.hid (And.intro hkc hkm)
  have HZ := Lib.hid hz
  have HS := Lib.hid hs
  have HNM := Lib.hid hnm
  have HN1 := Lib.hid hn1
  have HN2 := Lib.hid hn2
  have HN3 := Lib.hid hn3
  have HN4 := Lib.hid hn4
  have HN5 := Lib.hid hn5
  have HN6 := Lib.hid hn6
  have HP6 := Lib.hid (show n6 ≤ c6 by rw [hn6]; exact p6)
  have HR := Lib.hid hR
  obtain ⟨K, hK⟩ : ∃ K, K = kindsE ks := ⟨_, rfl⟩
  have cK := kind_Check ks ka n kc hn (by omega) hkc hkm w0 (hz.below KindAt.abides hb0)
  rw [← hK] at cK
  have CK := Lib.hid cK
  have HK := Lib.hid hK
  clear hb0 hrow hw0 hg i1 i2 i3 i4 i5 i6 p1 p2 p3 p4 p5 p6 m1 m2 m3 m4 m5 m6 m0 hn h1 hkc hkm hz hs hnm hn1 hn2 hn3 hn4 hn5 hn6 hR cK hK hv
  go_enter Tryd.func6, Tryd.ntmps6
  go_wp2_with fail
  rw [← HW0.out, ← HG.out]
  refine CK.out.mono ?_
  rintro e w1 ⟨rfl, hb1⟩
  replace HB := Lib.hid (bt HB.out hb1)
  replace HROW := Lib.hid (heap_below HROW.out hb1)
  clear hb1 CK HW0
  by_cases hK0 : K = 0
  · have hR1 := HR.out
    unfold sysE at hR1
    rw [if_neg (by rw [← HK.out, hK0]; simp)] at hR1
    have HR1 := Lib.hid hR1
    subst hK0
    have t0 : ((0 : Int) != 0) = false := rfl
    obtain ⟨NB, hNB⟩ : ∃ b, b = nameB nm.data.toList := ⟨_, rfl⟩
    have cN := fun w => kind_Name nm (by rw [HNM.out]; exact HS.out.nm) w
    rw [← hNB] at cN
    have CN := Lib.hid cN
    have r0 := cell_of_row _ _ 0 _ _ _ HROW.out
    have r5 := cell_of_row _ _ 5 _ _ _ HROW.out
    have HNB := Lib.hid hNB
    clear hR1 cN hNB HR
    go_wp2_with fail
    refine (CN.out _).mono ?_
    rintro e _ ⟨rfl, rfl⟩
    clear CN t0 r0
    cases NB with
    | false =>
      have HE := Lib.hid (show R = 3 by rw [HR1.out]; unfold sy1; rw [if_pos (by rw [← HNM.out]; exact HNB.out.symm)])
      clear HR1
      go_wp2_with fail
      go_ret
      exact ⟨by rw [HE.out]; rfl, HB.out⟩
    | true =>
      have hR2 := HR1.out
      unfold sy1 at hR2
      rw [if_neg (by rw [← HNM.out, ← HNB.out]; decide), ← HN5.out] at hR2
      by_cases h20 : 20 < n5
      · have HE := Lib.hid (show R = 2 by rw [hR2, if_pos h20])
        clear HR1 hR2
        go_wp2_with fail
        go_ret
        exact ⟨by rw [HE.out]; rfl, HB.out⟩
      · rw [if_neg h20] at hR2
        have HR2 := Lib.hid hR2
        have r1 := cell_of_row _ _ 1 _ _ _ HROW.out
        have r2 := cell_of_row _ _ 2 _ _ _ HROW.out
        have r3 := cell_of_row _ _ 3 _ _ _ HROW.out
        have r4 := cell_of_row _ _ 4 _ _ _ HROW.out
        have hb2 := (Below.refl w1.heap.size w1).alloc (Nat.le_refl _) (.cells #[.slice a1 n1 c1, .slice a2 n2 c2, .slice a3 n3 c3, .slice a4 n4 c4] 23)
        have hl4 := heap_alloc_new w1 (.cells #[.slice a1 n1 c1, .slice a2 n2 c2, .slice a3 n3 c3, .slice a4 n4 c4] 23)
        obtain ⟨w2, hw2⟩ : ∃ w, w = w1.alloc (.cells #[.slice a1 n1 c1, .slice a2 n2 c2, .slice a3 n3 c3, .slice a4 n4 c4] 23) := ⟨_, rfl⟩
        obtain ⟨g4, hg4⟩ : ∃ g, g = w1.heap.size := ⟨_, rfl⟩
        rw [← hw2] at hb2 hl4
        rw [← hg4] at hl4
        have HL4 := Lib.hid hl4
        have HW2 := Lib.hid hw2
        have HG4 := Lib.hid hg4
        replace HB := Lib.hid (bt HB.out hb2)
        replace HROW := Lib.hid (heap_below HROW.out hb2)
        clear hR2 HR1 hb2 hl4 hw2 hg4
        go_wp2_with fail
        rw [← HW2.out, ← HG4.out]
        clear r1 r2 r3 r4 r5 HW2 HG4 h20
        obtain ⟨SG, hSG⟩ : ∃ x, x = setsGo n (fourL s) := ⟨_, rfl⟩
        have hR3 := HR2.out
        unfold sy2 at hR3
        rw [HN.out, ← hSG] at hR3
        have HR3 := Lib.hid hR3
        have HSG := Lib.hid hSG
        have HFOUR := Lib.hid (show ∀ i, i < 4 → ∃ a c l, (fourL s).drop i = l :: (fourL s).drop (i + 1) ∧ w2.cell? ⟨g4, i, none⟩ = some (.slice a l.length c) ∧ IntsAt .i64 W a l ∧ l.length ≤ 1048576 from fun i hi => by
          rcases (show i = 0 ∨ i = 1 ∨ i = 2 ∨ i = 3 by omega) with rfl | rfl | rfl | rfl
          · exact ⟨a1, c1, s.withs, rfl, by rw [← HN1.out]; exact cell_of_row _ _ 0 _ _ _ HL4.out, HI1.out, HS.out.w⟩
          · exact ⟨a2, c2, s.without, rfl, by rw [← HN2.out]; exact cell_of_row _ _ 1 _ _ _ HL4.out, HI2.out, HS.out.wo⟩
          · exact ⟨a3, c3, s.reads, rfl, by rw [← HN3.out]; exact cell_of_row _ _ 2 _ _ _ HL4.out, HI3.out, HS.out.r⟩
          · exact ⟨a4, c4, s.writes, rfl, by rw [← HN4.out]; exact cell_of_row _ _ 3 _ _ _ HL4.out, HI4.out, HS.out.wr⟩)
        clear hR3 HR2 hSG HL4 HNB
        go_loopg [7, 8, 37] 4 (fun gk v7 v8 vi wx => ∃ i : Nat, i ≤ 4 ∧ gk = 4 - i ∧ vi = .int .i64 i ∧ Hid (setsGo n ((fourL s).drop i) = SG) ∧ Hid (Below w2.heap.size w2 wx))
        case atStart => exact ⟨0, by omega, rfl, rfl, Lib.hid HSG.out.symm, Lib.hid (Below.refl _ _)⟩
        case round =>
          obtain ⟨i, hi, g2, rfl, HGO, HBL⟩ := hrel
          have G2 := Lib.hid g2
          clear g2
          by_cases hlt : i < 4
          · obtain ⟨la, lc, ll, hdr, hcl, hil, hll⟩ := HFOUR.out i hlt
            have q0 := cell_abides hcl HBL.out
            obtain ⟨lm, hlm⟩ : ∃ m, m = ll.length := ⟨_, rfl⟩
            rw [← hlm] at q0 hll
            have hgo := HGO.out
            rw [hdr] at hgo
            unfold setsGo at hgo
            obtain ⟨SE, hSE⟩ : ∃ x, x = setE n ll := ⟨_, rfl⟩
            rw [← hSE] at hgo
            have HGO2 := Lib.hid hgo
            have cS := sys_set n kc ka ll la lm lc hlm.symm hll wr (hil.below (bt HB.out HBL.out))
            rw [← hSE] at cS
            have CS := Lib.hid cS
            have HLT := Lib.hid (show ∃ k, i + 1 + k = 4 from ⟨4 - (i + 1), by omega⟩)
            clear hdr hcl hil hll hlm hgo hSE cS HGO
            go_wp2_with fail
            refine CS.out.mono ?_
            rintro e w3 ⟨rfl, hb3⟩
            have HB3 := Lib.hid (bt HBL.out hb3)
            clear hb3 CS q0
            by_cases hse : SE = 0
            · have HN2' := Lib.hid (show setsGo n ((fourL s).drop (i + 1)) = SG by have := HGO2.out; rw [if_neg (by rw [hse]; simp)] at this; exact this)
              subst hse
              clear HGO2
              go_wp2_with fail
              go_roundg (4 - (i + 1))
              case measure => rw [G2.out]; obtain ⟨k, hk⟩ := HLT.out; omega
              case rel => obtain ⟨k, hk⟩ := HLT.out; exact ⟨i + 1, by omega, rfl, by go_num, HN2', HB3⟩
            · have hsg := HGO2.out
              rw [if_pos hse] at hsg
              have HE := Lib.hid (show R = SE by rw [HR3.out, ← hsg, if_pos hse])
              have t1 : (SE != 0) = true := by rw [bne_iff_ne]; exact hse
              clear HGO2 hsg hse
              go_wp2_with fail
              go_ret
              exact ⟨by rw [HE.out]; rfl, bt HB.out HB3.out⟩
          · obtain rfl : i = 4 := by omega
            have hsg0 : SG = 0 := HGO.out.symm
            have hR4 := HR3.out
            rw [if_neg (by rw [hsg0]; simp)] at hR4
            unfold sy3 at hR4
            have HALL := Lib.hid (setsGo_all (by rw [← HSG.out]; exact hsg0 : setsGo n (fourL s) = 0))
            have hn16 : n ≤ 16 := by rw [← HN.out]; exact kindsE_len' HK.out.symm
            have HN16 := Lib.hid hn16
            obtain ⟨B1, hB1⟩ : ∃ b, b = s.withs.any fun x => inP x s.without := ⟨_, rfl⟩
            rw [← hB1] at hR4
            have HR4 := Lib.hid hR4
            have HBT := Lib.hid (bt HB.out HBL.out)
            have hrow := heap_below HROW.out HBL.out
            have HRW := Lib.hid hrow
            have r1 := cell_of_row _ _ 1 _ _ _ hrow
            have cI := conf_in a1 c1 n1 g s.withs s.without HN1.out.symm (by have := HS.out.w; rw [HN1.out]; omega) (by have := HS.out.wo; omega) wr (HI1.out.below HBT.out) ⟨a2, c2, by rw [← HN2.out]; exact cell_of_row _ _ 2 _ _ _ hrow, HI2.out.below HBT.out⟩
            rw [← hB1] at cI
            have CI := Lib.hid cI
            clear hR4 HR3 hsg0 hn16 hB1 hrow cI HGO HFOUR HSG G2 HROW
            go_wp2_with fail
            refine CI.out.mono ?_
            rintro e w3 ⟨rfl, hb3⟩
            replace HBT := Lib.hid (bt HBT.out hb3)
            replace HRW := Lib.hid (heap_below HRW.out hb3)
            clear hb3 CI r1 HBL
            cases B1 with
            | true =>
              have HE := Lib.hid (show R = 10 by rw [HR4.out, if_pos rfl])
              clear HR4
              go_wp2_with fail
              go_ret
              exact ⟨by rw [HE.out]; rfl, HBT.out⟩
            | false =>
              have hR5 := HR4.out
              rw [if_neg (by decide)] at hR5
              unfold sy4 at hR5
              obtain ⟨B2, hB2⟩ : ∃ b, b = (s.reads ++ s.writes).any fun x => outP x s.withs := ⟨_, rfl⟩
              rw [← hB2] at hR5
              have HR5 := Lib.hid hR5
              have HB2 := Lib.hid hB2
              have r3 := cell_of_row _ _ 3 _ _ _ HRW.out
              have r4 := cell_of_row _ _ 4 _ _ _ HRW.out
              have hb4 := (Below.refl w3.heap.size w3).alloc (Nat.le_refl _) (.cells #[.slice a3 n3 c3, .slice a4 n4 c4] 23)
              have hl2 := heap_alloc_new w3 (.cells #[.slice a3 n3 c3, .slice a4 n4 c4] 23)
              obtain ⟨w4, hw4⟩ : ∃ w, w = w3.alloc (.cells #[.slice a3 n3 c3, .slice a4 n4 c4] 23) := ⟨_, rfl⟩
              obtain ⟨g2, hg2⟩ : ∃ g, g = w3.heap.size := ⟨_, rfl⟩
              rw [← hw4] at hb4 hl2
              rw [← hg2] at hl2
              have HW4 := Lib.hid hw4
              have HG2 := Lib.hid hg2
              replace HBT := Lib.hid (bt HBT.out hb4)
              replace HRW := Lib.hid (heap_below HRW.out hb4)
              have hlr : s.reads.length ≤ n := setE_len (HALL.out _ (by unfold fourL; simp))
              have hlw : s.writes.length ≤ n := setE_len (HALL.out _ (by unfold fourL; simp))
              have htot : toti [s.reads, s.writes] = n3 + n4 := by unfold toti; simp; rw [HN3.out, HN4.out]
              have cC := concat_ints [s.reads, s.writes] (some ⟨g2, 0, none⟩) 2 2 rfl (by decide) (by have := HN16.out; rw [htot, HN3.out, HN4.out]; omega) w4 (fun _ => ⟨_, rfl, lt_of_heap hl2, fun j hj => by
                have hj2 : j < 2 := hj
                rcases (show j = 0 ∨ j = 1 by omega) with rfl | rfl
                · exact ⟨a3, c3, by show w4.cell? ⟨g2, 0, none⟩ = some (.slice a3 s.reads.length c3); rw [← HN3.out]; exact cell_of_row _ _ 0 _ _ _ hl2, HI3.out.below HBT.out⟩
                · exact ⟨a4, c4, by show w4.cell? ⟨g2, 1, none⟩ = some (.slice a4 s.writes.length c4); rw [← HN4.out]; exact cell_of_row _ _ 1 _ _ _ hl2, HI4.out.below HBT.out⟩⟩)
              rw [htot] at cC
              unfold ConcatIPost at cC
              rw [show [s.reads, s.writes].flatten = s.reads ++ s.writes by simp] at cC
              have CC := Lib.hid cC
              have HLL := Lib.hid (And.intro hlr hlw)
              clear hR5 HR4 hB2 hb4 hl2 hw4 hg2 cC hlr hlw htot
              go_wp2_with fail
              rw [← HW4.out, ← HG2.out]
              refine CC.out.mono ?_
              rintro e w5 ⟨ca, cc, rfl, hic, hb5⟩
              replace HBT := Lib.hid (bt HBT.out hb5)
              replace HRW := Lib.hid (heap_below HRW.out hb5)
              have cO := conf_out ca cc (n3 + n4) g (s.reads ++ s.writes) s.withs (by rw [List.length_append, HN3.out, HN4.out]) (by have := HLL.out.1; have := HLL.out.2; have := HN16.out; rw [HN3.out, HN4.out]; omega) (by have := HS.out.w; omega) w5 hic ⟨a1, c1, by rw [← HN1.out]; exact cell_of_row _ _ 1 _ _ _ HRW.out, HI1.out.below HBT.out⟩
              rw [← HB2.out] at cO
              have CO := Lib.hid cO
              clear hb5 CC hic cO r3 r4 HW4 HG2
              go_wp2_with fail
              refine CO.out.mono ?_
              rintro e w6 ⟨rfl, hb6⟩
              replace HBT := Lib.hid (bt HBT.out hb6)
              replace HRW := Lib.hid (heap_below HRW.out hb6)
              clear hb6 CO HB2
              cases B2 with
              | true =>
                have HE := Lib.hid (show R = 8 by rw [HR5.out, if_pos rfl])
                clear HR5
                go_wp2_with fail
                go_ret
                exact ⟨by rw [HE.out]; rfl, HBT.out⟩
              | false =>
                have hR6 := HR5.out
                rw [if_neg (by decide)] at hR6
                unfold sy5 at hR6
                obtain ⟨FE, hFE⟩ : ∃ x, x = fitAllE ks s.spawn := ⟨_, rfl⟩
                rw [← hFE] at hR6
                have HR6 := Lib.hid hR6
                have r6 := cell_of_row _ _ 6 _ _ _ HRW.out
                have cF := world_Fit hsort ks s.spawn ka a6 n kc n6 c6 HN.out HN6.out.symm H1.out (by rw [HN6.out]; exact HS.out.sp) HP6.out HKC.out.1 HKC.out.2 HS.out.v w6 (HZ.out.below KindAt.abides HBT.out) (HI6.out.below CompAt.abides HBT.out)
                unfold FitWPost at cF
                rw [← hFE, ← HK.out] at cF
                have CF := Lib.hid cF
                clear hR6 HR5 hFE cF
                go_wp2_with fail
                refine CF.out.mono ?_
                rintro e w7 ⟨hpost, hb7⟩
                replace HBT := Lib.hid (bt HBT.out hb7)
                replace HRW := Lib.hid (heap_below HRW.out hb7)
                clear hb7 CF r6
                rcases hpost with ⟨hx, _⟩ | ⟨_, hf0, rfl⟩ | ⟨_, hf0, fa, fc, rfl, _⟩
                · exact absurd rfl hx
                · have HE := Lib.hid (show R = FE by rw [HR6.out, if_pos hf0])
                  have t1 : (FE != 0) = true := by rw [bne_iff_ne]; exact hf0
                  clear HR6 hf0
                  go_wp2_with fail
                  go_ret
                  exact ⟨by rw [HE.out]; rfl, HBT.out⟩
                · subst hf0
                  have hR7 := HR6.out
                  rw [if_neg (by simp)] at hR7
                  have HR7 := Lib.hid hR7
                  have t1 : ((0 : Int) != 0) = false := rfl
                  have r5 := cell_of_row _ _ 5 _ _ _ HRW.out
                  clear hR7 HR6
                  go_wp2_with fail
                  clear t1 r5
                  go_loopg [12, 13, 73] n5 (fun gk v12 v13 vi wx => ∃ i : Nat, i ≤ n5 ∧ gk = n5 - i ∧ vi = .int .i64 i ∧ Hid (opsGo ks s.reads s.writes (s.ops.drop i) = R) ∧ Hid (Below w7.heap.size w7 wx))
                  case atStart => exact ⟨0, Nat.zero_le _, rfl, rfl, Lib.hid (by rw [HR7.out]; rfl), Lib.hid (Below.refl _ _)⟩
                  case round =>
                    obtain ⟨i, hi, g2, rfl, HGO, HBL⟩ := hrel
                    have G2 := Lib.hid g2
                    clear g2
                    by_cases hlt : i < n5
                    · have hlo : i < s.ops.length := by rw [← HN5.out]; exact hlt
                      have hbk := bt HBT.out HBL.out
                      obtain ⟨x, rfl, _, _⟩ := HI5.out (by omega)
                      obtain ⟨xb, xo, rfl, hcl⟩ := op_cells (HI5.out.below OpAt.abides hbk) i hlo
                      obtain ⟨o, ho⟩ : ∃ o, o = s.ops[i] := ⟨_, rfl⟩
                      rw [← ho] at hcl
                      have q0 := hcl 0 _ rfl
                      have q1 := hcl 1 _ rfl
                      have q2 := hcl 2 _ rfl
                      have q3 := hcl 3 _ rfl
                      have q4 := hcl 4 _ rfl
                      have q5 := hcl 5 _ rfl
                      have q6 := hcl 6 _ rfl
                      have q7 := hcl 7 _ rfl
                      have q8 := hcl 8 _ rfl
                      have q9 := hcl 9 _ rfl
                      have q10 := hcl 10 _ rfl
                      rw [Nat.add_zero] at q0
                      have hgo := HGO.out
                      rw [List.drop_eq_getElem_cons hlo, ← ho] at hgo
                      unfold opsGo at hgo
                      obtain ⟨OE, hOE⟩ : ∃ x, x = opE ks s.reads s.writes o := ⟨_, rfl⟩
                      rw [← hOE] at hgo
                      have HGO2 := Lib.hid hgo
                      have hbo := (Below.refl wr.heap.size wr).alloc (Nat.le_refl _) (.cells #[.int .i64 o.do_, .int .i64 o.tk, .int .i64 o.tf, .bool o.a.has, .int .i64 o.a.n, .int .i64 o.a.rk, .int .i64 o.a.rf, .bool o.b.has, .int .i64 o.b.n, .int .i64 o.b.rk, .int .i64 o.b.rf] 57)
                      have HBO := Lib.hid (bt HBL.out hbo)
                      have hrow := heap_below HRW.out HBO.out
                      have r0 := cell_of_row _ _ 0 _ _ _ hrow
                      have r1 := cell_of_row _ _ 1 _ _ _ hrow
                      have r2 := cell_of_row _ _ 2 _ _ _ hrow
                      have r3 := cell_of_row _ _ 3 _ _ _ hrow
                      have r4 := cell_of_row _ _ 4 _ _ _ hrow
                      have r5 := cell_of_row _ _ 5 _ _ _ hrow
                      have r6 := cell_of_row _ _ 6 _ _ _ hrow
                      have hbk2 := bt HBT.out HBO.out
                      have cO := sys_op ks ka n kc HN.out H1.out nm a1 a2 a3 a4 (some ⟨xb, xo, none⟩) a6 n1 c1 n2 c2 n3 c3 n4 c4 n5 c5 n6 c6 s.reads s.writes HN3.out.symm HN4.out.symm (by rw [HN3.out]; exact HS.out.r) (by rw [HN4.out]; exact HS.out.wr) o _ (HZ.out.below KindAt.abides hbk2) (HI3.out.below hbk2) (HI4.out.below hbk2)
                      rw [← hOE] at cO
                      have CO := Lib.hid cO
                      have HLT := Lib.hid (show ∃ k, i + 1 + k = n5 from ⟨n5 - (i + 1), by omega⟩)
                      clear hbk hcl ho hgo hOE hbo hrow hbk2 cO HGO hlo
                      go_wp2_with fail
                      refine CO.out.mono ?_
                      rintro e w8 ⟨rfl, hb8⟩
                      have HB8 := Lib.hid (bt HBO.out hb8)
                      clear hb8 CO q0 q1 q2 q3 q4 q5 q6 q7 q8 q9 q10 r0 r1 r2 r3 r4 r5 r6 HBO
                      by_cases hoe : OE = 0
                      · have HN2' := Lib.hid (show opsGo ks s.reads s.writes (s.ops.drop (i + 1)) = R by have := HGO2.out; rw [if_neg (by rw [hoe]; simp)] at this; exact this)
                        subst hoe
                        have h5 := HS.out.o
                        rw [← HN5.out] at h5
                        have w2' : IntKind.i64.wrap ((i : Int) + 1) = ((i + 1 : Nat) : Int) := by rw [IntKind.wrap_i64]; omega
                        clear HGO2 h5
                        go_wp2_with fail
                        go_roundg (n5 - (i + 1))
                        case measure => rw [G2.out]; obtain ⟨k, hk⟩ := HLT.out; omega
                        case rel => obtain ⟨k, hk⟩ := HLT.out; exact ⟨i + 1, by omega, rfl, (by first | rfl | go_num | simp), HN2', HB8⟩
                      · have HE := Lib.hid (show R = OE by have := HGO2.out; rw [if_pos hoe] at this; exact this.symm)
                        have t1 : (OE != 0) = true := by rw [bne_iff_ne]; exact hoe
                        clear HGO2 hoe
                        go_wp2_with fail
                        go_ret
                        exact ⟨by rw [HE.out]; rfl, bt HBT.out HB8.out⟩
                    · obtain rfl : i = n5 := by omega
                      have HE := Lib.hid (show R = 0 by have := HGO.out; rw [List.drop_eq_nil_of_le (by rw [← HN5.out]; exact Nat.le_refl _)] at this; exact this.symm)
                      clear HGO
                      go_wp2_with fail
                      go_ret
                      exact ⟨by rw [HE.out]; rfl, bt HBT.out HBL.out⟩
  · have HE := Lib.hid (show R = K by rw [HR.out]; unfold sysE; rw [← HK.out, if_pos hK0])
    have t0 : (K != 0) = true := by rw [bne_iff_ne]; exact hK0
    clear HR hK0
    go_wp2_with fail
    go_ret
    exact ⟨by rw [HE.out]; rfl, HB.out⟩
end Go.Proofs.YtijeninfmjhbnaaDoor
end
