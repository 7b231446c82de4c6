/- Lemmas for the law WorldSpawns: FitSort, WFree, BinS. No conditions. -/
import Derived.Test.YtfckbkhnelgjbaaGreatDoorM24
import Derived.Shelf.SlSortCmp.NoneTotal
import Derived.Sort.OwnSorted
import Derived.Test.YtfckbkhnelgjbaaGreatDoorM04
import Derived.Deep.DeepMust
import Derived.OwnWalk
import Derived.Test.YtfckbkhnelgjbaaGreatDoorM14
import Derived.Test.YtfckbkhnelgjbaaGreatDoorM06
import Derived.Test.YtfckbkhnelgjbaaGreatDoorM21
import Derived.Deep.LoopGhost
/- The sort of fitted components, out of the kit's contract of slices.SortFunc. -/
section
namespace Go.Proofs.YtfckbkhnelgjbaaGreatDoor
open Go.ChangeShapes Go.WideShapes Go.ChangeAt Go.RowKit Go.Nm Go.Mem Go.Shelf
open Go.Sort (putRow putCells mapBlock grow SWO PermIn SortedIn onCells heap_grow_old flatK get_flatK HoldsK)
set_option linter.unusedVariables false
/-- a component as its two cells, with its numbers beside -/
abbrev KS := (Int × Option Addr × Nat × Nat) × CompV
def encS (x : KS) : List Value := [.int .i64 x.1.1, .slice x.1.2.1 x.1.2.2.1 x.1.2.2.2]
def cfS (x y : KS) : Int := cmpI x.1.1 y.1.1
theorem ltS (x y : KS) : ltOf cfS x y = decide (x.1.1 < y.1.1) := by
  unfold ltOf cfS cmpI
  by_cases h1 : x.1.1 < y.1.1
  · simp [h1]
  · by_cases h2 : y.1.1 < x.1.1 <;> simp [h1, h2]
theorem swoS : SWO (ltOf cfS) where
  irrefl x := by rw [ltS]; simp
  trans x y z h1 h2 := by rw [ltS] at *; simp at *; omega
  ntrans x y z h1 h2 := by rw [ltS] at *; simp at *; omega
set_option maxHeartbeats 1000000 in
theorem clos_sort (k1 k2 : Int) (a1 a2 : Option Addr) (n1 c1 n2 c2 : Nat) (W : World) : Calls Tryz.prog 45 #[.agg #[.int .i64 k1, .slice a1 n1 c1], .agg #[.int .i64 k2, .slice a2 n2 c2]] W fun e w' => e = .returned (.int .i64 (cmpI k1 k2)) ∧ ∃ q os', w' = grow (W.drewN q) os' := by
  have HC := Lib.hid (fun W' => cmp_ints k1 k2 W')
  obtain ⟨R, hR⟩ : ∃ R, R = cmpI k1 k2 := ⟨_, rfl⟩
  rw [← hR] at HC ⊢
  clear hR
  go_enter Tryz.func45, Tryz.ntmps45
  go_wp2_with fail
  refine (HC.out _).mono ?_
  rintro e w' ⟨rfl, rfl⟩
  go_wp2
  go_ret
  exact ⟨rfl, 0, _, by rw [Sort.alloc_eq_grow, Sort.alloc_eq_grow, Sort.grow_grow]; rfl⟩
theorem cmpLaysS (blk off size : Nat) (w : World) : CmpLays Tryz.prog 45 #[] encS 2 cfS blk off size w :=
  fun _ _ _ _ x y => clos_sort x.1.1 y.1.1 _ _ _ _ _ _ _
theorem heap_sortedG {w : World} {g n : Nat} {os : Array Obj} {cur : Array Value} {e : TypeId} {fr : Nat × Nat} (F : Array Value) (hb : w.heap[g]? = some (.cells cur e fr)) :
    (grow (putRow id (Sort.ahead w n) g 0 F) os).heap[g]? = some (.cells (putCells id 0 F cur) e fr) := by
  have hg : g < w.heap.size := (Array.getElem?_eq_some_iff.1 hb).1
  rw [heap_grow_old _ _ (by simpa using hg)]
  simp [putRow, mapBlock, Sort.ahead, Array.getElem?_modify, hb, onCells]
theorem grownBy_sortedG {w : World} {g n : Nat} {os : Array Obj} (F : Array Value) : w.grownBy (grow (putRow id (Sort.ahead w n) g 0 F) os) (some g) := by
  refine ⟨rfl, rfl, rfl, by simp, fun k hk hne => ?_⟩
  rw [heap_grow_old _ _ (by simpa using hk)]
  have : g ≠ k := fun e => hne (by rw [e])
  simp [putRow, mapBlock, Sort.ahead, Array.getElem?_modify, this]
theorem take_putCellsG (cur F : Array Value) (h : F.size ≤ cur.size) : (putCells id 0 F cur).toList.take F.size = F.toList := by
  apply List.ext_getElem?
  intro j
  by_cases hj : j < F.size
  · rw [List.getElem?_take_of_lt hj, Array.getElem?_toList]
    simp [putCells, hj, show j < cur.size by omega]
  · rw [List.getElem?_take_eq_none (by omega), List.getElem?_eq_none (by simp; omega)]
theorem flatK_list (D : List KS) : (flatK encS 2 D.toArray).toList = (D.map encS).flatten := by
  have hl : (D.map encS).flatten.length = D.length * 2 := by
    rw [flat_len (sz := 2) _ (fun c hc => by obtain ⟨x, _, rfl⟩ := List.mem_map.1 hc; rfl), List.length_map]
  apply List.ext_getElem?
  intro t
  by_cases ht : t < D.length * 2
  · have h2 : t / 2 < (D.map encS).length := by rw [List.length_map]; omega
    have hf := flat_get (sz := 2) (D.map encS) (fun c hc => by obtain ⟨x, _, rfl⟩ := List.mem_map.1 hc; rfl) (t / 2) h2 (t % 2) (by omega)
    rw [show t / 2 * 2 + t % 2 = t by omega] at hf
    rw [hf, Array.getElem?_toList]
    have hs : t < (flatK encS 2 D.toArray).size := by simp; omega
    have hg := get_flatK encS 2 D.toArray t (by simpa using ht)
    rw [getElem!_pos _ t hs] at hg
    rw [Array.getElem?_eq_getElem hs, hg]
    have h3 : t / 2 < D.length := by omega
    have e1 : (D.toArray[t / 2]! : KS) = D[t / 2]'h3 := by rw [getElem!_pos D.toArray (t / 2) (by simpa using h3)]; simp
    rw [e1, List.getElem_map]
    have h4 : t % 2 < (encS (D[t / 2]'h3)).length := by show t % 2 < 2; omega
    rw [getElem!_pos (encS (D[t / 2]'h3)) (t % 2) h4, List.getElem?_eq_getElem h4]
  · rw [List.getElem?_eq_none (by simp; omega), List.getElem?_eq_none (by rw [hl]; omega)]
/-- what is known of an element of the row -/
def GoodS (B g : Nat) (W : World) (x : KS) : Prop := x.1.1 = x.2.kind ∧ ∃ lo hi, B ≤ lo ∧ ¬(lo ≤ g ∧ g < hi) ∧ Win lo hi (fun w => EComp w (encS x) x.2) W
theorem sorts_comps : SortsC 45 := by
  intro W B v l hgr hB hl1
  by_cases h0 : l.length = 0
  · have hl : l = [] := List.eq_nil_of_length_eq_zero h0
    subst hl
    obtain ⟨a, c, rfl, _, _⟩ := hgr.slice
    have hcon := AnyF.slices_SortFunc_none Tryz.sortComps a c (.func (.func 45) #[] #[]) W
    change Calls Tryz.prog 44 _ _ _ at hcon
    refine hcon.mono ?_
    rintro e w' ⟨he, rfl⟩
    exact ⟨he, ⟨[], List.Perm.refl _, List.Pairwise.nil, hgr⟩, Below.refl _ _⟩
  · obtain ⟨css, h1, h2, h3, h4⟩ := hgr
    rcases h3.2 with ⟨_, h⟩ | ⟨g, cap, cur, rfl, hBg, hb, hnc, hcm, hcs, htk⟩
    · omega
    · have key : ∀ j, j < l.length → ∃ x : KS, css[j]? = some (encS x) ∧ l[j]? = some x.2 ∧ GoodS B g W x := by
        intro j hj
        obtain ⟨lo, hi, p0, p1, p2⟩ := h4 j hj (by omega)
        obtain ⟨a, c, ec, hi2⟩ := p2.now
        refine ⟨((l[j].kind, a, l[j].vals.length, c), l[j]), ?_, List.getElem?_eq_getElem hj, rfl, lo, hi, p0, p1 g rfl, ?_⟩
        · rw [List.getElem?_eq_getElem (by omega), ec]; rfl
        · have : encS ((l[j].kind, a, l[j].vals.length, c), l[j]) = css[j]'(by omega) := ec.symm
          rw [this]
          exact p2
      obtain ⟨Y, hY⟩ := Go.Deep.choose_lt key
      obtain ⟨D, hD⟩ : ∃ D : List KS, D = (List.range l.length).map Y := ⟨_, rfl⟩
      have hDl : D.length = l.length := by rw [hD]; simp
      have hDg : ∀ j (h : j < D.length), D[j] = Y j := fun j h => by simp [hD]
      have hcss : D.map encS = css := by
        apply List.ext_getElem (by rw [List.length_map, hDl, h1])
        intro j k1 k2
        rw [List.getElem_map, hDg]
        have := (hY j (by omega)).1
        rw [List.getElem?_eq_getElem k2] at this
        injection this with this
        exact this.symm
      have hls : D.map (·.2) = l := by
        apply List.ext_getElem (by rw [List.length_map, hDl])
        intro j k1 k2
        rw [List.getElem_map, hDg]
        have := (hY j (by omega)).2.1
        rw [List.getElem?_eq_getElem k2] at this
        injection this with this
        exact this.symm
      have hgood : ∀ x ∈ D, GoodS B g W x := by
        intro x hx
        obtain ⟨j, hj, rfl⟩ := List.getElem_of_mem hx
        rw [hDg]
        exact (hY j (by omega)).2.2
      have hfl := flatK_list D
      rw [hcss] at hfl
      have hfs : (flatK encS 2 D.toArray).size = l.length * 2 := by simp [hDl]
      have hH : HoldsK encS 2 W g 0 D.toArray := by
        intro j hj
        refine ⟨?_, by simp [World.frozen?, hb]⟩
        rw [Nat.zero_add, h3.cellAt j (by rw [hfs] at hj; exact hj), ← hfl, Array.getElem?_toList, getElem!_pos _ j hj, Array.getElem?_eq_getElem hj]
        rfl
      have hgl : g < W.heap.size := lt_of_heap hb
      have hcon := AnyQ.slices_SortFunc Tryz.sortComps 2 Tryz.isAgg42 Tryz.sizeOf42 encS (fun _ => rfl) (fun x v hv => by simp [encS] at hv; rcases hv with rfl | rfl <;> rfl) cfS swoS 45 #[] g 0 cap D.toArray W
        (enters_of Tryz.func45 (by kernel_rfl) rfl) (cmpLaysS g 0 _ W) hH hgl (by simp; omega)
      change Calls Tryz.prog 44 _ _ _ at hcon
      rw [show D.toArray.size = l.length by simp [hDl]] at hcon
      refine hcon.mono ?_
      rintro e w' ⟨he, d', m, os, hp, hs, hw⟩
      obtain ⟨hps, _, hpp⟩ := hp
      have hd's : d'.size = l.length := by rw [hps]; simp [hDl]
      have hperm : d'.toList.Perm D := by
        have e1 : d'.extract 0 l.length = d' := by rw [← hd's]; simp
        have e2 : D.toArray.extract 0 l.length = D.toArray := by rw [show l.length = D.toArray.size by simp [hDl]]; simp
        rw [e1, e2] at hpp
        simpa using hpp
      have hw2 : w' = grow (putRow id (Sort.ahead W m) g 0 (flatK encS 2 d')) os := hw
      have hfl2 := flatK_list d'.toList
      rw [show d'.toList.toArray = d' by simp] at hfl2
      have hfs2 : (flatK encS 2 d').size = l.length * 2 := by simp [hd's]
      have hgb : W.grownBy w' (some g) := by rw [hw2]; exact grownBy_sortedG _
      have hlen' : (d'.toList.map (·.2)).length = l.length := by simp [hd's]
      refine ⟨he, ⟨d'.toList.map (·.2), by rw [← hls]; exact hperm.map _, ?_, ?_⟩, (Below.refl B W).grown hgb hB (fun r hr => by injection hr with hr; rw [← hr]; exact hBg)⟩
      · rw [List.pairwise_iff_getElem]
        intro i j hi hj hij hlt
        rw [hlen'] at hi hj
        rw [List.getElem_map, List.getElem_map] at hlt
        have hx := hs i j (Nat.zero_le _) hij hj
        rw [getElem!_pos d' i (by omega), getElem!_pos d' j (by omega), ltS] at hx
        have g1 := (hgood _ (hperm.mem_iff.1 (List.getElem_mem (show i < d'.toList.length by simp; omega)))).1
        have g2 := (hgood _ (hperm.mem_iff.1 (List.getElem_mem (show j < d'.toList.length by simp; omega)))).1
        have hx' := of_decide_eq_false hx
        simp only [Array.getElem_toList] at hlt g1 g2
        omega
      · refine ⟨d'.toList.map encS, by simp, fun c hc => by obtain ⟨x, _, rfl⟩ := List.mem_map.1 hc; rfl, ?_, fun j hj hj2 => ?_⟩
        · rw [hlen']
          refine ⟨?_, Or.inr ⟨g, cap, _, rfl, hBg, by rw [hw2]; exact heap_sortedG _ hb, hnc, hcm, by simp [putCells, hcs], ?_⟩⟩
          · rw [← hfl2, Array.length_toList, hfs2]
          · rw [← hfl2, ← hfs2]
            exact take_putCellsG cur _ (by rw [hfs2, hcs]; exact Nat.mul_le_mul_right _ hnc)
        · have hjl : j < d'.toList.length := by simpa using hj
          obtain ⟨_, lo, hi, p0, p1, p2⟩ := hgood _ (hperm.mem_iff.1 (List.getElem_mem hjl))
          rw [List.getElem_map, List.getElem_map]
          refine ⟨lo, hi, p0, fun g2 hg2 => ?_, p2.to (Nat.le_trans p2.1 hgb.size) (fun q q1 q2 => hgb.block q (Nat.lt_of_lt_of_le q2 p2.1) (fun e => p1 (by injection e with e; rw [← e]; exact ⟨q1, q2⟩)))⟩
          injection hg2 with hg2
          have hg3 : g = g2 := hg2
          rw [← hg3]; exact p1
end Go.Proofs.YtfckbkhnelgjbaaGreatDoor
end
/- world.Free. -/
section
namespace Go.Proofs.YtfckbkhnelgjbaaGreatDoor
open Go.ChangeShapes Go.WideShapes Go.ChangeAt Go.RowKit Go.Nm Go.Mem
set_option linter.unusedVariables false
def usedI (l : List ItemV) (n : Nat) : Bool := l.any fun t => decide (t.n = (n : Int))
def freeP (y : WorldV) (i : Nat) : Bool := !usedI y.items i && decide (y.gens.getD i 0 < 1073741824)
def freeN (y : WorldV) : Nat := firstP (freeP y) y.gens.length
def freeOk (y : WorldV) : Bool := decide (freeN y < y.gens.length) || decide (y.gens.length < 256)
theorem usedI_snoc (l : List ItemV) (t : ItemV) (n : Nat) : usedI (l ++ [t]) n = (usedI l n || decide (t.n = (n : Int))) := by
  unfold usedI
  rw [List.any_append]
  simp
def F_free (WB ng cg : Nat) (ag : Option Addr) (BB : Bool) (jq : Nat) (v : Value) (w : World) : Prop :=
  match jq with
  | 0 => v = .pointer (some ⟨WB, 1, none⟩)
  | 1 => v = .slice ag ng cg
  | 2 => v = .int .i64 (ng : Int)
  | 3 => v = .pointer (some ⟨WB, 1, none⟩)
  | 4 => v = .slice ag ng cg
  | 5 => v = .int .i64 (ng : Int)
  | 6 => v = .bool BB
  | 7 => v = .int .i64 (ng : Int)
  | 8 => v = .bool BB
  | _ => True
theorem F_free_mono (WB ng cg : Nat) (ag : Option Addr) (BB : Bool) : Facts (F_free WB ng cg  ag  BB ) := ⟨by
  intro jq v w w' h hb
  unfold F_free at h ⊢
  split at h
  all_goals first
    | exact h
    | trivial⟩

set_option maxHeartbeats 4000000 in
set_option maxRecDepth 20000 in
theorem world_Free (y : WorldV) (v : Value) (W : World) (hv : WorldIn W v y) (hsm : SmallW y) :
    Calls Tryz.prog 15 #[v] W fun e w' => e = .returned (.tuple #[.int .i64 (freeN y), .bool (freeOk y)]) ∧ Below W.heap.size W w' := by
  obtain ⟨ak, ck, ag, cg, ai, ci, rfl, hzk, hzg, hzi, hk1, hk2⟩ := hv
  obtain ⟨s1, s2, s3, s4⟩ := hsm
  obtain ⟨nk, hnk⟩ : ∃ nk, nk = y.kinds.length := ⟨_, rfl⟩
  obtain ⟨ng, hng⟩ : ∃ ng, ng = y.gens.length := ⟨_, rfl⟩
  obtain ⟨ni, hni⟩ : ∃ ni, ni = y.items.length := ⟨_, rfl⟩
  rw [← hng] at s2
  rw [← hni] at s3
  rw [← hnk, ← hng, ← hni]
  obtain ⟨FN, hFN⟩ : ∃ FN, FN = freeN y := ⟨_, rfl⟩
  obtain ⟨FO, hFO⟩ : ∃ FO, FO = freeOk y := ⟨_, rfl⟩
  rw [← hFN, ← hFO]
  have ffo : FO = (decide (FN < ng) || decide (ng < 256)) := by rw [hFO, hFN, hng]; rfl
  have ffn : FN = firstP (freeP y) ng := by rw [hFN, hng]; rfl
  have HFO := Lib.hid ffo
  have HFN := Lib.hid ffn
  have hbA := (Below.refl W.heap.size W).alloc (Nat.le_refl _) (.cells #[.slice ak nk ck, .slice ag ng cg, .slice ai ni ci] 26 (0, 0))
  have hbx := heap_alloc_new W (.cells #[.slice ak nk ck, .slice ag ng cg, .slice ai ni ci] 26 (0, 0))
  have HBA := Lib.hid hbA
  have HBX := Lib.hid hbx
  have NG := Lib.hid hng
  have NI := Lib.hid hni
  have HZG := Lib.hid hzg
  have HZI := Lib.hid hzi
  clear hFN hFO ffo ffn hbA hbx hnk hng hni hzk hzg hzi hk1 hk2 s1 s4
  go_enter Tryz.func15, Tryz.ntmps15
  have e1 := cell_of_row _ _ 1 _ _ _ HBX.out
  have e2 := cell_of_row _ _ 2 _ _ _ HBX.out
  obtain ⟨w0, hw0⟩ : ∃ w0, w0 = W.alloc (.cells #[.slice ak nk ck, .slice ag ng cg, .slice ai ni ci] 26 (0, 0)) := ⟨_, rfl⟩
  go_wp2_with (at_make; refine wpList_make_bools rfl _ _ 101 rfl Tryz.underlying101 (by kernel_rfl) _ _ _ _ ng rfl rfl rfl rfl (by omega) (by unfold maxLen; omega) ?_; intro w1 hrow hb1 hsz1; have e2 : w1.cell? ⟨W.heap.size, 2, none⟩ = some (.slice ai ni ci) := (by rw [cell_of_row _ _ 2 _ _ _ (heap_below HBX.out hb1)]; rfl); have HROW := Lib.hid hrow; have HB1 := Lib.hid hb1; have HSZ := Lib.hid hsz1; clear hrow hb1 hsz1)
  obtain ⟨U, hU⟩ : ∃ U, U = (W.alloc (.cells #[.slice ak nk ck, .slice ag ng cg, .slice ai ni ci] 26 (0, 0))).heap.size := ⟨_, rfl⟩
  have hWU : W.heap.size < U := by rw [hU, World.size_alloc]; omega
  have HRW := HROW.out
  have HRB := Lib.hid (heap_below HBX.out HB1.out)
  have HBW := Lib.hid (bt HBA.out HB1.out)
  rw [World.size_alloc] at hU
  rw [World.size_alloc, ← hU] at HRW
  rw [← hU]
  have HROWU := Lib.hid HRW
  clear HRW HROW HB1 HSZ hU e1 e2 HBX HBA hw0 w0
  go_loopg [16, 6] ni (fun gk v16 _ wx => ∃ i : Nat, i ≤ ni ∧ gk = ni - i ∧ v16 = .int .i64 i ∧ BoolRow wx U ng (usedI (y.items.take i)) ∧ w1.grownBy wx (some U))
  case atStart => exact ⟨0, Nat.zero_le _, rfl, rfl, HROWU.out.congr (fun j _ => rfl), World.grownBy.refl _ _⟩
  case round =>
    obtain ⟨i, i1, i2, rfl, hrow, hg⟩ := hrel
    have I2 := Lib.hid i2
    have HROW := Lib.hid hrow
    have HG := Lib.hid hg
    have HBR := Lib.hid (HBW.out.grown hg HBW.out.size (fun r h => by injection h with h; omega))
    have HRBR := Lib.hid ((hg.block _ (lt_of_heap HRB.out) (fun e => by injection e with e; omega)).trans HRB.out)
    clear i2 hrow hg
    by_cases hi : i < ni
    · obtain ⟨x, rfl, _, _⟩ := HZI.out (by rw [← NI.out]; omega)
      obtain ⟨xb, xo, rfl, av, cv, hcl, _⟩ := item_cells (HZI.out.below ItemAt.abides HBR.out) i (by rw [← NI.out]; exact hi)
      obtain ⟨it, hitd⟩ : ∃ it, it = y.items[i]'(by rw [← NI.out]; exact hi) := ⟨_, rfl⟩
      have htk : y.items.take (i + 1) = y.items.take i ++ [it] := by rw [hitd, List.take_add_one, List.getElem?_eq_getElem (by rw [← NI.out]; exact hi)]; rfl
      rw [← hitd] at hcl
      obtain ⟨nv, hnv⟩ : ∃ nv, nv = it.comps.length := ⟨_, rfl⟩
      obtain ⟨kn, hkn⟩ : ∃ kn, kn = it.n := ⟨_, rfl⟩
      obtain ⟨kg, hkg⟩ : ∃ kg, kg = it.gen := ⟨_, rfl⟩
      rw [← hkn, ← hkg, ← hnv] at hcl
      have e0 := hcl.at 0 (by simp)
      have e1 := hcl.at 1 (by simp)
      have e2 := hcl.at 2 (by simp)
      simp only [List.getElem_cons_zero, List.getElem_cons_succ, Nat.add_zero] at e0 e1 e2
      have hro := new_row wr #[.int .i64 kn, .int .i64 kg, .slice av nv cv] 61
      have q0 := hro.at 0 (by simp)
      simp only [List.getElem_cons_zero, Nat.zero_add] at q0
      have hbA : Below wr.heap.size wr (wr.alloc (.cells #[.int .i64 kn, .int .i64 kg, .slice av nv cv] 61 (0, 0))) := (Below.refl _ _).alloc (Nat.le_refl _) _
      have HGA := Lib.hid ((HG.out).trans (below_gn hbA (some U)))
      have HRA := Lib.hid (HROW.out.below hbA)
      have HTK := Lib.hid htk
      have HKN := Lib.hid hkn
      clear hcl hro hbA hitd htk hkg hnv hkn
      by_cases hA : kn < 0
      · have HNX := Lib.hid (show ∀ j, j < ng → usedI (y.items.take (i + 1)) j = usedI (y.items.take i) j from fun j _ => by rw [HTK.out, usedI_snoc, ← HKN.out, decide_eq_false (by omega), Bool.or_false])
        go_wp2
        go_roundg (ni - (i + 1))
        case measure => rw [I2.out]; omega
        case rel => exact ⟨i + 1, hi, rfl, by go_num, HRA.out.congr HNX.out, HGA.out⟩
      · by_cases hB : kn < ng
        · obtain ⟨q, rfl⟩ : ∃ q : Nat, kn = (q : Int) := ⟨kn.toNat, by omega⟩
          have hq : q < ng := by omega
          have c0 := HRA.out.cell q hq
          have f0 := HRA.out.free q
          have HNX := Lib.hid (show ∀ j, j < ng → usedI (y.items.take (i + 1)) j = if j = q then true else usedI (y.items.take i) j from fun j _ => by
            rw [HTK.out, usedI_snoc, ← HKN.out]
            by_cases e : j = q
            · subst e; rw [if_pos rfl, decide_eq_true rfl, Bool.or_true]
            · rw [if_neg e, decide_eq_false (by omega), Bool.or_false])
          have HRN := Lib.hid (HRA.out.set q hq true HNX.out)
          have HGN := Lib.hid (HGA.out.trans (gb_set (World.grownBy.refl _ _) q (.bool true)))
          go_wp2
          go_roundg (ni - (i + 1))
          case measure => rw [I2.out]; omega
          case rel => exact ⟨i + 1, hi, rfl, by go_num, HRN.out, HGN.out⟩
        · have HNX := Lib.hid (show ∀ j, j < ng → usedI (y.items.take (i + 1)) j = usedI (y.items.take i) j from fun j hj => by rw [HTK.out, usedI_snoc, ← HKN.out, decide_eq_false (by omega), Bool.or_false])
          go_wp2
          go_roundg (ni - (i + 1))
          case measure => rw [I2.out]; omega
          case rel => exact ⟨i + 1, hi, rfl, by go_num, HRA.out.congr HNX.out, HGA.out⟩
    · obtain rfl : ni = i := by omega
      have HRF := Lib.hid (show BoolRow wr U ng (usedI y.items) by have h := HROW.out; rw [List.take_of_length_le (by rw [← NI.out]; exact Nat.le_refl _)] at h; exact h)
      have e1 := cell_of_row _ _ 1 _ _ _ HRBR.out
      obtain ⟨W2, hW2⟩ : ∃ W2, W2 = wr := ⟨_, rfl⟩
      subst hW2
      clear HROW I2
      go_wp2_with fail
      go_loopg [41, 7, 8] ng (fun gk v41 _ _ wx => ∃ i : Nat, i ≤ ng ∧ gk = ng - i ∧ v41 = .int .i64 i ∧ (∀ j, j < i → freeP y j = false) ∧ wx = W2)
      case atStart => exact ⟨0, Nat.zero_le _, rfl, rfl, fun j h => absurd h (by omega), rfl⟩
      case round =>
        obtain ⟨i, i1, i2, rfl, hat, rfl⟩ := hrel
        have I2 := Lib.hid i2
        have HAT := Lib.hid hat
        clear i2 hat
        by_cases hi : i < ng
        · obtain ⟨x, rfl, _, _⟩ := HZG.out (by rw [← NG.out]; omega)
          obtain ⟨xb, xo, rfl, hgc⟩ := ints_cell (HZG.out.below HBR.out) i (by rw [← NG.out]; exact hi)
          rw [Nat.mul_one] at hgc
          obtain ⟨g, hgv⟩ : ∃ g, g = y.gens.getD i 0 := ⟨_, rfl⟩
          rw [← hgv] at hgc
          have c0 := HRF.out.cell i hi
          obtain ⟨UB, hUB⟩ : ∃ b, b = usedI y.items i := ⟨_, rfl⟩
          rw [← hUB] at c0
          have HP := Lib.hid (show freeP y i = (!UB && decide (g < 1073741824)) by unfold freeP; rw [hUB, hgv])
          have HNX := Lib.hid (fun (h : freeP y i = false) => show ∀ j, j < i + 1 → freeP y j = false from fun j hj => by
            by_cases e : j < i
            · exact HAT.out j e
            · obtain rfl : j = i := by omega
              exact h)
          clear hgv hUB
          cases UB with
          | true =>
            have HN2 := Lib.hid (HNX.out (by rw [HP.out]; rfl))
            go_wp2
            go_roundg (ng - (i + 1))
            case measure => rw [I2.out]; omega
            case rel => exact ⟨i + 1, hi, rfl, by go_num, HN2.out, rfl⟩
          | false =>
            by_cases hlt : g < 1073741824
            · have HR1 := Lib.hid (show FN = i by rw [HFN.out]; exact firstP_at HAT.out (by rw [HP.out, decide_eq_true hlt]; rfl) hi)
              have HR2 := Lib.hid (show FO = true by rw [HFO.out, HR1.out, decide_eq_true hi, Bool.true_or])
              go_wp2
              go_ret2
              exact ⟨by rw [HR1.out, HR2.out]; rfl, HBR.out⟩
            · have HN2 := Lib.hid (HNX.out (by rw [HP.out, decide_eq_false hlt]; rfl))
              go_wp2
              go_roundg (ng - (i + 1))
              case measure => rw [I2.out]; omega
              case rel => exact ⟨i + 1, hi, rfl, by go_num, HN2.out, rfl⟩
        · obtain rfl : ng = i := by omega
          have HR1 := Lib.hid (show FN = ng by rw [HFN.out]; exact firstP_none HAT.out)
          obtain ⟨BB, hBB⟩ : ∃ b, b = decide ((ng : Int) < 256) := ⟨_, rfl⟩
          have HBB := Lib.hid hBB.symm
          have HR2 := Lib.hid (show FO = BB by
            rw [HFO.out, HR1.out, decide_eq_false (Nat.lt_irrefl _), Bool.false_or, hBB]
            by_cases h : ng < 256
            · rw [decide_eq_true h, decide_eq_true (by omega)]
            · rw [decide_eq_false h, decide_eq_false (by omega)])
          have E1 := Lib.hid e1
          clear hBB e1
          go_wp2_with fail
          refine wp_region_facts_t rfl 9 (by kernel_rfl) (F_free W.heap.size ng cg ag BB) (F_free_mono W.heap.size ng cg ag BB) ?_ ?_
          · refine ⟨?_, ?_, ?_, ?_, ?_, ?_, ?_, ?_, ?_, trivial⟩
            · intro vs w' F hb hd hF hl hT
              have e := (hF 1).trans (look_out _ 1 _ _ (by kernel_rfl))
              exact one_field _ _ _ rfl rfl _ _ e (1) (fun w => by kernel_rfl) ⟨_, rfl, Below.refl _ _, rfl⟩
            · intro vs w' F hb hd hF hl hT
              have e := ((hF 57).trans (look_at _ 57 0 _ _ (by kernel_rfl) (by kernel_rfl) hl)).trans (dep_of (Fact := F_free W.heap.size ng cg ag BB) hd 0 (by kernel_rfl))
              exact one_load _ _ rfl rfl _ _ e (cell_abides E1.out hb) (by kernel_rfl) ⟨_, rfl, Below.refl _ _, rfl⟩
            · intro vs w' F hb hd hF hl hT
              have e := ((hF 58).trans (look_at _ 58 1 _ _ (by kernel_rfl) (by kernel_rfl) hl)).trans (dep_of (Fact := F_free W.heap.size ng cg ag BB) hd 1 (by kernel_rfl))
              exact rg_len _ 23 3 rfl rfl Tryz.underlying23 ag (ng) (cg) e ⟨_, rfl, Below.refl _ _, rfl⟩
            · intro vs w' F hb hd hF hl hT
              have e := (hF 1).trans (look_out _ 1 _ _ (by kernel_rfl))
              exact one_field _ _ _ rfl rfl _ _ e (1) (fun w => by kernel_rfl) ⟨_, rfl, Below.refl _ _, rfl⟩
            · intro vs w' F hb hd hF hl hT
              have e := ((hF 60).trans (look_at _ 60 3 _ _ (by kernel_rfl) (by kernel_rfl) hl)).trans (dep_of (Fact := F_free W.heap.size ng cg ag BB) hd 3 (by kernel_rfl))
              exact one_load _ _ rfl rfl _ _ e (cell_abides E1.out hb) (by kernel_rfl) ⟨_, rfl, Below.refl _ _, rfl⟩
            · intro vs w' F hb hd hF hl hT
              have e := ((hF 61).trans (look_at _ 61 4 _ _ (by kernel_rfl) (by kernel_rfl) hl)).trans (dep_of (Fact := F_free W.heap.size ng cg ag BB) hd 4 (by kernel_rfl))
              exact rg_len _ 23 3 rfl rfl Tryz.underlying23 ag (ng) (cg) e ⟨_, rfl, Below.refl _ _, rfl⟩
            · intro vs w' F hb hd hF hl hT
              have e1 := ((hF 62).trans (look_at _ 62 5 _ _ (by kernel_rfl) (by kernel_rfl) hl)).trans (dep_of (Fact := F_free W.heap.size ng cg ag BB) hd 5 (by kernel_rfl))
              exact rg_lss _ _ _ _ rfl rfl .i64 ((ng : Int)) (256) BB e1 rfl (HBB.out) ⟨_, rfl, Below.refl _ _, rfl⟩
            · intro vs w' F hb hd hF hl hT
              have e := ((hF 59).trans (look_at _ 59 2 _ _ (by kernel_rfl) (by kernel_rfl) hl)).trans (dep_of (Fact := F_free W.heap.size ng cg ag BB) hd 2 (by kernel_rfl))
              exact one_move _ rfl (by first | exact Or.inl rfl | exact Or.inr rfl) ⟨_, rfl, Below.refl _ _, e⟩
            · intro vs w' F hb hd hF hl hT
              have e := ((hF 63).trans (look_at _ 63 6 _ _ (by kernel_rfl) (by kernel_rfl) hl)).trans (dep_of (Fact := F_free W.heap.size ng cg ag BB) hd 6 (by kernel_rfl))
              exact one_move _ rfl (by first | exact Or.inl rfl | exact Or.inr rfl) ⟨_, rfl, Below.refl _ _, e⟩
          · intro vs8 W8 hl hb hI
            have i7 : vs8.getD 7 undef = .int .i64 (ng : Int) := hI 7 (by omega)
            have i8 : vs8.getD 8 undef = .bool BB := hI 8 (by omega)
            obtain ⟨x0, x1, x2, x3, x4, x5, x6, x7, x8, hvs⟩ := list9 hl
            subst hvs
            replace i7 : x7 = .int .i64 (ng : Int) := i7
            replace i8 : x8 = .bool BB := i8
            subst i7 i8
            have HBE := Lib.hid (bt HBR.out hb)
            clear hI hl hb
            simp only [fillAll, Act.put, List.setIfInBounds_toArray, List.set_cons_succ, List.set_cons_zero]
            show wpList _ _ _ [] _ _
            go_wp2
            go_ret2
            exact ⟨by rw [HR1.out, HR2.out]; rfl, HBE.out⟩
end Go.Proofs.YtfckbkhnelgjbaaGreatDoor
end
/- slices.BinarySearchFunc at items, by their slots. -/
section
namespace Go.Proofs.YtfckbkhnelgjbaaGreatDoor
open Go.ChangeShapes Go.WideShapes Go.ChangeAt Go.RowKit Go.Nm Go.Mem
set_option linter.unusedVariables false
set_option maxHeartbeats 1000000 in
theorem clos_slot (k g t : Int) (a : Option Addr) (n c : Nat) (W : World) : Calls Tryz.prog 36 #[.agg #[.int .i64 k, .int .i64 g, .slice a n c], .int .i64 t] W fun e w' => e = .returned (.int .i64 (cmpI k t)) ∧ Below W.heap.size W w' := by
  have HC := Lib.hid (fun W' => cmp_ints k t W')
  have hb0 := (Below.refl W.heap.size W).alloc (Nat.le_refl _) (.cells #[.int .i64 k, .int .i64 g, .slice a n c] 61)
  have HB0 := Lib.hid hb0
  obtain ⟨R, hR⟩ : ∃ R, R = cmpI k t := ⟨_, rfl⟩
  rw [← hR] at HC ⊢
  clear hR hb0
  go_enter Tryz.func36, Tryz.ntmps36
  go_wp2_with fail
  refine (HC.out _).mono ?_
  rintro e w' ⟨rfl, rfl⟩
  go_wp2
  go_ret
  exact ⟨rfl, HB0.out⟩
theorem cmpI_lt (x y : Int) : decide (cmpI x y < 0) = decide (x < y) := by
  unfold cmpI
  by_cases h1 : x < y
  · simp [h1]
  · by_cases h2 : y < x <;> simp [h1, h2]
theorem cmpI_eq (x y : Int) : (cmpI x y == 0) = decide (x = y) := by
  unfold cmpI
  by_cases h1 : x < y
  · have : x ≠ y := by omega
    simp [h1, this]
  · by_cases h2 : y < x
    · have : x ≠ y := by omega
      simp [h1, h2, this]
    · have : x = y := by omega
      simp [this]
set_option maxHeartbeats 4000000 in
theorem bin_items (l : List ItemV) (a : Option Addr) (n cap : Nat) (t : Int) (hn : l.length = n) (h1 : n ≤ 1048576) (hs : l.Pairwise (fun x y => x.n < y.n)) (W : World) (hz : SlAt 3 ItemAt W a l) :
    Calls Tryz.prog 35 #[.slice a n cap, .int .i64 t, .func (.func 36) #[] #[]] W fun e w' => (∃ (i : Nat) (f : Bool), i ≤ n ∧ e = .returned (.tuple #[.int .i64 i, .bool f]) ∧ (∀ j (h : j < l.length), j < i → l[j].n < t) ∧ (∀ j (h : j < l.length), i ≤ j → t ≤ l[j].n) ∧ f = decide (∃ h : i < l.length, l[i].n = t)) ∧ Below W.heap.size W w' := by
  have HN := Lib.hid hn
  have HS := Lib.hid hs
  have HZ := Lib.hid hz
  clear hn hs hz
  go_enter Tryz.func35, Tryz.ntmps35
  go_wp2_with fail
  go_loopg [9, 10, 11] n (fun gk v9 v10 _ wx => ∃ lo hi : Nat, lo ≤ hi ∧ hi ≤ n ∧ gk = hi - lo ∧ v9 = .int .i64 lo ∧ v10 = .int .i64 hi ∧ (∀ j (h : j < l.length), j < lo → l[j].n < t) ∧ (∀ j (h : j < l.length), hi ≤ j → t ≤ l[j].n) ∧ Below W.heap.size W wx)
  case atStart => exact ⟨0, n, Nat.zero_le _, Nat.le_refl _, rfl, rfl, rfl, fun j h h2 => absurd h2 (by omega), fun j h h2 => absurd h2 (by rw [HN.out] at h; omega), Below.refl _ _⟩
  case round =>
    obtain ⟨lo, hi, h2, h3, g2, rfl, rfl, hlo, hhi, hb⟩ := hrel
    have G2 := Lib.hid g2
    have HLO := Lib.hid hlo
    have HHI := Lib.hid hhi
    have HB := Lib.hid hb
    clear g2 hlo hhi hb
    by_cases hlt : lo < hi
    · have hMl : lo ≤ (lo + hi) / 2 ∧ (lo + hi) / 2 < hi := by omega
      obtain ⟨x, rfl, _, _⟩ := HZ.out (by rw [HN.out]; omega)
      obtain ⟨xb, xo, rfl, av, cv, hcl, _⟩ := item_cells (HZ.out.below ItemAt.abides HB.out) ((lo + hi) / 2) (by rw [HN.out]; omega)
      obtain ⟨it, hit⟩ : ∃ it, it = l[(lo + hi) / 2]'(by rw [HN.out]; omega) := ⟨_, rfl⟩
      rw [← hit] at hcl
      obtain ⟨kn, hkn⟩ : ∃ k, k = it.n := ⟨_, rfl⟩
      obtain ⟨kg, hkg⟩ : ∃ k, k = it.gen := ⟨_, rfl⟩
      obtain ⟨nv, hnv⟩ : ∃ k, k = it.comps.length := ⟨_, rfl⟩
      rw [← hkn, ← hkg, ← hnv] at hcl
      have e0 := hcl.at 0 (by simp)
      have e1 := hcl.at 1 (by simp)
      have e2 := hcl.at 2 (by simp)
      simp only [List.getElem_cons_zero, List.getElem_cons_succ, Nat.add_zero] at e0 e1 e2
      have HIT := Lib.hid (show kn = (l[(lo + hi) / 2]'(by rw [HN.out]; omega)).n by rw [hkn, hit])
      have HCL := Lib.hid (clos_slot kn kg t av nv cv wr)
      have HMC := Lib.hid (show ((lo : Int) + hi) / 2 = (((lo + hi) / 2 : Nat) : Int) by omega)
      have hlt2 := cmpI_lt kn t
      obtain ⟨R, hR⟩ : ∃ R, R = cmpI kn t := ⟨_, rfl⟩
      rw [← hR] at HCL hlt2
      have HLT := Lib.hid hlt2
      clear hcl hit hkn hkg hnv hR hlt2
      go_wp2_with fail
      refine HCL.out.mono ?_
      rintro e w1 ⟨rfl, hb1⟩
      have HB1 := Lib.hid (bt HB.out hb1)
      clear hb1 HCL e0 e1 e2
      by_cases hR : R < 0
      · have hk : kn < t := of_decide_eq_true (by rw [← HLT.out]; exact decide_eq_true hR)
        have HN2 := Lib.hid (show ∀ j (h : j < l.length), j < (lo + hi) / 2 + 1 → l[j].n < t from fun j h hj => by
          by_cases e : j = (lo + hi) / 2
          · subst e; rw [← HIT.out]; exact hk
          · have := List.pairwise_iff_getElem.1 HS.out j ((lo + hi) / 2) h (by rw [HN.out]; omega) (by omega)
            rw [← HIT.out] at this
            omega)
        clear hk
        go_wp2
        go_roundg (hi - ((lo + hi) / 2 + 1))
        case measure => rw [G2.out]; omega
        case rel => exact ⟨(lo + hi) / 2 + 1, hi, by omega, h3, rfl, by rw [HMC.out]; go_num, rfl, HN2.out, HHI.out, HB1.out⟩
      · have hk : ¬ kn < t := of_decide_eq_false (by rw [← HLT.out]; exact decide_eq_false hR)
        have HN2 := Lib.hid (show ∀ j (h : j < l.length), (lo + hi) / 2 ≤ j → t ≤ l[j].n from fun j h hj => by
          by_cases e : j = (lo + hi) / 2
          · subst e; rw [← HIT.out]; omega
          · have := List.pairwise_iff_getElem.1 HS.out ((lo + hi) / 2) j (by rw [HN.out]; omega) h (by omega)
            rw [← HIT.out] at this
            omega)
        clear hk
        go_wp2
        go_roundg ((lo + hi) / 2 - lo)
        case measure => rw [G2.out]; omega
        case rel => exact ⟨lo, (lo + hi) / 2, by omega, by omega, rfl, rfl, by rw [HMC.out], HLO.out, HN2.out, HB1.out⟩
    · obtain rfl : hi = lo := by omega
      by_cases hin : hi < n
      · obtain ⟨x, rfl, _, _⟩ := HZ.out (by rw [HN.out]; omega)
        obtain ⟨xb, xo, rfl, av, cv, hcl, _⟩ := item_cells (HZ.out.below ItemAt.abides HB.out) hi (by rw [HN.out]; omega)
        obtain ⟨it, hit⟩ : ∃ it, it = l[hi]'(by rw [HN.out]; omega) := ⟨_, rfl⟩
        rw [← hit] at hcl
        obtain ⟨kn, hkn⟩ : ∃ k, k = it.n := ⟨_, rfl⟩
        obtain ⟨kg, hkg⟩ : ∃ k, k = it.gen := ⟨_, rfl⟩
        obtain ⟨nv, hnv⟩ : ∃ k, k = it.comps.length := ⟨_, rfl⟩
        rw [← hkn, ← hkg, ← hnv] at hcl
        have e0 := hcl.at 0 (by simp)
        have e1 := hcl.at 1 (by simp)
        have e2 := hcl.at 2 (by simp)
        simp only [List.getElem_cons_zero, List.getElem_cons_succ, Nat.add_zero] at e0 e1 e2
        have HIT := Lib.hid (show kn = (l[hi]'(by rw [HN.out]; omega)).n by rw [hkn, hit])
        have HCL := Lib.hid (clos_slot kn kg t av nv cv wr)
        have heq2 := cmpI_eq kn t
        obtain ⟨R, hR⟩ : ∃ R, R = cmpI kn t := ⟨_, rfl⟩
        rw [← hR] at HCL heq2
        have HEQ := Lib.hid heq2
        clear hcl hit hkn hkg hnv hR heq2
        go_wp2_with fail
        refine HCL.out.mono ?_
        rintro e w1 ⟨rfl, hb1⟩
        have HB1 := Lib.hid (bt HB.out hb1)
        clear hb1 HCL e0 e1 e2
        obtain ⟨F, hF⟩ : ∃ F, F = (R == 0) := ⟨_, rfl⟩
        have hF2 := hF.symm
        have HFE := Lib.hid (show F = decide (∃ h : hi < l.length, l[hi].n = t) by
          rw [hF, HEQ.out]
          by_cases e : kn = t
          · rw [decide_eq_true e, decide_eq_true ⟨by rw [HN.out]; exact hin, by rw [← HIT.out]; exact e⟩]
          · rw [decide_eq_false e, decide_eq_false (fun ⟨_, h⟩ => e (by rw [HIT.out]; exact h))])
        clear hF
        go_wp2
        go_ret2
        exact ⟨⟨hi, F, h3, by simp, HLO.out, HHI.out, HFE.out⟩, HB1.out⟩
      · have HFE := Lib.hid (show false = decide (∃ h : hi < l.length, l[hi].n = t) from (decide_eq_false (fun ⟨h, _⟩ => hin (by rw [HN.out] at h; exact h))).symm)
        go_wp2
        go_ret2
        exact ⟨⟨hi, false, h3, rfl, HLO.out, HHI.out, HFE.out⟩, HB.out⟩
end Go.Proofs.YtfckbkhnelgjbaaGreatDoor
end
