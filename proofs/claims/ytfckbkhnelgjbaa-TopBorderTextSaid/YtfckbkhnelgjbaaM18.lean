/- Lemmas for the law TopBorderText: FitSort, FirstP, RegMap, OutB, RegOut. No conditions. -/
import Derived.Test.YtfckbkhnelgjbaaM13
import Derived.Test.YtfckbkhnelgjbaaM17
import Derived.Shelf.SlSortCmp.NoneTotal
import Derived.Sort.OwnSorted
import Derived.Test.YtfckbkhnelgjbaaM08
import Derived.Test.YtfckbkhnelgjbaaM04
import Derived.Test.YtfckbkhnelgjbaaM14
import Derived.Test.YtfckbkhnelgjbaaM06
import Derived.Test.YtfckbkhnelgjbaaM01
import Derived.Test.YtfckbkhnelgjbaaRows
import Derived.Deep.DeepMust
/- The sort of fitted components, out of the kit's contract of slices.SortFunc. -/
section
namespace Go.Proofs.Ytfckbkhnelgjbaa
open Go.ChangeShapes Go.WideShapes Go.ChangeAt Go.RowKit Go.Nm Go.Mem Go.Shelf
open Go.Sort (putRow putCells mapBlock grow SWO PermIn SortedIn onCells heap_grow_old flatK get_flatK HoldsK)
set_option linter.unusedVariables false
/-- a component as its two cells, with its numbers beside -/
abbrev KS := (Int × Option Addr × Nat × Nat) × CompV
def encS (x : KS) : List Value := [.int .i64 x.1.1, .slice x.1.2.1 x.1.2.2.1 x.1.2.2.2]
def cfS (x y : KS) : Int := cmpI x.1.1 y.1.1
theorem ltS (x y : KS) : ltOf cfS x y = decide (x.1.1 < y.1.1) := by
  unfold ltOf cfS cmpI
  by_cases h1 : x.1.1 < y.1.1
  · simp [h1]
  · by_cases h2 : y.1.1 < x.1.1 <;> simp [h1, h2]
theorem swoS : SWO (ltOf cfS) where
  irrefl x := by rw [ltS]; simp
  trans x y z h1 h2 := by rw [ltS] at *; simp at *; omega
  ntrans x y z h1 h2 := by rw [ltS] at *; simp at *; omega
set_option maxHeartbeats 1000000 in
theorem clos_sort (k1 k2 : Int) (a1 a2 : Option Addr) (n1 c1 n2 c2 : Nat) (W : World) : Calls Try.prog 113 #[.agg #[.int .i64 k1, .slice a1 n1 c1], .agg #[.int .i64 k2, .slice a2 n2 c2]] W fun e w' => e = .returned (.int .i64 (cmpI k1 k2)) ∧ ∃ q os', w' = grow (W.drewN q) os' := by
  have HC := Lib.hid (fun W' => cmp_ints k1 k2 W')
  obtain ⟨R, hR⟩ : ∃ R, R = cmpI k1 k2 := ⟨_, rfl⟩
  rw [← hR] at HC ⊢
  clear hR
  go_enter Try.func113, Try.ntmps113
  go_wp2_with fail
  refine (HC.out _).mono ?_
  rintro e w' ⟨rfl, rfl⟩
  go_wp2
  go_ret
  exact ⟨rfl, 0, _, by rw [Sort.alloc_eq_grow, Sort.alloc_eq_grow, Sort.grow_grow]; rfl⟩
theorem cmpLaysS (blk off size : Nat) (w : World) : CmpLays Try.prog 113 #[] encS 2 cfS blk off size w :=
  fun _ _ _ _ x y => clos_sort x.1.1 y.1.1 _ _ _ _ _ _ _
theorem heap_sortedG {w : World} {g n : Nat} {os : Array Obj} {cur : Array Value} {e : TypeId} {fr : Nat × Nat} (F : Array Value) (hb : w.heap[g]? = some (.cells cur e fr)) :
    (grow (putRow id (Sort.ahead w n) g 0 F) os).heap[g]? = some (.cells (putCells id 0 F cur) e fr) := by
  have hg : g < w.heap.size := (Array.getElem?_eq_some_iff.1 hb).1
  rw [heap_grow_old _ _ (by simpa using hg)]
  simp [putRow, mapBlock, Sort.ahead, Array.getElem?_modify, hb, onCells]
theorem grownBy_sortedG {w : World} {g n : Nat} {os : Array Obj} (F : Array Value) : w.grownBy (grow (putRow id (Sort.ahead w n) g 0 F) os) (some g) := by
  refine ⟨rfl, rfl, rfl, by simp, fun k hk hne => ?_⟩
  rw [heap_grow_old _ _ (by simpa using hk)]
  have : g ≠ k := fun e => hne (by rw [e])
  simp [putRow, mapBlock, Sort.ahead, Array.getElem?_modify, this]
theorem take_putCellsG (cur F : Array Value) (h : F.size ≤ cur.size) : (putCells id 0 F cur).toList.take F.size = F.toList := by
  apply List.ext_getElem?
  intro j
  by_cases hj : j < F.size
  · rw [List.getElem?_take_of_lt hj, Array.getElem?_toList]
    simp [putCells, hj, show j < cur.size by omega]
  · rw [List.getElem?_take_eq_none (by omega), List.getElem?_eq_none (by simp; omega)]
theorem flatK_list (D : List KS) : (flatK encS 2 D.toArray).toList = (D.map encS).flatten := by
  have hl : (D.map encS).flatten.length = D.length * 2 := by
    rw [flat_len (sz := 2) _ (fun c hc => by obtain ⟨x, _, rfl⟩ := List.mem_map.1 hc; rfl), List.length_map]
  apply List.ext_getElem?
  intro t
  by_cases ht : t < D.length * 2
  · have h2 : t / 2 < (D.map encS).length := by rw [List.length_map]; omega
    have hf := flat_get (sz := 2) (D.map encS) (fun c hc => by obtain ⟨x, _, rfl⟩ := List.mem_map.1 hc; rfl) (t / 2) h2 (t % 2) (by omega)
    rw [show t / 2 * 2 + t % 2 = t by omega] at hf
    rw [hf, Array.getElem?_toList]
    have hs : t < (flatK encS 2 D.toArray).size := by simp; omega
    have hg := get_flatK encS 2 D.toArray t (by simpa using ht)
    rw [getElem!_pos _ t hs] at hg
    rw [Array.getElem?_eq_getElem hs, hg]
    have h3 : t / 2 < D.length := by omega
    have e1 : (D.toArray[t / 2]! : KS) = D[t / 2]'h3 := by rw [getElem!_pos D.toArray (t / 2) (by simpa using h3)]; simp
    rw [e1, List.getElem_map]
    have h4 : t % 2 < (encS (D[t / 2]'h3)).length := by show t % 2 < 2; omega
    rw [getElem!_pos (encS (D[t / 2]'h3)) (t % 2) h4, List.getElem?_eq_getElem h4]
  · rw [List.getElem?_eq_none (by simp; omega), List.getElem?_eq_none (by rw [hl]; omega)]
/-- what is known of an element of the row -/
def GoodS (B g : Nat) (W : World) (x : KS) : Prop := x.1.1 = x.2.kind ∧ ∃ lo hi, B ≤ lo ∧ ¬(lo ≤ g ∧ g < hi) ∧ Win lo hi (fun w => EComp w (encS x) x.2) W
theorem sorts_comps : SortsC 113 := by
  intro W B v l hgr hB hl1
  by_cases h0 : l.length = 0
  · have hl : l = [] := List.eq_nil_of_length_eq_zero h0
    subst hl
    obtain ⟨a, c, rfl, _, _⟩ := hgr.slice
    have hcon := AnyF.slices_SortFunc_none Try.sortComps a c (.func (.func 113) #[] #[]) W
    change Calls Try.prog 112 _ _ _ at hcon
    refine hcon.mono ?_
    rintro e w' ⟨he, rfl⟩
    exact ⟨he, ⟨[], List.Perm.refl _, List.Pairwise.nil, hgr⟩, Below.refl _ _⟩
  · obtain ⟨css, h1, h2, h3, h4⟩ := hgr
    rcases h3.2 with ⟨_, h⟩ | ⟨g, cap, cur, rfl, hBg, hb, hnc, hcm, hcs, htk⟩
    · omega
    · have key : ∀ j, j < l.length → ∃ x : KS, css[j]? = some (encS x) ∧ l[j]? = some x.2 ∧ GoodS B g W x := by
        intro j hj
        obtain ⟨lo, hi, p0, p1, p2⟩ := h4 j hj (by omega)
        obtain ⟨a, c, ec, hi2⟩ := p2.now
        refine ⟨((l[j].kind, a, l[j].vals.length, c), l[j]), ?_, List.getElem?_eq_getElem hj, rfl, lo, hi, p0, p1 g rfl, ?_⟩
        · rw [List.getElem?_eq_getElem (by omega), ec]; rfl
        · have : encS ((l[j].kind, a, l[j].vals.length, c), l[j]) = css[j]'(by omega) := ec.symm
          rw [this]
          exact p2
      obtain ⟨Y, hY⟩ := Go.Deep.choose_lt key
      obtain ⟨D, hD⟩ : ∃ D : List KS, D = (List.range l.length).map Y := ⟨_, rfl⟩
      have hDl : D.length = l.length := by rw [hD]; simp
      have hDg : ∀ j (h : j < D.length), D[j] = Y j := fun j h => by simp [hD]
      have hcss : D.map encS = css := by
        apply List.ext_getElem (by rw [List.length_map, hDl, h1])
        intro j k1 k2
        rw [List.getElem_map, hDg]
        have := (hY j (by omega)).1
        rw [List.getElem?_eq_getElem k2] at this
        injection this with this
        exact this.symm
      have hls : D.map (·.2) = l := by
        apply List.ext_getElem (by rw [List.length_map, hDl])
        intro j k1 k2
        rw [List.getElem_map, hDg]
        have := (hY j (by omega)).2.1
        rw [List.getElem?_eq_getElem k2] at this
        injection this with this
        exact this.symm
      have hgood : ∀ x ∈ D, GoodS B g W x := by
        intro x hx
        obtain ⟨j, hj, rfl⟩ := List.getElem_of_mem hx
        rw [hDg]
        exact (hY j (by omega)).2.2
      have hfl := flatK_list D
      rw [hcss] at hfl
      have hfs : (flatK encS 2 D.toArray).size = l.length * 2 := by simp [hDl]
      have hH : HoldsK encS 2 W g 0 D.toArray := by
        intro j hj
        refine ⟨?_, by simp [World.frozen?, hb]⟩
        rw [Nat.zero_add, h3.cellAt j (by rw [hfs] at hj; exact hj), ← hfl, Array.getElem?_toList, getElem!_pos _ j hj, Array.getElem?_eq_getElem hj]
        rfl
      have hgl : g < W.heap.size := lt_of_heap hb
      have hcon := AnyQ.slices_SortFunc Try.sortComps 2 Try.isAgg95 Try.sizeOf95 encS (fun _ => rfl) (fun x v hv => by simp [encS] at hv; rcases hv with rfl | rfl <;> rfl) cfS swoS 113 #[] g 0 cap D.toArray W
        (enters_of Try.func113 (by kernel_rfl) rfl) (cmpLaysS g 0 _ W) hH hgl (by simp; omega)
      change Calls Try.prog 112 _ _ _ at hcon
      rw [show D.toArray.size = l.length by simp [hDl]] at hcon
      refine hcon.mono ?_
      rintro e w' ⟨he, d', m, os, hp, hs, hw⟩
      obtain ⟨hps, _, hpp⟩ := hp
      have hd's : d'.size = l.length := by rw [hps]; simp [hDl]
      have hperm : d'.toList.Perm D := by
        have e1 : d'.extract 0 l.length = d' := by rw [← hd's]; simp
        have e2 : D.toArray.extract 0 l.length = D.toArray := by rw [show l.length = D.toArray.size by simp [hDl]]; simp
        rw [e1, e2] at hpp
        simpa using hpp
      have hw2 : w' = grow (putRow id (Sort.ahead W m) g 0 (flatK encS 2 d')) os := hw
      have hfl2 := flatK_list d'.toList
      rw [show d'.toList.toArray = d' by simp] at hfl2
      have hfs2 : (flatK encS 2 d').size = l.length * 2 := by simp [hd's]
      have hgb : W.grownBy w' (some g) := by rw [hw2]; exact grownBy_sortedG _
      have hlen' : (d'.toList.map (·.2)).length = l.length := by simp [hd's]
      refine ⟨he, ⟨d'.toList.map (·.2), by rw [← hls]; exact hperm.map _, ?_, ?_⟩, (Below.refl B W).grown hgb hB (fun r hr => by injection hr with hr; rw [← hr]; exact hBg)⟩
      · rw [List.pairwise_iff_getElem]
        intro i j hi hj hij hlt
        rw [hlen'] at hi hj
        rw [List.getElem_map, List.getElem_map] at hlt
        have hx := hs i j (Nat.zero_le _) hij hj
        rw [getElem!_pos d' i (by omega), getElem!_pos d' j (by omega), ltS] at hx
        have g1 := (hgood _ (hperm.mem_iff.1 (List.getElem_mem (show i < d'.toList.length by simp; omega)))).1
        have g2 := (hgood _ (hperm.mem_iff.1 (List.getElem_mem (show j < d'.toList.length by simp; omega)))).1
        have hx' := of_decide_eq_false hx
        simp only [Array.getElem_toList] at hlt g1 g2
        omega
      · refine ⟨d'.toList.map encS, by simp, fun c hc => by obtain ⟨x, _, rfl⟩ := List.mem_map.1 hc; rfl, ?_, fun j hj hj2 => ?_⟩
        · rw [hlen']
          refine ⟨?_, Or.inr ⟨g, cap, _, rfl, hBg, by rw [hw2]; exact heap_sortedG _ hb, hnc, hcm, by simp [putCells, hcs], ?_⟩⟩
          · rw [← hfl2, Array.length_toList, hfs2]
          · rw [← hfl2, ← hfs2]
            exact take_putCellsG cur _ (by rw [hfs2, hcs]; exact Nat.mul_le_mul_right _ hnc)
        · have hjl : j < d'.toList.length := by simpa using hj
          obtain ⟨_, lo, hi, p0, p1, p2⟩ := hgood _ (hperm.mem_iff.1 (List.getElem_mem hjl))
          rw [List.getElem_map, List.getElem_map]
          refine ⟨lo, hi, p0, fun g2 hg2 => ?_, p2.to (Nat.le_trans p2.1 hgb.size) (fun q q1 q2 => hgb.block q (Nat.lt_of_lt_of_le q2 p2.1) (fun e => p1 (by injection e with e; rw [← e]; exact ⟨q1, q2⟩)))⟩
          injection hg2 with hg2
          have hg3 : g = g2 := hg2
          rw [← hg3]; exact p1
end Go.Proofs.Ytfckbkhnelgjbaa
end
/- The first index at which a test holds; rows of Bools. -/
section
namespace Go.Proofs.Ytfckbkhnelgjbaa
open Go.RowKit Go.ChangeShapes Go.WideShapes Go.Mem
set_option linter.unusedVariables false
/-- the first index below n at which p holds, or n -/
def firstP (p : Nat → Bool) : Nat → Nat
  | 0 => 0
  | n + 1 => if firstP p n < n then firstP p n else if p n = true then n else n + 1
theorem firstP_none {p : Nat → Bool} : ∀ {n : Nat}, (∀ j, j < n → p j = false) → firstP p n = n
  | 0, _ => rfl
  | n + 1, h => by
    unfold firstP
    rw [firstP_none (n := n) (fun j hj => h j (by omega)), if_neg (by omega), if_neg (by rw [h n (by omega)]; simp)]
theorem firstP_at {p : Nat → Bool} {i : Nat} (h : ∀ j, j < i → p j = false) (hi : p i = true) : ∀ {n : Nat}, i < n → firstP p n = i
  | 0, hn => absurd hn (by omega)
  | n + 1, hn => by
    unfold firstP
    by_cases e : i < n
    · rw [firstP_at h hi e, if_pos e]
    · obtain rfl : i = n := by omega
      rw [firstP_none h, if_neg (by omega), if_pos hi]
theorem firstP_le (p : Nat → Bool) (n : Nat) : firstP p n ≤ n := by
  induction n with
  | zero => exact Nat.le_refl _
  | succ n ih =>
    unfold firstP
    split
    · omega
    · split <;> omega
theorem firstP_spec (p : Nat → Bool) : ∀ n, (∀ j, j < firstP p n → p j = false) ∧ (firstP p n < n → p (firstP p n) = true)
  | 0 => ⟨fun j h => absurd h (by simp [firstP]), fun h => absurd h (by omega)⟩
  | n + 1 => by
    obtain ⟨h1, h2⟩ := firstP_spec p n
    unfold firstP
    have hle := firstP_le p n
    split
    · exact ⟨h1, fun _ => h2 (by omega)⟩
    · rename_i hn
      have e : firstP p n = n := by omega
      rw [e] at h1
      split
      · exact ⟨h1, fun _ => by assumption⟩
      · rename_i hp
        refine ⟨fun j hj => ?_, fun h => absurd h (by omega)⟩
        by_cases ej : j < n
        · exact h1 j ej
        · obtain rfl : j = n := by omega
          simpa using hp
theorem firstP_congr {p q : Nat → Bool} : ∀ {n : Nat}, (∀ j, j < n → p j = q j) → firstP p n = firstP q n
  | 0, _ => rfl
  | n + 1, h => by
    unfold firstP
    rw [firstP_congr (n := n) (fun j hj => h j (by omega)), h n (by omega)]
/-- Block U is a row of n Bools. -/
def BoolRow (w : World) (U n : Nat) (f : Nat → Bool) : Prop := ∃ cs, w.heap[U]? = some (.cells cs 4 (0, 0)) ∧ cs.size = n ∧ ∀ i, i < n → cs[i]? = some (.bool (f i))
theorem BoolRow.lt {w : World} {U n : Nat} {f : Nat → Bool} (h : BoolRow w U n f) : U < w.heap.size := by obtain ⟨cs, h1, _⟩ := h; exact lt_of_heap h1
theorem BoolRow.cell {w : World} {U n : Nat} {f : Nat → Bool} (h : BoolRow w U n f) (i : Nat) (hi : i < n) : w.cell? ⟨U, i, none⟩ = some (.bool (f i)) := by
  obtain ⟨cs, h1, h2, h3⟩ := h
  rw [cell_of_row w U i _ _ _ h1]
  exact h3 i hi
theorem BoolRow.free {w : World} {U n : Nat} {f : Nat → Bool} (h : BoolRow w U n f) (i : Nat) : w.frozen? ⟨U, i, none⟩ = false := by
  obtain ⟨cs, h1, _⟩ := h; exact Mem.frozen_of_row h1 i
theorem BoolRow.below {w w' : World} {U n : Nat} {f : Nat → Bool} (h : BoolRow w U n f) (hb : Below w.heap.size w w') : BoolRow w' U n f := by
  obtain ⟨cs, h1, h2⟩ := h; exact ⟨cs, heap_below h1 hb, h2⟩
theorem BoolRow.set {w : World} {U n : Nat} {f g : Nat → Bool} (h : BoolRow w U n f) (i : Nat) (hi : i < n) (v : Bool) (hg : ∀ j, j < n → g j = if j = i then v else f j) : BoolRow (w.setCell ⟨U, i, none⟩ (.bool v)) U n g := by
  obtain ⟨cs, h1, h2, h3⟩ := h
  refine ⟨_, heap_set h1 i (.bool v), by simpa using h2, fun j hj => ?_⟩
  rw [Array.getElem?_setIfInBounds, hg j hj]
  by_cases e : i = j
  · subst e
    rw [if_pos rfl, if_pos (by omega), if_pos rfl]
  · rw [if_neg e, if_neg (fun x => e x.symm), h3 j hj]
theorem BoolRow.congr {w : World} {U n : Nat} {f g : Nat → Bool} (h : BoolRow w U n f) (hg : ∀ j, j < n → g j = f j) : BoolRow w U n g := by
  obtain ⟨cs, h1, h2, h3⟩ := h
  exact ⟨cs, h1, h2, fun i hi => by rw [hg i hi]; exact h3 i hi⟩
theorem wpList_make_bools {P : Program} {ops : Array Oper} {rest : List Oper} {o : Oper} {a : Act} {w : World} {Q : Exit → Act → World → Prop}
    (hg : o.guard = none) (l c : Operand) (t : TypeId) (hop : o.op = Op.makeSlice t l c) (h1 : P.underlying t = some (.slice 4)) (h2 : (P.info? 4).map (fun i => (i.zero, i.size, i.bytes)) = some (some (.bool false), 1, 1))
    (kl kc : IntKind) (L C : Int) (n : Nat) (hl : a.eval l = .int kl L) (hc : a.eval c = .int kc C) (hL : L = (n : Int)) (hC : C = (n : Int)) (b2 : 1 * n ≤ 281474976710656) (b3 : n ≤ maxLen)
    (hK : ∀ w2, BoolRow w2 w.heap.size n (fun _ => false) → Below w.heap.size w w2 → w2.heap.size = w.heap.size + 1 → wpList P ops Q rest (a.put o.dst (.slice (some ⟨w.heap.size, 0, none⟩) n n)) w2) :
    wpList P ops Q (o :: rest) a w := by
  refine wpList_plain hg fun K hK' => ?_
  obtain ⟨i, hi, hz, hs, hby⟩ := info_parts h2
  subst hL
  subst hC
  have hb : (i.bytes : Int) * (n : Int) ≤ 281474976710656 := by
    have h : ((i.bytes * n : Nat) : Int) ≤ 281474976710656 := by rw [hby]; omega
    rwa [Int.natCast_mul] at h
  have hr := run_make (P := P) w t 4 i (.bool false) h1 hi hz kl kc n n (by omega) (by omega) hb (by unfold maxLen at b3; omega)
  simp only [Int.toNat_natCast] at hr
  unfold Oper.wp
  simp [execOp, hop, hl, hc, hr, Result.andThen, Oper.upon]
  refine hK' _ _ (hK _ ⟨_, heap_alloc_new _ _, ?_, fun j hj => ?_⟩ ((Below.refl _ _).alloc (Nat.le_refl _) _) (by simp))
  · rw [size_madeCells, hs, Nat.mul_one]
  · rw [hs, Nat.mul_one]
    unfold madeCells
    rw [Array.getElem?_map, Array.getElem?_range, if_pos hj]
    show some ((#[Value.bool false] : Array Value)[j % 1]!) = _
    rw [Nat.mod_one]; rfl
end Go.Proofs.Ytfckbkhnelgjbaa
end
/- Maps in drawn regions: look-ups, nil checks, maps held against nil. -/
section
namespace Go.Mem
open Go.Proofs Go.RowKit
set_option linter.unusedVariables false
section
variable {P : Program} {ops : Array Oper} {o : Oper} {F : Act} {w : World} {Q : Exit → Act → World → Prop}
theorem rg_lookup (t : TypeId) (m x : Operand) (hgd : o.guard = none) (ho : o.op = .lookup t m x false) (u v r : Value) (hm : F.eval m = u) (hx : F.eval x = v) (hrun : (Instr.lookup t u v false).run P w = .ok r w) (h : Q .normal (F.put o.dst r) w) : wpList P ops Q [o] F w := by
  refine wpList_plain hgd fun K hK => ?_
  unfold Oper.wp execOp
  simp [ho, hm, hx, hrun, Oper.upon]
  exact hK _ _ h
theorem one_nilCheck (x : Operand) (hgd : o.guard = none) (ho : o.op = .nilCheck x) (p : Addr) (hx : F.eval x = .pointer (some p)) (h : Q .normal (F.put o.dst (.pointer (some p))) w) : wpList P ops Q [o] F w := by
  refine wpList_plain hgd fun K hK => ?_
  unfold Oper.wp execOp
  simp [ho, hx, Oper.upon]
  exact hK _ _ h
theorem run_neq_map_nil (w : World) (t k e : TypeId) (b : Option Nat) (h : P.underlying t = some (.map k e)) : (binOp .neq t (.map b) (.map none)).run P w = .ok (.bool b.isSome) w := by
  have hd : ∀ d : Nat, (Op.equalIn (d + 1) t (.map b) (.map none)).run P w = .ok (!b.isSome) w := fun d => by
    cases b <;> simp [Op.equalIn, run_underlying h]
  simp only [binOp]
  simp [Op.equal, Op.maxDepth, hd 9999]
theorem run_eql_map_nil (w : World) (t k e : TypeId) (b : Option Nat) (h : P.underlying t = some (.map k e)) : (binOp .eql t (.map b) (.map none)).run P w = .ok (.bool (!b.isSome)) w := by
  have hd : ∀ d : Nat, (Op.equalIn (d + 1) t (.map b) (.map none)).run P w = .ok (!b.isSome) w := fun d => by
    cases b <;> simp [Op.equalIn, run_underlying h]
  simp only [binOp]
  simp [Op.equal, Op.maxDepth, hd 9999]
end
end Go.Mem
namespace Go.Proofs.Ytfckbkhnelgjbaa
open Go.ChangeShapes Go.WideShapes Go.ChangeAt Go.RowKit Go.Nm Go.Mem Go.Maps
set_option linter.unusedVariables false
end Go.Proofs.Ytfckbkhnelgjbaa
end
/- A boxed slice of ints that grows by append: the variable in block X, its row in a block of its own. -/
section
namespace Go.Proofs.Ytfckbkhnelgjbaa
open Go.ChangeShapes Go.WideShapes Go.ChangeAt Go.RowKit Go.Mem
set_option linter.unusedVariables false
/-- the variable in block X holds v, and v is the call's own row of these numbers; all that turns lies at or beyond B -/
structure OutV (w : World) (B X : Nat) (v : Value) (L : List Int) : Prop where
  le : B ≤ X
  box : w.heap[X]? = some (.cells #[v] 34 (0, 0))
  row : w.ownsRow B 3 1 v L.length (vints .i64 L)
/-- nothing has turned but block X and rows of ints at or beyond B -/
structure FrX (B X : Nat) (w w' : World) : Prop where
  bel : Below B w w'
  far : ∀ (k : Nat) (cs : Array Value) (t : TypeId) (fr : Nat × Nat), w.heap[k]? = some (.cells cs t fr) → t ≠ 3 → k ≠ X → w'.heap[k]? = some (.cells cs t fr)
theorem FrX.refl (B X : Nat) (w : World) : FrX B X w w := ⟨Below.refl _ _, fun k cs t fr h _ _ => h⟩
theorem FrX.trans {B X : Nat} {a b c : World} (h : FrX B X a b) (h2 : FrX B X b c) : FrX B X a c := ⟨h.bel.trans h2.bel, fun k cs t fr h3 h4 h5 => h2.far k cs t fr (h.far k cs t fr h3 h4 h5) h4 h5⟩
theorem FrX.below {B X : Nat} {a b c : World} (h : FrX B X a b) (hB : B ≤ a.heap.size) (hb : Below b.heap.size b c) : FrX B X a c :=
  ⟨h.bel.trans (hb.mono (Nat.le_trans hB h.bel.size)), fun k cs t fr h3 h4 h5 => heap_below (h.far k cs t fr h3 h4 h5) hb⟩
theorem FrX.of_below {B X : Nat} {a b : World} (hB : B ≤ a.heap.size) (hb : Below a.heap.size a b) : FrX B X a b := (FrX.refl B X a).below hB hb
theorem FrX.low {B X N : Nat} {a b : World} {o : Obj} (h : FrX B X a b) (hN : N < B) (hr : a.heap[N]? = some o) : b.heap[N]? = some o := (h.bel.block N hN).trans hr
theorem OutV.cell {w : World} {B X : Nat} {v : Value} {L : List Int} (h : OutV w B X v L) : w.cell? ⟨X, 0, none⟩ = some v := cell_of_row _ _ 0 _ _ _ h.box
theorem OutV.lt {w : World} {B X : Nat} {v : Value} {L : List Int} (h : OutV w B X v L) : X < w.heap.size := lt_of_heap h.box
theorem OutV.ble {w : World} {B X : Nat} {v : Value} {L : List Int} (h : OutV w B X v L) : B ≤ w.heap.size := Nat.le_trans h.le (Nat.le_of_lt h.lt)
theorem OutV.free {w : World} {B X : Nat} {v : Value} {L : List Int} (h : OutV w B X v L) : w.frozen? ⟨X, 0, none⟩ = false := Mem.frozen_of_row h.box 0
theorem OutV.below {w w' : World} {B X : Nat} {v : Value} {L : List Int} (h : OutV w B X v L) (hb : Below w.heap.size w w') : OutV w' B X v L := ⟨h.le, heap_below h.box hb, own_below h.row hb⟩
theorem OutV.one {w : World} {B X : Nat} {v : Value} {L : List Int} (h : OutV w B X v L) : v.oneCell' = true ∧ v.cells = #[v] := by
  rcases h.row.2 with ⟨rfl, _⟩ | ⟨g, cap, cur, rfl, _⟩
  · exact ⟨rfl, rfl⟩
  · exact ⟨rfl, rfl⟩
theorem OutV.len {w : World} {B X : Nat} {v : Value} {L : List Int} (h : OutV w B X v L) : ∃ a c, v = .slice a L.length c := by
  rcases h.row.2 with ⟨rfl, h0⟩ | ⟨g, cap, cur, rfl, _⟩
  · exact ⟨none, 0, by rw [h0]⟩
  · exact ⟨_, _, rfl⟩
theorem OutV.ints {w : World} {B X : Nat} {v : Value} {L : List Int} (h : OutV w B X v L) : ∃ a c, v = .slice a L.length c ∧ IntsAt .i64 w a L := by
  obtain ⟨a, c, rfl⟩ := h.len
  exact ⟨a, c, rfl, IntsAt.of_own h.row rfl⟩
/-- the row's block is a block of ints at or beyond B -/
theorem OutV.own {w : World} {B X : Nat} {v : Value} {L : List Int} (h : OutV w B X v L) (g : Nat) (hv : v.ownBlock = some g) : B ≤ g ∧ g < w.heap.size ∧ ∃ cs fr, w.heap[g]? = some (.cells cs 3 fr) := by
  rcases h.row.2 with ⟨rfl, _⟩ | ⟨g', cap, cur, rfl, hb, hh, _⟩
  · cases hv
  · injection hv with hv
    have hv : g' = g := hv
    subst hv
    exact ⟨hb, lt_of_heap hh, _, _, hh⟩
theorem int_ne {w : World} {X g : Nat} {v : Value} {cs : Array Value} {fr : Nat × Nat} (hX : w.heap[X]? = some (.cells #[v] 34 (0, 0))) (hg : w.heap[g]? = some (.cells cs 3 fr)) : g ≠ X := fun e => by
  subst e
  rw [hX] at hg
  injection hg with hg
  injection hg with _ h7 _
  exact absurd h7 (by decide)
theorem new_ints1 (w : World) (a : Int) : IntsAt .i64 (w.alloc (.cells #[.int .i64 a] 3 (0, 0))) (some ⟨w.heap.size, 0, none⟩) [a] := RowB.ints (k := .i64) (zs := [a]) (heap_alloc_new w _)
theorem new_ints2 (w : World) (a b : Int) : IntsAt .i64 (w.alloc (.cells #[.int .i64 a, .int .i64 b] 3 (0, 0))) (some ⟨w.heap.size, 0, none⟩) [a, b] := RowB.ints (k := .i64) (zs := [a, b]) (heap_alloc_new w _)
theorem new_ints3 (w : World) (a b c : Int) : IntsAt .i64 (w.alloc (.cells #[.int .i64 a, .int .i64 b, .int .i64 c] 3 (0, 0))) (some ⟨w.heap.size, 0, none⟩) [a, b, c] := RowB.ints (k := .i64) (zs := [a, b, c]) (heap_alloc_new w _)
/-- as FrX, and block X too is as it was -/
structure FrY (B X : Nat) (w w' : World) : Prop where
  fr : FrX B X w w'
  box : ∀ o, w.heap[X]? = some o → w'.heap[X]? = some o
theorem FrY.refl (B X : Nat) (w : World) : FrY B X w w := ⟨FrX.refl _ _ _, fun o h => h⟩
theorem FrY.trans {B X : Nat} {a b c : World} (h : FrY B X a b) (h2 : FrY B X b c) : FrY B X a c := ⟨h.fr.trans h2.fr, fun o ho => h2.box o (h.box o ho)⟩
theorem FrY.of_below {B X : Nat} {a b : World} (hB : B ≤ a.heap.size) (hb : Below a.heap.size a b) : FrY B X a b := ⟨FrX.of_below hB hb, fun o ho => heap_below ho hb⟩
theorem FrY.drew (B X : Nat) (w : World) : FrY B X w w.drew := ⟨⟨(Below.refl _ _).drew, fun k cs t fr h _ _ => h⟩, fun o h => h⟩
theorem row_own {w : World} {B n : Nat} {v : Value} {xs : List Value} (h : w.ownsRow B 3 1 v n xs) (g : Nat) (hv : v.ownBlock = some g) : B ≤ g ∧ g < w.heap.size ∧ ∃ cs fr, w.heap[g]? = some (.cells cs 3 fr) := by
  rcases h.2 with ⟨rfl, _⟩ | ⟨g', cap, cur, rfl, hb, hh, _⟩
  · cases hv
  · injection hv with hv
    have hv : g' = g := hv
    subst hv
    exact ⟨hb, lt_of_heap hh, _, _, hh⟩
theorem own_frY {w w' : World} {B X n : Nat} {u v : Value} {xs : List Value} (hB : B ≤ w.heap.size) (hbox : w.heap[X]? = some (.cells #[u] 34 (0, 0))) (h : w.ownsRow B 3 1 v n xs) (hg : w.grownBy w' v.ownBlock) : FrY B X w w' := by
  refine ⟨⟨⟨hg.os, hg.tape, hg.output, hg.size, fun k hk => ?_⟩, fun k cs t fr h3 h4 h5 => ?_⟩, fun o ho => (hg.block X (lt_of_heap hbox) (fun e => ?_)).trans ho⟩
  · exact hg.block k (Nat.lt_of_lt_of_le hk hB) (fun e => by have := (row_own h k e.symm).1; omega)
  · refine (hg.block k (lt_of_heap h3) (fun e => ?_)).trans h3
    obtain ⟨_, _, cs2, fr2, h6⟩ := row_own h k e.symm
    rw [h3] at h6
    injection h6 with h6
    injection h6 with _ h7 _
    exact h4 h7
  · obtain ⟨_, _, cs, fr, h6⟩ := row_own h X e.symm
    exact int_ne hbox h6 rfl
/-- .. and the store into the variable -/
theorem out_store {w w2 : World} {B X : Nat} {v v' : Value} {L : List Int} (hle : B ≤ X) (hb : w.heap[X]? = some (.cells #[v] 34 (0, 0))) (hown : w.ownsRow B 3 1 v' L.length (vints .i64 L)) (hput : Put w w2 X 34 v') : OutV w2 B X v' L ∧ FrX B X w w2 := by
  refine ⟨⟨hle, hput.here, own_keep hown (fun g hg => ?_)⟩, ⟨hput.below hle, fun k cs t fr h3 h4 h5 => (hput.else_ k h5).trans h3⟩⟩
  refine hput.else_ g ?_
  rcases hown.2 with ⟨rfl, _⟩ | ⟨g', cap, cur, rfl, _, hh, _⟩
  · cases hg
  · injection hg with hg
    have hg : g' = g := hg
    subst hg
    exact int_ne hb hh
/-- both, in the walk: the variable holds u, the row that grows is v -/
theorem wpList_out2 {w : World} {ops : Array Oper} {rest : List Oper} {o o2 : Oper} {a : Act} {Q : Exit → Act → World → Prop} (hgd : o.guard = none) (s x : Operand)
    (ho : o.op = .call { callee := .builtin .append, args := #[s, x], argTypes := #[34, 34] }) (hgd2 : o2.guard = none) (p y : Operand) (ho2 : o2.op = .store 34 p y)
    (B X : Nat) (u v : Value) (L : List Int) (hs : a.eval s = v) (hle : B ≤ X) (hbox : w.heap[X]? = some (.cells #[u] 34 (0, 0))) (hrow : w.ownsRow B 3 1 v L.length (vints .i64 L)) (A : Option Addr) (m c : Nat) (zs : List Int) (hx : a.eval x = .slice A m c) (hm : zs.length = m) (hr : IntsAt .i64 w A zs)
    (hn : (L.length + m) * 8 ≤ 140737488355328) (hp : ∀ u, (a.put o.dst u).eval p = .pointer (some ⟨X, 0, none⟩)) (hy : ∀ u, (a.put o.dst u).eval y = u)
    (hK : ∀ v2 w2, OutV w2 B X v2 (L ++ zs) → FrX B X w w2 → wpList Try.prog ops Q rest ((a.put o.dst v2).put o2.dst undef) w2) : wpList Try.prog ops Q (o :: o2 :: rest) a w := by
  have hBw : B ≤ w.heap.size := Nat.le_trans hle (Nat.le_of_lt (lt_of_heap hbox))
  refine wpList_append_ints hgd s x 34 ho B 3 .i64 8 Try.underlying34 (by kernel_rfl) v L.length L hs hrow A m c zs hx hm hr (by unfold maxLen; omega) hn hBw fun v' w' hown hg hor => ?_
  rw [← hm] at hown
  have hfr := own_frY hBw hbox hrow hg
  have hb := hfr.box _ hbox
  have hown2 : w'.ownsRow B 3 1 v' (L ++ zs).length (vints .i64 (L ++ zs)) := by rw [List.length_append]; exact hown
  have hone : v'.oneCell' = true ∧ v'.cells = #[v'] := by
    rcases hown.2 with ⟨rfl, _⟩ | ⟨g, cap, cur, rfl, _⟩
    · exact ⟨rfl, rfl⟩
    · exact ⟨rfl, rfl⟩
  refine wpList_store_var hgd2 34 p y ho2 X v' (hp v') (hy v') hone.2 hone.1 34 u hb (by kernel_rfl) fun w2 hput => ?_
  obtain ⟨h1, h2⟩ := out_store hle hb hown2 hput
  exact hK v' w2 h1 (hfr.fr.trans h2)
theorem wpList_out {w : World} {ops : Array Oper} {rest : List Oper} {o o2 : Oper} {a : Act} {Q : Exit → Act → World → Prop} (hgd : o.guard = none) (s x : Operand)
    (ho : o.op = .call { callee := .builtin .append, args := #[s, x], argTypes := #[34, 34] }) (hgd2 : o2.guard = none) (p y : Operand) (ho2 : o2.op = .store 34 p y)
    (B X : Nat) (v : Value) (L : List Int) (hs : a.eval s = v) (h : OutV w B X v L) (A : Option Addr) (m c : Nat) (zs : List Int) (hx : a.eval x = .slice A m c) (hm : zs.length = m) (hr : IntsAt .i64 w A zs)
    (hn : (L.length + m) * 8 ≤ 140737488355328) (hp : ∀ u, (a.put o.dst u).eval p = .pointer (some ⟨X, 0, none⟩)) (hy : ∀ u, (a.put o.dst u).eval y = u)
    (hK : ∀ v2 w2, OutV w2 B X v2 (L ++ zs) → FrX B X w w2 → wpList Try.prog ops Q rest ((a.put o.dst v2).put o2.dst undef) w2) : wpList Try.prog ops Q (o :: o2 :: rest) a w :=
  wpList_out2 hgd s x ho hgd2 p y ho2 B X v v L hs h.le h.box h.row A m c zs hx hm hr hn hp hy hK
end Go.Proofs.Ytfckbkhnelgjbaa
end
/- Drawn regions that append to a boxed slice of ints twice: the relations of worlds. -/
section
namespace Go.Proofs.Ytfckbkhnelgjbaa
open Go.ChangeShapes Go.WideShapes Go.ChangeAt Go.RowKit Go.Mem
set_option linter.unusedVariables false
/-- what operation i does: the append (q) writes its row, the others only lay blocks -/
def RI (B X q : Nat) (row : Option Nat) (i : Nat) (a b : World) : Prop := (i ≠ q → Below a.heap.size a b) ∧ (i = q → a.grownBy b row) ∧ FrY B X a b
theorem RI.same (B X q : Nat) (row : Option Nat) (i : Nat) (w : World) : RI B X q row i w w := ⟨fun _ => Below.refl _ _, fun _ => World.grownBy.refl _ _, FrY.refl _ _ _⟩
theorem RI.below {B X q : Nat} {row : Option Nat} {i : Nat} {a b : World} (hi : i ≠ q) (hB : B ≤ a.heap.size) (hb : Below a.heap.size a b) : RI B X q row i a b := ⟨fun _ => hb, fun h => absurd h hi, FrY.of_below hB hb⟩
theorem RI.at_ {B X q : Nat} {row : Option Nat} {i : Nat} {a b : World} (hi : i = q) (hg : a.grownBy b row) (hf : FrY B X a b) : RI B X q row i a b := ⟨fun h => absurd hi h, fun _ => hg, hf⟩
theorem RI.gb {B X q : Nat} {row : Option Nat} {i : Nat} {a b : World} (h : RI B X q row i a b) : a.grownBy b row := by
  by_cases hi : i = q
  · exact h.2.1 hi
  · have hb := h.1 hi
    exact ⟨hb.os, hb.tape, hb.output, hb.size, fun k hk _ => hb.block k hk⟩
theorem RI.sub {B X q : Nat} {row : Option Nat} : ∀ i a b, RI B X q row i a b → FrY B X a b := fun _ _ _ h => h.2.2
theorem ints_gbo {k : IntKind} {w w' : World} {a : Option Addr} {zs : List Int} {row : Option Nat} (h : IntsAt k w a zs) (hg : w.grownBy w' row) (ha : ∀ x, a = some x → some x.block ≠ row) : IntsAt k w' a zs := by
  intro hn
  obtain ⟨x, rfl, hx, hc⟩ := h hn
  refine ⟨x, rfl, Nat.lt_of_lt_of_le hx hg.size, fun i hi => ?_⟩
  rw [World.cell?_of_block (w := w) (hg.block _ (by rw [block_of_add]; exact hx) (fun e => ha x rfl (by rw [← e, block_of_add])))]
  exact hc i hi
end Go.Proofs.Ytfckbkhnelgjbaa
end
