/- Lemmas for the law TopSlotWorld: FitSort, FirstP, RegMap, RegOut, CopyC, CloneN, KindCopy. No conditions. -/
import Derived.Test.YtpilpkbblkhnaaaM19
import Derived.Shelf.SlSortCmp.NoneTotal
import Derived.Sort.OwnSorted
import Derived.Test.YtpilpkbblkhnaaaM10
import Derived.Test.YtpilpkbblkhnaaaM11
import Derived.Test.YtpilpkbblkhnaaaM06
import Derived.Test.YtpilpkbblkhnaaaM09
import Derived.Test.YtpilpkbblkhnaaaM14
import Derived.Test.YtpilpkbblkhnaaaM04
import Derived.Deep.LoopGhost
import Derived.Shelf.Abstract
import Derived.Deep.AppendSrc
import Derived.Lib.AppendZeros
import Derived.Test.YtpilpkbblkhnaaaM03
/- The sort of fitted components, out of the kit's contract of slices.SortFunc. -/
section
namespace Go.Proofs.Ytpilpkbblkhnaaa
open Go.ChangeShapes Go.WideShapes Go.ChangeAt Go.RowKit Go.Nm Go.Mem Go.Shelf
open Go.Sort (putRow putCells mapBlock grow SWO PermIn SortedIn onCells heap_grow_old flatK get_flatK HoldsK)
set_option linter.unusedVariables false
/-- a component as its two cells, with its numbers beside -/
abbrev KS := (Int × Option Addr × Nat × Nat) × CompV
def encS (x : KS) : List Value := [.int .i64 x.1.1, .slice x.1.2.1 x.1.2.2.1 x.1.2.2.2]
def cfS (x y : KS) : Int := cmpI x.1.1 y.1.1
theorem ltS (x y : KS) : ltOf cfS x y = decide (x.1.1 < y.1.1) := by
  unfold ltOf cfS cmpI
  by_cases h1 : x.1.1 < y.1.1
  · simp [h1]
  · by_cases h2 : y.1.1 < x.1.1 <;> simp [h1, h2]
theorem swoS : SWO (ltOf cfS) where
  irrefl x := by rw [ltS]; simp
  trans x y z h1 h2 := by rw [ltS] at *; simp at *; omega
  ntrans x y z h1 h2 := by rw [ltS] at *; simp at *; omega
set_option maxHeartbeats 1000000 in
theorem clos_sort (k1 k2 : Int) (a1 a2 : Option Addr) (n1 c1 n2 c2 : Nat) (W : World) : Calls Try.prog 57 #[.agg #[.int .i64 k1, .slice a1 n1 c1], .agg #[.int .i64 k2, .slice a2 n2 c2]] W fun e w' => e = .returned (.int .i64 (cmpI k1 k2)) ∧ ∃ q os', w' = grow (W.drewN q) os' := by
  have HC := Lib.hid (fun W' => cmp_ints k1 k2 W')
  obtain ⟨R, hR⟩ : ∃ R, R = cmpI k1 k2 := ⟨_, rfl⟩
  rw [← hR] at HC ⊢
  clear hR
  go_enter Try.func57, Try.ntmps57
  go_wp2_with fail
  refine (HC.out _).mono ?_
  rintro e w' ⟨rfl, rfl⟩
  go_wp2
  go_ret
  exact ⟨rfl, 0, _, by rw [Sort.alloc_eq_grow, Sort.alloc_eq_grow, Sort.grow_grow]; rfl⟩
theorem cmpLaysS (blk off size : Nat) (w : World) : CmpLays Try.prog 57 #[] encS 2 cfS blk off size w :=
  fun _ _ _ _ x y => clos_sort x.1.1 y.1.1 _ _ _ _ _ _ _
theorem heap_sortedG {w : World} {g n : Nat} {os : Array Obj} {cur : Array Value} {e : TypeId} {fr : Nat × Nat} (F : Array Value) (hb : w.heap[g]? = some (.cells cur e fr)) :
    (grow (putRow id (Sort.ahead w n) g 0 F) os).heap[g]? = some (.cells (putCells id 0 F cur) e fr) := by
  have hg : g < w.heap.size := (Array.getElem?_eq_some_iff.1 hb).1
  rw [heap_grow_old _ _ (by simpa using hg)]
  simp [putRow, mapBlock, Sort.ahead, Array.getElem?_modify, hb, onCells]
theorem grownBy_sortedG {w : World} {g n : Nat} {os : Array Obj} (F : Array Value) : w.grownBy (grow (putRow id (Sort.ahead w n) g 0 F) os) (some g) := by
  refine ⟨rfl, rfl, rfl, by simp, fun k hk hne => ?_⟩
  rw [heap_grow_old _ _ (by simpa using hk)]
  have : g ≠ k := fun e => hne (by rw [e])
  simp [putRow, mapBlock, Sort.ahead, Array.getElem?_modify, this]
theorem take_putCellsG (cur F : Array Value) (h : F.size ≤ cur.size) : (putCells id 0 F cur).toList.take F.size = F.toList := by
  apply List.ext_getElem?
  intro j
  by_cases hj : j < F.size
  · rw [List.getElem?_take_of_lt hj, Array.getElem?_toList]
    simp [putCells, hj, show j < cur.size by omega]
  · rw [List.getElem?_take_eq_none (by omega), List.getElem?_eq_none (by simp; omega)]
theorem flatK_list (D : List KS) : (flatK encS 2 D.toArray).toList = (D.map encS).flatten := by
  have hl : (D.map encS).flatten.length = D.length * 2 := by
    rw [flat_len (sz := 2) _ (fun c hc => by obtain ⟨x, _, rfl⟩ := List.mem_map.1 hc; rfl), List.length_map]
  apply List.ext_getElem?
  intro t
  by_cases ht : t < D.length * 2
  · have h2 : t / 2 < (D.map encS).length := by rw [List.length_map]; omega
    have hf := flat_get (sz := 2) (D.map encS) (fun c hc => by obtain ⟨x, _, rfl⟩ := List.mem_map.1 hc; rfl) (t / 2) h2 (t % 2) (by omega)
    rw [show t / 2 * 2 + t % 2 = t by omega] at hf
    rw [hf, Array.getElem?_toList]
    have hs : t < (flatK encS 2 D.toArray).size := by simp; omega
    have hg := get_flatK encS 2 D.toArray t (by simpa using ht)
    rw [getElem!_pos _ t hs] at hg
    rw [Array.getElem?_eq_getElem hs, hg]
    have h3 : t / 2 < D.length := by omega
    have e1 : (D.toArray[t / 2]! : KS) = D[t / 2]'h3 := by rw [getElem!_pos D.toArray (t / 2) (by simpa using h3)]; simp
    rw [e1, List.getElem_map]
    have h4 : t % 2 < (encS (D[t / 2]'h3)).length := by show t % 2 < 2; omega
    rw [getElem!_pos (encS (D[t / 2]'h3)) (t % 2) h4, List.getElem?_eq_getElem h4]
  · rw [List.getElem?_eq_none (by simp; omega), List.getElem?_eq_none (by rw [hl]; omega)]
/-- what is known of an element of the row -/
def GoodS (B g : Nat) (W : World) (x : KS) : Prop := x.1.1 = x.2.kind ∧ ∃ lo hi, B ≤ lo ∧ ¬(lo ≤ g ∧ g < hi) ∧ Win lo hi (fun w => EComp w (encS x) x.2) W
theorem sorts_comps : SortsC 57 := by
  intro W B v l hgr hB hl1
  by_cases h0 : l.length = 0
  · have hl : l = [] := List.eq_nil_of_length_eq_zero h0
    subst hl
    obtain ⟨a, c, rfl, _, _⟩ := hgr.slice
    have hcon := AnyF.slices_SortFunc_none Try.sortComps a c (.func (.func 57) #[] #[]) W
    change Calls Try.prog 56 _ _ _ at hcon
    refine hcon.mono ?_
    rintro e w' ⟨he, rfl⟩
    exact ⟨he, ⟨[], List.Perm.refl _, List.Pairwise.nil, hgr⟩, Below.refl _ _⟩
  · obtain ⟨css, h1, h2, h3, h4⟩ := hgr
    rcases h3.2 with ⟨_, h⟩ | ⟨g, cap, cur, rfl, hBg, hb, hnc, hcm, hcs, htk⟩
    · omega
    · have key : ∀ j, j < l.length → ∃ x : KS, css[j]? = some (encS x) ∧ l[j]? = some x.2 ∧ GoodS B g W x := by
        intro j hj
        obtain ⟨lo, hi, p0, p1, p2⟩ := h4 j hj (by omega)
        obtain ⟨a, c, ec, hi2⟩ := p2.now
        refine ⟨((l[j].kind, a, l[j].vals.length, c), l[j]), ?_, List.getElem?_eq_getElem hj, rfl, lo, hi, p0, p1 g rfl, ?_⟩
        · rw [List.getElem?_eq_getElem (by omega), ec]; rfl
        · have : encS ((l[j].kind, a, l[j].vals.length, c), l[j]) = css[j]'(by omega) := ec.symm
          rw [this]
          exact p2
      obtain ⟨Y, hY⟩ := Go.Deep.choose_lt key
      obtain ⟨D, hD⟩ : ∃ D : List KS, D = (List.range l.length).map Y := ⟨_, rfl⟩
      have hDl : D.length = l.length := by rw [hD]; simp
      have hDg : ∀ j (h : j < D.length), D[j] = Y j := fun j h => by simp [hD]
      have hcss : D.map encS = css := by
        apply List.ext_getElem (by rw [List.length_map, hDl, h1])
        intro j k1 k2
        rw [List.getElem_map, hDg]
        have := (hY j (by omega)).1
        rw [List.getElem?_eq_getElem k2] at this
        injection this with this
        exact this.symm
      have hls : D.map (·.2) = l := by
        apply List.ext_getElem (by rw [List.length_map, hDl])
        intro j k1 k2
        rw [List.getElem_map, hDg]
        have := (hY j (by omega)).2.1
        rw [List.getElem?_eq_getElem k2] at this
        injection this with this
        exact this.symm
      have hgood : ∀ x ∈ D, GoodS B g W x := by
        intro x hx
        obtain ⟨j, hj, rfl⟩ := List.getElem_of_mem hx
        rw [hDg]
        exact (hY j (by omega)).2.2
      have hfl := flatK_list D
      rw [hcss] at hfl
      have hfs : (flatK encS 2 D.toArray).size = l.length * 2 := by simp [hDl]
      have hH : HoldsK encS 2 W g 0 D.toArray := by
        intro j hj
        refine ⟨?_, by simp [World.frozen?, hb]⟩
        rw [Nat.zero_add, h3.cellAt j (by rw [hfs] at hj; exact hj), ← hfl, Array.getElem?_toList, getElem!_pos _ j hj, Array.getElem?_eq_getElem hj]
        rfl
      have hgl : g < W.heap.size := lt_of_heap hb
      have hcon := AnyQ.slices_SortFunc Try.sortComps 2 Try.isAgg60 Try.sizeOf60 encS (fun _ => rfl) (fun x v hv => by simp [encS] at hv; rcases hv with rfl | rfl <;> rfl) cfS swoS 57 #[] g 0 cap D.toArray W
        (enters_of Try.func57 (by kernel_rfl) rfl) (cmpLaysS g 0 _ W) hH hgl (by simp; omega)
      change Calls Try.prog 56 _ _ _ at hcon
      rw [show D.toArray.size = l.length by simp [hDl]] at hcon
      refine hcon.mono ?_
      rintro e w' ⟨he, d', m, os, hp, hs, hw⟩
      obtain ⟨hps, _, hpp⟩ := hp
      have hd's : d'.size = l.length := by rw [hps]; simp [hDl]
      have hperm : d'.toList.Perm D := by
        have e1 : d'.extract 0 l.length = d' := by rw [← hd's]; simp
        have e2 : D.toArray.extract 0 l.length = D.toArray := by rw [show l.length = D.toArray.size by simp [hDl]]; simp
        rw [e1, e2] at hpp
        simpa using hpp
      have hw2 : w' = grow (putRow id (Sort.ahead W m) g 0 (flatK encS 2 d')) os := hw
      have hfl2 := flatK_list d'.toList
      rw [show d'.toList.toArray = d' by simp] at hfl2
      have hfs2 : (flatK encS 2 d').size = l.length * 2 := by simp [hd's]
      have hgb : W.grownBy w' (some g) := by rw [hw2]; exact grownBy_sortedG _
      have hlen' : (d'.toList.map (·.2)).length = l.length := by simp [hd's]
      refine ⟨he, ⟨d'.toList.map (·.2), by rw [← hls]; exact hperm.map _, ?_, ?_⟩, (Below.refl B W).grown hgb hB (fun r hr => by injection hr with hr; rw [← hr]; exact hBg)⟩
      · rw [List.pairwise_iff_getElem]
        intro i j hi hj hij hlt
        rw [hlen'] at hi hj
        rw [List.getElem_map, List.getElem_map] at hlt
        have hx := hs i j (Nat.zero_le _) hij hj
        rw [getElem!_pos d' i (by omega), getElem!_pos d' j (by omega), ltS] at hx
        have g1 := (hgood _ (hperm.mem_iff.1 (List.getElem_mem (show i < d'.toList.length by simp; omega)))).1
        have g2 := (hgood _ (hperm.mem_iff.1 (List.getElem_mem (show j < d'.toList.length by simp; omega)))).1
        have hx' := of_decide_eq_false hx
        simp only [Array.getElem_toList] at hlt g1 g2
        omega
      · refine ⟨d'.toList.map encS, by simp, fun c hc => by obtain ⟨x, _, rfl⟩ := List.mem_map.1 hc; rfl, ?_, fun j hj hj2 => ?_⟩
        · rw [hlen']
          refine ⟨?_, Or.inr ⟨g, cap, _, rfl, hBg, by rw [hw2]; exact heap_sortedG _ hb, hnc, hcm, by simp [putCells, hcs], ?_⟩⟩
          · rw [← hfl2, Array.length_toList, hfs2]
          · rw [← hfl2, ← hfs2]
            exact take_putCellsG cur _ (by rw [hfs2, hcs]; exact Nat.mul_le_mul_right _ hnc)
        · have hjl : j < d'.toList.length := by simpa using hj
          obtain ⟨_, lo, hi, p0, p1, p2⟩ := hgood _ (hperm.mem_iff.1 (List.getElem_mem hjl))
          rw [List.getElem_map, List.getElem_map]
          refine ⟨lo, hi, p0, fun g2 hg2 => ?_, p2.to (Nat.le_trans p2.1 hgb.size) (fun q q1 q2 => hgb.block q (Nat.lt_of_lt_of_le q2 p2.1) (fun e => p1 (by injection e with e; rw [← e]; exact ⟨q1, q2⟩)))⟩
          injection hg2 with hg2
          have hg3 : g = g2 := hg2
          rw [← hg3]; exact p1
end Go.Proofs.Ytpilpkbblkhnaaa
end
/- The first index at which a test holds; rows of Bools. -/
section
namespace Go.Proofs.Ytpilpkbblkhnaaa
open Go.RowKit Go.ChangeShapes Go.WideShapes Go.Mem
set_option linter.unusedVariables false
/-- the first index below n at which p holds, or n -/
def firstP (p : Nat → Bool) : Nat → Nat
  | 0 => 0
  | n + 1 => if firstP p n < n then firstP p n else if p n = true then n else n + 1
theorem firstP_none {p : Nat → Bool} : ∀ {n : Nat}, (∀ j, j < n → p j = false) → firstP p n = n
  | 0, _ => rfl
  | n + 1, h => by
    unfold firstP
    rw [firstP_none (n := n) (fun j hj => h j (by omega)), if_neg (by omega), if_neg (by rw [h n (by omega)]; simp)]
theorem firstP_at {p : Nat → Bool} {i : Nat} (h : ∀ j, j < i → p j = false) (hi : p i = true) : ∀ {n : Nat}, i < n → firstP p n = i
  | 0, hn => absurd hn (by omega)
  | n + 1, hn => by
    unfold firstP
    by_cases e : i < n
    · rw [firstP_at h hi e, if_pos e]
    · obtain rfl : i = n := by omega
      rw [firstP_none h, if_neg (by omega), if_pos hi]
theorem firstP_le (p : Nat → Bool) (n : Nat) : firstP p n ≤ n := by
  induction n with
  | zero => exact Nat.le_refl _
  | succ n ih =>
    unfold firstP
    split
    · omega
    · split <;> omega
theorem firstP_spec (p : Nat → Bool) : ∀ n, (∀ j, j < firstP p n → p j = false) ∧ (firstP p n < n → p (firstP p n) = true)
  | 0 => ⟨fun j h => absurd h (by simp [firstP]), fun h => absurd h (by omega)⟩
  | n + 1 => by
    obtain ⟨h1, h2⟩ := firstP_spec p n
    unfold firstP
    have hle := firstP_le p n
    split
    · exact ⟨h1, fun _ => h2 (by omega)⟩
    · rename_i hn
      have e : firstP p n = n := by omega
      rw [e] at h1
      split
      · exact ⟨h1, fun _ => by assumption⟩
      · rename_i hp
        refine ⟨fun j hj => ?_, fun h => absurd h (by omega)⟩
        by_cases ej : j < n
        · exact h1 j ej
        · obtain rfl : j = n := by omega
          simpa using hp
/-- Block U is a row of n Bools. -/
def BoolRow (w : World) (U n : Nat) (f : Nat → Bool) : Prop := ∃ cs, w.heap[U]? = some (.cells cs 4 (0, 0)) ∧ cs.size = n ∧ ∀ i, i < n → cs[i]? = some (.bool (f i))
theorem BoolRow.lt {w : World} {U n : Nat} {f : Nat → Bool} (h : BoolRow w U n f) : U < w.heap.size := by obtain ⟨cs, h1, _⟩ := h; exact lt_of_heap h1
theorem BoolRow.cell {w : World} {U n : Nat} {f : Nat → Bool} (h : BoolRow w U n f) (i : Nat) (hi : i < n) : w.cell? ⟨U, i, none⟩ = some (.bool (f i)) := by
  obtain ⟨cs, h1, h2, h3⟩ := h
  rw [cell_of_row w U i _ _ _ h1]
  exact h3 i hi
theorem BoolRow.free {w : World} {U n : Nat} {f : Nat → Bool} (h : BoolRow w U n f) (i : Nat) : w.frozen? ⟨U, i, none⟩ = false := by
  obtain ⟨cs, h1, _⟩ := h; exact Mem.frozen_of_row h1 i
theorem BoolRow.below {w w' : World} {U n : Nat} {f : Nat → Bool} (h : BoolRow w U n f) (hb : Below w.heap.size w w') : BoolRow w' U n f := by
  obtain ⟨cs, h1, h2⟩ := h; exact ⟨cs, heap_below h1 hb, h2⟩
theorem BoolRow.set {w : World} {U n : Nat} {f g : Nat → Bool} (h : BoolRow w U n f) (i : Nat) (hi : i < n) (v : Bool) (hg : ∀ j, j < n → g j = if j = i then v else f j) : BoolRow (w.setCell ⟨U, i, none⟩ (.bool v)) U n g := by
  obtain ⟨cs, h1, h2, h3⟩ := h
  refine ⟨_, heap_set h1 i (.bool v), by simpa using h2, fun j hj => ?_⟩
  rw [Array.getElem?_setIfInBounds, hg j hj]
  by_cases e : i = j
  · subst e
    rw [if_pos rfl, if_pos (by omega), if_pos rfl]
  · rw [if_neg e, if_neg (fun x => e x.symm), h3 j hj]
theorem BoolRow.congr {w : World} {U n : Nat} {f g : Nat → Bool} (h : BoolRow w U n f) (hg : ∀ j, j < n → g j = f j) : BoolRow w U n g := by
  obtain ⟨cs, h1, h2, h3⟩ := h
  exact ⟨cs, h1, h2, fun i hi => by rw [hg i hi]; exact h3 i hi⟩
theorem wpList_make_bools {P : Program} {ops : Array Oper} {rest : List Oper} {o : Oper} {a : Act} {w : World} {Q : Exit → Act → World → Prop}
    (hg : o.guard = none) (l c : Operand) (t : TypeId) (hop : o.op = Op.makeSlice t l c) (h1 : P.underlying t = some (.slice 4)) (h2 : (P.info? 4).map (fun i => (i.zero, i.size, i.bytes)) = some (some (.bool false), 1, 1))
    (kl kc : IntKind) (L C : Int) (n : Nat) (hl : a.eval l = .int kl L) (hc : a.eval c = .int kc C) (hL : L = (n : Int)) (hC : C = (n : Int)) (b2 : 1 * n ≤ 281474976710656) (b3 : n ≤ maxLen)
    (hK : ∀ w2, BoolRow w2 w.heap.size n (fun _ => false) → Below w.heap.size w w2 → w2.heap.size = w.heap.size + 1 → wpList P ops Q rest (a.put o.dst (.slice (some ⟨w.heap.size, 0, none⟩) n n)) w2) :
    wpList P ops Q (o :: rest) a w := by
  refine wpList_plain hg fun K hK' => ?_
  obtain ⟨i, hi, hz, hs, hby⟩ := info_parts h2
  subst hL
  subst hC
  have hb : (i.bytes : Int) * (n : Int) ≤ 281474976710656 := by
    have h : ((i.bytes * n : Nat) : Int) ≤ 281474976710656 := by rw [hby]; omega
    rwa [Int.natCast_mul] at h
  have hr := run_make (P := P) w t 4 i (.bool false) h1 hi hz kl kc n n (by omega) (by omega) hb (by unfold maxLen at b3; omega)
  simp only [Int.toNat_natCast] at hr
  unfold Oper.wp
  simp [execOp, hop, hl, hc, hr, Result.andThen, Oper.upon]
  refine hK' _ _ (hK _ ⟨_, heap_alloc_new _ _, ?_, fun j hj => ?_⟩ ((Below.refl _ _).alloc (Nat.le_refl _) _) (by simp))
  · rw [size_madeCells, hs, Nat.mul_one]
  · rw [hs, Nat.mul_one]
    unfold madeCells
    rw [Array.getElem?_map, Array.getElem?_range, if_pos hj]
    show some ((#[Value.bool false] : Array Value)[j % 1]!) = _
    rw [Nat.mod_one]; rfl
end Go.Proofs.Ytpilpkbblkhnaaa
end
/- Maps in drawn regions: look-ups, nil checks, maps held against nil. -/
section
namespace Go.Mem
open Go.Proofs Go.RowKit
set_option linter.unusedVariables false
section
variable {P : Program} {ops : Array Oper} {o : Oper} {F : Act} {w : World} {Q : Exit → Act → World → Prop}
end
end Go.Mem
namespace Go.Proofs.Ytpilpkbblkhnaaa
open Go.ChangeShapes Go.WideShapes Go.ChangeAt Go.RowKit Go.Nm Go.Mem Go.Maps
set_option linter.unusedVariables false
end Go.Proofs.Ytpilpkbblkhnaaa
end
/- Drawn regions that append to a boxed slice of ints twice: the relations of worlds. -/
section
namespace Go.Proofs.Ytpilpkbblkhnaaa
open Go.ChangeShapes Go.WideShapes Go.ChangeAt Go.RowKit Go.Mem
set_option linter.unusedVariables false
/-- what operation i does: the append (q) writes its row, the others only lay blocks -/
def RI (B X q : Nat) (row : Option Nat) (i : Nat) (a b : World) : Prop := (i ≠ q → Below a.heap.size a b) ∧ (i = q → a.grownBy b row) ∧ FrY B X a b
theorem RI.same (B X q : Nat) (row : Option Nat) (i : Nat) (w : World) : RI B X q row i w w := ⟨fun _ => Below.refl _ _, fun _ => World.grownBy.refl _ _, FrY.refl _ _ _⟩
theorem RI.below {B X q : Nat} {row : Option Nat} {i : Nat} {a b : World} (hi : i ≠ q) (hB : B ≤ a.heap.size) (hb : Below a.heap.size a b) : RI B X q row i a b := ⟨fun _ => hb, fun h => absurd h hi, FrY.of_below hB hb⟩
theorem RI.at_ {B X q : Nat} {row : Option Nat} {i : Nat} {a b : World} (hi : i = q) (hg : a.grownBy b row) (hf : FrY B X a b) : RI B X q row i a b := ⟨fun h => absurd hi h, fun _ => hg, hf⟩
theorem RI.gb {B X q : Nat} {row : Option Nat} {i : Nat} {a b : World} (h : RI B X q row i a b) : a.grownBy b row := by
  by_cases hi : i = q
  · exact h.2.1 hi
  · have hb := h.1 hi
    exact ⟨hb.os, hb.tape, hb.output, hb.size, fun k hk _ => hb.block k hk⟩
theorem RI.sub {B X q : Nat} {row : Option Nat} : ∀ i a b, RI B X q row i a b → FrY B X a b := fun _ _ _ h => h.2.2
end Go.Proofs.Ytpilpkbblkhnaaa
end
/- world.CopyComps. -/
section
namespace Go.Proofs.Ytpilpkbblkhnaaa
open Go.ChangeShapes Go.WideShapes Go.ChangeAt Go.RowKit Go.Mem
set_option linter.unusedVariables false
/-- a component in the making: its numbers lie in another block than the row -/
def CompNew (G : Nat) (w : World) (i : Nat) (y : CompV) : Prop := w.cell? ⟨G, i, none⟩ = some (.int .i64 y.kind) ∧ ∃ a c, w.cell? ⟨G, i + 1, none⟩ = some (.slice a y.vals.length c) ∧ IntsAt .i64 w a y.vals ∧ (∀ x, a = some x → G < x.block)
theorem ints_far {k : IntKind} {w : World} {a : Option Addr} {zs : List Int} (h : IntsAt k w a zs) {p : Addr} (hx : ∀ x, a = some x → x.block ≠ p.block) (v : Value) : IntsAt k (w.setCell p v) a zs := fun h0 => by
  obtain ⟨x, e, h1, h2⟩ := h h0
  refine ⟨x, e, by simpa using h1, fun i hi => ?_⟩
  rw [cell_set_ne (fun e2 => hx x e (by rw [e2, block_of_add]))]
  exact h2 i hi
theorem CompNew.below {G : Nat} {w w' : World} {i : Nat} {y : CompV} (h : CompNew G w i y) (hb : Below w.heap.size w w') : CompNew G w' i y := by
  obtain ⟨h1, a, c, h2, h3, h4⟩ := h
  exact ⟨cell_abides h1 hb, a, c, cell_abides h2 hb, h3.below hb, h4⟩
theorem CompNew.far {G : Nat} {w : World} {i : Nat} {y : CompV} (h : CompNew G w i y) (j : Nat) (v : Value) (n1 : j ≠ i) (n2 : j ≠ i + 1) : CompNew G (w.setCell ⟨G, j, none⟩ v) i y := by
  obtain ⟨h1, a, c, h2, h3, h4⟩ := h
  exact ⟨by rw [cell_set_ne (fun e => n1 (by injection e))]; exact h1, a, c, by rw [cell_set_ne (fun e => n2 (by injection e))]; exact h2, ints_far h3 (fun x e => by have := h4 x e; show x.block ≠ G; omega) v, h4⟩
theorem CompNew.at {G : Nat} {w : World} {i : Nat} {y : CompV} (h : CompNew G w i y) : CompAt w ⟨G, i, none⟩ y := by
  obtain ⟨h1, a, c, h2, h3, _⟩ := h
  exact ⟨h1, a, c, h2, h3⟩
/-- one element written -/
theorem CompNew.new {G : Nat} {w : World} {i : Nat} {y : CompV} {a : Option Addr} {c : Nat} {o1 o2 : Value} (h1 : w.cell? ⟨G, i, none⟩ = some o1) (h2 : w.cell? ⟨G, i + 1, none⟩ = some o2) (hi : IntsAt .i64 w a y.vals) (hx0 : ∀ x, a = some x → G < x.block) :
    CompNew G ((w.setCell ⟨G, i, none⟩ (.int .i64 y.kind)).setCell ⟨G, i + 1, none⟩ (.slice a y.vals.length c)) i y := by
  have hx : ∀ x, a = some x → x.block ≠ G := fun x e => by have := hx0 x e; omega
  have hne : (⟨G, i + 1, none⟩ : Addr) ≠ ⟨G, i, none⟩ := fun e => by injection e with _ e; omega
  refine ⟨?_, a, c, ?_, ints_far (ints_far hi hx _) hx _, hx0⟩
  · rw [cell_set_ne hne]; exact cell_set_eq h1
  · exact cell_set_eq (u := o2) (by rw [cell_set_ne hne.symm]; exact h2)
theorem CompNew.up {G : Nat} {w w2 : World} {i : Nat} {y : CompV} (h : CompNew G w i y) (hs : SameUp G w w2) : CompNew G w2 i y := by
  obtain ⟨h1, a, c, h2, h3, h4⟩ := h
  exact ⟨cell_up hs (Nat.le_refl _) h1, a, c, cell_up hs (Nat.le_refl _) h2, ints_up hs (fun x e => Nat.le_of_lt (h4 x e)) h3, h4⟩
end Go.Proofs.Ytpilpkbblkhnaaa
end
/- slices.Clone of ints once more: no cell of the new row is a string. -/
section
namespace Go.Proofs.Ytpilpkbblkhnaaa
open Go.ChangeShapes Go.WideShapes Go.ChangeAt Go.RowKit Go.Mem
set_option linter.unusedVariables false
/-- no cell of block G is a string -/
def NoStr (w : World) (G : Nat) : Prop := ∀ i s, w.cell? ⟨G, i, none⟩ ≠ some (.string s)
theorem NoStr.below {w w' : World} {G : Nat} (h : NoStr w G) (hG : G < w.heap.size) (hb : Below w.heap.size w w') : NoStr w' G := fun i s => by
  rw [World.cell?_of_block (w := w) (hb.block G hG)]
  exact h i s
theorem nostr_row0 {w : World} {G : Nat} {cs : Array Value} {t : TypeId} {fr : Nat × Nat} (h : w.heap[G]? = some (.cells cs t fr)) (hs : ∀ (j : Nat) (s : ByteArray), cs[j]? ≠ some (Value.string s)) : NoStr w G := fun i s => by
  rw [cell_of_row _ _ _ _ _ _ h]; exact hs i s
/-- A slice of ints that the call owns; its row holds no string. -/
def OwnPostN (zs : List Int) (n : Nat) (w : World) (e : Ending) (w' : World) : Prop := ∃ v, e = .returned v ∧ w'.ownsRow w.heap.size 3 1 v n (vints .i64 zs) ∧ Below w.heap.size w w' ∧ ∀ g, v.ownBlock = some g → NoStr w' g
set_option maxHeartbeats 4000000 in
theorem clone_intsN (l : List Int) (a : Option Addr) (n cap : Nat) (hn : l.length = n) (h1 : n ≤ 17592186044416) (w : World) (hin : IntsAt .i64 w a l) :
    Calls Try.prog 58 #[.slice a n cap] w (OwnPostN l n w) := by
  rcases a with _ | x
  · have h0 : n = 0 := by
      rcases Nat.eq_zero_or_pos n with h | h
      · exact h
      · obtain ⟨x, h2, _⟩ := hin (by omega)
        cases h2
    subst h0
    have : l = [] := List.eq_nil_of_length_eq_zero hn
    subst this
    have hnil : w.ownsRow w.heap.size 3 1 (.slice none 0 0) 0 (vints .i64 []) := ⟨rfl, .inl ⟨rfl, rfl⟩⟩
    have HNIL := Lib.hid hnil
    clear hnil hin hn
    have hq := fun wx => Lib.run_eql_slice_nil (P := Try.prog) wx 22 3 none 0 cap 0 0 Try.underlying22
    simp only [Option.isNone] at hq
    go_enter Try.func58, Try.ntmps58
    go_wp2
    go_ret
    exact ⟨_, rfl, HNIL.out, Below.refl _ _, fun g h => by cases h⟩
  · have HN := Lib.hid hn
    obtain ⟨i0, hi0, hz0, hzs, hzb⟩ := info_parts (show (Try.prog.info? 3).map (fun i => (i.zero, i.size, i.bytes)) = some (some (.int .i64 0), 1, 8) by kernel_rfl)
    have hq := fun wx => Lib.run_eql_slice_nil (P := Try.prog) wx 22 3 (some x) n cap 0 0 Try.underlying22
    simp only [Option.isNone] at hq
    obtain ⟨W1, hW1⟩ : ∃ W1, W1 = w.alloc (.cells #[] 3) := ⟨_, rfl⟩
    have hba : Below w.heap.size w W1 := by rw [hW1]; exact (Below.refl w.heap.size w).alloc (Nat.le_refl _) (.cells #[] 3)
    have hs1 : W1.heap.size = w.heap.size + 1 := by rw [hW1, World.size_alloc]
    have hr1 : W1.heap[w.heap.size]? = some (.cells #[] 3 (0, 0)) := by rw [hW1]; exact heap_alloc_new w _
    have hin1 := hin.below hba
    by_cases h0 : n = 0
    · subst h0
      have hl0 : l = [] := List.eq_nil_of_length_eq_zero hn
      have hown : W1.ownsRow w.heap.size 3 1 (.slice (some ⟨w.heap.size, 0, none⟩) 0 0) 0 (vints .i64 l) := by
        rw [hl0]
        exact ⟨rfl, Or.inr ⟨w.heap.size, 0, #[], rfl, Nat.le_refl _, hr1, Nat.le_refl _, by unfold maxLen; omega, rfl, rfl⟩⟩
      have hno : NoStr W1 w.heap.size := nostr_row0 hr1 (fun j s => by simp)
      have hlo : ∀ wx : World, (loadCells x 0).run Try.prog wx = .ok #[] wx := fun wx => by simpa using run_loadCells_list (P := Try.prog) wx x [] (by simp)
      have hrun : ∀ ty, (Builtin.append_ #[22, 22] ty #[.slice (some ⟨w.heap.size, 0, none⟩) 0 0, .slice (some x) 0 cap]).run Try.prog W1 = .ok (.slice (some ⟨w.heap.size, 0, none⟩) 0 0) W1 := fun ty => by
        simp [Builtin.append_, run_underlying Try.underlying22, sizeOf, typeInfo, hi0, Builtin.lenOf, Builtin.firstCells, storeCells, hlo]
      have HR := Lib.hid hrun
      have HO := Lib.hid hown
      have HNO := Lib.hid hno
      have HBA := Lib.hid hba
      clear hown hno hlo hin1 hr1 hs1 hba hi0 hz0 hzs hzb hl0 hin hn HN
      subst hW1
      go_enter Try.func58, Try.ntmps58
      go_wp2_with (at_builtin; go_must (refine Lib.wpList_append_run _ rfl _ _ _ _ rfl _ _ rfl rfl _ _ (HR.out _) ?_))
      go_ret
      exact ⟨_, rfl, HO.out, HBA.out, fun g hg => by injection hg with hg; have hg2 : w.heap.size = g := hg; rw [← hg2]; exact HNO.out⟩
    · obtain ⟨_, ex, hxb, hxc⟩ := hin1 (by omega)
      injection ex with ex
      subst ex
      have hsrc : Src Try.prog i0.size 22 (.slice (some x) n cap) n (vints .i64 l) W1 := by
        rw [hzs]
        refine Src.ofSlice W1 Try.underlying22 x n cap (vints .i64 l) (by rw [vints_length, hn, Nat.mul_one]) (fun j u hj => ?_) (vints_one .i64 l)
        have hjl : j < l.length := by
          have := (List.getElem?_eq_some_iff.1 hj).1
          rwa [vints_length] at this
        rw [hxc j hjl]
        rw [vints_get .i64 l j hjl] at hj
        exact hj
      have hold : (Builtin.firstCells i0.size 0 (.slice (some ⟨w.heap.size, 0, none⟩) 0 0)).run Try.prog W1.drew = .ok ([] : List Value).toArray W1.drew := by
        exact run_firstCells_some W1.drew i0.size 0 ⟨w.heap.size, 0, none⟩ 0 0 [] (by simp) (fun j v hj => by simp at hj)
      have hrun := fun ty => run_append_grow_src W1 22 22 ty 3 i0 _ Try.underlying22 hi0 hz0 (some ⟨w.heap.size, 0, none⟩) 0 0 [] hold _ n (vints .i64 l) hsrc (by omega) (by omega) (by rw [hzb]; exact growslice_fits (by omega) (by omega))
      obtain ⟨C, hC⟩ : ∃ C, C = grownCap W1 (0 + n) 0 3 := ⟨_, rfl⟩
      obtain ⟨ROW, hROW⟩ : ∃ ROW : Array Value, ROW = (([] : List Value) ++ vints .i64 l).toArray ++ Builtin.zeroCells (Value.int .i64 0).cells (C - (0 + n)) := ⟨_, rfl⟩
      rw [← hC, ← hROW] at hrun
      have hCn : 0 + n ≤ C := by rw [hC]; exact grownCap_ge W1 _ _ _
      have hCm : C ≤ maxLen := by rw [hC]; exact grownCap_le_maxLen W1 (0 + n) 0 3 (by unfold maxLen; omega)
      obtain ⟨W2, hW2⟩ : ∃ W2, W2 = W1.drew.alloc (.cells ROW 3) := ⟨_, rfl⟩
      have hr2 : W2.heap[W1.heap.size]? = some (.cells ROW 3 (0, 0)) := by rw [hW2]; exact heap_alloc_new W1.drew _
      have hb2 : Below w.heap.size w W2 := by rw [hW2]; exact hba.drew.alloc (by show w.heap.size ≤ W1.heap.size; omega) _
      have hRs : ROW.size = C * 1 := by
        rw [hROW]
        simp [Builtin.zeroCells, Value.cells, vints_length, hn]
        omega
      have hown : W2.ownsRow w.heap.size 3 1 (.slice (some ⟨W1.heap.size, 0, none⟩) n C) n (vints .i64 l) := by
        refine ⟨by rw [vints_length, hn, Nat.mul_one], Or.inr ⟨W1.heap.size, C, ROW, rfl, by omega, hr2, by omega, hCm, hRs, ?_⟩⟩
        rw [hROW]
        simp only [List.nil_append, Array.toList_append]
        rw [List.take_append_of_le_length (by rw [vints_length]; omega), List.take_of_length_le (by rw [vints_length]; omega)]
      have hno : NoStr W2 W1.heap.size := nostr_row0 hr2 (fun j s hj => by
        have hm := Array.mem_of_getElem? hj
        rw [hROW] at hm
        rw [Array.mem_append] at hm
        rcases hm with hm | hm
        · simp [vints] at hm
        · simp [Builtin.zeroCells, Value.cells] at hm
          obtain ⟨a, _, ha⟩ := hm
          rw [Nat.mod_one] at ha
          simp at ha)
      rw [Nat.zero_add, ← hW2, hs1] at hrun
      rw [hs1] at hown hno
      have HR := Lib.hid hrun
      have HO := Lib.hid hown
      have HNO := Lib.hid hno
      have HB2 := Lib.hid hb2
      clear hown hno hin1 hr1 hs1 hba hi0 hz0 hzs hzb hin hn HN hxc hxb hsrc hold hrun hROW hC hr2 hb2 hRs hCn hCm hW2
      subst hW1
      go_enter Try.func58, Try.ntmps58
      go_wp2_with (at_builtin; go_must (refine Lib.wpList_append_run _ rfl _ _ _ _ rfl _ _ rfl rfl _ _ (HR.out _) ?_))
      go_ret
      exact ⟨_, rfl, HO.out, HB2.out, fun g hg => by injection hg with hg; have hg2 : _ = g := hg; rw [← hg2]; exact HNO.out⟩
theorem OwnPostN.own {zs : List Int} {n : Nat} {w w' : World} {e : Ending} (h : OwnPostN zs n w e w') : OwnPost zs n w e w' := by
  obtain ⟨v, h1, h2, h3, _⟩ := h
  exact ⟨v, h1, h2, h3⟩
end Go.Proofs.Ytpilpkbblkhnaaa
end
/- kind.Copy. -/
section
namespace Go.Proofs.Ytpilpkbblkhnaaa
open Go.ChangeShapes Go.WideShapes Go.ChangeAt Go.RowKit Go.Nm Go.Mem
set_option linter.unusedVariables false
theorem inf_kind3 : (Try.prog.info? 58).map (fun i => (i.zero, i.size, i.bytes)) = some (some (.agg #[.string ByteArray.empty, .slice none 0 0]), 2, 40) := by kernel_rfl
theorem inf_fld3 : (Try.prog.info? 55).map (fun i => (i.zero, i.size, i.bytes)) = some (some (.agg #[.string ByteArray.empty, .int .i64 0, .int .i64 0]), 3, 32) := by kernel_rfl
def F_kc (BB G n k m : Nat) (q : ByteArray) (av : Option Addr) (cv : Nat) (y : KindV) (j : Nat) (v : Value) (w : World) : Prop :=
  match j with
  | 0 => v = .slice (some ⟨G, 0, none⟩) n n
  | 1 => v = .int .i64 k
  | 2 => v = .pointer (some ⟨BB, 0, none⟩)
  | 3 => v = .string q
  | 4 => v = .pointer (some ⟨BB, 1, none⟩)
  | 5 => v = .slice av m cv
  | 6 => ∃ a c, v = .slice a m c ∧ m ≤ c ∧ c ≤ 9223372036854775807 ∧ SlAt 3 FieldAt w a y.fields ∧ (∀ x, a = some x → BB < x.block)
  | 7 => ∃ a c, v = .agg #[.string q, .slice a m c] ∧ m ≤ c ∧ c ≤ 9223372036854775807 ∧ SlAt 3 FieldAt w a y.fields ∧ (∀ x, a = some x → BB < x.block)
  | 8 => v = .pointer (some ⟨G, k * 2, none⟩)
  | _ => True
theorem F_kc_mono (BB G n k m : Nat) (q : ByteArray) (av : Option Addr) (cv : Nat) (y : KindV) : Facts (F_kc BB G n k m q av cv y) := ⟨by
  intro j v w w' h hb
  unfold F_kc at h ⊢
  split at h
  all_goals first
    | exact h
    | (obtain ⟨a, c, e, h1, h2, hi, hx⟩ := h; exact ⟨a, c, e, h1, h2, hi.below FieldAt.abides hb, hx⟩)
    | trivial⟩
/-- a kind in the making: its fields lie in another block than the row -/
def KindNew (G : Nat) (w : World) (i : Nat) (y : KindV) : Prop := w.cell? ⟨G, i, none⟩ = some (.string y.name) ∧ y.name.size ≤ 9223372036854775807 ∧ ∃ a c, w.cell? ⟨G, i + 1, none⟩ = some (.slice a y.fields.length c) ∧ y.fields.length ≤ c ∧ c ≤ 9223372036854775807 ∧ SlAt 3 FieldAt w a y.fields ∧ (∀ x, a = some x → G < x.block)
theorem flds_far {w : World} {a : Option Addr} {l : List FieldV} (h : SlAt 3 FieldAt w a l) {p : Addr} (hx : ∀ x, a = some x → x.block ≠ p.block) (v : Value) : SlAt 3 FieldAt (w.setCell p v) a l := fun h0 => by
  obtain ⟨x, e, h1, h2⟩ := h h0
  refine ⟨x, e, by simpa using h1, fun i hi => ?_⟩
  obtain ⟨k0, k1, k2, k3⟩ := h2 i hi
  have hb := block_of_add x (i * 3)
  refine ⟨?_, ?_, ?_, k3⟩
  · rw [cell_set_ne (fun e2 => hx x e (by rw [e2, hb]))]; exact k0
  · rw [cell_set_ne (fun e2 => hx x e (by rw [e2]; exact hb.symm))]; exact k1
  · rw [cell_set_ne (fun e2 => hx x e (by rw [e2]; exact hb.symm))]; exact k2
theorem KindNew.below {G : Nat} {w w' : World} {i : Nat} {y : KindV} (h : KindNew G w i y) (hb : Below w.heap.size w w') : KindNew G w' i y := by
  obtain ⟨h1, hs, a, c, h2, c1, c2, h3, h4⟩ := h
  exact ⟨cell_abides h1 hb, hs, a, c, cell_abides h2 hb, c1, c2, h3.below FieldAt.abides hb, h4⟩
theorem KindNew.far {G : Nat} {w : World} {i : Nat} {y : KindV} (h : KindNew G w i y) (j : Nat) (v : Value) (n1 : j ≠ i) (n2 : j ≠ i + 1) : KindNew G (w.setCell ⟨G, j, none⟩ v) i y := by
  obtain ⟨h1, hs, a, c, h2, c1, c2, h3, h4⟩ := h
  exact ⟨by rw [cell_set_ne (fun e => n1 (by injection e))]; exact h1, hs, a, c, by rw [cell_set_ne (fun e => n2 (by injection e))]; exact h2, c1, c2, flds_far h3 (fun x e => by have := h4 x e; show x.block ≠ G; omega) v, h4⟩
theorem KindNew.at {G : Nat} {w : World} {i : Nat} {y : KindV} (h : KindNew G w i y) : KindAt w ⟨G, i, none⟩ y := by
  obtain ⟨h1, hs, a, c, h2, c1, c2, h3, _⟩ := h
  exact ⟨h1, hs, a, c, h2, c1, c2, h3⟩
theorem KindNew.new {G : Nat} {w : World} {i : Nat} {y : KindV} {a : Option Addr} {c : Nat} {o1 o2 : Value} (hs : y.name.size ≤ 9223372036854775807) (h1 : w.cell? ⟨G, i, none⟩ = some o1) (h2 : w.cell? ⟨G, i + 1, none⟩ = some o2) (c1 : y.fields.length ≤ c) (c2 : c ≤ 9223372036854775807) (hi : SlAt 3 FieldAt w a y.fields) (hx0 : ∀ x, a = some x → G < x.block) :
    KindNew G ((w.setCell ⟨G, i, none⟩ (.string y.name)).setCell ⟨G, i + 1, none⟩ (.slice a y.fields.length c)) i y := by
  have hx : ∀ x, a = some x → x.block ≠ G := fun x e => by have := hx0 x e; omega
  have hne : (⟨G, i + 1, none⟩ : Addr) ≠ ⟨G, i, none⟩ := fun e => by injection e with _ e; omega
  refine ⟨?_, hs, a, c, ?_, c1, c2, flds_far (flds_far hi hx _) hx _, hx0⟩
  · rw [cell_set_ne hne]; exact cell_set_eq h1
  · exact cell_set_eq (u := o2) (by rw [cell_set_ne hne.symm]; exact h2)
set_option maxHeartbeats 8000000 in
theorem kind_Copy (l : List KindV) (a : Option Addr) (n cap : Nat) (hn : l.length = n) (h1 : n ≤ 3518437208780) (hv : ∀ y ∈ l, y.fields.length ≤ 4398046510976) (W : World) (hz : SlAt 2 KindAt W a l) :
    Calls Try.prog 41 #[.slice a n cap] W fun e w' => (∃ a, e = .returned (.slice a n n) ∧ SlAt 2 KindAt w' a l) ∧ Below W.heap.size W w' := by
  have HN := Lib.hid hn
  have HZ := Lib.hid hz
  have HV := Lib.hid hv
  clear hn hz hv
  go_enter Try.func41, Try.ntmps41
  go_wp2_with (at_make; (refine wpList_make_blk (z := .agg #[.string ByteArray.empty, .slice none 0 0]) (sz := 2) (bytes := 40) (e := 58) rfl _ _ 24 rfl (h2 := inf_kind3) (h1 := Try.underlying24) .i64 .i64 (n : Int) (n : Int) n rfl rfl rfl rfl ?b1 ?b2 ?_; (case b1 => omega); (case b2 => (unfold maxLen; omega))))
  intro w1 hblk hb1 hs1
  obtain ⟨G, hG⟩ : ∃ G, G = W.heap.size := ⟨_, rfl⟩
  rw [← hG] at hblk hs1 ⊢
  have HG := Lib.hid hG
  have HBLK := Lib.hid hblk
  have HB1 := Lib.hid hb1
  clear hG hblk hb1 hs1
  go_wp2_with fail
  go_loopg [4, 5, 11] n (fun gk v4 v5 vi wx => ∃ k : Nat, k ≤ n ∧ gk = n - k ∧ vi = .int .i64 k ∧ Blk wx G 58 (n * 2) ∧ (∀ j (h : j < l.length), j < k → KindNew G wx (j * 2) l[j]) ∧ Below W.heap.size W wx)
  case atStart => exact ⟨0, Nat.zero_le _, rfl, rfl, HBLK.out, fun j h h2 => absurd h2 (by omega), HB1.out⟩
  case round =>
    obtain ⟨k, hk, g2, rfl, hblk, hat, hb⟩ := hrel
    have G2 := Lib.hid g2
    have HB := Lib.hid hb
    have HBLK2 := Lib.hid hblk
    have HAT := Lib.hid hat
    have hgl := hblk.lt
    clear g2 hb hblk hat HBLK HB1
    by_cases hlt : k < n
    · obtain ⟨x, rfl, hx, hi⟩ := (HZ.out.below KindAt.abides HB.out) (by rw [HN.out]; omega)
      obtain ⟨c0, hnm, av, cv, c1, hc1, hc2, hv⟩ := hi k (by rw [HN.out]; exact hlt)
      obtain ⟨y, hy⟩ : ∃ y, y = l[k]'(by rw [HN.out]; exact hlt) := ⟨_, rfl⟩
      rw [← hy] at c0 c1 hv hnm hc1
      have hm : y.fields.length ≤ 4398046510976 := HV.out y (by rw [hy]; exact List.getElem_mem _)
      obtain ⟨m, hm2⟩ : ∃ m, m = y.fields.length := ⟨_, rfl⟩
      rw [← hm2] at c1 hm hc1
      obtain ⟨q, hq⟩ : ∃ q, q = y.name := ⟨_, rfl⟩
      rw [← hq] at c0
      have HY := Lib.hid hy
      have HM := Lib.hid hm2
      have HQ := Lib.hid hq
      have HNM := Lib.hid hnm
      clear hi hy hm2 hq hnm
      have hb0 := (Below.refl wr.heap.size wr).alloc (Nat.le_refl _) (.cells #[.string q, .slice av m cv] 58)
      have HI2 := Lib.hid (hv.below FieldAt.abides hb0)
      clear hv
      go_wp2_with fail
      have B0 : (wr.alloc (.cells #[.string q, .slice av m cv] 58)).cell? ⟨wr.heap.size, 0, none⟩ = some (.string q) := by simp
      have B1 : (wr.alloc (.cells #[.string q, .slice av m cv] 58)).cell? ⟨wr.heap.size, 1, none⟩ = some (.slice av m cv) := by simp
      refine wp_region_facts rfl 9 (by kernel_rfl) (F_kc wr.heap.size G n k m q av cv y) (F_kc_mono wr.heap.size G n k m q av cv y) ?_ ?_
      · refine ⟨?_, ?_, ?_, ?_, ?_, ?_, ?_, ?_, ?_, trivial⟩
        · intro vs w' F hb hd hF hl
          have e := (hF 3).trans (look_out _ 3 _ _ (by kernel_rfl))
          exact one_move _ rfl (by first | exact Or.inl rfl | exact Or.inr rfl) ⟨_, rfl, Below.refl _ _, e⟩
        · intro vs w' F hb hd hF hl
          have e := (hF 4).trans (look_out _ 4 _ _ (by kernel_rfl))
          exact one_move _ rfl (by first | exact Or.inl rfl | exact Or.inr rfl) ⟨_, rfl, Below.refl _ _, e⟩
        · intro vs w' F hb hd hF hl
          have e := (hF 5).trans (look_out _ 5 _ _ (by kernel_rfl))
          exact one_field _ _ _ rfl rfl _ _ e _ (fun w => by kernel_rfl) ⟨_, rfl, Below.refl _ _, rfl⟩
        · intro vs w' F hb hd hF hl
          have e := ((hF 18).trans (look_at _ 18 2 _ _ (by kernel_rfl) (by kernel_rfl) hl)).trans (dep_of (Fact := F_kc wr.heap.size G n k m q av cv y) hd 2 (by kernel_rfl))
          exact one_load _ _ rfl rfl _ _ e (cell_abides B0 hb) (by kernel_rfl) ⟨_, rfl, Below.refl _ _, rfl⟩
        · intro vs w' F hb hd hF hl
          have e := (hF 5).trans (look_out _ 5 _ _ (by kernel_rfl))
          exact one_field _ _ _ rfl rfl _ _ e _ (fun w => by kernel_rfl) ⟨_, rfl, Below.refl _ _, rfl⟩
        · intro vs w' F hb hd hF hl
          have e := ((hF 20).trans (look_at _ 20 4 _ _ (by kernel_rfl) (by kernel_rfl) hl)).trans (dep_of (Fact := F_kc wr.heap.size G n k m q av cv y) hd 4 (by kernel_rfl))
          exact one_load _ _ rfl rfl _ _ e (cell_abides B1 hb) (by kernel_rfl) ⟨_, rfl, Below.refl _ _, rfl⟩
        · intro vs w' F hb hd hF hl
          have e := (((hF 21).trans (look_at _ 21 5 _ _ (by kernel_rfl) (by kernel_rfl) hl)).trans (dep_of (Fact := F_kc wr.heap.size G n k m q av cv y) hd 5 (by kernel_rfl)))
          refine wpList_append_cells rfl _ _ 56 rfl w'.heap.size 55 (.agg #[.string ByteArray.empty, .int .i64 0, .int .i64 0]) 3 32 Try.underlying56 inf_fld3 rfl (by decide) (.slice none 0 0) 0 [] rfl (World.ownsRow_nil _ _ _ _) av m cv (fvals y.fields) e (by rw [fvals_len, HM.out]) (cells_flds (HI2.out.below FieldAt.abides hb)) (fvals_one _) (by unfold maxLen; omega) (by omega) (Nat.le_refl _) ?_
          intro v2 w2 hown hg hor
          have hsz := hb.size
          simp at hsz
          rw [List.nil_append, Nat.zero_add] at hown
          obtain ⟨a2, c2, rfl, hc1, hc2, hs2, hx2⟩ := flds_own HM.out.symm hown (flds_names HI2.out)
          exact ⟨_, rfl, (Below.refl _ _).grown hg (Nat.le_refl _) (fun g h => by cases h), a2, c2, rfl, hc1, hc2, hs2, fun x hx => by have := hx2 x hx; omega⟩
        · intro vs w' F hb hd hF hl
          obtain ⟨a2, c2, hv2, hr2⟩ := (dep_of (Fact := F_kc wr.heap.size G n k m q av cv y) hd 6 (by kernel_rfl))
          have e1 := (((hF 19).trans (look_at _ 19 3 _ _ (by kernel_rfl) (by kernel_rfl) hl)).trans (dep_of (Fact := F_kc wr.heap.size G n k m q av cv y) hd 3 (by kernel_rfl)))
          have e2 := ((hF 22).trans (look_at _ 22 6 _ _ (by kernel_rfl) (by kernel_rfl) hl)).trans hv2
          exact one_build _ _ rfl rfl #[(0, .string q), (1, .slice a2 m c2)] (parts2 e1 e2) (.agg #[.string q, .slice a2 m c2]) (fun w => by kernel_rfl) ⟨_, rfl, Below.refl _ _, a2, c2, rfl, hr2⟩
        · intro vs w' F hb hd hF hl
          have ex := (((hF 16).trans (look_at _ 16 0 _ _ (by kernel_rfl) (by kernel_rfl) hl)).trans (dep_of (Fact := F_kc wr.heap.size G n k m q av cv y) hd 0 (by kernel_rfl)))
          have ey := (((hF 17).trans (look_at _ 17 1 _ _ (by kernel_rfl) (by kernel_rfl) hl)).trans (dep_of (Fact := F_kc wr.heap.size G n k m q av cv y) hd 1 (by kernel_rfl)))
          exact one_index 24 _ _ rfl rfl (.slice (some ⟨G, 0, none⟩) n n) (.int .i64 k) (.pointer (some ⟨G, k * 2, none⟩)) ex ey (fun w => by clear hb hd hF hl ex ey; go_simp) ⟨_, rfl, Below.refl _ _, rfl⟩
      · intro vs W1 hl hb hI
        obtain ⟨a8, c8, i7, n8, m8, hi8, hx8⟩ := hI 7 (by omega)
        have i8 : vs.getD 8 undef = .pointer (some ⟨G, k * 2, none⟩) := hI 8 (by omega)
        obtain ⟨v0, v1, v2, v3, v4, v5, v6, v7, v8, v9, rfl⟩ := list10 hl
        replace i7 : v7 = .agg #[.string q, .slice a8 m c8] := i7
        replace i8 : v8 = .pointer (some ⟨G, k * 2, none⟩) := i8
        subst i7 i8
        have hblk1 := (HBLK2.out.below hb0).below hb
        obtain ⟨o1, ho1⟩ := hblk1.cell (k * 2) (by omega)
        obtain ⟨o2, ho2⟩ := hblk1.cell (k * 2 + 1) (by omega)
        have f1 := hblk1.frozen (k * 2)
        have f2 := hblk1.frozen (k * 2 + 1)
        have hbw : Below wr.heap.size wr W1 := hb0.trans (hb.mono (by simp))
        have hbn : Below W.heap.size W ((W1.setCell ⟨G, k * 2, none⟩ (.string q)).setCell ⟨G, k * 2 + 1, none⟩ (.slice a8 m c8)) := ((HB.out.trans (hbw.mono HB.out.size)).setCell (by rw [← HG.out]; exact Nat.le_refl _) _).setCell (by rw [← HG.out]; exact Nat.le_refl _) _
        have HBN := Lib.hid hbn
        have HBK := Lib.hid ((hblk1.set (k * 2) (.string q)).set (k * 2 + 1) (.slice a8 m c8))
        have hatn : ∀ j (h : j < l.length), j < k + 1 → KindNew G ((W1.setCell ⟨G, k * 2, none⟩ (.string q)).setCell ⟨G, k * 2 + 1, none⟩ (.slice a8 m c8)) (j * 2) l[j] := by
          intro j h hj
          by_cases hjk : j < k
          · exact (((HAT.out j h hjk).below hbw).far _ _ (by omega) (by omega)).far _ _ (by omega) (by omega)
          · obtain rfl : j = k := by omega
            rw [← HY.out, HQ.out, HM.out]
            exact KindNew.new HNM.out ho1 ho2 (by rw [← HM.out]; exact n8) m8 hi8 (fun x hx => by have := hx8 x hx; omega)
        have HATN := Lib.hid hatn
        clear hI hl hb hbw hbn hblk1 hatn hi8 hx8 n8 m8 HI2 hb0 B0 B1
        simp only [fillAll, Act.put, List.setIfInBounds_toArray, List.set_cons_succ, List.set_cons_zero]
        go_wp2
        go_roundg (n - (k + 1))
        case measure => rw [G2.out]; omega
        case rel => exact ⟨k + 1, hlt, rfl, by go_num, HBK.out, HATN.out, HBN.out⟩
    · have hke : k = n := by omega
      have HK := Lib.hid hke
      clear hke
      go_wp2_with fail
      go_ret
      refine ⟨⟨some ⟨G, 0, none⟩, rfl, fun h0 => ⟨_, rfl, hgl, fun i hi => ?_⟩⟩, HB.out⟩
      have := HAT.out i hi (by rw [HK.out, ← HN.out]; exact hi)
      rw [add_zero_block]; exact this.at
end Go.Proofs.Ytpilpkbblkhnaaa
end
