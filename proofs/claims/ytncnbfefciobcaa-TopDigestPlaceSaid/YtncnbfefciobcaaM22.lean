/- Lemmas for the law TopDigestPlace: InsI, TwoA, KindTwo, WPair, InsL, WSpawn. No conditions. -/
import Derived.Test.YtncnbfefciobcaaM06
import Derived.Test.YtncnbfefciobcaaRows
import Derived.Test.YtncnbfefciobcaaM03
import Derived.Shelf.Spec.SlicesInsert
import Derived.Lib.AppendZerosOnto
import Derived.Laws.CopyRow
import Derived.Laws.NewBlocks
import Derived.Deep.DeepMust
import Derived.Test.YtncnbfefciobcaaM14
import Derived.Test.YtncnbfefciobcaaM01
import Derived.Lib.SmallJoins
import Derived.ChangeArms
import Derived.Test.YtncnbfefciobcaaM15
import Derived.Test.YtncnbfefciobcaaM16
import Derived.Test.YtncnbfefciobcaaM19
import Derived.Test.YtncnbfefciobcaaM09
import Derived.Test.YtncnbfefciobcaaM20
import Derived.Test.YtncnbfefciobcaaM21
import Derived.Test.YtncnbfefciobcaaM12
/- slices.Insert of one item into a full slice of items. -/
section
namespace Go.Proofs.Ytncnbfefciobcaa
open Go.ChangeShapes Go.WideShapes Go.ChangeAt Go.RowKit Go.Mem Go.Lib Go.Shelf
set_option linter.unusedVariables false
set_option linter.unusedSimpArgs false
theorem run_copy_rowK {P : Program} (w : World) (dT sT ty elem : TypeId) (k : Nat) (g o dLen dCap : Nat) (a : Addr) (sLen sCap m : Nat) (cur : Array Value) (t : TypeId) (cs : List Value)
    (hu : P.underlying dT = some (.slice elem)) (hs : (P.info? elem).map (·.size) = some k)
    (hg : w.heap[g]? = some (.cells cur t (0, 0))) (hm : m = Nat.min sLen dLen) (hn : cs.length = m * k)
    (hsrc : ∀ j v, cs[j]? = some v → w.cell? (a.add j) = some v) (hfit : o + cs.length ≤ cur.size) (h1 : ∀ v ∈ cs, v.oneCell' = true) :
    (Builtin.copy_ #[dT, sT] ty #[.slice (some ⟨g, o, none⟩) dLen dCap, .slice (some a) sLen sCap]).run P w =
      .ok (goInt m) (w.setRow g (cur.toList.take o ++ cs ++ cur.toList.drop (o + cs.length)).toArray) := by
  have hl := run_loadCells_list (P := P) w a cs hsrc
  have hst := run_storeCells_at P g o t cs 0 cur w hg (by simpa using hfit) h1
  cases hq : P.info? elem with
  | none => simp [hq] at hs
  | some i =>
    have hi : i.size = k := by simpa [hq] using hs
    rw [hn] at hl
    rw [Nat.add_zero] at hst
    simp [Builtin.copy_, run_underlying hu, Builtin.lenOf, Builtin.firstCells, sizeOf, typeInfo, hq, hi, ← hm, hl, hst]
theorem splice_take {α : Type} (cs vs zs : List α) (p q : Nat) (hp : p ≤ cs.length) (hv : vs.length = q) (hz : cs.length - p + q ≤ zs.length) :
    ((((cs.take p ++ zs).take p ++ vs ++ (cs.take p ++ zs).drop (p + q)).take (p + q) ++ cs.drop p ++ ((cs.take p ++ zs).take p ++ vs ++ (cs.take p ++ zs).drop (p + q)).drop (p + q + (cs.drop p).length)).take (cs.length + q)) = cs.take p ++ vs ++ cs.drop p := by
  have e1 : (cs.take p).length = p := by rw [List.length_take]; omega
  have e2 : (cs.take p ++ zs).take p = cs.take p := by
    rw [List.take_append_of_le_length (by omega), List.take_of_length_le (by omega)]
  rw [e2]
  have e3 : (cs.take p ++ vs ++ (cs.take p ++ zs).drop (p + q)).take (p + q) = cs.take p ++ vs := by
    rw [List.take_append_of_le_length (by rw [List.length_append]; omega), List.take_of_length_le (by rw [List.length_append]; omega)]
  rw [e3, List.take_append_of_le_length (by simp only [List.length_append, List.length_drop]; omega), List.take_of_length_le (by simp only [List.length_append, List.length_drop]; omega)]
set_option maxHeartbeats 8000000 in
set_option maxRecDepth 100000 in
theorem ins_items (cs vs : List Value) (b n i vb : Nat) (W : World) (hown : W.ownsRow b 70 3 (.slice (some ⟨b, 0, none⟩) n n) n cs) (hin : i ≤ n) (hn : n ≤ 1048576) (hvl : vs.length = 3) (hvs : ∀ j v, vs[j]? = some v → W.cell? ⟨vb, j, none⟩ = some v) (h1c : ∀ v ∈ cs, v.oneCell' = true) (h1v : ∀ v ∈ vs, v.oneCell' = true) :
    Calls Try.prog 44 #[.slice (some ⟨b, 0, none⟩) n n, .int .i64 i, .slice (some ⟨vb, 0, none⟩) 1 1] W fun e w' => ∃ v', e = .returned v' ∧ w'.ownsRow b 70 3 v' (n + 1) (cs.take (i * 3) ++ vs ++ cs.drop (i * 3)) ∧ W.grownBy w' (some b) := by
  have hcl : cs.length = n * 3 := hown.1
  have hcs : ∀ j v, cs[j]? = some v → W.cell? ⟨b, j, none⟩ = some v := fun j v hj => by
    have hj2 : j < n * 3 := by rw [← hcl]; exact (List.getElem?_eq_some_iff.1 hj).1
    rw [hown.cellAt j hj2]; exact hj
  have hbl : b < W.heap.size := by
    rcases hown.2 with ⟨h, _⟩ | ⟨g, cap, cur, h, _, hh, _⟩
    · cases h
    · injection h with h _ _
      injection h with h
      injection h with h
      rw [h]; exact lt_of_heap hh
  have hvw : vb < W.heap.size := block_lt_of_cell (hvs 0 _ (List.getElem?_eq_getElem (by omega)))
  obtain ⟨i0, hi0, hz0, hzs, hzb⟩ := info_parts (show (Try.prog.info? 70).map (fun i => (i.zero, i.size, i.bytes)) = some (some (.agg #[.int .i64 0, .int .i64 0, .slice none 0 0]), 3, 40) by kernel_rfl)
  have hsz : (Try.prog.info? 70).map (·.size) = some 3 := by rw [hi0]; simp [hzs]
  by_cases hie : i = n
  · subst hie
    have HE := Lib.hid (show cs.take (i * 3) ++ vs ++ cs.drop (i * 3) = cs ++ vs by rw [List.take_of_length_le (by omega), List.drop_of_length_le (by omega), List.append_nil])
    have hca : CellsAt W (some ⟨vb, 0, none⟩) vs := fun _ => ⟨_, rfl, hvw, fun j u hj => by rw [add_zero_block]; exact hvs j u hj⟩
    rw [HE.out]
    clear hcs hcl hi0 hz0 hzs hzb hsz hvs h1c
    go_enter Try.func44, Try.ntmps44
    go_wp2_with (at_builtin; go_must (refine wpList_append_cells rfl _ _ 25 rfl b 70 (.agg #[.int .i64 0, .int .i64 0, .slice none 0 0]) 3 40 Try.underlying25 (by kernel_rfl) rfl (by decide) _ i cs rfl hown (some ⟨vb, 0, none⟩) 1 1 vs rfl (by omega) hca h1v (by unfold maxLen; omega) (by omega) (by omega) ?_); intro v3 w3 hown3 hg3 hat3; have HO3 := Lib.hid hown3; have HG3 := Lib.hid hg3; clear hown3 hg3 hat3)
    go_ret
    exact ⟨_, rfl, HO3.out, HG3.out⟩
  · have hlt : i < n := by omega
    have hz1 : ¬ ((i : Int) = (n : Int)) := by omega
    have hz3 : (n : Int) < (n : Int) + 1 := by omega
    have hkk : (n : Int) + 1 - (i : Int) = ((n + 1 - i : Nat) : Int) := by omega
    have hik : i + (n + 1 - i) = n + 1 := by omega
    have hold : (Builtin.firstCells i0.size i (.slice (some ⟨b, 0, none⟩) i n)).run Try.prog W.drew = .ok (cs.take (i * 3)).toArray W.drew := by
      rw [hzs]
      exact run_firstCells_some W.drew 3 i ⟨b, 0, none⟩ i n (cs.take (i * 3)) (by rw [List.length_take]; omega) (fun j v hj => by
        rw [add_zero_block]
        rw [List.getElem?_take] at hj
        split at hj
        · exact hcs j v hj
        · cases hj)
    obtain ⟨G, hG⟩ : ∃ G, G = grownCap W (n + 1) n 70 := ⟨_, rfl⟩
    obtain ⟨Z, hZ⟩ : ∃ Z : List Value, Z = (Builtin.zeroCells (Value.agg #[.int .i64 0, .int .i64 0, .slice none 0 0]).cells (n + 1 - i)).toList ++ (Builtin.zeroCells (Value.agg #[.int .i64 0, .int .i64 0, .slice none 0 0]).cells (G - (n + 1))).toList := ⟨_, rfl⟩
    obtain ⟨ROW, hROW⟩ : ∃ ROW : Array Value, ROW = (cs.take (i * 3) ++ Z).toArray := ⟨_, rfl⟩
    have hrz : ∀ ty, (Builtin.append_ #[25, 3] ty #[.slice (some ⟨b, 0, none⟩) i n, .int .i64 ((n : Int) + 1 - (i : Int))]).run Try.prog W = .ok (.slice (some ⟨W.heap.size, 0, none⟩) (n + 1) G) (W.drew.alloc (.cells ROW 70)) := fun ty => by
      have h := Lib.run_append_grow_zeros W 25 3 ty 70 i0 _ .i64 .i64 Try.underlying25 Try.underlying3 hi0 hz0 (some ⟨b, 0, none⟩) i n (cs.take (i * 3)) hold (n + 1 - i) (by omega) (by omega) (by omega) (by omega) (by rw [hzb]; omega) (by rw [hzb, hik]; exact growslice_fits (by omega) (by omega))
      rw [hik, ← hG] at h
      rw [hkk, h, hROW, hZ]
      congr 3
      apply Array.toList_inj.1
      simp [List.append_assoc]
    have hGn : n + 1 ≤ G := by rw [hG]; exact grownCap_ge W _ _ _
    have hG63 : G ≤ 9223372036854775807 := by
      have := grownCap_le_maxLen W (n + 1) n 70 (by unfold maxLen; omega)
      rw [← hG] at this
      unfold maxLen at this
      omega
    have hZl : Z.length = (G - i) * 3 := by
      rw [hZ]
      simp [Builtin.zeroCells, Value.cells]
      omega
    have hRl : ROW.toList.length = G * 3 := by
      rw [hROW]
      simp [hZl]
      omega
    obtain ⟨cur1, hc1⟩ : ∃ c : Array Value, c = (ROW.toList.take (i * 3) ++ vs ++ ROW.toList.drop (i * 3 + vs.length)).toArray := ⟨_, rfl⟩
    obtain ⟨cur2, hc2⟩ : ∃ c : Array Value, c = (cur1.toList.take ((i + 1) * 3) ++ cs.drop (i * 3) ++ cur1.toList.drop ((i + 1) * 3 + (cs.drop (i * 3)).length)).toArray := ⟨_, rfl⟩
    have hc1l : cur1.size = G * 3 := by rw [hc1]; simp only [List.size_toArray, List.length_append, List.length_take, List.length_drop, hRl, hvl]; omega
    have hdl : (cs.drop (i * 3)).length = (n - i) * 3 := by rw [List.length_drop, hcl]; omega
    have hc2l : cur2.size = G * 3 := by rw [hc2]; simp only [List.size_toArray, List.length_append, List.length_take, List.length_drop, Array.length_toList, hc1l, hcl]; omega
    have hcpA : ∀ (w : World), w.heap[W.heap.size]? = some (.cells ROW 70 (0, 0)) → (∀ k, k < W.heap.size → w.heap[k]? = W.heap[k]?) → ∀ ty dc, (Builtin.copy_ #[25, 25] ty #[.slice (some ⟨W.heap.size, i * 3, none⟩) (n + 1 - i) dc, .slice (some ⟨vb, 0, none⟩) 1 1]).run Try.prog w = .ok (goInt 1) (w.setRow W.heap.size cur1) := fun w hw hold ty dc => by
      rw [hc1]
      exact run_copy_rowK w _ _ ty 70 3 W.heap.size (i * 3) (n + 1 - i) dc ⟨vb, 0, none⟩ 1 1 1 ROW 70 vs Try.underlying25 hsz hw (by simp only [Nat.min_def]; split <;> omega) (by omega)
        (fun j v hj => by rw [add_zero_block, World.cell?_of_block (hold vb hvw)]; exact hvs j v hj) (by rw [← Array.length_toList, hRl, hvl]; omega) h1v
    have hcpB : ∀ (w : World), w.heap[W.heap.size]? = some (.cells cur1 70 (0, 0)) → (∀ k, k < W.heap.size → w.heap[k]? = W.heap[k]?) → ∀ ty dc sc, (Builtin.copy_ #[25, 25] ty #[.slice (some ⟨W.heap.size, (i + 1) * 3, none⟩) (n + 1 - (i + 1)) dc, .slice (some ⟨b, i * 3, none⟩) (n - i) sc]).run Try.prog w = .ok (goInt ((n - i : Nat) : Int)) (w.setRow W.heap.size cur2) := fun w hw hold ty dc sc => by
      rw [hc2]
      exact run_copy_rowK w _ _ ty 70 3 W.heap.size ((i + 1) * 3) (n + 1 - (i + 1)) dc ⟨b, i * 3, none⟩ (n - i) sc (n - i) cur1 70 (cs.drop (i * 3)) Try.underlying25 hsz hw (by simp only [Nat.min_def]; split <;> omega) hdl
        (fun j v hj => by rw [Addr.add_lit, World.cell?_of_block (hold b hbl)]; rw [List.getElem?_drop] at hj; exact hcs _ v hj) (by rw [hc1l, hdl]; omega) (fun v hv => h1c v (List.mem_of_mem_drop hv))
    have HFIN := Lib.hid (show cur2.toList.take ((n + 1) * 3) = cs.take (i * 3) ++ vs ++ cs.drop (i * 3) by
      have h := splice_take cs vs Z (i * 3) 3 (by omega) hvl (by rw [hcl, hZl]; omega)
      rw [hcl, show n * 3 + 3 = (n + 1) * 3 by omega] at h
      rw [← h, hc2, hc1, hROW, hvl, show (i + 1) * 3 = i * 3 + 3 by omega])
    have hw0 : ((W.alloc (.cells ROW 70)).drew).heap[W.heap.size]? = some (.cells ROW 70 (0, 0)) := heap_alloc_new W _
    have hlw : ∀ k, k < W.heap.size → ((W.alloc (.cells ROW 70)).drew).heap[k]? = W.heap[k]? := fun k hk => Below.heap_alloc W _ k hk
    have hA := hcpA ((W.alloc (.cells ROW 70)).drew) hw0 hlw 3 (G - i)
    obtain ⟨W2, hW2⟩ : ∃ W2, W2 = ((W.alloc (.cells ROW 70)).drew).setRow W.heap.size cur1 := ⟨_, rfl⟩
    have hw2 : W2.heap[W.heap.size]? = some (.cells cur1 70 (0, 0)) := by rw [hW2]; exact setRow_heap _ _ _ _ _ _ hw0
    have hlw2 : ∀ k, k < W.heap.size → W2.heap[k]? = W.heap[k]? := fun k hk => by rw [hW2, setRow_other _ _ _ _ (by omega)]; exact hlw k hk
    have hsz2 : W2.heap.size = W.heap.size + 1 := by rw [hW2]; simp [World.setRow]
    have hos2 : W2.os = W.os ∧ W2.tape = W.tape ∧ W2.output = W.output := by rw [hW2]; exact ⟨rfl, rfl, rfl⟩
    rw [← hW2] at hA
    have HB := Lib.hid (hcpB W2.drew hw2 hlw2 3)
    have HW2 := Lib.hid hw2
    have HLW2 := Lib.hid hlw2
    have HSZ2 := Lib.hid hsz2
    have HOS2 := Lib.hid hos2
    have hwi : IntKind.i64.wrap ((i : Int) + 1) = (i : Int) + 1 := by rw [IntKind.wrap_i64]; omega
    have htn : ((i : Int) + 1).toNat = i + 1 := by omega
    have hb1 : (0 : Int) ≤ (i : Int) + 1 := by omega
    have hb3 : (i : Int) ≤ (n : Int) := by omega
    have hGi : ¬ (G = i) := by omega
    have hGim : ¬ (G = i + 1) := by omega
    have hni : ¬ (n = i) := by omega
    clear hcpA hcpB hw0 hlw hW2 hw2 hlw2 hsz2 hos2 hold hc1 hc2 hROW hZ hZl hRl hG hdl hkk hik hcs hvs hi0 hz0 hzs hzb hsz h1c h1v
    go_enter Try.func44, Try.ntmps44
    go_wp2_with (at_builtin; refine Lib.wpList_append_run _ rfl _ _ _ _ rfl _ _ rfl rfl _ _ (hrz _) ?_)
    clear hA hrz
    have mixed : Try.prog.follows Departure.mixedOrders = true := rfl
    go_region_law_o (refine step_copy_runI rfl _ _ 25 25 rfl (.slice (some ⟨W.heap.size, (i + 1) * 3, none⟩) (n + 1 - (i + 1)) (G - (i + 1))) (.slice (some ⟨b, i * 3, none⟩) (n - i) (n - i)) (by simp [Act.eval, Act.put]) (by simp [Act.eval, Act.put]) (HB.out (G - (i + 1)) (n - i)) ?_)
    go_wp2
    go_ret
    have hh := setRow_heap W2.drew W.heap.size cur1 cur2 _ _ HW2.out
    refine ⟨_, rfl, ⟨by simp only [List.length_append, List.length_take, List.length_drop]; omega, Or.inr ⟨W.heap.size, G, cur2, rfl, Nat.le_of_lt hbl, hh, hGn, by unfold maxLen; omega, hc2l, HFIN.out⟩⟩, ⟨HOS2.out.1, HOS2.out.2.1, HOS2.out.2.2, ?_, fun k hk hne => ?_⟩⟩
    · have h : (W2.drew.setRow W.heap.size cur2).heap.size = W2.heap.size := by simp [World.setRow]
      rw [h, HSZ2.out]; omega
    · rw [setRow_other _ _ _ _ (by omega)]
      exact HLW2.out k hk
end Go.Proofs.Ytncnbfefciobcaa
end
/- tourlaw3.two; a boxed struct of three; a field handed over by value. -/
section
namespace Go.Proofs.Ytncnbfefciobcaa
open Go.ChangeShapes Go.WideShapes Go.ChangeAt Go.RowKit Go.Nm Go.Mem
set_option linter.unusedVariables false
/-- what two() lays: two fields, two kinds -/
structure TwoAt (W w : World) : Prop where
  bel : Below W.heap.size W w
  f0 : w.heap[W.heap.size]? = some (.cells #[.string ⟨#[120]⟩, .int .i64 3, .int .i64 (-2)] 50 (0, 0))
  f1 : w.heap[W.heap.size + 1]? = some (.cells #[.string ⟨#[120]⟩, .int .i64 8, .int .i64 0] 50 (0, 0))
  k : w.heap[W.heap.size + 1 + 1]? = some (.cells #[.string ⟨#[112, 108, 97, 99, 101]⟩, .slice (some ⟨W.heap.size, 0, none⟩) 1 1, .string ⟨#[108, 105, 102, 101]⟩, .slice (some ⟨W.heap.size + 1, 0, none⟩) 1 1] 53 (0, 0))
section
open Go.Joins Go.Deep
variable {H : Type} {enc : TypeId × Value → H} {w : World} {base : Nat} {spare : Nat → Bool} {held : Bool}
end
end Go.Proofs.Ytncnbfefciobcaa
end
/- The law's own first kind: its facts in plain words. -/
section
namespace Go.Proofs.Ytncnbfefciobcaa
open Go.ChangeShapes Go.WideShapes Go.ChangeAt Go.RowKit Go.Nm Go.Mem
set_option linter.unusedVariables false
def kTwo : KindV := ⟨⟨#[112, 108, 97, 99, 101]⟩, [⟨⟨#[120]⟩, 3, -2⟩]⟩
end Go.Proofs.Ytncnbfefciobcaa
end
/- tourlaw3.pair. -/
section
namespace Go.Proofs.Ytncnbfefciobcaa
open Go.ChangeShapes Go.WideShapes Go.ChangeAt Go.RowKit Go.Nm Go.Mem
set_option linter.unusedVariables false
def allocs (w : World) : List Obj → World
  | [] => w
  | o :: r => allocs (w.alloc o) r
theorem allocs_below : ∀ (os : List Obj) (w : World), Below w.heap.size w (allocs w os)
  | [], w => Below.refl _ _
  | o :: r, w => ((Below.refl _ _).alloc (Nat.le_refl _) o).trans ((allocs_below r (w.alloc o)).mono (by simp))
theorem allocs_get : ∀ (os : List Obj) (w : World) (i : Nat) (o : Obj), os[i]? = some o → (allocs w os).heap[w.heap.size + i]? = some o
  | [], w, i, o, h => by simp at h
  | x :: r, w, 0, o, h => by
    have h' : x = o := by simpa using h
    subst h'
    exact heap_below (heap_alloc_new w x) (allocs_below r (w.alloc x))
  | x :: r, w, i + 1, o, h => by
    have := allocs_get r (w.alloc x) i o (by simpa using h)
    rw [World.size_alloc] at this
    rw [show w.heap.size + (i + 1) = w.heap.size + 1 + i by omega]
    exact this
def kTwo2 : KindV := ⟨⟨#[108, 105, 102, 101]⟩, [⟨⟨#[120]⟩, 8, 0⟩]⟩
def pairV : WorldV := ⟨[kTwo, kTwo2], [0, 2], [⟨0, 0, [⟨0, [4]⟩, ⟨1, [9]⟩]⟩, ⟨1, 2, [⟨1, [7]⟩]⟩]⟩
end Go.Proofs.Ytncnbfefciobcaa
end
/- Items in a row of the call's own: its cells item by item; one more laid in between. -/
section
namespace Go.Proofs.Ytncnbfefciobcaa
open Go.ChangeShapes Go.WideShapes Go.ChangeAt Go.RowKit Go.Nm Go.Mem
set_option linter.unusedVariables false
theorem take_flat {α : Type} {sz : Nat} : ∀ (css : List (List α)), (∀ c ∈ css, c.length = sz) → ∀ i, css.flatten.take (i * sz) = (css.take i).flatten
  | [], _, i => by simp
  | c :: r, h, 0 => by simp
  | c :: r, h, i + 1 => by
    have hc := h c List.mem_cons_self
    rw [List.flatten_cons, List.take_succ_cons, List.flatten_cons, ← take_flat r (fun x hx => h x (List.mem_cons_of_mem _ hx)) i, show (i + 1) * sz = c.length + i * sz by rw [hc, Nat.succ_mul, Nat.add_comm], List.take_length_add_append]
theorem drop_flat2 {α : Type} {sz : Nat} : ∀ (css : List (List α)), (∀ c ∈ css, c.length = sz) → ∀ i, css.flatten.drop (i * sz) = (css.drop i).flatten
  | [], _, i => by simp
  | c :: r, h, 0 => by simp
  | c :: r, h, i + 1 => by
    have hc := h c List.mem_cons_self
    rw [List.flatten_cons, List.drop_succ_cons, ← drop_flat2 r (fun x hx => h x (List.mem_cons_of_mem _ hx)) i, show (i + 1) * sz = c.length + i * sz by rw [hc, Nat.succ_mul, Nat.add_comm], List.drop_length_add_append]
theorem item_rows {w : World} {G S : Nat} {l : List ItemV} {cs : Array Value} {t : TypeId} (hG : w.heap[G]? = some (.cells cs t (0, 0))) (hs : cs.size = l.length * 3) (hat : ∀ j (h : j < l.length), ItemNew G S w (j * 3) l[j]) :
    ∃ css : List (List Value), css.length = l.length ∧ (∀ c ∈ css, c.length = 3) ∧ css.flatten = cs.toList ∧ (∀ c ∈ css, ∀ v ∈ c, v.oneCell' = true ∧ ∀ s, v ≠ .string s) ∧ ∀ j (h : j < l.length) (h2 : j < css.length), Up S (fun w => EItem w css[j] l[j]) w := by
  have key : ∀ j (h : j < l.length), ∃ a c, cs[j * 3]? = some (.int .i64 l[j].n) ∧ cs[j * 3 + 1]? = some (.int .i64 l[j].gen) ∧ cs[j * 3 + 2]? = some (.slice a l[j].comps.length c) ∧ Up S (fun w => SlAt 2 CompAt w a l[j].comps) w := fun j h => by
    obtain ⟨p1, p2, a, c, p3, p4⟩ := hat j h
    rw [cell_of_row _ _ _ _ _ _ hG] at p1 p2 p3
    exact ⟨a, c, p1, p2, p3, p4⟩
  obtain ⟨css, hcss⟩ : ∃ css : List (List Value), css = (List.range l.length).map (fun j => [cs.getD (j * 3) undef, cs.getD (j * 3 + 1) undef, cs.getD (j * 3 + 2) undef]) := ⟨_, rfl⟩
  have hl : css.length = l.length := by rw [hcss]; simp
  have hg : ∀ j (h : j < css.length) (h2 : j < l.length), ∃ a c, css[j] = [.int .i64 l[j].n, .int .i64 l[j].gen, .slice a l[j].comps.length c] ∧ Up S (fun w => SlAt 2 CompAt w a l[j].comps) w := fun j h h2 => by
    obtain ⟨a, c, p1, p2, p3, p4⟩ := key j h2
    refine ⟨a, c, ?_, p4⟩
    have e : css[j] = [cs.getD (j * 3) undef, cs.getD (j * 3 + 1) undef, cs.getD (j * 3 + 2) undef] := by simp [hcss]
    rw [e, Array.getD_eq_getD_getElem?, Array.getD_eq_getD_getElem?, Array.getD_eq_getD_getElem?, p1, p2, p3]
    rfl
  have h3 : ∀ c ∈ css, c.length = 3 := fun c hc => by
    rw [hcss] at hc
    obtain ⟨j, _, rfl⟩ := List.mem_map.1 hc
    rfl
  refine ⟨css, hl, h3, ?_, fun c hc v hv => ?_, fun j h h2 => ?_⟩
  · apply List.ext_getElem?
    intro q
    by_cases hq : q < l.length * 3
    · have hj : q / 3 < css.length := by omega
      have hf := flat_get (sz := 3) css h3 (q / 3) hj (q % 3) (by omega)
      rw [show q / 3 * 3 + q % 3 = q by omega] at hf
      obtain ⟨a, c, p1, p2, p3, _⟩ := key (q / 3) (by omega)
      obtain ⟨a2, c2, e, _⟩ := hg (q / 3) hj (by omega)
      have e2 : css[q / 3] = [cs.getD (q / 3 * 3) undef, cs.getD (q / 3 * 3 + 1) undef, cs.getD (q / 3 * 3 + 2) undef] := by simp [hcss]
      have e4 : cs.toList[q]? = cs[q]? := Array.getElem?_toList
      have d0 : cs.getD (q / 3 * 3) undef = .int .i64 l[q / 3].n := by rw [Array.getD_eq_getD_getElem?, p1]; rfl
      have d1 : cs.getD (q / 3 * 3 + 1) undef = .int .i64 l[q / 3].gen := by rw [Array.getD_eq_getD_getElem?, p2]; rfl
      have d2 : cs.getD (q / 3 * 3 + 2) undef = .slice a l[q / 3].comps.length c := by rw [Array.getD_eq_getD_getElem?, p3]; rfl
      rw [hf, e2, e4, d0, d1, d2]
      rcases (show q % 3 = 0 ∨ q % 3 = 1 ∨ q % 3 = 2 by omega) with h | h | h
      · have e3 : q / 3 * 3 = q := by omega
        rw [e3] at p1
        rw [h, p1]
        rfl
      · have e3 : q / 3 * 3 + 1 = q := by omega
        rw [e3] at p2
        rw [h, p2]
        rfl
      · have e3 : q / 3 * 3 + 2 = q := by omega
        rw [e3] at p3
        rw [h, p3]
        rfl
    · rw [List.getElem?_eq_none (by rw [flat_len (sz := 3) css h3, hl]; omega), List.getElem?_eq_none (by rw [Array.length_toList, hs]; omega)]
  · obtain ⟨j, hj, rfl⟩ := List.getElem_of_mem hc
    obtain ⟨a, c, e, _⟩ := hg j hj (by omega)
    rw [e] at hv
    simp only [List.mem_cons, List.not_mem_nil, or_false] at hv
    rcases hv with rfl | rfl | rfl <;> exact ⟨rfl, fun s h => by cases h⟩
  · obtain ⟨a, c, e, hu⟩ := hg j h2 h
    exact fun w2 hs2 => ⟨a, c, e, hu w2 hs2⟩
theorem slat_of_own {α : Type} {E : World → List Value → α → Prop} {At : World → Addr → α → Prop} (hEA : ∀ w g q cs y, E w cs y → (∀ i u, cs[i]? = some u → w.cell? ⟨g, q + i, none⟩ = some u) → At w ⟨g, q, none⟩ y)
    {B : Nat} {T : TypeId} {sz : Nat} {w : World} {a : Option Addr} {n c : Nat} {css : List (List Value)} {l : List α} (hown : w.ownsRow B T sz (.slice a n c) n css.flatten) (hn : l.length = n) (hc : css.length = n) (h3 : ∀ c ∈ css, c.length = sz) (hE : ∀ j (h : j < l.length) (h2 : j < css.length), E w css[j] l[j]) : SlAt sz At w a l := fun h0 => by
  rcases hown.2 with ⟨h, hz⟩ | ⟨g, cap, cur, h, hb, hh, _⟩
  · omega
  · injection h with h1 _ _
    subst h1
    refine ⟨_, rfl, lt_of_heap hh, fun j hj => ?_⟩
    rw [add_zero_block]
    refine hEA w g (j * sz) _ _ (hE j hj (by omega)) (fun i u hu => ?_)
    have hc2 := h3 _ (List.getElem_mem (show j < css.length by omega))
    have hil : i < sz := by
      rcases Nat.lt_or_ge i sz with hlt2 | hge
      · exact hlt2
      · rw [List.getElem?_eq_none (by omega)] at hu; cases hu
    rw [hown.cellAt (j * sz + i) (by
      have : (j + 1) * sz ≤ n * sz := Nat.mul_le_mul_right _ (by omega)
      rw [Nat.succ_mul] at this
      omega), flat_get css h3 j (by omega) i hil]
    exact hu
theorem ins_get {α : Type} (a : List α) (x : α) (i j : Nat) (hi : i ≤ a.length) : (a.take i ++ [x] ++ a.drop i)[j]? = if j < i then a[j]? else if j = i then some x else a[j - 1]? := by
  have ht : (a.take i).length = i := by rw [List.length_take]; omega
  have ht2 : (a.take i ++ [x]).length = i + 1 := by rw [List.length_append, ht]; rfl
  by_cases h1 : j < i
  · rw [if_pos h1, List.getElem?_append_left (by omega), List.getElem?_append_left (by omega), List.getElem?_take, if_pos h1]
  · rw [if_neg h1]
    by_cases h2 : j = i
    · rw [if_pos h2, List.getElem?_append_left (by omega), List.getElem?_append_right (by omega), ht, h2]
      simp
    · rw [if_neg h2, List.getElem?_append_right (by omega), ht2, List.getElem?_drop, show i + (j - (i + 1)) = j - 1 by omega]
theorem ins_all {α β : Type} (P : α → β → Prop) (a : List α) (b : List β) (x : α) (z : β) (i : Nat) (hl : a.length = b.length) (hi : i ≤ b.length) (h : ∀ j (h1 : j < b.length) (h2 : j < a.length), P a[j] b[j]) (hx : P x z) : ∀ j (h1 : j < (b.take i ++ [z] ++ b.drop i).length) (h2 : j < (a.take i ++ [x] ++ a.drop i).length), P (a.take i ++ [x] ++ a.drop i)[j] (b.take i ++ [z] ++ b.drop i)[j] := by
  intro j h1 h2
  have ea := ins_get a x i j (by omega)
  have eb := ins_get b z i j hi
  rw [List.getElem?_eq_getElem h2] at ea
  rw [List.getElem?_eq_getElem h1] at eb
  have hlen : (b.take i ++ [z] ++ b.drop i).length = b.length + 1 := by simp only [List.length_append, List.length_take, List.length_drop, List.length_singleton]; omega
  by_cases c1 : j < i
  · rw [if_pos c1, List.getElem?_eq_getElem (by omega)] at ea eb
    injection ea with ea
    injection eb with eb
    rw [ea, eb]
    exact h j _ _
  · rw [if_neg c1] at ea eb
    by_cases c2 : j = i
    · rw [if_pos c2] at ea eb
      injection ea with ea
      injection eb with eb
      rw [ea, eb]
      exact hx
    · rw [if_neg c2, List.getElem?_eq_getElem (by omega)] at ea eb
      injection ea with ea
      injection eb with eb
      rw [ea, eb]
      exact h (j - 1) _ _
theorem nostr_row3 (a b c : Option Addr) (n1 n2 n3 c1 c2 c3 : Nat) (j : Nat) (s : ByteArray) : (#[Value.slice a n1 c1, .slice b n2 c2, .slice c n3 c3] : Array Value)[j]? ≠ some (Value.string s) := by
  match j with
  | 0 => simp
  | 1 => simp
  | 2 => simp
  | j + 3 => simp
end Go.Proofs.Ytncnbfefciobcaa
end
/- world.Spawn. -/
section
namespace Go.Proofs.Ytncnbfefciobcaa
open Go.ChangeShapes Go.WideShapes Go.ChangeAt Go.RowKit Go.Nm Go.Mem
set_option linter.unusedVariables false
theorem results_cct {P : Program} {fn : Func} {p q a : Tmp} {ty tz : TypeId} (h : fn.results = #[.cell p ty, .cell q tz, .tmp a]) (tmps : Array Value) (w : World) (g g2 : Nat) (t t2 : TypeId) (cs cs2 : Array Value) (fr fr2 : Nat × Nat) (d d2 : TypeDesc)
    (hp : tmps.getD p undef = .pointer (some ⟨g, 0, none⟩)) (hg : w.heap[g]? = some (.cells cs t fr))
    (hu : P.underlying ty = some d) (hd : (match d with | .struct _ | .array _ _ => true | _ => false) = true) (hi : (P.info? ty).map (·.size) = some cs.size)
    (hp2 : tmps.getD q undef = .pointer (some ⟨g2, 0, none⟩)) (hg2 : w.heap[g2]? = some (.cells cs2 t2 fr2))
    (hu2 : P.underlying tz = some d2) (hd2 : (match d2 with | .struct _ | .array _ _ => true | _ => false) = true) (hi2 : (P.info? tz).map (·.size) = some cs2.size) :
    (results fn tmps).run P w = .ok (.tuple #[.agg cs, .agg cs2, tmps.getD a undef]) w := by
  have hp' : tmps[p]?.getD undef = .pointer (some ⟨g, 0, none⟩) := by simpa using hp
  have hp2' : tmps[q]?.getD undef = .pointer (some ⟨g2, 0, none⟩) := by simpa using hp2
  simp [results, h, hp', hp2', asAddr, run_loadVar_row w g t ty cs fr d hg hu hd hi, run_loadVar_row w g2 t2 tz cs2 fr2 d2 hg2 hu2 hd2 hi2]
def spawnE (y : WorldV) (l : List CompV) : Int := if checkE y ≠ 0 then checkE y else if fitAllE y.kinds l ≠ 0 then fitAllE y.kinds l else if freeOk y = false then 6 else 0
def spawnG (y : WorldV) : List Int := if freeN y = y.gens.length then y.gens ++ [0] else y.gens
def spawnI (y : WorldV) (l : List CompV) : ItemV := ⟨(freeN y : Int), (spawnG y).getD (freeN y) 0, listed (fitAllM y.kinds l)⟩
def SpawnZ (y : WorldV) (l : List CompV) (Z : WorldV) : Prop := ∃ i, i ≤ y.items.length ∧ (∀ j (h : j < y.items.length), j < i → y.items[j].n < (freeN y : Int)) ∧ (∀ j (h : j < y.items.length), i ≤ j → (freeN y : Int) ≤ y.items[j].n) ∧ Z = ⟨y.kinds, spawnG y, y.items.take i ++ [spawnI y l] ++ y.items.drop i⟩
def SpawnR (y : WorldV) (l : List CompV) (E : Int) (W : World) (e : Ending) (w' : World) : Prop :=
  (∃ (v : Value) (xn xg : Int) (Z : WorldV), e = .returned (.tuple #[v, .agg #[.int .i64 xn, .int .i64 xg], .int .i64 E]) ∧ WorldIn w' v Z ∧ (E ≠ 0 → xn = 0 ∧ xg = 0 ∧ Z = ⟨[], [], []⟩) ∧ (E = 0 → xn = (spawnI y l).n ∧ xg = (spawnI y l).gen ∧ SpawnZ y l Z)) ∧ Below W.heap.size W w'
theorem SpawnR.bad {y : WorldV} {l : List CompV} {E F : Int} {W w' : World} {e : Ending} (hf : F = E) (h : E ≠ 0) (he : e = .returned (.tuple #[.agg #[.slice none 0 0, .slice none 0 0, .slice none 0 0], .agg #[.int .i64 0, .int .i64 0], .int .i64 E])) (hb : Below W.heap.size W w') : SpawnR y l F W e w' := by
  subst hf
  exact ⟨⟨_, 0, 0, ⟨[], [], []⟩, he, ⟨none, 0, none, 0, none, 0, rfl, fun h => absurd h (by simp), fun h => absurd h (by simp), fun h => absurd h (by simp), by simp, by simp⟩, fun _ => ⟨rfl, rfl, rfl⟩, fun h0 => absurd h0 h⟩, hb⟩
theorem SpawnR.good {y : WorldV} {l : List CompV} {E : Int} {W w' : World} {v : Value} {xn xg : Int} {Z : WorldV} (hE : 0 = E) (h1 : xn = (spawnI y l).n) (h2 : xg = (spawnI y l).gen) (hz : SpawnZ y l Z) (hw : WorldIn w' v Z) (hb : Below W.heap.size W w') : SpawnR y l E W (.returned (.tuple #[v, .agg #[.int .i64 xn, .int .i64 xg], .int .i64 0])) w' := by
  subst hE
  exact ⟨⟨v, xn, xg, Z, rfl, hw, fun h => absurd rfl h, fun _ => ⟨h1, h2, hz⟩⟩, hb⟩
theorem spawn_grow {w w' : World} {o : Obj} {X : Nat} {cs : Array Value} {t : TypeId} {row : Option Nat} (h : w.heap[X]? = some (.cells cs t (0, 0))) (hg : (w.alloc o).grownBy w' row) {B : Nat} (hr : ∀ r, row = some r → B ≤ r) (hX : X < B) : w'.cell? ⟨X, 1, none⟩ = cs[1]? ∧ w'.frozen? ⟨X, 1, none⟩ = false := by
  have h2 : w'.heap[X]? = some (.cells cs t (0, 0)) := (hg.block X (by rw [World.size_alloc]; have := lt_of_heap h; omega) (fun e => by have := hr X e.symm; omega)).trans (heap_keep h o)
  exact ⟨cell_of_row _ _ 1 _ _ _ h2, Mem.frozen_of_row h2 1⟩
/-- the state behind the copy: W the start, s1 .. s2 where the fitted components lie, s3 where the copy began, S beyond its rows -/
structure SpC (y : WorldV) (l : List CompV) (W : World) (s1 s2 s3 S G : Nat) (fa kk : Option Addr) (nk ni : Nat) (vg : Value) (n : Nat) (L : List Int) (wc : World) : Prop where
  row : wc.heap[W.heap.size]? = some (.cells #[.slice kk nk nk, vg, .slice (some ⟨G, 0, none⟩) ni ni] 27 (0, 0))
  kinds : SlAt 2 KindAt wc kk y.kinds
  gens : wc.ownsRow s3 3 1 vg n (vints .i64 L)
  blk : Blk wc G 70 (ni * 3)
  items : ∀ j (h : j < y.items.length), ItemNew G S wc (j * 3) y.items[j]
  r4 : wc.heap[W.heap.size + 1]? = some (.cells #[.slice none 0 0, .slice none 0 0, .slice none 0 0] 27 (0, 0))
  r5 : wc.heap[W.heap.size + 1 + 1]? = some (.cells #[.int .i64 0, .int .i64 0] 55 (0, 0))
  bel : Below W.heap.size W wc
  comps : Win s1 s2 (fun w => SlAt 2 CompAt w fa (listed (fitAllM y.kinds l))) wc
  o1 : W.heap.size + 1 + 1 < s1
  o2 : s1 ≤ s2
  o3 : s2 ≤ s3
  o4 : s3 ≤ G
  o5 : G < S
theorem SpC.below {y : WorldV} {l : List CompV} {W : World} {s1 s2 s3 S G : Nat} {fa kk : Option Addr} {nk ni : Nat} {vg : Value} {n : Nat} {L : List Int} {w w' : World} (h : SpC y l W s1 s2 s3 S G fa kk nk ni vg n L w) (hb : Below w.heap.size w w') : SpC y l W s1 s2 s3 S G fa kk nk ni vg n L w' :=
  ⟨heap_below h.row hb, h.kinds.below KindAt.abides hb, own_below h.gens hb, h.blk.below hb, fun j hj => (h.items j hj).below hb, heap_below h.r4 hb, heap_below h.r5 hb, bt h.bel hb, h.comps.to (Nat.le_trans h.comps.1 hb.size) (fun g _ g2 => hb.block g (Nat.lt_of_lt_of_le g2 h.comps.1)), h.o1, h.o2, h.o3, h.o4, h.o5⟩
theorem nostr_vrow (a c : Option Addr) (n1 n3 c1 c3 : Nat) (v : Value) (hv : ∃ b n2 c2, v = .slice b n2 c2) (j : Nat) (s : ByteArray) : (#[Value.slice a n1 c1, v, .slice c n3 c3] : Array Value)[j]? ≠ some (Value.string s) := by
  obtain ⟨b, n2, c2, rfl⟩ := hv
  exact nostr_row3 a b c n1 n2 n3 c1 c2 c3 j s
theorem SpC.grow {y : WorldV} {l : List CompV} {W : World} {s1 s2 s3 S G : Nat} {fa kk : Option Addr} {nk ni : Nat} {vg : Value} {n : Nat} {L : List Int} {w5 : World} (h : SpC y l W s1 s2 s3 S G fa kk nk ni vg n L w5) (hno : ∀ g, vg.ownBlock = some g → g < S ∧ NoStr w5 g)
    {v6 : Value} {n6 : Nat} {L6 : List Int} {w6 : World} (hg : w5.grownBy w6 vg.ownBlock) (ho : w6.ownsRow s3 3 1 v6 n6 (vints .i64 L6)) : SpC y l W s1 s2 s3 S G fa kk nk ni v6 n6 L6 (w6.setCell ⟨W.heap.size, 1, none⟩ v6) := by
  have o1 := h.o1
  have o2 := h.o2
  have o3 := h.o3
  have o4 := h.o4
  have o5 := h.o5
  have hrl : ∀ r, vg.ownBlock = some r → s3 ≤ r ∧ r < w5.heap.size := fun r hr => own_lt h.gens r hr
  have hvs : ∃ b n2 c2, vg = .slice b n2 c2 := by obtain ⟨a, c, e⟩ := own_slice h.gens; exact ⟨a, n, c, e⟩
  have hr6 : w6.heap[W.heap.size]? = some (.cells #[.slice kk nk nk, vg, .slice (some ⟨G, 0, none⟩) ni ni] 27 (0, 0)) := (hg.block _ (lt_of_heap h.row) (fun e => by have := (hrl _ e.symm).1; omega)).trans h.row
  have hgc : w6.grownBy (w6.setCell ⟨W.heap.size, 1, none⟩ v6) (some W.heap.size) := gb_set (World.grownBy.refl _ _) 1 _
  have hk6 : SlAt 2 KindAt w6 kk y.kinds := by
    cases hv : vg.ownBlock with
    | none =>
      rw [hv] at hg
      exact h.kinds.below KindAt.abides ⟨hg.os, hg.tape, hg.output, hg.size, fun k hk => hg.block k hk (by simp)⟩
    | some r =>
      rw [hv] at hg
      exact kinds_gb h.kinds (hno r hv).2 hg
  obtain ⟨cs, hb1, hb2⟩ := h.blk
  have hG6 : w6.heap[G]? = some (.cells cs 70 (0, 0)) := (hg.block _ (lt_of_heap hb1) (fun e => own_ne h.gens e.symm hb1 (by decide) rfl)).trans hb1
  have far : ∀ k, k ≠ W.heap.size → (w6.setCell ⟨W.heap.size, 1, none⟩ v6).heap[k]? = w6.heap[k]? := fun k hk => Below.heap_setCell w6 ⟨W.heap.size, 1, none⟩ v6 k hk
  refine ⟨Mem.heap_set hr6 1 _, kinds_gb hk6 (nostr_row hr6 (nostr_vrow _ _ _ _ _ _ _ hvs)) hgc, own_gb ho hr6 (by decide) hgc, ⟨cs, (far _ (by omega)).trans hG6, hb2⟩, fun j hj => ?_, ?_, ?_, ?_, ?_, o1, o2, o3, o4, o5⟩
  · obtain ⟨p1, p2, a, c, p3, p4⟩ := h.items j hj
    have cg : ∀ q u, w5.cell? ⟨G, q, none⟩ = some u → (w6.setCell ⟨W.heap.size, 1, none⟩ v6).cell? ⟨G, q, none⟩ = some u := fun q u hu => by
      rw [World.cell?_of_block (w := w6) (far G (by omega)), World.cell?_of_block (w := w5) (show w6.heap[G]? = w5.heap[G]? by rw [hG6, hb1])]
      exact hu
    exact ⟨cg _ _ p1, cg _ _ p2, a, c, cg _ _ p3, (p4.grown hg (fun r hr => (hno r hr).1)).set _ _ (by show W.heap.size < S; omega)⟩
  · exact (far _ (by omega)).trans ((hg.block _ (lt_of_heap h.r4) (fun e => by have := (hrl _ e.symm).1; omega)).trans h.r4)
  · exact (far _ (by omega)).trans ((hg.block _ (lt_of_heap h.r5) (fun e => by have := (hrl _ e.symm).1; omega)).trans h.r5)
  · exact (h.bel.grown hg h.bel.size (fun r hr => by have := (hrl r hr).1; omega)).setCell (p := ⟨W.heap.size, 1, none⟩) (Nat.le_refl _) _
  · refine h.comps.to (by have := h.comps.1; have := hg.size; rw [World.size_setCell]; omega) (fun g g1 g2 => (far g (by omega)).trans (hg.block g (Nat.lt_of_lt_of_le g2 h.comps.1) (fun e => by have := (hrl _ e.symm).1; omega)))
theorem checkE_kinds {y : WorldV} (h : checkE y = 0) : kindsE y.kinds = 0 := by
  unfold checkE at h
  split at h
  · rename_i h1; exact absurd h h1
  · rename_i h1; exact Decidable.not_not.1 h1
theorem gb_put {w w2 : World} {g : Nat} {t : TypeId} {cells : Array Value} (h : PutR w w2 g t cells) : w.grownBy w2 (some g) := ⟨h.os, h.tape, h.output, by rw [h.size]; exact Nat.le_refl _, fun k hk hne => h.else_ k (fun e => hne (by rw [e]))⟩
def F_sp (WB BE nk gl gd ni ic : Nat) (FN gv : Int) (kk gq ia : Option Addr) (jq : Nat) (v : Value) (w : World) : Prop :=
  match jq with
  | 0 => v = .agg #[.slice kk nk nk, .slice gq gl gd, .slice ia ni ic]
  | 1 => v = .agg #[.int .i64 FN, .int .i64 gv]
  | 2 => w.heap[WB + 1]? = some (.cells #[.slice kk nk nk, .slice gq gl gd, .slice ia ni ic] 27 (0, 0))
  | _ => True
theorem F_sp_mono (WB BE nk gl gd ni ic : Nat) (FN gv : Int) (kk gq ia : Option Addr) : FactsR (RG 2 (some (WB + 1))) (F_sp WB BE nk gl gd ni ic FN gv kk gq ia) := ⟨by
  intro i jq v w w2 hij h hb
  unfold F_sp at h ⊢
  split at h
  all_goals first
    | exact h
    | exact heap_below h (hb.1 hij)
    | trivial⟩

set_option maxHeartbeats 16000000 in
set_option maxRecDepth 20000 in
theorem world_Spawn (y : WorldV) (l : List CompV) (v : Value) (a : Option Addr) (n ca : Nat) (W : World) (hv : WorldIn W v y) (hsm : SmallW y) (hkf : ∀ k ∈ y.kinds, k.fields.length ≤ 1048576) (hn : l.length = n) (h1 : n ≤ 1048576) (hca : n ≤ ca) (hvl : ∀ z ∈ l, z.vals.length ≤ 1048576) (hz : SlAt 2 CompAt W a l) :
    Calls Try.prog 17 #[v, .slice a n ca] W (SpawnR y l (spawnE y l) W) := by
  have hv0 := hv
  obtain ⟨ak, ck, ag, cg, ai, ci, rfl, q1, q2, q3, q4, q5⟩ := hv
  obtain ⟨nk, hnk⟩ : ∃ n, n = y.kinds.length := ⟨_, rfl⟩
  obtain ⟨ng, hng⟩ : ∃ n, n = y.gens.length := ⟨_, rfl⟩
  obtain ⟨ni, hni⟩ : ∃ n, n = y.items.length := ⟨_, rfl⟩
  rw [← hnk, ← hng, ← hni] at hv0
  rw [← hnk] at q4
  rw [← hnk, ← hng, ← hni]
  obtain ⟨E, hE⟩ : ∃ E, E = spawnE y l := ⟨_, rfl⟩
  rw [← hE]
  obtain ⟨CE, hCE⟩ : ∃ E, E = checkE y := ⟨_, rfl⟩
  obtain ⟨FE, hFE⟩ : ∃ E, E = fitAllE y.kinds l := ⟨_, rfl⟩
  have g1 : CE ≠ 0 → E = CE := fun h => by rw [hE, hCE]; unfold spawnE; rw [if_pos (by rw [← hCE]; exact h)]
  have g2 : CE = 0 → FE ≠ 0 → E = FE := fun h h2 => by rw [hE, hFE]; unfold spawnE; rw [if_neg (by rw [← hCE]; exact fun x => x h), if_pos (by rw [← hFE]; exact h2)]
  have g3 : CE = 0 → FE = 0 → freeOk y = false → E = 6 := fun h h2 h3 => by rw [hE]; unfold spawnE; rw [if_neg (by rw [← hCE]; exact fun x => x h), if_neg (by rw [← hFE]; exact fun x => x h2), if_pos h3]
  have g4 : CE = 0 → FE = 0 → freeOk y = true → E = 0 := fun h h2 h3 => by rw [hE]; unfold spawnE; rw [if_neg (by rw [← hCE]; exact fun x => x h), if_neg (by rw [← hFE]; exact fun x => x h2), if_neg (by rw [h3]; simp)]
  have gs : CE = 0 → y.items.Pairwise (fun x y => x.n < y.n) ∧ ng ≤ 256 := fun h => by
    rw [hCE] at h
    unfold checkE at h
    split at h
    · rename_i hh; exact absurd h hh
    · split at h
      · cases h
      · rename_i hl
        split at h
        · rename_i hc
          have := (itemsAt_iff y y.items.length (Nat.le_refl _)).1 hc.2
          rw [List.take_length] at this
          exact ⟨this.1, by rw [hng]; omega⟩
        · cases h
  obtain ⟨o1, ho1⟩ : ∃ o : Obj, o = .cells #[.slice ak nk ck, .slice ag ng cg, .slice ai ni ci] 27 (0, 0) := ⟨_, rfl⟩
  obtain ⟨o2, ho2⟩ : ∃ o : Obj, o = .cells #[.slice none 0 0, .slice none 0 0, .slice none 0 0] 27 (0, 0) := ⟨_, rfl⟩
  obtain ⟨o3, ho3⟩ : ∃ o : Obj, o = .cells #[.int .i64 0, .int .i64 0] 55 (0, 0) := ⟨_, rfl⟩
  have hr := fun i o => allocs_get [o1, o2, o3] W i o
  have hbA := allocs_below [o1, o2, o3] W
  have r2 : (allocs W [o1, o2, o3]).heap[W.heap.size]? = some o1 := hr 0 o1 rfl
  have r4 : (allocs W [o1, o2, o3]).heap[W.heap.size + 1]? = some o2 := hr 1 o2 rfl
  have r5 : (allocs W [o1, o2, o3]).heap[W.heap.size + 1 + 1]? = some o3 := hr 2 o3 rfl
  simp only [allocs] at r2 r4 r5 hbA
  rw [ho1, ho2, ho3] at r2 r4 r5 hbA
  have HBA := Lib.hid hbA
  have R2 := Lib.hid r2
  have R4 := Lib.hid r4
  have R5 := Lib.hid r5
  have HV0 := Lib.hid hv0
  have HSM := Lib.hid hsm
  have HKF := Lib.hid hkf
  have HZK := Lib.hid q1
  have HKC := Lib.hid (And.intro q4 q5)
  have NK := Lib.hid hnk
  have NG := Lib.hid hng
  have NI := Lib.hid hni
  have HN := Lib.hid hn
  have HVL := Lib.hid hvl
  have HZ := Lib.hid hz
  have G1 := Lib.hid g1
  have G2 := Lib.hid g2
  have G3 := Lib.hid g3
  have G4 := Lib.hid g4
  have GS := Lib.hid gs
  have HCE := Lib.hid hCE
  have HFE := Lib.hid hFE
  have CK := Lib.hid (fun w' (hb : Below W.heap.size W w') => world_Check y _ w' (hv0.below hb) hsm)
  rw [← hCE] at CK
  clear hv0 hsm hkf q1 q2 q3 q4 q5 hnk hng hni hn hvl hz g1 g2 g3 g4 gs hCE hFE hE hr hbA r2 r4 r5 ho1 ho2 ho3 o1 o2 o3
  go_enter Try.func17, Try.ntmps17
  have e0 := cell_of_row _ _ 0 _ _ _ R2.out
  have e1 := cell_of_row _ _ 1 _ _ _ R2.out
  have e2 := cell_of_row _ _ 2 _ _ _ R2.out
  go_wp2_with fail
  refine (CK.out _ HBA.out).mono ?_
  rintro e w1 ⟨rfl, hb1⟩
  have HB := Lib.hid (bt HBA.out hb1)
  replace R2 := Lib.hid (heap_below R2.out hb1)
  replace R4 := Lib.hid (heap_below R4.out hb1)
  replace R5 := Lib.hid (heap_below R5.out hb1)
  have HW1Lo := Lib.hid (lt_of_heap R5.out)
  clear e0 e1 e2 hb1 HBA CK
  by_cases hc : CE = 0
  · subst hc
    replace G2 := Lib.hid (G2.out rfl)
    replace G3 := Lib.hid (G3.out rfl)
    replace G4 := Lib.hid (G4.out rfl)
    replace GS := Lib.hid (GS.out rfl)
    have HK0 := Lib.hid (checkE_kinds HCE.out.symm)
    have t0 : ((0 : Int) != 0) = false := rfl
    have CF := world_Fit sorts_comps y.kinds l ak a nk ck n ca NK.out.symm HN.out (by rw [NK.out]; exact HSM.out.1) h1 hca HKC.out.1 HKC.out.2 HVL.out w1 (HZK.out.below KindAt.abides HB.out) (HZ.out.below CompAt.abides HB.out)
    unfold FitWPost at CF
    rw [HK0.out, ← HFE.out] at CF
    have HCF := Lib.hid CF
    have e0 := cell_of_row _ _ 0 _ _ _ R2.out
    clear CF G1
    go_wp2_with fail
    refine HCF.out.mono ?_
    intro e w2 hpost
    have hb2 : Below w1.heap.size w1 w2 := hpost.2
    have HW12 := Lib.hid hb2.size
    replace HB := Lib.hid (bt HB.out hb2)
    replace R2 := Lib.hid (heap_below R2.out hb2)
    replace R4 := Lib.hid (heap_below R4.out hb2)
    replace R5 := Lib.hid (heap_below R5.out hb2)
    have hcase := hpost.1
    clear e0 hpost HCF
    rcases hcase with ⟨h, _⟩ | ⟨_, hne, rfl⟩ | ⟨_, h0, fa, fc, rfl, hfu⟩
    · exact absurd rfl h
    · have HE := Lib.hid (G2.out hne)
      have HNE := Lib.hid hne
      have t1 : (FE != 0) = true := by rw [bne_iff_ne]; exact hne
      clear hb2 hne
      go_wp2_with (first
        | (refine wpList_store_rowP rfl 27 (.tmp 4) (.tmp 31) rfl (W.heap.size + 1) #[.slice none 0 0, .slice none 0 0, .slice none 0 0] rfl rfl _ _ R4.out (by kernel_rfl) rfl (ones3 _ _ _ rfl rfl rfl) ?_; intro W9 hput; have HP4 := Lib.hid hput; have R59 := Lib.hid ((hput.else_ _ (by omega)).trans R5.out); clear hput)
        | (refine wpList_store_rowP rfl 55 (.tmp 5) (.tmp 32) rfl (W.heap.size + 1 + 1) #[.int .i64 0, .int .i64 0] rfl rfl _ _ R59.out (by kernel_rfl) rfl (ones2 _ _ rfl rfl) ?_; intro W10 hput; have HP5 := Lib.hid hput; clear hput))
      refine bodyPost_ret (results_cct Try.results17 _ _ (W.heap.size + 1) (W.heap.size + 1 + 1) 27 55 _ _ (0, 0) (0, 0) _ _ rfl ((HP5.out.else_ _ (by omega)).trans HP4.out.here) Try.underlying27 rfl (by kernel_rfl) rfl HP5.out.here Try.underlying55 rfl (by kernel_rfl)) rfl ?_
      exact SpawnR.bad HE.out (by first | exact HNE.out | decide) rfl (HB.out.trans ((HP4.out.below (by omega)).trans (HP5.out.below (by omega))))
    · subst h0
      replace G3 := Lib.hid (G3.out rfl)
      replace G4 := Lib.hid (G4.out rfl)
      have HFU := Lib.hid hfu
      obtain ⟨nf, hnf⟩ : ∃ nf, nf = (listed (fitAllM y.kinds l)).length := ⟨_, rfl⟩
      rw [← hnf]
      have HNF := Lib.hid hnf
      have CR := world_Free y _ w2 (HV0.out.below HB.out) HSM.out
      obtain ⟨FN, hFN⟩ : ∃ N, N = freeN y := ⟨_, rfl⟩
      obtain ⟨FO, hFO⟩ : ∃ N, N = freeOk y := ⟨_, rfl⟩
      rw [← hFN, ← hFO] at CR
      rw [← hFO] at G3 G4
      have HCR := Lib.hid CR
      have HFN := Lib.hid hFN
      have HFO := Lib.hid hFO
      have e0 := cell_of_row _ _ 0 _ _ _ R2.out
      have e1 := cell_of_row _ _ 1 _ _ _ R2.out
      have e2 := cell_of_row _ _ 2 _ _ _ R2.out
      have HWL2 := Lib.hid (lt_of_heap R5.out)
      clear CR hFN hFO hnf hb2 hfu
      go_wp2_with fail
      refine HCR.out.mono ?_
      rintro e w3 ⟨rfl, hb3⟩
      replace HB := Lib.hid (bt HB.out hb3)
      replace R2 := Lib.hid (heap_below R2.out hb3)
      replace R4 := Lib.hid (heap_below R4.out hb3)
      replace R5 := Lib.hid (heap_below R5.out hb3)
      have HFU3 := Lib.hid (HFU.out.below hb3)
      have HB23 := Lib.hid hb3
      have HW23c := Lib.hid hb3.size
      have HW23 := Lib.hid hb3.size
      have HWL := Lib.hid (show W.heap.size + 1 + 1 < w2.heap.size from HWL2.out)
      clear e0 e1 e2 hb3 HCR
      cases FO with
      | false =>
        have HE := Lib.hid (G3.out rfl)
        have HNE := Lib.hid (show (6 : Int) ≠ 0 by decide)
        go_wp2_with (first
          | (refine wpList_store_rowP rfl 27 (.tmp 4) (.tmp 41) rfl (W.heap.size + 1) #[.slice none 0 0, .slice none 0 0, .slice none 0 0] rfl rfl _ _ R4.out (by kernel_rfl) rfl (ones3 _ _ _ rfl rfl rfl) ?_; intro W9 hput; have HP4 := Lib.hid hput; have R59 := Lib.hid ((hput.else_ _ (by omega)).trans R5.out); clear hput)
          | (refine wpList_store_rowP rfl 55 (.tmp 5) (.tmp 42) rfl (W.heap.size + 1 + 1) #[.int .i64 0, .int .i64 0] rfl rfl _ _ R59.out (by kernel_rfl) rfl (ones2 _ _ rfl rfl) ?_; intro W10 hput; have HP5 := Lib.hid hput; clear hput))
        refine bodyPost_ret (results_cct Try.results17 _ _ (W.heap.size + 1) (W.heap.size + 1 + 1) 27 55 _ _ (0, 0) (0, 0) _ _ rfl ((HP5.out.else_ _ (by omega)).trans HP4.out.here) Try.underlying27 rfl (by kernel_rfl) rfl HP5.out.here Try.underlying55 rfl (by kernel_rfl)) rfl ?_
        exact SpawnR.bad HE.out (by first | exact HNE.out | decide) rfl (HB.out.trans ((HP4.out.below (by omega)).trans (HP5.out.below (by omega))))
      | true =>
        have HE := Lib.hid (G4.out rfl)
        have hcp := world_Copy y _ w3 (HV0.out.below HB.out) HSM.out HKF.out
        rw [← NK.out, ← NG.out, ← NI.out] at hcp
        have HCP := Lib.hid hcp
        have HFW := Lib.hid (Win.ofUp HFU.out)
        have e0 := cell_of_row _ _ 0 _ _ _ R2.out
        have e1 := cell_of_row _ _ 1 _ _ _ R2.out
        have e2 := cell_of_row _ _ 2 _ _ _ R2.out
        clear G2 G3 G4 hcp
        go_wp2_with fail
        refine HCP.out.mono ?_
        rintro e w4 ⟨kk, vg, G, S, rfl, hk4, hg4, hgS, hWG, hGS, hblk, hat, hb4⟩
        obtain ⟨ga, gc, rfl⟩ := own_sl hg4
        replace HB := Lib.hid (bt HB.out hb4)
        replace R2 := Lib.hid (heap_below R2.out hb4)
        replace R4 := Lib.hid (heap_below R4.out hb4)
        replace R5 := Lib.hid (heap_below R5.out hb4)
        have hw23 : w2.heap.size ≤ w3.heap.size := HW23.out
        have HW34 := Lib.hid hb4.size
        have HW1L := Lib.hid HW1Lo.out
        have HFW4 := Lib.hid (HFW.out.to (Nat.le_trans hw23 hb4.size) (fun g _ g2 => (hb4.block g (Nat.lt_of_lt_of_le g2 hw23)).trans (HB23.out.block g g2)))
        have hWw : W.heap.size + 1 + 1 < w2.heap.size := HWL.out
        have hWS : w2.heap.size ≤ G := by omega
        have HK4 := Lib.hid hk4
        have HG4 := Lib.hid hg4
        have HGS := Lib.hid hgS
        have HGN := Lib.hid (fun g h => (hgS g h).2)
        have HBLK := Lib.hid hblk
        have HAT := Lib.hid hat
        have hwS : w3.heap.size ≤ G := hWG
        clear e0 e1 e2 hk4 hg4 hgS hblk hat hb4 HCP HFW HFU HFU3 HWL HB23 HW23
        have HF1 := Lib.hid (fun (w5 : World) (hput : PutR w4 w5 W.heap.size 27 #[.slice kk nk nk, .slice ga ng gc, .slice (some ⟨G, 0, none⟩) ni ni]) => show SpC y l W w1.heap.size w2.heap.size w3.heap.size S G fa kk nk ni (.slice ga ng gc) ng y.gens w5 ∧ (∀ g, (Value.slice ga ng gc).ownBlock = some g → g < S ∧ NoStr w5 g) ∧ w5.heap.size = w4.heap.size from by
          have hgb : w4.grownBy w5 (some W.heap.size) := ⟨hput.os, hput.tape, hput.output, by rw [hput.size]; exact Nat.le_refl _, fun k hk hne => hput.else_ k (fun e => hne (by rw [e]))⟩
          have hw1 := HW1L.out
          refine ⟨⟨hput.here, kinds_gb HK4.out (nostr_row R2.out (nostr_row3 _ _ _ _ _ _ _ _ _)) hgb, own_gb HG4.out R2.out (by decide) hgb, ?_, ?_, (hput.else_ _ (by omega)).trans R4.out, (hput.else_ _ (by omega)).trans R5.out, HB.out.trans (hput.below (Nat.le_refl _)), HFW4.out.to (by rw [hput.size]; exact HFW4.out.1) (fun g g1 g2 => hput.else_ g (by omega)), hw1, HW12.out, HW23c.out, hwS, hGS⟩, fun g h => ⟨(HGS.out g h).1, (HGN.out g h).same (hput.else_ g (by have := (own_lt HG4.out g h).1; omega))⟩, hput.size⟩
          · obtain ⟨cs, h1, h2⟩ := HBLK.out
            exact ⟨cs, (hput.else_ _ (by omega)).trans h1, h2⟩
          · intro j h
            obtain ⟨h1, h2, a, c, h3, h4⟩ := HAT.out j h
            exact ⟨cell_gb1 h1 hgb (by show G ≠ _; omega), cell_gb1 h2 hgb (by show G ≠ _; omega), a, c, cell_gb1 h3 hgb (by show G ≠ _; omega), h4.grown hgb (fun r hr => by injection hr with hr; omega)⟩)
        have HWB := Lib.hid hwS
        by_cases hfn : FN = ng
        · have t2 : ((FN : Int) == (ng : Int)) = true := by rw [hfn]; simp
          have HSG := Lib.hid (show spawnG y = y.gens ++ [0] by unfold spawnG; rw [if_pos (by rw [← HFN.out, hfn, NG.out])])
          have hltA : FN < ng + 1 := by omega
          have HFN2 := Lib.hid hltA
          obtain ⟨gv, hgv⟩ : ∃ g, g = (y.gens ++ [0]).getD FN 0 := ⟨_, rfl⟩
          have HGV := Lib.hid hgv
          have HNG1 := Lib.hid (show (y.gens ++ [0]).length = ng + 1 by rw [List.length_append, ← NG.out]; rfl)
          clear hgv
          clear hfn HBLK HAT HG4 HK4 HFW4 HB R4 R5 hwS hWS
          go_wp2_with (first
            | (refine wpList_store_rowP rfl 27 (.tmp 2) (.tmp 44) rfl W.heap.size #[.slice kk nk nk, .slice ga ng gc, .slice (some ⟨G, 0, none⟩) ni ni] rfl rfl _ _ R2.out (by kernel_rfl) rfl (ones3 _ _ _ rfl rfl rfl) ?_; intro w5 hput; have HP := Lib.hid (HF1.out w5 hput); have e1 : w5.cell? ⟨W.heap.size, 1, none⟩ = some (.slice ga ng gc) := (by rw [cell_of_row _ _ 1 _ _ _ hput.here]; rfl); clear hput)
            | (at_builtin; go_must (refine wpList_append_ints rfl _ _ 22 rfl w3.heap.size 3 .i64 8 Try.underlying22 (by kernel_rfl) (.slice ga ng gc) ng y.gens rfl (own_bel HP.out.1.gens ((Below.refl _ _).alloc (Nat.le_refl _) _)) (some ⟨w5.heap.size, 0, none⟩) 1 1 [0] rfl rfl (new_ints1 _ _) (by unfold maxLen; have := GS.out.2; omega) (by have := GS.out.2; omega) (by rw [World.size_alloc, HP.out.2.2]; have := HW34.out; omega) ?_); intro v6 w6 hown6 hg6 hor6; obtain ⟨gq, gd, rfl, hq1, hq2⟩ := hown6.form (by omega); have h6 := spawn_grow HP.out.1.row hg6 (fun r h => (own_lt HP.out.1.gens r h).1) (by have := HP.out.1.o1; have := HP.out.1.o2; have := HP.out.1.o3; omega); have f6 := h6.2; have c6 := h6.1; have hsp6 := HP.out.1.grow HP.out.2.1 ((World.grownBy_alloc w5 _ _).trans hg6) hown6; have HSP := Lib.hid hsp6; have eg : w6.cell? ⟨gq, FN, none⟩ = some (.int .i64 gv) := (by have hff := HFN2.out; rw [hown6.cellAt FN (by omega), vints_get .i64 _ FN (by rw [HNG1.out]; exact hff), HGV.out]); have e2 := cell_of_row _ _ 2 _ _ _ (heap_keep hsp6.row (.cells #[.int .i64 (FN : Int), .int .i64 gv] 55 (0, 0))); clear hsp6; clear hown6 hg6 hor6 h6))
          obtain ⟨wc, hwc⟩ : ∃ wc, wc = w6.setCell ⟨W.heap.size, 1, none⟩ (.slice (some ⟨gq, 0, none⟩) (ng + 1) gd) := ⟨_, rfl⟩
          have hsp := HSP.out
          rw [← HSG.out, ← hwc] at hsp
          rw [← hwc]
          have hws : w6.heap.size = wc.heap.size := by rw [hwc]; simp
          rw [hws]
          have HGW := Lib.hid (show gv = (spawnG y).getD FN 0 by rw [HSG.out]; exact HGV.out)
          obtain ⟨gl, hgl⟩ : ∃ gl, gl = ng + 1 := ⟨_, rfl⟩
          rw [← hgl] at hsp ⊢
          have HFL := HFN2.out
          rw [← hgl] at HFL
          have HSPC := Lib.hid hsp
          clear hws hsp hwc hgl f6 c6 e1 e2 eg t2 HSP HP HSG HFN2 HGV HNG1
          obtain ⟨wd, hwd⟩ : ∃ wd, wd = wc.alloc (.cells #[.int .i64 (FN : Int), .int .i64 gv] 55 (0, 0)) := ⟨_, rfl⟩
          have hbd : Below wc.heap.size wc wd := by rw [hwd]; exact (Below.refl _ _).alloc (Nat.le_refl _) _
          have hre : wd.heap[wc.heap.size]? = some (.cells #[.int .i64 (FN : Int), .int .i64 gv] 55 (0, 0)) := by rw [hwd]; exact heap_alloc_new wc _
          rw [← hwd]
          obtain ⟨BE, hBE⟩ : ∃ b, b = wc.heap.size := ⟨_, rfl⟩
          rw [← hBE] at hre ⊢
          have hsd := HSPC.out.below hbd
          have hBW : G < BE := by rw [hBE]; exact HSPC.out.blk.lt
          have HBS := Lib.hid (bin_items y.items (some ⟨G, 0, none⟩) ni ni (FN : Int) NI.out.symm (by rw [NI.out]; exact HSM.out.2.2.1) GS.out.1 wd (fun _ => ⟨_, rfl, hsd.blk.lt, fun j hj => by rw [add_zero_block]; exact (hsd.items j hj).at_⟩))
          have HSD := Lib.hid hsd
          have HRE := Lib.hid hre
          have HBEG := Lib.hid hBW
          clear hbd hre hsd hwd hBE hBW HSPC
          refine HBS.out.mono ?_
          rintro e we ⟨⟨ip, fo, hip, rfl, hlo, hhi, _⟩, hbe⟩
          have HLO := Lib.hid hlo
          have HHI := Lib.hid hhi
          have hse := HSD.out.below hbe
          have hre := heap_below HRE.out hbe
          obtain ⟨cs, hcs1, hcs2⟩ := hse.blk
          obtain ⟨css, hc1, hc2, hc3, hc4, hc5⟩ := item_rows hcs1 (by rw [hcs2, NI.out]) hse.items
          have hown : we.ownsRow G 70 3 (.slice (some ⟨G, 0, none⟩) ni ni) ni css.flatten := ⟨by rw [hc3, Array.length_toList, hcs2], Or.inr ⟨G, ni, cs, rfl, Nat.le_refl _, hcs1, Nat.le_refl _, by unfold maxLen; have := HSM.out.2.2.1; rw [← NI.out] at this; omega, hcs2, by rw [hc3, List.take_of_length_le (by rw [Array.length_toList, hcs2]; exact Nat.le_refl _)]⟩⟩
          have hba : Below we.heap.size we (we.alloc (.cells #[.int .i64 (FN : Int), .int .i64 gv, .slice fa nf fc] 70 (0, 0))) := (Below.refl _ _).alloc (Nat.le_refl _) _
          have hro := new_row we #[.int .i64 (FN : Int), .int .i64 gv, .slice fa nf fc] 70
          have HIN := Lib.hid (ins_items css.flatten [.int .i64 (FN : Int), .int .i64 gv, .slice fa nf fc] G ni ip we.heap.size (we.alloc (.cells #[.int .i64 (FN : Int), .int .i64 gv, .slice fa nf fc] 70 (0, 0))) (own_below hown hba) hip (by have := HSM.out.2.2.1; rw [← NI.out] at this; exact this) rfl
            (fun j v hj => by have := hro j v hj; simpa using this) (fun v hv => by obtain ⟨c, hcc, hvv⟩ := List.mem_flatten.1 hv; exact (hc4 c hcc v hvv).1) (fun v hv => by simp only [List.mem_cons, List.not_mem_nil, or_false] at hv; rcases hv with rfl | rfl | rfl <;> rfl))
          have HNS := Lib.hid (show NoStr we G from nostr_row hcs1 (fun j s hj => by
            have hm := Array.mem_of_getElem? hj
            rw [← Array.mem_toList_iff, ← hc3] at hm
            obtain ⟨c, hcc, hvv⟩ := List.mem_flatten.1 hm
            exact (hc4 c hcc _ hvv).2 s rfl))
          have c2 := cell_of_row _ _ 2 _ _ _ hse.row
          have d0 := cell_of_row _ _ 0 _ _ _ hre
          have d1 := cell_of_row _ _ 1 _ _ _ hre
          have HSE := Lib.hid hse
          have HREE := Lib.hid hre
          have HC2 := Lib.hid hc2
          have HC5 := Lib.hid hc5
          have HC1 := Lib.hid hc1
          have HBA := Lib.hid hba
          clear hlo hhi hse hre hcs1 hcs2 hc1 hc2 hc3 hc4 hc5 hown hba hro hbe HBS HSD HRE
          go_wp2_with fail
          refine HIN.out.mono ?_
          rintro e w8 ⟨v8, rfl, ho8, hg8⟩
          obtain ⟨ia, ic, rfl⟩ := own_slice ho8
          have hga : we.grownBy w8 (some G) := (World.grownBy_alloc we _ _).trans hg8
          have o1 := HSE.out.o1
          have o2 := HSE.out.o2
          have o3 := HSE.out.o3
          have o4 := HSE.out.o4
          have o5 := HSE.out.o5
          have hbg := HBEG.out
          have hr8 : w8.heap[W.heap.size]? = some (.cells #[.slice kk nk nk, .slice (some ⟨gq, 0, none⟩) gl gd, .slice (some ⟨G, 0, none⟩) ni ni] 27 (0, 0)) := (hga.block _ (lt_of_heap HSE.out.row) (fun e => by injection e with e; omega)).trans HSE.out.row
          have c8 := cell_of_row _ _ 2 _ _ _ hr8
          have f8 : w8.frozen? ⟨W.heap.size, 2, none⟩ = false := Mem.frozen_of_row hr8 2
          have hg9 : w8.grownBy (w8.setCell ⟨W.heap.size, 2, none⟩ (.slice ia (ni + 1) ic)) (some W.heap.size) := gb_set (World.grownBy.refl _ _) 2 _
          have far : ∀ k, k ≠ W.heap.size → (w8.setCell ⟨W.heap.size, 2, none⟩ (.slice ia (ni + 1) ic)).heap[k]? = w8.heap[k]? := fun k hk => Below.heap_setCell w8 ⟨W.heap.size, 2, none⟩ _ k hk
          have hrow9 := Mem.heap_set hr8 2 (.slice ia (ni + 1) ic)
          obtain ⟨cs, hcs1, _⟩ := HSE.out.blk
          have hk9 := kinds_gb (kinds_gb HSE.out.kinds HNS.out hga) (nostr_row hr8 (nostr_row3 _ _ _ _ _ _ _ _ _)) hg9
          have hgn9 := own_gb (own_gb HSE.out.gens hcs1 (by decide) hga) hr8 (by decide) hg9
          have hr49 : (w8.setCell ⟨W.heap.size, 2, none⟩ (.slice ia (ni + 1) ic)).heap[W.heap.size + 1]? = some (.cells #[.slice none 0 0, .slice none 0 0, .slice none 0 0] 27 (0, 0)) := (far _ (by omega)).trans ((hga.block _ (lt_of_heap HSE.out.r4) (fun e => by injection e with e; omega)).trans HSE.out.r4)
          have hr59 : (w8.setCell ⟨W.heap.size, 2, none⟩ (.slice ia (ni + 1) ic)).heap[W.heap.size + 1 + 1]? = some (.cells #[.int .i64 0, .int .i64 0] 55 (0, 0)) := (far _ (by omega)).trans ((hga.block _ (lt_of_heap HSE.out.r5) (fun e => by injection e with e; omega)).trans HSE.out.r5)
          have hen9 : (w8.setCell ⟨W.heap.size, 2, none⟩ (.slice ia (ni + 1) ic)).heap[BE]? = some (.cells #[.int .i64 (FN : Int), .int .i64 gv] 55 (0, 0)) := (far _ (by omega)).trans ((hga.block _ (lt_of_heap HREE.out) (fun e => by injection e with e; omega)).trans HREE.out)
          have hb9 : Below W.heap.size W (w8.setCell ⟨W.heap.size, 2, none⟩ (.slice ia (ni + 1) ic)) := (HSE.out.bel.grown hga HSE.out.bel.size (fun r h => by injection h with h; omega)).setCell (p := ⟨W.heap.size, 2, none⟩) (Nat.le_refl _) _
          have hcm9 : ∀ w10 w11, (w8.setCell ⟨W.heap.size, 2, none⟩ (.slice ia (ni + 1) ic)).grownBy w10 (some (W.heap.size + 1)) → w10.grownBy w11 (some (W.heap.size + 1 + 1)) → SlAt 2 CompAt w11 fa (listed (fitAllM y.kinds l)) := by
            intro w10 w11 h10 h11
            have z1 := HSE.out.comps.1
            have z2 := hga.size
            have z3 := h10.size
            have z4 := h11.size
            rw [World.size_setCell] at z3
            exact (HSE.out.comps.to (w' := w11) (by omega) (fun g g1 g2 => (h11.block g (by omega) (fun e => by injection e with e; omega)).trans ((h10.block g (by rw [World.size_setCell]; omega) (fun e => by injection e with e; omega)).trans ((far g (by omega)).trans (hga.block g (by omega) (fun e => by injection e with e; omega)))))).now
          have hr5x : ∀ w10, (w8.setCell ⟨W.heap.size, 2, none⟩ (.slice ia (ni + 1) ic)).grownBy w10 (some (W.heap.size + 1)) → w10.heap[W.heap.size + 1 + 1]? = some (.cells #[.int .i64 0, .int .i64 0] 55 (0, 0)) := fun w10 h10 => (h10.block _ (lt_of_heap hr59) (fun e => by injection e with e; omega)).trans hr59
          have hi9 : ∀ w10 w11, (w8.setCell ⟨W.heap.size, 2, none⟩ (.slice ia (ni + 1) ic)).grownBy w10 (some (W.heap.size + 1)) → w10.grownBy w11 (some (W.heap.size + 1 + 1)) → SlAt 3 ItemAt w11 ia (y.items.take ip ++ [spawnI y l] ++ y.items.drop ip) := by
            intro w10 w11 h10 h11
            have hown9 := own_gb (own_gb (own_gb ho8 hr8 (by decide) hg9) hr49 (by decide) h10) (hr5x w10 h10) (by decide) h11
            rw [take_flat css HC2.out, drop_flat2 css HC2.out] at hown9
            have hfl : (css.take ip).flatten ++ [Value.int .i64 (FN : Int), Value.int .i64 gv, Value.slice fa nf fc] ++ (css.drop ip).flatten = (css.take ip ++ [[Value.int .i64 (FN : Int), Value.int .i64 gv, Value.slice fa nf fc]] ++ css.drop ip).flatten := by simp
            rw [hfl] at hown9
            have hil : ip ≤ y.items.length := by rw [← NI.out]; exact hip
            refine slat_of_own EItem.at hown9 (by simp only [List.length_append, List.length_take, List.length_drop, List.length_singleton]; rw [NI.out]; omega) (by simp only [List.length_append, List.length_take, List.length_drop, List.length_singleton, HC1.out]; rw [NI.out]; omega) (fun c hc => ?_) (ins_all _ css y.items _ (spawnI y l) ip HC1.out hil (fun j h1 h2 => ((((HC5.out j h1 h2).grown hga (fun r h => by injection h with h; omega)).grown hg9 (fun r h => by injection h with h; omega)).grown h10 (fun r h => by injection h with h; omega)).grown h11 (fun r h => by injection h with h; omega) |>.now) ?_)
            · rcases List.mem_append.1 hc with hc | hc
              · rcases List.mem_append.1 hc with hc | hc
                · exact HC2.out c (List.mem_of_mem_take hc)
                · rw [List.mem_singleton.1 hc]; rfl
              · exact HC2.out c (List.mem_of_mem_drop hc)
            · refine ⟨fa, fc, ?_, hcm9 w10 w11 h10 h11⟩
              show _ = [Value.int .i64 (freeN y : Int), .int .i64 ((spawnG y).getD (freeN y) 0), .slice fa (listed (fitAllM y.kinds l)).length fc]
              rw [← HFN.out, ← HGW.out, ← HNF.out]
          obtain ⟨w9, hw9⟩ : ∃ w9, w9 = w8.setCell ⟨W.heap.size, 2, none⟩ (.slice ia (ni + 1) ic) := ⟨_, rfl⟩
          have HWI := Lib.hid (show ∀ w10 w11, w9.grownBy w10 (some (W.heap.size + 1)) → w10.grownBy w11 (some (W.heap.size + 1 + 1)) → WorldIn w11 (.agg #[.slice kk nk nk, .slice (some ⟨gq, 0, none⟩) gl gd, .slice ia (ni + 1) ic]) ⟨y.kinds, spawnG y, y.items.take ip ++ [spawnI y l] ++ y.items.drop ip⟩ from by
            intro w10 w11 h10 h11
            rw [hw9] at h10
            have hk11 := kinds_gb (kinds_gb hk9 (nostr_row hr49 (nostr_row3 _ _ _ _ _ _ _ _ _)) h10) (nostr_row (hr5x w10 h10) (fun j s e => by rcases j with _ | _ | j <;> simp at e)) h11
            have hgn11 := own_gb (own_gb hgn9 hr49 (by decide) h10) (hr5x w10 h10) (by decide) h11
            have hgl : (spawnG y).length = gl := by have := hgn9.1; rw [vints_length, Nat.mul_one] at this; exact this
            have hil : (y.items.take ip ++ [spawnI y l] ++ y.items.drop ip).length = ni + 1 := by simp only [List.length_append, List.length_take, List.length_drop, List.length_singleton]; rw [← NI.out]; omega
            exact ⟨kk, nk, some ⟨gq, 0, none⟩, gd, ia, ic, by simp only; rw [hgl, hil, NK.out], hk11, IntsAt.of_own hgn11 hgl.symm, hi9 w10 w11 h10 h11, by simp only; rw [NK.out]; exact Nat.le_refl _, by have := HSM.out.1; rw [← NK.out] at this; omega⟩)
          have HRW9 := Lib.hid (show w9.heap[W.heap.size]? = some (.cells #[.slice kk nk nk, .slice (some ⟨gq, 0, none⟩) gl gd, .slice ia (ni + 1) ic] 27 (0, 0)) by rw [hw9]; exact hrow9)
          rw [← hw9] at hr49 hr59 hen9 hb9
          have HR4 := Lib.hid hr49
          have HR5 := Lib.hid hr59
          have HEN := Lib.hid hen9
          have HB9 := Lib.hid hb9
          have HLAST := Lib.hid (show SpawnZ y l ⟨y.kinds, spawnG y, y.items.take ip ++ [spawnI y l] ++ y.items.drop ip⟩ from ⟨ip, by rw [← NI.out]; exact hip, fun j h hj => by rw [← HFN.out]; exact HLO.out j h hj, fun j h hj => by rw [← HFN.out]; exact HHI.out j h hj, rfl⟩)
          have HXN := Lib.hid (show (FN : Int) = (spawnI y l).n ∧ gv = (spawnI y l).gen from ⟨by rw [HFN.out]; rfl, by rw [HGW.out, HFN.out]; rfl⟩)
          have HOS := Lib.hid (show W.heap.size + 1 + 1 < BE from by omega)
          clear hga o1 o2 o3 o4 o5 hbg hg9 far hrow9 hcs1 hk9 hgn9 hr49 hr59 hen9 hb9 hcm9 hr5x hi9 hg8 ho8 hr8 c2 d0 d1 HIN HNS HSE HREE HC2 HC5 HC1 HBA
          go_wp2_with fail
          rw [← hw9]
          clear hw9 c8 f8
          refine wp_region_facts_r rfl 3 (by kernel_rfl) (fun a b => World.grownBy a b (some (W.heap.size + 1))) (gb_drew _ _) (fun _ _ _ h h2 => h.trans h2) (RG 2 (some (W.heap.size + 1))) RG.sub (F_sp W.heap.size BE nk gl gd (ni + 1) ic (FN : Int) gv kk (some ⟨gq, 0, none⟩) ia) (F_sp_mono W.heap.size BE nk gl gd (ni + 1) ic (FN : Int) gv kk (some ⟨gq, 0, none⟩) ia) 2 (fun w => w.heap[W.heap.size + 1]? = some (.cells #[.slice none 0 0, .slice none 0 0, .slice none 0 0] 27 (0, 0))) HR4.out (fun i a b hi h ho => heap_below ho (h.1 hi)) ?_ ?_
          · refine ⟨?_, ?_, ?_, trivial⟩
            · intro vs w' F hb hd hF hl hT hq
              have e := (hF 2).trans (look_out _ 2 _ _ (by kernel_rfl))
              exact rg_load 27 _ rfl rfl (W.heap.size) (0) [.slice kk nk nk, .slice (some ⟨gq, 0, none⟩) gl gd, .slice ia (ni + 1) ic] e (CellsK.row ((hb.block _ (lt_of_heap HRW9.out) (fun e => by injection e with e; omega)).trans HRW9.out)) _ Try.underlying27 rfl (by kernel_rfl) ⟨_, rfl, RG.same _ _ _ _, rfl⟩
            · intro vs w' F hb hd hF hl hT hq
              have e := (hF 12).trans (look_out _ 12 _ _ (by kernel_rfl))
              exact rg_load 55 _ rfl rfl (BE) (0) [.int .i64 (FN : Int), .int .i64 gv] e (CellsK.row ((hb.block _ (lt_of_heap HEN.out) (fun e => by have := HOS.out; injection e with e; omega)).trans HEN.out)) _ Try.underlying55 rfl (by kernel_rfl) ⟨_, rfl, RG.same _ _ _ _, rfl⟩
            · intro vs w' F hb hd hF hl hT hq
              have e1 := ((hF 4).trans (look_out _ 4 _ _ (by kernel_rfl)))
              have e2 := (((hF 78).trans (look_at _ 78 0 _ _ (by kernel_rfl) (by kernel_rfl) hl)).trans (dep_of (Fact := F_sp W.heap.size BE nk gl gd (ni + 1) ic (FN : Int) gv kk (some ⟨gq, 0, none⟩) ia) hd 0 (by kernel_rfl)))
              refine wpList_store_rowP rfl 27 (.tmp 4) (.tmp 78) rfl (W.heap.size + 1) #[.slice kk nk nk, .slice (some ⟨gq, 0, none⟩) gl gd, .slice ia (ni + 1) ic] e1 e2 _ _ (hq rfl) (by kernel_rfl) rfl (ones3 _ _ _ rfl rfl rfl) ?_
              intro w2 hput
              exact ⟨undef, rfl, RG.at_ rfl (gb_put hput), hput.here⟩
          · intro vs8 W8 hl hb hI
            have i2 : W8.heap[W.heap.size + 1]? = some (.cells #[.slice kk nk nk, .slice (some ⟨gq, 0, none⟩) gl gd, .slice ia (ni + 1) ic] 27 (0, 0)) := hI 2 (by omega)
            have i1 : vs8.getD 1 undef = .agg #[.int .i64 (FN : Int), .int .i64 gv] := hI 1 (by omega)
            obtain ⟨x0, x1, x2, x3, x4, hvs⟩ := list5 hl
            subst hvs
            replace i1 : x1 = .agg #[.int .i64 (FN : Int), .int .i64 gv] := i1
            subst i1
            have h59 := (hb.block _ (lt_of_heap HR5.out) (fun e => by injection e with e; omega)).trans HR5.out
            have R59 := Lib.hid h59
            have HI2 := Lib.hid i2
            have HGB := Lib.hid hb
            clear i2 hI hl hb h59
            simp only [fillAll, Act.put, List.setIfInBounds_toArray, List.set_cons_succ, List.set_cons_zero, List.drop_succ_cons, List.drop_zero]
            go_wp2_with (refine wpList_store_rowP rfl 55 (.tmp 5) (.tmp 79) rfl (W.heap.size + 1 + 1) #[.int .i64 (FN : Int), .int .i64 gv] rfl rfl _ _ R59.out (by kernel_rfl) rfl (ones2 _ _ rfl rfl) ?_; intro W10 hput; have HP5 := Lib.hid hput; clear hput)
            have g11 := gb_put HP5.out
            refine bodyPost_ret (results_cct Try.results17 _ _ (W.heap.size + 1) (W.heap.size + 1 + 1) 27 55 _ _ (0, 0) (0, 0) _ _ rfl ((HP5.out.else_ _ (by omega)).trans HI2.out) Try.underlying27 rfl (by kernel_rfl) rfl HP5.out.here Try.underlying55 rfl (by kernel_rfl)) rfl ?_
            have hbz : Below W.heap.size W W10 := (HB9.out.grown HGB.out HB9.out.size (fun r h => by injection h with h; omega)).grown g11 (by have := HB9.out.size; have := HGB.out.size; omega) (fun r h => by injection h with h; omega)
            exact SpawnR.good HE.out.symm HXN.out.1 HXN.out.2 HLAST.out (HWI.out _ _ HGB.out g11) hbz
        · have t2 : ((FN : Int) == (ng : Int)) = false := by
            have : ¬ ((FN : Int) = (ng : Int)) := by omega
            simpa using this
          have HFL : FN < ng := by have := firstP_le (freeP y) y.gens.length; have h := HFN.out; unfold freeN at h; rw [← NG.out] at this h; omega
          have HSG := Lib.hid (show spawnG y = y.gens by unfold spawnG; rw [if_neg (by rw [← HFN.out, ← NG.out]; exact hfn)])
          obtain ⟨gv, hgv⟩ : ∃ g, g = y.gens.getD FN 0 := ⟨_, rfl⟩
          have HGV := Lib.hid hgv
          clear hgv
          obtain ⟨gq, gd, hgq, _, _⟩ := HG4.out.form (by omega)
          injection hgq with hg1 _ hg3
          subst hg1
          have hg4 := hg3.symm
          subst hg4
          have hff := HFL
          clear hff hfn HBLK HAT HG4 HK4 HFW4 HB R4 R5 hwS hWS
          go_wp2_with (refine wpList_store_rowP rfl 27 (.tmp 2) (.tmp 44) rfl W.heap.size #[.slice kk nk nk, .slice (some ⟨gq, 0, none⟩) ng gd, .slice (some ⟨G, 0, none⟩) ni ni] rfl rfl _ _ R2.out (by kernel_rfl) rfl (ones3 _ _ _ rfl rfl rfl) ?_; intro wc hput; have HP := Lib.hid (HF1.out wc hput); have e1 : wc.cell? ⟨W.heap.size, 1, none⟩ = some (.slice (some ⟨gq, 0, none⟩) ng gd) := (by rw [cell_of_row _ _ 1 _ _ _ hput.here]; rfl); have eg : wc.cell? ⟨gq, FN, none⟩ = some (.int .i64 gv) := (by have hff := HFL; have hp := (HF1.out wc hput).1.gens; rw [hp.cellAt FN (by omega), vints_get .i64 _ FN (by rw [← NG.out]; exact hff), HGV.out]); have e2 := cell_of_row _ _ 2 _ _ _ (heap_keep hput.here (.cells #[.int .i64 (FN : Int), .int .i64 gv] 55 (0, 0))); clear hput)
          have hsp := HP.out.1
          rw [← HSG.out] at hsp
          have HGW := Lib.hid (show gv = (spawnG y).getD FN 0 by rw [HSG.out]; exact HGV.out)
          obtain ⟨gl, hgl⟩ : ∃ gl, gl = ng := ⟨_, rfl⟩
          rw [← hgl] at hsp ⊢
          rw [← hgl] at HFL
          have HSPC := Lib.hid hsp
          clear hsp hgl e1 e2 eg t2 HP HSG HGV
          obtain ⟨wd, hwd⟩ : ∃ wd, wd = wc.alloc (.cells #[.int .i64 (FN : Int), .int .i64 gv] 55 (0, 0)) := ⟨_, rfl⟩
          have hbd : Below wc.heap.size wc wd := by rw [hwd]; exact (Below.refl _ _).alloc (Nat.le_refl _) _
          have hre : wd.heap[wc.heap.size]? = some (.cells #[.int .i64 (FN : Int), .int .i64 gv] 55 (0, 0)) := by rw [hwd]; exact heap_alloc_new wc _
          rw [← hwd]
          obtain ⟨BE, hBE⟩ : ∃ b, b = wc.heap.size := ⟨_, rfl⟩
          rw [← hBE] at hre ⊢
          have hsd := HSPC.out.below hbd
          have hBW : G < BE := by rw [hBE]; exact HSPC.out.blk.lt
          have HBS := Lib.hid (bin_items y.items (some ⟨G, 0, none⟩) ni ni (FN : Int) NI.out.symm (by rw [NI.out]; exact HSM.out.2.2.1) GS.out.1 wd (fun _ => ⟨_, rfl, hsd.blk.lt, fun j hj => by rw [add_zero_block]; exact (hsd.items j hj).at_⟩))
          have HSD := Lib.hid hsd
          have HRE := Lib.hid hre
          have HBEG := Lib.hid hBW
          clear hbd hre hsd hwd hBE hBW HSPC
          refine HBS.out.mono ?_
          rintro e we ⟨⟨ip, fo, hip, rfl, hlo, hhi, _⟩, hbe⟩
          have HLO := Lib.hid hlo
          have HHI := Lib.hid hhi
          have hse := HSD.out.below hbe
          have hre := heap_below HRE.out hbe
          obtain ⟨cs, hcs1, hcs2⟩ := hse.blk
          obtain ⟨css, hc1, hc2, hc3, hc4, hc5⟩ := item_rows hcs1 (by rw [hcs2, NI.out]) hse.items
          have hown : we.ownsRow G 70 3 (.slice (some ⟨G, 0, none⟩) ni ni) ni css.flatten := ⟨by rw [hc3, Array.length_toList, hcs2], Or.inr ⟨G, ni, cs, rfl, Nat.le_refl _, hcs1, Nat.le_refl _, by unfold maxLen; have := HSM.out.2.2.1; rw [← NI.out] at this; omega, hcs2, by rw [hc3, List.take_of_length_le (by rw [Array.length_toList, hcs2]; exact Nat.le_refl _)]⟩⟩
          have hba : Below we.heap.size we (we.alloc (.cells #[.int .i64 (FN : Int), .int .i64 gv, .slice fa nf fc] 70 (0, 0))) := (Below.refl _ _).alloc (Nat.le_refl _) _
          have hro := new_row we #[.int .i64 (FN : Int), .int .i64 gv, .slice fa nf fc] 70
          have HIN := Lib.hid (ins_items css.flatten [.int .i64 (FN : Int), .int .i64 gv, .slice fa nf fc] G ni ip we.heap.size (we.alloc (.cells #[.int .i64 (FN : Int), .int .i64 gv, .slice fa nf fc] 70 (0, 0))) (own_below hown hba) hip (by have := HSM.out.2.2.1; rw [← NI.out] at this; exact this) rfl
            (fun j v hj => by have := hro j v hj; simpa using this) (fun v hv => by obtain ⟨c, hcc, hvv⟩ := List.mem_flatten.1 hv; exact (hc4 c hcc v hvv).1) (fun v hv => by simp only [List.mem_cons, List.not_mem_nil, or_false] at hv; rcases hv with rfl | rfl | rfl <;> rfl))
          have HNS := Lib.hid (show NoStr we G from nostr_row hcs1 (fun j s hj => by
            have hm := Array.mem_of_getElem? hj
            rw [← Array.mem_toList_iff, ← hc3] at hm
            obtain ⟨c, hcc, hvv⟩ := List.mem_flatten.1 hm
            exact (hc4 c hcc _ hvv).2 s rfl))
          have c2 := cell_of_row _ _ 2 _ _ _ hse.row
          have d0 := cell_of_row _ _ 0 _ _ _ hre
          have d1 := cell_of_row _ _ 1 _ _ _ hre
          have HSE := Lib.hid hse
          have HREE := Lib.hid hre
          have HC2 := Lib.hid hc2
          have HC5 := Lib.hid hc5
          have HC1 := Lib.hid hc1
          have HBA := Lib.hid hba
          clear hlo hhi hse hre hcs1 hcs2 hc1 hc2 hc3 hc4 hc5 hown hba hro hbe HBS HSD HRE
          go_wp2_with fail
          refine HIN.out.mono ?_
          rintro e w8 ⟨v8, rfl, ho8, hg8⟩
          obtain ⟨ia, ic, rfl⟩ := own_slice ho8
          have hga : we.grownBy w8 (some G) := (World.grownBy_alloc we _ _).trans hg8
          have o1 := HSE.out.o1
          have o2 := HSE.out.o2
          have o3 := HSE.out.o3
          have o4 := HSE.out.o4
          have o5 := HSE.out.o5
          have hbg := HBEG.out
          have hr8 : w8.heap[W.heap.size]? = some (.cells #[.slice kk nk nk, .slice (some ⟨gq, 0, none⟩) gl gd, .slice (some ⟨G, 0, none⟩) ni ni] 27 (0, 0)) := (hga.block _ (lt_of_heap HSE.out.row) (fun e => by injection e with e; omega)).trans HSE.out.row
          have c8 := cell_of_row _ _ 2 _ _ _ hr8
          have f8 : w8.frozen? ⟨W.heap.size, 2, none⟩ = false := Mem.frozen_of_row hr8 2
          have hg9 : w8.grownBy (w8.setCell ⟨W.heap.size, 2, none⟩ (.slice ia (ni + 1) ic)) (some W.heap.size) := gb_set (World.grownBy.refl _ _) 2 _
          have far : ∀ k, k ≠ W.heap.size → (w8.setCell ⟨W.heap.size, 2, none⟩ (.slice ia (ni + 1) ic)).heap[k]? = w8.heap[k]? := fun k hk => Below.heap_setCell w8 ⟨W.heap.size, 2, none⟩ _ k hk
          have hrow9 := Mem.heap_set hr8 2 (.slice ia (ni + 1) ic)
          obtain ⟨cs, hcs1, _⟩ := HSE.out.blk
          have hk9 := kinds_gb (kinds_gb HSE.out.kinds HNS.out hga) (nostr_row hr8 (nostr_row3 _ _ _ _ _ _ _ _ _)) hg9
          have hgn9 := own_gb (own_gb HSE.out.gens hcs1 (by decide) hga) hr8 (by decide) hg9
          have hr49 : (w8.setCell ⟨W.heap.size, 2, none⟩ (.slice ia (ni + 1) ic)).heap[W.heap.size + 1]? = some (.cells #[.slice none 0 0, .slice none 0 0, .slice none 0 0] 27 (0, 0)) := (far _ (by omega)).trans ((hga.block _ (lt_of_heap HSE.out.r4) (fun e => by injection e with e; omega)).trans HSE.out.r4)
          have hr59 : (w8.setCell ⟨W.heap.size, 2, none⟩ (.slice ia (ni + 1) ic)).heap[W.heap.size + 1 + 1]? = some (.cells #[.int .i64 0, .int .i64 0] 55 (0, 0)) := (far _ (by omega)).trans ((hga.block _ (lt_of_heap HSE.out.r5) (fun e => by injection e with e; omega)).trans HSE.out.r5)
          have hen9 : (w8.setCell ⟨W.heap.size, 2, none⟩ (.slice ia (ni + 1) ic)).heap[BE]? = some (.cells #[.int .i64 (FN : Int), .int .i64 gv] 55 (0, 0)) := (far _ (by omega)).trans ((hga.block _ (lt_of_heap HREE.out) (fun e => by injection e with e; omega)).trans HREE.out)
          have hb9 : Below W.heap.size W (w8.setCell ⟨W.heap.size, 2, none⟩ (.slice ia (ni + 1) ic)) := (HSE.out.bel.grown hga HSE.out.bel.size (fun r h => by injection h with h; omega)).setCell (p := ⟨W.heap.size, 2, none⟩) (Nat.le_refl _) _
          have hcm9 : ∀ w10 w11, (w8.setCell ⟨W.heap.size, 2, none⟩ (.slice ia (ni + 1) ic)).grownBy w10 (some (W.heap.size + 1)) → w10.grownBy w11 (some (W.heap.size + 1 + 1)) → SlAt 2 CompAt w11 fa (listed (fitAllM y.kinds l)) := by
            intro w10 w11 h10 h11
            have z1 := HSE.out.comps.1
            have z2 := hga.size
            have z3 := h10.size
            have z4 := h11.size
            rw [World.size_setCell] at z3
            exact (HSE.out.comps.to (w' := w11) (by omega) (fun g g1 g2 => (h11.block g (by omega) (fun e => by injection e with e; omega)).trans ((h10.block g (by rw [World.size_setCell]; omega) (fun e => by injection e with e; omega)).trans ((far g (by omega)).trans (hga.block g (by omega) (fun e => by injection e with e; omega)))))).now
          have hr5x : ∀ w10, (w8.setCell ⟨W.heap.size, 2, none⟩ (.slice ia (ni + 1) ic)).grownBy w10 (some (W.heap.size + 1)) → w10.heap[W.heap.size + 1 + 1]? = some (.cells #[.int .i64 0, .int .i64 0] 55 (0, 0)) := fun w10 h10 => (h10.block _ (lt_of_heap hr59) (fun e => by injection e with e; omega)).trans hr59
          have hi9 : ∀ w10 w11, (w8.setCell ⟨W.heap.size, 2, none⟩ (.slice ia (ni + 1) ic)).grownBy w10 (some (W.heap.size + 1)) → w10.grownBy w11 (some (W.heap.size + 1 + 1)) → SlAt 3 ItemAt w11 ia (y.items.take ip ++ [spawnI y l] ++ y.items.drop ip) := by
            intro w10 w11 h10 h11
            have hown9 := own_gb (own_gb (own_gb ho8 hr8 (by decide) hg9) hr49 (by decide) h10) (hr5x w10 h10) (by decide) h11
            rw [take_flat css HC2.out, drop_flat2 css HC2.out] at hown9
            have hfl : (css.take ip).flatten ++ [Value.int .i64 (FN : Int), Value.int .i64 gv, Value.slice fa nf fc] ++ (css.drop ip).flatten = (css.take ip ++ [[Value.int .i64 (FN : Int), Value.int .i64 gv, Value.slice fa nf fc]] ++ css.drop ip).flatten := by simp
            rw [hfl] at hown9
            have hil : ip ≤ y.items.length := by rw [← NI.out]; exact hip
            refine slat_of_own EItem.at hown9 (by simp only [List.length_append, List.length_take, List.length_drop, List.length_singleton]; rw [NI.out]; omega) (by simp only [List.length_append, List.length_take, List.length_drop, List.length_singleton, HC1.out]; rw [NI.out]; omega) (fun c hc => ?_) (ins_all _ css y.items _ (spawnI y l) ip HC1.out hil (fun j h1 h2 => ((((HC5.out j h1 h2).grown hga (fun r h => by injection h with h; omega)).grown hg9 (fun r h => by injection h with h; omega)).grown h10 (fun r h => by injection h with h; omega)).grown h11 (fun r h => by injection h with h; omega) |>.now) ?_)
            · rcases List.mem_append.1 hc with hc | hc
              · rcases List.mem_append.1 hc with hc | hc
                · exact HC2.out c (List.mem_of_mem_take hc)
                · rw [List.mem_singleton.1 hc]; rfl
              · exact HC2.out c (List.mem_of_mem_drop hc)
            · refine ⟨fa, fc, ?_, hcm9 w10 w11 h10 h11⟩
              show _ = [Value.int .i64 (freeN y : Int), .int .i64 ((spawnG y).getD (freeN y) 0), .slice fa (listed (fitAllM y.kinds l)).length fc]
              rw [← HFN.out, ← HGW.out, ← HNF.out]
          obtain ⟨w9, hw9⟩ : ∃ w9, w9 = w8.setCell ⟨W.heap.size, 2, none⟩ (.slice ia (ni + 1) ic) := ⟨_, rfl⟩
          have HWI := Lib.hid (show ∀ w10 w11, w9.grownBy w10 (some (W.heap.size + 1)) → w10.grownBy w11 (some (W.heap.size + 1 + 1)) → WorldIn w11 (.agg #[.slice kk nk nk, .slice (some ⟨gq, 0, none⟩) gl gd, .slice ia (ni + 1) ic]) ⟨y.kinds, spawnG y, y.items.take ip ++ [spawnI y l] ++ y.items.drop ip⟩ from by
            intro w10 w11 h10 h11
            rw [hw9] at h10
            have hk11 := kinds_gb (kinds_gb hk9 (nostr_row hr49 (nostr_row3 _ _ _ _ _ _ _ _ _)) h10) (nostr_row (hr5x w10 h10) (fun j s e => by rcases j with _ | _ | j <;> simp at e)) h11
            have hgn11 := own_gb (own_gb hgn9 hr49 (by decide) h10) (hr5x w10 h10) (by decide) h11
            have hgl : (spawnG y).length = gl := by have := hgn9.1; rw [vints_length, Nat.mul_one] at this; exact this
            have hil : (y.items.take ip ++ [spawnI y l] ++ y.items.drop ip).length = ni + 1 := by simp only [List.length_append, List.length_take, List.length_drop, List.length_singleton]; rw [← NI.out]; omega
            exact ⟨kk, nk, some ⟨gq, 0, none⟩, gd, ia, ic, by simp only; rw [hgl, hil, NK.out], hk11, IntsAt.of_own hgn11 hgl.symm, hi9 w10 w11 h10 h11, by simp only; rw [NK.out]; exact Nat.le_refl _, by have := HSM.out.1; rw [← NK.out] at this; omega⟩)
          have HRW9 := Lib.hid (show w9.heap[W.heap.size]? = some (.cells #[.slice kk nk nk, .slice (some ⟨gq, 0, none⟩) gl gd, .slice ia (ni + 1) ic] 27 (0, 0)) by rw [hw9]; exact hrow9)
          rw [← hw9] at hr49 hr59 hen9 hb9
          have HR4 := Lib.hid hr49
          have HR5 := Lib.hid hr59
          have HEN := Lib.hid hen9
          have HB9 := Lib.hid hb9
          have HLAST := Lib.hid (show SpawnZ y l ⟨y.kinds, spawnG y, y.items.take ip ++ [spawnI y l] ++ y.items.drop ip⟩ from ⟨ip, by rw [← NI.out]; exact hip, fun j h hj => by rw [← HFN.out]; exact HLO.out j h hj, fun j h hj => by rw [← HFN.out]; exact HHI.out j h hj, rfl⟩)
          have HXN := Lib.hid (show (FN : Int) = (spawnI y l).n ∧ gv = (spawnI y l).gen from ⟨by rw [HFN.out]; rfl, by rw [HGW.out, HFN.out]; rfl⟩)
          have HOS := Lib.hid (show W.heap.size + 1 + 1 < BE from by omega)
          clear hga o1 o2 o3 o4 o5 hbg hg9 far hrow9 hcs1 hk9 hgn9 hr49 hr59 hen9 hb9 hcm9 hr5x hi9 hg8 ho8 hr8 c2 d0 d1 HIN HNS HSE HREE HC2 HC5 HC1 HBA
          go_wp2_with fail
          rw [← hw9]
          clear hw9 c8 f8
          refine wp_region_facts_r rfl 3 (by kernel_rfl) (fun a b => World.grownBy a b (some (W.heap.size + 1))) (gb_drew _ _) (fun _ _ _ h h2 => h.trans h2) (RG 2 (some (W.heap.size + 1))) RG.sub (F_sp W.heap.size BE nk gl gd (ni + 1) ic (FN : Int) gv kk (some ⟨gq, 0, none⟩) ia) (F_sp_mono W.heap.size BE nk gl gd (ni + 1) ic (FN : Int) gv kk (some ⟨gq, 0, none⟩) ia) 2 (fun w => w.heap[W.heap.size + 1]? = some (.cells #[.slice none 0 0, .slice none 0 0, .slice none 0 0] 27 (0, 0))) HR4.out (fun i a b hi h ho => heap_below ho (h.1 hi)) ?_ ?_
          · refine ⟨?_, ?_, ?_, trivial⟩
            · intro vs w' F hb hd hF hl hT hq
              have e := (hF 2).trans (look_out _ 2 _ _ (by kernel_rfl))
              exact rg_load 27 _ rfl rfl (W.heap.size) (0) [.slice kk nk nk, .slice (some ⟨gq, 0, none⟩) gl gd, .slice ia (ni + 1) ic] e (CellsK.row ((hb.block _ (lt_of_heap HRW9.out) (fun e => by injection e with e; omega)).trans HRW9.out)) _ Try.underlying27 rfl (by kernel_rfl) ⟨_, rfl, RG.same _ _ _ _, rfl⟩
            · intro vs w' F hb hd hF hl hT hq
              have e := (hF 12).trans (look_out _ 12 _ _ (by kernel_rfl))
              exact rg_load 55 _ rfl rfl (BE) (0) [.int .i64 (FN : Int), .int .i64 gv] e (CellsK.row ((hb.block _ (lt_of_heap HEN.out) (fun e => by have := HOS.out; injection e with e; omega)).trans HEN.out)) _ Try.underlying55 rfl (by kernel_rfl) ⟨_, rfl, RG.same _ _ _ _, rfl⟩
            · intro vs w' F hb hd hF hl hT hq
              have e1 := ((hF 4).trans (look_out _ 4 _ _ (by kernel_rfl)))
              have e2 := (((hF 78).trans (look_at _ 78 0 _ _ (by kernel_rfl) (by kernel_rfl) hl)).trans (dep_of (Fact := F_sp W.heap.size BE nk gl gd (ni + 1) ic (FN : Int) gv kk (some ⟨gq, 0, none⟩) ia) hd 0 (by kernel_rfl)))
              refine wpList_store_rowP rfl 27 (.tmp 4) (.tmp 78) rfl (W.heap.size + 1) #[.slice kk nk nk, .slice (some ⟨gq, 0, none⟩) gl gd, .slice ia (ni + 1) ic] e1 e2 _ _ (hq rfl) (by kernel_rfl) rfl (ones3 _ _ _ rfl rfl rfl) ?_
              intro w2 hput
              exact ⟨undef, rfl, RG.at_ rfl (gb_put hput), hput.here⟩
          · intro vs8 W8 hl hb hI
            have i2 : W8.heap[W.heap.size + 1]? = some (.cells #[.slice kk nk nk, .slice (some ⟨gq, 0, none⟩) gl gd, .slice ia (ni + 1) ic] 27 (0, 0)) := hI 2 (by omega)
            have i1 : vs8.getD 1 undef = .agg #[.int .i64 (FN : Int), .int .i64 gv] := hI 1 (by omega)
            obtain ⟨x0, x1, x2, x3, x4, hvs⟩ := list5 hl
            subst hvs
            replace i1 : x1 = .agg #[.int .i64 (FN : Int), .int .i64 gv] := i1
            subst i1
            have h59 := (hb.block _ (lt_of_heap HR5.out) (fun e => by injection e with e; omega)).trans HR5.out
            have R59 := Lib.hid h59
            have HI2 := Lib.hid i2
            have HGB := Lib.hid hb
            clear i2 hI hl hb h59
            simp only [fillAll, Act.put, List.setIfInBounds_toArray, List.set_cons_succ, List.set_cons_zero, List.drop_succ_cons, List.drop_zero]
            go_wp2_with (refine wpList_store_rowP rfl 55 (.tmp 5) (.tmp 79) rfl (W.heap.size + 1 + 1) #[.int .i64 (FN : Int), .int .i64 gv] rfl rfl _ _ R59.out (by kernel_rfl) rfl (ones2 _ _ rfl rfl) ?_; intro W10 hput; have HP5 := Lib.hid hput; clear hput)
            have g11 := gb_put HP5.out
            refine bodyPost_ret (results_cct Try.results17 _ _ (W.heap.size + 1) (W.heap.size + 1 + 1) 27 55 _ _ (0, 0) (0, 0) _ _ rfl ((HP5.out.else_ _ (by omega)).trans HI2.out) Try.underlying27 rfl (by kernel_rfl) rfl HP5.out.here Try.underlying55 rfl (by kernel_rfl)) rfl ?_
            have hbz : Below W.heap.size W W10 := (HB9.out.grown HGB.out HB9.out.size (fun r h => by injection h with h; omega)).grown g11 (by have := HB9.out.size; have := HGB.out.size; omega) (fun r h => by injection h with h; omega)
            exact SpawnR.good HE.out.symm HXN.out.1 HXN.out.2 HLAST.out (HWI.out _ _ HGB.out g11) hbz
  · have HE := Lib.hid (G1.out hc)
    have HNE := Lib.hid hc
    have t0 : (CE != 0) = true := by rw [bne_iff_ne]; exact hc
    clear hc
    go_wp2_with (first
      | (refine wpList_store_rowP rfl 27 (.tmp 4) (.tmp 19) rfl (W.heap.size + 1) #[.slice none 0 0, .slice none 0 0, .slice none 0 0] rfl rfl _ _ R4.out (by kernel_rfl) rfl (ones3 _ _ _ rfl rfl rfl) ?_; intro W9 hput; have HP4 := Lib.hid hput; have R59 := Lib.hid ((hput.else_ _ (by omega)).trans R5.out); clear hput)
      | (refine wpList_store_rowP rfl 55 (.tmp 5) (.tmp 20) rfl (W.heap.size + 1 + 1) #[.int .i64 0, .int .i64 0] rfl rfl _ _ R59.out (by kernel_rfl) rfl (ones2 _ _ rfl rfl) ?_; intro W10 hput; have HP5 := Lib.hid hput; clear hput))
    refine bodyPost_ret (results_cct Try.results17 _ _ (W.heap.size + 1) (W.heap.size + 1 + 1) 27 55 _ _ (0, 0) (0, 0) _ _ rfl ((HP5.out.else_ _ (by omega)).trans HP4.out.here) Try.underlying27 rfl (by kernel_rfl) rfl HP5.out.here Try.underlying55 rfl (by kernel_rfl)) rfl ?_
    exact SpawnR.bad HE.out (by first | exact HNE.out | decide) rfl (HB.out.trans ((HP4.out.below (by omega)).trans (HP5.out.below (by omega))))
end Go.Proofs.Ytncnbfefciobcaa
end
