/- slices.Insert of one element at counts and at events: a row of the call's own. By program (gen_evi.py). -/
import Derived.Test.YtlahmcbaiebapaaMem3
import Derived.Test.YtlahmcbaiebapaaRows
import Derived.Test.YtlahmcbaiebapaaOwn
import Derived.Shelf.Spec.SlicesInsert
import Derived.Lib.AppendZerosOnto
import Derived.Laws.CopyRow
import Derived.Laws.NewBlocks
import Derived.Deep.DeepMust
namespace Go.Proofs.Ytlahmcbaiebapaa
open Go.ChangeShapes Go.WideShapes Go.ChangeAt Go.RowKit Go.Mem Go.Lib Go.Shelf
set_option linter.unusedVariables false
set_option linter.unusedSimpArgs false
theorem run_copy_rowK {P : Program} (w : World) (dT sT ty elem : TypeId) (k : Nat) (g o dLen dCap : Nat) (a : Addr) (sLen sCap m : Nat) (cur : Array Value) (t : TypeId) (cs : List Value)
    (hu : P.underlying dT = some (.slice elem)) (hs : (P.info? elem).map (·.size) = some k)
    (hg : w.heap[g]? = some (.cells cur t (0, 0))) (hm : m = Nat.min sLen dLen) (hn : cs.length = m * k)
    (hsrc : ∀ j v, cs[j]? = some v → w.cell? (a.add j) = some v) (hfit : o + cs.length ≤ cur.size) (h1 : ∀ v ∈ cs, v.oneCell' = true) :
    (Builtin.copy_ #[dT, sT] ty #[.slice (some ⟨g, o, none⟩) dLen dCap, .slice (some a) sLen sCap]).run P w =
      .ok (goInt m) (w.setRow g (cur.toList.take o ++ cs ++ cur.toList.drop (o + cs.length)).toArray) := by
  have hl := run_loadCells_list (P := P) w a cs hsrc
  have hst := run_storeCells_at P g o t cs 0 cur w hg (by simpa using hfit) h1
  cases hq : P.info? elem with
  | none => simp [hq] at hs
  | some i =>
    have hi : i.size = k := by simpa [hq] using hs
    rw [hn] at hl
    rw [Nat.add_zero] at hst
    simp [Builtin.copy_, run_underlying hu, Builtin.lenOf, Builtin.firstCells, sizeOf, typeInfo, hq, hi, ← hm, hl, hst]
theorem splice_take {α : Type} (cs vs zs : List α) (p q : Nat) (hp : p ≤ cs.length) (hv : vs.length = q) (hz : cs.length - p + q ≤ zs.length) :
    ((((cs.take p ++ zs).take p ++ vs ++ (cs.take p ++ zs).drop (p + q)).take (p + q) ++ cs.drop p ++ ((cs.take p ++ zs).take p ++ vs ++ (cs.take p ++ zs).drop (p + q)).drop (p + q + (cs.drop p).length)).take (cs.length + q)) = cs.take p ++ vs ++ cs.drop p := by
  have e1 : (cs.take p).length = p := by rw [List.length_take]; omega
  have e2 : (cs.take p ++ zs).take p = cs.take p := by
    rw [List.take_append_of_le_length (by omega), List.take_of_length_le (by omega)]
  rw [e2]
  have e3 : (cs.take p ++ vs ++ (cs.take p ++ zs).drop (p + q)).take (p + q) = cs.take p ++ vs := by
    rw [List.take_append_of_le_length (by rw [List.length_append]; omega), List.take_of_length_le (by rw [List.length_append]; omega)]
  rw [e3, List.take_append_of_le_length (by simp only [List.length_append, List.length_drop]; omega), List.take_of_length_le (by simp only [List.length_append, List.length_drop]; omega)]
theorem _root_.Go.World.ownsRow.form2 {w : World} {base e size n : Nat} {v : Value} {xs : List Value} (h : w.ownsRow base e size v n xs) : (v = .slice none 0 0 ∧ n = 0) ∨ ∃ g c, v = .slice (some ⟨g, 0, none⟩) n c ∧ n ≤ c ∧ c ≤ maxLen := by
  rcases h.2 with ⟨h1, h2⟩ | ⟨g, cap, cur, h1, h2, h3, h4, h5, _⟩
  · exact .inl ⟨h1, h2⟩
  · exact .inr ⟨g, cap, h1, h4, h5⟩
set_option maxHeartbeats 8000000 in
set_option maxRecDepth 100000 in
theorem ins_full_ct (cs vs : List Value) (b n i vb : Nat) (W : World) (hown : W.ownsRow b 108 2 (.slice (some ⟨b, 0, none⟩) n n) n cs) (hlt : i < n) (hn : n ≤ 4398046510976) (hvl : vs.length = 2) (hvs : ∀ j v, vs[j]? = some v → W.cell? ⟨vb, j, none⟩ = some v) (h1c : ∀ v ∈ cs, v.oneCell' = true) (h1v : ∀ v ∈ vs, v.oneCell' = true) :
    Calls Try.prog 102 #[.slice (some ⟨b, 0, none⟩) n n, .int .i64 i, .slice (some ⟨vb, 0, none⟩) 1 1] W fun e w' => ∃ v', e = .returned v' ∧ w'.ownsRow b 108 2 v' (n + 1) (cs.take (i * 2) ++ vs ++ cs.drop (i * 2)) ∧ W.grownBy w' (some b) := by
  have hin : i ≤ n := by omega
  have hcl : cs.length = n * 2 := hown.1
  have hcs : ∀ j v, cs[j]? = some v → W.cell? ⟨b, j, none⟩ = some v := fun j v hj => by
    have hj2 : j < n * 2 := by rw [← hcl]; exact (List.getElem?_eq_some_iff.1 hj).1
    rw [hown.cellAt j hj2]; exact hj
  have hbl : b < W.heap.size := by
    rcases hown.2 with ⟨h, _⟩ | ⟨g, cap, cur, h, _, hh, _⟩
    · cases h
    · injection h with h _ _
      injection h with h
      injection h with h
      rw [h]; exact lt_of_heap hh
  have hvw : vb < W.heap.size := block_lt_of_cell (hvs 0 _ (List.getElem?_eq_getElem (by omega)))
  obtain ⟨i0, hi0, hz0, hzs, hzb⟩ := info_parts (show (Try.prog.info? 108).map (fun i => (i.zero, i.size, i.bytes)) = some (some (.agg #[.int .i64 0, .int .i64 0]), 2, 16) by kernel_rfl)
  have hsz : (Try.prog.info? 108).map (·.size) = some 2 := by rw [hi0]; simp [hzs]
  have hz1 : ¬ ((i : Int) = (n : Int)) := by omega
  have hz3 : (n : Int) < (n : Int) + 1 := by omega
  have hkk : (n : Int) + 1 - (i : Int) = ((n + 1 - i : Nat) : Int) := by omega
  have hik : i + (n + 1 - i) = n + 1 := by omega
  have hold : (Builtin.firstCells i0.size i (.slice (some ⟨b, 0, none⟩) i n)).run Try.prog W.drew = .ok (cs.take (i * 2)).toArray W.drew := by
    rw [hzs]
    exact run_firstCells_some W.drew 2 i ⟨b, 0, none⟩ i n (cs.take (i * 2)) (by rw [List.length_take]; omega) (fun j v hj => by
      rw [add_zero_block]
      rw [List.getElem?_take] at hj
      split at hj
      · exact hcs j v hj
      · cases hj)
  obtain ⟨G, hG⟩ : ∃ G, G = grownCap W (n + 1) n 108 := ⟨_, rfl⟩
  obtain ⟨Z, hZ⟩ : ∃ Z : List Value, Z = (Builtin.zeroCells (Value.cells (.agg #[.int .i64 0, .int .i64 0])) (n + 1 - i)).toList ++ (Builtin.zeroCells (Value.cells (.agg #[.int .i64 0, .int .i64 0])) (G - (n + 1))).toList := ⟨_, rfl⟩
  obtain ⟨ROW, hROW⟩ : ∃ ROW : Array Value, ROW = (cs.take (i * 2) ++ Z).toArray := ⟨_, rfl⟩
  have hrz : ∀ ty, (Builtin.append_ #[96, 3] ty #[.slice (some ⟨b, 0, none⟩) i n, .int .i64 ((n : Int) + 1 - (i : Int))]).run Try.prog W = .ok (.slice (some ⟨W.heap.size, 0, none⟩) (n + 1) G) (W.drew.alloc (.cells ROW 108)) := fun ty => by
    have h := Lib.run_append_grow_zeros W 96 3 ty 108 i0 _ .i64 .i64 Try.underlying96 Try.underlying3 hi0 hz0 (some ⟨b, 0, none⟩) i n (cs.take (i * 2)) hold (n + 1 - i) (by omega) (by omega) (by omega) (by omega) (by rw [hzb]; omega) (by rw [hzb, hik]; exact growslice_fits (by omega) (by omega))
    rw [hik, ← hG] at h
    rw [hkk, h, hROW, hZ]
    congr 3
    apply Array.toList_inj.1
    simp [List.append_assoc]
  have hGn : n + 1 ≤ G := by rw [hG]; exact grownCap_ge W _ _ _
  have hG63 : G ≤ 9223372036854775807 := by
    have := grownCap_le_maxLen W (n + 1) n 108 (by unfold maxLen; omega)
    rw [← hG] at this
    unfold maxLen at this
    omega
  have hZl : Z.length = (G - i) * 2 := by
    rw [hZ]
    simp [Builtin.zeroCells, Value.cells]
    omega
  have hRl : ROW.toList.length = G * 2 := by
    rw [hROW]
    simp [hZl]
    omega
  obtain ⟨cur1, hc1⟩ : ∃ c : Array Value, c = (ROW.toList.take (i * 2) ++ vs ++ ROW.toList.drop (i * 2 + vs.length)).toArray := ⟨_, rfl⟩
  obtain ⟨cur2, hc2⟩ : ∃ c : Array Value, c = (cur1.toList.take ((i + 1) * 2) ++ cs.drop (i * 2) ++ cur1.toList.drop ((i + 1) * 2 + (cs.drop (i * 2)).length)).toArray := ⟨_, rfl⟩
  have hc1l : cur1.size = G * 2 := by rw [hc1]; simp only [List.size_toArray, List.length_append, List.length_take, List.length_drop, hRl, hvl]; omega
  have hdl : (cs.drop (i * 2)).length = (n - i) * 2 := by rw [List.length_drop, hcl]; omega
  have hc2l : cur2.size = G * 2 := by rw [hc2]; simp only [List.size_toArray, List.length_append, List.length_take, List.length_drop, Array.length_toList, hc1l, hcl]; omega
  have hcpA : ∀ (w : World), w.heap[W.heap.size]? = some (.cells ROW 108 (0, 0)) → (∀ k, k < W.heap.size → w.heap[k]? = W.heap[k]?) → ∀ ty dc, (Builtin.copy_ #[96, 96] ty #[.slice (some ⟨W.heap.size, i * 2, none⟩) (n + 1 - i) dc, .slice (some ⟨vb, 0, none⟩) 1 1]).run Try.prog w = .ok (goInt 1) (w.setRow W.heap.size cur1) := fun w hw hold ty dc => by
    rw [hc1]
    exact run_copy_rowK w _ _ ty 108 2 W.heap.size (i * 2) (n + 1 - i) dc ⟨vb, 0, none⟩ 1 1 1 ROW 108 vs Try.underlying96 hsz hw (by simp only [Nat.min_def]; split <;> omega) (by omega)
      (fun j v hj => by rw [add_zero_block, World.cell?_of_block (hold vb hvw)]; exact hvs j v hj) (by rw [← Array.length_toList, hRl, hvl]; omega) h1v
  have hcpB : ∀ (w : World), w.heap[W.heap.size]? = some (.cells cur1 108 (0, 0)) → (∀ k, k < W.heap.size → w.heap[k]? = W.heap[k]?) → ∀ ty dc sc, (Builtin.copy_ #[96, 96] ty #[.slice (some ⟨W.heap.size, (i + 1) * 2, none⟩) (n + 1 - (i + 1)) dc, .slice (some ⟨b, i * 2, none⟩) (n - i) sc]).run Try.prog w = .ok (goInt ((n - i : Nat) : Int)) (w.setRow W.heap.size cur2) := fun w hw hold ty dc sc => by
    rw [hc2]
    exact run_copy_rowK w _ _ ty 108 2 W.heap.size ((i + 1) * 2) (n + 1 - (i + 1)) dc ⟨b, i * 2, none⟩ (n - i) sc (n - i) cur1 108 (cs.drop (i * 2)) Try.underlying96 hsz hw (by simp only [Nat.min_def]; split <;> omega) hdl
      (fun j v hj => by rw [Addr.add_lit, World.cell?_of_block (hold b hbl)]; rw [List.getElem?_drop] at hj; exact hcs _ v hj) (by rw [hc1l, hdl]; omega) (fun v hv => h1c v (List.mem_of_mem_drop hv))
  have HFIN := Lib.hid (show cur2.toList.take ((n + 1) * 2) = cs.take (i * 2) ++ vs ++ cs.drop (i * 2) by
    have h := splice_take cs vs Z (i * 2) 2 (by omega) hvl (by rw [hcl, hZl]; omega)
    rw [hcl, show n * 2 + 2 = (n + 1) * 2 by omega] at h
    rw [← h, hc2, hc1, hROW, hvl, show (i + 1) * 2 = i * 2 + 2 by omega])
  have hw0 : ((W.alloc (.cells ROW 108)).drew).heap[W.heap.size]? = some (.cells ROW 108 (0, 0)) := heap_alloc_new W _
  have hlw : ∀ k, k < W.heap.size → ((W.alloc (.cells ROW 108)).drew).heap[k]? = W.heap[k]? := fun k hk => Below.heap_alloc W _ k hk
  have hA := hcpA ((W.alloc (.cells ROW 108)).drew) hw0 hlw 3 (G - i)
  obtain ⟨W2, hW2⟩ : ∃ W2, W2 = ((W.alloc (.cells ROW 108)).drew).setRow W.heap.size cur1 := ⟨_, rfl⟩
  have hw2 : W2.heap[W.heap.size]? = some (.cells cur1 108 (0, 0)) := by rw [hW2]; exact setRow_heap _ _ _ _ _ _ hw0
  have hlw2 : ∀ k, k < W.heap.size → W2.heap[k]? = W.heap[k]? := fun k hk => by rw [hW2, setRow_other _ _ _ _ (by omega)]; exact hlw k hk
  have hsz2 : W2.heap.size = W.heap.size + 1 := by rw [hW2]; simp [World.setRow]
  have hos2 : W2.os = W.os ∧ W2.tape = W.tape ∧ W2.output = W.output := by rw [hW2]; exact ⟨rfl, rfl, rfl⟩
  rw [← hW2] at hA
  have HB := Lib.hid (hcpB W2.drew hw2 hlw2 3)
  have HW2 := Lib.hid hw2
  have HLW2 := Lib.hid hlw2
  have HSZ2 := Lib.hid hsz2
  have HOS2 := Lib.hid hos2
  have hwi : IntKind.i64.wrap ((i : Int) + 1) = (i : Int) + 1 := by rw [IntKind.wrap_i64]; omega
  have htn : ((i : Int) + 1).toNat = i + 1 := by omega
  have hb1 : (0 : Int) ≤ (i : Int) + 1 := by omega
  have hb3 : (i : Int) ≤ (n : Int) := by omega
  have hGi : ¬ (G = i) := by omega
  have hGim : ¬ (G = i + 1) := by omega
  have hni : ¬ (n = i) := by omega
  clear hcpA hcpB hw0 hlw hW2 hw2 hlw2 hsz2 hos2 hold hc1 hc2 hROW hZ hZl hRl hG hdl hkk hik hcs hvs hi0 hz0 hzs hzb hsz h1c h1v
  go_enter Try.func102, Try.ntmps102
  go_wp2_with (at_builtin; refine Lib.wpList_append_run _ rfl _ _ _ _ rfl _ _ rfl rfl _ _ (hrz _) ?_)
  clear hA hrz
  have mixed : Try.prog.follows Departure.mixedOrders = true := rfl
  go_region_law_o (refine step_copy_runI rfl _ _ 96 96 rfl (.slice (some ⟨W.heap.size, (i + 1) * 2, none⟩) (n + 1 - (i + 1)) (G - (i + 1))) (.slice (some ⟨b, i * 2, none⟩) (n - i) (n - i)) (by simp [Act.eval, Act.put]) (by simp [Act.eval, Act.put]) (HB.out (G - (i + 1)) (n - i)) ?_)
  go_wp2
  go_ret
  have hh := setRow_heap W2.drew W.heap.size cur1 cur2 _ _ HW2.out
  refine ⟨_, rfl, ⟨by simp only [List.length_append, List.length_take, List.length_drop]; omega, Or.inr ⟨W.heap.size, G, cur2, rfl, Nat.le_of_lt hbl, hh, hGn, by unfold maxLen; omega, hc2l, HFIN.out⟩⟩, ⟨HOS2.out.1, HOS2.out.2.1, HOS2.out.2.2, ?_, fun k hk hne => ?_⟩⟩
  · have h : (W2.drew.setRow W.heap.size cur2).heap.size = W2.heap.size := by simp [World.setRow]
    rw [h, HSZ2.out]; omega
  · rw [setRow_other _ _ _ _ (by omega)]
    exact HLW2.out k hk
set_option maxHeartbeats 8000000 in
set_option maxRecDepth 100000 in
theorem ins_end_ct (base : Nat) (cs vs : List Value) (v : Value) (n vb : Nat) (W : World) (hown : W.ownsRow base 108 2 v n cs) (hn : n ≤ 4398046510976) (hbase : base ≤ W.heap.size) (hvl : vs.length = 2) (hvs : ∀ j v, vs[j]? = some v → W.cell? ⟨vb, j, none⟩ = some v) (h1v : ∀ v ∈ vs, v.oneCell' = true) :
    Calls Try.prog 102 #[v, .int .i64 n, .slice (some ⟨vb, 0, none⟩) 1 1] W fun e w' => ∃ v', e = .returned v' ∧ w'.ownsRow base 108 2 v' (n + 1) (cs ++ vs) ∧ W.grownBy w' v.ownBlock := by
  have hvw : vb < W.heap.size := block_lt_of_cell (hvs 0 _ (List.getElem?_eq_getElem (by omega)))
  have hca : CellsAt W (some ⟨vb, 0, none⟩) vs := fun _ => ⟨_, rfl, hvw, fun j u hj => by rw [add_zero_block]; exact hvs j u hj⟩
  have HCA := Lib.hid hca
  clear hvs hca
  rcases hown.form2 with ⟨rfl, rfl⟩ | ⟨g, c, rfl, hnc, hcm⟩
  · go_enter Try.func102, Try.ntmps102
    go_wp2_with (at_builtin; go_must (refine wpList_append_cells rfl _ _ 96 rfl base 108 (.agg #[.int .i64 0, .int .i64 0]) 2 16 Try.underlying96 (by kernel_rfl) rfl (by decide) _ 0 cs rfl hown (some ⟨vb, 0, none⟩) 1 1 vs rfl (by omega) HCA.out h1v (by unfold maxLen; omega) (by omega) (by omega) ?_); intro v3 w3 hown3 hg3 hat3; have HO3 := Lib.hid hown3; have HG3 := Lib.hid hg3; clear hown3 hg3 hat3)
    go_ret
    exact ⟨_, rfl, HO3.out, HG3.out⟩
  · by_cases hcn : c = n
    · subst hcn
      go_enter Try.func102, Try.ntmps102
      go_wp2_with (at_builtin; go_must (refine wpList_append_cells rfl _ _ 96 rfl base 108 (.agg #[.int .i64 0, .int .i64 0]) 2 16 Try.underlying96 (by kernel_rfl) rfl (by decide) _ c cs rfl hown (some ⟨vb, 0, none⟩) 1 1 vs rfl (by omega) HCA.out h1v (by unfold maxLen; omega) (by omega) (by omega) ?_); intro v3 w3 hown3 hg3 hat3; have HO3 := Lib.hid hown3; have HG3 := Lib.hid hg3; clear hown3 hg3 hat3)
      go_ret
      exact ⟨_, rfl, HO3.out, HG3.out⟩
    · have hcn2 : ¬ (n = c) := fun e => hcn e.symm
      go_enter Try.func102, Try.ntmps102
      go_wp2_with (at_builtin; go_must (refine wpList_append_cells rfl _ _ 96 rfl base 108 (.agg #[.int .i64 0, .int .i64 0]) 2 16 Try.underlying96 (by kernel_rfl) rfl (by decide) _ n cs rfl hown (some ⟨vb, 0, none⟩) 1 1 vs rfl (by omega) HCA.out h1v (by unfold maxLen; omega) (by omega) (by omega) ?_); intro v3 w3 hown3 hg3 hat3; have HO3 := Lib.hid hown3; have HG3 := Lib.hid hg3; clear hown3 hg3 hat3)
      go_ret
      exact ⟨_, rfl, HO3.out, HG3.out⟩
set_option maxHeartbeats 8000000 in
set_option maxRecDepth 100000 in
theorem ins_room_ct (base : Nat) (cs vs : List Value) (g n c i vb : Nat) (cur : Array Value) (W : World) (hcur : W.heap[g]? = some (.cells cur 108 (0, 0))) (hcz : cur.size = c * 2) (hct : cur.toList.take (n * 2) = cs) (hcl : cs.length = n * 2) (hlt : i < n) (hnc : n + 1 ≤ c) (hc63 : c ≤ 9223372036854775807) (hn : n ≤ 4398046510976) (hvl : vs.length = 2) (hvh : W.heap[vb]? = some (.cells vs.toArray 108 (0, 0))) (hne : vb ≠ g) (h1c : ∀ v ∈ cs, v.oneCell' = true) (h1v : ∀ v ∈ vs, v.oneCell' = true) :
    Calls Try.prog 102 #[.slice (some ⟨g, 0, none⟩) n c, .int .i64 i, .slice (some ⟨vb, 0, none⟩) 1 1] W fun e w' => ∃ cur' : Array Value, e = .returned (.slice (some ⟨g, 0, none⟩) (n + 1) c) ∧ w'.heap[g]? = some (.cells cur' 108 (0, 0)) ∧ cur'.size = c * 2 ∧ cur'.toList.take ((n + 1) * 2) = cs.take (i * 2) ++ vs ++ cs.drop (i * 2) ∧ W.grownBy w' (some g) := by
  have hgl : g < W.heap.size := lt_of_heap hcur
  have hvw : vb < W.heap.size := lt_of_heap hvh
  have hcs : ∀ j v, cs[j]? = some v → W.cell? ⟨g, j, none⟩ = some v := fun j v hj => by
    rw [cell_of_row _ _ j _ _ _ hcur]
    rw [← hct, List.getElem?_take] at hj
    split at hj
    · rw [← Array.getElem?_toList]; exact hj
    · cases hj
  have hvs : ∀ j v, vs[j]? = some v → W.cell? ⟨vb, j, none⟩ = some v := fun j v hj => by
    rw [cell_of_row _ _ j _ _ _ hvh]; simpa using hj
  obtain ⟨i0, hi0, hz0, hzs, hzb⟩ := info_parts (show (Try.prog.info? 108).map (fun i => (i.zero, i.size, i.bytes)) = some (some (.agg #[.int .i64 0, .int .i64 0]), 2, 16) by kernel_rfl)
  have hsz : (Try.prog.info? 108).map (·.size) = some 2 := by rw [hi0]; simp [hzs]
  have hov : ∀ lb cb, (callFunc 124 #[.slice (some ⟨vb, 0, none⟩) 1 1, .slice (some ⟨g, (i + 1) * 2, none⟩) lb cb]).run Try.prog W = .ok (.value (.bool false)) W := fun lb cb => by
    rw [run_callFunc_extern Try.func124 (by kernel_rfl) (by kernel_rfl) (by kernel_rfl) (e := Extern.SlicesOverlaps.overlaps #[96, 96] #[4]) (by kernel_rfl),
      Lib.run_overlaps_apart W 96 4 108 Try.underlying96 2 Try.sizeOf108 ⟨vb, 0, none⟩ ⟨g, (i + 1) * 2, none⟩ 1 1 lb cb hne 108 108 2 (c * 2) (by simp [World.shape?, hvh, hvl]) (by simp [World.shape?, hcur, hcz]) (by omega) (by simp [World.frozen?, hvh]) (by simp [World.frozen?, hvh])]
    rfl
  have hdl : (cs.drop (i * 2)).length = (n - i) * 2 := by rw [List.length_drop, hcl]; omega
  obtain ⟨cur1, hc1⟩ : ∃ q : Array Value, q = (cur.toList.take ((i + 1) * 2) ++ cs.drop (i * 2) ++ cur.toList.drop ((i + 1) * 2 + (cs.drop (i * 2)).length)).toArray := ⟨_, rfl⟩
  obtain ⟨cur2, hc2⟩ : ∃ q : Array Value, q = (cur1.toList.take (i * 2) ++ vs ++ cur1.toList.drop (i * 2 + vs.length)).toArray := ⟨_, rfl⟩
  have hc1l : cur1.size = c * 2 := by rw [hc1]; simp only [List.size_toArray, List.length_append, List.length_take, List.length_drop, Array.length_toList, hcz, hcl]; omega
  have hc2l : cur2.size = c * 2 := by rw [hc2]; simp only [List.size_toArray, List.length_append, List.length_take, List.length_drop, Array.length_toList, hc1l, hvl]; omega
  have hcpA : ∀ ty dc sc, (Builtin.copy_ #[96, 96] ty #[.slice (some ⟨g, (i + 1) * 2, none⟩) (n + 1 - (i + 1)) dc, .slice (some ⟨g, i * 2, none⟩) (n + 1 - i) sc]).run Try.prog W.drew = .ok (goInt ((n - i : Nat) : Int)) (W.drew.setRow g cur1) := fun ty dc sc => by
    rw [hc1]
    exact run_copy_rowK W.drew _ _ ty 108 2 g ((i + 1) * 2) (n + 1 - (i + 1)) dc ⟨g, i * 2, none⟩ (n + 1 - i) sc (n - i) cur 108 (cs.drop (i * 2)) Try.underlying96 hsz hcur (by simp only [Nat.min_def]; split <;> omega) hdl
      (fun j v hj => by rw [Addr.add_lit]; rw [List.getElem?_drop] at hj; exact hcs _ v hj) (by rw [hcz, hdl]; omega) (fun v hv => h1c v (List.mem_of_mem_drop hv))
  have hcpB : ∀ (w : World), w.heap[g]? = some (.cells cur1 108 (0, 0)) → w.heap[vb]? = W.heap[vb]? → ∀ ty dc, (Builtin.copy_ #[96, 96] ty #[.slice (some ⟨g, i * 2, none⟩) (n + 1 - i) dc, .slice (some ⟨vb, 0, none⟩) 1 1]).run Try.prog w = .ok (goInt 1) (w.setRow g cur2) := fun w hw hold ty dc => by
    rw [hc2]
    exact run_copy_rowK w _ _ ty 108 2 g (i * 2) (n + 1 - i) dc ⟨vb, 0, none⟩ 1 1 1 cur1 108 vs Try.underlying96 hsz hw (by simp only [Nat.min_def]; split <;> omega) (by omega)
      (fun j v hj => by rw [add_zero_block, World.cell?_of_block hold]; exact hvs j v hj) (by rw [hc1l, hvl]; omega) h1v
  have HFIN := Lib.hid (show cur2.toList.take ((n + 1) * 2) = cs.take (i * 2) ++ vs ++ cs.drop (i * 2) by
    have e1 : cur1.toList.take (i * 2) = cs.take (i * 2) := by
      rw [hc1, List.toList_toArray, List.append_assoc, List.take_append_of_le_length (by rw [List.length_take, Array.length_toList, hcz]; omega), List.take_take, Nat.min_eq_left (by omega), ← hct, List.take_take, Nat.min_eq_left (by omega)]
    have e2 : cur1.toList.drop (i * 2 + 2) = cs.drop (i * 2) ++ cur.toList.drop ((i + 1) * 2 + (cs.drop (i * 2)).length) := by
      have hl : (cur.toList.take ((i + 1) * 2)).length = i * 2 + 2 := by rw [List.length_take, Array.length_toList, hcz]; omega
      rw [hc1, List.toList_toArray, List.append_assoc, List.drop_append_of_le_length (by rw [hl]; omega), List.drop_of_length_le (by rw [hl]; omega), List.nil_append]
    rw [hc2, List.toList_toArray, hvl, e1, e2, ← List.append_assoc, List.take_append_of_le_length (by simp only [List.length_append, List.length_take, List.length_drop, hvl, hcl]; omega), List.take_of_length_le (by simp only [List.length_append, List.length_take, List.length_drop, hvl, hcl]; omega)])
  obtain ⟨W1, hW1⟩ : ∃ q, q = W.drew.setRow g cur1 := ⟨_, rfl⟩
  have hw1 : W1.heap[g]? = some (.cells cur1 108 (0, 0)) := by rw [hW1]; exact setRow_heap _ _ _ _ _ _ hcur
  have ho1 : ∀ k, k ≠ g → W1.heap[k]? = W.heap[k]? := fun k hk => by rw [hW1, setRow_other _ _ _ _ hk]; rfl
  have hsz1 : W1.heap.size = W.heap.size := by rw [hW1]; simp [World.setRow]
  have hos1 : W1.os = W.os ∧ W1.tape = W.tape ∧ W1.output = W.output := by rw [hW1]; exact ⟨rfl, rfl, rfl⟩
  rw [← hW1] at hcpA
  have HA := Lib.hid hcpA
  have HB := Lib.hid (hcpB W1 hw1 (ho1 vb hne))
  have HW1 := Lib.hid hw1
  have HO1 := Lib.hid ho1
  have HSZ1 := Lib.hid hsz1
  have HOS1 := Lib.hid hos1
  have hz1 : ¬ ((i : Int) = (n : Int)) := by omega
  have hz3 : ¬ ((c : Int) < (n : Int) + 1) := by omega
  have hwi : IntKind.i64.wrap ((i : Int) + 1) = (i : Int) + 1 := by rw [IntKind.wrap_i64]; omega
  have hwn : IntKind.i64.wrap ((n : Int) + 1) = (n : Int) + 1 := by rw [IntKind.wrap_i64]; omega
  have htn : ((i : Int) + 1).toNat = i + 1 := by omega
  have htm : ((n : Int) + 1).toNat = n + 1 := by omega
  have hb1 : (0 : Int) ≤ (i : Int) + 1 := by omega
  have hb2 : (0 : Int) ≤ (n : Int) + 1 := by omega
  have hb3 : (i : Int) ≤ (n : Int) := by omega
  have hb4 : (i : Int) ≤ (n : Int) + 1 := by omega
  have hb5 : (i : Int) + 1 ≤ (n : Int) + 1 := by omega
  have hb6 : (n : Int) + 1 ≤ (c : Int) := by omega
  have hci : ¬ (c = i) := by omega
  have hci1 : ¬ (c = i + 1) := by omega
  have hin : i ≤ n := by omega
  clear hcpA hcpB hW1 hw1 ho1 hsz1 hos1 hc1 hc2 hdl hcs hvs hi0 hz0 hzs hzb hsz h1c h1v hct hcz hcur hvh
  go_enter Try.func102, Try.ntmps102
  go_wp2_with (simp only [hov])
  have mixed : Try.prog.follows Departure.mixedOrders = true := rfl
  go_region_law_o (refine step_copy_runI rfl _ _ 96 96 rfl (.slice (some ⟨g, (i + 1) * 2, none⟩) (n + 1 - (i + 1)) (c - (i + 1))) (.slice (some ⟨g, i * 2, none⟩) (n + 1 - i) (c - i)) (by simp [Act.eval, Act.put]) (by simp [Act.eval, Act.put]) (HA.out _ (c - (i + 1)) (c - i)) ?_)
  have hB := HB.out 3 (c - i)
  go_wp2
  go_ret
  refine ⟨cur2, rfl, setRow_heap _ _ _ _ _ _ HW1.out, hc2l, HFIN.out, ⟨HOS1.out.1, HOS1.out.2.1, HOS1.out.2.2, ?_, fun k hk hne2 => ?_⟩⟩
  · have h : (W1.setRow g cur2).heap.size = W1.heap.size := by simp [World.setRow]
    rw [h, HSZ1.out]; exact Nat.le_refl _
  · have hkg : k ≠ g := fun e => hne2 (by rw [e])
    rw [setRow_other _ _ _ _ hkg]
    exact HO1.out k hkg
theorem ins_ct (base : Nat) (cs vs : List Value) (v : Value) (n i vb : Nat) (W : World) (hown : W.ownsRow base 108 2 v n cs) (hin : i ≤ n) (hn : n ≤ 4398046510976) (hbase : base ≤ W.heap.size) (hvl : vs.length = 2) (hvh : W.heap[vb]? = some (.cells vs.toArray 108 (0, 0))) (hne : ∀ g, v.ownBlock = some g → vb ≠ g) (h1c : ∀ v ∈ cs, v.oneCell' = true) (h1v : ∀ v ∈ vs, v.oneCell' = true) :
    Calls Try.prog 102 #[v, .int .i64 i, .slice (some ⟨vb, 0, none⟩) 1 1] W fun e w' => ∃ v', e = .returned v' ∧ w'.ownsRow base 108 2 v' (n + 1) (cs.take (i * 2) ++ vs ++ cs.drop (i * 2)) ∧ W.grownBy w' v.ownBlock := by
  have hvs : ∀ j v, vs[j]? = some v → W.cell? ⟨vb, j, none⟩ = some v := fun j v hj => by
    rw [cell_of_row _ _ j _ _ _ hvh]; simpa using hj
  by_cases hie : i = n
  · subst hie
    have hcl : cs.length = i * 2 := hown.1
    rw [List.take_of_length_le (by omega), List.drop_of_length_le (by omega), List.append_nil]
    exact ins_end_ct base cs vs v i vb W hown hn hbase hvl hvs h1v
  · rcases hown.2 with ⟨rfl, h0⟩ | ⟨g, cap, cur, rfl, hbg, hh, hnc, hcm, hcz, htk⟩
    · omega
    · by_cases hcap : cap = n
      · subst hcap
        refine (ins_full_ct cs vs g cap i vb W (own_base hown (fun g' hg' => by have e : g = g' := by simpa [Value.ownBlock] using hg'
                                                                                omega)) (by omega) hn hvl hvs h1c h1v).mono ?_
        rintro e w' ⟨v', e1, e2, e3⟩
        exact ⟨v', e1, own_lower e2 hbg, e3⟩
      · refine (ins_room_ct base cs vs g n cap i vb cur W hh hcz htk hown.1 (by omega) (by omega) (by unfold maxLen at hcm; omega) hn hvl hvh (hne g rfl) h1c h1v).mono ?_
        rintro e w' ⟨cur', rfl, e2, e3, e4, e5⟩
        exact ⟨_, rfl, ⟨by simp only [List.length_append, List.length_take, List.length_drop, hvl, hown.1]; omega, Or.inr ⟨g, cap, cur', rfl, hbg, e2, by omega, hcm, e3, e4⟩⟩, e5⟩
set_option maxHeartbeats 8000000 in
set_option maxRecDepth 100000 in
theorem ins_full_ev (cs vs : List Value) (b n i vb : Nat) (W : World) (hown : W.ownsRow b 99 4 (.slice (some ⟨b, 0, none⟩) n n) n cs) (hlt : i < n) (hn : n ≤ 4398046510976) (hvl : vs.length = 4) (hvs : ∀ j v, vs[j]? = some v → W.cell? ⟨vb, j, none⟩ = some v) (h1c : ∀ v ∈ cs, v.oneCell' = true) (h1v : ∀ v ∈ vs, v.oneCell' = true) :
    Calls Try.prog 107 #[.slice (some ⟨b, 0, none⟩) n n, .int .i64 i, .slice (some ⟨vb, 0, none⟩) 1 1] W fun e w' => ∃ v', e = .returned v' ∧ w'.ownsRow b 99 4 v' (n + 1) (cs.take (i * 4) ++ vs ++ cs.drop (i * 4)) ∧ W.grownBy w' (some b) := by
  have hin : i ≤ n := by omega
  have hcl : cs.length = n * 4 := hown.1
  have hcs : ∀ j v, cs[j]? = some v → W.cell? ⟨b, j, none⟩ = some v := fun j v hj => by
    have hj2 : j < n * 4 := by rw [← hcl]; exact (List.getElem?_eq_some_iff.1 hj).1
    rw [hown.cellAt j hj2]; exact hj
  have hbl : b < W.heap.size := by
    rcases hown.2 with ⟨h, _⟩ | ⟨g, cap, cur, h, _, hh, _⟩
    · cases h
    · injection h with h _ _
      injection h with h
      injection h with h
      rw [h]; exact lt_of_heap hh
  have hvw : vb < W.heap.size := block_lt_of_cell (hvs 0 _ (List.getElem?_eq_getElem (by omega)))
  obtain ⟨i0, hi0, hz0, hzs, hzb⟩ := info_parts (show (Try.prog.info? 99).map (fun i => (i.zero, i.size, i.bytes)) = some (some (.agg #[.int .i64 0, .int .i64 0, .int .i64 0, .int .i64 0]), 4, 32) by kernel_rfl)
  have hsz : (Try.prog.info? 99).map (·.size) = some 4 := by rw [hi0]; simp [hzs]
  have hz1 : ¬ ((i : Int) = (n : Int)) := by omega
  have hz3 : (n : Int) < (n : Int) + 1 := by omega
  have hkk : (n : Int) + 1 - (i : Int) = ((n + 1 - i : Nat) : Int) := by omega
  have hik : i + (n + 1 - i) = n + 1 := by omega
  have hold : (Builtin.firstCells i0.size i (.slice (some ⟨b, 0, none⟩) i n)).run Try.prog W.drew = .ok (cs.take (i * 4)).toArray W.drew := by
    rw [hzs]
    exact run_firstCells_some W.drew 4 i ⟨b, 0, none⟩ i n (cs.take (i * 4)) (by rw [List.length_take]; omega) (fun j v hj => by
      rw [add_zero_block]
      rw [List.getElem?_take] at hj
      split at hj
      · exact hcs j v hj
      · cases hj)
  obtain ⟨G, hG⟩ : ∃ G, G = grownCap W (n + 1) n 99 := ⟨_, rfl⟩
  obtain ⟨Z, hZ⟩ : ∃ Z : List Value, Z = (Builtin.zeroCells (Value.cells (.agg #[.int .i64 0, .int .i64 0, .int .i64 0, .int .i64 0])) (n + 1 - i)).toList ++ (Builtin.zeroCells (Value.cells (.agg #[.int .i64 0, .int .i64 0, .int .i64 0, .int .i64 0])) (G - (n + 1))).toList := ⟨_, rfl⟩
  obtain ⟨ROW, hROW⟩ : ∃ ROW : Array Value, ROW = (cs.take (i * 4) ++ Z).toArray := ⟨_, rfl⟩
  have hrz : ∀ ty, (Builtin.append_ #[93, 3] ty #[.slice (some ⟨b, 0, none⟩) i n, .int .i64 ((n : Int) + 1 - (i : Int))]).run Try.prog W = .ok (.slice (some ⟨W.heap.size, 0, none⟩) (n + 1) G) (W.drew.alloc (.cells ROW 99)) := fun ty => by
    have h := Lib.run_append_grow_zeros W 93 3 ty 99 i0 _ .i64 .i64 Try.underlying93 Try.underlying3 hi0 hz0 (some ⟨b, 0, none⟩) i n (cs.take (i * 4)) hold (n + 1 - i) (by omega) (by omega) (by omega) (by omega) (by rw [hzb]; omega) (by rw [hzb, hik]; exact growslice_fits (by omega) (by omega))
    rw [hik, ← hG] at h
    rw [hkk, h, hROW, hZ]
    congr 3
    apply Array.toList_inj.1
    simp [List.append_assoc]
  have hGn : n + 1 ≤ G := by rw [hG]; exact grownCap_ge W _ _ _
  have hG63 : G ≤ 9223372036854775807 := by
    have := grownCap_le_maxLen W (n + 1) n 99 (by unfold maxLen; omega)
    rw [← hG] at this
    unfold maxLen at this
    omega
  have hZl : Z.length = (G - i) * 4 := by
    rw [hZ]
    simp [Builtin.zeroCells, Value.cells]
    omega
  have hRl : ROW.toList.length = G * 4 := by
    rw [hROW]
    simp [hZl]
    omega
  obtain ⟨cur1, hc1⟩ : ∃ c : Array Value, c = (ROW.toList.take (i * 4) ++ vs ++ ROW.toList.drop (i * 4 + vs.length)).toArray := ⟨_, rfl⟩
  obtain ⟨cur2, hc2⟩ : ∃ c : Array Value, c = (cur1.toList.take ((i + 1) * 4) ++ cs.drop (i * 4) ++ cur1.toList.drop ((i + 1) * 4 + (cs.drop (i * 4)).length)).toArray := ⟨_, rfl⟩
  have hc1l : cur1.size = G * 4 := by rw [hc1]; simp only [List.size_toArray, List.length_append, List.length_take, List.length_drop, hRl, hvl]; omega
  have hdl : (cs.drop (i * 4)).length = (n - i) * 4 := by rw [List.length_drop, hcl]; omega
  have hc2l : cur2.size = G * 4 := by rw [hc2]; simp only [List.size_toArray, List.length_append, List.length_take, List.length_drop, Array.length_toList, hc1l, hcl]; omega
  have hcpA : ∀ (w : World), w.heap[W.heap.size]? = some (.cells ROW 99 (0, 0)) → (∀ k, k < W.heap.size → w.heap[k]? = W.heap[k]?) → ∀ ty dc, (Builtin.copy_ #[93, 93] ty #[.slice (some ⟨W.heap.size, i * 4, none⟩) (n + 1 - i) dc, .slice (some ⟨vb, 0, none⟩) 1 1]).run Try.prog w = .ok (goInt 1) (w.setRow W.heap.size cur1) := fun w hw hold ty dc => by
    rw [hc1]
    exact run_copy_rowK w _ _ ty 99 4 W.heap.size (i * 4) (n + 1 - i) dc ⟨vb, 0, none⟩ 1 1 1 ROW 99 vs Try.underlying93 hsz hw (by simp only [Nat.min_def]; split <;> omega) (by omega)
      (fun j v hj => by rw [add_zero_block, World.cell?_of_block (hold vb hvw)]; exact hvs j v hj) (by rw [← Array.length_toList, hRl, hvl]; omega) h1v
  have hcpB : ∀ (w : World), w.heap[W.heap.size]? = some (.cells cur1 99 (0, 0)) → (∀ k, k < W.heap.size → w.heap[k]? = W.heap[k]?) → ∀ ty dc sc, (Builtin.copy_ #[93, 93] ty #[.slice (some ⟨W.heap.size, (i + 1) * 4, none⟩) (n + 1 - (i + 1)) dc, .slice (some ⟨b, i * 4, none⟩) (n - i) sc]).run Try.prog w = .ok (goInt ((n - i : Nat) : Int)) (w.setRow W.heap.size cur2) := fun w hw hold ty dc sc => by
    rw [hc2]
    exact run_copy_rowK w _ _ ty 99 4 W.heap.size ((i + 1) * 4) (n + 1 - (i + 1)) dc ⟨b, i * 4, none⟩ (n - i) sc (n - i) cur1 99 (cs.drop (i * 4)) Try.underlying93 hsz hw (by simp only [Nat.min_def]; split <;> omega) hdl
      (fun j v hj => by rw [Addr.add_lit, World.cell?_of_block (hold b hbl)]; rw [List.getElem?_drop] at hj; exact hcs _ v hj) (by rw [hc1l, hdl]; omega) (fun v hv => h1c v (List.mem_of_mem_drop hv))
  have HFIN := Lib.hid (show cur2.toList.take ((n + 1) * 4) = cs.take (i * 4) ++ vs ++ cs.drop (i * 4) by
    have h := splice_take cs vs Z (i * 4) 4 (by omega) hvl (by rw [hcl, hZl]; omega)
    rw [hcl, show n * 4 + 4 = (n + 1) * 4 by omega] at h
    rw [← h, hc2, hc1, hROW, hvl, show (i + 1) * 4 = i * 4 + 4 by omega])
  have hw0 : ((W.alloc (.cells ROW 99)).drew).heap[W.heap.size]? = some (.cells ROW 99 (0, 0)) := heap_alloc_new W _
  have hlw : ∀ k, k < W.heap.size → ((W.alloc (.cells ROW 99)).drew).heap[k]? = W.heap[k]? := fun k hk => Below.heap_alloc W _ k hk
  have hA := hcpA ((W.alloc (.cells ROW 99)).drew) hw0 hlw 3 (G - i)
  obtain ⟨W2, hW2⟩ : ∃ W2, W2 = ((W.alloc (.cells ROW 99)).drew).setRow W.heap.size cur1 := ⟨_, rfl⟩
  have hw2 : W2.heap[W.heap.size]? = some (.cells cur1 99 (0, 0)) := by rw [hW2]; exact setRow_heap _ _ _ _ _ _ hw0
  have hlw2 : ∀ k, k < W.heap.size → W2.heap[k]? = W.heap[k]? := fun k hk => by rw [hW2, setRow_other _ _ _ _ (by omega)]; exact hlw k hk
  have hsz2 : W2.heap.size = W.heap.size + 1 := by rw [hW2]; simp [World.setRow]
  have hos2 : W2.os = W.os ∧ W2.tape = W.tape ∧ W2.output = W.output := by rw [hW2]; exact ⟨rfl, rfl, rfl⟩
  rw [← hW2] at hA
  have HB := Lib.hid (hcpB W2.drew hw2 hlw2 3)
  have HW2 := Lib.hid hw2
  have HLW2 := Lib.hid hlw2
  have HSZ2 := Lib.hid hsz2
  have HOS2 := Lib.hid hos2
  have hwi : IntKind.i64.wrap ((i : Int) + 1) = (i : Int) + 1 := by rw [IntKind.wrap_i64]; omega
  have htn : ((i : Int) + 1).toNat = i + 1 := by omega
  have hb1 : (0 : Int) ≤ (i : Int) + 1 := by omega
  have hb3 : (i : Int) ≤ (n : Int) := by omega
  have hGi : ¬ (G = i) := by omega
  have hGim : ¬ (G = i + 1) := by omega
  have hni : ¬ (n = i) := by omega
  clear hcpA hcpB hw0 hlw hW2 hw2 hlw2 hsz2 hos2 hold hc1 hc2 hROW hZ hZl hRl hG hdl hkk hik hcs hvs hi0 hz0 hzs hzb hsz h1c h1v
  go_enter Try.func107, Try.ntmps107
  go_wp2_with (at_builtin; refine Lib.wpList_append_run _ rfl _ _ _ _ rfl _ _ rfl rfl _ _ (hrz _) ?_)
  clear hA hrz
  have mixed : Try.prog.follows Departure.mixedOrders = true := rfl
  go_region_law_o (refine step_copy_runI rfl _ _ 93 93 rfl (.slice (some ⟨W.heap.size, (i + 1) * 4, none⟩) (n + 1 - (i + 1)) (G - (i + 1))) (.slice (some ⟨b, i * 4, none⟩) (n - i) (n - i)) (by simp [Act.eval, Act.put]) (by simp [Act.eval, Act.put]) (HB.out (G - (i + 1)) (n - i)) ?_)
  go_wp2
  go_ret
  have hh := setRow_heap W2.drew W.heap.size cur1 cur2 _ _ HW2.out
  refine ⟨_, rfl, ⟨by simp only [List.length_append, List.length_take, List.length_drop]; omega, Or.inr ⟨W.heap.size, G, cur2, rfl, Nat.le_of_lt hbl, hh, hGn, by unfold maxLen; omega, hc2l, HFIN.out⟩⟩, ⟨HOS2.out.1, HOS2.out.2.1, HOS2.out.2.2, ?_, fun k hk hne => ?_⟩⟩
  · have h : (W2.drew.setRow W.heap.size cur2).heap.size = W2.heap.size := by simp [World.setRow]
    rw [h, HSZ2.out]; omega
  · rw [setRow_other _ _ _ _ (by omega)]
    exact HLW2.out k hk
set_option maxHeartbeats 8000000 in
set_option maxRecDepth 100000 in
theorem ins_end_ev (base : Nat) (cs vs : List Value) (v : Value) (n vb : Nat) (W : World) (hown : W.ownsRow base 99 4 v n cs) (hn : n ≤ 4398046510976) (hbase : base ≤ W.heap.size) (hvl : vs.length = 4) (hvs : ∀ j v, vs[j]? = some v → W.cell? ⟨vb, j, none⟩ = some v) (h1v : ∀ v ∈ vs, v.oneCell' = true) :
    Calls Try.prog 107 #[v, .int .i64 n, .slice (some ⟨vb, 0, none⟩) 1 1] W fun e w' => ∃ v', e = .returned v' ∧ w'.ownsRow base 99 4 v' (n + 1) (cs ++ vs) ∧ W.grownBy w' v.ownBlock := by
  have hvw : vb < W.heap.size := block_lt_of_cell (hvs 0 _ (List.getElem?_eq_getElem (by omega)))
  have hca : CellsAt W (some ⟨vb, 0, none⟩) vs := fun _ => ⟨_, rfl, hvw, fun j u hj => by rw [add_zero_block]; exact hvs j u hj⟩
  have HCA := Lib.hid hca
  clear hvs hca
  rcases hown.form2 with ⟨rfl, rfl⟩ | ⟨g, c, rfl, hnc, hcm⟩
  · go_enter Try.func107, Try.ntmps107
    go_wp2_with (at_builtin; go_must (refine wpList_append_cells rfl _ _ 93 rfl base 99 (.agg #[.int .i64 0, .int .i64 0, .int .i64 0, .int .i64 0]) 4 32 Try.underlying93 (by kernel_rfl) rfl (by decide) _ 0 cs rfl hown (some ⟨vb, 0, none⟩) 1 1 vs rfl (by omega) HCA.out h1v (by unfold maxLen; omega) (by omega) (by omega) ?_); intro v3 w3 hown3 hg3 hat3; have HO3 := Lib.hid hown3; have HG3 := Lib.hid hg3; clear hown3 hg3 hat3)
    go_ret
    exact ⟨_, rfl, HO3.out, HG3.out⟩
  · by_cases hcn : c = n
    · subst hcn
      go_enter Try.func107, Try.ntmps107
      go_wp2_with (at_builtin; go_must (refine wpList_append_cells rfl _ _ 93 rfl base 99 (.agg #[.int .i64 0, .int .i64 0, .int .i64 0, .int .i64 0]) 4 32 Try.underlying93 (by kernel_rfl) rfl (by decide) _ c cs rfl hown (some ⟨vb, 0, none⟩) 1 1 vs rfl (by omega) HCA.out h1v (by unfold maxLen; omega) (by omega) (by omega) ?_); intro v3 w3 hown3 hg3 hat3; have HO3 := Lib.hid hown3; have HG3 := Lib.hid hg3; clear hown3 hg3 hat3)
      go_ret
      exact ⟨_, rfl, HO3.out, HG3.out⟩
    · have hcn2 : ¬ (n = c) := fun e => hcn e.symm
      go_enter Try.func107, Try.ntmps107
      go_wp2_with (at_builtin; go_must (refine wpList_append_cells rfl _ _ 93 rfl base 99 (.agg #[.int .i64 0, .int .i64 0, .int .i64 0, .int .i64 0]) 4 32 Try.underlying93 (by kernel_rfl) rfl (by decide) _ n cs rfl hown (some ⟨vb, 0, none⟩) 1 1 vs rfl (by omega) HCA.out h1v (by unfold maxLen; omega) (by omega) (by omega) ?_); intro v3 w3 hown3 hg3 hat3; have HO3 := Lib.hid hown3; have HG3 := Lib.hid hg3; clear hown3 hg3 hat3)
      go_ret
      exact ⟨_, rfl, HO3.out, HG3.out⟩
set_option maxHeartbeats 8000000 in
set_option maxRecDepth 100000 in
theorem ins_room_ev (base : Nat) (cs vs : List Value) (g n c i vb : Nat) (cur : Array Value) (W : World) (hcur : W.heap[g]? = some (.cells cur 99 (0, 0))) (hcz : cur.size = c * 4) (hct : cur.toList.take (n * 4) = cs) (hcl : cs.length = n * 4) (hlt : i < n) (hnc : n + 1 ≤ c) (hc63 : c ≤ 9223372036854775807) (hn : n ≤ 4398046510976) (hvl : vs.length = 4) (hvh : W.heap[vb]? = some (.cells vs.toArray 99 (0, 0))) (hne : vb ≠ g) (h1c : ∀ v ∈ cs, v.oneCell' = true) (h1v : ∀ v ∈ vs, v.oneCell' = true) :
    Calls Try.prog 107 #[.slice (some ⟨g, 0, none⟩) n c, .int .i64 i, .slice (some ⟨vb, 0, none⟩) 1 1] W fun e w' => ∃ cur' : Array Value, e = .returned (.slice (some ⟨g, 0, none⟩) (n + 1) c) ∧ w'.heap[g]? = some (.cells cur' 99 (0, 0)) ∧ cur'.size = c * 4 ∧ cur'.toList.take ((n + 1) * 4) = cs.take (i * 4) ++ vs ++ cs.drop (i * 4) ∧ W.grownBy w' (some g) := by
  have hgl : g < W.heap.size := lt_of_heap hcur
  have hvw : vb < W.heap.size := lt_of_heap hvh
  have hcs : ∀ j v, cs[j]? = some v → W.cell? ⟨g, j, none⟩ = some v := fun j v hj => by
    rw [cell_of_row _ _ j _ _ _ hcur]
    rw [← hct, List.getElem?_take] at hj
    split at hj
    · rw [← Array.getElem?_toList]; exact hj
    · cases hj
  have hvs : ∀ j v, vs[j]? = some v → W.cell? ⟨vb, j, none⟩ = some v := fun j v hj => by
    rw [cell_of_row _ _ j _ _ _ hvh]; simpa using hj
  obtain ⟨i0, hi0, hz0, hzs, hzb⟩ := info_parts (show (Try.prog.info? 99).map (fun i => (i.zero, i.size, i.bytes)) = some (some (.agg #[.int .i64 0, .int .i64 0, .int .i64 0, .int .i64 0]), 4, 32) by kernel_rfl)
  have hsz : (Try.prog.info? 99).map (·.size) = some 4 := by rw [hi0]; simp [hzs]
  have hov : ∀ lb cb, (callFunc 128 #[.slice (some ⟨vb, 0, none⟩) 1 1, .slice (some ⟨g, (i + 1) * 4, none⟩) lb cb]).run Try.prog W = .ok (.value (.bool false)) W := fun lb cb => by
    rw [run_callFunc_extern Try.func128 (by kernel_rfl) (by kernel_rfl) (by kernel_rfl) (e := Extern.SlicesOverlaps.overlaps #[93, 93] #[4]) (by kernel_rfl),
      Lib.run_overlaps_apart W 93 4 99 Try.underlying93 4 Try.sizeOf99 ⟨vb, 0, none⟩ ⟨g, (i + 1) * 4, none⟩ 1 1 lb cb hne 99 99 4 (c * 4) (by simp [World.shape?, hvh, hvl]) (by simp [World.shape?, hcur, hcz]) (by omega) (by simp [World.frozen?, hvh]) (by simp [World.frozen?, hvh])]
    rfl
  have hdl : (cs.drop (i * 4)).length = (n - i) * 4 := by rw [List.length_drop, hcl]; omega
  obtain ⟨cur1, hc1⟩ : ∃ q : Array Value, q = (cur.toList.take ((i + 1) * 4) ++ cs.drop (i * 4) ++ cur.toList.drop ((i + 1) * 4 + (cs.drop (i * 4)).length)).toArray := ⟨_, rfl⟩
  obtain ⟨cur2, hc2⟩ : ∃ q : Array Value, q = (cur1.toList.take (i * 4) ++ vs ++ cur1.toList.drop (i * 4 + vs.length)).toArray := ⟨_, rfl⟩
  have hc1l : cur1.size = c * 4 := by rw [hc1]; simp only [List.size_toArray, List.length_append, List.length_take, List.length_drop, Array.length_toList, hcz, hcl]; omega
  have hc2l : cur2.size = c * 4 := by rw [hc2]; simp only [List.size_toArray, List.length_append, List.length_take, List.length_drop, Array.length_toList, hc1l, hvl]; omega
  have hcpA : ∀ ty dc sc, (Builtin.copy_ #[93, 93] ty #[.slice (some ⟨g, (i + 1) * 4, none⟩) (n + 1 - (i + 1)) dc, .slice (some ⟨g, i * 4, none⟩) (n + 1 - i) sc]).run Try.prog W.drew = .ok (goInt ((n - i : Nat) : Int)) (W.drew.setRow g cur1) := fun ty dc sc => by
    rw [hc1]
    exact run_copy_rowK W.drew _ _ ty 99 4 g ((i + 1) * 4) (n + 1 - (i + 1)) dc ⟨g, i * 4, none⟩ (n + 1 - i) sc (n - i) cur 99 (cs.drop (i * 4)) Try.underlying93 hsz hcur (by simp only [Nat.min_def]; split <;> omega) hdl
      (fun j v hj => by rw [Addr.add_lit]; rw [List.getElem?_drop] at hj; exact hcs _ v hj) (by rw [hcz, hdl]; omega) (fun v hv => h1c v (List.mem_of_mem_drop hv))
  have hcpB : ∀ (w : World), w.heap[g]? = some (.cells cur1 99 (0, 0)) → w.heap[vb]? = W.heap[vb]? → ∀ ty dc, (Builtin.copy_ #[93, 93] ty #[.slice (some ⟨g, i * 4, none⟩) (n + 1 - i) dc, .slice (some ⟨vb, 0, none⟩) 1 1]).run Try.prog w = .ok (goInt 1) (w.setRow g cur2) := fun w hw hold ty dc => by
    rw [hc2]
    exact run_copy_rowK w _ _ ty 99 4 g (i * 4) (n + 1 - i) dc ⟨vb, 0, none⟩ 1 1 1 cur1 99 vs Try.underlying93 hsz hw (by simp only [Nat.min_def]; split <;> omega) (by omega)
      (fun j v hj => by rw [add_zero_block, World.cell?_of_block hold]; exact hvs j v hj) (by rw [hc1l, hvl]; omega) h1v
  have HFIN := Lib.hid (show cur2.toList.take ((n + 1) * 4) = cs.take (i * 4) ++ vs ++ cs.drop (i * 4) by
    have e1 : cur1.toList.take (i * 4) = cs.take (i * 4) := by
      rw [hc1, List.toList_toArray, List.append_assoc, List.take_append_of_le_length (by rw [List.length_take, Array.length_toList, hcz]; omega), List.take_take, Nat.min_eq_left (by omega), ← hct, List.take_take, Nat.min_eq_left (by omega)]
    have e2 : cur1.toList.drop (i * 4 + 4) = cs.drop (i * 4) ++ cur.toList.drop ((i + 1) * 4 + (cs.drop (i * 4)).length) := by
      have hl : (cur.toList.take ((i + 1) * 4)).length = i * 4 + 4 := by rw [List.length_take, Array.length_toList, hcz]; omega
      rw [hc1, List.toList_toArray, List.append_assoc, List.drop_append_of_le_length (by rw [hl]; omega), List.drop_of_length_le (by rw [hl]; omega), List.nil_append]
    rw [hc2, List.toList_toArray, hvl, e1, e2, ← List.append_assoc, List.take_append_of_le_length (by simp only [List.length_append, List.length_take, List.length_drop, hvl, hcl]; omega), List.take_of_length_le (by simp only [List.length_append, List.length_take, List.length_drop, hvl, hcl]; omega)])
  obtain ⟨W1, hW1⟩ : ∃ q, q = W.drew.setRow g cur1 := ⟨_, rfl⟩
  have hw1 : W1.heap[g]? = some (.cells cur1 99 (0, 0)) := by rw [hW1]; exact setRow_heap _ _ _ _ _ _ hcur
  have ho1 : ∀ k, k ≠ g → W1.heap[k]? = W.heap[k]? := fun k hk => by rw [hW1, setRow_other _ _ _ _ hk]; rfl
  have hsz1 : W1.heap.size = W.heap.size := by rw [hW1]; simp [World.setRow]
  have hos1 : W1.os = W.os ∧ W1.tape = W.tape ∧ W1.output = W.output := by rw [hW1]; exact ⟨rfl, rfl, rfl⟩
  rw [← hW1] at hcpA
  have HA := Lib.hid hcpA
  have HB := Lib.hid (hcpB W1 hw1 (ho1 vb hne))
  have HW1 := Lib.hid hw1
  have HO1 := Lib.hid ho1
  have HSZ1 := Lib.hid hsz1
  have HOS1 := Lib.hid hos1
  have hz1 : ¬ ((i : Int) = (n : Int)) := by omega
  have hz3 : ¬ ((c : Int) < (n : Int) + 1) := by omega
  have hwi : IntKind.i64.wrap ((i : Int) + 1) = (i : Int) + 1 := by rw [IntKind.wrap_i64]; omega
  have hwn : IntKind.i64.wrap ((n : Int) + 1) = (n : Int) + 1 := by rw [IntKind.wrap_i64]; omega
  have htn : ((i : Int) + 1).toNat = i + 1 := by omega
  have htm : ((n : Int) + 1).toNat = n + 1 := by omega
  have hb1 : (0 : Int) ≤ (i : Int) + 1 := by omega
  have hb2 : (0 : Int) ≤ (n : Int) + 1 := by omega
  have hb3 : (i : Int) ≤ (n : Int) := by omega
  have hb4 : (i : Int) ≤ (n : Int) + 1 := by omega
  have hb5 : (i : Int) + 1 ≤ (n : Int) + 1 := by omega
  have hb6 : (n : Int) + 1 ≤ (c : Int) := by omega
  have hci : ¬ (c = i) := by omega
  have hci1 : ¬ (c = i + 1) := by omega
  have hin : i ≤ n := by omega
  clear hcpA hcpB hW1 hw1 ho1 hsz1 hos1 hc1 hc2 hdl hcs hvs hi0 hz0 hzs hzb hsz h1c h1v hct hcz hcur hvh
  go_enter Try.func107, Try.ntmps107
  go_wp2_with (simp only [hov])
  have mixed : Try.prog.follows Departure.mixedOrders = true := rfl
  go_region_law_o (refine step_copy_runI rfl _ _ 93 93 rfl (.slice (some ⟨g, (i + 1) * 4, none⟩) (n + 1 - (i + 1)) (c - (i + 1))) (.slice (some ⟨g, i * 4, none⟩) (n + 1 - i) (c - i)) (by simp [Act.eval, Act.put]) (by simp [Act.eval, Act.put]) (HA.out _ (c - (i + 1)) (c - i)) ?_)
  have hB := HB.out 3 (c - i)
  go_wp2
  go_ret
  refine ⟨cur2, rfl, setRow_heap _ _ _ _ _ _ HW1.out, hc2l, HFIN.out, ⟨HOS1.out.1, HOS1.out.2.1, HOS1.out.2.2, ?_, fun k hk hne2 => ?_⟩⟩
  · have h : (W1.setRow g cur2).heap.size = W1.heap.size := by simp [World.setRow]
    rw [h, HSZ1.out]; exact Nat.le_refl _
  · have hkg : k ≠ g := fun e => hne2 (by rw [e])
    rw [setRow_other _ _ _ _ hkg]
    exact HO1.out k hkg
theorem ins_ev (base : Nat) (cs vs : List Value) (v : Value) (n i vb : Nat) (W : World) (hown : W.ownsRow base 99 4 v n cs) (hin : i ≤ n) (hn : n ≤ 4398046510976) (hbase : base ≤ W.heap.size) (hvl : vs.length = 4) (hvh : W.heap[vb]? = some (.cells vs.toArray 99 (0, 0))) (hne : ∀ g, v.ownBlock = some g → vb ≠ g) (h1c : ∀ v ∈ cs, v.oneCell' = true) (h1v : ∀ v ∈ vs, v.oneCell' = true) :
    Calls Try.prog 107 #[v, .int .i64 i, .slice (some ⟨vb, 0, none⟩) 1 1] W fun e w' => ∃ v', e = .returned v' ∧ w'.ownsRow base 99 4 v' (n + 1) (cs.take (i * 4) ++ vs ++ cs.drop (i * 4)) ∧ W.grownBy w' v.ownBlock := by
  have hvs : ∀ j v, vs[j]? = some v → W.cell? ⟨vb, j, none⟩ = some v := fun j v hj => by
    rw [cell_of_row _ _ j _ _ _ hvh]; simpa using hj
  by_cases hie : i = n
  · subst hie
    have hcl : cs.length = i * 4 := hown.1
    rw [List.take_of_length_le (by omega), List.drop_of_length_le (by omega), List.append_nil]
    exact ins_end_ev base cs vs v i vb W hown hn hbase hvl hvs h1v
  · rcases hown.2 with ⟨rfl, h0⟩ | ⟨g, cap, cur, rfl, hbg, hh, hnc, hcm, hcz, htk⟩
    · omega
    · by_cases hcap : cap = n
      · subst hcap
        refine (ins_full_ev cs vs g cap i vb W (own_base hown (fun g' hg' => by have e : g = g' := by simpa [Value.ownBlock] using hg'
                                                                                omega)) (by omega) hn hvl hvs h1c h1v).mono ?_
        rintro e w' ⟨v', e1, e2, e3⟩
        exact ⟨v', e1, own_lower e2 hbg, e3⟩
      · refine (ins_room_ev base cs vs g n cap i vb cur W hh hcz htk hown.1 (by omega) (by omega) (by unfold maxLen at hcm; omega) hn hvl hvh (hne g rfl) h1c h1v).mono ?_
        rintro e w' ⟨cur', rfl, e2, e3, e4, e5⟩
        exact ⟨_, rfl, ⟨by simp only [List.length_append, List.length_take, List.length_drop, hvl, hown.1]; omega, Or.inr ⟨g, cap, cur', rfl, hbg, e2, by omega, hcm, e3, e4⟩⟩, e5⟩
end Go.Proofs.Ytlahmcbaiebapaa
