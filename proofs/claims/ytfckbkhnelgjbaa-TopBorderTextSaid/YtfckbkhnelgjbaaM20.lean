/- Lemmas for the law TopBorderText: BinS, InsI, TwoA, KindTwo, WPair. No conditions. -/
import Derived.Test.YtfckbkhnelgjbaaM13
import Derived.Test.YtfckbkhnelgjbaaM06
import Derived.Deep.LoopGhost
import Derived.Test.YtfckbkhnelgjbaaM08
import Derived.Test.YtfckbkhnelgjbaaRows
import Derived.Shelf.Spec.SlicesInsert
import Derived.Lib.AppendZerosOnto
import Derived.Laws.CopyRow
import Derived.Laws.NewBlocks
import Derived.Deep.DeepMust
import Derived.Test.YtfckbkhnelgjbaaM01
import Derived.Lib.SmallJoins
import Derived.ChangeArms
import Derived.Test.YtfckbkhnelgjbaaM10
/- slices.BinarySearchFunc at items, by their slots. -/
section
namespace Go.Proofs.Ytfckbkhnelgjbaa
open Go.ChangeShapes Go.WideShapes Go.ChangeAt Go.RowKit Go.Nm Go.Mem
set_option linter.unusedVariables false
set_option maxHeartbeats 1000000 in
theorem clos_slot (k g t : Int) (a : Option Addr) (n c : Nat) (W : World) : Calls Try.prog 83 #[.agg #[.int .i64 k, .int .i64 g, .slice a n c], .int .i64 t] W fun e w' => e = .returned (.int .i64 (cmpI k t)) ∧ Below W.heap.size W w' := by
  have HC := Lib.hid (fun W' => cmp_ints k t W')
  have hb0 := (Below.refl W.heap.size W).alloc (Nat.le_refl _) (.cells #[.int .i64 k, .int .i64 g, .slice a n c] 72)
  have HB0 := Lib.hid hb0
  obtain ⟨R, hR⟩ : ∃ R, R = cmpI k t := ⟨_, rfl⟩
  rw [← hR] at HC ⊢
  clear hR hb0
  go_enter Try.func83, Try.ntmps83
  go_wp2_with fail
  refine (HC.out _).mono ?_
  rintro e w' ⟨rfl, rfl⟩
  go_wp2
  go_ret
  exact ⟨rfl, HB0.out⟩
theorem cmpI_lt (x y : Int) : decide (cmpI x y < 0) = decide (x < y) := by
  unfold cmpI
  by_cases h1 : x < y
  · simp [h1]
  · by_cases h2 : y < x <;> simp [h1, h2]
theorem cmpI_eq (x y : Int) : (cmpI x y == 0) = decide (x = y) := by
  unfold cmpI
  by_cases h1 : x < y
  · have : x ≠ y := by omega
    simp [h1, this]
  · by_cases h2 : y < x
    · have : x ≠ y := by omega
      simp [h1, h2, this]
    · have : x = y := by omega
      simp [this]
set_option maxHeartbeats 4000000 in
theorem bin_items (l : List ItemV) (a : Option Addr) (n cap : Nat) (t : Int) (hn : l.length = n) (h1 : n ≤ 1048576) (hs : l.Pairwise (fun x y => x.n < y.n)) (W : World) (hz : SlAt 3 ItemAt W a l) :
    Calls Try.prog 82 #[.slice a n cap, .int .i64 t, .func (.func 83) #[] #[]] W fun e w' => (∃ (i : Nat) (f : Bool), i ≤ n ∧ e = .returned (.tuple #[.int .i64 i, .bool f]) ∧ (∀ j (h : j < l.length), j < i → l[j].n < t) ∧ (∀ j (h : j < l.length), i ≤ j → t ≤ l[j].n) ∧ f = decide (∃ h : i < l.length, l[i].n = t)) ∧ Below W.heap.size W w' := by
  have HN := Lib.hid hn
  have HS := Lib.hid hs
  have HZ := Lib.hid hz
  clear hn hs hz
  go_enter Try.func82, Try.ntmps82
  go_wp2_with fail
  go_loopg [9, 10, 11] n (fun gk v9 v10 _ wx => ∃ lo hi : Nat, lo ≤ hi ∧ hi ≤ n ∧ gk = hi - lo ∧ v9 = .int .i64 lo ∧ v10 = .int .i64 hi ∧ (∀ j (h : j < l.length), j < lo → l[j].n < t) ∧ (∀ j (h : j < l.length), hi ≤ j → t ≤ l[j].n) ∧ Below W.heap.size W wx)
  case atStart => exact ⟨0, n, Nat.zero_le _, Nat.le_refl _, rfl, rfl, rfl, fun j h h2 => absurd h2 (by omega), fun j h h2 => absurd h2 (by rw [HN.out] at h; omega), Below.refl _ _⟩
  case round =>
    obtain ⟨lo, hi, h2, h3, g2, rfl, rfl, hlo, hhi, hb⟩ := hrel
    have G2 := Lib.hid g2
    have HLO := Lib.hid hlo
    have HHI := Lib.hid hhi
    have HB := Lib.hid hb
    clear g2 hlo hhi hb
    by_cases hlt : lo < hi
    · have hMl : lo ≤ (lo + hi) / 2 ∧ (lo + hi) / 2 < hi := by omega
      obtain ⟨x, rfl, _, _⟩ := HZ.out (by rw [HN.out]; omega)
      obtain ⟨xb, xo, rfl, av, cv, hcl, _⟩ := item_cells (HZ.out.below ItemAt.abides HB.out) ((lo + hi) / 2) (by rw [HN.out]; omega)
      obtain ⟨it, hit⟩ : ∃ it, it = l[(lo + hi) / 2]'(by rw [HN.out]; omega) := ⟨_, rfl⟩
      rw [← hit] at hcl
      obtain ⟨kn, hkn⟩ : ∃ k, k = it.n := ⟨_, rfl⟩
      obtain ⟨kg, hkg⟩ : ∃ k, k = it.gen := ⟨_, rfl⟩
      obtain ⟨nv, hnv⟩ : ∃ k, k = it.comps.length := ⟨_, rfl⟩
      rw [← hkn, ← hkg, ← hnv] at hcl
      have e0 := hcl.at 0 (by simp)
      have e1 := hcl.at 1 (by simp)
      have e2 := hcl.at 2 (by simp)
      simp only [List.getElem_cons_zero, List.getElem_cons_succ, Nat.add_zero] at e0 e1 e2
      have HIT := Lib.hid (show kn = (l[(lo + hi) / 2]'(by rw [HN.out]; omega)).n by rw [hkn, hit])
      have HCL := Lib.hid (clos_slot kn kg t av nv cv wr)
      have HMC := Lib.hid (show ((lo : Int) + hi) / 2 = (((lo + hi) / 2 : Nat) : Int) by omega)
      have hlt2 := cmpI_lt kn t
      obtain ⟨R, hR⟩ : ∃ R, R = cmpI kn t := ⟨_, rfl⟩
      rw [← hR] at HCL hlt2
      have HLT := Lib.hid hlt2
      clear hcl hit hkn hkg hnv hR hlt2
      go_wp2_with fail
      refine HCL.out.mono ?_
      rintro e w1 ⟨rfl, hb1⟩
      have HB1 := Lib.hid (bt HB.out hb1)
      clear hb1 HCL e0 e1 e2
      by_cases hR : R < 0
      · have hk : kn < t := of_decide_eq_true (by rw [← HLT.out]; exact decide_eq_true hR)
        have HN2 := Lib.hid (show ∀ j (h : j < l.length), j < (lo + hi) / 2 + 1 → l[j].n < t from fun j h hj => by
          by_cases e : j = (lo + hi) / 2
          · subst e; rw [← HIT.out]; exact hk
          · have := List.pairwise_iff_getElem.1 HS.out j ((lo + hi) / 2) h (by rw [HN.out]; omega) (by omega)
            rw [← HIT.out] at this
            omega)
        clear hk
        go_wp2
        go_roundg (hi - ((lo + hi) / 2 + 1))
        case measure => rw [G2.out]; omega
        case rel => exact ⟨(lo + hi) / 2 + 1, hi, by omega, h3, rfl, by rw [HMC.out]; go_num, rfl, HN2.out, HHI.out, HB1.out⟩
      · have hk : ¬ kn < t := of_decide_eq_false (by rw [← HLT.out]; exact decide_eq_false hR)
        have HN2 := Lib.hid (show ∀ j (h : j < l.length), (lo + hi) / 2 ≤ j → t ≤ l[j].n from fun j h hj => by
          by_cases e : j = (lo + hi) / 2
          · subst e; rw [← HIT.out]; omega
          · have := List.pairwise_iff_getElem.1 HS.out ((lo + hi) / 2) j (by rw [HN.out]; omega) h (by omega)
            rw [← HIT.out] at this
            omega)
        clear hk
        go_wp2
        go_roundg ((lo + hi) / 2 - lo)
        case measure => rw [G2.out]; omega
        case rel => exact ⟨lo, (lo + hi) / 2, by omega, by omega, rfl, rfl, by rw [HMC.out], HLO.out, HN2.out, HB1.out⟩
    · obtain rfl : hi = lo := by omega
      by_cases hin : hi < n
      · obtain ⟨x, rfl, _, _⟩ := HZ.out (by rw [HN.out]; omega)
        obtain ⟨xb, xo, rfl, av, cv, hcl, _⟩ := item_cells (HZ.out.below ItemAt.abides HB.out) hi (by rw [HN.out]; omega)
        obtain ⟨it, hit⟩ : ∃ it, it = l[hi]'(by rw [HN.out]; omega) := ⟨_, rfl⟩
        rw [← hit] at hcl
        obtain ⟨kn, hkn⟩ : ∃ k, k = it.n := ⟨_, rfl⟩
        obtain ⟨kg, hkg⟩ : ∃ k, k = it.gen := ⟨_, rfl⟩
        obtain ⟨nv, hnv⟩ : ∃ k, k = it.comps.length := ⟨_, rfl⟩
        rw [← hkn, ← hkg, ← hnv] at hcl
        have e0 := hcl.at 0 (by simp)
        have e1 := hcl.at 1 (by simp)
        have e2 := hcl.at 2 (by simp)
        simp only [List.getElem_cons_zero, List.getElem_cons_succ, Nat.add_zero] at e0 e1 e2
        have HIT := Lib.hid (show kn = (l[hi]'(by rw [HN.out]; omega)).n by rw [hkn, hit])
        have HCL := Lib.hid (clos_slot kn kg t av nv cv wr)
        have heq2 := cmpI_eq kn t
        obtain ⟨R, hR⟩ : ∃ R, R = cmpI kn t := ⟨_, rfl⟩
        rw [← hR] at HCL heq2
        have HEQ := Lib.hid heq2
        clear hcl hit hkn hkg hnv hR heq2
        go_wp2_with fail
        refine HCL.out.mono ?_
        rintro e w1 ⟨rfl, hb1⟩
        have HB1 := Lib.hid (bt HB.out hb1)
        clear hb1 HCL e0 e1 e2
        obtain ⟨F, hF⟩ : ∃ F, F = (R == 0) := ⟨_, rfl⟩
        have hF2 := hF.symm
        have HFE := Lib.hid (show F = decide (∃ h : hi < l.length, l[hi].n = t) by
          rw [hF, HEQ.out]
          by_cases e : kn = t
          · rw [decide_eq_true e, decide_eq_true ⟨by rw [HN.out]; exact hin, by rw [← HIT.out]; exact e⟩]
          · rw [decide_eq_false e, decide_eq_false (fun ⟨_, h⟩ => e (by rw [HIT.out]; exact h))])
        clear hF
        go_wp2
        go_ret2
        exact ⟨⟨hi, F, h3, by simp, HLO.out, HHI.out, HFE.out⟩, HB1.out⟩
      · have HFE := Lib.hid (show false = decide (∃ h : hi < l.length, l[hi].n = t) from (decide_eq_false (fun ⟨h, _⟩ => hin (by rw [HN.out] at h; exact h))).symm)
        go_wp2
        go_ret2
        exact ⟨⟨hi, false, h3, rfl, HLO.out, HHI.out, HFE.out⟩, HB.out⟩
end Go.Proofs.Ytfckbkhnelgjbaa
end
/- slices.Insert of one item into a full slice of items. -/
section
namespace Go.Proofs.Ytfckbkhnelgjbaa
open Go.ChangeShapes Go.WideShapes Go.ChangeAt Go.RowKit Go.Mem Go.Lib Go.Shelf
set_option linter.unusedVariables false
set_option linter.unusedSimpArgs false
theorem run_copy_rowK {P : Program} (w : World) (dT sT ty elem : TypeId) (k : Nat) (g o dLen dCap : Nat) (a : Addr) (sLen sCap m : Nat) (cur : Array Value) (t : TypeId) (cs : List Value)
    (hu : P.underlying dT = some (.slice elem)) (hs : (P.info? elem).map (·.size) = some k)
    (hg : w.heap[g]? = some (.cells cur t (0, 0))) (hm : m = Nat.min sLen dLen) (hn : cs.length = m * k)
    (hsrc : ∀ j v, cs[j]? = some v → w.cell? (a.add j) = some v) (hfit : o + cs.length ≤ cur.size) (h1 : ∀ v ∈ cs, v.oneCell' = true) :
    (Builtin.copy_ #[dT, sT] ty #[.slice (some ⟨g, o, none⟩) dLen dCap, .slice (some a) sLen sCap]).run P w =
      .ok (goInt m) (w.setRow g (cur.toList.take o ++ cs ++ cur.toList.drop (o + cs.length)).toArray) := by
  have hl := run_loadCells_list (P := P) w a cs hsrc
  have hst := run_storeCells_at P g o t cs 0 cur w hg (by simpa using hfit) h1
  cases hq : P.info? elem with
  | none => simp [hq] at hs
  | some i =>
    have hi : i.size = k := by simpa [hq] using hs
    rw [hn] at hl
    rw [Nat.add_zero] at hst
    simp [Builtin.copy_, run_underlying hu, Builtin.lenOf, Builtin.firstCells, sizeOf, typeInfo, hq, hi, ← hm, hl, hst]
theorem splice_take {α : Type} (cs vs zs : List α) (p q : Nat) (hp : p ≤ cs.length) (hv : vs.length = q) (hz : cs.length - p + q ≤ zs.length) :
    ((((cs.take p ++ zs).take p ++ vs ++ (cs.take p ++ zs).drop (p + q)).take (p + q) ++ cs.drop p ++ ((cs.take p ++ zs).take p ++ vs ++ (cs.take p ++ zs).drop (p + q)).drop (p + q + (cs.drop p).length)).take (cs.length + q)) = cs.take p ++ vs ++ cs.drop p := by
  have e1 : (cs.take p).length = p := by rw [List.length_take]; omega
  have e2 : (cs.take p ++ zs).take p = cs.take p := by
    rw [List.take_append_of_le_length (by omega), List.take_of_length_le (by omega)]
  rw [e2]
  have e3 : (cs.take p ++ vs ++ (cs.take p ++ zs).drop (p + q)).take (p + q) = cs.take p ++ vs := by
    rw [List.take_append_of_le_length (by rw [List.length_append]; omega), List.take_of_length_le (by rw [List.length_append]; omega)]
  rw [e3, List.take_append_of_le_length (by simp only [List.length_append, List.length_drop]; omega), List.take_of_length_le (by simp only [List.length_append, List.length_drop]; omega)]
set_option maxHeartbeats 8000000 in
set_option maxRecDepth 100000 in
theorem ins_items (cs vs : List Value) (b n i vb : Nat) (W : World) (hown : W.ownsRow b 72 3 (.slice (some ⟨b, 0, none⟩) n n) n cs) (hin : i ≤ n) (hn : n ≤ 1048576) (hvl : vs.length = 3) (hvs : ∀ j v, vs[j]? = some v → W.cell? ⟨vb, j, none⟩ = some v) (h1c : ∀ v ∈ cs, v.oneCell' = true) (h1v : ∀ v ∈ vs, v.oneCell' = true) :
    Calls Try.prog 85 #[.slice (some ⟨b, 0, none⟩) n n, .int .i64 i, .slice (some ⟨vb, 0, none⟩) 1 1] W fun e w' => ∃ v', e = .returned v' ∧ w'.ownsRow b 72 3 v' (n + 1) (cs.take (i * 3) ++ vs ++ cs.drop (i * 3)) ∧ W.grownBy w' (some b) := by
  have hcl : cs.length = n * 3 := hown.1
  have hcs : ∀ j v, cs[j]? = some v → W.cell? ⟨b, j, none⟩ = some v := fun j v hj => by
    have hj2 : j < n * 3 := by rw [← hcl]; exact (List.getElem?_eq_some_iff.1 hj).1
    rw [hown.cellAt j hj2]; exact hj
  have hbl : b < W.heap.size := by
    rcases hown.2 with ⟨h, _⟩ | ⟨g, cap, cur, h, _, hh, _⟩
    · cases h
    · injection h with h _ _
      injection h with h
      injection h with h
      rw [h]; exact lt_of_heap hh
  have hvw : vb < W.heap.size := block_lt_of_cell (hvs 0 _ (List.getElem?_eq_getElem (by omega)))
  obtain ⟨i0, hi0, hz0, hzs, hzb⟩ := info_parts (show (Try.prog.info? 72).map (fun i => (i.zero, i.size, i.bytes)) = some (some (.agg #[.int .i64 0, .int .i64 0, .slice none 0 0]), 3, 40) by kernel_rfl)
  have hsz : (Try.prog.info? 72).map (·.size) = some 3 := by rw [hi0]; simp [hzs]
  by_cases hie : i = n
  · subst hie
    have HE := Lib.hid (show cs.take (i * 3) ++ vs ++ cs.drop (i * 3) = cs ++ vs by rw [List.take_of_length_le (by omega), List.drop_of_length_le (by omega), List.append_nil])
    have hca : CellsAt W (some ⟨vb, 0, none⟩) vs := fun _ => ⟨_, rfl, hvw, fun j u hj => by rw [add_zero_block]; exact hvs j u hj⟩
    rw [HE.out]
    clear hcs hcl hi0 hz0 hzs hzb hsz hvs h1c
    go_enter Try.func85, Try.ntmps85
    go_wp2_with (at_builtin; go_must (refine wpList_append_cells rfl _ _ 35 rfl b 72 (.agg #[.int .i64 0, .int .i64 0, .slice none 0 0]) 3 40 Try.underlying35 (by kernel_rfl) rfl (by decide) _ i cs rfl hown (some ⟨vb, 0, none⟩) 1 1 vs rfl (by omega) hca h1v (by unfold maxLen; omega) (by omega) (by omega) ?_); intro v3 w3 hown3 hg3 hat3; have HO3 := Lib.hid hown3; have HG3 := Lib.hid hg3; clear hown3 hg3 hat3)
    go_ret
    exact ⟨_, rfl, HO3.out, HG3.out⟩
  · have hlt : i < n := by omega
    have hz1 : ¬ ((i : Int) = (n : Int)) := by omega
    have hz3 : (n : Int) < (n : Int) + 1 := by omega
    have hkk : (n : Int) + 1 - (i : Int) = ((n + 1 - i : Nat) : Int) := by omega
    have hik : i + (n + 1 - i) = n + 1 := by omega
    have hold : (Builtin.firstCells i0.size i (.slice (some ⟨b, 0, none⟩) i n)).run Try.prog W.drew = .ok (cs.take (i * 3)).toArray W.drew := by
      rw [hzs]
      exact run_firstCells_some W.drew 3 i ⟨b, 0, none⟩ i n (cs.take (i * 3)) (by rw [List.length_take]; omega) (fun j v hj => by
        rw [add_zero_block]
        rw [List.getElem?_take] at hj
        split at hj
        · exact hcs j v hj
        · cases hj)
    obtain ⟨G, hG⟩ : ∃ G, G = grownCap W (n + 1) n 72 := ⟨_, rfl⟩
    obtain ⟨Z, hZ⟩ : ∃ Z : List Value, Z = (Builtin.zeroCells (Value.agg #[.int .i64 0, .int .i64 0, .slice none 0 0]).cells (n + 1 - i)).toList ++ (Builtin.zeroCells (Value.agg #[.int .i64 0, .int .i64 0, .slice none 0 0]).cells (G - (n + 1))).toList := ⟨_, rfl⟩
    obtain ⟨ROW, hROW⟩ : ∃ ROW : Array Value, ROW = (cs.take (i * 3) ++ Z).toArray := ⟨_, rfl⟩
    have hrz : ∀ ty, (Builtin.append_ #[35, 3] ty #[.slice (some ⟨b, 0, none⟩) i n, .int .i64 ((n : Int) + 1 - (i : Int))]).run Try.prog W = .ok (.slice (some ⟨W.heap.size, 0, none⟩) (n + 1) G) (W.drew.alloc (.cells ROW 72)) := fun ty => by
      have h := Lib.run_append_grow_zeros W 35 3 ty 72 i0 _ .i64 .i64 Try.underlying35 Try.underlying3 hi0 hz0 (some ⟨b, 0, none⟩) i n (cs.take (i * 3)) hold (n + 1 - i) (by omega) (by omega) (by omega) (by omega) (by rw [hzb]; omega) (by rw [hzb, hik]; exact growslice_fits (by omega) (by omega))
      rw [hik, ← hG] at h
      rw [hkk, h, hROW, hZ]
      congr 3
      apply Array.toList_inj.1
      simp [List.append_assoc]
    have hGn : n + 1 ≤ G := by rw [hG]; exact grownCap_ge W _ _ _
    have hG63 : G ≤ 9223372036854775807 := by
      have := grownCap_le_maxLen W (n + 1) n 72 (by unfold maxLen; omega)
      rw [← hG] at this
      unfold maxLen at this
      omega
    have hZl : Z.length = (G - i) * 3 := by
      rw [hZ]
      simp [Builtin.zeroCells, Value.cells]
      omega
    have hRl : ROW.toList.length = G * 3 := by
      rw [hROW]
      simp [hZl]
      omega
    obtain ⟨cur1, hc1⟩ : ∃ c : Array Value, c = (ROW.toList.take (i * 3) ++ vs ++ ROW.toList.drop (i * 3 + vs.length)).toArray := ⟨_, rfl⟩
    obtain ⟨cur2, hc2⟩ : ∃ c : Array Value, c = (cur1.toList.take ((i + 1) * 3) ++ cs.drop (i * 3) ++ cur1.toList.drop ((i + 1) * 3 + (cs.drop (i * 3)).length)).toArray := ⟨_, rfl⟩
    have hc1l : cur1.size = G * 3 := by rw [hc1]; simp only [List.size_toArray, List.length_append, List.length_take, List.length_drop, hRl, hvl]; omega
    have hdl : (cs.drop (i * 3)).length = (n - i) * 3 := by rw [List.length_drop, hcl]; omega
    have hc2l : cur2.size = G * 3 := by rw [hc2]; simp only [List.size_toArray, List.length_append, List.length_take, List.length_drop, Array.length_toList, hc1l, hcl]; omega
    have hcpA : ∀ (w : World), w.heap[W.heap.size]? = some (.cells ROW 72 (0, 0)) → (∀ k, k < W.heap.size → w.heap[k]? = W.heap[k]?) → ∀ ty dc, (Builtin.copy_ #[35, 35] ty #[.slice (some ⟨W.heap.size, i * 3, none⟩) (n + 1 - i) dc, .slice (some ⟨vb, 0, none⟩) 1 1]).run Try.prog w = .ok (goInt 1) (w.setRow W.heap.size cur1) := fun w hw hold ty dc => by
      rw [hc1]
      exact run_copy_rowK w _ _ ty 72 3 W.heap.size (i * 3) (n + 1 - i) dc ⟨vb, 0, none⟩ 1 1 1 ROW 72 vs Try.underlying35 hsz hw (by simp only [Nat.min_def]; split <;> omega) (by omega)
        (fun j v hj => by rw [add_zero_block, World.cell?_of_block (hold vb hvw)]; exact hvs j v hj) (by rw [← Array.length_toList, hRl, hvl]; omega) h1v
    have hcpB : ∀ (w : World), w.heap[W.heap.size]? = some (.cells cur1 72 (0, 0)) → (∀ k, k < W.heap.size → w.heap[k]? = W.heap[k]?) → ∀ ty dc sc, (Builtin.copy_ #[35, 35] ty #[.slice (some ⟨W.heap.size, (i + 1) * 3, none⟩) (n + 1 - (i + 1)) dc, .slice (some ⟨b, i * 3, none⟩) (n - i) sc]).run Try.prog w = .ok (goInt ((n - i : Nat) : Int)) (w.setRow W.heap.size cur2) := fun w hw hold ty dc sc => by
      rw [hc2]
      exact run_copy_rowK w _ _ ty 72 3 W.heap.size ((i + 1) * 3) (n + 1 - (i + 1)) dc ⟨b, i * 3, none⟩ (n - i) sc (n - i) cur1 72 (cs.drop (i * 3)) Try.underlying35 hsz hw (by simp only [Nat.min_def]; split <;> omega) hdl
        (fun j v hj => by rw [Addr.add_lit, World.cell?_of_block (hold b hbl)]; rw [List.getElem?_drop] at hj; exact hcs _ v hj) (by rw [hc1l, hdl]; omega) (fun v hv => h1c v (List.mem_of_mem_drop hv))
    have HFIN := Lib.hid (show cur2.toList.take ((n + 1) * 3) = cs.take (i * 3) ++ vs ++ cs.drop (i * 3) by
      have h := splice_take cs vs Z (i * 3) 3 (by omega) hvl (by rw [hcl, hZl]; omega)
      rw [hcl, show n * 3 + 3 = (n + 1) * 3 by omega] at h
      rw [← h, hc2, hc1, hROW, hvl, show (i + 1) * 3 = i * 3 + 3 by omega])
    have hw0 : ((W.alloc (.cells ROW 72)).drew).heap[W.heap.size]? = some (.cells ROW 72 (0, 0)) := heap_alloc_new W _
    have hlw : ∀ k, k < W.heap.size → ((W.alloc (.cells ROW 72)).drew).heap[k]? = W.heap[k]? := fun k hk => Below.heap_alloc W _ k hk
    have hA := hcpA ((W.alloc (.cells ROW 72)).drew) hw0 hlw 3 (G - i)
    obtain ⟨W2, hW2⟩ : ∃ W2, W2 = ((W.alloc (.cells ROW 72)).drew).setRow W.heap.size cur1 := ⟨_, rfl⟩
    have hw2 : W2.heap[W.heap.size]? = some (.cells cur1 72 (0, 0)) := by rw [hW2]; exact setRow_heap _ _ _ _ _ _ hw0
    have hlw2 : ∀ k, k < W.heap.size → W2.heap[k]? = W.heap[k]? := fun k hk => by rw [hW2, setRow_other _ _ _ _ (by omega)]; exact hlw k hk
    have hsz2 : W2.heap.size = W.heap.size + 1 := by rw [hW2]; simp [World.setRow]
    have hos2 : W2.os = W.os ∧ W2.tape = W.tape ∧ W2.output = W.output := by rw [hW2]; exact ⟨rfl, rfl, rfl⟩
    rw [← hW2] at hA
    have HB := Lib.hid (hcpB W2.drew hw2 hlw2 3)
    have HW2 := Lib.hid hw2
    have HLW2 := Lib.hid hlw2
    have HSZ2 := Lib.hid hsz2
    have HOS2 := Lib.hid hos2
    have hwi : IntKind.i64.wrap ((i : Int) + 1) = (i : Int) + 1 := by rw [IntKind.wrap_i64]; omega
    have htn : ((i : Int) + 1).toNat = i + 1 := by omega
    have hb1 : (0 : Int) ≤ (i : Int) + 1 := by omega
    have hb3 : (i : Int) ≤ (n : Int) := by omega
    have hGi : ¬ (G = i) := by omega
    have hGim : ¬ (G = i + 1) := by omega
    have hni : ¬ (n = i) := by omega
    clear hcpA hcpB hw0 hlw hW2 hw2 hlw2 hsz2 hos2 hold hc1 hc2 hROW hZ hZl hRl hG hdl hkk hik hcs hvs hi0 hz0 hzs hzb hsz h1c h1v
    go_enter Try.func85, Try.ntmps85
    go_wp2_with (at_builtin; refine Lib.wpList_append_run _ rfl _ _ _ _ rfl _ _ rfl rfl _ _ (hrz _) ?_)
    clear hA hrz
    have mixed : Try.prog.follows Departure.mixedOrders = true := rfl
    go_region_law_o (refine step_copy_runI rfl _ _ 35 35 rfl (.slice (some ⟨W.heap.size, (i + 1) * 3, none⟩) (n + 1 - (i + 1)) (G - (i + 1))) (.slice (some ⟨b, i * 3, none⟩) (n - i) (n - i)) (by simp [Act.eval, Act.put]) (by simp [Act.eval, Act.put]) (HB.out (G - (i + 1)) (n - i)) ?_)
    go_wp2
    go_ret
    have hh := setRow_heap W2.drew W.heap.size cur1 cur2 _ _ HW2.out
    refine ⟨_, rfl, ⟨by simp only [List.length_append, List.length_take, List.length_drop]; omega, Or.inr ⟨W.heap.size, G, cur2, rfl, Nat.le_of_lt hbl, hh, hGn, by unfold maxLen; omega, hc2l, HFIN.out⟩⟩, ⟨HOS2.out.1, HOS2.out.2.1, HOS2.out.2.2, ?_, fun k hk hne => ?_⟩⟩
    · have h : (W2.drew.setRow W.heap.size cur2).heap.size = W2.heap.size := by simp [World.setRow]
      rw [h, HSZ2.out]; omega
    · rw [setRow_other _ _ _ _ (by omega)]
      exact HLW2.out k hk
end Go.Proofs.Ytfckbkhnelgjbaa
end
/- tourlaw3.two; a boxed struct of three; a field handed over by value. -/
section
namespace Go.Proofs.Ytfckbkhnelgjbaa
open Go.ChangeShapes Go.WideShapes Go.ChangeAt Go.RowKit Go.Nm Go.Mem
set_option linter.unusedVariables false
/-- what two() lays: two fields, two kinds -/
structure TwoAt (W w : World) : Prop where
  bel : Below W.heap.size W w
  f0 : w.heap[W.heap.size]? = some (.cells #[.string ⟨#[120]⟩, .int .i64 3, .int .i64 (-2)] 99 (0, 0))
  f1 : w.heap[W.heap.size + 1]? = some (.cells #[.string ⟨#[120]⟩, .int .i64 8, .int .i64 0] 99 (0, 0))
  k : w.heap[W.heap.size + 1 + 1]? = some (.cells #[.string ⟨#[112, 108, 97, 99, 101]⟩, .slice (some ⟨W.heap.size, 0, none⟩) 1 1, .string ⟨#[108, 105, 102, 101]⟩, .slice (some ⟨W.heap.size + 1, 0, none⟩) 1 1] 102 (0, 0))
theorem two_w (w : World) : Calls Try.prog 44 #[] w fun e w' => e = .returned (.slice (some ⟨w.heap.size + 1 + 1, 0, none⟩) 2 2) ∧ TwoAt w w' := by
  go_enter Try.func44, Try.ntmps44
  go_wp2_with fail
  go_ret
  refine ⟨rfl, (((Below.refl _ _).alloc (Nat.le_refl _) _).alloc (by simp) _).alloc (by simp; omega) _, ?_, ?_, ?_⟩
  · exact heap_keep (heap_keep (heap_alloc_new w _) _) _
  · have := heap_alloc_new (w.alloc (.cells #[.string ⟨#[120]⟩, .int .i64 3, .int .i64 (-2)] 99)) (.cells #[.string ⟨#[120]⟩, .int .i64 8, .int .i64 0] 99)
    exact heap_keep (by simpa using this) _
  · have := heap_alloc_new ((w.alloc (.cells #[.string ⟨#[120]⟩, .int .i64 3, .int .i64 (-2)] 99)).alloc (.cells #[.string ⟨#[120]⟩, .int .i64 8, .int .i64 0] 99)) (.cells #[.string ⟨#[112, 108, 97, 99, 101]⟩, .slice (some ⟨w.heap.size, 0, none⟩) 1 1, .string ⟨#[108, 105, 102, 101]⟩, .slice (some ⟨w.heap.size + 1, 0, none⟩) 1 1] 102)
    simpa using this
/-- the box's cells in a later world -/
theorem box3 {w w2 : World} {a b c : Value} {t : TypeId} (h : Below (w.alloc (.cells #[a, b, c] t)).heap.size (w.alloc (.cells #[a, b, c] t)) w2) :
    w2.cell? ⟨w.heap.size, 0, none⟩ = some a ∧ w2.cell? ⟨w.heap.size, 1, none⟩ = some b ∧ w2.cell? ⟨w.heap.size, 2, none⟩ = some c ∧ Below w.heap.size w w2 := by
  have hh := heap_below (heap_alloc_new w (.cells #[a, b, c] t)) h
  exact ⟨by rw [cell_of_row _ _ 0 _ _ _ hh]; rfl, by rw [cell_of_row _ _ 1 _ _ _ hh]; rfl, by rw [cell_of_row _ _ 2 _ _ _ hh]; rfl, ((Below.refl _ _).alloc (Nat.le_refl _) _).trans (h.mono (by simp))⟩
section
open Go.Joins Go.Deep
variable {H : Type} {enc : TypeId × Value → H} {w : World} {base : Nat} {spare : Nat → Bool} {held : Bool}
set_option maxRecDepth 100000 in
/-- a field handed over by value -/
theorem open_field {r : Reach} {b0 : Nat} {v : Value} {d : DataW H} {p : List MemPlace} (hv : Value.okWide Try.prog w r b0 99 v) (h : DataW.Trod enc Try.prog w base spare held 99 v d p) :
    ∃ (s : ByteArray) (b l : Int), v = .agg #[.string s, .int .i64 b, .int .i64 l] ∧ s.size ≤ maxLen := by
  obtain ⟨v0, v1, v2, y0, y1, y2, n, rfl, _, _, h0, h1, h2⟩ := open_agg3 Try.underlying99 (by kernel_rfl) (by kernel_rfl) hv h
  obtain ⟨s, e0, _, hs⟩ := DataW.trod_string Try.underlying9 h0
  obtain ⟨b, e1, _, _⟩ := DataW.trod_int Try.underlying3 h1
  obtain ⟨l, e2, _, _⟩ := DataW.trod_int Try.underlying3 h2
  injection e0 with e0; injection e1 with e1; injection e2 with e2
  subst e0 e1 e2
  exact ⟨s, b, l, rfl, hs⟩
end
end Go.Proofs.Ytfckbkhnelgjbaa
end
/- The law's own first kind: its facts in plain words. -/
section
namespace Go.Proofs.Ytfckbkhnelgjbaa
open Go.ChangeShapes Go.WideShapes Go.ChangeAt Go.RowKit Go.Nm Go.Mem
set_option linter.unusedVariables false
def kTwo : KindV := ⟨⟨#[112, 108, 97, 99, 101]⟩, [⟨⟨#[120]⟩, 3, -2⟩]⟩
theorem kTwo_ok : kindE kTwo = 0 := by kernel_rfl
theorem kTwo_fitE : fitE kTwo [9] = 0 := by kernel_rfl
theorem kTwo_fitL : fitL kTwo.fields [9] = [5] := by kernel_rfl
theorem kTwo_at {W w' : World} (h : TwoAt W w') : SlAt 3 FieldAt w' (some ⟨W.heap.size, 0, none⟩) kTwo.fields := by
  obtain ⟨hb, h0, h1, h2⟩ := h
  intro _
  refine ⟨_, rfl, lt_of_heap h0, fun i hi => ?_⟩
  have : i = 0 := by
    have : i < 1 := hi
    omega
  subst this
  refine ⟨?_, ?_, ?_, ?_⟩
  · show w'.cell? ((⟨W.heap.size, 0, none⟩ : Addr).add (0 * 3)) = _
    rw [add_zero_block, cell_of_row _ _ _ _ _ _ h0]; rfl
  · rw [add_zero_block, cell_of_row _ _ _ _ _ _ h0]; rfl
  · rw [add_zero_block, cell_of_row _ _ _ _ _ _ h0]; rfl
  · show ByteArray.size ⟨#[120]⟩ ≤ _; decide
end Go.Proofs.Ytfckbkhnelgjbaa
end
/- tourlaw3.pair. -/
section
namespace Go.Proofs.Ytfckbkhnelgjbaa
open Go.ChangeShapes Go.WideShapes Go.ChangeAt Go.RowKit Go.Nm Go.Mem
set_option linter.unusedVariables false
def allocs (w : World) : List Obj → World
  | [] => w
  | o :: r => allocs (w.alloc o) r
theorem allocs_below : ∀ (os : List Obj) (w : World), Below w.heap.size w (allocs w os)
  | [], w => Below.refl _ _
  | o :: r, w => ((Below.refl _ _).alloc (Nat.le_refl _) o).trans ((allocs_below r (w.alloc o)).mono (by simp))
theorem allocs_get : ∀ (os : List Obj) (w : World) (i : Nat) (o : Obj), os[i]? = some o → (allocs w os).heap[w.heap.size + i]? = some o
  | [], w, i, o, h => by simp at h
  | x :: r, w, 0, o, h => by
    have h' : x = o := by simpa using h
    subst h'
    exact heap_below (heap_alloc_new w x) (allocs_below r (w.alloc x))
  | x :: r, w, i + 1, o, h => by
    have := allocs_get r (w.alloc x) i o (by simpa using h)
    rw [World.size_alloc] at this
    rw [show w.heap.size + (i + 1) = w.heap.size + 1 + i by omega]
    exact this
def kTwo2 : KindV := ⟨⟨#[108, 105, 102, 101]⟩, [⟨⟨#[120]⟩, 8, 0⟩]⟩
def pairV : WorldV := ⟨[kTwo, kTwo2], [0, 2], [⟨0, 0, [⟨0, [4]⟩, ⟨1, [9]⟩]⟩, ⟨1, 2, [⟨1, [7]⟩]⟩]⟩
theorem pair_ok : checkE pairV = 0 := by kernel_rfl
theorem pair_small : SmallW pairV := by
  refine ⟨by decide, by decide, by decide, ?_⟩
  intro y hy
  unfold pairV at hy
  simp only [List.mem_cons, List.not_mem_nil, or_false] at hy
  rcases hy with rfl | rfl <;> refine ⟨by decide, ?_⟩ <;> intro c hc <;> simp only [List.mem_cons, List.not_mem_nil, or_false] at hc
  · rcases hc with rfl | rfl <;> decide
  · subst hc; decide
theorem fld_one {w : World} {g : Nat} {f : FieldV} (h : w.heap[g]? = some (.cells #[.string f.name, .int .i64 f.bits, .int .i64 f.low] 99 (0, 0))) (hs : f.name.size + 1 ≤ 9223372036854775807) : SlAt 3 FieldAt w (some ⟨g, 0, none⟩) [f] := fun _ => by
  refine ⟨_, rfl, lt_of_heap h, fun i hi => ?_⟩
  have hi2 : i < 1 := hi
  obtain rfl : i = 0 := by omega
  exact ⟨cell_of_row _ _ 0 _ _ _ h, cell_of_row _ _ 1 _ _ _ h, cell_of_row _ _ 2 _ _ _ h, by show f.name.size ≤ _; omega⟩
theorem twos_at {w' : World} {N : Nat} (f0 : w'.heap[N]? = some (.cells #[.string ⟨#[120]⟩, .int .i64 3, .int .i64 (-2)] 99 (0, 0))) (f1 : w'.heap[N + 1]? = some (.cells #[.string ⟨#[120]⟩, .int .i64 8, .int .i64 0] 99 (0, 0)))
    (k : w'.heap[N + 1 + 1]? = some (.cells #[.string ⟨#[112, 108, 97, 99, 101]⟩, .slice (some ⟨N, 0, none⟩) 1 1, .string ⟨#[108, 105, 102, 101]⟩, .slice (some ⟨N + 1, 0, none⟩) 1 1] 102 (0, 0))) : SlAt 2 KindAt w' (some ⟨N + 1 + 1, 0, none⟩) [kTwo, kTwo2] := fun _ => by
  refine ⟨_, rfl, lt_of_heap k, fun i hi => ?_⟩
  have hi2 : i < 2 := hi
  rcases (show i = 0 ∨ i = 1 by omega) with rfl | rfl
  · exact ⟨cell_of_row _ _ 0 _ _ _ k, by show (5 : Nat) ≤ _; omega, _, _, cell_of_row _ _ 1 _ _ _ k, Nat.le_refl _, by omega, fld_one (f := ⟨⟨#[120]⟩, 3, -2⟩) f0 (by show (1 : Nat) + 1 ≤ _; omega)⟩
  · exact ⟨cell_of_row _ _ 2 _ _ _ k, by show (4 : Nat) ≤ _; omega, _, _, cell_of_row _ _ 3 _ _ _ k, Nat.le_refl _, by omega, fld_one (f := ⟨⟨#[120]⟩, 8, 0⟩) f1 (by show (1 : Nat) + 1 ≤ _; omega)⟩
theorem comp_at {w : World} {b q : Nat} {k : Int} {vs : List Int} {a : Option Addr} {c : Nat} (h0 : w.cell? ⟨b, q, none⟩ = some (.int .i64 k)) (h1 : w.cell? ⟨b, q + 1, none⟩ = some (.slice a vs.length c)) (hv : IntsAt .i64 w a vs) : CompAt w ⟨b, q, none⟩ ⟨k, vs⟩ := ⟨h0, a, c, h1, hv⟩
theorem pair_in {w9 : World} {B N : Nat} (hk : SlAt 2 KindAt w9 (some ⟨N, 0, none⟩) [kTwo, kTwo2])
    (g0 : w9.heap[B]? = some (.cells #[.int .i64 0, .int .i64 2] 3 (0, 0))) (g1 : w9.heap[B + 1]? = some (.cells #[.int .i64 4] 3 (0, 0))) (g2 : w9.heap[B + 1 + 1]? = some (.cells #[.int .i64 9] 3 (0, 0)))
    (g3 : w9.heap[B + 1 + 1 + 1]? = some (.cells #[.int .i64 0, .slice (some ⟨B + 1, 0, none⟩) 1 1, .int .i64 1, .slice (some ⟨B + 1 + 1, 0, none⟩) 1 1] 95 (0, 0)))
    (g4 : w9.heap[B + 1 + 1 + 1 + 1]? = some (.cells #[.int .i64 7] 3 (0, 0)))
    (g5 : w9.heap[B + 1 + 1 + 1 + 1 + 1]? = some (.cells #[.int .i64 1, .slice (some ⟨B + 1 + 1 + 1 + 1, 0, none⟩) 1 1] 95 (0, 0)))
    (g6 : w9.heap[B + 1 + 1 + 1 + 1 + 1 + 1]? = some (.cells #[.int .i64 0, .int .i64 0, .slice (some ⟨B + 1 + 1 + 1, 0, none⟩) 2 2, .int .i64 1, .int .i64 2, .slice (some ⟨B + 1 + 1 + 1 + 1 + 1, 0, none⟩) 1 1] 72 (0, 0))) :
    WorldIn w9 (.agg #[.slice (some ⟨N, 0, none⟩) 2 2, .slice (some ⟨B, 0, none⟩) 2 2, .slice (some ⟨B + 1 + 1 + 1 + 1 + 1 + 1, 0, none⟩) 2 2]) pairV := by
  refine ⟨_, _, _, _, _, _, rfl, hk, RowB.ints (k := .i64) (zs := [0, 2]) (show RowB _ _ 3 .i64 [0, 2] from g0), fun _ => ⟨_, rfl, lt_of_heap g6, fun i hi => ?_⟩, by decide, by decide⟩
  have c4 : IntsAt .i64 w9 (some ⟨B + 1, 0, none⟩) [4] := RowB.ints (k := .i64) (zs := [4]) (show RowB _ _ 3 .i64 [4] from g1)
  have c9 : IntsAt .i64 w9 (some ⟨B + 1 + 1, 0, none⟩) [9] := RowB.ints (k := .i64) (zs := [9]) (show RowB _ _ 3 .i64 [9] from g2)
  have c7 : IntsAt .i64 w9 (some ⟨B + 1 + 1 + 1 + 1, 0, none⟩) [7] := RowB.ints (k := .i64) (zs := [7]) (show RowB _ _ 3 .i64 [7] from g4)
  have hi2 : i < 2 := hi
  rcases (show i = 0 ∨ i = 1 by omega) with rfl | rfl
  · refine ⟨cell_of_row _ _ 0 _ _ _ g6, cell_of_row _ _ 1 _ _ _ g6, _, _, cell_of_row _ _ 2 _ _ _ g6, fun _ => ⟨_, rfl, lt_of_heap g3, fun j hj => ?_⟩⟩
    have hj2 : j < 2 := hj
    rcases (show j = 0 ∨ j = 1 by omega) with rfl | rfl
    · exact comp_at (cell_of_row _ _ 0 _ _ _ g3) (cell_of_row _ _ 1 _ _ _ g3) c4
    · exact comp_at (b := B + 1 + 1 + 1) (q := 2) (cell_of_row _ _ 2 _ _ _ g3) (cell_of_row _ _ 3 _ _ _ g3) c9
  · refine ⟨cell_of_row _ _ 3 _ _ _ g6, cell_of_row _ _ 4 _ _ _ g6, _, _, cell_of_row _ _ 5 _ _ _ g6, fun _ => ⟨_, rfl, lt_of_heap g5, fun j hj => ?_⟩⟩
    have hj2 : j < 1 := hj
    obtain rfl : j = 0 := by omega
    exact comp_at (cell_of_row _ _ 0 _ _ _ g5) (cell_of_row _ _ 1 _ _ _ g5) c7
set_option maxHeartbeats 4000000 in
theorem pair_w (w : World) : Calls Try.prog 9 #[] w fun e w' => (∃ v, e = .returned v ∧ WorldIn w' v pairV) ∧ Below w.heap.size w w' := by
  go_enter Try.func9, Try.ntmps9
  go_wp2_with fail
  refine (two_w _).mono ?_
  rintro e w1 ⟨rfl, ht⟩
  obtain ⟨B, hB⟩ : ∃ B, B = w1.heap.size := ⟨_, rfl⟩
  obtain ⟨os, hos⟩ : ∃ os : List Obj, os = [.cells #[.int .i64 0, .int .i64 2] 3 (0, 0), .cells #[.int .i64 4] 3 (0, 0), .cells #[.int .i64 9] 3 (0, 0), .cells #[.int .i64 0, .slice (some ⟨B + 1, 0, none⟩) 1 1, .int .i64 1, .slice (some ⟨B + 1 + 1, 0, none⟩) 1 1] 95 (0, 0), .cells #[.int .i64 7] 3 (0, 0), .cells #[.int .i64 1, .slice (some ⟨B + 1 + 1 + 1 + 1, 0, none⟩) 1 1] 95 (0, 0), .cells #[.int .i64 0, .int .i64 0, .slice (some ⟨B + 1 + 1 + 1, 0, none⟩) 2 2, .int .i64 1, .int .i64 2, .slice (some ⟨B + 1 + 1 + 1 + 1 + 1, 0, none⟩) 1 1] 72 (0, 0)] := ⟨_, rfl⟩
  have hget := fun i o => allocs_get os w1 i o
  rw [← hB] at hget
  have hbel := allocs_below os w1
  have hw0 := heap_below (heap_below (heap_alloc_new w (.cells #[.slice none 0 0, .slice none 0 0, .slice none 0 0] 37 (0, 0))) ht.bel) hbel
  have hbW := ((Below.refl w.heap.size w).alloc (Nat.le_refl _) (.cells #[.slice none 0 0, .slice none 0 0, .slice none 0 0] 37 (0, 0))).trans (ht.bel.mono (by simp))
  have hb8 := bt hbW hbel
  have k0 := heap_below ht.f0 hbel
  have k1 := heap_below ht.f1 hbel
  have k2 := heap_below ht.k hbel
  have hlt : w.heap.size < B := by have := ht.bel.size; rw [← hB] at this; simp at this; omega
  have HT := Lib.hid (show w.heap.size + 1 + 1 + 1 = w.heap.size + 1 + 1 + 1 from rfl)
  have g0 := hget 0 _ (by rw [hos]; rfl)
  have g1 := hget 1 _ (by rw [hos]; rfl)
  have g2 := hget 2 _ (by rw [hos]; rfl)
  have g3 := hget 3 _ (by rw [hos]; rfl)
  have g4 := hget 4 _ (by rw [hos]; rfl)
  have g5 := hget 5 _ (by rw [hos]; rfl)
  have g6 := hget 6 _ (by rw [hos]; rfl)
  have hN : (w.alloc (.cells #[.slice none 0 0, .slice none 0 0, .slice none 0 0] 37 (0, 0))).heap.size = w.heap.size + 1 := by simp
  rw [hN] at k0 k1 k2
  rw [hos, hB] at g0 g1 g2 g3 g4 g5 g6 hw0 hb8 k0 k1 k2
  simp only [allocs] at g0 g1 g2 g3 g4 g5 g6 hw0 hb8 k0 k1 k2
  clear hget hbel hbW ht hN HT hos os
  rw [hB] at hlt
  have G0 := Lib.hid g0
  have G1 := Lib.hid g1
  have G2 := Lib.hid g2
  have G3 := Lib.hid g3
  have G4 := Lib.hid g4
  have G5 := Lib.hid g5
  have G6 := Lib.hid g6
  have HW := Lib.hid hw0
  have HB8 := Lib.hid hb8
  have K0 := Lib.hid k0
  have K1 := Lib.hid k1
  have K2 := Lib.hid k2
  clear g0 g1 g2 g3 g4 g5 g6 hw0 hb8 k0 k1 k2 hB
  go_wp2_with (refine wpList_store_rowP rfl 37 (.tmp 0) (.tmp 15) rfl w.heap.size #[.slice (some ⟨w.heap.size + 1 + 1 + 1, 0, none⟩) 2 2, .slice (some ⟨w1.heap.size, 0, none⟩) 2 2, .slice (some ⟨w1.heap.size + 1 + 1 + 1 + 1 + 1 + 1, 0, none⟩) 2 2] rfl rfl _ _ HW.out (by kernel_rfl) rfl (ones3 _ _ _ rfl rfl rfl) ?_; intro w9 hput; have HPUT := Lib.hid hput; clear hput)
  have hput := HPUT.out
  refine bodyPost_ret (results_cell_row Try.results9 _ _ (w.heap.size) 37 _ (0, 0) _ rfl hput.here Try.underlying37 rfl (by kernel_rfl)) rfl ⟨⟨_, rfl, ?_⟩, HB8.out.trans (hput.below (Nat.le_refl _))⟩
  exact pair_in (twos_at ((hput.else_ _ (by omega)).trans K0.out) ((hput.else_ _ (by omega)).trans K1.out) ((hput.else_ _ (by omega)).trans K2.out)) ((hput.else_ _ (by omega)).trans G0.out) ((hput.else_ _ (by omega)).trans G1.out) ((hput.else_ _ (by omega)).trans G2.out) ((hput.else_ _ (by omega)).trans G3.out) ((hput.else_ _ (by omega)).trans G4.out) ((hput.else_ _ (by omega)).trans G5.out) ((hput.else_ _ (by omega)).trans G6.out)
end Go.Proofs.Ytfckbkhnelgjbaa
end
