/- Lemmas for the law WorldSpawns: InsL, FSpawn. No conditions. -/
import Derived.Test.YtfckbkhnelgjbaaGreatDoorM22
import Derived.Test.YtfckbkhnelgjbaaGreatDoorM19
import Derived.Test.YtfckbkhnelgjbaaGreatDoorM08
import Derived.Test.YtfckbkhnelgjbaaGreatDoorM18
/- Items in a row of the call's own: its cells item by item; one more laid in between. -/
section
namespace Go.Proofs.YtfckbkhnelgjbaaGreatDoor
open Go.ChangeShapes Go.WideShapes Go.ChangeAt Go.RowKit Go.Nm Go.Mem
set_option linter.unusedVariables false
theorem take_flat {α : Type} {sz : Nat} : ∀ (css : List (List α)), (∀ c ∈ css, c.length = sz) → ∀ i, css.flatten.take (i * sz) = (css.take i).flatten
  | [], _, i => by simp
  | c :: r, h, 0 => by simp
  | c :: r, h, i + 1 => by
    have hc := h c List.mem_cons_self
    rw [List.flatten_cons, List.take_succ_cons, List.flatten_cons, ← take_flat r (fun x hx => h x (List.mem_cons_of_mem _ hx)) i, show (i + 1) * sz = c.length + i * sz by rw [hc, Nat.succ_mul, Nat.add_comm], List.take_length_add_append]
theorem drop_flat2 {α : Type} {sz : Nat} : ∀ (css : List (List α)), (∀ c ∈ css, c.length = sz) → ∀ i, css.flatten.drop (i * sz) = (css.drop i).flatten
  | [], _, i => by simp
  | c :: r, h, 0 => by simp
  | c :: r, h, i + 1 => by
    have hc := h c List.mem_cons_self
    rw [List.flatten_cons, List.drop_succ_cons, ← drop_flat2 r (fun x hx => h x (List.mem_cons_of_mem _ hx)) i, show (i + 1) * sz = c.length + i * sz by rw [hc, Nat.succ_mul, Nat.add_comm], List.drop_length_add_append]
theorem item_rows {w : World} {G S : Nat} {l : List ItemV} {cs : Array Value} {t : TypeId} (hG : w.heap[G]? = some (.cells cs t (0, 0))) (hs : cs.size = l.length * 3) (hat : ∀ j (h : j < l.length), ItemNew G S w (j * 3) l[j]) :
    ∃ css : List (List Value), css.length = l.length ∧ (∀ c ∈ css, c.length = 3) ∧ css.flatten = cs.toList ∧ (∀ c ∈ css, ∀ v ∈ c, v.oneCell' = true ∧ ∀ s, v ≠ .string s) ∧ ∀ j (h : j < l.length) (h2 : j < css.length), Up S (fun w => EItem w css[j] l[j]) w := by
  have key : ∀ j (h : j < l.length), ∃ a c, cs[j * 3]? = some (.int .i64 l[j].n) ∧ cs[j * 3 + 1]? = some (.int .i64 l[j].gen) ∧ cs[j * 3 + 2]? = some (.slice a l[j].comps.length c) ∧ Up S (fun w => SlAt 2 CompAt w a l[j].comps) w := fun j h => by
    obtain ⟨p1, p2, a, c, p3, p4⟩ := hat j h
    rw [cell_of_row _ _ _ _ _ _ hG] at p1 p2 p3
    exact ⟨a, c, p1, p2, p3, p4⟩
  obtain ⟨css, hcss⟩ : ∃ css : List (List Value), css = (List.range l.length).map (fun j => [cs.getD (j * 3) undef, cs.getD (j * 3 + 1) undef, cs.getD (j * 3 + 2) undef]) := ⟨_, rfl⟩
  have hl : css.length = l.length := by rw [hcss]; simp
  have hg : ∀ j (h : j < css.length) (h2 : j < l.length), ∃ a c, css[j] = [.int .i64 l[j].n, .int .i64 l[j].gen, .slice a l[j].comps.length c] ∧ Up S (fun w => SlAt 2 CompAt w a l[j].comps) w := fun j h h2 => by
    obtain ⟨a, c, p1, p2, p3, p4⟩ := key j h2
    refine ⟨a, c, ?_, p4⟩
    have e : css[j] = [cs.getD (j * 3) undef, cs.getD (j * 3 + 1) undef, cs.getD (j * 3 + 2) undef] := by simp [hcss]
    rw [e, Array.getD_eq_getD_getElem?, Array.getD_eq_getD_getElem?, Array.getD_eq_getD_getElem?, p1, p2, p3]
    rfl
  have h3 : ∀ c ∈ css, c.length = 3 := fun c hc => by
    rw [hcss] at hc
    obtain ⟨j, _, rfl⟩ := List.mem_map.1 hc
    rfl
  refine ⟨css, hl, h3, ?_, fun c hc v hv => ?_, fun j h h2 => ?_⟩
  · apply List.ext_getElem?
    intro q
    by_cases hq : q < l.length * 3
    · have hj : q / 3 < css.length := by omega
      have hf := flat_get (sz := 3) css h3 (q / 3) hj (q % 3) (by omega)
      rw [show q / 3 * 3 + q % 3 = q by omega] at hf
      obtain ⟨a, c, p1, p2, p3, _⟩ := key (q / 3) (by omega)
      obtain ⟨a2, c2, e, _⟩ := hg (q / 3) hj (by omega)
      have e2 : css[q / 3] = [cs.getD (q / 3 * 3) undef, cs.getD (q / 3 * 3 + 1) undef, cs.getD (q / 3 * 3 + 2) undef] := by simp [hcss]
      have e4 : cs.toList[q]? = cs[q]? := Array.getElem?_toList
      have d0 : cs.getD (q / 3 * 3) undef = .int .i64 l[q / 3].n := by rw [Array.getD_eq_getD_getElem?, p1]; rfl
      have d1 : cs.getD (q / 3 * 3 + 1) undef = .int .i64 l[q / 3].gen := by rw [Array.getD_eq_getD_getElem?, p2]; rfl
      have d2 : cs.getD (q / 3 * 3 + 2) undef = .slice a l[q / 3].comps.length c := by rw [Array.getD_eq_getD_getElem?, p3]; rfl
      rw [hf, e2, e4, d0, d1, d2]
      rcases (show q % 3 = 0 ∨ q % 3 = 1 ∨ q % 3 = 2 by omega) with h | h | h
      · have e3 : q / 3 * 3 = q := by omega
        rw [e3] at p1
        rw [h, p1]
        rfl
      · have e3 : q / 3 * 3 + 1 = q := by omega
        rw [e3] at p2
        rw [h, p2]
        rfl
      · have e3 : q / 3 * 3 + 2 = q := by omega
        rw [e3] at p3
        rw [h, p3]
        rfl
    · rw [List.getElem?_eq_none (by rw [flat_len (sz := 3) css h3, hl]; omega), List.getElem?_eq_none (by rw [Array.length_toList, hs]; omega)]
  · obtain ⟨j, hj, rfl⟩ := List.getElem_of_mem hc
    obtain ⟨a, c, e, _⟩ := hg j hj (by omega)
    rw [e] at hv
    simp only [List.mem_cons, List.not_mem_nil, or_false] at hv
    rcases hv with rfl | rfl | rfl <;> exact ⟨rfl, fun s h => by cases h⟩
  · obtain ⟨a, c, e, hu⟩ := hg j h2 h
    exact fun w2 hs2 => ⟨a, c, e, hu w2 hs2⟩
theorem slat_of_own {α : Type} {E : World → List Value → α → Prop} {At : World → Addr → α → Prop} (hEA : ∀ w g q cs y, E w cs y → (∀ i u, cs[i]? = some u → w.cell? ⟨g, q + i, none⟩ = some u) → At w ⟨g, q, none⟩ y)
    {B : Nat} {T : TypeId} {sz : Nat} {w : World} {a : Option Addr} {n c : Nat} {css : List (List Value)} {l : List α} (hown : w.ownsRow B T sz (.slice a n c) n css.flatten) (hn : l.length = n) (hc : css.length = n) (h3 : ∀ c ∈ css, c.length = sz) (hE : ∀ j (h : j < l.length) (h2 : j < css.length), E w css[j] l[j]) : SlAt sz At w a l := fun h0 => by
  rcases hown.2 with ⟨h, hz⟩ | ⟨g, cap, cur, h, hb, hh, _⟩
  · omega
  · injection h with h1 _ _
    subst h1
    refine ⟨_, rfl, lt_of_heap hh, fun j hj => ?_⟩
    rw [add_zero_block]
    refine hEA w g (j * sz) _ _ (hE j hj (by omega)) (fun i u hu => ?_)
    have hc2 := h3 _ (List.getElem_mem (show j < css.length by omega))
    have hil : i < sz := by
      rcases Nat.lt_or_ge i sz with hlt2 | hge
      · exact hlt2
      · rw [List.getElem?_eq_none (by omega)] at hu; cases hu
    rw [hown.cellAt (j * sz + i) (by
      have : (j + 1) * sz ≤ n * sz := Nat.mul_le_mul_right _ (by omega)
      rw [Nat.succ_mul] at this
      omega), flat_get css h3 j (by omega) i hil]
    exact hu
theorem ins_get {α : Type} (a : List α) (x : α) (i j : Nat) (hi : i ≤ a.length) : (a.take i ++ [x] ++ a.drop i)[j]? = if j < i then a[j]? else if j = i then some x else a[j - 1]? := by
  have ht : (a.take i).length = i := by rw [List.length_take]; omega
  have ht2 : (a.take i ++ [x]).length = i + 1 := by rw [List.length_append, ht]; rfl
  by_cases h1 : j < i
  · rw [if_pos h1, List.getElem?_append_left (by omega), List.getElem?_append_left (by omega), List.getElem?_take, if_pos h1]
  · rw [if_neg h1]
    by_cases h2 : j = i
    · rw [if_pos h2, List.getElem?_append_left (by omega), List.getElem?_append_right (by omega), ht, h2]
      simp
    · rw [if_neg h2, List.getElem?_append_right (by omega), ht2, List.getElem?_drop, show i + (j - (i + 1)) = j - 1 by omega]
theorem ins_all {α β : Type} (P : α → β → Prop) (a : List α) (b : List β) (x : α) (z : β) (i : Nat) (hl : a.length = b.length) (hi : i ≤ b.length) (h : ∀ j (h1 : j < b.length) (h2 : j < a.length), P a[j] b[j]) (hx : P x z) : ∀ j (h1 : j < (b.take i ++ [z] ++ b.drop i).length) (h2 : j < (a.take i ++ [x] ++ a.drop i).length), P (a.take i ++ [x] ++ a.drop i)[j] (b.take i ++ [z] ++ b.drop i)[j] := by
  intro j h1 h2
  have ea := ins_get a x i j (by omega)
  have eb := ins_get b z i j hi
  rw [List.getElem?_eq_getElem h2] at ea
  rw [List.getElem?_eq_getElem h1] at eb
  have hlen : (b.take i ++ [z] ++ b.drop i).length = b.length + 1 := by simp only [List.length_append, List.length_take, List.length_drop, List.length_singleton]; omega
  by_cases c1 : j < i
  · rw [if_pos c1, List.getElem?_eq_getElem (by omega)] at ea eb
    injection ea with ea
    injection eb with eb
    rw [ea, eb]
    exact h j _ _
  · rw [if_neg c1] at ea eb
    by_cases c2 : j = i
    · rw [if_pos c2] at ea eb
      injection ea with ea
      injection eb with eb
      rw [ea, eb]
      exact hx
    · rw [if_neg c2, List.getElem?_eq_getElem (by omega)] at ea eb
      injection ea with ea
      injection eb with eb
      rw [ea, eb]
      exact h (j - 1) _ _
theorem nostr_row3 (a b c : Option Addr) (n1 n2 n3 c1 c2 c3 : Nat) (j : Nat) (s : ByteArray) : (#[Value.slice a n1 c1, .slice b n2 c2, .slice c n3 c3] : Array Value)[j]? ≠ some (Value.string s) := by
  match j with
  | 0 => simp
  | 1 => simp
  | 2 => simp
  | j + 3 => simp
end Go.Proofs.YtfckbkhnelgjbaaGreatDoor
end
/- The reference's Spawn. -/
section
namespace Go.Proofs.YtfckbkhnelgjbaaGreatDoor
open Go.ChangeShapes Go.WideShapes Go.ChangeAt Go.RowKit Go.Nm Go.Mem Go.Maps
set_option linter.unusedVariables false
def spawnF (f : FlatV) (l : List CompV) : FlatV := ⟨f.kinds, if roomN f = f.gens.length then f.gens ++ [0] else f.gens, updF f.parts (roomN f) (fitAllM f.kinds l)⟩
def fspawnE (f : FlatV) (l : List CompV) : Int := if fitAllE f.kinds l ≠ 0 then fitAllE f.kinds l else if roomOk f = false then 6 else 0
def FSpawnR (f : FlatV) (l : List CompV) (E : Int) (base p : Nat) (W : World) (e : Ending) (w' : World) : Prop :=
  (∃ xn xg : Int, e = .returned (.tuple #[.agg #[.int .i64 xn, .int .i64 xg], .int .i64 E]) ∧ (E ≠ 0 → xn = 0 ∧ xg = 0) ∧ (E = 0 → xn = (roomN f : Int) ∧ xg = (spawnF f l).gens.getD (roomN f) 0 ∧ FlatAt w' p (spawnF f l))) ∧ Below base W w'
theorem FSpawnR.bad {f : FlatV} {l : List CompV} {E F : Int} {base p : Nat} {W w' : World} {e : Ending} (hf : F = E) (h : E ≠ 0) (he : e = .returned (.tuple #[.agg #[.int .i64 0, .int .i64 0], .int .i64 E])) (hb : Below base W w') : FSpawnR f l F base p W e w' := by
  subst hf
  exact ⟨⟨0, 0, he, fun _ => ⟨rfl, rfl⟩, fun h0 => absurd h0 h⟩, hb⟩
theorem FSpawnR.good {f : FlatV} {l : List CompV} {E : Int} {base p : Nat} {W w' : World} {xn xg : Int} (hE : 0 = E) (h1 : xn = (roomN f : Int)) (h2 : xg = (spawnF f l).gens.getD (roomN f) 0) (hw : FlatAt w' p (spawnF f l)) (hb : Below base W w') : FSpawnR f l E base p W (.returned (.tuple #[.agg #[.int .i64 xn, .int .i64 xg], .int .i64 0])) w' := by
  subst hE
  exact ⟨⟨xn, xg, rfl, fun h => absurd rfl h, fun _ => ⟨h1, h2, hw⟩⟩, hb⟩
set_option maxHeartbeats 4000000 in
set_option maxRecDepth 20000 in
theorem flat_Spawn (f : FlatV) (l : List CompV) (base p : Nat) (a : Option Addr) (n ca : Nat) (W : World) (hf : FlatOwn W base p f) (hg : f.gens.length ≤ 256) (hk : f.kinds.length ≤ 1048576) (hn : l.length = n) (h1 : n ≤ 1048576) (hvl : ∀ z ∈ l, z.vals.length ≤ 1048576) (hz : SlAt 2 CompAt W a l) :
    Calls Tryz.prog 17 #[.pointer (some ⟨p, 0, none⟩), .slice a n ca] W (FSpawnR f l (fspawnE f l) base p W) := by
  have hf0 := hf
  obtain ⟨ak, ck, vg, b, nm, hrow, hzk, hgo, hmo, hbp, hbb, hnm, hlt, hck, hck2⟩ := hf
  obtain ⟨ag, cg, rfl⟩ := own_slice hgo
  obtain ⟨nk, hnk⟩ : ∃ n, n = f.kinds.length := ⟨_, rfl⟩
  obtain ⟨ng, hng⟩ : ∃ n, n = f.gens.length := ⟨_, rfl⟩
  obtain ⟨E, hE⟩ : ∃ E, E = fspawnE f l := ⟨_, rfl⟩
  obtain ⟨FE, hFE⟩ : ∃ E, E = fitAllE f.kinds l := ⟨_, rfl⟩
  obtain ⟨FM, hFM⟩ : ∃ E, E = fitAllM f.kinds l := ⟨_, rfl⟩
  obtain ⟨RN, hRN⟩ : ∃ RN, RN = roomN f := ⟨_, rfl⟩
  obtain ⟨RO, hRO⟩ : ∃ RO, RO = roomOk f := ⟨_, rfl⟩
  rw [← hE]
  have g1 : FE ≠ 0 → FE = E := fun h => by rw [hE, fspawnE, ← hFE, if_pos h]
  have g2 : FE = 0 → RO = false → 6 = E := fun h h2 => by rw [hE, fspawnE, ← hFE, if_neg (fun x => x h), ← hRO, if_pos h2]
  have g3 : FE = 0 → RO = true → 0 = E := fun h h2 => by rw [hE, fspawnE, ← hFE, if_neg (fun x => x h), ← hRO, if_neg (by rw [h2]; decide)]
  have ho : RO = (decide (RN < ng) || decide (ng < 256)) := by rw [hRO, hRN, hng]; rfl
  have hle : RN ≤ ng := by rw [hRN, hng]; exact firstP_le _ _
  have hro := new_row W #[.int .i64 0, .int .i64 0] 29
  have hre : (W.alloc (.cells #[.int .i64 0, .int .i64 0] 29 (0, 0))).heap[W.heap.size]? = some (.cells #[.int .i64 0, .int .i64 0] 29 (0, 0)) := heap_alloc_new W _
  have hbA : Below W.heap.size W (W.alloc (.cells #[.int .i64 0, .int .i64 0] 29 (0, 0))) := (Below.refl _ _).alloc (Nat.le_refl _) _
  rw [← hnk, ← hng] at hrow
  rw [← hng] at hlt
  have hpl := lt_of_heap hrow
  have hpA := heap_below hrow hbA
  have CF := ref_FittedAll f.kinds l ak a nk ck n ca hnk.symm hn (by rw [hnk]; exact hk) h1 hvl _ (hzk.below KindAt.abides hbA) (hz.below CompAt.abides hbA)
  unfold FitAllPost at CF
  rw [← hFE, ← hFM] at CF
  have HCF := Lib.hid CF
  have HF0 := Lib.hid hf0
  have HRE := Lib.hid hre
  have HBA := Lib.hid hbA
  have HPL := Lib.hid hpl
  have HROW := Lib.hid hrow
  have NK := Lib.hid hnk
  have NG := Lib.hid hng
  have HG := Lib.hid hg
  have HGO := Lib.hid hgo
  have HZK := Lib.hid hzk
  have HMO := Lib.hid hmo
  have HBP := Lib.hid (And.intro hbp hbb)
  have HNM := Lib.hid hnm
  have HLT := Lib.hid hlt
  have HCK := Lib.hid (And.intro hck hck2)
  have G1 := Lib.hid g1
  have G2 := Lib.hid g2
  have G3 := Lib.hid g3
  have HO := Lib.hid ho
  have HLE := Lib.hid hle
  have HRN := Lib.hid hRN
  have HRO := Lib.hid hRO
  have HFM := Lib.hid hFM
  have HPA := Lib.hid hpA
  have c0 := cell_of_row _ _ 0 _ _ _ hpA
  clear CF hf0 hrow hzk hgo hmo hbp hbb hnm hlt hck hck2 hnk hng hE hFE hFM hRN hRO g1 g2 g3 ho hle hro hre hbA hpl hpA hn h1 hvl hz hg hk
  go_enter Tryz.func17, Tryz.ntmps17
  go_wp2_with fail
  refine HCF.out.mono ?_
  rintro e w1 ⟨hpost, hb1⟩
  have HB := Lib.hid (bt HBA.out hb1)
  replace HRE := Lib.hid (heap_below HRE.out hb1)
  replace HPA := Lib.hid (heap_below HPA.out hb1)
  clear c0 HCF
  rcases hpost with ⟨hne, rfl⟩ | ⟨h0, bm, mm, rfl, hbm, hmi⟩
  · have t0 : (FE != 0) = true := by rw [bne_iff_ne]; exact hne
    have HNE := Lib.hid hne
    have HBB : Below base W w1 := HB.out.mono (by have := HBP.out; have := HPL.out; omega)
    have HBB2 := Lib.hid HBB
    clear hne hb1 HBB
    go_wp2_with (refine wpList_store_rowP rfl 29 (.tmp 4) (.tmp 21) rfl W.heap.size #[.int .i64 0, .int .i64 0] rfl rfl _ _ HRE.out (by kernel_rfl) rfl (ones2 _ _ rfl rfl) ?_; intro W9 hput; have HP := Lib.hid hput; clear hput)
    refine bodyPost_ret (results_ct Tryz.results17 _ _ W.heap.size 29 _ (0, 0) _ rfl HP.out.here Tryz.underlying29 rfl (by kernel_rfl)) rfl ?_
    exact FSpawnR.bad (G1.out HNE.out).symm HNE.out rfl (HBB2.out.trans (HP.out.below (by have := HBP.out; have := HPL.out; omega)))
  · subst h0
    have HMI := Lib.hid hmi
    have HBM := Lib.hid (show W.heap.size + 1 ≤ bm by rw [World.size_alloc] at hbm; exact hbm)
    have CR := flat_Room f p w1 (HF0.out.below HB.out).flat HG.out
    rw [← HRN.out, ← HRO.out] at CR
    have HCR := Lib.hid CR
    have t0 : ((0 : Int) != 0) = false := rfl
    clear CR hmi hbm hb1
    go_wp2_with fail
    refine HCR.out.mono ?_
    rintro e w2 ⟨rfl, hb2⟩
    replace HMI := Lib.hid (HMI.out.below hb2)
    have HMW := Lib.hid HMI.out.lt
    replace HB := Lib.hid (bt HB.out hb2)
    replace HRE := Lib.hid (heap_below HRE.out hb2)
    replace HPA := Lib.hid (heap_below HPA.out hb2)
    clear hb2 HCR t0
    cases RO with
    | false =>
      have HE := Lib.hid (G2.out trivial rfl)
      have HBB : Below base W w2 := HB.out.mono (by have := HBP.out; have := HPL.out; omega)
      have HBB2 := Lib.hid HBB
      clear HBB
      go_wp2_with (refine wpList_store_rowP rfl 29 (.tmp 4) (.tmp 30) rfl W.heap.size #[.int .i64 0, .int .i64 0] rfl rfl _ _ HRE.out (by kernel_rfl) rfl (ones2 _ _ rfl rfl) ?_; intro W9 hput; have HP := Lib.hid hput; clear hput)
      refine bodyPost_ret (results_ct Tryz.results17 _ _ W.heap.size 29 _ (0, 0) _ rfl HP.out.here Tryz.underlying29 rfl (by kernel_rfl)) rfl ?_
      exact FSpawnR.bad HE.out.symm (by decide) rfl (HBB2.out.trans (HP.out.below (by have := HBP.out; have := HPL.out; omega)))
    | true =>
      have HE := Lib.hid (G3.out trivial rfl)
      have c1 := cell_of_row _ _ 1 _ _ _ HPA.out
      have c2 := cell_of_row _ _ 2 _ _ _ HPA.out
      by_cases hrn : RN = ng
      · have t2 : ((RN : Int) == (ng : Int)) = true := by rw [hrn]; simp
        have h256 : ng < 256 := by have := HO.out; rw [hrn] at this; simpa using this
        have hown2 := own_below HGO.out HB.out
        rw [← NG.out] at hown2
        have HOWN2 := Lib.hid hown2
        have H256 := Lib.hid h256
        have hnp : ∀ g, (Value.slice ag ng cg).ownBlock = some g → g ≠ p := fun g hg => own_ne hown2 hg HPA.out (by decide)
        have HNP := Lib.hid hnp
        have HWS := Lib.hid HB.out.size
        clear hown2 h256 hnp
        have HMOX := HMO.out
        obtain ⟨D, B, hownD, hGD⟩ := HMOX
        have HOD := Lib.hid hownD
        have HGD := Lib.hid hGD
        have hbl := World.ownsMap.lt hownD
        obtain ⟨mes, mc, hmb⟩ := own_block hownD
        have hbp : b ≠ p := fun e => by rw [e, HROW.out] at hmb; cases hmb
        have HBF := Lib.hid (And.intro hbl hbp)
        obtain ⟨gv, hgv⟩ : ∃ g, g = (f.gens ++ [0]).getD RN 0 := ⟨_, rfl⟩
        have HGV := Lib.hid hgv
        have hkey := keyN_of (i := RN) (by have := H256.out; omega)
        have HRNE := Lib.hid hrn
        clear hownD hGD hbl hmb hbp hgv hrn
        go_wp2_with (first
          | (at_builtin; go_must (refine wpList_append_ints rfl _ _ 23 rfl base 3 .i64 8 Tryz.underlying23 (by kernel_rfl) (.slice ag ng cg) ng f.gens rfl (own_bel HOWN2.out ((Below.refl _ _).alloc (Nat.le_refl _) _)) (some ⟨w2.heap.size, 0, none⟩) 1 1 [0] rfl rfl (new_ints1 _ _) (by unfold maxLen; have := H256.out; omega) (by have := H256.out; omega) (by rw [World.size_alloc]; have := HWS.out; have := HPL.out; have := HBP.out; omega) ?_); intro v6 w6 hown6 hg6 hor6; obtain ⟨gq, gd, rfl, hq1, hq2⟩ := hown6.form (by omega); have h6 := (hg6.block _ (by rw [World.size_alloc]; have := lt_of_heap HPA.out; omega) (fun e => HNP.out _ e.symm rfl)).trans (heap_keep HPA.out _); have c6 := cell_of_row _ _ 1 _ _ _ h6; have c62 := cell_of_row _ _ 2 _ _ _ h6; have f6 := Mem.frozen_of_row h6 1; have H6 := Lib.hid h6; have HOWN6 := Lib.hid hown6; have HG6 := Lib.hid hg6
             have HSM := Lib.hid (show ∀ k, k < w2.heap.size → k ≠ p → (∀ g, (Value.slice ag ng cg).ownBlock = some g → k ≠ g) → (w6.setCell ⟨p, 1, none⟩ (.slice (some ⟨gq, 0, none⟩) (ng + 1) gd)).heap[k]? = w2.heap[k]? from fun k h1 h2 h3 => (Below.heap_setCell w6 ⟨p, 1, none⟩ _ k h2).trans ((hg6.block k (by rw [World.size_alloc]; omega) (fun e => h3 k e.symm rfl)).trans (((Below.refl w2.heap.size w2).alloc (Nat.le_refl _) _).block k h1)))
             have HSZ := Lib.hid (show w2.heap.size ≤ (w6.setCell ⟨p, 1, none⟩ (.slice (some ⟨gq, 0, none⟩) (ng + 1) gd)).heap.size by rw [World.size_setCell]; have := hg6.size; rw [World.size_alloc] at this; omega)
             clear hown6 hg6 hor6 hq1 hq2 h6 c1)
          | (at_mapUpdate
             have hown8 := own_same HOD.out ((HSM.out b (by have := HBF.out.1; have := HWS.out; omega) HBF.out.2 (fun g hg e => by have := (HLT.out g hg).1; omega)).trans (HB.out.block b HBF.out.1))
             go_must (refine wpList_mapUpdate_own _ rfl _ _ _ 94 rfl 3 37 keyInt Tryz.underlying94 RV b nm D rfl hown8 (by have : maxLen = 9223372036854775807 := rfl; have := HNM.out; omega) _ _ (keyN RN) rfl rfl hkey (.held _) [] rfl ?_)
             intro w9 hown9 hg9
             have h9p := (hg9.block p (by rw [World.size_setCell]; exact lt_of_heap H6.out) (fun e => HBF.out.2 (by injection e with e; exact e.symm))).trans (Mem.heap_set H6.out 1 (.slice (some ⟨gq, 0, none⟩) (ng + 1) gd))
             have own9 := own_map (own_gb HOWN6.out H6.out (by decide) (gb_set (World.grownBy.refl _ _) 1 _)) hown8 hg9
             have c91 := cell_of_row _ _ 1 _ _ _ h9p
             have hri : RN < ng + 1 := by have := HRNE.out; omega
             have eg : w9.cell? ⟨gq, RN, none⟩ = some (.int .i64 gv) := by rw [own9.cellAt RN (by omega), vints_get .i64 _ RN (by rw [List.length_append, ← NG.out]; exact hri), HGV.out]
             have hre9 := (hg9.block W.heap.size (Nat.lt_of_lt_of_le (lt_of_heap HRE.out) HSZ.out) (fun e => by have := HBF.out.1; injection e with e; omega)).trans ((HSM.out W.heap.size (lt_of_heap HRE.out) (by have := HPL.out; omega) (fun g hg e => by have := (HLT.out g hg).1; have := HBF.out.1; omega)).trans HRE.out)
             have H9P := Lib.hid h9p
             have OWN9 := Lib.hid own9
             have HRE9 := Lib.hid hre9
             have HOWN9 := Lib.hid hown9
             have HS9 := Lib.hid (show ∀ k, k < w2.heap.size → k ≠ p → (∀ g, (Value.slice ag ng cg).ownBlock = some g → k ≠ g) → k ≠ b → w9.heap[k]? = w2.heap[k]? from fun k h1 h2 h3 h4 => (hg9.block k (Nat.lt_of_lt_of_le h1 HSZ.out) (fun e => h4 (by injection e))).trans (HSM.out k h1 h2 h3))
             have HZ9 := Lib.hid (Nat.le_trans HSZ.out hg9.size)
             have HOT := Lib.hid (show w9.os = w2.os ∧ w9.tape = w2.tape ∧ w9.output = w2.output from ⟨hg9.os.trans HG6.out.os, hg9.tape.trans HG6.out.tape, hg9.output.trans HG6.out.output⟩)
             clear h9p own9 hre9 hown9 hg9 hown8 c6 c62 f6)
          | (refine wpList_store_rowP rfl 29 (.tmp 4) (.tmp 61) rfl W.heap.size #[.int .i64 (RN : Int), .int .i64 gv] rfl rfl _ _ HRE9.out (by kernel_rfl) rfl (ones2 _ _ rfl rfl) ?_; intro W10 hput; have HP := Lib.hid hput; clear hput))
        have hsp : spawnF f l = ⟨f.kinds, f.gens ++ [0], updF f.parts RN FM⟩ := by unfold spawnF; rw [← HRN.out, ← HFM.out, if_pos (by rw [HRNE.out, NG.out])]
        have FO := fspawn_end (L9 := f.gens ++ [0]) (RN := RN) (FM := FM) (by rw [← NK.out, ← NG.out]; exact HROW.out) HZK.out HCK.out HGO.out (by rw [← NG.out]; exact HLT.out) HBP.out.1 HBP.out.2 HOD.out HGD.out HB.out (lt_of_heap HRE.out) HRE.out (fun q s => by match q with | 0 => simp | 1 => simp | q + 2 => simp) HMI.out HBM.out (by rw [← NG.out]; exact HS9.out) HZ9.out HOT.out HP.out (by rw [List.length_append, ← NK.out, ← NG.out]; exact H9P.out) (by rw [List.length_append, ← NG.out]; exact OWN9.out) (fun g hg => own_ne OWN9.out (by rw [List.length_append, ← NG.out] at hg; exact hg) HRE9.out (by decide)) HOWN9.out
        refine bodyPost_ret (results_ct Tryz.results17 _ _ W.heap.size 29 _ (0, 0) _ rfl HP.out.here Tryz.underlying29 rfl (by kernel_rfl)) rfl ?_
        exact FSpawnR.good HE.out (by rw [HRN.out]) (by rw [hsp, HGV.out, HRN.out]) (by rw [hsp]; exact FO.1) FO.2
      · have t2 : ((RN : Int) == (ng : Int)) = false := by rw [beq_eq_false_iff_ne]; omega
        have hrl : RN < ng := by have := HLE.out; omega
        have hown2 := own_below HGO.out HB.out
        rw [← NG.out] at hown2
        have HOWN2 := Lib.hid hown2
        have HMOX := HMO.out
        obtain ⟨D, B, hownD, hGD⟩ := HMOX
        have HOD := Lib.hid hownD
        have HGD := Lib.hid hGD
        have hbl := World.ownsMap.lt hownD
        obtain ⟨mes, mc, hmb⟩ := own_block hownD
        have hbp : b ≠ p := fun e => by rw [e, HROW.out] at hmb; cases hmb
        have HBF := Lib.hid (And.intro hbl hbp)
        obtain ⟨gv, hgv⟩ : ∃ g, g = f.gens.getD RN 0 := ⟨_, rfl⟩
        have HGV := Lib.hid hgv
        have HG2 := Lib.hid (show ng ≤ 256 by rw [NG.out]; exact HG.out)
        have hkey := keyN_of (i := RN) (by have := HG2.out; omega)
        have HRL := Lib.hid hrl
        have hag : ∃ ga, ag = some ⟨ga, 0, none⟩ := by obtain ⟨g, c, e, _⟩ := hown2.form (by omega); injection e with e; exact ⟨g, e⟩
        obtain ⟨ga, rfl⟩ := hag
        have i1 : (0 : Int) ≤ (RN : Int) := by omega
        have i2 : (RN : Int) < (ng : Int) := by omega
        clear hown2 hownD hGD hbl hmb hbp hgv hrn hrl
        go_wp2_with (first
          | (at_mapUpdate
             have hown8 := own_same HOD.out (HB.out.block b HBF.out.1)
             go_must (refine wpList_mapUpdate_own _ rfl _ _ _ 94 rfl 3 37 keyInt Tryz.underlying94 RV b nm D rfl hown8 (by have : maxLen = 9223372036854775807 := rfl; have := HNM.out; omega) _ _ (keyN RN) rfl rfl hkey (.held _) [] rfl ?_)
             intro w9 hown9 hg9
             have h9p := (hg9.block p (lt_of_heap HPA.out) (fun e => HBF.out.2 (by injection e with e; exact e.symm))).trans HPA.out
             have own9 := own_map HOWN2.out hown8 hg9
             have c91 := cell_of_row _ _ 1 _ _ _ h9p
             have hri : RN < ng := HRL.out
             have eg : w9.cell? ⟨ga, RN, none⟩ = some (.int .i64 gv) := by rw [own9.cellAt RN (by omega), vints_get .i64 _ RN (by rw [← NG.out]; exact hri), HGV.out]
             have hre9 := (hg9.block W.heap.size (lt_of_heap HRE.out) (fun e => by have := HBF.out.1; injection e with e; omega)).trans HRE.out
             have H9P := Lib.hid h9p
             have OWN9 := Lib.hid own9
             have HRE9 := Lib.hid hre9
             have HOWN9 := Lib.hid hown9
             have HS9 := Lib.hid (show ∀ k, k < w2.heap.size → k ≠ p → (∀ g, (Value.slice (some ⟨ga, 0, none⟩) ng cg).ownBlock = some g → k ≠ g) → k ≠ b → w9.heap[k]? = w2.heap[k]? from fun k h1 h2 h3 h4 => hg9.block k h1 (fun e => h4 (by injection e)))
             have HZ9 := Lib.hid hg9.size
             have HOT := Lib.hid (show w9.os = w2.os ∧ w9.tape = w2.tape ∧ w9.output = w2.output from ⟨hg9.os, hg9.tape, hg9.output⟩)
             clear h9p own9 hre9 hown9 hg9 hown8 c1 c2)
          | (refine wpList_store_rowP rfl 29 (.tmp 4) (.tmp 61) rfl W.heap.size #[.int .i64 (RN : Int), .int .i64 gv] rfl rfl _ _ HRE9.out (by kernel_rfl) rfl (ones2 _ _ rfl rfl) ?_; intro W10 hput; have HP := Lib.hid hput; clear hput))
        have hsp : spawnF f l = ⟨f.kinds, f.gens, updF f.parts RN FM⟩ := by unfold spawnF; rw [← HRN.out, ← HFM.out, if_neg (by have := HRL.out; rw [← NG.out]; omega)]
        have FO := fspawn_end (L9 := f.gens) (RN := RN) (FM := FM) (by rw [← NK.out, ← NG.out]; exact HROW.out) HZK.out HCK.out HGO.out (by rw [← NG.out]; exact HLT.out) HBP.out.1 HBP.out.2 HOD.out HGD.out HB.out (lt_of_heap HRE.out) HRE.out (fun q s => by match q with | 0 => simp | 1 => simp | q + 2 => simp) HMI.out HBM.out (by rw [← NG.out]; exact HS9.out) HZ9.out HOT.out HP.out (by rw [← NK.out, ← NG.out]; exact H9P.out) (by rw [← NG.out]; exact OWN9.out) (fun g hg => own_ne OWN9.out (by rw [← NG.out] at hg; exact hg) HRE9.out (by decide)) HOWN9.out
        refine bodyPost_ret (results_ct Tryz.results17 _ _ W.heap.size 29 _ (0, 0) _ rfl HP.out.here Tryz.underlying29 rfl (by kernel_rfl)) rfl ?_
        exact FSpawnR.good HE.out (by rw [HRN.out]) (by rw [hsp, HGV.out, HRN.out]) (by rw [hsp]; exact FO.1) FO.2
end Go.Proofs.YtfckbkhnelgjbaaGreatDoor
end
