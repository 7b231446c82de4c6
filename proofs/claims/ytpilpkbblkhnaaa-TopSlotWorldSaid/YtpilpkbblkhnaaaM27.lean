/- Lemmas for the law TopSlotWorld: WSpawnO. No conditions. -/
import Derived.Test.YtpilpkbblkhnaaaM23
import Derived.Test.YtpilpkbblkhnaaaM25
/- world.Spawn: the world that it returns leans on nothing elder than the call. By program (gen_wspawno.py). -/
section
namespace Go.Proofs.Ytpilpkbblkhnaaa
open Go.ChangeShapes Go.WideShapes Go.ChangeAt Go.RowKit Go.Nm Go.Mem
set_option linter.unusedVariables false
def SpawnRO (y : WorldV) (l : List CompV) (E : Int) (W : World) (e : Ending) (w' : World) : Prop :=
  (∃ (v : Value) (xn xg : Int) (Z : WorldV), e = .returned (.tuple #[v, .agg #[.int .i64 xn, .int .i64 xg], .int .i64 E]) ∧ Up W.heap.size (fun w => WorldIn w v Z) w' ∧ (E ≠ 0 → xn = 0 ∧ xg = 0 ∧ Z = ⟨[], [], []⟩) ∧ (E = 0 → xn = (spawnI y l).n ∧ xg = (spawnI y l).gen ∧ SpawnZ y l Z)) ∧ Below W.heap.size W w'
theorem SpawnRO.old {y : WorldV} {l : List CompV} {E : Int} {W w' : World} {e : Ending} (h : SpawnRO y l E W e w') : SpawnR y l E W e w' := by
  obtain ⟨⟨v, xn, xg, Z, h1, h2, h3, h4⟩, h5⟩ := h
  exact ⟨⟨v, xn, xg, Z, h1, h2.now, h3, h4⟩, h5⟩
theorem SpawnRO.bad {y : WorldV} {l : List CompV} {E F : Int} {W w' : World} {e : Ending} (hf : F = E) (h : E ≠ 0) (he : e = .returned (.tuple #[.agg #[.slice none 0 0, .slice none 0 0, .slice none 0 0], .agg #[.int .i64 0, .int .i64 0], .int .i64 E])) (hb : Below W.heap.size W w') : SpawnRO y l F W e w' := by
  subst hf
  exact ⟨⟨_, 0, 0, ⟨[], [], []⟩, he, fun _ _ => ⟨none, 0, none, 0, none, 0, rfl, fun h => absurd h (by simp), fun h => absurd h (by simp), fun h => absurd h (by simp), by simp, by simp⟩, fun _ => ⟨rfl, rfl, rfl⟩, fun h0 => absurd h0 h⟩, hb⟩
theorem SpawnRO.good {y : WorldV} {l : List CompV} {E : Int} {W w' : World} {v : Value} {xn xg : Int} {Z : WorldV} (hE : 0 = E) (h1 : xn = (spawnI y l).n) (h2 : xg = (spawnI y l).gen) (hz : SpawnZ y l Z) (hw : Up W.heap.size (fun w => WorldIn w v Z) w') (hb : Below W.heap.size W w') : SpawnRO y l E W (.returned (.tuple #[v, .agg #[.int .i64 xn, .int .i64 xg], .int .i64 0])) w' := by
  subst hE
  exact ⟨⟨v, xn, xg, Z, rfl, hw, fun h => absurd rfl h, fun _ => ⟨h1, h2, hz⟩⟩, hb⟩
/-- the state behind the copy: W the start, s1 .. s2 where the fitted components lie, s3 where the copy began -/
structure SpO (y : WorldV) (l : List CompV) (W : World) (s1 s2 s3 : Nat) (fa kk : Option Addr) (nk ni : Nat) (vg vi : Value) (L : List Int) (V : List Value) (wc : World) : Prop where
  row : wc.heap[W.heap.size]? = some (.cells #[.slice kk nk nk, vg, vi] 27 (0, 0))
  ow : OW wc s3 ⟨y.kinds, L, y.items⟩ kk vg vi V
  r4 : wc.heap[W.heap.size + 1]? = some (.cells #[.slice none 0 0, .slice none 0 0, .slice none 0 0] 27 (0, 0))
  r5 : wc.heap[W.heap.size + 1 + 1]? = some (.cells #[.int .i64 0, .int .i64 0] 30 (0, 0))
  bel : Below W.heap.size W wc
  comps : Win s1 s2 (fun w => SlAt 2 CompAt w fa (listed (fitAllM y.kinds l))) wc
  o1 : W.heap.size + 1 + 1 < s1
  o2 : s1 ≤ s2
  o3 : s2 ≤ s3
theorem SpO.below {y : WorldV} {l : List CompV} {W : World} {s1 s2 s3 : Nat} {fa kk : Option Addr} {nk ni : Nat} {vg vi : Value} {L : List Int} {V : List Value} {w w' : World} (h : SpO y l W s1 s2 s3 fa kk nk ni vg vi L V w) (hb : Below w.heap.size w w') : SpO y l W s1 s2 s3 fa kk nk ni vg vi L V w' :=
  ⟨heap_below h.row hb, h.ow.below hb, heap_below h.r4 hb, heap_below h.r5 hb, bt h.bel hb, h.comps.to (Nat.le_trans h.comps.1 hb.size) (fun g _ g2 => hb.block g (Nat.lt_of_lt_of_le g2 h.comps.1)), h.o1, h.o2, h.o3⟩
theorem SpO.grow {y : WorldV} {l : List CompV} {W : World} {s1 s2 s3 : Nat} {fa kk : Option Addr} {nk ni : Nat} {vg vi : Value} {L : List Int} {V : List Value} {w5 : World} (h : SpO y l W s1 s2 s3 fa kk nk ni vg vi L V w5)
    {v6 : Value} {L6 : List Int} {w6 : World} (hg : w5.grownBy w6 vg.ownBlock) (ho : w6.ownsRow s3 3 1 v6 L6.length (vints .i64 L6)) (hor : v6.ownBlock = vg.ownBlock ∨ ∀ g, v6.ownBlock = some g → w5.heap.size ≤ g) : SpO y l W s1 s2 s3 fa kk nk ni v6 vi L6 V (w6.setCell ⟨W.heap.size, 1, none⟩ v6) := by
  have o1 := h.o1
  have o2 := h.o2
  have o3 := h.o3
  have hrl : ∀ r, vg.ownBlock = some r → s3 ≤ r ∧ r < w5.heap.size := fun r hr => own_lt h.ow.gens r hr
  have hr6 : w6.heap[W.heap.size]? = some (.cells #[.slice kk nk nk, vg, vi] 27 (0, 0)) := (hg.block _ (lt_of_heap h.row) (fun e => by have := (hrl _ e.symm).1; omega)).trans h.row
  have hgc : w6.grownBy (w6.setCell ⟨W.heap.size, 1, none⟩ v6) (some W.heap.size) := gb_set (World.grownBy.refl _ _) 1 _
  have far : ∀ k, k ≠ W.heap.size → (w6.setCell ⟨W.heap.size, 1, none⟩ v6).heap[k]? = w6.heap[k]? := fun k hk => Below.heap_setCell w6 ⟨W.heap.size, 1, none⟩ v6 k hk
  refine ⟨Mem.heap_set hr6 1 _, (h.ow.setGens hg ho hor).box hgc (by omega), ?_, ?_, ?_, ?_, o1, o2, o3⟩
  · exact (far _ (by omega)).trans ((hg.block _ (lt_of_heap h.r4) (fun e => by have := (hrl _ e.symm).1; omega)).trans h.r4)
  · exact (far _ (by omega)).trans ((hg.block _ (lt_of_heap h.r5) (fun e => by have := (hrl _ e.symm).1; omega)).trans h.r5)
  · exact (h.bel.grown hg h.bel.size (fun r hr => by have := (hrl r hr).1; omega)).setCell (p := ⟨W.heap.size, 1, none⟩) (Nat.le_refl _) _
  · refine h.comps.to (by have := h.comps.1; have := hg.size; rw [World.size_setCell]; omega) (fun g g1 g2 => (far g (by omega)).trans (hg.block g (Nat.lt_of_lt_of_le g2 h.comps.1) (fun e => by have := (hrl _ e.symm).1; omega)))
def F_spo (WB BE nk gl gd ni ic : Nat) (FN gv : Int) (kk gq ia : Option Addr) (jq : Nat) (v : Value) (w : World) : Prop :=
  match jq with
  | 0 => v = .agg #[.slice kk nk nk, .slice gq gl gd, .slice ia ni ic]
  | 1 => v = .agg #[.int .i64 FN, .int .i64 gv]
  | 2 => w.heap[WB + 1]? = some (.cells #[.slice kk nk nk, .slice gq gl gd, .slice ia ni ic] 27 (0, 0))
  | _ => True
theorem F_spo_mono (WB BE nk gl gd ni ic : Nat) (FN gv : Int) (kk gq ia : Option Addr) : FactsR (RG 2 (some (WB + 1))) (F_spo WB BE nk gl gd ni ic FN gv kk gq ia) := ⟨by
  intro i jq v w w2 hij h hb
  unfold F_spo at h ⊢
  split at h
  all_goals first
    | exact h
    | exact heap_below h (hb.1 hij)
    | trivial⟩

set_option maxHeartbeats 16000000 in
set_option maxRecDepth 20000 in
theorem world_SpawnO (y : WorldV) (l : List CompV) (v : Value) (a : Option Addr) (n ca : Nat) (W : World) (hv : WorldIn W v y) (hsm : SmallW y) (hkf : ∀ k ∈ y.kinds, k.fields.length ≤ 1048576) (hn : l.length = n) (h1 : n ≤ 1048576) (hca : n ≤ ca) (hvl : ∀ z ∈ l, z.vals.length ≤ 1048576) (hz : SlAt 2 CompAt W a l) :
    Calls Try.prog 9 #[v, .slice a n ca] W (SpawnRO y l (spawnE y l) W) := by
  have hv0 := hv
  obtain ⟨ak, ck, ag, cg, ai, ci, rfl, q1, q2, q3, q4, q5⟩ := hv
  obtain ⟨nk, hnk⟩ : ∃ n, n = y.kinds.length := ⟨_, rfl⟩
  obtain ⟨ng, hng⟩ : ∃ n, n = y.gens.length := ⟨_, rfl⟩
  obtain ⟨ni, hni⟩ : ∃ n, n = y.items.length := ⟨_, rfl⟩
  rw [← hnk, ← hng, ← hni] at hv0
  rw [← hnk] at q4
  rw [← hnk, ← hng, ← hni]
  obtain ⟨E, hE⟩ : ∃ E, E = spawnE y l := ⟨_, rfl⟩
  rw [← hE]
  obtain ⟨CE, hCE⟩ : ∃ E, E = checkE y := ⟨_, rfl⟩
  obtain ⟨FE, hFE⟩ : ∃ E, E = fitAllE y.kinds l := ⟨_, rfl⟩
  have g1 : CE ≠ 0 → E = CE := fun h => by rw [hE, hCE]; unfold spawnE; rw [if_pos (by rw [← hCE]; exact h)]
  have g2 : CE = 0 → FE ≠ 0 → E = FE := fun h h2 => by rw [hE, hFE]; unfold spawnE; rw [if_neg (by rw [← hCE]; exact fun x => x h), if_pos (by rw [← hFE]; exact h2)]
  have g3 : CE = 0 → FE = 0 → freeOk y = false → E = 6 := fun h h2 h3 => by rw [hE]; unfold spawnE; rw [if_neg (by rw [← hCE]; exact fun x => x h), if_neg (by rw [← hFE]; exact fun x => x h2), if_pos h3]
  have g4 : CE = 0 → FE = 0 → freeOk y = true → E = 0 := fun h h2 h3 => by rw [hE]; unfold spawnE; rw [if_neg (by rw [← hCE]; exact fun x => x h), if_neg (by rw [← hFE]; exact fun x => x h2), if_neg (by rw [h3]; simp)]
  have gs : CE = 0 → y.items.Pairwise (fun x y => x.n < y.n) ∧ ng ≤ 256 := fun h => by
    rw [hCE] at h
    unfold checkE at h
    split at h
    · rename_i hh; exact absurd h hh
    · split at h
      · cases h
      · rename_i hl
        split at h
        · rename_i hc
          have := (itemsAt_iff y y.items.length (Nat.le_refl _)).1 hc.2
          rw [List.take_length] at this
          exact ⟨this.1, by rw [hng]; omega⟩
        · cases h
  obtain ⟨o1, ho1⟩ : ∃ o : Obj, o = .cells #[.slice ak nk ck, .slice ag ng cg, .slice ai ni ci] 27 (0, 0) := ⟨_, rfl⟩
  obtain ⟨o2, ho2⟩ : ∃ o : Obj, o = .cells #[.slice none 0 0, .slice none 0 0, .slice none 0 0] 27 (0, 0) := ⟨_, rfl⟩
  obtain ⟨o3, ho3⟩ : ∃ o : Obj, o = .cells #[.int .i64 0, .int .i64 0] 30 (0, 0) := ⟨_, rfl⟩
  have hr := fun i o => allocs_get [o1, o2, o3] W i o
  have hbA := allocs_below [o1, o2, o3] W
  have r2 : (allocs W [o1, o2, o3]).heap[W.heap.size]? = some o1 := hr 0 o1 rfl
  have r4 : (allocs W [o1, o2, o3]).heap[W.heap.size + 1]? = some o2 := hr 1 o2 rfl
  have r5 : (allocs W [o1, o2, o3]).heap[W.heap.size + 1 + 1]? = some o3 := hr 2 o3 rfl
  simp only [allocs] at r2 r4 r5 hbA
  rw [ho1, ho2, ho3] at r2 r4 r5 hbA
  have HBA := Lib.hid hbA
  have R2 := Lib.hid r2
  have R4 := Lib.hid r4
  have R5 := Lib.hid r5
  have HV0 := Lib.hid hv0
  have HSM := Lib.hid hsm
  have HKF := Lib.hid hkf
  have HZK := Lib.hid q1
  have HKC := Lib.hid (And.intro q4 q5)
  have NK := Lib.hid hnk
  have NG := Lib.hid hng
  have NI := Lib.hid hni
  have HN := Lib.hid hn
  have HVL := Lib.hid hvl
  have HZ := Lib.hid hz
  have G1 := Lib.hid g1
  have G2 := Lib.hid g2
  have G3 := Lib.hid g3
  have G4 := Lib.hid g4
  have GS := Lib.hid gs
  have HCE := Lib.hid hCE
  have HFE := Lib.hid hFE
  have CK := Lib.hid (fun w' (hb : Below W.heap.size W w') => world_Check y _ w' (hv0.below hb) hsm)
  rw [← hCE] at CK
  clear hv0 hsm hkf q1 q2 q3 q4 q5 hnk hng hni hn hvl hz g1 g2 g3 g4 gs hCE hFE hE hr hbA r2 r4 r5 ho1 ho2 ho3 o1 o2 o3
  go_enter Try.func9, Try.ntmps9
  have e0 := cell_of_row _ _ 0 _ _ _ R2.out
  have e1 := cell_of_row _ _ 1 _ _ _ R2.out
  have e2 := cell_of_row _ _ 2 _ _ _ R2.out
  go_wp2_with fail
  refine (CK.out _ HBA.out).mono ?_
  rintro e w1 ⟨rfl, hb1⟩
  have HB := Lib.hid (bt HBA.out hb1)
  replace R2 := Lib.hid (heap_below R2.out hb1)
  replace R4 := Lib.hid (heap_below R4.out hb1)
  replace R5 := Lib.hid (heap_below R5.out hb1)
  have HW1Lo := Lib.hid (lt_of_heap R5.out)
  clear e0 e1 e2 hb1 HBA CK
  by_cases hc : CE = 0
  · subst hc
    replace G2 := Lib.hid (G2.out rfl)
    replace G3 := Lib.hid (G3.out rfl)
    replace G4 := Lib.hid (G4.out rfl)
    replace GS := Lib.hid (GS.out rfl)
    have HK0 := Lib.hid (checkE_kinds HCE.out.symm)
    have t0 : ((0 : Int) != 0) = false := rfl
    have CF := world_Fit sorts_comps y.kinds l ak a nk ck n ca NK.out.symm HN.out (by rw [NK.out]; exact HSM.out.1) h1 hca HKC.out.1 HKC.out.2 HVL.out w1 (HZK.out.below KindAt.abides HB.out) (HZ.out.below CompAt.abides HB.out)
    unfold FitWPost at CF
    rw [HK0.out, ← HFE.out] at CF
    have HCF := Lib.hid CF
    have e0 := cell_of_row _ _ 0 _ _ _ R2.out
    clear CF G1
    go_wp2_with fail
    refine HCF.out.mono ?_
    intro e w2 hpost
    have hb2 : Below w1.heap.size w1 w2 := hpost.2
    have HW12 := Lib.hid hb2.size
    replace HB := Lib.hid (bt HB.out hb2)
    replace R2 := Lib.hid (heap_below R2.out hb2)
    replace R4 := Lib.hid (heap_below R4.out hb2)
    replace R5 := Lib.hid (heap_below R5.out hb2)
    have hcase := hpost.1
    clear e0 hpost HCF
    rcases hcase with ⟨h, _⟩ | ⟨_, hne, rfl⟩ | ⟨_, h0, fa, fc, rfl, hfu⟩
    · exact absurd rfl h
    · have HE := Lib.hid (G2.out hne)
      have HNE := Lib.hid hne
      have t1 : (FE != 0) = true := by rw [bne_iff_ne]; exact hne
      clear hb2 hne
      go_wp2_with (first
        | (refine wpList_store_rowP rfl 27 (.tmp 4) (.tmp 31) rfl (W.heap.size + 1) #[.slice none 0 0, .slice none 0 0, .slice none 0 0] rfl rfl _ _ R4.out (by kernel_rfl) rfl (ones3 _ _ _ rfl rfl rfl) ?_; intro W9 hput; have HP4 := Lib.hid hput; have R59 := Lib.hid ((hput.else_ _ (by omega)).trans R5.out); clear hput)
        | (refine wpList_store_rowP rfl 30 (.tmp 5) (.tmp 32) rfl (W.heap.size + 1 + 1) #[.int .i64 0, .int .i64 0] rfl rfl _ _ R59.out (by kernel_rfl) rfl (ones2 _ _ rfl rfl) ?_; intro W10 hput; have HP5 := Lib.hid hput; clear hput))
      refine bodyPost_ret (results_cct Try.results9 _ _ (W.heap.size + 1) (W.heap.size + 1 + 1) 27 30 _ _ (0, 0) (0, 0) _ _ rfl ((HP5.out.else_ _ (by omega)).trans HP4.out.here) Try.underlying27 rfl (by kernel_rfl) rfl HP5.out.here Try.underlying30 rfl (by kernel_rfl)) rfl ?_
      exact SpawnRO.bad HE.out (by first | exact HNE.out | decide) rfl (HB.out.trans ((HP4.out.below (by omega)).trans (HP5.out.below (by omega))))
    · subst h0
      replace G3 := Lib.hid (G3.out rfl)
      replace G4 := Lib.hid (G4.out rfl)
      have HFU := Lib.hid hfu
      obtain ⟨nf, hnf⟩ : ∃ nf, nf = (listed (fitAllM y.kinds l)).length := ⟨_, rfl⟩
      rw [← hnf]
      have HNF := Lib.hid hnf
      have CR := world_Free y _ w2 (HV0.out.below HB.out) HSM.out
      obtain ⟨FN, hFN⟩ : ∃ N, N = freeN y := ⟨_, rfl⟩
      obtain ⟨FO, hFO⟩ : ∃ N, N = freeOk y := ⟨_, rfl⟩
      rw [← hFN, ← hFO] at CR
      rw [← hFO] at G3 G4
      have HCR := Lib.hid CR
      have HFN := Lib.hid hFN
      have HFO := Lib.hid hFO
      have e0 := cell_of_row _ _ 0 _ _ _ R2.out
      have e1 := cell_of_row _ _ 1 _ _ _ R2.out
      have e2 := cell_of_row _ _ 2 _ _ _ R2.out
      have HWL2 := Lib.hid (lt_of_heap R5.out)
      clear CR hFN hFO hnf hb2 hfu
      go_wp2_with fail
      refine HCR.out.mono ?_
      rintro e w3 ⟨rfl, hb3⟩
      replace HB := Lib.hid (bt HB.out hb3)
      replace R2 := Lib.hid (heap_below R2.out hb3)
      replace R4 := Lib.hid (heap_below R4.out hb3)
      replace R5 := Lib.hid (heap_below R5.out hb3)
      have HFU3 := Lib.hid (HFU.out.below hb3)
      have HB23 := Lib.hid hb3
      have HW23c := Lib.hid hb3.size
      have HW23 := Lib.hid hb3.size
      have HWL := Lib.hid (show W.heap.size + 1 + 1 < w2.heap.size from HWL2.out)
      clear e0 e1 e2 hb3 HCR
      cases FO with
      | false =>
        have HE := Lib.hid (G3.out rfl)
        have HNE := Lib.hid (show (6 : Int) ≠ 0 by decide)
        go_wp2_with (first
          | (refine wpList_store_rowP rfl 27 (.tmp 4) (.tmp 41) rfl (W.heap.size + 1) #[.slice none 0 0, .slice none 0 0, .slice none 0 0] rfl rfl _ _ R4.out (by kernel_rfl) rfl (ones3 _ _ _ rfl rfl rfl) ?_; intro W9 hput; have HP4 := Lib.hid hput; have R59 := Lib.hid ((hput.else_ _ (by omega)).trans R5.out); clear hput)
          | (refine wpList_store_rowP rfl 30 (.tmp 5) (.tmp 42) rfl (W.heap.size + 1 + 1) #[.int .i64 0, .int .i64 0] rfl rfl _ _ R59.out (by kernel_rfl) rfl (ones2 _ _ rfl rfl) ?_; intro W10 hput; have HP5 := Lib.hid hput; clear hput))
        refine bodyPost_ret (results_cct Try.results9 _ _ (W.heap.size + 1) (W.heap.size + 1 + 1) 27 30 _ _ (0, 0) (0, 0) _ _ rfl ((HP5.out.else_ _ (by omega)).trans HP4.out.here) Try.underlying27 rfl (by kernel_rfl) rfl HP5.out.here Try.underlying30 rfl (by kernel_rfl)) rfl ?_
        exact SpawnRO.bad HE.out (by first | exact HNE.out | decide) rfl (HB.out.trans ((HP4.out.below (by omega)).trans (HP5.out.below (by omega))))
      | true =>
        have HE := Lib.hid (G4.out rfl)
        have hcp := world_CopyO y _ w3 (HV0.out.below HB.out) HSM.out HKF.out
        rw [← NK.out, ← NG.out, ← NI.out] at hcp
        have HCP := Lib.hid hcp
        have HFW := Lib.hid (Win.ofUp HFU.out)
        have e0 := cell_of_row _ _ 0 _ _ _ R2.out
        have e1 := cell_of_row _ _ 1 _ _ _ R2.out
        have e2 := cell_of_row _ _ 2 _ _ _ R2.out
        clear G2 G3 G4 hcp
        go_wp2_with fail
        refine HCP.out.mono ?_
        rintro e w4 ⟨⟨kk, vg, G, V, rfl, how4⟩, hb4⟩
        obtain ⟨ga, gc, rfl⟩ := own_slC how4.gens
        rw [← NG.out]
        rw [← NG.out] at how4
        replace HB := Lib.hid (bt HB.out hb4)
        replace R2 := Lib.hid (heap_below R2.out hb4)
        replace R4 := Lib.hid (heap_below R4.out hb4)
        replace R5 := Lib.hid (heap_below R5.out hb4)
        have hw23 : w2.heap.size ≤ w3.heap.size := HW23.out
        have HW34 := Lib.hid hb4.size
        have HW1L := Lib.hid HW1Lo.out
        have HFW4 := Lib.hid (HFW.out.to (Nat.le_trans hw23 hb4.size) (fun g _ g2 => (hb4.block g (Nat.lt_of_lt_of_le g2 hw23)).trans (HB23.out.block g g2)))
        have hWw : W.heap.size + 1 + 1 < w2.heap.size := HWL.out
        have HOW4 := Lib.hid how4
        clear e0 e1 e2 how4 hb4 HCP HFW HFU HFU3 HWL HB23 HW23
        have HF1 := Lib.hid (fun (w5 : World) (hput : PutR w4 w5 W.heap.size 27 #[.slice kk nk nk, .slice ga ng gc, .slice (some ⟨G, 0, none⟩) ni ni]) => show SpO y l W w1.heap.size w2.heap.size w3.heap.size fa kk nk ni (.slice ga ng gc) (.slice (some ⟨G, 0, none⟩) ni ni) y.gens V w5 ∧ w5.heap.size = w4.heap.size from by
          have hgb : w4.grownBy w5 (some W.heap.size) := ⟨hput.os, hput.tape, hput.output, by rw [hput.size]; exact Nat.le_refl _, fun k hk hne => hput.else_ k (fun e => hne (by rw [e]))⟩
          have hw1 := HW1L.out
          have hw3 : w2.heap.size ≤ w3.heap.size := HW23c.out
          exact ⟨⟨hput.here, HOW4.out.box hgb (by omega), (hput.else_ _ (by omega)).trans R4.out, (hput.else_ _ (by omega)).trans R5.out, HB.out.trans (hput.below (Nat.le_refl _)), HFW4.out.to (by rw [hput.size]; exact HFW4.out.1) (fun g g1 g2 => hput.else_ g (by omega)), hw1, HW12.out, HW23c.out⟩, hput.size⟩)
        by_cases hfn : FN = ng
        · have t2 : ((FN : Int) == (ng : Int)) = true := by rw [hfn]; simp
          have HSG := Lib.hid (show spawnG y = y.gens ++ [0] by unfold spawnG; rw [if_pos (by rw [← HFN.out, hfn, NG.out])])
          have hltA : FN < ng + 1 := by omega
          have HFN2 := Lib.hid hltA
          obtain ⟨gv, hgv⟩ : ∃ g, g = (y.gens ++ [0]).getD FN 0 := ⟨_, rfl⟩
          have HGV := Lib.hid hgv
          have HNG1 := Lib.hid (show (y.gens ++ [0]).length = ng + 1 by rw [List.length_append, ← NG.out]; rfl)
          clear hgv
          clear hfn HFW4 HB R4 R5
          go_wp2_with (first
            | (refine wpList_store_rowP rfl 27 (.tmp 2) (.tmp 44) rfl W.heap.size #[.slice kk nk nk, .slice ga ng gc, .slice (some ⟨G, 0, none⟩) ni ni] rfl rfl _ _ R2.out (by kernel_rfl) rfl (ones3 _ _ _ rfl rfl rfl) ?_; intro w5 hput; have HP := Lib.hid (HF1.out w5 hput); have e1 : w5.cell? ⟨W.heap.size, 1, none⟩ = some (.slice ga ng gc) := (by rw [cell_of_row _ _ 1 _ _ _ hput.here]; rfl); clear hput)
            | (at_builtin; go_must (refine wpList_append_ints rfl _ _ 22 rfl w3.heap.size 3 .i64 8 Try.underlying22 (by kernel_rfl) (.slice ga ng gc) ng y.gens rfl (own_bel (by have h := HP.out.1.ow.gens; rw [show (WorldV.gens ⟨y.kinds, y.gens, y.items⟩) = y.gens from rfl, ← NG.out] at h; exact h) ((Below.refl _ _).alloc (Nat.le_refl _) _)) (some ⟨w5.heap.size, 0, none⟩) 1 1 [0] rfl rfl (new_ints1 _ _) (by unfold maxLen; have := GS.out.2; omega) (by have := GS.out.2; omega) (by rw [World.size_alloc, HP.out.2]; have := HW34.out; omega) ?_); intro v6 w6 hown6 hg6 hor6; obtain ⟨gq, gd, rfl, hq1, hq2⟩ := hown6.form (by omega); have h6 := spawn_grow HP.out.1.row hg6 (fun r h => (own_lt HP.out.1.ow.gens r h).1) (by have := HP.out.1.o1; have := HP.out.1.o2; have := HP.out.1.o3; omega); have f6 := h6.2; have c6 := h6.1; have hsp6 := HP.out.1.grow ((World.grownBy_alloc w5 _ _).trans hg6) (show w6.ownsRow w3.heap.size 3 1 _ (y.gens ++ [0]).length (vints .i64 (y.gens ++ [0])) from by rw [HNG1.out]; exact hown6) (hor6.imp id (fun e g h => by rw [e] at h; injection h with h; rw [World.size_alloc] at h; omega)); have HSP := Lib.hid hsp6; have eg : w6.cell? ⟨gq, FN, none⟩ = some (.int .i64 gv) := (by have hff := HFN2.out; rw [hown6.cellAt FN (by omega), vints_get .i64 _ FN (by rw [HNG1.out]; exact hff), HGV.out]); have e2 := cell_of_row _ _ 2 _ _ _ (heap_keep hsp6.row (.cells #[.int .i64 (FN : Int), .int .i64 gv] 30 (0, 0))); clear hsp6; clear hown6 hg6 hor6 h6))
          obtain ⟨wc, hwc⟩ : ∃ wc, wc = w6.setCell ⟨W.heap.size, 1, none⟩ (.slice (some ⟨gq, 0, none⟩) (ng + 1) gd) := ⟨_, rfl⟩
          have hsp := HSP.out
          rw [← HSG.out, ← hwc] at hsp
          rw [← hwc]
          have hws : w6.heap.size = wc.heap.size := by rw [hwc]; simp
          rw [hws]
          have HGW := Lib.hid (show gv = (spawnG y).getD FN 0 by rw [HSG.out]; exact HGV.out)
          obtain ⟨gl, hgl⟩ : ∃ gl, gl = ng + 1 := ⟨_, rfl⟩
          rw [← hgl] at hsp ⊢
          have HFL := HFN2.out
          rw [← hgl] at HFL
          have HSPC := Lib.hid hsp
          clear hws hsp hwc hgl f6 c6 e1 e2 eg t2 HSP HP HSG HFN2 HGV HNG1
          obtain ⟨wd, hwd⟩ : ∃ wd, wd = wc.alloc (.cells #[.int .i64 (FN : Int), .int .i64 gv] 30 (0, 0)) := ⟨_, rfl⟩
          have hbd : Below wc.heap.size wc wd := by rw [hwd]; exact (Below.refl _ _).alloc (Nat.le_refl _) _
          have hre : wd.heap[wc.heap.size]? = some (.cells #[.int .i64 (FN : Int), .int .i64 gv] 30 (0, 0)) := by rw [hwd]; exact heap_alloc_new wc _
          rw [← hwd]
          obtain ⟨BE, hBE⟩ : ∃ b, b = wc.heap.size := ⟨_, rfl⟩
          rw [← hBE] at hre ⊢
          have hsd := HSPC.out.below hbd
          have hBW : G < BE := by rw [hBE]; exact (own_lt HSPC.out.ow.items G rfl).2
          have HBS := Lib.hid (bin_items y.items (some ⟨G, 0, none⟩) ni ni (FN : Int) NI.out.symm (by rw [NI.out]; exact HSM.out.2.2.1) GS.out.1 wd hsd.ow.itemsA)
          have HSD := Lib.hid hsd
          have HRE := Lib.hid hre
          have HBEG := Lib.hid hBW
          clear hbd hre hsd hwd hBE hBW HSPC
          refine HBS.out.mono ?_
          rintro e we ⟨⟨ip, fo, hip, rfl, hlo, hhi, _⟩, hbe⟩
          have HLO := Lib.hid hlo
          have HHI := Lib.hid hhi
          have hse := HSD.out.below hbe
          have hre := heap_below HRE.out hbe
          have hown : we.ownsRow G 33 3 (.slice (some ⟨G, 0, none⟩) ni ni) ni (icells y.items V) := by
            have h := own_base hse.ow.items (base2 := G) (fun g hg => by injection hg with hg; exact Nat.le_of_eq hg)
            rw [show (WorldV.items ⟨y.kinds, _, y.items⟩).length = ni from NI.out.symm] at h
            exact h
          have hba : Below we.heap.size we (we.alloc (.cells #[.int .i64 (FN : Int), .int .i64 gv, .slice fa nf fc] 33 (0, 0))) := (Below.refl _ _).alloc (Nat.le_refl _) _
          have hro := new_row we #[.int .i64 (FN : Int), .int .i64 gv, .slice fa nf fc] 33
          have HIN := Lib.hid (ins_items (icells y.items V) [.int .i64 (FN : Int), .int .i64 gv, .slice fa nf fc] G ni ip we.heap.size (we.alloc (.cells #[.int .i64 (FN : Int), .int .i64 gv, .slice fa nf fc] 33 (0, 0))) (own_below hown hba) hip (by have := HSM.out.2.2.1; rw [← NI.out] at this; exact this) rfl
            (fun j v hj => by have := hro j v hj; simpa using this) (icells_one hse.ow.one) (fun v hv => by simp only [List.mem_cons, List.not_mem_nil, or_false] at hv; rcases hv with rfl | rfl | rfl <;> rfl))
          have c2 := cell_of_row _ _ 2 _ _ _ hse.row
          have d0 := cell_of_row _ _ 0 _ _ _ hre
          have d1 := cell_of_row _ _ 1 _ _ _ hre
          have HSE := Lib.hid hse
          have HREE := Lib.hid hre
          have HBA := Lib.hid hba
          clear hlo hhi hse hre hown hba hro hbe HBS HSD HRE
          go_wp2_with fail
          refine HIN.out.mono ?_
          rintro e w8 ⟨v8, rfl, ho8, hg8⟩
          obtain ⟨ia, ic, rfl⟩ := own_slice ho8
          have hga : we.grownBy w8 (some G) := (World.grownBy_alloc we _ _).trans hg8
          have o1 := HSE.out.o1
          have o2 := HSE.out.o2
          have o3 := HSE.out.o3
          have hbg := HBEG.out
          have o4 : w3.heap.size ≤ G := (own_lt HSE.out.ow.items G rfl).1
          have hr8 : w8.heap[W.heap.size]? = some (.cells #[.slice kk nk nk, .slice (some ⟨gq, 0, none⟩) gl gd, .slice (some ⟨G, 0, none⟩) ni ni] 27 (0, 0)) := (hga.block _ (lt_of_heap HSE.out.row) (fun e => by injection e with e; omega)).trans HSE.out.row
          have c8 := cell_of_row _ _ 2 _ _ _ hr8
          have f8 : w8.frozen? ⟨W.heap.size, 2, none⟩ = false := Mem.frozen_of_row hr8 2
          have hg9 : w8.grownBy (w8.setCell ⟨W.heap.size, 2, none⟩ (.slice ia (ni + 1) ic)) (some W.heap.size) := gb_set (World.grownBy.refl _ _) 2 _
          have far : ∀ k, k ≠ W.heap.size → (w8.setCell ⟨W.heap.size, 2, none⟩ (.slice ia (ni + 1) ic)).heap[k]? = w8.heap[k]? := fun k hk => Below.heap_setCell w8 ⟨W.heap.size, 2, none⟩ _ k hk
          have hrow9 := Mem.heap_set hr8 2 (.slice ia (ni + 1) ic)
          have hr49 : (w8.setCell ⟨W.heap.size, 2, none⟩ (.slice ia (ni + 1) ic)).heap[W.heap.size + 1]? = some (.cells #[.slice none 0 0, .slice none 0 0, .slice none 0 0] 27 (0, 0)) := (far _ (by omega)).trans ((hga.block _ (lt_of_heap HSE.out.r4) (fun e => by injection e with e; omega)).trans HSE.out.r4)
          have hr59 : (w8.setCell ⟨W.heap.size, 2, none⟩ (.slice ia (ni + 1) ic)).heap[W.heap.size + 1 + 1]? = some (.cells #[.int .i64 0, .int .i64 0] 30 (0, 0)) := (far _ (by omega)).trans ((hga.block _ (lt_of_heap HSE.out.r5) (fun e => by injection e with e; omega)).trans HSE.out.r5)
          have hen9 : (w8.setCell ⟨W.heap.size, 2, none⟩ (.slice ia (ni + 1) ic)).heap[BE]? = some (.cells #[.int .i64 (FN : Int), .int .i64 gv] 30 (0, 0)) := (far _ (by omega)).trans ((hga.block _ (lt_of_heap HREE.out) (fun e => by injection e with e; omega)).trans HREE.out)
          have hb9 : Below W.heap.size W (w8.setCell ⟨W.heap.size, 2, none⟩ (.slice ia (ni + 1) ic)) := (HSE.out.bel.grown hga HSE.out.bel.size (fun r h => by injection h with h; omega)).setCell (p := ⟨W.heap.size, 2, none⟩) (Nat.le_refl _) _
          have hk9 := (HSE.out.ow.kinds.grown hga (fun r h => by injection h with h; subst h; exact Or.inr (mem_rowsOf.2 ⟨_, List.mem_cons_of_mem _ (List.mem_cons_self ..), rfl⟩))).grown hg9 (fun r h => by injection h with h; omega)
          have hgn9 := own_grown (own_grown HSE.out.ow.gens hga (fun g hv e => HSE.out.ow.gi g hv (by rw [e]; rfl))) hg9 (fun g hv e => by injection e with e; have := (own_lt HSE.out.ow.gens g hv).1; omega)
          have ho9 := own_grown ho8 hg9 (fun g hv e => by injection e with e; have := (own_lt ho8 g hv).1; omega)
          obtain ⟨w9, hw9⟩ : ∃ w9, w9 = w8.setCell ⟨W.heap.size, 2, none⟩ (.slice ia (ni + 1) ic) := ⟨_, rfl⟩
          have hs89 : w8.heap.size = w9.heap.size := by rw [hw9, World.size_setCell]
          have hf9 : ∀ g, g ≠ W.heap.size → w9.heap[g]? = w8.heap[g]? := by rw [hw9]; exact far
          have HWI := Lib.hid (show Up (W.heap.size + 1 + 1 + 1) (fun w => WorldIn w (.agg #[.slice kk nk nk, .slice (some ⟨gq, 0, none⟩) gl gd, .slice ia (ni + 1) ic]) ⟨y.kinds, spawnG y, y.items.take ip ++ [spawnI y l] ++ y.items.drop ip⟩) w9 from by
            rw [← hw9] at hk9 hgn9 ho9
            intro w11 hs
            have hgl : (spawnG y).length = gl := by have := hgn9.1; rw [vints_length, Nat.mul_one] at this; have h2 := Value.slice.inj (own_slC hgn9).choose_spec.choose_spec; exact h2.2.1.symm
            have hil2 : ip ≤ y.items.length := by rw [← NI.out]; exact hip
            have hil : (y.items.take ip ++ [spawnI y l] ++ y.items.drop ip).length = ni + 1 := by simp only [List.length_append, List.length_take, List.length_drop, List.length_singleton]; rw [← NI.out]; omega
            have hgn11 := own_keep hgn9 (fun g hv => by have := own_lt hgn9 g hv; exact hs.2 g (by omega) this.2)
            have ho11 := own_keep ho9 (fun g hv => by have := own_lt ho9 g hv; exact hs.2 g (by omega) this.2)
            refine ⟨kk, nk, some ⟨gq, 0, none⟩, gd, ia, ic, by simp only; rw [hgl, hil, NK.out], (hk9.up.lower (by omega)) w11 hs, IntsAt.of_own (by have h := hgn11; rw [show (WorldV.gens ⟨y.kinds, spawnG y, y.items⟩).length = gl from hgl] at h; exact h) hgl.symm, ?_, by simp only; rw [NK.out]; exact Nat.le_refl _, by have := HSM.out.1; rw [← NK.out] at this; omega⟩
            have hVl : V.length = y.items.length := HSE.out.ow.len
            rw [icells_take, icells_drop] at ho11
            have hfl : icells (y.items.take ip) (V.take ip) ++ [Value.int .i64 (FN : Int), Value.int .i64 gv, Value.slice fa nf fc] ++ icells (y.items.drop ip) (V.drop ip) = ((irows y.items V).take ip ++ [[Value.int .i64 (FN : Int), Value.int .i64 gv, Value.slice fa nf fc]] ++ (irows y.items V).drop ip).flatten := by
              unfold icells irows
              rw [← List.take_zipWith, ← List.drop_zipWith]; simp
            rw [hfl] at ho11
            have hrl : (irows y.items V).length = y.items.length := irows_len hVl
            refine slat_of_own EItem.at ho11 (by simp only [List.length_append, List.length_take, List.length_drop, List.length_singleton]; rw [NI.out]; omega) (by simp only [List.length_append, List.length_take, List.length_drop, List.length_singleton, hrl]; rw [NI.out]; omega) (fun c hc => ?_) (ins_all _ (irows y.items V) y.items _ (spawnI y l) ip hrl hil2 (fun j h1 h2 => ?_) ?_)
            · rcases List.mem_append.1 hc with hc | hc
              · rcases List.mem_append.1 hc with hc | hc
                · exact irows_sz c (List.mem_of_mem_take hc)
                · rw [List.mem_singleton.1 hc]; rfl
              · exact irows_sz c (List.mem_of_mem_drop hc)
            · rw [irows_get hVl j h1]
              obtain ⟨a, c, e, hu⟩ := (HSE.out.ow.comps j h1 (by omega)).up
              refine ⟨a, c, ?_, ?_⟩
              · show [Value.int .i64 y.items[j].n, .int .i64 y.items[j].gen, V[j]] = _
                rw [e]
              · have hco := (HSE.out.ow.comps j h1 (by omega)).to hga.size (fun g g1 g2 g3 => hga.block g g2 (fun e => by injection e with e; subst e; exact g3 (mem_rowsOf.2 ⟨_, List.mem_cons_of_mem _ (List.mem_cons_self ..), rfl⟩))) (fun g hv => hga.block g ((HSE.out.ow.comps j h1 (by omega)).lt g hv).2 (fun e => HSE.out.ow.ic g (by rw [e]; rfl) j (by omega) hv))
                obtain ⟨a2, c2, e2, hu2⟩ := hco.up
                have e3 : a2 = a := by rw [e] at e2; injection e2 with e2; exact e2.symm
                subst e3
                exact (hu2.lower (show w3.heap.size ≤ w3.heap.size from Nat.le_refl _)) w11 ⟨by have := hs.1; omega, fun g g1 g2 => (hs.2 g (by omega) (by omega)).trans (hf9 g (by omega))⟩
            · have hcw := HSE.out.comps.1
              have hgs := hga.size
              refine ⟨fa, fc, ?_, (HSE.out.comps.to (w' := w11) (by have := hs.1; omega) (fun g g1 g2 => (hs.2 g (by omega) (by omega)).trans ((hf9 g (by omega)).trans (hga.block g (by omega) (fun e => by injection e with e; omega))))).now⟩
              show _ = [Value.int .i64 (freeN y : Int), .int .i64 ((spawnG y).getD (freeN y) 0), .slice fa (listed (fitAllM y.kinds l)).length fc]
              rw [← HFN.out, ← HGW.out, ← HNF.out])
          have HRW9 := Lib.hid (show w9.heap[W.heap.size]? = some (.cells #[.slice kk nk nk, .slice (some ⟨gq, 0, none⟩) gl gd, .slice ia (ni + 1) ic] 27 (0, 0)) by rw [hw9]; exact hrow9)
          rw [← hw9] at hr49 hr59 hen9 hb9
          have HR4 := Lib.hid hr49
          have HR5 := Lib.hid hr59
          have HEN := Lib.hid hen9
          have HB9 := Lib.hid hb9
          have HLAST := Lib.hid (show SpawnZ y l ⟨y.kinds, spawnG y, y.items.take ip ++ [spawnI y l] ++ y.items.drop ip⟩ from ⟨ip, by rw [← NI.out]; exact hip, fun j h hj => by rw [← HFN.out]; exact HLO.out j h hj, fun j h hj => by rw [← HFN.out]; exact HHI.out j h hj, rfl⟩)
          have HXN := Lib.hid (show (FN : Int) = (spawnI y l).n ∧ gv = (spawnI y l).gen from ⟨by rw [HFN.out]; rfl, by rw [HGW.out, HFN.out]; rfl⟩)
          have HOS := Lib.hid (show W.heap.size + 1 + 1 < BE from by omega)
          clear hga o1 o2 o3 o4 hbg hg9 far hrow9 hk9 hgn9 ho9 hs89 hf9 hr49 hr59 hen9 hb9 hg8 ho8 hr8 c2 d0 d1 HIN HSE HREE HBA
          go_wp2_with fail
          rw [← hw9]
          clear hw9 c8 f8
          refine wp_region_facts_r rfl 3 (by kernel_rfl) (fun a b => World.grownBy a b (some (W.heap.size + 1))) (gb_drew _ _) (fun _ _ _ h h2 => h.trans h2) (RG 2 (some (W.heap.size + 1))) RG.sub (F_spo W.heap.size BE nk gl gd (ni + 1) ic (FN : Int) gv kk (some ⟨gq, 0, none⟩) ia) (F_spo_mono W.heap.size BE nk gl gd (ni + 1) ic (FN : Int) gv kk (some ⟨gq, 0, none⟩) ia) 2 (fun w => w.heap[W.heap.size + 1]? = some (.cells #[.slice none 0 0, .slice none 0 0, .slice none 0 0] 27 (0, 0))) HR4.out (fun i a b hi h ho => heap_below ho (h.1 hi)) ?_ ?_
          · refine ⟨?_, ?_, ?_, trivial⟩
            · intro vs w' F hb hd hF hl hT hq
              have e := (hF 2).trans (look_out _ 2 _ _ (by kernel_rfl))
              exact rg_load 27 _ rfl rfl (W.heap.size) (0) [.slice kk nk nk, .slice (some ⟨gq, 0, none⟩) gl gd, .slice ia (ni + 1) ic] e (CellsK.row ((hb.block _ (lt_of_heap HRW9.out) (fun e => by injection e with e; omega)).trans HRW9.out)) _ Try.underlying27 rfl (by kernel_rfl) ⟨_, rfl, RG.same _ _ _ _, rfl⟩
            · intro vs w' F hb hd hF hl hT hq
              have e := (hF 12).trans (look_out _ 12 _ _ (by kernel_rfl))
              exact rg_load 30 _ rfl rfl (BE) (0) [.int .i64 (FN : Int), .int .i64 gv] e (CellsK.row ((hb.block _ (lt_of_heap HEN.out) (fun e => by have := HOS.out; injection e with e; omega)).trans HEN.out)) _ Try.underlying30 rfl (by kernel_rfl) ⟨_, rfl, RG.same _ _ _ _, rfl⟩
            · intro vs w' F hb hd hF hl hT hq
              have e1 := ((hF 4).trans (look_out _ 4 _ _ (by kernel_rfl)))
              have e2 := (((hF 78).trans (look_at _ 78 0 _ _ (by kernel_rfl) (by kernel_rfl) hl)).trans (dep_of (Fact := F_spo W.heap.size BE nk gl gd (ni + 1) ic (FN : Int) gv kk (some ⟨gq, 0, none⟩) ia) hd 0 (by kernel_rfl)))
              refine wpList_store_rowP rfl 27 (.tmp 4) (.tmp 78) rfl (W.heap.size + 1) #[.slice kk nk nk, .slice (some ⟨gq, 0, none⟩) gl gd, .slice ia (ni + 1) ic] e1 e2 _ _ (hq rfl) (by kernel_rfl) rfl (ones3 _ _ _ rfl rfl rfl) ?_
              intro w2 hput
              exact ⟨undef, rfl, RG.at_ rfl (gb_put hput), hput.here⟩
          · intro vs8 W8 hl hb hI
            have i2 : W8.heap[W.heap.size + 1]? = some (.cells #[.slice kk nk nk, .slice (some ⟨gq, 0, none⟩) gl gd, .slice ia (ni + 1) ic] 27 (0, 0)) := hI 2 (by omega)
            have i1 : vs8.getD 1 undef = .agg #[.int .i64 (FN : Int), .int .i64 gv] := hI 1 (by omega)
            obtain ⟨x0, x1, x2, x3, x4, hvs⟩ := list5 hl
            subst hvs
            replace i1 : x1 = .agg #[.int .i64 (FN : Int), .int .i64 gv] := i1
            subst i1
            have h59 := (hb.block _ (lt_of_heap HR5.out) (fun e => by injection e with e; omega)).trans HR5.out
            have R59 := Lib.hid h59
            have HI2 := Lib.hid i2
            have HGB := Lib.hid hb
            clear i2 hI hl hb h59
            simp only [fillAll, Act.put, List.setIfInBounds_toArray, List.set_cons_succ, List.set_cons_zero, List.drop_succ_cons, List.drop_zero]
            go_wp2_with (refine wpList_store_rowP rfl 30 (.tmp 5) (.tmp 79) rfl (W.heap.size + 1 + 1) #[.int .i64 (FN : Int), .int .i64 gv] rfl rfl _ _ R59.out (by kernel_rfl) rfl (ones2 _ _ rfl rfl) ?_; intro W10 hput; have HP5 := Lib.hid hput; clear hput)
            have g11 := gb_put HP5.out
            refine bodyPost_ret (results_cct Try.results9 _ _ (W.heap.size + 1) (W.heap.size + 1 + 1) 27 30 _ _ (0, 0) (0, 0) _ _ rfl ((HP5.out.else_ _ (by omega)).trans HI2.out) Try.underlying27 rfl (by kernel_rfl) rfl HP5.out.here Try.underlying30 rfl (by kernel_rfl)) rfl ?_
            have hbz : Below W.heap.size W W10 := (HB9.out.grown HGB.out HB9.out.size (fun r h => by injection h with h; omega)).grown g11 (by have := HB9.out.size; have := HGB.out.size; omega) (fun r h => by injection h with h; omega)
            exact SpawnRO.good HE.out.symm HXN.out.1 HXN.out.2 HLAST.out (((HWI.out.grown HGB.out (fun r h => by injection h with h; omega)).grown g11 (fun r h => by injection h with h; omega)).lower (by omega)) hbz
        · have t2 : ((FN : Int) == (ng : Int)) = false := by
            have : ¬ ((FN : Int) = (ng : Int)) := by omega
            simpa using this
          have HFL : FN < ng := by have := firstP_le (freeP y) y.gens.length; have h := HFN.out; unfold freeN at h; rw [← NG.out] at this h; omega
          have HSG := Lib.hid (show spawnG y = y.gens by unfold spawnG; rw [if_neg (by rw [← HFN.out, ← NG.out]; exact hfn)])
          obtain ⟨gv, hgv⟩ : ∃ g, g = y.gens.getD FN 0 := ⟨_, rfl⟩
          have HGV := Lib.hid hgv
          clear hgv
          have hgens4 := HOW4.out.gens
          rw [← NG.out] at hgens4
          obtain ⟨gq, gd, hgq, _, _⟩ := hgens4.form (by omega)
          clear hgens4
          injection hgq with hg1 _ hg3
          subst hg1
          have hg4 := hg3.symm
          subst hg4
          have hff := HFL
          clear hff hfn HFW4 HB R4 R5
          go_wp2_with (refine wpList_store_rowP rfl 27 (.tmp 2) (.tmp 44) rfl W.heap.size #[.slice kk nk nk, .slice (some ⟨gq, 0, none⟩) ng gd, .slice (some ⟨G, 0, none⟩) ni ni] rfl rfl _ _ R2.out (by kernel_rfl) rfl (ones3 _ _ _ rfl rfl rfl) ?_; intro wc hput; have HP := Lib.hid (HF1.out wc hput); have e1 : wc.cell? ⟨W.heap.size, 1, none⟩ = some (.slice (some ⟨gq, 0, none⟩) ng gd) := (by rw [cell_of_row _ _ 1 _ _ _ hput.here]; rfl); have eg : wc.cell? ⟨gq, FN, none⟩ = some (.int .i64 gv) := (by have hff := HFL; have hp := (HF1.out wc hput).1.ow.gens; rw [show (WorldV.gens ⟨y.kinds, y.gens, y.items⟩) = y.gens from rfl, ← NG.out] at hp; rw [hp.cellAt FN (by omega), vints_get .i64 _ FN (by rw [← NG.out]; exact hff), HGV.out]); have e2 := cell_of_row _ _ 2 _ _ _ (heap_keep hput.here (.cells #[.int .i64 (FN : Int), .int .i64 gv] 30 (0, 0))); clear hput)
          have hsp := HP.out.1
          rw [← HSG.out] at hsp
          have HGW := Lib.hid (show gv = (spawnG y).getD FN 0 by rw [HSG.out]; exact HGV.out)
          obtain ⟨gl, hgl⟩ : ∃ gl, gl = ng := ⟨_, rfl⟩
          rw [← hgl] at hsp ⊢
          rw [← hgl] at HFL
          have HSPC := Lib.hid hsp
          clear hsp hgl e1 e2 eg t2 HP HSG HGV
          obtain ⟨wd, hwd⟩ : ∃ wd, wd = wc.alloc (.cells #[.int .i64 (FN : Int), .int .i64 gv] 30 (0, 0)) := ⟨_, rfl⟩
          have hbd : Below wc.heap.size wc wd := by rw [hwd]; exact (Below.refl _ _).alloc (Nat.le_refl _) _
          have hre : wd.heap[wc.heap.size]? = some (.cells #[.int .i64 (FN : Int), .int .i64 gv] 30 (0, 0)) := by rw [hwd]; exact heap_alloc_new wc _
          rw [← hwd]
          obtain ⟨BE, hBE⟩ : ∃ b, b = wc.heap.size := ⟨_, rfl⟩
          rw [← hBE] at hre ⊢
          have hsd := HSPC.out.below hbd
          have hBW : G < BE := by rw [hBE]; exact (own_lt HSPC.out.ow.items G rfl).2
          have HBS := Lib.hid (bin_items y.items (some ⟨G, 0, none⟩) ni ni (FN : Int) NI.out.symm (by rw [NI.out]; exact HSM.out.2.2.1) GS.out.1 wd hsd.ow.itemsA)
          have HSD := Lib.hid hsd
          have HRE := Lib.hid hre
          have HBEG := Lib.hid hBW
          clear hbd hre hsd hwd hBE hBW HSPC
          refine HBS.out.mono ?_
          rintro e we ⟨⟨ip, fo, hip, rfl, hlo, hhi, _⟩, hbe⟩
          have HLO := Lib.hid hlo
          have HHI := Lib.hid hhi
          have hse := HSD.out.below hbe
          have hre := heap_below HRE.out hbe
          have hown : we.ownsRow G 33 3 (.slice (some ⟨G, 0, none⟩) ni ni) ni (icells y.items V) := by
            have h := own_base hse.ow.items (base2 := G) (fun g hg => by injection hg with hg; exact Nat.le_of_eq hg)
            rw [show (WorldV.items ⟨y.kinds, _, y.items⟩).length = ni from NI.out.symm] at h
            exact h
          have hba : Below we.heap.size we (we.alloc (.cells #[.int .i64 (FN : Int), .int .i64 gv, .slice fa nf fc] 33 (0, 0))) := (Below.refl _ _).alloc (Nat.le_refl _) _
          have hro := new_row we #[.int .i64 (FN : Int), .int .i64 gv, .slice fa nf fc] 33
          have HIN := Lib.hid (ins_items (icells y.items V) [.int .i64 (FN : Int), .int .i64 gv, .slice fa nf fc] G ni ip we.heap.size (we.alloc (.cells #[.int .i64 (FN : Int), .int .i64 gv, .slice fa nf fc] 33 (0, 0))) (own_below hown hba) hip (by have := HSM.out.2.2.1; rw [← NI.out] at this; exact this) rfl
            (fun j v hj => by have := hro j v hj; simpa using this) (icells_one hse.ow.one) (fun v hv => by simp only [List.mem_cons, List.not_mem_nil, or_false] at hv; rcases hv with rfl | rfl | rfl <;> rfl))
          have c2 := cell_of_row _ _ 2 _ _ _ hse.row
          have d0 := cell_of_row _ _ 0 _ _ _ hre
          have d1 := cell_of_row _ _ 1 _ _ _ hre
          have HSE := Lib.hid hse
          have HREE := Lib.hid hre
          have HBA := Lib.hid hba
          clear hlo hhi hse hre hown hba hro hbe HBS HSD HRE
          go_wp2_with fail
          refine HIN.out.mono ?_
          rintro e w8 ⟨v8, rfl, ho8, hg8⟩
          obtain ⟨ia, ic, rfl⟩ := own_slice ho8
          have hga : we.grownBy w8 (some G) := (World.grownBy_alloc we _ _).trans hg8
          have o1 := HSE.out.o1
          have o2 := HSE.out.o2
          have o3 := HSE.out.o3
          have hbg := HBEG.out
          have o4 : w3.heap.size ≤ G := (own_lt HSE.out.ow.items G rfl).1
          have hr8 : w8.heap[W.heap.size]? = some (.cells #[.slice kk nk nk, .slice (some ⟨gq, 0, none⟩) gl gd, .slice (some ⟨G, 0, none⟩) ni ni] 27 (0, 0)) := (hga.block _ (lt_of_heap HSE.out.row) (fun e => by injection e with e; omega)).trans HSE.out.row
          have c8 := cell_of_row _ _ 2 _ _ _ hr8
          have f8 : w8.frozen? ⟨W.heap.size, 2, none⟩ = false := Mem.frozen_of_row hr8 2
          have hg9 : w8.grownBy (w8.setCell ⟨W.heap.size, 2, none⟩ (.slice ia (ni + 1) ic)) (some W.heap.size) := gb_set (World.grownBy.refl _ _) 2 _
          have far : ∀ k, k ≠ W.heap.size → (w8.setCell ⟨W.heap.size, 2, none⟩ (.slice ia (ni + 1) ic)).heap[k]? = w8.heap[k]? := fun k hk => Below.heap_setCell w8 ⟨W.heap.size, 2, none⟩ _ k hk
          have hrow9 := Mem.heap_set hr8 2 (.slice ia (ni + 1) ic)
          have hr49 : (w8.setCell ⟨W.heap.size, 2, none⟩ (.slice ia (ni + 1) ic)).heap[W.heap.size + 1]? = some (.cells #[.slice none 0 0, .slice none 0 0, .slice none 0 0] 27 (0, 0)) := (far _ (by omega)).trans ((hga.block _ (lt_of_heap HSE.out.r4) (fun e => by injection e with e; omega)).trans HSE.out.r4)
          have hr59 : (w8.setCell ⟨W.heap.size, 2, none⟩ (.slice ia (ni + 1) ic)).heap[W.heap.size + 1 + 1]? = some (.cells #[.int .i64 0, .int .i64 0] 30 (0, 0)) := (far _ (by omega)).trans ((hga.block _ (lt_of_heap HSE.out.r5) (fun e => by injection e with e; omega)).trans HSE.out.r5)
          have hen9 : (w8.setCell ⟨W.heap.size, 2, none⟩ (.slice ia (ni + 1) ic)).heap[BE]? = some (.cells #[.int .i64 (FN : Int), .int .i64 gv] 30 (0, 0)) := (far _ (by omega)).trans ((hga.block _ (lt_of_heap HREE.out) (fun e => by injection e with e; omega)).trans HREE.out)
          have hb9 : Below W.heap.size W (w8.setCell ⟨W.heap.size, 2, none⟩ (.slice ia (ni + 1) ic)) := (HSE.out.bel.grown hga HSE.out.bel.size (fun r h => by injection h with h; omega)).setCell (p := ⟨W.heap.size, 2, none⟩) (Nat.le_refl _) _
          have hk9 := (HSE.out.ow.kinds.grown hga (fun r h => by injection h with h; subst h; exact Or.inr (mem_rowsOf.2 ⟨_, List.mem_cons_of_mem _ (List.mem_cons_self ..), rfl⟩))).grown hg9 (fun r h => by injection h with h; omega)
          have hgn9 := own_grown (own_grown HSE.out.ow.gens hga (fun g hv e => HSE.out.ow.gi g hv (by rw [e]; rfl))) hg9 (fun g hv e => by injection e with e; have := (own_lt HSE.out.ow.gens g hv).1; omega)
          have ho9 := own_grown ho8 hg9 (fun g hv e => by injection e with e; have := (own_lt ho8 g hv).1; omega)
          obtain ⟨w9, hw9⟩ : ∃ w9, w9 = w8.setCell ⟨W.heap.size, 2, none⟩ (.slice ia (ni + 1) ic) := ⟨_, rfl⟩
          have hs89 : w8.heap.size = w9.heap.size := by rw [hw9, World.size_setCell]
          have hf9 : ∀ g, g ≠ W.heap.size → w9.heap[g]? = w8.heap[g]? := by rw [hw9]; exact far
          have HWI := Lib.hid (show Up (W.heap.size + 1 + 1 + 1) (fun w => WorldIn w (.agg #[.slice kk nk nk, .slice (some ⟨gq, 0, none⟩) gl gd, .slice ia (ni + 1) ic]) ⟨y.kinds, spawnG y, y.items.take ip ++ [spawnI y l] ++ y.items.drop ip⟩) w9 from by
            rw [← hw9] at hk9 hgn9 ho9
            intro w11 hs
            have hgl : (spawnG y).length = gl := by have := hgn9.1; rw [vints_length, Nat.mul_one] at this; have h2 := Value.slice.inj (own_slC hgn9).choose_spec.choose_spec; exact h2.2.1.symm
            have hil2 : ip ≤ y.items.length := by rw [← NI.out]; exact hip
            have hil : (y.items.take ip ++ [spawnI y l] ++ y.items.drop ip).length = ni + 1 := by simp only [List.length_append, List.length_take, List.length_drop, List.length_singleton]; rw [← NI.out]; omega
            have hgn11 := own_keep hgn9 (fun g hv => by have := own_lt hgn9 g hv; exact hs.2 g (by omega) this.2)
            have ho11 := own_keep ho9 (fun g hv => by have := own_lt ho9 g hv; exact hs.2 g (by omega) this.2)
            refine ⟨kk, nk, some ⟨gq, 0, none⟩, gd, ia, ic, by simp only; rw [hgl, hil, NK.out], (hk9.up.lower (by omega)) w11 hs, IntsAt.of_own (by have h := hgn11; rw [show (WorldV.gens ⟨y.kinds, spawnG y, y.items⟩).length = gl from hgl] at h; exact h) hgl.symm, ?_, by simp only; rw [NK.out]; exact Nat.le_refl _, by have := HSM.out.1; rw [← NK.out] at this; omega⟩
            have hVl : V.length = y.items.length := HSE.out.ow.len
            rw [icells_take, icells_drop] at ho11
            have hfl : icells (y.items.take ip) (V.take ip) ++ [Value.int .i64 (FN : Int), Value.int .i64 gv, Value.slice fa nf fc] ++ icells (y.items.drop ip) (V.drop ip) = ((irows y.items V).take ip ++ [[Value.int .i64 (FN : Int), Value.int .i64 gv, Value.slice fa nf fc]] ++ (irows y.items V).drop ip).flatten := by
              unfold icells irows
              rw [← List.take_zipWith, ← List.drop_zipWith]; simp
            rw [hfl] at ho11
            have hrl : (irows y.items V).length = y.items.length := irows_len hVl
            refine slat_of_own EItem.at ho11 (by simp only [List.length_append, List.length_take, List.length_drop, List.length_singleton]; rw [NI.out]; omega) (by simp only [List.length_append, List.length_take, List.length_drop, List.length_singleton, hrl]; rw [NI.out]; omega) (fun c hc => ?_) (ins_all _ (irows y.items V) y.items _ (spawnI y l) ip hrl hil2 (fun j h1 h2 => ?_) ?_)
            · rcases List.mem_append.1 hc with hc | hc
              · rcases List.mem_append.1 hc with hc | hc
                · exact irows_sz c (List.mem_of_mem_take hc)
                · rw [List.mem_singleton.1 hc]; rfl
              · exact irows_sz c (List.mem_of_mem_drop hc)
            · rw [irows_get hVl j h1]
              obtain ⟨a, c, e, hu⟩ := (HSE.out.ow.comps j h1 (by omega)).up
              refine ⟨a, c, ?_, ?_⟩
              · show [Value.int .i64 y.items[j].n, .int .i64 y.items[j].gen, V[j]] = _
                rw [e]
              · have hco := (HSE.out.ow.comps j h1 (by omega)).to hga.size (fun g g1 g2 g3 => hga.block g g2 (fun e => by injection e with e; subst e; exact g3 (mem_rowsOf.2 ⟨_, List.mem_cons_of_mem _ (List.mem_cons_self ..), rfl⟩))) (fun g hv => hga.block g ((HSE.out.ow.comps j h1 (by omega)).lt g hv).2 (fun e => HSE.out.ow.ic g (by rw [e]; rfl) j (by omega) hv))
                obtain ⟨a2, c2, e2, hu2⟩ := hco.up
                have e3 : a2 = a := by rw [e] at e2; injection e2 with e2; exact e2.symm
                subst e3
                exact (hu2.lower (show w3.heap.size ≤ w3.heap.size from Nat.le_refl _)) w11 ⟨by have := hs.1; omega, fun g g1 g2 => (hs.2 g (by omega) (by omega)).trans (hf9 g (by omega))⟩
            · have hcw := HSE.out.comps.1
              have hgs := hga.size
              refine ⟨fa, fc, ?_, (HSE.out.comps.to (w' := w11) (by have := hs.1; omega) (fun g g1 g2 => (hs.2 g (by omega) (by omega)).trans ((hf9 g (by omega)).trans (hga.block g (by omega) (fun e => by injection e with e; omega))))).now⟩
              show _ = [Value.int .i64 (freeN y : Int), .int .i64 ((spawnG y).getD (freeN y) 0), .slice fa (listed (fitAllM y.kinds l)).length fc]
              rw [← HFN.out, ← HGW.out, ← HNF.out])
          have HRW9 := Lib.hid (show w9.heap[W.heap.size]? = some (.cells #[.slice kk nk nk, .slice (some ⟨gq, 0, none⟩) gl gd, .slice ia (ni + 1) ic] 27 (0, 0)) by rw [hw9]; exact hrow9)
          rw [← hw9] at hr49 hr59 hen9 hb9
          have HR4 := Lib.hid hr49
          have HR5 := Lib.hid hr59
          have HEN := Lib.hid hen9
          have HB9 := Lib.hid hb9
          have HLAST := Lib.hid (show SpawnZ y l ⟨y.kinds, spawnG y, y.items.take ip ++ [spawnI y l] ++ y.items.drop ip⟩ from ⟨ip, by rw [← NI.out]; exact hip, fun j h hj => by rw [← HFN.out]; exact HLO.out j h hj, fun j h hj => by rw [← HFN.out]; exact HHI.out j h hj, rfl⟩)
          have HXN := Lib.hid (show (FN : Int) = (spawnI y l).n ∧ gv = (spawnI y l).gen from ⟨by rw [HFN.out]; rfl, by rw [HGW.out, HFN.out]; rfl⟩)
          have HOS := Lib.hid (show W.heap.size + 1 + 1 < BE from by omega)
          clear hga o1 o2 o3 o4 hbg hg9 far hrow9 hk9 hgn9 ho9 hs89 hf9 hr49 hr59 hen9 hb9 hg8 ho8 hr8 c2 d0 d1 HIN HSE HREE HBA
          go_wp2_with fail
          rw [← hw9]
          clear hw9 c8 f8
          refine wp_region_facts_r rfl 3 (by kernel_rfl) (fun a b => World.grownBy a b (some (W.heap.size + 1))) (gb_drew _ _) (fun _ _ _ h h2 => h.trans h2) (RG 2 (some (W.heap.size + 1))) RG.sub (F_spo W.heap.size BE nk gl gd (ni + 1) ic (FN : Int) gv kk (some ⟨gq, 0, none⟩) ia) (F_spo_mono W.heap.size BE nk gl gd (ni + 1) ic (FN : Int) gv kk (some ⟨gq, 0, none⟩) ia) 2 (fun w => w.heap[W.heap.size + 1]? = some (.cells #[.slice none 0 0, .slice none 0 0, .slice none 0 0] 27 (0, 0))) HR4.out (fun i a b hi h ho => heap_below ho (h.1 hi)) ?_ ?_
          · refine ⟨?_, ?_, ?_, trivial⟩
            · intro vs w' F hb hd hF hl hT hq
              have e := (hF 2).trans (look_out _ 2 _ _ (by kernel_rfl))
              exact rg_load 27 _ rfl rfl (W.heap.size) (0) [.slice kk nk nk, .slice (some ⟨gq, 0, none⟩) gl gd, .slice ia (ni + 1) ic] e (CellsK.row ((hb.block _ (lt_of_heap HRW9.out) (fun e => by injection e with e; omega)).trans HRW9.out)) _ Try.underlying27 rfl (by kernel_rfl) ⟨_, rfl, RG.same _ _ _ _, rfl⟩
            · intro vs w' F hb hd hF hl hT hq
              have e := (hF 12).trans (look_out _ 12 _ _ (by kernel_rfl))
              exact rg_load 30 _ rfl rfl (BE) (0) [.int .i64 (FN : Int), .int .i64 gv] e (CellsK.row ((hb.block _ (lt_of_heap HEN.out) (fun e => by have := HOS.out; injection e with e; omega)).trans HEN.out)) _ Try.underlying30 rfl (by kernel_rfl) ⟨_, rfl, RG.same _ _ _ _, rfl⟩
            · intro vs w' F hb hd hF hl hT hq
              have e1 := ((hF 4).trans (look_out _ 4 _ _ (by kernel_rfl)))
              have e2 := (((hF 78).trans (look_at _ 78 0 _ _ (by kernel_rfl) (by kernel_rfl) hl)).trans (dep_of (Fact := F_spo W.heap.size BE nk gl gd (ni + 1) ic (FN : Int) gv kk (some ⟨gq, 0, none⟩) ia) hd 0 (by kernel_rfl)))
              refine wpList_store_rowP rfl 27 (.tmp 4) (.tmp 78) rfl (W.heap.size + 1) #[.slice kk nk nk, .slice (some ⟨gq, 0, none⟩) gl gd, .slice ia (ni + 1) ic] e1 e2 _ _ (hq rfl) (by kernel_rfl) rfl (ones3 _ _ _ rfl rfl rfl) ?_
              intro w2 hput
              exact ⟨undef, rfl, RG.at_ rfl (gb_put hput), hput.here⟩
          · intro vs8 W8 hl hb hI
            have i2 : W8.heap[W.heap.size + 1]? = some (.cells #[.slice kk nk nk, .slice (some ⟨gq, 0, none⟩) gl gd, .slice ia (ni + 1) ic] 27 (0, 0)) := hI 2 (by omega)
            have i1 : vs8.getD 1 undef = .agg #[.int .i64 (FN : Int), .int .i64 gv] := hI 1 (by omega)
            obtain ⟨x0, x1, x2, x3, x4, hvs⟩ := list5 hl
            subst hvs
            replace i1 : x1 = .agg #[.int .i64 (FN : Int), .int .i64 gv] := i1
            subst i1
            have h59 := (hb.block _ (lt_of_heap HR5.out) (fun e => by injection e with e; omega)).trans HR5.out
            have R59 := Lib.hid h59
            have HI2 := Lib.hid i2
            have HGB := Lib.hid hb
            clear i2 hI hl hb h59
            simp only [fillAll, Act.put, List.setIfInBounds_toArray, List.set_cons_succ, List.set_cons_zero, List.drop_succ_cons, List.drop_zero]
            go_wp2_with (refine wpList_store_rowP rfl 30 (.tmp 5) (.tmp 79) rfl (W.heap.size + 1 + 1) #[.int .i64 (FN : Int), .int .i64 gv] rfl rfl _ _ R59.out (by kernel_rfl) rfl (ones2 _ _ rfl rfl) ?_; intro W10 hput; have HP5 := Lib.hid hput; clear hput)
            have g11 := gb_put HP5.out
            refine bodyPost_ret (results_cct Try.results9 _ _ (W.heap.size + 1) (W.heap.size + 1 + 1) 27 30 _ _ (0, 0) (0, 0) _ _ rfl ((HP5.out.else_ _ (by omega)).trans HI2.out) Try.underlying27 rfl (by kernel_rfl) rfl HP5.out.here Try.underlying30 rfl (by kernel_rfl)) rfl ?_
            have hbz : Below W.heap.size W W10 := (HB9.out.grown HGB.out HB9.out.size (fun r h => by injection h with h; omega)).grown g11 (by have := HB9.out.size; have := HGB.out.size; omega) (fun r h => by injection h with h; omega)
            exact SpawnRO.good HE.out.symm HXN.out.1 HXN.out.2 HLAST.out (((HWI.out.grown HGB.out (fun r h => by injection h with h; omega)).grown g11 (fun r h => by injection h with h; omega)).lower (by omega)) hbz
  · have HE := Lib.hid (G1.out hc)
    have HNE := Lib.hid hc
    have t0 : (CE != 0) = true := by rw [bne_iff_ne]; exact hc
    clear hc
    go_wp2_with (first
      | (refine wpList_store_rowP rfl 27 (.tmp 4) (.tmp 19) rfl (W.heap.size + 1) #[.slice none 0 0, .slice none 0 0, .slice none 0 0] rfl rfl _ _ R4.out (by kernel_rfl) rfl (ones3 _ _ _ rfl rfl rfl) ?_; intro W9 hput; have HP4 := Lib.hid hput; have R59 := Lib.hid ((hput.else_ _ (by omega)).trans R5.out); clear hput)
      | (refine wpList_store_rowP rfl 30 (.tmp 5) (.tmp 20) rfl (W.heap.size + 1 + 1) #[.int .i64 0, .int .i64 0] rfl rfl _ _ R59.out (by kernel_rfl) rfl (ones2 _ _ rfl rfl) ?_; intro W10 hput; have HP5 := Lib.hid hput; clear hput))
    refine bodyPost_ret (results_cct Try.results9 _ _ (W.heap.size + 1) (W.heap.size + 1 + 1) 27 30 _ _ (0, 0) (0, 0) _ _ rfl ((HP5.out.else_ _ (by omega)).trans HP4.out.here) Try.underlying27 rfl (by kernel_rfl) rfl HP5.out.here Try.underlying30 rfl (by kernel_rfl)) rfl ?_
    exact SpawnRO.bad HE.out (by first | exact HNE.out | decide) rfl (HB.out.trans ((HP4.out.below (by omega)).trans (HP5.out.below (by omega))))
end Go.Proofs.Ytpilpkbblkhnaaa
end
