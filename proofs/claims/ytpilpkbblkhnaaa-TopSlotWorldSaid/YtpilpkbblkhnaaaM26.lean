/- Lemmas for the law TopSlotWorld: WFound, KillP, SwP, DelI, WKill. No conditions. -/
import Derived.Test.YtpilpkbblkhnaaaM24
import Derived.Test.YtpilpkbblkhnaaaM25
import Derived.Test.YtpilpkbblkhnaaaM23
import Derived.Test.YtpilpkbblkhnaaaM18
import Derived.Test.YtpilpkbblkhnaaaM19
import Derived.Test.YtpilpkbblkhnaaaM04
import Derived.Test.YtpilpkbblkhnaaaRows
import Derived.Deep.RegionLaw
import Derived.Deep.LoopGhost
import Derived.Lib.Walk
/- world.found. -/
section
namespace Go.Proofs.Ytpilpkbblkhnaaa
open Go.ChangeShapes Go.WideShapes Go.ChangeAt Go.RowKit Go.Nm Go.Mem
set_option linter.unusedVariables false
theorem results_ctt2 {P : Program} {fn : Func} {a p b : Tmp} {ty : TypeId} (h : fn.results = #[.cell p ty, .tmp a, .tmp b]) (tmps : Array Value) (w : World) (g : Nat) (t : TypeId) (cs : Array Value) (fr : Nat × Nat) (d : TypeDesc)
    (hp : tmps.getD p undef = .pointer (some ⟨g, 0, none⟩)) (hg : w.heap[g]? = some (.cells cs t fr))
    (hu : P.underlying ty = some d) (hd : (match d with | .struct _ | .array _ _ => true | _ => false) = true) (hi : (P.info? ty).map (·.size) = some cs.size) :
    (results fn tmps).run P w = .ok (.tuple #[.agg cs, tmps.getD a undef, tmps.getD b undef]) w := by
  have hp' : tmps[p]?.getD undef = .pointer (some ⟨g, 0, none⟩) := by simpa using hp
  simp [results, h, hp', asAddr, run_loadVar_row w g t ty cs fr d hg hu hd hi]
theorem put_gbx {w w2 : World} {g : Nat} {t : TypeId} {cs : Array Value} (h : PutR w w2 g t cs) : w.grownBy w2 (some g) := ⟨h.os, h.tape, h.output, by rw [h.size]; exact Nat.le_refl _, fun k _ hne => h.else_ k (fun e => hne (by rw [e]))⟩
/-- the index of an entity's item; the number of items, if it has none -/
def entN (y : WorldV) (p q : Int) : Nat := y.items.findIdx (isEntI p q)
def foundE (y : WorldV) (p q : Int) : Int := if checkE y ≠ 0 then checkE y else if entN y p q = y.items.length then 4 else 0
theorem IdxF.entN {y : WorldV} {p q K : Int} (h : IdxF y.items p q K) : (K = -1 ∧ entN y p q = y.items.length) ∨ (K = (entN y p q : Int) ∧ entN y p q < y.items.length) := by
  rcases h with ⟨i, hi, rfl, h1, h2⟩ | ⟨rfl, h2⟩
  · have e : Go.Proofs.Ytpilpkbblkhnaaa.entN y p q = i := by
      unfold Go.Proofs.Ytpilpkbblkhnaaa.entN
      rw [List.findIdx_eq hi]
      exact ⟨h1, fun j hj => h2 j (by omega) hj⟩
    exact Or.inr ⟨by rw [e], by rw [e]; exact hi⟩
  · refine Or.inl ⟨rfl, ?_⟩
    unfold Go.Proofs.Ytpilpkbblkhnaaa.entN
    rw [List.findIdx_eq_length]
    intro x hx
    obtain ⟨j, hj, rfl⟩ := List.getElem_of_mem hx
    exact h2 j hj
theorem entN_is {y : WorldV} {p q : Int} (h : entN y p q < y.items.length) : (y.items[entN y p q]).n = p ∧ (y.items[entN y p q]).gen = q := by
  have := List.findIdx_getElem (p := isEntI p q) (xs := y.items) (w := h)
  unfold isEntI at this
  rw [Bool.and_eq_true] at this
  exact ⟨of_decide_eq_true this.1, of_decide_eq_true this.2⟩
def FoundR (y : WorldV) (p q E : Int) (W : World) (e : Ending) (w' : World) : Prop := (∃ (v : Value) (I : Int), e = .returned (.tuple #[v, .int .i64 I, .int .i64 E]) ∧ (E ≠ 0 → v = .agg #[.slice none 0 0, .slice none 0 0, .slice none 0 0] ∧ I = 0) ∧
  (E = 0 → I = (entN y p q : Int) ∧ entN y p q < y.items.length ∧ checkE y = 0 ∧ ∃ ak vg vi V, v = .agg #[.slice ak y.kinds.length y.kinds.length, vg, vi] ∧ OW w' W.heap.size y ak vg vi V)) ∧ Below W.heap.size W w'
theorem FoundR.bad {y : WorldV} {p q E F : Int} {W w' : World} {e : Ending} (hF : F = E) (h : E ≠ 0) (he : e = .returned (.tuple #[.agg #[.slice none 0 0, .slice none 0 0, .slice none 0 0], .int .i64 0, .int .i64 E])) (hb : Below W.heap.size W w') : FoundR y p q F W e w' := by
  subst hF
  exact ⟨⟨_, 0, he, fun _ => ⟨rfl, rfl⟩, fun h0 => absurd h0 h⟩, hb⟩
theorem FoundR.good {y : WorldV} {p q E : Int} {W w' : World} {e : Ending} {ak : Option Addr} {vg vi : Value} {V : List Value} {I : Int} {n : Nat} (hE : 0 = E) (hn : n = y.kinds.length) (hI : I = (entN y p q : Int)) (hl : entN y p q < y.items.length) (hc : checkE y = 0) (he : e = .returned (.tuple #[.agg #[.slice ak n n, vg, vi], .int .i64 I, .int .i64 0])) (ho : OW w' W.heap.size y ak vg vi V) (hb : Below W.heap.size W w') : FoundR y p q E W e w' := by
  subst hE hn
  exact ⟨⟨_, I, he, fun h0 => absurd rfl h0, fun _ => ⟨hI, hl, hc, ak, vg, vi, V, rfl, ho⟩⟩, hb⟩
set_option maxHeartbeats 16000000 in
set_option maxRecDepth 20000 in
theorem world_found (y : WorldV) (v : Value) (p q : Int) (W : World) (hv : WorldIn W v y) (hsm : SmallW y) (hkf : ∀ k ∈ y.kinds, k.fields.length ≤ 1048576) :
    Calls Try.prog 36 #[v, .agg #[.int .i64 p, .int .i64 q]] W (FoundR y p q (foundE y p q) W) := by
  have hv0 := hv
  obtain ⟨ak, ck, ag, cg, ai, ci, rfl, q1, q2, q3, q4, q5⟩ := hv
  obtain ⟨nk, hnk⟩ : ∃ n, n = y.kinds.length := ⟨_, rfl⟩
  obtain ⟨ng, hng⟩ : ∃ n, n = y.gens.length := ⟨_, rfl⟩
  obtain ⟨ni, hni⟩ : ∃ n, n = y.items.length := ⟨_, rfl⟩
  rw [← hnk, ← hng, ← hni] at hv0
  rw [← hnk, ← hng, ← hni]
  obtain ⟨E, hE⟩ : ∃ E, E = foundE y p q := ⟨_, rfl⟩
  rw [← hE]
  obtain ⟨CE, hCE⟩ : ∃ E, E = checkE y := ⟨_, rfl⟩
  have g1 : CE ≠ 0 → E = CE := fun h => by rw [hE, hCE]; unfold foundE; rw [if_pos (by rw [← hCE]; exact h)]
  have g2 : CE = 0 → entN y p q = ni → E = 4 := fun h h2 => by rw [hE]; unfold foundE; rw [if_neg (by rw [← hCE]; exact fun x => x h), if_pos (by rw [h2, hni])]
  have g3 : CE = 0 → entN y p q < ni → E = 0 := fun h h2 => by rw [hE]; unfold foundE; rw [if_neg (by rw [← hCE]; exact fun x => x h), if_neg (by omega)]
  obtain ⟨o1, ho1⟩ : ∃ o : Obj, o = .cells #[.slice ak nk ck, .slice ag ng cg, .slice ai ni ci] 27 (0, 0) := ⟨_, rfl⟩
  obtain ⟨o2, ho2⟩ : ∃ o : Obj, o = .cells #[.int .i64 p, .int .i64 q] 30 (0, 0) := ⟨_, rfl⟩
  obtain ⟨o3, ho3⟩ : ∃ o : Obj, o = .cells #[.slice none 0 0, .slice none 0 0, .slice none 0 0] 27 (0, 0) := ⟨_, rfl⟩
  have hr := fun i o => allocs_get [o1, o2, o3] W i o
  have hbA := allocs_below [o1, o2, o3] W
  have r2 : (allocs W [o1, o2, o3]).heap[W.heap.size]? = some o1 := hr 0 o1 rfl
  have r3 : (allocs W [o1, o2, o3]).heap[W.heap.size + 1]? = some o2 := hr 1 o2 rfl
  have r4 : (allocs W [o1, o2, o3]).heap[W.heap.size + 1 + 1]? = some o3 := hr 2 o3 rfl
  simp only [allocs] at r2 r3 r4 hbA
  rw [ho1, ho2, ho3] at r2 r3 r4 hbA
  have HBA := Lib.hid hbA
  have R2 := Lib.hid r2
  have R3 := Lib.hid r3
  have R4 := Lib.hid r4
  have HV0 := Lib.hid hv0
  have HSM := Lib.hid hsm
  have HKF := Lib.hid hkf
  have NK := Lib.hid hnk
  have NG := Lib.hid hng
  have NI := Lib.hid hni
  have G1 := Lib.hid g1
  have G2 := Lib.hid g2
  have G3 := Lib.hid g3
  have HCE := Lib.hid hCE
  have CK := Lib.hid (fun w' (hb : Below W.heap.size W w') => world_Check y _ w' (hv0.below hb) hsm)
  rw [← hCE] at CK
  clear hv0 hsm hkf q1 q2 q3 q4 q5 hnk hng hni g1 g2 g3 hCE hE hr hbA r2 r3 r4 ho1 ho2 ho3 o1 o2 o3
  go_enter Try.func36, Try.ntmps36
  have e0 := cell_of_row _ _ 0 _ _ _ R2.out
  have e1 := cell_of_row _ _ 1 _ _ _ R2.out
  have e2 := cell_of_row _ _ 2 _ _ _ R2.out
  go_wp2_with fail
  refine (CK.out _ HBA.out).mono ?_
  rintro e w1 ⟨rfl, hb1⟩
  have HB := Lib.hid (bt HBA.out hb1)
  replace R2 := Lib.hid (heap_below R2.out hb1)
  replace R3 := Lib.hid (heap_below R3.out hb1)
  replace R4 := Lib.hid (heap_below R4.out hb1)
  clear e0 e1 e2 hb1 HBA CK
  by_cases hc : CE = 0
  · subst hc
    replace G2 := Lib.hid (G2.out rfl)
    replace G3 := Lib.hid (G3.out rfl)
    have t0 : ((0 : Int) != 0) = false := rfl
    have CF := Lib.hid (world_Find y _ p q w1 (HV0.out.below HB.out) HSM.out)
    have e0 := cell_of_row _ _ 0 _ _ _ R2.out
    have e1 := cell_of_row _ _ 1 _ _ _ R2.out
    have e2 := cell_of_row _ _ 2 _ _ _ R2.out
    have d0 := cell_of_row _ _ 0 _ _ _ R3.out
    have d1 := cell_of_row _ _ 1 _ _ _ R3.out
    clear G1
    go_wp2_with fail
    refine CF.out.mono ?_
    rintro e w2 ⟨⟨K, rfl, hK⟩, hb2⟩
    replace HB := Lib.hid (bt HB.out hb2)
    replace R2 := Lib.hid (heap_below R2.out hb2)
    replace R3 := Lib.hid (heap_below R3.out hb2)
    replace R4 := Lib.hid (heap_below R4.out hb2)
    clear e0 e1 e2 d0 d1 hb2 CF
    rcases hK.entN with ⟨rfl, hn⟩ | ⟨hKn, hn⟩
    · have HE := Lib.hid (G2.out (by rw [hn, NI.out]))
      clear hn hK
      go_wp2_with (refine wpList_store_rowP rfl 27 (.tmp 4) (.tmp 20) rfl (W.heap.size + 1 + 1) #[.slice none 0 0, .slice none 0 0, .slice none 0 0] rfl rfl _ _ R4.out (by kernel_rfl) rfl (ones3 _ _ _ rfl rfl rfl) ?_; intro W9 hput; have HP4 := Lib.hid hput; clear hput)
      refine bodyPost_ret (results_ctt2 Try.results36 _ _ (W.heap.size + 1 + 1) 27 _ (0, 0) _ rfl HP4.out.here Try.underlying27 rfl (by kernel_rfl)) rfl ?_
      exact FoundR.bad HE.out (by decide) rfl (HB.out.trans (HP4.out.below (by omega)))
    · have HE := Lib.hid (G3.out (by rw [NI.out]; exact hn))
      have HN := Lib.hid hn
      have HKN := Lib.hid hKn
      have k0 : (K < 0) = False := by rw [eq_iff_iff]; exact ⟨fun h => by omega, fun h => h.elim⟩
      have k1 : decide (K < 0) = false := decide_eq_false (by omega)
      have hcp := world_CopyO y _ w2 (HV0.out.below HB.out) HSM.out HKF.out
      have hw2 : W.heap.size + 1 + 1 < w2.heap.size := lt_of_heap R4.out
      rw [← NK.out, ← NG.out, ← NI.out] at hcp
      have HCP := Lib.hid hcp
      have HW2 := Lib.hid hw2
      have e0 := cell_of_row _ _ 0 _ _ _ R2.out
      have e1 := cell_of_row _ _ 1 _ _ _ R2.out
      have e2 := cell_of_row _ _ 2 _ _ _ R2.out
      clear hn hK hKn hcp hw2
      go_wp2_with fail
      refine HCP.out.mono ?_
      rintro e w3 ⟨⟨kk, vg, G, V, rfl, how⟩, hb3⟩
      obtain ⟨ga, gc, rfl⟩ := own_slC how.gens
      rw [← NG.out]
      rw [← NG.out] at how
      have HOW := Lib.hid how
      replace HB := Lib.hid (bt HB.out hb3)
      replace R4 := Lib.hid (heap_below R4.out hb3)
      clear e0 e1 e2 how hb3 HCP R2 R3
      go_wp2_with (refine wpList_store_rowP rfl 27 (.tmp 4) (.tmp 22) rfl (W.heap.size + 1 + 1) #[.slice kk nk nk, .slice ga ng gc, .slice (some ⟨G, 0, none⟩) ni ni] rfl rfl _ _ R4.out (by kernel_rfl) rfl (ones3 _ _ _ rfl rfl rfl) ?_; intro W9 hput; have HP4 := Lib.hid hput; clear hput)
      refine bodyPost_ret (results_ctt2 Try.results36 _ _ (W.heap.size + 1 + 1) 27 _ (0, 0) _ rfl HP4.out.here Try.underlying27 rfl (by kernel_rfl)) rfl ?_
      have hw2 := HW2.out
      exact FoundR.good HE.out.symm NK.out HKN.out HN.out HCE.out.symm rfl ((HOW.out.box (put_gbx HP4.out) hw2).lower (by omega)) (HB.out.trans (HP4.out.below (by omega)))
  · have HE := Lib.hid (G1.out hc)
    have HNE := Lib.hid hc
    have t0 : (CE != 0) = true := by rw [bne_iff_ne]; exact hc
    clear hc
    go_wp2_with (refine wpList_store_rowP rfl 27 (.tmp 4) (.tmp 13) rfl (W.heap.size + 1 + 1) #[.slice none 0 0, .slice none 0 0, .slice none 0 0] rfl rfl _ _ R4.out (by kernel_rfl) rfl (ones3 _ _ _ rfl rfl rfl) ?_; intro W9 hput; have HP4 := Lib.hid hput; clear hput)
    refine bodyPost_ret (results_ctt2 Try.results36 _ _ (W.heap.size + 1 + 1) 27 _ (0, 0) _ rfl HP4.out.here Try.underlying27 rfl (by kernel_rfl)) rfl ?_
    exact FoundR.bad HE.out HNE.out rfl (HB.out.trans (HP4.out.below (by omega)))
end Go.Proofs.Ytpilpkbblkhnaaa
end
/- A world without one of its items; what world.Check promises of an item: plain. -/
section
namespace Go.Proofs.Ytpilpkbblkhnaaa
open Go.ChangeShapes Go.WideShapes Go.ChangeAt Go.RowKit Go.Nm Go.Mem
set_option linter.unusedVariables false
/-- a world without its item i -/
def killW (y : WorldV) (i : Nat) (t : ItemV) : WorldV := ⟨y.kinds, y.gens.set t.n.toNat (t.gen + 1), y.items.eraseIdx i⟩
theorem check_parts {y : WorldV} (h : checkE y = 0) : kindsE y.kinds = 0 ∧ y.gens.length ≤ 256 ∧ y.items.length ≤ y.gens.length ∧ (∀ i, i < y.gens.length → 0 ≤ y.gens.getD i 0 ∧ y.gens.getD i 0 ≤ 1073741824) ∧ y.items.Pairwise (fun x y => x.n < y.n) ∧ ∀ t ∈ y.items, itemFit y t := by
  unfold checkE at h
  split at h
  · rename_i hh; exact absurd h hh
  · rename_i hk
    split at h
    · cases h
    · rename_i hl
      split at h
      · rename_i hc
        have h2 := (itemsAt_iff y y.items.length (Nat.le_refl _)).1 hc.2
        rw [List.take_length] at h2
        exact ⟨Decidable.not_not.1 hk, by omega, by omega, (gensAt_iff _ _).1 hc.1, h2.1, h2.2⟩
      · cases h
/-- the item that is found -/
theorem found_item {y : WorldV} {p q : Int} (h : checkE y = 0) (hl : entN y p q < y.items.length) : ∃ N : Nat, p = (N : Int) ∧ N < y.gens.length ∧ y.gens.getD N 0 = q ∧ 0 ≤ q ∧ q < 1073741824 ∧ (y.items[entN y p q]).n = p ∧ (y.items[entN y p q]).gen = q := by
  obtain ⟨_, _, _, h4, _, h6⟩ := check_parts h
  obtain ⟨e1, e2⟩ := entN_is hl
  obtain ⟨f1, f2, f3, f4, _⟩ := h6 _ (List.getElem_mem hl)
  rw [e1] at f1 f2 f3
  rw [e2] at f3 f4
  have := h4 p.toNat (by omega)
  exact ⟨p.toNat, by omega, by omega, f3.symm, by omega, by omega, e1, e2⟩
end Go.Proofs.Ytpilpkbblkhnaaa
end
/- Slots and worlds side by side (TopSlotWorld): plain. -/
section
namespace Go.Proofs.Ytpilpkbblkhnaaa
open Go.ChangeShapes Go.WideShapes Go.ChangeAt Go.RowKit Go.Nm Go.Mem Go.Slt
set_option linter.unusedVariables false
/-- a world behind r rounds of making and removing -/
structure SW (y : WorldV) (r : Nat) : Prop where
  ks : KsOk y.kinds
  gl : y.gens.length ≤ 11 + r
  gv : ∀ z ∈ y.gens, 0 ≤ z ∧ z < 3 + (r : Int)
  il : y.items.length ≤ y.gens.length
  pw : y.items.Pairwise (fun x y => x.n < y.n)
  it : ∀ t ∈ y.items, 0 ≤ t.n ∧ t.n < (y.gens.length : Int) ∧ t.gen = y.gens.getD t.n.toNat 0 ∧ CsOk y.kinds y.kinds.length t.comps
theorem WOk.sw {y : WorldV} (h : WOk y) : SW y 0 := by
  obtain ⟨h1, _, h3, h4, h5, _, h7, h8⟩ := h
  exact ⟨h1, by omega, fun z hz => by have := h4 z hz; omega, h5, h7, h8⟩
section
variable {y : WorldV} {r : Nat}
theorem SW.gen (h : SW y r) (i : Nat) : 0 ≤ y.gens.getD i 0 ∧ y.gens.getD i 0 < 3 + (r : Int) := by
  by_cases hi : i < y.gens.length
  · rw [List.getD_eq_getElem?_getD, List.getElem?_eq_getElem hi]
    exact h.gv _ (List.getElem_mem _)
  · rw [List.getD_eq_getElem?_getD, List.getElem?_eq_none (by omega)]
    show (0 : Int) ≤ 0 ∧ (0 : Int) < 3 + (r : Int)
    omega
theorem SW.check (h : SW y r) (hr : r ≤ 40) : checkE y = 0 := by
  have hg := h.gl
  unfold checkE
  rw [h.ks.err, if_neg (by simp), if_neg (by have := h.il; omega), if_pos]
  refine ⟨(gensAt_iff _ _).2 (fun i hi => by have := h.gen i; omega), (itemsAt_iff y _ (Nat.le_refl _)).2 ?_⟩
  rw [List.take_length]
  refine ⟨h.pw, fun t ht => ?_⟩
  obtain ⟨g1, g2, g3, g4⟩ := h.it t ht
  exact ⟨g1, g2, g3, by have := h.gen t.n.toNat; omega, g4.held h.ks⟩
theorem SW.cost (h : SW y r) (hr : r ≤ 40) : costWorld y ≤ 100000 := by
  have h4 := h.ks.1
  have hg := h.gl
  have hil := h.il
  have c1 : (y.kinds.map costKind).sum ≤ 1000 * y.kinds.length := sum_le _ _ _ (fun k hkm => by
    obtain ⟨i, hi, rfl⟩ := List.getElem_of_mem hkm
    have ho := h.ks.2 i hi
    have h3 := ho.2.1
    have hn := kname_small ⟨i, by omega⟩
    have c2 : ((y.kinds[i]).fields.map costField).sum ≤ 101 * (y.kinds[i]).fields.length := sum_le _ _ _ (fun f hf => by
      obtain ⟨j, hj, rfl⟩ := List.getElem_of_mem hf
      have hfo := (ho.2.2 j hj).1
      have := fname_small ⟨j, by omega⟩
      unfold costField
      rw [hfo]
      simp only at this
      omega)
    unfold costKind
    rw [ho.1]
    simp only at hn
    omega)
  have c3 : (y.items.map costItem).sum ≤ 100 * y.items.length := sum_le _ _ _ (fun t ht => by
    obtain ⟨_, _, _, hc⟩ := h.it t ht
    have h5 := hc.1
    have c4 : (t.comps.map costComp).sum ≤ 4 * t.comps.length := sum_le _ _ _ (fun c hcm => by
      have := comp_small' h.ks hc c hcm
      unfold costComp; omega)
    unfold costItem; omega)
  unfold costWorld
  omega
theorem SW.fine (h : SW y r) (hr : r ≤ 40) : FineW y := fine_of (by have := h.cost hr; omega)
theorem SW.small (h : SW y r) (hr : r ≤ 40) : SmallW y := by
  have f := h.fine hr
  exact ⟨f.kl, f.gl, f.il, fun t ht => ⟨(f.i t ht).1, fun c hc => (f.i t ht).2 c hc⟩⟩
end
/-- the slots that a world uses -/
def usedL (y : WorldV) : List Int := y.items.map (·.n)
def Bw (y : WorldV) : List Bool := ofB y.gens (usedL y)
theorem ofB_get (G L : List Int) (i : Nat) : (ofB G L).getD i false = (decide (i < G.length) && L.contains (i : Int)) := by
  unfold ofB
  by_cases h : i < G.length
  · rw [List.getD_eq_getElem?_getD, List.getElem?_map, List.getElem?_range h]; simp [h]
  · rw [List.getD_eq_getElem?_getD, List.getElem?_eq_none (by simp; omega)]; simp [h]
theorem Bw_get {y : WorldV} {r : Nat} (h : SW y r) (i : Nat) : (Bw y).getD i false = usedI y.items i := by
  have e : (usedL y).contains (i : Int) = usedI y.items i := by
    unfold usedL usedI
    rw [List.contains_eq_any_beq, List.any_map]
    congr 1
    funext t
    simp only [Function.comp]
    rw [Bool.eq_iff_iff]
    simp only [beq_iff_eq, decide_eq_true_eq]
    exact eq_comm
  unfold Bw
  rw [ofB_get, e]
  by_cases hi : i < y.gens.length
  · simp [hi]
  · have : usedI y.items i = false := by
      unfold usedI
      rw [List.any_eq_false]
      intro t ht
      have := h.it t ht
      simp only [decide_eq_true_eq]
      omega
    rw [this]; simp
theorem Bw_len (y : WorldV) : (Bw y).length = y.gens.length := by unfold Bw ofB; simp
theorem asc_ext : ∀ (a b : List Nat), a.Pairwise (· < ·) → b.Pairwise (· < ·) → (∀ x, x ∈ a ↔ x ∈ b) → a = b
  | [], [], _, _, _ => rfl
  | [], y :: b, _, _, h => by have := (h y).2 (List.mem_cons_self ..); cases this
  | x :: a, [], _, _, h => by have := (h x).1 (List.mem_cons_self ..); cases this
  | x :: a, y :: b, ha, hb, h => by
    rw [List.pairwise_cons] at ha hb
    have e : x = y := by
      have h1 := (h x).1 (List.mem_cons_self ..)
      have h2 := (h y).2 (List.mem_cons_self ..)
      rcases List.mem_cons.1 h1 with h1 | h1
      · exact h1
      · rcases List.mem_cons.1 h2 with h2 | h2
        · exact h2.symm
        · have := hb.1 x h1; have := ha.1 y h2; omega
    subst e
    rw [asc_ext a b ha.2 hb.2 (fun z => ⟨fun hz => by
      rcases List.mem_cons.1 ((h z).1 (List.mem_cons_of_mem _ hz)) with h3 | h3
      · have := ha.1 z hz; omega
      · exact h3, fun hz => by
      rcases List.mem_cons.1 ((h z).2 (List.mem_cons_of_mem _ hz)) with h3 | h3
      · have := hb.1 z hz; omega
      · exact h3⟩)]
/-- the entities of a world -/
def entsW (y : WorldV) : List (Int × Int) := y.items.map fun t => (t.n, t.gen)
theorem ents_eq {y : WorldV} {r : Nat} (h : SW y r) : ((List.range (Bw y).length).filter fun i => (Bw y).getD i false).map (fun (i : Nat) => ((i : Int), y.gens.getD i 0)) = entsW y := by
  have e : ((List.range (Bw y).length).filter fun i => (Bw y).getD i false) = y.items.map (fun t => t.n.toNat) := by
    apply asc_ext
    · exact List.Pairwise.filter _ List.pairwise_lt_range
    · rw [List.pairwise_map]
      exact h.pw.imp_of_mem (fun {a b} ha hb hab => by have := h.it a ha; have := h.it b hb; omega)
    · intro x
      rw [List.mem_filter, List.mem_range, Bw_get h, Bw_len]
      unfold usedI
      rw [List.any_eq_true, List.mem_map]
      constructor
      · rintro ⟨_, t, ht, hn⟩
        exact ⟨t, ht, by have := of_decide_eq_true hn; omega⟩
      · rintro ⟨t, ht, rfl⟩
        have := h.it t ht
        exact ⟨by omega, t, ht, decide_eq_true (by omega)⟩
  rw [e, List.map_map]
  unfold entsW
  apply List.map_congr_left
  intro t ht
  obtain ⟨h1, h2, h3, _⟩ := h.it t ht
  simp only [Function.comp]
  rw [h3, Int.toNat_of_nonneg h1]
/-- slots.Of takes the world's numbers -/
theorem of_ok {y : WorldV} {r : Nat} (h : SW y r) (hr : r ≤ 40) : ofE y.gens (usedL y) = 0 := by
  have hg := h.gl
  unfold ofE
  have hb : badG y.gens = false := by
    unfold badG
    rw [List.any_eq_false]
    intro z hz
    have := h.gv z hz
    simp [M30]; omega
  rw [if_neg (by omega), hb, if_neg (by simp)]
  have key : ∀ (its : List ItemV) (p : Int), (∀ t ∈ its, 0 ≤ t.n ∧ t.n < (y.gens.length : Int) ∧ p < t.n) → its.Pairwise (fun x y => x.n < y.n) → errs y.gens p (its.map (·.n)) = 0 := by
    intro its
    induction its with
    | nil => intro _ _ _; rfl
    | cons t l ih =>
      intro p hp hpw
      rw [List.pairwise_cons] at hpw
      obtain ⟨h1, h2, h3⟩ := hp t (List.mem_cons_self ..)
      rw [List.map_cons, errs]
      have hbd : bad y.gens t.n = false := by
        unfold bad
        have := h.gen t.n.toNat
        rw [decide_eq_false (by omega), decide_eq_false (by omega), decide_eq_false (by unfold M30; omega)]; rfl
      rw [hbd, if_neg (by simp), if_neg (by omega)]
      exact ih t.n (fun u hu => by
        obtain ⟨k1, k2, _⟩ := hp u (List.mem_cons_of_mem _ hu)
        exact ⟨k1, k2, hpw.1 u hu⟩) hpw.2
  exact key y.items (-1) (fun t ht => by obtain ⟨k1, k2, _⟩ := h.it t ht; exact ⟨k1, k2, by omega⟩) h.pw
theorem free_least {y : WorldV} {r : Nat} (h : SW y r) (hr : r ≤ 40) : Least y.gens (Bw y) (freeN y) := by
  have hf := firstP_spec (freeP y) y.gens.length
  have hav : ∀ i, i < y.gens.length → av y.gens (Bw y) i = freeP y i := fun i hi => by
    unfold av freeP
    rw [Bw_get h, decide_eq_true hi, Bool.true_and]
  have hle : freeN y ≤ y.gens.length := firstP_le _ _
  refine ⟨hle, fun hn => ?_, fun j hj => ?_⟩
  · rw [hav _ hn]; exact hf.2 hn
  · rw [hav _ (by omega)]; exact hf.1 j hj
theorem getD_ext {α : Type} (d : α) : ∀ (a b : List α), a.length = b.length → (∀ i, a.getD i d = b.getD i d) → a = b := fun a b hl h => by
  apply List.ext_getElem hl
  intro i h1 h2
  have := h i
  rw [List.getD_eq_getElem?_getD, List.getD_eq_getElem?_getD, List.getElem?_eq_getElem h1, List.getElem?_eq_getElem h2] at this
  exact this
theorem listed_none : listed (fun _ => none) = [] := by
  have key : ∀ k, listedTo (fun _ => none) k = [] := by
    intro k
    induction k with
    | zero => rfl
    | succ k ih => rw [listedTo_succ, ih]; rfl
  exact key 16
theorem usedI_app (a b : List ItemV) (n : Nat) : usedI (a ++ b) n = (usedI a n || usedI b n) := by unfold usedI; rw [List.any_append]
theorem takeG_mem {G : List Int} {n : Nat} {z : Int} (h : z ∈ takeG G n) : z ∈ G ∨ z = 0 := by
  unfold takeG at h
  split at h
  · rcases List.mem_append.1 h with h | h
    · exact Or.inl h
    · exact Or.inr (List.mem_singleton.1 h)
  · exact Or.inl h
theorem asc_len : ∀ (its : List ItemV) (lo hi : Int), its.Pairwise (fun x y => x.n < y.n) → (∀ t ∈ its, lo ≤ t.n ∧ t.n < hi) → its.length ≤ (hi - lo).toNat
  | [], _, _, _, _ => Nat.zero_le _
  | t :: l, lo, hi, hp, hb => by
    rw [List.pairwise_cons] at hp
    have h1 := hb t (List.mem_cons_self ..)
    have h2 := asc_len l (t.n + 1) hi hp.2 (fun u hu => by
      have := hp.1 u hu
      have := (hb u (List.mem_cons_of_mem _ hu)).2
      omega)
    rw [List.length_cons]
    omega
/-- an entity made without components -/
theorem spawn_sw {y Z : WorldV} {r : Nat} (h : SW y r) (hr : r ≤ 39) (hz : SpawnZ y [] Z) : SW Z (r + 1) ∧ Z.gens = takeG y.gens (freeN y) ∧ Bw Z = takeB (Bw y) (freeN y) ∧ freeN y ≠ 256 ∧ (spawnI y []).n = (freeN y : Int) ∧ (spawnI y []).gen = y.gens.getD (freeN y) 0 ∧ spawnE y [] = 0 := by
  obtain ⟨i, hi, hlo, hhi, rfl⟩ := hz
  have hL := free_least h (by omega)
  have hle := hL.le
  have hgl := h.gl
  have hG : spawnG y = takeG y.gens (freeN y) := rfl
  have hgen : (spawnI y []).gen = y.gens.getD (freeN y) 0 := by
    show (spawnG y).getD (freeN y) 0 = _
    rw [hG, takeG_get]
  have hco : (spawnI y []).comps = [] := listed_none
  have hun : usedI y.items (freeN y) = false := by
    by_cases hlt : freeN y < y.gens.length
    · have h1 := hL.is hlt
      unfold av at h1
      rw [Bw_get h] at h1
      simp at h1
      exact h1.2.1
    · unfold usedI
      rw [List.any_eq_false]
      intro t ht
      have := h.it t ht
      simp only [decide_eq_true_eq]; omega
  have hne : ∀ t ∈ y.items, t.n ≠ (freeN y : Int) := fun t ht e => by
    unfold usedI at hun
    rw [List.any_eq_false] at hun
    exact hun t ht (by simpa using e)
  have hmem : ∀ t, t ∈ y.items.take i ++ [spawnI y []] ++ y.items.drop i → t ∈ y.items ∨ t = spawnI y [] := fun t ht => by
    rcases List.mem_append.1 ht with ht | ht
    · rcases List.mem_append.1 ht with ht | ht
      · exact Or.inl (List.mem_of_mem_take ht)
      · exact Or.inr (List.mem_singleton.1 ht)
    · exact Or.inl (List.mem_of_mem_drop ht)
  have htl := takeG_len y.gens (freeN y)
  have hcount : y.items.length ≤ y.gens.length := h.il
  have hsw : SW ⟨y.kinds, spawnG y, y.items.take i ++ [spawnI y []] ++ y.items.drop i⟩ (r + 1) := by
    rw [hG]
    have hpw : (y.items.take i ++ [spawnI y []] ++ y.items.drop i).Pairwise (fun x y => x.n < y.n) := by
      have hp := h.pw
      conv at hp => rw [← List.take_append_drop i y.items]
      rw [List.pairwise_append] at hp
      rw [List.append_assoc, List.pairwise_append, List.singleton_append, List.pairwise_cons]
      refine ⟨hp.1, ⟨fun t ht => ?_, hp.2.1⟩, fun a ha t ht => ?_⟩
      · obtain ⟨j, hj, rfl⟩ := List.getElem_of_mem ht
        rw [List.getElem_drop]
        rw [List.length_drop] at hj
        have h1 := hhi (i + j) (by omega) (by omega)
        have h2 := hne _ (List.getElem_mem (l := y.items) (n := i + j) (by omega))
        show (freeN y : Int) < _
        omega
      · rcases List.mem_cons.1 ht with rfl | ht
        · obtain ⟨j, hj, rfl⟩ := List.getElem_of_mem ha
          rw [List.length_take] at hj
          rw [List.getElem_take]
          exact hlo j (by omega) (by omega)
        · exact hp.2.2 a ha t ht
    refine ⟨h.ks, ?_, fun z hz => ?_, ?_, hpw, fun t ht => ?_⟩
    · simp only; rw [htl]; split <;> omega
    · rcases takeG_mem hz with hz | rfl
      · have := h.gv z hz; omega
      · omega
    · have := asc_len _ 0 (((takeG y.gens (freeN y)).length : Nat) : Int) hpw (fun t ht => by
        rcases hmem t ht with ht | rfl
        · obtain ⟨a1, a2, _, _⟩ := h.it t ht
          refine ⟨a1, ?_⟩
          rw [htl]; split <;> omega
        · refine ⟨by show (0 : Int) ≤ (freeN y : Int); omega, ?_⟩
          show (freeN y : Int) < _
          rw [htl]; split <;> omega)
      simp only
      omega
    · rcases hmem t ht with ht | rfl
      · obtain ⟨a1, a2, a3, a4⟩ := h.it t ht
        refine ⟨a1, ?_, by simp only; rw [takeG_get]; exact a3, a4⟩
        simp only; rw [htl]; split <;> omega
      · refine ⟨by show (0 : Int) ≤ (freeN y : Int); omega, ?_, by simp only; rw [takeG_get]; exact hgen, by rw [hco]; exact ⟨Nat.zero_le _, List.Pairwise.nil, fun c hc => absurd hc (by simp)⟩⟩
        show (freeN y : Int) < _
        simp only; rw [htl]; split <;> omega
  refine ⟨hsw, hG, ?_, by omega, rfl, hgen, ?_⟩
  · apply getD_ext false
    · rw [Bw_len, takeB_len, Bw_len]
      show (spawnG y).length = _
      rw [hG, htl]
    · intro j
      rw [Bw_get hsw, takeB_get _ _ _ (by rw [Bw_len]; exact hle), Bw_get h]
      simp only
      rw [usedI_app, usedI_app]
      have e : usedI [spawnI y []] j = decide (j = freeN y) := by
        unfold usedI
        rw [List.any_cons, List.any_nil, Bool.or_false]
        exact decide_eq_decide.2 ⟨fun h => by have h2 : (freeN y : Int) = (j : Int) := h; omega, fun h => by show (freeN y : Int) = (j : Int); omega⟩
      have e2 : usedI y.items j = (usedI (y.items.take i) j || usedI (y.items.drop i) j) := by
        conv => lhs; rw [← List.take_append_drop i y.items]
        rw [usedI_app]
      rw [e, e2]
      cases usedI (y.items.take i) j <;> cases usedI (y.items.drop i) j <;> simp
  · unfold spawnE
    rw [h.check (by omega), if_neg (by simp)]
    have e0 : fitAllE y.kinds [] = 0 := rfl
    rw [e0, if_neg (by simp)]
    have e1 : freeOk y = true := by unfold freeOk; rw [decide_eq_true (show y.gens.length < 256 by omega)]; simp
    rw [e1, if_neg (by simp)]
theorem kill_sw {y : WorldV} {r : Nat} (h : SW y r) (hr : r ≤ 39) (i : Nat) (hi : i < y.items.length) : SW (killW y i y.items[i]) (r + 1) ∧ (killW y i y.items[i]).gens = freeG y.gens y.items[i].n.toNat ∧ Bw (killW y i y.items[i]) = freeB (Bw y) y.items[i].n.toNat ∧ alive y.gens (Bw y) y.items[i].n y.items[i].gen = true ∧ (∀ u ∈ (killW y i y.items[i]).items, u.n ≠ y.items[i].n) := by
  obtain ⟨t, ht⟩ : ∃ t, t = y.items[i] := ⟨_, rfl⟩
  rw [← ht]
  have htm : t ∈ y.items := by rw [ht]; exact List.getElem_mem _
  obtain ⟨t0, t1, t2, t3⟩ := h.it t htm
  obtain ⟨N, hN⟩ : ∃ N : Nat, t.n = (N : Int) := ⟨t.n.toNat, by omega⟩
  have hNg : N < y.gens.length := by omega
  have hsplit : y.items = y.items.take i ++ t :: y.items.drop (i + 1) := by rw [ht, List.getElem_cons_drop, List.take_append_drop]
  have her : y.items.eraseIdx i = y.items.take i ++ y.items.drop (i + 1) := List.eraseIdx_eq_take_drop_succ ..
  have hp := h.pw
  conv at hp => rw [hsplit]
  rw [List.pairwise_append, List.pairwise_cons] at hp
  have hne : ∀ u ∈ y.items.eraseIdx i, u.n ≠ t.n := fun u hu => by
    rw [her] at hu
    rcases List.mem_append.1 hu with hu | hu
    · have := hp.2.2 u hu t (List.mem_cons_self ..); omega
    · have := hp.2.1.1 u hu; omega
  have hsub : ∀ u ∈ y.items.eraseIdx i, u ∈ y.items := fun u hu => List.mem_of_mem_eraseIdx hu
  have hsw : SW (killW y i t) (r + 1) := by
    refine ⟨h.ks, by show (y.gens.set _ _).length ≤ _; rw [List.length_set]; have := h.gl; omega, fun z hz => ?_, ?_, ?_, fun u hu => ?_⟩
    · rcases List.mem_or_eq_of_mem_set hz with hz | hz
      · have := h.gv z hz; omega
      · have := h.gen t.n.toNat; rw [hz, t2]; omega
    · show (y.items.eraseIdx i).length ≤ (y.gens.set _ _).length
      rw [List.length_set, List.length_eraseIdx]
      have := h.il
      split <;> omega
    · show (y.items.eraseIdx i).Pairwise _
      rw [her, List.pairwise_append]
      exact ⟨hp.1, hp.2.1.2, fun a ha b hb => hp.2.2 a ha b (List.mem_cons_of_mem _ hb)⟩
    · obtain ⟨a1, a2, a3, a4⟩ := h.it u (hsub u hu)
      refine ⟨a1, by show u.n < ((y.gens.set _ _).length : Int); rw [List.length_set]; exact a2, ?_, a4⟩
      show u.gen = (y.gens.set _ _).getD u.n.toNat 0
      rw [getD_set' _ _ _ _ _ (by omega), if_neg (by have := hne u hu; omega)]
      exact a3
  refine ⟨hsw, ?_, ?_, ?_, hne⟩
  · show y.gens.set _ _ = y.gens.set _ _
    rw [t2]
  · apply getD_ext false
    · unfold freeB
      rw [Bw_len, List.length_set, Bw_len]
      show (y.gens.set _ _).length = _
      rw [List.length_set]
    · intro j
      unfold freeB
      rw [Bw_get hsw, getD_set' _ _ _ _ _ (by rw [Bw_len]; omega), Bw_get h]
      show usedI (y.items.eraseIdx i) j = _
      by_cases e : j = t.n.toNat
      · rw [if_pos e]
        unfold usedI
        rw [List.any_eq_false]
        intro u hu
        have := hne u hu
        simp only [decide_eq_true_eq]; omega
      · rw [if_neg e, her, usedI_app]
        conv => rhs; rw [hsplit]
        rw [usedI_app]
        congr 1
        unfold usedI
        rw [List.any_cons, decide_eq_false (by omega), Bool.false_or]
  · unfold alive
    have hu : (Bw y).getD t.n.toNat false = true := by
      rw [Bw_get h]
      unfold usedI
      rw [List.any_eq_true]
      exact ⟨t, htm, decide_eq_true (by omega)⟩
    rw [hu, decide_eq_true t0, ← t2, decide_eq_true rfl]; rfl
end Go.Proofs.Ytpilpkbblkhnaaa
end
/- slices.Delete of one element of a row of the call's own: []api.Item. By program (gen_del.py). -/
section
namespace Go.Proofs.Ytpilpkbblkhnaaa
open Go.ChangeShapes Go.WideShapes Go.ChangeAt Go.RowKit Go.Mem Go.Dl
set_option linter.unusedVariables false
set_option maxHeartbeats 4000000 in
set_option maxRecDepth 100000 in
theorem del_I (w : World) (D k m : Nat) (v : Value) (xs : List Value) (hk : k < m) (hl : m ≤ 1000000) (hone : ∀ u ∈ xs, u.oneCell' = true) (ho : w.ownsRow D 33 3 v m xs) :
    Calls Try.prog 37 #[v, .int .i64 k, .int .i64 ((k : Int) + 1)] w (fun e w' => ∃ v', e = .returned v' ∧ w'.ownsRow D 33 3 v' (m - 1) (xs.take (k * 3) ++ xs.drop ((k + 1) * 3)) ∧ w.grownBy w' v.ownBlock ∧ v'.ownBlock = v.ownBlock) := by
  obtain ⟨i0, hi0, hz0, hz1, hz2⟩ := info_parts (show (Try.prog.info? 33).map (fun i => (i.zero, i.size, i.bytes)) = some (some (.agg #[.int .i64 0, .int .i64 0, .slice none 0 0]), 3, 40) by kernel_rfl)
  obtain ⟨gg, cap, rfl, hDg, ltg⟩ := ho.form (by omega)
  have hlc : m ≤ cap := by
    rcases ho.2 with ⟨h1, _⟩ | ⟨_, _, _, h1, _, _, h4, _⟩
    · cases h1
    · injection h1 with _ _ h6
      rw [h6]; exact h4
  have hcm : cap ≤ 9223372036854775807 := by
    rcases ho.2 with ⟨h1, _⟩ | ⟨_, _, _, h1, _, _, _, h5, _⟩
    · cases h1
    · injection h1 with _ _ h6
      rw [h6]; exact h5
  have hxl := ho.1
  obtain ⟨news, hnews⟩ : ∃ news, news = xs.drop ((k + 1) * 3) := ⟨_, rfl⟩
  have hlen : news.length = (m - (k + 1)) * 3 := by rw [hnews, List.length_drop, hxl]; omega
  have hget : ∀ t u, news[t]? = some u → xs[(k + 1) * 3 + t]? = some u := by
    intro t u hu
    rw [hnews, List.getElem?_drop] at hu
    exact hu
  obtain ⟨A, hA, hsrc⟩ : ∃ A : Addr, (if cap = k + 1 then some (⟨gg, 0, none⟩ : Addr) else some ⟨gg, (k + 1) * 3, none⟩) = some A ∧ Hid (∀ t u, news[t]? = some u → w.drew.cell? (A.add t) = some u) := by
    by_cases h : cap = k + 1
    · refine ⟨⟨gg, 0, none⟩, by simp [h], Lib.hid fun t u hu => ?_⟩
      have h0 : news.length = 0 := by rw [hlen]; omega
      rw [List.length_eq_zero_iff.1 h0] at hu
      simp at hu
    · refine ⟨⟨gg, (k + 1) * 3, none⟩, by simp [h], Lib.hid fun t u hu => ?_⟩
      have ht : t < news.length := (List.getElem?_eq_some_iff.1 hu).1
      rw [Addr.add_lit]
      show w.cell? _ = _
      rw [ho.cellAt _ (by rw [hlen] at ht; omega)]
      exact hget t u hu
  have s2 : Hid (∀ u ∈ news, u.oneCell' = true) := Lib.hid (by
    rw [hnews]
    exact fun u hu => hone u (List.mem_of_mem_drop hu))
  have s3 : Hid (∀ t, t < news.length → (w.drew.cell? ⟨gg, 0 + k * 3 + t, none⟩).isSome = true ∧ w.drew.frozen? ⟨gg, 0 + k * 3 + t, none⟩ = false) := Lib.hid (by
    intro t ht
    rw [hlen] at ht
    refine ⟨?_, ?_⟩
    · show (w.cell? _).isSome = true
      rw [ho.cellAt _ (by omega), List.getElem?_eq_getElem (by rw [hxl]; omega)]; rfl
    · exact ho.frozenAt _)
  obtain ⟨W1, hW1⟩ : ∃ W1, W1 = w.drew.setCells gg (0 + k * 3) news := ⟨_, rfl⟩
  have ho1 : W1.ownsRow D 33 3 (.slice (some ⟨gg, 0, none⟩) m cap) m (setL xs (k * 3) news) := by
    rw [hW1, Nat.zero_add]
    exact own_setCells news _ _ _ ho.drew
  have hg1 : w.grownBy W1 (some gg) := by
    rw [hW1]
    exact gb_setCells news _ _ _ (show w.grownBy w.drew (some gg) from Dl.gb_drew (Dl.gb_refl w (some gg)))
  have hcl : ∀ ty, (Builtin.clear_ #[25] ty #[.slice (some ⟨gg, (k + (m - (k + 1))) * 3, none⟩) (m - (k + (m - (k + 1)))) (cap - (k + (m - (k + 1))))]).run Try.prog W1 = .ok (.tuple #[]) (W1.setCells gg ((k + (m - (k + 1))) * 3) [.int .i64 0, .int .i64 0, .slice none 0 0]) := fun ty => by
    rw [show m - (k + (m - (k + 1))) = 1 by omega, show k + (m - (k + 1)) = m - 1 by omega]
    exact run_clear_one W1 _ _ ty (.agg #[.int .i64 0, .int .i64 0, .slice none 0 0]) _ Try.underlying25 (fun w => by kernel_rfl) rfl (by simp [Value.oneCell']) gg _ _
      (fun j hj => by rw [ho1.cellAt _ (by simp at hj; omega), List.getElem?_eq_getElem (by simp at hj; rw [setL_length, hxl]; omega)]; rfl) (fun j _ => ho1.frozenAt _)
  have HW1 := Lib.hid hW1
  have HO1 := Lib.hid ho1
  have HG1 := Lib.hid hg1
  have HLEN : Hid (news.length = (m - (k + 1)) * 3) := hlen
  have HN := Lib.hid hnews
  have HXL := Lib.hid hxl
  have i1 : k ≤ cap := by omega
  have i2 : k + 1 ≤ cap := by omega
  have i3 : k + (m - (k + 1)) ≤ cap := by omega
  have i4 : k + (m - (k + 1)) ≤ m := by omega
  have i5 : (0 : Int) ≤ (k : Int) + 1 := by omega
  have i6 : (k : Int) + 1 ≤ (m : Int) := by omega
  clear hW1 ho1 hg1 hlen hnews ho hget hone hxl
  go_enter Try.func37, Try.ntmps37
  go_wp2_with fail
  go_region_law (refine step_append_room rfl (.tmp 22) (.tmp 25) 25 rfl 33 i0 3 Try.underlying25 hi0 hz1 gg 0 k cap (by simp [Act.eval, Act.put]) A (m - (k + 1)) (cap - (k + 1)) news (by simp [Act.eval, Act.put]) HLEN.out hsrc.out s2.out (by omega) s3.out ?_; rw [← HW1.out])
  go_wp2
  go_ret
  have ho2 := own_setCells [.int .i64 0, .int .i64 0, .slice none 0 0] _ ((m - 1) * 3) _ HO1.out
  have ho3 := Dl.own_take ho2 (Nat.sub_le m 1) (by omega)
  have hd := del_cells xs m k 3 HXL.out (by omega) [.int .i64 0, .int .i64 0, .slice none 0 0] rfl
  rw [← HN.out] at hd ⊢
  rw [show k + (m - (k + 1)) = m - 1 by omega]
  refine ⟨_, rfl, ?_, gb_setCells _ _ _ _ HG1.out, rfl⟩
  rw [hd] at ho3
  exact ho3
end Go.Proofs.Ytpilpkbblkhnaaa
end
/- world.Kill. -/
section
namespace Go.Proofs.Ytpilpkbblkhnaaa
open Go.ChangeShapes Go.WideShapes Go.ChangeAt Go.RowKit Go.Nm Go.Mem
set_option linter.unusedVariables false
def KillR (y : WorldV) (p q E : Int) (W : World) (e : Ending) (w' : World) : Prop := (∃ (v : Value) (Z : WorldV), e = .returned (.tuple #[v, .int .i64 E]) ∧ Up W.heap.size (fun w => WorldIn w v Z) w' ∧ (E ≠ 0 → Z = ⟨[], [], []⟩) ∧ (E = 0 → checkE y = 0 ∧ ∃ h : entN y p q < y.items.length, Z = killW y (entN y p q) y.items[entN y p q])) ∧ Below W.heap.size W w'
theorem zero_in (w : World) : WorldIn w (.agg #[.slice none 0 0, .slice none 0 0, .slice none 0 0]) ⟨[], [], []⟩ := ⟨none, 0, none, 0, none, 0, rfl, fun h => absurd h (by simp), fun h => absurd h (by simp), fun h => absurd h (by simp), by simp, by simp⟩
theorem KillR.bad {y : WorldV} {p q E : Int} {W w' : World} {e : Ending} (h : E ≠ 0) (he : e = .returned (.tuple #[.agg #[.slice none 0 0, .slice none 0 0, .slice none 0 0], .int .i64 E])) (hb : Below W.heap.size W w') : KillR y p q E W e w' :=
  ⟨⟨_, ⟨[], [], []⟩, he, fun _ _ => zero_in _, fun _ => rfl, fun h0 => absurd h0 h⟩, hb⟩
theorem KillR.good {y : WorldV} {p q : Int} {W w' : World} {e : Ending} {v : Value} (hl : entN y p q < y.items.length) (hc : checkE y = 0) (he : e = .returned (.tuple #[v, .int .i64 0])) (hw : Up W.heap.size (fun w => WorldIn w v (killW y (entN y p q) y.items[entN y p q])) w') (hb : Below W.heap.size W w') : KillR y p q 0 W e w' :=
  ⟨⟨v, _, he, hw, fun h0 => absurd rfl h0, fun _ => ⟨hc, hl, rfl⟩⟩, hb⟩
set_option maxHeartbeats 16000000 in
set_option maxRecDepth 20000 in
theorem world_Kill (y : WorldV) (v : Value) (p q : Int) (W : World) (hv : WorldIn W v y) (hsm : SmallW y) (hkf : ∀ k ∈ y.kinds, k.fields.length ≤ 1048576) :
    Calls Try.prog 11 #[v, .agg #[.int .i64 p, .int .i64 q]] W (KillR y p q (foundE y p q) W) := by
  have hv0 := hv
  obtain ⟨ak, ck, ag, cg, ai, ci, rfl, q1, q2, q3, q4, q5⟩ := hv
  obtain ⟨nk, hnk⟩ : ∃ n, n = y.kinds.length := ⟨_, rfl⟩
  obtain ⟨ng, hng⟩ : ∃ n, n = y.gens.length := ⟨_, rfl⟩
  obtain ⟨ni, hni⟩ : ∃ n, n = y.items.length := ⟨_, rfl⟩
  rw [← hnk, ← hng, ← hni] at hv0
  rw [← hnk, ← hng, ← hni]
  obtain ⟨o1, ho1⟩ : ∃ o : Obj, o = .cells #[.slice ak nk ck, .slice ag ng cg, .slice ai ni ci] 27 (0, 0) := ⟨_, rfl⟩
  obtain ⟨o2, ho2⟩ : ∃ o : Obj, o = .cells #[.int .i64 p, .int .i64 q] 30 (0, 0) := ⟨_, rfl⟩
  obtain ⟨o3, ho3⟩ : ∃ o : Obj, o = .cells #[.slice none 0 0, .slice none 0 0, .slice none 0 0] 27 (0, 0) := ⟨_, rfl⟩
  have hr := fun i o => allocs_get [o1, o2, o3] W i o
  have hbA := allocs_below [o1, o2, o3] W
  have r2 : (allocs W [o1, o2, o3]).heap[W.heap.size]? = some o1 := hr 0 o1 rfl
  have r3 : (allocs W [o1, o2, o3]).heap[W.heap.size + 1]? = some o2 := hr 1 o2 rfl
  have r4 : (allocs W [o1, o2, o3]).heap[W.heap.size + 1 + 1]? = some o3 := hr 2 o3 rfl
  simp only [allocs] at r2 r3 r4 hbA
  rw [ho1, ho2, ho3] at r2 r3 r4 hbA
  obtain ⟨E, hE⟩ : ∃ E, E = foundE y p q := ⟨_, rfl⟩
  have CF := Lib.hid (fun w' (hb : Below W.heap.size W w') => world_found y _ p q w' (hv0.below hb) hsm hkf)
  rw [← hE] at CF ⊢
  have HBA := Lib.hid hbA
  have R2 := Lib.hid r2
  have R3 := Lib.hid r3
  have R4 := Lib.hid r4
  have NK := Lib.hid hnk
  have NG := Lib.hid hng
  have NI := Lib.hid hni
  have HKC := Lib.hid (And.intro q4 q5)
  have HSM := Lib.hid hsm
  clear hv0 hsm hkf q1 q2 q3 q4 q5 hnk hng hni hE hr hbA r2 r3 r4 ho1 ho2 ho3 o1 o2 o3
  go_enter Try.func11, Try.ntmps11
  have e0 := cell_of_row _ _ 0 _ _ _ R2.out
  have e1 := cell_of_row _ _ 1 _ _ _ R2.out
  have e2 := cell_of_row _ _ 2 _ _ _ R2.out
  have d0 := cell_of_row _ _ 0 _ _ _ R3.out
  have d1 := cell_of_row _ _ 1 _ _ _ R3.out
  go_wp2_with fail
  refine (CF.out _ HBA.out).mono ?_
  rintro e w1 ⟨⟨v1, I, rfl, hbad, hgood⟩, hb1⟩
  have HB := Lib.hid (bt HBA.out hb1)
  replace R2 := Lib.hid (heap_below R2.out hb1)
  replace R3 := Lib.hid (heap_below R3.out hb1)
  replace R4 := Lib.hid (heap_below R4.out hb1)
  have HW1 := Lib.hid (show W.heap.size + 1 + 1 < w1.heap.size from lt_of_heap R4.out)
  by_cases hc : E = 0
  · subst hc
    obtain ⟨hI, hl, hck, kk, vg, vi, V, rfl, how⟩ := hgood rfl
    obtain ⟨B, hB⟩ : ∃ B, B = (((W.alloc (.cells #[.slice ak nk ck, .slice ag ng cg, .slice ai ni ci] 27)).alloc (.cells #[.int .i64 p, .int .i64 q] 30)).alloc (.cells #[.slice none 0 0, .slice none 0 0, .slice none 0 0] 27)).heap.size := ⟨_, rfl⟩
    rw [← hB] at how
    have hB2 : B = W.heap.size + 1 + 1 + 1 := by rw [hB]; simp
    obtain ⟨N, rfl, hN, hgN, hq0, hq1, hi1, hi2⟩ := found_item hck hl
    obtain ⟨ei, hei⟩ : ∃ ei, ei = entN y N q := ⟨_, rfl⟩
    rw [← hei] at hI hl
    subst hI
    have hgens := how.gens
    rw [← NG.out] at hN hgens
    obtain ⟨gq, gc, rfl, hBg, hgl⟩ := hgens.form (by omega)
    obtain ⟨ia, ic, hvi⟩ := own_slC how.items
    subst hvi
    rw [← NI.out] at hl how ⊢
    rw [← NK.out]
    have t0 : ((0 : Int) != 0) = false := rfl
    have wq : IntKind.i64.wrap (q + 1) = q + 1 := by rw [IntKind.wrap_i64]; omega
    have hil : ni ≤ 256 := by obtain ⟨_, h1, h2, _⟩ := check_parts hck; rw [← NI.out] at h2; omega
    have wi : IntKind.i64.wrap ((ei : Int) + 1) = (ei : Int) + 1 := by rw [IntKind.wrap_i64]; omega
    have p0 : (0 : Int) ≤ (N : Int) := by omega
    have p1 : (N : Int) < (ng : Int) := by omega
    have p2 : ((N : Int) < (ng : Int)) = True := by simp; omega
    have pN : ((N : Int)).toNat = N := by omega
    have HOW := Lib.hid how
    have HGN := Lib.hid hgN
    have HGE := Lib.hid hgens
    have HF := Lib.hid (fun (W8 : World) (hput : PutR w1 W8 W.heap.size 27 #[.slice kk nk nk, .slice (some ⟨gq, 0, none⟩) ng gc, .slice ia ni ic]) => show
        OW W8 B y kk (.slice (some ⟨gq, 0, none⟩) ng gc) (.slice ia ni ic) V ∧ W8.cell? ⟨gq, N, none⟩ = some (.int .i64 q) ∧ W8.frozen? ⟨gq, N, none⟩ = false ∧ OW (W8.setCell ⟨gq, N, none⟩ (.int .i64 (q + 1))) B ⟨y.kinds, y.gens.set N (q + 1), y.items⟩ kk (.slice (some ⟨gq, 0, none⟩) ng gc) (.slice ia ni ic) V ∧ (∀ g, g < B → (W8.setCell ⟨gq, N, none⟩ (.int .i64 (q + 1))).heap[g]? = W8.heap[g]?) ∧ Below W.heap.size w1 (W8.setCell ⟨gq, N, none⟩ (.int .i64 (q + 1))) ∧ (W8.setCell ⟨gq, N, none⟩ (.int .i64 (q + 1))).cell? ⟨W.heap.size, 2, none⟩ = some (.slice ia ni ic) from by
      have h8 := HOW.out.box (put_gbx hput) (by omega)
      have hg8 := h8.gens
      rw [← NG.out] at hg8
      have hst := hg8.stored N (.int .i64 (q + 1))
      rw [vints_set] at hst
      have far : ∀ g, g < B → (W8.setCell ⟨gq, N, none⟩ (.int .i64 (q + 1))).heap[g]? = W8.heap[g]? := fun g hg => Below.heap_setCell W8 ⟨gq, N, none⟩ _ g (fun e => by have e : g = gq := e; omega)
      refine ⟨h8, ?_, hg8.frozenAt N, ?_, far, (hput.below (Nat.le_refl _)).setCell (p := ⟨gq, N, none⟩) (by show W.heap.size ≤ gq; omega) _, ?_⟩
      · rw [hg8.cellAt N (by omega), vints_get .i64 _ N (by rw [← NG.out]; exact hN), HGN.out]
      · refine h8.setGens hst.2 ?_ (Or.inl rfl)
        have h := hst.1
        rw [List.length_set, ← NG.out]
        exact h
      · rw [World.cell?_of_block (w := W8) (far W.heap.size (by omega)), cell_of_row _ _ 2 _ _ _ hput.here]; rfl)
    have HI1 := Lib.hid hi1
    have HI2 := Lib.hid hi2
    have HCK := Lib.hid hck
    have HEI := Lib.hid hei
    have HLL := Lib.hid hl
    have HBB := Lib.hid hB2
    have HIL := Lib.hid hil
    clear e0 e1 e2 d0 d1 hb1 HBA CF hbad hgood how hgens hgN hi1 hi2 hck hei hB hgl HGE HOW
    go_wp2_with (first
      | (refine wpList_store_rowP rfl 27 (.tmp 2) (.tmp 12) rfl W.heap.size #[.slice kk nk nk, .slice (some ⟨gq, 0, none⟩) ng gc, .slice ia ni ic] rfl rfl _ _ R2.out (by kernel_rfl) rfl (ones3 _ _ _ rfl rfl rfl) ?_; intro W8 hput; have HP := Lib.hid (HF.out W8 hput); have HPH := Lib.hid hput; have c1 : W8.cell? ⟨W.heap.size, 1, none⟩ = some (.slice (some ⟨gq, 0, none⟩) ng gc) := (by rw [cell_of_row _ _ 1 _ _ _ hput.here]; rfl); have d0 : W8.cell? ⟨W.heap.size + 1, 0, none⟩ = some (.int .i64 (N : Int)) := (by rw [cell_of_row _ _ 0 _ _ _ ((hput.else_ _ (by omega)).trans R3.out)]; rfl); have eg := HP.out.2.1; have fg := HP.out.2.2.1; have c2 := HP.out.2.2.2.2.2.2; clear hput))
    have how2 := HP.out.2.2.2.1
    have hfar := HP.out.2.2.2.2.1
    have hbel := HP.out.2.2.2.2.2.1
    obtain ⟨W9, hW9⟩ : ∃ w, w = W8.setCell ⟨gq, N, none⟩ (.int .i64 (q + 1)) := ⟨_, rfl⟩
    rw [← hW9] at how2 hfar hbel ⊢
    have hit := how2.items
    rw [← NI.out] at hit
    have hr9 : W9.heap[W.heap.size]? = some (.cells #[.slice kk nk nk, .slice (some ⟨gq, 0, none⟩) ng gc, .slice ia ni ic] 27 (0, 0)) := (hfar _ (by omega)).trans HPH.out.here
    have h49 : W9.heap[W.heap.size + 1 + 1]? = some (.cells #[.slice none 0 0, .slice none 0 0, .slice none 0 0] 27 (0, 0)) := (hfar _ (by omega)).trans ((HPH.out.else_ _ (by omega)).trans R4.out)
    have hone := icells_one (l := y.items) (V := V) how2.one
    have HD := Lib.hid (del_I W9 B ei ni (.slice ia ni ic) (icells y.items V) hl (by omega) hone hit)
    have HOW2 := Lib.hid how2
    have HR9 := Lib.hid hr9
    have H49 := Lib.hid h49
    have HBEL := Lib.hid (HB.out.trans hbel)
    clear how2 hfar hbel hW9 hit hr9 h49 hone HP HPH HF c1 d0 eg fg c2 R2 R3 R4
    refine HD.out.mono ?_
    rintro e w3 ⟨v3, rfl, ho3, hg3, hb3⟩
    have how3 := HOW2.out.delItem (i := ei) (by rw [← NI.out]; exact hl) hg3 (by rw [← NI.out]; exact ho3) hb3
    obtain ⟨ja, jc, rfl⟩ := own_slC ho3
    have hio : ∀ g, (Value.slice ia ni ic).ownBlock = some g → B ≤ g := fun g hg => (own_lt HOW2.out.items g hg).1
    have hr3 : w3.heap[W.heap.size]? = some (.cells #[.slice kk nk nk, .slice (some ⟨gq, 0, none⟩) ng gc, .slice ia ni ic] 27 (0, 0)) := (hg3.block _ (lt_of_heap HR9.out) (fun e => by have := hio _ e.symm; omega)).trans HR9.out
    have h43 : w3.heap[W.heap.size + 1 + 1]? = some (.cells #[.slice none 0 0, .slice none 0 0, .slice none 0 0] 27 (0, 0)) := (hg3.block _ (lt_of_heap H49.out) (fun e => by have := hio _ e.symm; omega)).trans H49.out
    have c3 := cell_of_row _ _ 2 _ _ _ hr3
    have f3 : w3.frozen? ⟨W.heap.size, 2, none⟩ = false := Mem.frozen_of_row hr3 2
    have hrx := Mem.heap_set hr3 2 (.slice ja (ni - 1) jc)
    have h4x : (w3.setCell ⟨W.heap.size, 2, none⟩ (.slice ja (ni - 1) jc)).heap[W.heap.size + 1 + 1]? = some (.cells #[.slice none 0 0, .slice none 0 0, .slice none 0 0] 27 (0, 0)) := (Below.heap_setCell w3 ⟨W.heap.size, 2, none⟩ _ _ (by show W.heap.size + 1 + 1 ≠ W.heap.size; omega)).trans h43
    have x0 := cell_of_row _ _ 0 _ _ _ hrx
    have x1 := cell_of_row _ _ 1 _ _ _ hrx
    have x2 := cell_of_row _ _ 2 _ _ _ hrx
    have HOW3 := Lib.hid (how3.box (gb_set (World.grownBy.refl _ _) 2 (.slice ja (ni - 1) jc)) (show W.heap.size < B by omega))
    have HB3 := Lib.hid ((HBEL.out.grown hg3 HBEL.out.size (fun r h => by have := hio r h; omega)).setCell (p := ⟨W.heap.size, 2, none⟩) (Nat.le_refl _) (.slice ja (ni - 1) jc))
    have H4X := Lib.hid h4x
    clear how3 hio hr3 h43 hrx h4x hg3 hb3 ho3 HD HOW2 HR9 H49 HBEL
    go_wp2_with (refine wpList_store_rowP rfl 27 (.tmp 4) (.tmp 34) rfl (W.heap.size + 1 + 1) #[.slice kk nk nk, .slice (some ⟨gq, 0, none⟩) ng gc, .slice ja (ni - 1) jc] rfl rfl _ _ H4X.out (by kernel_rfl) rfl (ones3 _ _ _ rfl rfl rfl) ?_; intro W10 hput; have HP4 := Lib.hid hput; clear hput)
    refine bodyPost_ret (results_ct Try.results11 _ _ (W.heap.size + 1 + 1) 27 _ (0, 0) _ rfl HP4.out.here Try.underlying27 rfl (by kernel_rfl)) rfl ?_
    have how4 := HOW3.out.box (put_gbx HP4.out) (show W.heap.size + 1 + 1 < B by omega)
    have hw := how4.up (ck := nk) (by rw [NK.out]; exact Nat.le_refl _) (by have := HSM.out.1; rw [← NK.out] at this; omega)
    have hl2 : entN y (N : Int) q < y.items.length := by rw [← HEI.out, ← NI.out]; exact HLL.out
    refine KillR.good hl2 HCK.out rfl ?_ (HB3.out.trans (HP4.out.below (by omega)))
    unfold killW
    rw [HI1.out, HI2.out, ← HEI.out, Int.toNat_natCast]
    have hw := hw.lower (show W.heap.size ≤ B by omega)
    rw [← NK.out] at hw
    exact hw
  · obtain ⟨rfl, rfl⟩ := hbad hc
    have t0 : (E != 0) = true := by rw [bne_iff_ne]; exact hc
    have HNE := Lib.hid hc
    clear e0 e1 e2 d0 d1 hb1 HBA CF hc hbad hgood
    go_wp2_with (first
      | (refine wpList_store_rowP rfl 27 (.tmp 2) (.tmp 12) rfl W.heap.size #[.slice none 0 0, .slice none 0 0, .slice none 0 0] rfl rfl _ _ R2.out (by kernel_rfl) rfl (ones3 _ _ _ rfl rfl rfl) ?_; intro W8 hput; have HP2 := Lib.hid hput; have R48 := Lib.hid ((hput.else_ _ (by omega)).trans R4.out); clear hput)
      | (refine wpList_store_rowP rfl 27 (.tmp 4) (.tmp 17) rfl (W.heap.size + 1 + 1) #[.slice none 0 0, .slice none 0 0, .slice none 0 0] rfl rfl _ _ R48.out (by kernel_rfl) rfl (ones3 _ _ _ rfl rfl rfl) ?_; intro W9 hput; have HP4 := Lib.hid hput; clear hput))
    refine bodyPost_ret (results_ct Try.results11 _ _ (W.heap.size + 1 + 1) 27 _ (0, 0) _ rfl HP4.out.here Try.underlying27 rfl (by kernel_rfl)) rfl ?_
    exact KillR.bad HNE.out rfl (HB.out.trans ((HP2.out.below (by omega)).trans (HP4.out.below (by omega))))
end Go.Proofs.Ytpilpkbblkhnaaa
end
