/- Lemmas for the law TopSlotWorld: SwSt, WNew, WInts, WDig, WBound. No conditions. -/
import Derived.Test.YtpilpkbblkhnaaaM26
import Derived.Test.YtpilpkbblkhnaaaM27
import Derived.Test.YtpilpkbblkhnaaaM09
import Derived.Test.YtpilpkbblkhnaaaM07
import Derived.Test.YtpilpkbblkhnaaaM08
import Derived.Test.YtpilpkbblkhnaaaM21
import Derived.Test.YtpilpkbblkhnaaaM14
import Derived.Test.YtpilpkbblkhnaaaM17
/- Slots and a world, side by side in memory (TopSlotWorld). -/
section
namespace Go.Proofs.Ytpilpkbblkhnaaa
open Go.ChangeShapes Go.WideShapes Go.ChangeAt Go.RowKit Go.Nm Go.Mem Go.Sp Go.Slt
set_option linter.unusedVariables false
theorem spawnE_nil {y : WorldV} {r : Nat} (h : SW y r) (hr : r ≤ 39) : spawnE y [] = 0 := by
  have hgl := h.gl
  unfold spawnE
  rw [h.check (by omega), if_neg (by simp)]
  have e0 : fitAllE y.kinds [] = 0 := rfl
  rw [e0, if_neg (by simp)]
  have e1 : freeOk y = true := by unfold freeOk; rw [decide_eq_true (show y.gens.length < 256 by omega)]; simp
  rw [e1, if_neg (by simp)]
theorem entN_item {y : WorldV} {r : Nat} (h : SW y r) (k : Nat) (hk : k < y.items.length) : entN y y.items[k].n y.items[k].gen = k := by
  unfold entN
  rw [List.findIdx_eq hk]
  refine ⟨?_, fun j hj => ?_⟩
  · unfold isEntI; rw [decide_eq_true rfl, decide_eq_true rfl]; rfl
  · unfold isEntI
    have h1 := (List.pairwise_iff_getElem.1 h.pw) j k (by omega) hk hj
    rw [decide_eq_false (by omega), Bool.false_and]
theorem foundE_item {y : WorldV} {r : Nat} (h : SW y r) (hr : r ≤ 40) (k : Nat) (hk : k < y.items.length) : foundE y y.items[k].n y.items[k].gen = 0 := by
  unfold foundE
  rw [h.check hr, if_neg (by simp), entN_item h k hk, if_neg (by omega)]
theorem entsW_len (y : WorldV) : (entsW y).length = y.items.length := by unfold entsW; rw [List.length_map]
theorem entsW_get (y : WorldV) (k : Nat) (hk : k < y.items.length) : (entsW y).getD k (0, 0) = (y.items[k].n, y.items[k].gen) := by
  unfold entsW
  rw [List.getD_eq_getElem?_getD, List.getElem?_map, List.getElem?_eq_getElem hk]; rfl
theorem ents_cell2 {w : World} {a : Option Addr} {E : List (Int × Int)} (h : EntsAt w a E) (k : Nat) (hk : k < E.length) : ∃ eb eo, a = some ⟨eb, eo, none⟩ ∧ w.cell? ⟨eb, eo + k * 2, none⟩ = some (.int .i64 (E.getD k (0, 0)).1) ∧ w.cell? ⟨eb, eo + k * 2 + 1, none⟩ = some (.int .i64 (E.getD k (0, 0)).2) := by
  obtain ⟨x, rfl, _, hc⟩ := h (by omega)
  obtain ⟨xb, xo, sp⟩ := x
  have hsp : sp = none := by
    have f0 := (hc 0 (by omega)).1
    simpa [Addr.add] using World.cell?_spot f0
  subst hsp
  obtain ⟨f1, f2⟩ := hc k hk
  have e : ∀ q, (⟨xb, xo, none⟩ : Addr).add q = ⟨xb, xo + q, none⟩ := fun q => by simp [Addr.add]
  rw [e] at f1 f2
  exact ⟨xb, xo, rfl, f1, f2⟩
theorem alive_freed (G : List Int) (B : List Bool) (p q : Int) : alive G (freeB B p.toNat) p q = false := by
  unfold alive freeB
  have h : (B.set p.toNat false).getD p.toNat false = false := by
    rw [List.getD_eq_getElem?_getD, List.getElem?_set]
    by_cases h : p.toNat < B.length
    · simp [h]
    · rw [if_pos rfl, if_neg h]; rfl
  rw [h, Bool.false_and, Bool.and_false]
theorem idx_none {l : List ItemV} {p q K : Int} (h : IdxF l p q K) (hn : ∀ u ∈ l, u.n ≠ p) : K = -1 := by
  rcases h with ⟨i, hi, _, h2, _⟩ | ⟨h, _⟩
  · unfold isEntI at h2
    rw [Bool.and_eq_true] at h2
    exact absurd (of_decide_eq_true h2.1) (hn _ (List.getElem_mem hi))
  · exact h
/-- box b3 holds a world that lies apart from the slots -/
structure SwS (W : World) (b3 D s : Nat) (y : WorldV) (c0 c1 c2 vg vu vf : Value) (G : List Int) (B : List Bool) (U F : List Nat) (w : World) : Prop where
  box : w.heap[b3]? = some (.cells #[c0, c1, c2] 27 (0, 0))
  wor : Stays 0 (b3 :: s :: rowsOf [vg]) (fun w => WorldIn w (.agg #[c0, c1, c2]) y) w
  sl : Sl w D s vg vu vf G B U F
  si : SI G B U F
  lt : b3 < D
  bel : Below W.heap.size W w
  b3w : W.heap.size ≤ b3
theorem agg3 {a b c x y z : Value} (h : Value.agg #[a, b, c] = .agg #[x, y, z]) : a = x ∧ b = y ∧ c = z := by
  injection h with h
  injection h with h
  simpa using h
theorem world_form {w : World} {y : WorldV} {c0 c1 c2 : Value} (h : WorldIn w (.agg #[c0, c1, c2]) y) : ∃ ak ck ag cg ai ci, c0 = .slice ak y.kinds.length ck ∧ c1 = .slice ag y.gens.length cg ∧ c2 = .slice ai y.items.length ci := by
  obtain ⟨ak, ck, ag, cg, ai, ci, heq, _⟩ := h
  obtain ⟨e0, e1, e2⟩ := agg3 heq
  exact ⟨ak, ck, ag, cg, ai, ci, e0, e1, e2⟩
theorem world_parts {w : World} {y : WorldV} {a g i : Option Addr} {nk ck ng cg ni ci : Nat} (h : WorldIn w (.agg #[.slice a nk ck, .slice g ng cg, .slice i ni ci]) y) : SlAt 2 KindAt w a y.kinds ∧ IntsAt .i64 w g y.gens ∧ SlAt 3 ItemAt w i y.items := by
  obtain ⟨ak, ck, ag, cg, ai, ci, heq, h1, h2, h3, _⟩ := h
  obtain ⟨e0, e1, e2⟩ := agg3 heq
  injection e0 with e0 _ _
  injection e1 with e1 _ _
  injection e2 with e2 _ _
  rw [e0, e1, e2]
  exact ⟨h1, h2, h3⟩
section
variable {W : World} {b3 D s : Nat} {y : WorldV} {c0 c1 c2 vg vu vf : Value} {G : List Int} {B : List Bool} {U F : List Nat} {w w' : World}
theorem SwS.below (h : SwS W b3 D s y c0 c1 c2 vg vu vf G B U F w) (hb : Below w.heap.size w w') : SwS W b3 D s y c0 c1 c2 vg vu vf G B U F w' :=
  ⟨heap_below h.box hb, h.wor.below hb, h.sl.below hb, h.si, h.lt, bt h.bel hb, h.b3w⟩
theorem SwS.rows (h : SwS W b3 D s y c0 c1 c2 vg vu vf G B U F w) : ∀ g ∈ b3 :: s :: rowsOf [vg], g < w.heap.size := fun g hg => by
  rcases List.mem_cons.1 hg with rfl | hg
  · exact lt_of_heap h.box
  · rcases List.mem_cons.1 hg with rfl | hg
    · exact lt_of_heap h.sl.block
    · obtain ⟨v, hv, e⟩ := mem_rowsOf.1 hg
      rw [List.mem_singleton.1 hv] at e
      exact (own_lt h.sl.gens g e).2
/-- what is read apart from the slots stays, when the slots are written -/
theorem sl_stays {vg' : Value} {P : World → Prop} (h : Stays 0 (b3 :: s :: rowsOf [vg]) P w) (hg : GrP (SlP s vg) w w') (hv : ∀ k, vg'.ownBlock = some k → vg.ownBlock = some k ∨ w.heap.size ≤ k) : Stays 0 (b3 :: s :: rowsOf [vg']) P w' :=
  h.step hg.size (fun g _ h2 h3 => hg.block g h2 (fun e => h3 (by
    rcases e with rfl | e
    · exact List.mem_cons_of_mem _ (List.mem_cons_self ..)
    · exact List.mem_cons_of_mem _ (List.mem_cons_of_mem _ (mem_rowsOf.2 ⟨vg, List.mem_cons_self .., e⟩))))) (fun g hm => by
    rcases List.mem_cons.1 hm with rfl | hm
    · exact Or.inl (List.mem_cons_self ..)
    · rcases List.mem_cons.1 hm with rfl | hm
      · exact Or.inl (List.mem_cons_of_mem _ (List.mem_cons_self ..))
      · obtain ⟨v, hv2, e⟩ := mem_rowsOf.1 hm
        rw [List.mem_singleton.1 hv2] at e
        rcases hv g e with h4 | h4
        · exact Or.inl (List.mem_cons_of_mem _ (List.mem_cons_of_mem _ (mem_rowsOf.2 ⟨vg, List.mem_cons_self .., h4⟩)))
        · exact Or.inr h4)
theorem SwS.slots (h : SwS W b3 D s y c0 c1 c2 vg vu vf G B U F w) {vg' vu' vf' : Value} {G2 : List Int} {B2 : List Bool} {U2 F2 : List Nat} (h1 : Sl w' D s vg' vu' vf' G2 B2 U2 F2) (h2 : SI G2 B2 U2 F2) (hg : GrP (SlP s vg) w w') (hv : ∀ k, vg'.ownBlock = some k → vg.ownBlock = some k ∨ w.heap.size ≤ k) : SwS W b3 D s y c0 c1 c2 vg' vu' vf' G2 B2 U2 F2 w' :=
  have hlt := h.lt
  have hds := h.sl.ds
  have hne : ∀ k, SlP s vg k → D ≤ k := fun k hk => by
    rcases hk with rfl | e
    · exact hds
    · exact (own_lt h.sl.gens k e).1
  ⟨heap_grp h.box hg (fun e => by have := hne _ e; omega), sl_stays h.wor hg hv, h1, h2, hlt, h.bel.trans (hg.below (Nat.le_trans h.bel.size (Nat.le_refl _)) (fun k hk => by have := hne k hk; have := h.b3w; omega)), h.b3w⟩
/-- a world that lay before the slots -/
theorem elder_stays {R : List Nat} {v : Value} {w0 : World} (h : WorldIn w0 v y) (hb : Below w0.heap.size w0 w) (hR : ∀ g ∈ R, w0.heap.size ≤ g) : Stays 0 R (fun w => WorldIn w v y) w := fun w2 hs hk => by
  have hh : WorldIn { w0 with heap := w2.heap } v y := h.below ⟨rfl, rfl, rfl, Nat.le_trans hb.size hs, fun k hk2 => (hk k (Nat.zero_le _) (Nat.lt_of_lt_of_le hk2 hb.size) (fun hm => by have := hR k hm; omega)).trans (hb.block k hk2)⟩
  exact hh
/-- what a call made leans on nothing of the slots -/
theorem SwS.new {P : World → Prop} (h : SwS W b3 D s y c0 c1 c2 vg vu vf G B U F w) (hu : Up w.heap.size P w') : Stays 0 (b3 :: s :: rowsOf [vg]) P w' := fun w2 hs hk => hu w2 ⟨hs, fun g h1 h2 => hk g (Nat.zero_le _) h2 (fun hm => by have := h.rows g hm; omega)⟩
/-- another world is stored into the box -/
theorem SwS.store (h : SwS W b3 D s y c0 c1 c2 vg vu vf G B U F w) {y2 : WorldV} {d0 d1 d2 : Value} (hn : Stays 0 (b3 :: s :: rowsOf [vg]) (fun w => WorldIn w (.agg #[d0, d1, d2]) y2) w) (hp : PutR w w' b3 27 #[d0, d1, d2]) : SwS W b3 D s y2 d0 d1 d2 vg vu vf G B U F w' := by
  have hlt := h.lt
  have hds := h.sl.ds
  have hgp : GrP (fun k => k = b3) w w' := ⟨hp.os, hp.tape, hp.output, by rw [hp.size]; exact Nat.le_refl _, fun k _ hk => hp.else_ k hk⟩
  refine ⟨hp.here, hn.to (by rw [hp.size]; exact Nat.le_refl _) (fun g _ _ h3 => hp.else_ g (fun e => h3 (by rw [e]; exact List.mem_cons_self ..))), ?_, h.si, hlt, h.bel.trans (hp.below h.b3w), h.b3w⟩
  exact h.sl.keep hgp (fun e => by omega) (fun k hk e => by have := (own_lt h.sl.gens k hk).1; omega) (fun k hk e => by have := (own_lt h.sl.used k hk).1; omega) (fun k hk e => by have := (own_lt h.sl.free k hk).1; omega)
end
end Go.Proofs.Ytpilpkbblkhnaaa
end
/- world.New. -/
section
namespace Go.Proofs.Ytpilpkbblkhnaaa
open Go.ChangeShapes Go.WideShapes Go.ChangeAt Go.RowKit Go.Nm Go.Mem
set_option linter.unusedVariables false
def newV (l : List KindV) : WorldV := if kindsE l = 0 then ⟨l, [], []⟩ else ⟨[], [], []⟩
set_option maxHeartbeats 4000000 in
theorem world_New (l : List KindV) (a : Option Addr) (n cap : Nat) (hn : l.length = n) (h1 : n ≤ 1048576) (hnc : n ≤ cap) (hcm : cap ≤ 9223372036854775807) (hv : ∀ y ∈ l, y.fields.length ≤ 1048576) (W : World) (hz : SlAt 2 KindAt W a l) :
    Calls Try.prog 17 #[.slice a n cap] W fun e w' => (∃ v, e = .returned (.tuple #[v, .int .i64 (kindsE l)]) ∧ WorldIn w' v (newV l)) ∧ Below W.heap.size W w' := by
  obtain ⟨E, hE⟩ : ∃ E, E = kindsE l := ⟨_, rfl⟩
  have hb0 := (Below.refl W.heap.size W).alloc (Nat.le_refl _) (.cells #[.slice none 0 0, .slice none 0 0, .slice none 0 0] 27)
  have HC := Lib.hid (kind_Check l a n cap hn (by omega) hnc hcm _ (hz.below KindAt.abides hb0))
  have HCP := Lib.hid (kind_Copy l a n cap hn (by omega) (fun y hy => by have := hv y hy; omega))
  rw [← hE] at HC ⊢
  have HE := Lib.hid hE
  have HN := Lib.hid hn
  have HZ := Lib.hid hz
  have HB0 := Lib.hid hb0
  clear hE hn hz hb0 hv
  go_enter Try.func17, Try.ntmps17
  go_wp2_with fail
  refine HC.out.mono ?_
  rintro e w1 ⟨rfl, hb1⟩
  have HB1 := Lib.hid (HB0.out.trans (hb1.mono HB0.out.size))
  have HROW := Lib.hid (heap_below (heap_alloc_new W (.cells #[.slice none 0 0, .slice none 0 0, .slice none 0 0] 27)) hb1)
  clear hb1 HC
  by_cases he : E = 0
  · subst he
    have t0 : ((0 : Int) != 0) = false := rfl
    go_wp2_with fail
    refine (HCP.out _ (HZ.out.below KindAt.abides HB1.out)).mono ?_
    rintro e w2 ⟨⟨a2, rfl, hk⟩, hb2⟩
    have HK := Lib.hid hk
    have HB2 := Lib.hid (HB1.out.trans (hb2.mono HB1.out.size))
    have HROW2 := Lib.hid (heap_below HROW.out hb2)
    clear hk hb2
    go_wp2_with (refine wpList_store_rowP rfl 27 (.tmp 2) (.tmp 13) rfl (W.heap.size) #[.slice a2 n n, .slice none 0 0, .slice none 0 0] rfl rfl _ _ HROW2.out (by kernel_rfl) rfl (ones3 _ _ _ rfl rfl rfl) ?_; intro W9 hput; have HPUT := Lib.hid hput; clear hput)
    refine bodyPost_ret (results_ct Try.results17 _ _ W.heap.size 27 _ (0, 0) _ rfl HPUT.out.here Try.underlying27 rfl (by kernel_rfl)) rfl ⟨⟨_, rfl, ?_⟩, HB2.out.trans ((HPUT.out.below (Nat.le_refl _)))⟩
    have hg : w2.grownBy W9 (some W.heap.size) := ⟨HPUT.out.os, HPUT.out.tape, HPUT.out.output, by rw [HPUT.out.size]; exact Nat.le_refl _, fun k hk hne => HPUT.out.else_ k (fun e => hne (by rw [e]))⟩
    have hk9 := kinds_gb HK.out (nostr_row HROW2.out nostr_zero) hg
    unfold newV
    rw [← HE.out, if_pos rfl]
    exact ⟨a2, n, none, 0, none, 0, by rw [HN.out]; rfl, hk9, fun h => absurd h (by simp), fun h => absurd h (by simp), by rw [HN.out]; exact Nat.le_refl _, by omega⟩
  · have t0 : (E != 0) = true := by rw [bne_iff_ne]; exact he
    go_wp2_with (refine wpList_store_rowP rfl 27 (.tmp 2) (.tmp 9) rfl (W.heap.size) #[.slice none 0 0, .slice none 0 0, .slice none 0 0] rfl rfl _ _ HROW.out (by kernel_rfl) rfl (ones3 _ _ _ rfl rfl rfl) ?_; intro W9 hput; have HPUT := Lib.hid hput; clear hput)
    refine bodyPost_ret (results_ct Try.results17 _ _ W.heap.size 27 _ (0, 0) _ rfl HPUT.out.here Try.underlying27 rfl (by kernel_rfl)) rfl ⟨⟨_, rfl, ?_⟩, HB1.out.trans ((HPUT.out.below (Nat.le_refl _)))⟩
    unfold newV
    rw [← HE.out, if_neg he]
    exact ⟨none, 0, none, 0, none, 0, rfl, fun h => absurd h (by simp), fun h => absurd h (by simp), fun h => absurd h (by simp), by simp, by simp⟩
end Go.Proofs.Ytpilpkbblkhnaaa
end
/- world.Ints. -/
section
namespace Go.Proofs.Ytpilpkbblkhnaaa
open Go.ChangeShapes Go.WideShapes Go.ChangeAt Go.RowKit Go.Mem
set_option linter.unusedVariables false
theorem allocs3_1 (w : World) (o1 o2 o3 : Obj) : (((w.alloc o1).alloc o2).alloc o3).heap[w.heap.size]? = some o1 := heap_keep (heap_keep (heap_alloc_new w o1) _) _
theorem allocs3_2 (w : World) (o1 o2 o3 : Obj) : (((w.alloc o1).alloc o2).alloc o3).heap[w.heap.size + 1]? = some o2 := by
  have := heap_keep (heap_alloc_new (w.alloc o1) o2) o3
  simpa using this
theorem allocs3_3 (w : World) (o1 o2 o3 : Obj) : (((w.alloc o1).alloc o2).alloc o3).heap[w.heap.size + 1 + 1]? = some o3 := by
  have := heap_alloc_new ((w.alloc o1).alloc o2) o3
  simpa using this
theorem allocs3_b (w : World) (o1 o2 o3 : Obj) : Below w.heap.size w (((w.alloc o1).alloc o2).alloc o3) := (((Below.refl w.heap.size w).alloc (Nat.le_refl _) o1).alloc (by simp) o2).alloc (by simp; omega) o3
set_option maxHeartbeats 16000000 in
set_option maxRecDepth 20000 in
theorem world_Ints (y : WorldV) (v : Value) (W : World) (hv : WorldIn W v y) (hfn : FineW y) : Calls Try.prog 43 #[v] W fun e w' => (∃ a c, e = .returned (.slice a (intsW y).length c) ∧ IntsAt .i64 w' a (intsW y)) ∧ Below W.heap.size W w' := by
  obtain ⟨ak, ck, ag, cg, ai, ci, rfl, hzk, hzg, hzi, hk1, hk2⟩ := hv
  have hdk := fun i (h : i < y.kinds.length) R => drop_flat kndI y.kinds i h R
  have hdi := fun i (h : i < y.items.length) R => drop_flat itemI y.items i h R
  have hek := drop_end kndI y.kinds
  have hei := drop_end itemI y.items
  obtain ⟨TOT, hTOT⟩ : ∃ T, T = intsW y := ⟨_, rfl⟩
  have htl := hfn.tot
  rw [← hTOT] at htl ⊢
  obtain ⟨TL, hTL⟩ : ∃ t, t = TOT.length := ⟨_, rfl⟩
  rw [← hTL] at htl
  have s1 := hfn.kl
  have s2 := hfn.gl
  have s3 := hfn.il
  have HK := Lib.hid hfn.k
  have HI := Lib.hid hfn.i
  unfold intsW at hTOT
  obtain ⟨nk, hnk⟩ : ∃ nk, nk = y.kinds.length := ⟨_, rfl⟩
  obtain ⟨ng, hng⟩ : ∃ ng, ng = y.gens.length := ⟨_, rfl⟩
  obtain ⟨ni, hni⟩ : ∃ ni, ni = y.items.length := ⟨_, rfl⟩
  rw [← hnk] at hk1 s1
  rw [← hng] at s2
  rw [← hni] at s3
  rw [← hnk, ← hng, ← hni]
  rw [← hnk, ← hng, ← hni] at hTOT
  rw [← hnk] at hek
  rw [← hni] at hei
  have hk0 : ((y.kinds.map kndI).flatten : List Int) = ((y.kinds.drop 0).map kndI).flatten := rfl
  have hi0 : ((y.items.map itemI).flatten : List Int) = ((y.items.drop 0).map itemI).flatten := rfl
  rw [hk0, hi0] at hTOT
  obtain ⟨FI, hFI⟩ : ∃ F : Nat → List Int, F = fun i => ((y.items.drop i).map itemI).flatten := ⟨_, rfl⟩
  obtain ⟨FK, hFK⟩ : ∃ F : Nat → List Int, F = fun i => ((y.kinds.drop i).map kndI).flatten := ⟨_, rfl⟩
  have hdk' : ∀ i (h : i < y.kinds.length) R, FK i ++ R = kndI y.kinds[i] ++ (FK (i + 1) ++ R) := fun i h R => by rw [hFK]; exact hdk i h R
  have hdi' : ∀ i (h : i < y.items.length) R, FI i ++ R = itemI y.items[i] ++ (FI (i + 1) ++ R) := fun i h R => by rw [hFI]; exact hdi i h R
  have hek' : ∀ R, FK nk ++ R = R := fun R => by rw [hFK]; exact hek R
  have hei' : ∀ R, FI ni ++ R = R := fun R => by rw [hFI]; exact hei R
  have hTOT' : [(nk : Int)] ++ (FK 0 ++ ([(ng : Int)] ++ (y.gens ++ ([(ni : Int)] ++ FI 0)))) = TOT := by rw [hFK, hFI]; exact hTOT.symm
  have DK := Lib.hid hdk'
  have DI := Lib.hid hdi'
  have EK := Lib.hid hek'
  have EI := Lib.hid hei'
  have HT0 := Lib.hid hTOT'
  have HTL := Lib.hid hTL
  have NK := Lib.hid hnk
  have NG := Lib.hid hng
  have NI := Lib.hid hni
  have ZK := Lib.hid hzk
  have ZG := Lib.hid hzg
  have ZI := Lib.hid hzi
  have LEN := Lib.hid (fun (L R : List Int) (h : L ++ R = TOT) => (show L.length ≤ TL from by rw [hTL]; exact len_le h))
  clear hdk hdi hek hei hk0 hi0 hTOT hFI hFK hdk' hdi' hek' hei' hTOT' hTL hnk hng hni hzk hzg hzi hfn
  obtain ⟨o1, ho1⟩ : ∃ o : Obj, o = .cells #[.slice ak nk ck, .slice ag ng cg, .slice ai ni ci] 27 (0, 0) := ⟨_, rfl⟩
  obtain ⟨o2, ho2⟩ : ∃ o : Obj, o = .cells #[.int .i64 (nk : Int)] 3 (0, 0) := ⟨_, rfl⟩
  obtain ⟨o3, ho3⟩ : ∃ o : Obj, o = .cells #[.slice (some ⟨W.heap.size + 1, 0, none⟩) 1 1] 22 (0, 0) := ⟨_, rfl⟩
  have g1 := allocs3_1 W o1 o2 o3
  have g2 := allocs3_2 W o1 o2 o3
  have g3 := allocs3_3 W o1 o2 o3
  have gb := allocs3_b W o1 o2 o3
  rw [ho1, ho2, ho3] at g1 g2 g3 gb
  obtain ⟨B, hB⟩ : ∃ B, B = W.heap.size + 1 := ⟨_, rfl⟩
  obtain ⟨X, hX⟩ : ∃ X, X = W.heap.size + 1 + 1 := ⟨_, rfl⟩
  have hout0 : OutV (((W.alloc (.cells #[.slice ak nk ck, .slice ag ng cg, .slice ai ni ci] 27 (0, 0))).alloc (.cells #[.int .i64 (nk : Int)] 3 (0, 0))).alloc (.cells #[.slice (some ⟨W.heap.size + 1, 0, none⟩) 1 1] 22 (0, 0))) B X (.slice (some ⟨W.heap.size + 1, 0, none⟩) 1 1) [(nk : Int)] :=
    ⟨by omega, by rw [hX]; exact g3, ⟨rfl, Or.inr ⟨W.heap.size + 1, 1, #[.int .i64 (nk : Int)], rfl, by omega, g2, Nat.le_refl _, by decide, rfl, rfl⟩⟩⟩
  have hrow0 := g1
  have hb0 := gb
  have HOUT0 := Lib.hid hout0
  have HROW0 := Lib.hid hrow0
  have HB0 := Lib.hid hb0
  clear ho1 ho2 ho3 o1 o2 o3 g1 g2 g3 gb hout0 hrow0 hb0
  have HX := Lib.hid hX
  have hBX : B ≤ X := by omega
  have hNB : W.heap.size < B := by omega
  clear hB hX
  go_enter Try.func43, Try.ntmps43
  go_wp2_with fail
  obtain ⟨W0, hW0⟩ : ∃ W0, W0 = ((W.alloc (.cells #[.slice ak nk ck, .slice ag ng cg, .slice ai ni ci] 27 (0, 0))).alloc (.cells #[.int .i64 (nk : Int)] 3 (0, 0))).alloc (.cells #[.slice (some ⟨W.heap.size + 1, 0, none⟩) 1 1] 22 (0, 0)) := ⟨_, rfl⟩
  rw [← hW0] at HOUT0 HROW0 HB0 ⊢
  have hX := (show X = W.heap.size + 1 + 1 by have := HX.out; omega)
  rw [← hX]
  clear hX hW0
  have hT1 := step_eq HT0.out
  go_loopg [21, 6, 38, 8] nk (fun gk v1 _ _ _ wx => ∃ (i : Nat) (u : Value) (L : List Int), i ≤ nk ∧ gk = nk - i ∧ v1 = .int .i64 i ∧ OutV wx B X u L ∧ L ++ (FK i ++ ([(ng : Int)] ++ (y.gens ++ ([(ni : Int)] ++ FI 0)))) = TOT ∧ FrX B X W0 wx)
  case atStart => exact ⟨0, _, _, Nat.zero_le _, rfl, rfl, HOUT0.out, hT1, FrX.refl _ _ _⟩
  case round =>
    clear HOUT0 hT1
    obtain ⟨i, u, L, j1, j2, rfl, hout, hT, hfr⟩ := hrel
    have J2 := Lib.hid j2
    have HOUT := Lib.hid hout
    have HFR := Lib.hid hfr
    have HT := Lib.hid hT
    have hrowN := hfr.low hNB HROW0.out
    have HROWN := Lib.hid hrowN
    have hbW : Below W.heap.size W wr := HB0.out.trans (hfr.bel.mono (Nat.le_of_lt hNB))
    have HBW := Lib.hid hbW
    have hble := hout.ble
    clear j2 hout hfr hT hrowN
    by_cases hi : i < nk
    · obtain ⟨x, rfl, _, _⟩ := ZK.out (by rw [← NK.out]; omega)
      obtain ⟨kb, ko, rfl, af, cf, hclW, hnm, hnc, hcm, hfl⟩ := kind_cells ZK.out i (by rw [← NK.out]; exact hi)
      have hcl := hclW.below hbW
      clear hclW
      have hsz := HK.out _ (List.getElem_mem (by rw [← NK.out]; exact hi) : y.kinds[i]'(by rw [← NK.out]; exact hi) ∈ y.kinds)
      have hT := HT.out
      rw [DK.out i (by rw [← NK.out]; exact hi)] at hT
      obtain ⟨kk, hkk⟩ : ∃ kk, kk = y.kinds[i]'(by rw [← NK.out]; exact hi) := ⟨_, rfl⟩
      rw [← hkk] at hcl hnm hnc hfl hsz hT
      unfold kndI at hT
      obtain ⟨q1, q2, q3⟩ := hsz
      obtain ⟨FF, hFF⟩ : ∃ F : Nat → List Int, F = fun j => ((kk.fields.drop j).map fldI).flatten := ⟨_, rfl⟩
      have df : ∀ j (h : j < kk.fields.length) R, FF j ++ R = fldI kk.fields[j] ++ (FF (j + 1) ++ R) := fun j h R => by rw [hFF]; exact drop_flat fldI kk.fields j h R
      have ef : ∀ R, FF kk.fields.length ++ R = R := fun R => by rw [hFF]; exact drop_end fldI kk.fields R
      rw [show (kk.fields.map fldI).flatten = FF 0 from by rw [hFF]; rfl, List.append_assoc, List.append_assoc] at hT
      obtain ⟨nf, hnf⟩ : ∃ nf, nf = kk.fields.length := ⟨_, rfl⟩
      rw [← hnf] at hcl hT ef hnc q2
      obtain ⟨nm, hnmE⟩ : ∃ nm, nm = kk.name := ⟨_, rfl⟩
      rw [← hnmE] at hcl hT q1
      have e0 := hcl.at 0 (by simp)
      have e1 := hcl.at 1 (by simp)
      simp only [List.getElem_cons_zero, List.getElem_cons_succ, Nat.add_zero] at e0 e1
      have hrk := heap_alloc_new wr (.cells #[.string nm, .slice af nf cf] 58 (0, 0))
      have hbk : Below wr.heap.size wr (wr.alloc (.cells #[.string nm, .slice af nf cf] 58 (0, 0))) := (Below.refl _ _).alloc (Nat.le_refl _) _
      have hLl := LEN.out _ _ HT.out
      have CN := Lib.hid (ints_name nm q1 B X u L _ (HOUT.out.below hbk) (by omega))
      have HT1 := Lib.hid (step_eq hT)
      have hL1 := LEN.out _ _ HT1.out
      have HRK := Lib.hid hrk
      have HFL := Lib.hid hfl
      have HFK := Lib.hid (FrX.of_below (X := X) hble hbk)
      have DF := Lib.hid df
      have EF := Lib.hid ef
      have Q3 := Lib.hid q3
      have NF := Lib.hid hnf
      have hKX : wr.heap.size ≠ X := by have := HOUT.out.lt; omega
      obtain ⟨L1, hL1e⟩ : ∃ L1, L1 = L ++ nameI nm := ⟨_, rfl⟩
      rw [← hL1e] at CN HT1 hL1
      clear hcl hnm hnc hfl hkk hT hFF df ef hnf hnmE hrk hbk hL1e q3
      go_wp2_with (first
        | (go_at_call 65; refine CN.out.mono ?_; rintro e w2 ⟨rfl, ⟨v2, ho2⟩, hf2⟩; have HO2 := Lib.hid ho2; have HF2 := Lib.hid hf2; have c2 := ho2.cell; have rk2 := hf2.far _ _ _ _ HRK.out (by decide) hKX; have RK2 := Lib.hid rk2; have k21 := cell_of_row _ _ 1 _ _ _ rk2; clear ho2 hf2 rk2)
        | (at_builtin; go_must (refine wpList_out rfl _ _ rfl rfl _ _ rfl B X v2 L1 rfl (HO2.out.below ((Below.refl _ _).alloc (Nat.le_refl _) _)) (some ⟨w2.heap.size, 0, none⟩) 1 1 [(nf : Int)] rfl rfl (new_ints1 w2 (nf : Int)) (by omega) (fun u => rfl) (fun u => rfl) ?_); intro v3 w3 hout hfr; have HO3 := Lib.hid hout; have HF3 := Lib.hid ((FrX.of_below HO2.out.ble ((Below.refl w2.heap.size w2).alloc (Nat.le_refl _) (.cells #[.int .i64 (nf : Int)] 3))).trans hfr); have c3 := hout.cell; have rk3 := hfr.far _ _ _ _ (heap_keep RK2.out _) (by decide) hKX; have RK3 := Lib.hid rk3; have k31 := cell_of_row _ _ 1 _ _ _ rk3; clear rk3; clear hout hfr))
      have HT2 := Lib.hid (step_eq HT1.out)
      have hL2 := LEN.out _ _ HT2.out
      have HFA := Lib.hid (HFR.out.trans (HFK.out.trans (HF2.out.trans HF3.out)))
      clear CN HF2 HF3 HO2 RK2 HRK HFK c2 c3 k21 HROWN HT1
      obtain ⟨R1, hR1⟩ : ∃ R1, R1 = FK (i + 1) ++ ([(ng : Int)] ++ (y.gens ++ ([(ni : Int)] ++ FI 0))) := ⟨_, rfl⟩
      rw [← hR1] at HT2
      have HR1 := Lib.hid hR1
      clear hR1
      go_loopg [38, 8] nf (fun gk v1 _ wx => ∃ (j : Nat) (u : Value) (L : List Int), j ≤ nf ∧ gk = nf - j ∧ v1 = .int .i64 j ∧ OutV wx B X u L ∧ L ++ (FF j ++ R1) = TOT ∧ FrX B X W0 wx)
      case atStart => exact ⟨0, _, _, Nat.zero_le _, rfl, rfl, HO3.out, HT2.out, HFA.out⟩
      case round =>
        clear HO3 HT2 HFA RK3 k31 e0 e1
        obtain ⟨j, u, L, l1, l2, rfl, hout, hT, hfr⟩ := hrel
        have J3 := Lib.hid l2
        have HOUT := Lib.hid hout
        have HFR := Lib.hid hfr
        have HT := Lib.hid hT
        have hbW : Below W.heap.size W wr := HB0.out.trans (hfr.bel.mono (Nat.le_of_lt hNB))
        have hble := hout.ble
        have hLl := LEN.out _ _ hT
        clear l2 hout hfr hT
        by_cases hj : j < nf
        · obtain ⟨x, rfl, _, _⟩ := HFL.out (by rw [← NF.out]; omega)
          obtain ⟨fb, fo, rfl, hclW⟩ := fld_cells HFL.out j (by rw [← NF.out]; exact hj)
          have hcl := hclW.below hbW
          have hT := HT.out
          rw [DF.out j (by rw [← NF.out]; exact hj)] at hT
          have hsz := Q3.out _ (List.getElem_mem (by rw [← NF.out]; exact hj) : kk.fields[j]'(by rw [← NF.out]; exact hj) ∈ kk.fields)
          obtain ⟨ff, hff⟩ : ∃ ff, ff = kk.fields[j]'(by rw [← NF.out]; exact hj) := ⟨_, rfl⟩
          rw [← hff] at hcl hsz hT
          unfold fldI at hT
          rw [List.append_assoc] at hT
          obtain ⟨n2, hn2⟩ : ∃ n2, n2 = ff.name := ⟨_, rfl⟩
          obtain ⟨b2, hb2⟩ : ∃ b2, b2 = ff.bits := ⟨_, rfl⟩
          obtain ⟨l2, hl2⟩ : ∃ l2, l2 = ff.low := ⟨_, rfl⟩
          rw [← hn2] at hcl hsz hT
          rw [← hb2, ← hl2] at hcl hT
          have e0 := hcl.at 0 (by simp)
          have e1 := hcl.at 1 (by simp)
          have e2 := hcl.at 2 (by simp)
          simp only [List.getElem_cons_zero, List.getElem_cons_succ, Nat.add_zero] at e0 e1 e2
          have hrk := heap_alloc_new wr (.cells #[.string n2, .int .i64 b2, .int .i64 l2] 55 (0, 0))
          have hbk : Below wr.heap.size wr (wr.alloc (.cells #[.string n2, .int .i64 b2, .int .i64 l2] 55 (0, 0))) := (Below.refl _ _).alloc (Nat.le_refl _) _
          have CN := Lib.hid (ints_name n2 hsz B X u L _ (HOUT.out.below hbk) (by omega))
          have HT1 := Lib.hid (step_eq hT)
          have hL1 := LEN.out _ _ HT1.out
          have HRK := Lib.hid hrk
          have HFK := Lib.hid (FrX.of_below (X := X) hble hbk)
          have hKX : wr.heap.size ≠ X := by have := HOUT.out.lt; omega
          obtain ⟨L1, hL1e⟩ : ∃ L1, L1 = L ++ nameI n2 := ⟨_, rfl⟩
          rw [← hL1e] at CN HT1 hL1
          clear hcl hclW hff hT hn2 hb2 hl2 hrk hbk hL1e
          go_wp2_with (first
            | (go_at_call 65; refine CN.out.mono ?_; rintro e w2 ⟨rfl, ⟨v2, ho2⟩, hf2⟩; have HO2 := Lib.hid ho2; have HF2 := Lib.hid hf2; have c2 := ho2.cell; have rk2 := hf2.far _ _ _ _ HRK.out (by decide) hKX; have k21 := cell_of_row _ _ 1 _ _ _ rk2; have k22 := cell_of_row _ _ 2 _ _ _ rk2; clear ho2 hf2 rk2)
            | (at_builtin; go_must (refine wpList_out rfl _ _ rfl rfl _ _ rfl B X v2 L1 rfl (HO2.out.below ((Below.refl _ _).alloc (Nat.le_refl _) _)) (some ⟨w2.heap.size, 0, none⟩) 2 2 [b2, l2] rfl rfl (new_ints2 w2 b2 l2) (by omega) (fun u => rfl) (fun u => rfl) ?_); intro v3 w3 hout hfr; have HO3 := Lib.hid hout; have HF3 := Lib.hid ((FrX.of_below HO2.out.ble ((Below.refl w2.heap.size w2).alloc (Nat.le_refl _) (.cells #[.int .i64 b2, .int .i64 l2] 3))).trans hfr); skip; clear hout hfr))
          have HT2 := Lib.hid (step_eq HT1.out)
          have HFA := Lib.hid (HFR.out.trans (HFK.out.trans (HF2.out.trans HF3.out)))
          clear CN HF2 HF3 HO2 HRK HFK c2 k21 k22 HT1 e0 e1 e2
          go_roundg (nf - (j + 1))
          case measure => rw [J3.out]; omega
          case rel => exact ⟨j + 1, _, _, hj, rfl, by go_num, HO3.out, HT2.out, HFA.out⟩
        · obtain rfl : nf = j := by omega
          have hT := HT.out
          rw [EF.out, HR1.out] at hT
          have HT := Lib.hid hT
          clear hT
          go_wp2
          go_roundg (nk - (i + 1))
          case measure => rw [J2.out]; omega
          case rel => exact ⟨i + 1, _, _, hi, rfl, by go_num, HOUT.out, HT.out, HFR.out⟩
    · obtain rfl : nk = i := by omega
      have hT := HT.out
      rw [EK.out] at hT
      have HT0 := Lib.hid hT
      have HT1 := Lib.hid (step_eq hT)
      have HT2 := Lib.hid (step_eq HT1.out)
      have HT3 := Lib.hid (step_eq HT2.out)
      have hl0 := LEN.out _ _ HT0.out
      have hl1 := LEN.out _ _ HT1.out
      have hl2 := LEN.out _ _ HT2.out
      have hl3 := LEN.out _ _ HT3.out
      have c0 := HOUT.out.cell
      have r1 := cell_of_row _ _ 1 _ _ _ HROWN.out
      have r2 := cell_of_row _ _ 2 _ _ _ HROWN.out
      have ZGr := Lib.hid (ZG.out.below hbW)
      clear hT HT HT0

      go_wp2_with (first
        | (at_builtin; (refine wpList_out rfl _ _ rfl rfl _ _ rfl B X u L rfl (HOUT.out.below ((Below.refl _ _).alloc (Nat.le_refl _) _)) (some ⟨wr.heap.size, 0, none⟩) 1 1 [(ng : Int)] rfl rfl (new_ints1 wr (ng : Int)) (by omega) (fun u => rfl) (fun u => rfl) ?_); intro v5 w5 hout hfr; have HO5 := Lib.hid hout; have HF5 := Lib.hid ((FrX.of_below HOUT.out.ble ((Below.refl wr.heap.size wr).alloc (Nat.le_refl _) (.cells #[.int .i64 (ng : Int)] 3))).trans hfr); have hbW5 := HBW.out.trans (HF5.out.bel.mono (Nat.le_of_lt hNB)); have row5 := HF5.out.low hNB HROWN.out; have c5 := hout.cell; have r15 := cell_of_row _ _ 1 _ _ _ row5; have r25 := cell_of_row _ _ 2 _ _ _ row5; have ZG5 := Lib.hid (ZG.out.below hbW5); have HROWN5 := Lib.hid row5; have HBW5 := Lib.hid hbW5; clear hbW5 row5; clear hout hfr)
        | (at_builtin; (refine wpList_out rfl _ _ rfl rfl _ _ rfl B X v5 (L ++ [(ng : Int)]) rfl HO5.out ag ng cg y.gens rfl NG.out.symm ZG5.out (by have := hl2; rw [List.length_append, ← NG.out] at this; omega) (fun u => rfl) (fun u => rfl) ?_); intro v6 w6 hout hfr; have HO6 := Lib.hid hout; have HF6 := Lib.hid hfr; have hbW6 := HBW5.out.trans (HF6.out.bel.mono (Nat.le_of_lt hNB)); have row6 := HF6.out.low hNB HROWN5.out; have c6 := hout.cell; have r16 := cell_of_row _ _ 1 _ _ _ row6; have r26 := cell_of_row _ _ 2 _ _ _ row6; have ZG6 := Lib.hid (ZG.out.below hbW6); have HROWN6 := Lib.hid row6; have HBW6 := Lib.hid hbW6; clear hbW6 row6; clear hout hfr)
        | (at_builtin; (refine wpList_out rfl _ _ rfl rfl _ _ rfl B X v6 (L ++ [(ng : Int)] ++ y.gens) rfl (HO6.out.below ((Below.refl _ _).alloc (Nat.le_refl _) _)) (some ⟨w6.heap.size, 0, none⟩) 1 1 [(ni : Int)] rfl rfl (new_ints1 w6 (ni : Int)) (by omega) (fun u => rfl) (fun u => rfl) ?_); intro v7 w7 hout hfr; have HO7 := Lib.hid hout; have HF7 := Lib.hid ((FrX.of_below HO6.out.ble ((Below.refl w6.heap.size w6).alloc (Nat.le_refl _) (.cells #[.int .i64 (ni : Int)] 3))).trans hfr); have hbW7 := HBW6.out.trans (HF7.out.bel.mono (Nat.le_of_lt hNB)); have row7 := HF7.out.low hNB HROWN6.out; have c7 := hout.cell; have r17 := cell_of_row _ _ 1 _ _ _ row7; have r27 := cell_of_row _ _ 2 _ _ _ row7; have ZG7 := Lib.hid (ZG.out.below hbW7); have HROWN7 := Lib.hid row7; have HBW7 := Lib.hid hbW7; clear hbW7 row7; clear hout hfr))
      have HFB := Lib.hid (HFR.out.trans (HF5.out.trans (HF6.out.trans HF7.out)))
      have hT3 : (L ++ [(ng : Int)] ++ y.gens ++ [(ni : Int)]) ++ (FI 0 ++ []) = TOT := by rw [List.append_nil]; exact HT3.out
      clear HF5 HF6 HF7 HO5 HO6 c5 c6 c0 r1 r2 r15 r16 r25 r26 ZGr ZG5 ZG6 ZG7 HT1 HT2 HT3 HROWN HROWN5 HROWN6 HBW HBW5 HBW6 hl0 hl1 hl2 HOUT HFR
      go_loopg [74, 10, 93, 12] ni (fun gk v1 _ _ _ wx => ∃ (i : Nat) (u : Value) (L : List Int), i ≤ ni ∧ gk = ni - i ∧ v1 = .int .i64 i ∧ OutV wx B X u L ∧ L ++ (FI i ++ []) = TOT ∧ FrX B X W0 wx)
      case atStart => exact ⟨0, _, _, Nat.zero_le _, rfl, rfl, HO7.out, hT3, HFB.out⟩
      case round =>
        clear HO7 hT3 HFB hl3 c7 r17 r27 HROWN7 HBW7
        obtain ⟨i, u, L, j1, j2, rfl, hout, hT, hfr⟩ := hrel
        have J2 := Lib.hid j2
        have HOUT := Lib.hid hout
        have HFR := Lib.hid hfr
        have HT := Lib.hid hT
        have hbW : Below W.heap.size W wr := HB0.out.trans (hfr.bel.mono (Nat.le_of_lt hNB))
        have HBW := Lib.hid hbW
        have hble := hout.ble
        have c0 := hout.cell
        clear j2 hout hfr hT
        by_cases hi : i < ni
        · obtain ⟨x, rfl, _, _⟩ := ZI.out (by rw [← NI.out]; omega)
          obtain ⟨ib, io, rfl, ac, cc, hclW, hcoW⟩ := item_cells ZI.out i (by rw [← NI.out]; exact hi)
          have hcl := hclW.below hbW
          have hsz := HI.out _ (List.getElem_mem (by rw [← NI.out]; exact hi) : y.items[i]'(by rw [← NI.out]; exact hi) ∈ y.items)
          have hT := HT.out
          rw [DI.out i (by rw [← NI.out]; exact hi)] at hT
          obtain ⟨it, hit⟩ : ∃ it, it = y.items[i]'(by rw [← NI.out]; exact hi) := ⟨_, rfl⟩
          rw [← hit] at hcl hcoW hsz hT
          unfold itemI at hT
          obtain ⟨q1, q2⟩ := hsz
          obtain ⟨FC, hFC⟩ : ∃ F : Nat → List Int, F = fun j => ((it.comps.drop j).map compI).flatten := ⟨_, rfl⟩
          have df : ∀ j (h : j < it.comps.length) R, FC j ++ R = compI it.comps[j] ++ (FC (j + 1) ++ R) := fun j h R => by rw [hFC]; exact drop_flat compI it.comps j h R
          have ef : ∀ R, FC it.comps.length ++ R = R := fun R => by rw [hFC]; exact drop_end compI it.comps R
          rw [show (it.comps.map compI).flatten = FC 0 from by rw [hFC]; rfl, List.append_assoc] at hT
          obtain ⟨nc, hnc⟩ : ∃ nc, nc = it.comps.length := ⟨_, rfl⟩
          obtain ⟨kn, hkn⟩ : ∃ kn, kn = it.n := ⟨_, rfl⟩
          obtain ⟨kg, hkg⟩ : ∃ kg, kg = it.gen := ⟨_, rfl⟩
          rw [← hnc] at hcl hT ef q1
          rw [← hkn, ← hkg] at hcl hT
          have e0 := hcl.at 0 (by simp)
          have e1 := hcl.at 1 (by simp)
          have e2 := hcl.at 2 (by simp)
          simp only [List.getElem_cons_zero, List.getElem_cons_succ, Nat.add_zero] at e0 e1 e2
          have hrk := heap_alloc_new wr (.cells #[.int .i64 kn, .int .i64 kg, .slice ac nc cc] 33 (0, 0))
          have hbk : Below wr.heap.size wr (wr.alloc (.cells #[.int .i64 kn, .int .i64 kg, .slice ac nc cc] 33 (0, 0))) := (Below.refl _ _).alloc (Nat.le_refl _) _
          obtain ⟨WA, hWA⟩ : ∃ WA, WA = wr.alloc (.cells #[.int .i64 kn, .int .i64 kg, .slice ac nc cc] 33 (0, 0)) := ⟨_, rfl⟩
          have HT1 := Lib.hid (step_eq hT)
          have hLl := LEN.out _ _ HT.out
          have hL1 := LEN.out _ _ HT1.out
          have HRK := Lib.hid hrk
          have HOA := Lib.hid (HOUT.out.below hbk)
          have cA := (HOUT.out.below hbk).cell
          have HFA0 := Lib.hid (FrX.of_below (X := X) hble hbk)
          have DF := Lib.hid df
          have EF := Lib.hid ef
          have Q2 := Lib.hid q2
          have NC := Lib.hid hnc
          have HCO := Lib.hid hcoW
          have hKX : wr.heap.size ≠ X := by have := HOUT.out.lt; omega
          clear hcl hclW hcoW hit hT hFC df ef hnc hkn hkg hrk hbk hWA WA q2
          go_wp2_with (at_builtin; go_must (refine wpList_out rfl _ _ rfl rfl _ _ rfl B X u L rfl (HOA.out.below ((Below.refl _ _).alloc (Nat.le_refl _) _)) (some ⟨wr.heap.size + 1, 0, none⟩) 3 3 [kn, kg, (nc : Int)] rfl rfl (by have h := new_ints3 (wr.alloc (.cells #[.int .i64 kn, .int .i64 kg, .slice ac nc cc] 33 (0, 0))) kn kg (nc : Int); rw [World.size_alloc] at h; exact h) (by omega) (fun u => rfl) (fun u => rfl) ?_); intro v3 w3 hout hfr; have HO3 := Lib.hid hout; have HF3 := Lib.hid ((FrX.of_below HOA.out.ble ((Below.refl (wr.alloc (.cells #[.int .i64 kn, .int .i64 kg, .slice ac nc cc] 33 (0, 0))).heap.size (wr.alloc (.cells #[.int .i64 kn, .int .i64 kg, .slice ac nc cc] 33 (0, 0)))).alloc (Nat.le_refl _) (.cells #[.int .i64 kn, .int .i64 kg, .int .i64 (nc : Int)] 3))).trans hfr); have rk3 := hfr.far _ _ _ _ (heap_keep HRK.out _) (by decide) hKX; have k32 := cell_of_row _ _ 2 _ _ _ rk3; clear rk3; clear hout hfr)
          have HFB := Lib.hid (HFR.out.trans (HFA0.out.trans HF3.out))
          clear HFA0 HF3 HOA HRK c0 cA e0 e1 e2
          obtain ⟨R1, hR1⟩ : ∃ R1, R1 = FI (i + 1) ++ [] := ⟨_, rfl⟩
          rw [← hR1] at HT1
          have HR1 := Lib.hid hR1
          clear hR1
          go_loopg [93, 12] nc (fun gk v1 _ wx => ∃ (j : Nat) (u : Value) (L : List Int), j ≤ nc ∧ gk = nc - j ∧ v1 = .int .i64 j ∧ OutV wx B X u L ∧ L ++ (FC j ++ R1) = TOT ∧ FrX B X W0 wx)
          case atStart => exact ⟨0, _, _, Nat.zero_le _, rfl, rfl, HO3.out, HT1.out, HFB.out⟩
          case round =>
            clear HO3 HT1 HFB k32
            obtain ⟨j, u, L, l1, l2, rfl, hout, hT, hfr⟩ := hrel
            have J3 := Lib.hid l2
            have HOUT := Lib.hid hout
            have HFR := Lib.hid hfr
            have HT := Lib.hid hT
            have hbW : Below W.heap.size W wr := HB0.out.trans (hfr.bel.mono (Nat.le_of_lt hNB))
            have hble := hout.ble
            have c0 := hout.cell
            have hLl := LEN.out _ _ hT
            clear l2 hout hfr hT
            by_cases hj : j < nc
            · obtain ⟨x, rfl, _, _⟩ := HCO.out (by rw [← NC.out]; omega)
              obtain ⟨cb, co, rfl, av, cv, hclW, hvW⟩ := comp_cells HCO.out j (by rw [← NC.out]; exact hj)
              have hcl := hclW.below hbW
              have hT := HT.out
              rw [DF.out j (by rw [← NC.out]; exact hj)] at hT
              have hsz := Q2.out _ (List.getElem_mem (by rw [← NC.out]; exact hj) : it.comps[j]'(by rw [← NC.out]; exact hj) ∈ it.comps)
              obtain ⟨cm, hcm⟩ : ∃ cm, cm = it.comps[j]'(by rw [← NC.out]; exact hj) := ⟨_, rfl⟩
              rw [← hcm] at hcl hvW hsz hT
              unfold compI at hT
              rw [List.append_assoc] at hT
              obtain ⟨nv, hnv⟩ : ∃ nv, nv = cm.vals.length := ⟨_, rfl⟩
              obtain ⟨kq, hkq⟩ : ∃ kq, kq = cm.kind := ⟨_, rfl⟩
              rw [← hnv] at hcl hsz hT
              rw [← hkq] at hcl hT
              have e0 := hcl.at 0 (by simp)
              have e1 := hcl.at 1 (by simp)
              simp only [List.getElem_cons_zero, List.getElem_cons_succ, Nat.add_zero] at e0 e1
              have hrk := heap_alloc_new wr (.cells #[.int .i64 kq, .slice av nv cv] 60 (0, 0))
              have hbk : Below wr.heap.size wr (wr.alloc (.cells #[.int .i64 kq, .slice av nv cv] 60 (0, 0))) := (Below.refl _ _).alloc (Nat.le_refl _) _
              have HT1 := Lib.hid (step_eq hT)
              have HT2 := Lib.hid (step_eq HT1.out)
              have hL2 := LEN.out _ _ HT2.out
              have HRK := Lib.hid hrk
              have HOA := Lib.hid (HOUT.out.below hbk)
              have cA := (HOUT.out.below hbk).cell
              have HFA0 := Lib.hid (FrX.of_below (X := X) hble hbk)
              have HVW := Lib.hid hvW
              have NV := Lib.hid hnv
              have hKX : wr.heap.size ≠ X := by have := HOUT.out.lt; omega
              rw [List.length_append, ← NV.out] at hL2
              have hL2' : L.length + 2 + nv ≤ TL := by simpa using hL2
              clear hcl hclW hvW hcm hT hnv hkq hrk hbk hL2
              go_wp2_with (first
                | (at_builtin; (refine wpList_out rfl _ _ rfl rfl _ _ rfl B X u L rfl (HOA.out.below ((Below.refl _ _).alloc (Nat.le_refl _) _)) (some ⟨wr.heap.size + 1, 0, none⟩) 2 2 [kq, (nv : Int)] rfl rfl (by have h := new_ints2 (wr.alloc (.cells #[.int .i64 kq, .slice av nv cv] 60 (0, 0))) kq (nv : Int); rw [World.size_alloc] at h; exact h) (by omega) (fun u => rfl) (fun u => rfl) ?_); intro v3 w3 hout hfr; have HO3 := Lib.hid hout; have HF3 := Lib.hid ((FrX.of_below HOA.out.ble ((Below.refl (wr.alloc (.cells #[.int .i64 kq, .slice av nv cv] 60 (0, 0))).heap.size (wr.alloc (.cells #[.int .i64 kq, .slice av nv cv] 60 (0, 0)))).alloc (Nat.le_refl _) (.cells #[.int .i64 kq, .int .i64 (nv : Int)] 3))).trans hfr); have rk3 := hfr.far _ _ _ _ (heap_keep HRK.out _) (by decide) hKX; have k31 := cell_of_row _ _ 1 _ _ _ rk3; have c3 := hout.cell; have HV3 := Lib.hid (HVW.out.below (hbW.trans ((HFA0.out.trans HF3.out).bel.mono (Nat.le_of_lt hNB)))); clear rk3; clear hout hfr)
                | (at_builtin; (refine wpList_out rfl _ _ rfl rfl _ _ rfl B X v3 (L ++ [kq, (nv : Int)]) rfl HO3.out av nv cv cm.vals rfl NV.out.symm HV3.out (by rw [List.length_append]; simp; omega) (fun u => rfl) (fun u => rfl) ?_); intro v4 w4 hout hfr; have HO4 := Lib.hid hout; have HF4 := Lib.hid hfr; clear hout hfr))
              have HFB := Lib.hid (HFR.out.trans (HFA0.out.trans (HF3.out.trans HF4.out)))
              clear HF3 HF4 HFA0 HOA HRK HO3 HV3 c0 cA c3 k31 e0 e1 HT1
              go_roundg (nc - (j + 1))
              case measure => rw [J3.out]; omega
              case rel => exact ⟨j + 1, _, _, hj, rfl, by go_num, HO4.out, HT2.out, HFB.out⟩
            · obtain rfl : nc = j := by omega
              have hT := HT.out
              rw [EF.out, HR1.out] at hT
              have HT := Lib.hid hT
              clear hT
              go_wp2
              go_roundg (ni - (i + 1))
              case measure => rw [J2.out]; omega
              case rel => exact ⟨i + 1, _, _, hi, rfl, by go_num, HOUT.out, HT.out, HFR.out⟩
        · obtain rfl : ni = i := by omega
          have hT := HT.out
          rw [EI.out, List.append_nil] at hT
          have HT := Lib.hid hT
          clear hT
          go_wp2
          go_ret
          obtain ⟨a9, c9, hu, hin⟩ := HOUT.out.ints
          rw [HT.out] at hu hin
          exact ⟨⟨a9, c9, by rw [hu]; rfl, hin⟩, HBW.out⟩
end Go.Proofs.Ytpilpkbblkhnaaa
end
/- world.Digest. -/
section
namespace Go.Proofs.Ytpilpkbblkhnaaa
open Go.ChangeShapes Go.WideShapes Go.ChangeAt Go.RowKit Go.Nm Go.Mem
set_option linter.unusedVariables false
set_option maxHeartbeats 4000000 in
theorem world_Digest (y : WorldV) (v : Value) (W : World) (hv : WorldIn W v y) (hfn : FineW y) (hlen : (intsW y).length ≤ 17592186044416) : Calls Try.prog 18 #[v] W fun e w' => e = .returned (.int .u64 (dig (intsW y) : Nat)) ∧ Below W.heap.size W w' := by
  obtain ⟨ak, ck, ag, cg, ai, ci, rfl, q1, q2, q3, q4, q5⟩ := hv
  obtain ⟨nk, hnk⟩ : ∃ n, n = y.kinds.length := ⟨_, rfl⟩
  obtain ⟨ng, hng⟩ : ∃ n, n = y.gens.length := ⟨_, rfl⟩
  obtain ⟨ni, hni⟩ : ∃ n, n = y.items.length := ⟨_, rfl⟩
  have hb0 := (Below.refl W.heap.size W).alloc (Nat.le_refl _) (.cells #[.slice ak nk ck, .slice ag ng cg, .slice ai ni ci] 27)
  have hv' : WorldIn (W.alloc (.cells #[.slice ak nk ck, .slice ag ng cg, .slice ai ni ci] 27)) (.agg #[.slice ak nk ck, .slice ag ng cg, .slice ai ni ci]) y := by
    rw [hnk, hng, hni] at hb0 ⊢
    exact WorldIn.below ⟨ak, ck, ag, cg, ai, ci, rfl, q1, q2, q3, q4, q5⟩ hb0
  have HC := Lib.hid (world_Ints y _ _ hv' hfn)
  have HS := Lib.hid (fun a c w' h => sum_Ints a c (intsW y) hlen w' h)
  have HB0 := Lib.hid hb0
  obtain ⟨L, hL⟩ : ∃ L, L = intsW y := ⟨_, rfl⟩
  rw [← hL] at HC HS ⊢
  clear q1 q2 q3 hv' hb0 hfn hlen hL
  rw [← hnk, ← hng, ← hni]
  clear hnk hng hni q4
  go_enter Try.func18, Try.ntmps18
  go_wp2_with fail
  refine HC.out.mono ?_
  rintro e w1 ⟨⟨a, c, rfl, hi⟩, hb1⟩
  have HB1 := Lib.hid (HB0.out.trans (hb1.mono HB0.out.size))
  have HI := Lib.hid hi
  clear hi hb1
  go_wp2_with fail
  refine (HS.out a c _ HI.out).mono ?_
  rintro e w2 ⟨rfl, hb2⟩
  have HB2 := Lib.hid (HB1.out.trans (hb2.mono HB1.out.size))
  clear hb2
  go_wp2_with fail
  go_ret
  exact ⟨rfl, HB2.out⟩
end Go.Proofs.Ytpilpkbblkhnaaa
end
/- Bounds of a world's parts out of its bulk. -/
section
namespace Go.Proofs.Ytpilpkbblkhnaaa
open Go.RowKit Go.ChangeShapes Go.WideShapes Go.Deep Go.Mem
set_option linter.unusedVariables false
theorem sumB_at {α : Type} (f : α → Nat) : ∀ (l : List α) (x : α), x ∈ l → f x ≤ (l.map f).sum
  | y :: l, x, h => by
    rcases List.mem_cons.1 h with rfl | h
    · simp
    · have := sumB_at f l x h; simp only [List.map_cons, List.sum_cons]; omega
theorem sumB_len {α : Type} (f : α → Nat) (h : ∀ x, 1 ≤ f x) : ∀ l : List α, l.length ≤ (l.map f).sum
  | [] => Nat.le_refl _
  | x :: l => by have := sumB_len f h l; have := h x; simp only [List.map_cons, List.sum_cons, List.length_cons]; omega
theorem comps_bound {l : List CompV} {N : Nat} (h : (l.map costComp).sum ≤ N) : l.length ≤ N ∧ ∀ z ∈ l, z.vals.length ≤ N := by
  refine ⟨Nat.le_trans (sumB_len costComp (fun x => by unfold costComp; omega) l) h, fun z hz => ?_⟩
  have := sumB_at costComp l z hz
  unfold costComp at this h
  omega
theorem world_bound {y : WorldV} {N : Nat} (h : costWorld y ≤ N) (hN : N ≤ 1048576) : SmallW y ∧ ∀ k ∈ y.kinds, k.fields.length ≤ 1048576 := by
  unfold costWorld at h
  have h1 := sumB_len costKind (fun x => by unfold costKind; omega) y.kinds
  have h2 := sumB_len costItem (fun x => by unfold costItem; omega) y.items
  refine ⟨⟨by omega, by omega, by omega, fun z hz => ?_⟩, fun k hk => ?_⟩
  · have h3 := sumB_at costItem y.items z hz
    unfold costItem at h3 h
    obtain ⟨a, b⟩ := comps_bound (l := z.comps) (N := N) (by omega)
    exact ⟨by omega, fun c hc => by have := b c hc; omega⟩
  · have h3 := sumB_at costKind y.kinds k hk
    have h4 := sumB_len costField (fun x => by unfold costField; omega) k.fields
    unfold costKind at h3 h
    omega
end Go.Proofs.Ytpilpkbblkhnaaa
end
