/- Lemmas for the law WorldSpawns: SpawnLaw, FSame, WSpawns. No conditions. -/
import Derived.Test.YtfckbkhnelgjbaaGreatDoorM23
import Derived.Test.YtfckbkhnelgjbaaGreatDoorM26
import Derived.Test.YtfckbkhnelgjbaaGreatDoorM17
import Derived.Test.YtfckbkhnelgjbaaGreatDoorM15
import Derived.Test.YtfckbkhnelgjbaaGreatDoorM21
/- The plain law of WorldSpawns: the world's Spawn and the reference's give the same world. -/
section
namespace Go.Proofs.YtfckbkhnelgjbaaGreatDoor
open Go.ChangeShapes Go.WideShapes Go.ChangeAt Go.RowKit Go.Nm Go.Mem Go.Maps
set_option linter.unusedVariables false
/-- what an opened world is -/
structure Opened (y : WorldV) (G : Nat → Option Part) : Prop where
  go : openGo y.kinds y.gens.length y.items (fun _ => none) = some G
  close : closeV (openV y G) = y
theorem Opened.items {y : WorldV} {G : Nat → Option Part} (h : Opened y G) : y.items = listK (fun (i : Nat) F => (⟨(i : Int), y.gens.getD i 0, Go.Proofs.YtfckbkhnelgjbaaGreatDoor.listed F⟩ : ItemV)) G y.gens.length := by
  have e := h.close
  unfold closeV openV at e
  have e2 := congrArg WorldV.items e
  simp only at e2
  rw [← e2, closeTo_listK]
theorem Opened.sorted {y : WorldV} {G : Nat → Option Part} (h : Opened y G) : y.items.Pairwise (fun a b => a.n < b.n) := by
  rw [h.items]
  exact listK_sorted (fun y : ItemV => y.n) (fun _ _ => rfl) _ _
theorem Opened.mem {y : WorldV} {G : Nat → Option Part} (h : Opened y G) (x : ItemV) : x ∈ y.items ↔ ∃ i, i < y.gens.length ∧ ∃ F, G i = some F ∧ (⟨(i : Int), y.gens.getD i 0, Go.Proofs.YtfckbkhnelgjbaaGreatDoor.listed F⟩ : ItemV) = x := by
  have := h.items
  constructor
  · intro hx; rw [this] at hx; exact mem_listK.1 hx
  · intro hx; rw [this]; exact mem_listK.2 hx
theorem Opened.used {y : WorldV} {G : Nat → Option Part} (h : Opened y G) (i : Nat) (hi : i < y.gens.length) : usedI y.items i = (G i).isSome := by
  unfold usedI
  rw [Bool.eq_iff_iff, List.any_eq_true]
  constructor
  · rintro ⟨t, ht, e⟩
    obtain ⟨k, hk, F, hF, rfl⟩ := (h.mem t).1 ht
    have e2 : (k : Int) = (i : Int) := of_decide_eq_true e
    obtain rfl : k = i := by omega
    rw [hF]; rfl
  · intro hs
    obtain ⟨F, hF⟩ := Option.isSome_iff_exists.1 hs
    exact ⟨_, (h.mem _).2 ⟨i, hi, F, hF, rfl⟩, decide_eq_true rfl⟩
theorem Opened.room {y : WorldV} {G : Nat → Option Part} (h : Opened y G) : roomN (openV y G) = freeN y := by
  unfold roomN freeN
  refine (firstP_congr fun j hj => ?_).symm
  unfold freeP partP openV
  rw [h.used j hj]
  simp only [Option.not_isSome]
theorem Opened.ok {y : WorldV} {G : Nat → Option Part} (h : Opened y G) : roomOk (openV y G) = freeOk y := by
  unfold roomOk freeOk
  rw [h.room]
  rfl
theorem Opened.spawnE {y : WorldV} {G : Nat → Option Part} (h : Opened y G) (hc : checkE y = 0) (l : List CompV) : Go.Proofs.YtfckbkhnelgjbaaGreatDoor.spawnE y l = fspawnE (openV y G) l := by
  unfold Go.Proofs.YtfckbkhnelgjbaaGreatDoor.spawnE fspawnE
  rw [h.ok, if_neg (by rw [hc]; simp)]
  rfl
theorem Opened.spawnG {y : WorldV} {G : Nat → Option Part} (h : Opened y G) (l : List CompV) : (spawnF (openV y G) l).gens = Go.Proofs.YtfckbkhnelgjbaaGreatDoor.spawnG y := by
  unfold spawnF Go.Proofs.YtfckbkhnelgjbaaGreatDoor.spawnG
  rw [h.room]
  rfl
theorem Opened.vac {y : WorldV} {G : Nat → Option Part} (h : Opened y G) (k : Nat) (hk : k < y.gens.length) (hf : freeP y k = true) : G k = none := by
  unfold freeP at hf
  rw [h.used k hk] at hf
  cases hG : G k with
  | none => rfl
  | some F => rw [hG] at hf; simp at hf
theorem Opened.spawn {y : WorldV} {G : Nat → Option Part} (h : Opened y G) (l : List CompV) (Z : WorldV) (hz : SpawnZ y l Z) : Z = closeV (spawnF (openV y G) l) := by
  obtain ⟨i, hi, h1, h2, rfl⟩ := hz
  have hg := h.spawnG l
  have hr := h.room
  obtain ⟨k, hk⟩ : ∃ k, k = freeN y := ⟨_, rfl⟩
  obtain ⟨N, hN⟩ : ∃ N, N = y.gens.length := ⟨_, rfl⟩
  have hsp := firstP_spec (freeP y) y.gens.length
  have hkle : k ≤ N := by rw [hk, hN]; exact firstP_le _ _
  have hfk : k < N → G k = none := fun hkN => h.vac k (by omega) (by have := hsp.2; unfold freeN at hk; rw [← hk, ← hN] at this; exact this hkN)
  have hne : ∀ x ∈ y.items, x.n ≠ (k : Int) := fun x hx e => by
    obtain ⟨j, hj, F, hF, rfl⟩ := (h.mem x).1 hx
    have e2 : (j : Int) = (k : Int) := e
    obtain rfl : j = k := by omega
    rw [hfk (by omega)] at hF
    cases hF
  have hlen : (Go.Proofs.YtfckbkhnelgjbaaGreatDoor.spawnG y).length = if k = N then N + 1 else N := by
    unfold Go.Proofs.YtfckbkhnelgjbaaGreatDoor.spawnG
    rw [← hk, ← hN]
    split
    · rw [List.length_append, ← hN]; rfl
    · exact hN.symm
  have hget : ∀ j, j < N → (Go.Proofs.YtfckbkhnelgjbaaGreatDoor.spawnG y).getD j 0 = y.gens.getD j 0 := fun j hj => by
    unfold Go.Proofs.YtfckbkhnelgjbaaGreatDoor.spawnG
    split
    · rw [List.getD_eq_getElem?_getD, List.getD_eq_getElem?_getD, List.getElem?_append_left (by omega)]
    · rfl
  unfold closeV
  have hs2 : (spawnF (openV y G) l).kinds = y.kinds := rfl
  rw [hs2, hg, closeTo_listK, hg]
  have hp : (spawnF (openV y G) l).parts = updF G k (fitAllM y.kinds l) := by unfold spawnF; rw [hr, hk]; rfl
  rw [hp]
  congr 1
  have hso := h.sorted
  refine sorted_ext (fun y : ItemV => y.n) ?_ (listK_sorted (fun y : ItemV => y.n) (fun _ _ => rfl) _ _) (fun x => ?_)
  · have hsn : (spawnI y l).n = (k : Int) := by unfold spawnI; rw [hk]
    have ht : ∀ x ∈ y.items.take i, x.n < (k : Int) := fun x hx => by
      obtain ⟨j, hj, rfl⟩ := List.getElem_of_mem hx
      rw [List.length_take] at hj
      rw [List.getElem_take, hk]
      exact h1 j (by omega) (by omega)
    have hd : ∀ x ∈ y.items.drop i, (k : Int) < x.n := fun x hx => by
      have hm := List.mem_of_mem_drop hx
      obtain ⟨j, hj, rfl⟩ := List.getElem_of_mem hx
      rw [List.length_drop] at hj
      rw [List.getElem_drop] at hm ⊢
      have a1 := h2 (i + j) (by omega) (by omega)
      have a2 := hne _ hm
      omega
    rw [List.pairwise_append]
    refine ⟨?_, hso.sublist (List.drop_sublist _ _), fun a ha b hb => ?_⟩
    · rw [List.pairwise_append]
      refine ⟨hso.sublist (List.take_sublist _ _), List.pairwise_singleton _ _, fun a ha b hb => ?_⟩
      rw [List.mem_singleton] at hb
      subst hb
      rw [hsn]
      exact ht a ha
    · rcases List.mem_append.1 ha with ha | ha
      · have := ht a ha; have := hd b hb; omega
      · rw [List.mem_singleton] at ha
        subst ha
        rw [hsn]
        exact hd b hb
  · rw [mem_listK]
    have hm : x ∈ y.items.take i ++ [spawnI y l] ++ y.items.drop i ↔ x ∈ y.items ∨ x = spawnI y l := by
      constructor
      · intro hx
        rcases List.mem_append.1 hx with hx | hx
        · rcases List.mem_append.1 hx with hx | hx
          · exact .inl (List.mem_of_mem_take hx)
          · exact .inr (List.mem_singleton.1 hx)
        · exact .inl (List.mem_of_mem_drop hx)
      · rintro (hx | rfl)
        · rw [← List.take_append_drop i y.items] at hx
          rcases List.mem_append.1 hx with hx | hx
          · exact List.mem_append.2 (.inl (List.mem_append.2 (.inl hx)))
          · exact List.mem_append.2 (.inr hx)
        · exact List.mem_append.2 (.inl (List.mem_append.2 (.inr (List.mem_singleton.2 rfl))))
    rw [hm]
    constructor
    · rintro (hx | rfl)
      · obtain ⟨j, hj, F, hF, rfl⟩ := (h.mem x).1 hx
        have hjk : j ≠ k := fun e => by subst e; rw [hfk (by omega)] at hF; cases hF
        exact ⟨j, by rw [hlen]; split <;> omega, F, by rw [updF_other _ _ hjk]; exact hF, by rw [hget j (by omega)]⟩
      · refine ⟨k, by rw [hlen]; split <;> omega, fitAllM y.kinds l, updF_same _ _ _, ?_⟩
        unfold spawnI
        rw [← hk]
    · rintro ⟨j, hj, F, hF, rfl⟩
      by_cases hjk : j = k
      · subst hjk
        rw [updF_same] at hF
        injection hF with hF
        subst hF
        right
        unfold spawnI
        rw [← hk]
      · left
        rw [updF_other _ _ hjk] at hF
        have hj2 : j < N := by rw [hlen] at hj; split at hj <;> omega
        rw [hget j hj2]
        exact (h.mem _).2 ⟨j, by omega, F, hF, rfl⟩
theorem opened_of {y : WorldV} (h : checkE y = 0) : ∃ G, Opened y G := by
  obtain ⟨G, a, _, b⟩ := open_good h
  exact ⟨G, a, b⟩
end Go.Proofs.YtfckbkhnelgjbaaGreatDoor
end
/- tourlaw3.same: by program (gen_fsame.py). -/
section
namespace Go.Proofs.YtfckbkhnelgjbaaGreatDoor
open Go.ChangeShapes Go.WideShapes Go.ChangeAt Go.RowKit Go.Nm Go.Mem Go.Maps
set_option linter.unusedVariables false
def F_fsame (p WB nk ck ng cg ni ci : Nat) (ak ag ai : Option Addr) (CV : WorldV) (SB : Bool) (jq : Nat) (v : Value) (w : World) : Prop :=
  match jq with
  | 0 => v = .agg #[.slice ak nk ck, .slice ag ng cg, .slice ai ni ci]
  | 1 => v = .pointer (some ⟨p, 0, none⟩)
  | 2 => WorldIn w v CV
  | 3 => v = .bool SB
  | 4 => v = .bool SB
  | _ => True
theorem F_fsame_mono (p WB nk ck ng cg ni ci : Nat) (ak ag ai : Option Addr) (CV : WorldV) (SB : Bool) : Facts (F_fsame p WB nk ck ng cg ni ci  ak ag ai  CV  SB ) := ⟨by
  intro jq v w w' h hb
  unfold F_fsame at h ⊢
  split at h
  all_goals first
    | exact h
    | exact WorldIn.below h hb
    | trivial⟩

theorem zero_world (w : World) : WorldIn w (.agg #[.slice none 0 0, .slice none 0 0, .slice none 0 0]) ⟨[], [], []⟩ := ⟨none, 0, none, 0, none, 0, rfl, fun h => absurd h (by simp), fun h => absurd h (by simp), fun h => absurd h (by simp), by simp, by simp⟩
theorem small_zero : SmallW ⟨[], [], []⟩ := by
  refine ⟨?_, ?_, ?_, ?_⟩ <;> simp
theorem same_bad (z : WorldV) (v pp : Value) (E : Int) (hE : E ≠ 0) (W : World) (hv : WorldIn W v z) (hs : SmallW z) :
    Calls Tryz.prog 14 #[v, pp, .int .i64 E] W fun e w' => e = .returned (.bool (sameB z ⟨[], [], []⟩)) ∧ Below W.heap.size W w' := by
  have hv0 := hv
  obtain ⟨ak, ck, ag, cg, ai, ci, rfl, _⟩ := hv
  obtain ⟨nk, hnk⟩ : ∃ n, n = z.kinds.length := ⟨_, rfl⟩
  obtain ⟨ng, hng⟩ : ∃ n, n = z.gens.length := ⟨_, rfl⟩
  obtain ⟨ni, hni⟩ : ∃ n, n = z.items.length := ⟨_, rfl⟩
  rw [← hnk, ← hng, ← hni] at hv0 ⊢
  have t0 : (E != 0) = true := by rw [bne_iff_ne]; exact hE
  have hbA : Below W.heap.size W (W.alloc (.cells #[.slice ak nk ck, .slice ag ng cg, .slice ai ni ci] 26)) := (Below.refl _ _).alloc (Nat.le_refl _) _
  have CS := ref_SameWorld z ⟨[], [], []⟩ (.agg #[.slice ak nk ck, .slice ag ng cg, .slice ai ni ci]) (.agg #[.slice none 0 0, .slice none 0 0, .slice none 0 0]) (W.alloc (.cells #[.slice ak nk ck, .slice ag ng cg, .slice ai ni ci] 26)) (hv0.below hbA) (zero_world _) hs small_zero
  have HCS := Lib.hid CS
  have HBA := Lib.hid hbA
  clear CS hbA hv0 hs hnk hng hni hE
  go_enter Tryz.func14, Tryz.ntmps14
  go_wp2_with fail
  refine HCS.out.mono ?_
  rintro e w1 ⟨rfl, hb⟩
  have HB := Lib.hid (bt HBA.out hb)
  clear hb HCS HBA t0
  go_wp2_with fail
  go_ret
  exact ⟨rfl, HB.out⟩
theorem same_ok (z : WorldV) (f : FlatV) (v : Value) (p : Nat) (W : World) (hv : WorldIn W v z) (hs : SmallW z) (hf : FlatAt W p f) (hk1 : f.kinds.length ≤ 1048576) (hkf : ∀ k ∈ f.kinds, k.fields.length ≤ 1048576) (hg1 : f.gens.length ≤ 1048576) (hpf : ∀ i F, f.parts i = some F → ∀ k L, F k = some L → L.length ≤ 1048576) (hsc : SmallW (closeV f)) :
    Calls Tryz.prog 14 #[v, .pointer (some ⟨p, 0, none⟩), .int .i64 0] W fun e w' => e = .returned (.bool (sameB z (closeV f))) ∧ Below W.heap.size W w' := by
  have hv0 := hv
  obtain ⟨ak, ck, ag, cg, ai, ci, rfl, _⟩ := hv
  obtain ⟨nk, hnk⟩ : ∃ n, n = z.kinds.length := ⟨_, rfl⟩
  obtain ⟨ng, hng⟩ : ∃ n, n = z.gens.length := ⟨_, rfl⟩
  obtain ⟨ni, hni⟩ : ∃ n, n = z.items.length := ⟨_, rfl⟩
  rw [← hnk, ← hng, ← hni] at hv0 ⊢
  obtain ⟨CV, hCV⟩ : ∃ c, c = closeV f := ⟨_, rfl⟩
  obtain ⟨SB, hSB⟩ : ∃ s, s = sameB z CV := ⟨_, rfl⟩
  rw [← hCV] at hsc ⊢
  rw [← hSB]
  have hbA : Below W.heap.size W (W.alloc (.cells #[.slice ak nk ck, .slice ag ng cg, .slice ai ni ci] 26)) := (Below.refl _ _).alloc (Nat.le_refl _) _
  have hx := heap_alloc_new W (.cells #[.slice ak nk ck, .slice ag ng cg, .slice ai ni ci] 26)
  have HBX := Lib.hid hx
  obtain ⟨wr, hwr⟩ : ∃ w, w = W.alloc (.cells #[.slice ak nk ck, .slice ag ng cg, .slice ai ni ci] 26) := ⟨_, rfl⟩
  rw [← hwr] at hbA HBX
  have HCC := Lib.hid (fun w' (hb : Below wr.heap.size wr w') => by have h := flat_Close f p w' ((hf.below2 hbA).below2 hb) hk1 hkf hg1 hpf; rw [← hCV] at h; exact h)
  have HCS := Lib.hid (fun w' (hb : Below wr.heap.size wr w') u (hu : WorldIn w' u CV) => by have h := ref_SameWorld z CV (.agg #[.slice ak nk ck, .slice ag ng cg, .slice ai ni ci]) u w' ((hv0.below hbA).below hb) hu hs hsc; rw [← hSB] at h; exact h)
  have HBA := Lib.hid hbA
  have HWR := Lib.hid hwr
  have t0 : ((0 : Int) != 0) = false := rfl
  clear hbA hx hv0 hf hs hsc hnk hng hni hk1 hkf hg1 hpf hCV hSB hwr
  go_enter Tryz.func14, Tryz.ntmps14
  go_wp2_with fail
  rw [← HWR.out]
  refine wp_region_facts_t rfl 5 (by kernel_rfl) (F_fsame p W.heap.size nk ck ng cg ni ci ak ag ai CV SB) (F_fsame_mono p W.heap.size nk ck ng cg ni ci ak ag ai CV SB) ?_ ?_
  · refine ⟨?_, ?_, ?_, ?_, ?_, trivial⟩
    · intro vs w' F hb hd hF hl hT
      have e := (hF 3).trans (look_out _ 3 _ _ (by kernel_rfl))
      exact rg_load 26 _ rfl rfl (W.heap.size) (0) [.slice ak nk ck, .slice ag ng cg, .slice ai ni ci] e (CellsK.row (heap_below HBX.out hb)) _ Tryz.underlying26 rfl (by kernel_rfl) ⟨_, rfl, Below.refl _ _, rfl⟩
    · intro vs w' F hb hd hF hl hT
      have e := (hF 1).trans (look_out _ 1 _ _ (by kernel_rfl))
      exact one_move _ rfl (by first | exact Or.inl rfl | exact Or.inr rfl) ⟨_, rfl, Below.refl _ _, e⟩
    · intro vs w' F hb hd hF hl hT
      have e1 := (((hF 13).trans (look_at _ 13 1 _ _ (by kernel_rfl) (by kernel_rfl) hl)).trans (dep_of (Fact := F_fsame p W.heap.size nk ck ng cg ni ci ak ag ai CV SB) hd 1 (by kernel_rfl)))
      refine one_call _ _ rfl rfl (enters_of Tryz.func52 (by kernel_rfl) rfl) #[.pointer (some ⟨p, 0, none⟩)] (eval1 e1) ?_
      refine (HCC.out w' hb).mono ?_
      rintro e2 w2 ⟨⟨u2, rfl, hu⟩, hb2⟩
      exact ⟨_, rfl, _, rfl, hb2, hu⟩
    · intro vs w' F hb hd hF hl hT
      have hw := (dep_of (Fact := F_fsame p W.heap.size nk ck ng cg ni ci ak ag ai CV SB) hd 2 (by kernel_rfl))
      have e1 := (((hF 12).trans (look_at _ 12 0 _ _ (by kernel_rfl) (by kernel_rfl) hl)).trans (dep_of (Fact := F_fsame p W.heap.size nk ck ng cg ni ci ak ag ai CV SB) hd 0 (by kernel_rfl)))
      have e2 := ((hF 14).trans (look_at _ 14 2 _ _ (by kernel_rfl) (by kernel_rfl) hl))
      refine one_call _ _ rfl rfl (enters_of Tryz.func51 (by kernel_rfl) rfl) #[.agg #[.slice ak nk ck, .slice ag ng cg, .slice ai ni ci], vs.getD 2 undef] (eval2 e1 e2) ?_
      refine (HCS.out w' hb _ hw).mono ?_
      rintro e2 w2 ⟨rfl, hb2⟩
      exact ⟨_, rfl, _, rfl, hb2, rfl⟩
    · intro vs w' F hb hd hF hl hT
      have e := ((hF 15).trans (look_at _ 15 3 _ _ (by kernel_rfl) (by kernel_rfl) hl)).trans (dep_of (Fact := F_fsame p W.heap.size nk ck ng cg ni ci ak ag ai CV SB) hd 3 (by kernel_rfl))
      exact one_move _ rfl (by first | exact Or.inl rfl | exact Or.inr rfl) ⟨_, rfl, Below.refl _ _, e⟩
  · intro vs8 W8 hl hb hI
    have i4 : vs8.getD 4 undef = .bool SB := hI 4 (by omega)
    obtain ⟨x0, x1, x2, x3, x4, hvs⟩ := list5 hl
    subst hvs
    replace i4 : x4 = .bool SB := i4
    subst i4
    have HB9 := Lib.hid hb
    clear hI hl hb HCC HCS
    simp only [fillAll, Act.put, List.setIfInBounds_toArray, List.set_cons_succ, List.set_cons_zero]
    show wpList _ _ _ [] _ _
    go_wp2
    go_ret
    exact ⟨rfl, bt HBA.out HB9.out⟩
end Go.Proofs.YtfckbkhnelgjbaaGreatDoor
end
/- WorldSpawns: the law's walk. -/
section
namespace Go.Proofs.YtfckbkhnelgjbaaGreatDoor
open Go.ChangeShapes Go.WideShapes Go.ChangeAt Go.RowKit Go.Nm Go.Mem Go.Maps
set_option linter.unusedVariables false
theorem pair_flds : ∀ k ∈ pairV.kinds, k.fields.length ≤ 1048576 := by
  intro k hk
  have h : pairV.kinds.all (fun k => decide (k.fields.length ≤ 1048576)) = true := by kernel_rfl
  exact of_decide_eq_true (List.all_eq_true.1 h k hk)
theorem SmallG.upd {B : Nat} {G : Nat → Option Part} (h : SmallG B G) (k : Nat) {F : Part} (hF : SmallP B F) : SmallG B (updF G k F) := fun i M hM => by
  by_cases e : i = k
  · subst e; rw [updF_same] at hM; injection hM with hM; subst hM; exact hF
  · rw [updF_other _ _ e] at hM; exact h i M hM
theorem Opened.small {y : WorldV} {G : Nat → Option Part} (h : Opened y G) (hs : SmallW y) : SmallG 1048576 G :=
  openGo_small y.kinds y.gens.length 1048576 y.items (fun _ => .none) G (fun z hz c hc => (hs.2.2.2 z hz).2 c hc) (fun i F hF => by cases hF) h.go
theorem check_gens {y : WorldV} (h : checkE y = 0) : y.gens.length ≤ 256 := by
  unfold checkE at h
  split at h
  · exact absurd h (by assumption)
  · split at h
    · cases h
    · omega
theorem opened_open {y : WorldV} {G : Nat → Option Part} (h : checkE y = 0) (hg : openGo y.kinds y.gens.length y.items (fun _ => none) = some G) : Opened y G := by
  obtain ⟨G', hG'⟩ := opened_of h
  have := hG'.go.symm.trans hg
  injection this with this
  subst this
  exact hG'
theorem fitM_small {ks : List KindV} {l : List CompV} (h : ∀ z ∈ l, z.vals.length ≤ 1048576) : SmallP 1048576 (fitAllM ks l) := fitGo_small ks 1048576 l (fun _ => none) h (fun k L hL => by cases hL)
theorem spawn_bad {y : WorldV} {l : List CompV} (h : checkE y ≠ 0) : spawnE y l = checkE y := if_pos h
theorem sameZ : sameB ⟨[], [], []⟩ ⟨[], [], []⟩ = true := sameB_refl _
theorem listed_small {B : Nat} {F : Part} (h : SmallP B F) : ∀ z ∈ listed F, z.vals.length ≤ B := fun z hz => by
  rw [listed_listK] at hz
  obtain ⟨i, _, L, hL, rfl⟩ := mem_listK.1 hz
  exact h i L hL
theorem pair_free : freeN pairV = 2 := by kernel_rfl
theorem pair_spawn : spawnE pairV [] = 0 := by kernel_rfl
set_option maxHeartbeats 16000000 in
set_option maxRecDepth 20000 in
theorem walk_WorldSpawns (y : WorldV) (l : List CompV) (v : Value) (a : Option Addr) (n ca : Nat) (W : World) (hv : WorldIn W v y) (hsm : SmallW y) (hkf : ∀ k ∈ y.kinds, k.fields.length ≤ 1048576) (hn : l.length = n) (h1 : n ≤ 1048576) (hca : n ≤ ca) (hvl : ∀ z ∈ l, z.vals.length ≤ 1048576) (hz : SlAt 2 CompAt W a l) (hsort : SortsC 45) :
    Calls Tryz.prog 3 #[v, .slice a n ca] W fun e w' => e = .returned (.bool true) ∧ Below W.heap.size W w' := by
  have hv0 := hv
  obtain ⟨ak, ck, ag, cg, ai, ci, rfl, q1, q2, q3, q4, q5⟩ := hv
  obtain ⟨nk, hnk⟩ : ∃ n, n = y.kinds.length := ⟨_, rfl⟩
  obtain ⟨ng, hng⟩ : ∃ n, n = y.gens.length := ⟨_, rfl⟩
  obtain ⟨ni, hni⟩ : ∃ n, n = y.items.length := ⟨_, rfl⟩
  rw [← hnk, ← hng, ← hni] at hv0
  rw [← hnk] at q4
  rw [← hnk, ← hng, ← hni]
  have hb0 := (Below.refl W.heap.size W).alloc (Nat.le_refl _) (.cells #[.slice ak nk ck, .slice ag ng cg, .slice ai ni ci] 26)
  have hr := heap_alloc_new W (.cells #[.slice ak nk ck, .slice ag ng cg, .slice ai ni ci] 26)
  have HR := Lib.hid hr
  have HB := Lib.hid hb0
  have HV := Lib.hid hv0
  have HZ := Lib.hid hz
  have HZK := Lib.hid q1
  have HKC := Lib.hid (And.intro q4 q5)
  have HSM := Lib.hid hsm
  have HKF := Lib.hid hkf
  have HN := Lib.hid hn
  have H1 := Lib.hid h1
  have HCA := Lib.hid hca
  have HVL := Lib.hid hvl
  have NK := Lib.hid hnk
  obtain ⟨K, hK⟩ : ∃ K, K = kindsE y.kinds := ⟨_, rfl⟩
  obtain ⟨C, hC⟩ : ∃ C, C = checkE y := ⟨_, rfl⟩
  obtain ⟨R, hR⟩ : ∃ R, R = fitAllE y.kinds l := ⟨_, rfl⟩
  obtain ⟨E, hE⟩ : ∃ E, E = spawnE y l := ⟨_, rfl⟩
  have HK := Lib.hid hK
  have HC := Lib.hid hC
  have HRE := Lib.hid hR
  have HE := Lib.hid hE
  clear hv0 hsm hkf hn h1 hca hvl hz q1 q2 q3 q4 q5 hnk hng hni hb0 hr hK hC hR hE
  go_enter Tryz.func3, Tryz.ntmps3
  go_wp2_with fail
  refine (pair_w _).mono ?_
  rintro e w1 ⟨⟨pv, rfl, hpv⟩, hb1⟩
  have CS := world_Spawn pairV [] pv none 0 0 w1 hpv pair_small pair_flds rfl (by omega) (by omega) (fun z hz => by cases hz) (fun h => absurd h (by simp))
  rw [pair_spawn] at CS
  have HCS := Lib.hid CS
  replace HB := Lib.hid (bt HB.out hb1)
  replace HR := Lib.hid (heap_below HR.out hb1)
  clear hpv CS hb1
  go_wp2_with fail
  refine HCS.out.mono ?_
  rintro e w2 ⟨⟨sv, xn, xg, Z, rfl, hin, _, hz0⟩, hb2⟩
  obtain ⟨hxn, hxg, _⟩ := hz0 rfl
  have hx2 : xn = 2 := by rw [hxn]; unfold spawnI; rw [pair_free]; rfl
  obtain ⟨ak2, ck2, ag2, cg2, ai2, ci2, rfl, _⟩ := hin
  replace HB := Lib.hid (bt HB.out hb2)
  replace HR := Lib.hid (heap_below HR.out hb2)
  subst hx2
  clear hxn hxg hb2 HCS hz0
  obtain ⟨k1, hk1⟩ : ∃ k, k = Z.kinds.length := ⟨_, rfl⟩
  obtain ⟨k2, hk2⟩ : ∃ k, k = Z.gens.length := ⟨_, rfl⟩
  obtain ⟨k3, hk3⟩ : ∃ k, k = Z.items.length := ⟨_, rfl⟩
  rw [← hk1, ← hk2, ← hk3]
  clear hk1 hk2 hk3
  have hbA : Below w2.heap.size w2 ((w2.alloc (.cells #[.slice ak2 k1 ck2, .slice ag2 k2 cg2, .slice ai2 k3 ci2] 26)).alloc (.cells #[.int .i64 2, .int .i64 xg] 29)) := ((Below.refl w2.heap.size w2).alloc (Nat.le_refl _) _).alloc (by simp) _
  obtain ⟨w3, hw3⟩ : ∃ w, w = ((w2.alloc (.cells #[.slice ak2 k1 ck2, .slice ag2 k2 cg2, .slice ai2 k3 ci2] 26)).alloc (.cells #[.int .i64 2, .int .i64 xg] 29)) := ⟨_, rfl⟩
  rw [← hw3] at hbA
  replace HB := Lib.hid (bt HB.out hbA)
  replace HR := Lib.hid (heap_below HR.out hbA)
  have HW3 := Lib.hid hw3
  have z0 := cell_of_row _ _ 0 _ _ _ HR.out
  have CF := world_Fit hsort y.kinds l ak a nk ck n ca NK.out.symm HN.out (by rw [NK.out]; exact HSM.out.1) H1.out HCA.out HKC.out.1 HKC.out.2 HVL.out w3 (HZK.out.below KindAt.abides HB.out) (HZ.out.below CompAt.abides HB.out)
  unfold FitWPost at CF
  rw [← HK.out, ← HRE.out] at CF
  have HCF := Lib.hid CF
  rw [HW3.out] at z0
  clear hbA hw3 CF
  go_wp2_with fail
  rw [← HW3.out]
  clear z0
  refine HCF.out.mono ?_
  rintro e w4 ⟨hpost, hb4⟩
  replace HB := Lib.hid (bt HB.out hb4)
  replace HR := Lib.hid (heap_below HR.out hb4)
  have z0 := cell_of_row _ _ 0 _ _ _ HR.out
  have CK := ref_KindsError y.kinds ak nk ck NK.out.symm (by have := HSM.out.1; rw [NK.out]; omega) w4 (HZK.out.below KindAt.abides HB.out)
  rw [← HK.out] at CK
  have HCK := Lib.hid CK
  clear hb4 HCF CK HW3
  rcases hpost with ⟨hk0, rfl⟩ | ⟨hk0, hr0, rfl⟩ | ⟨hk0, hr0, fa, fc, rfl, hup⟩
  · have HK0 := Lib.hid hk0
    have t0 : (K == 0) = false := by rw [beq_eq_false_iff_ne]; exact hk0
    have t1 : (K != K) = false := bne_self_eq_false K
    clear hk0
    go_wp2_with fail
    refine HCK.out.mono ?_
    rintro e w5 ⟨rfl, hb5⟩
    clear z0
    replace HB := Lib.hid (bt HB.out hb5)
    replace HR := Lib.hid (heap_below HR.out hb5)
    clear hb5 HCK
    have z1 := cell_of_row _ _ 1 _ _ _ HR.out
    have z2 := cell_of_row _ _ 2 _ _ _ HR.out
    have z3 := cell_of_row _ _ 0 _ _ _ HR.out
    have CS2 := world_Spawn y l _ a n ca w5 (HV.out.below HB.out) HSM.out HKF.out HN.out H1.out HCA.out HVL.out (HZ.out.below CompAt.abides HB.out)
    rw [← HE.out] at CS2
    have HCS2 := Lib.hid CS2
    clear CS2
    go_wp2_with fail
    refine HCS2.out.mono ?_
    rintro e wa ⟨⟨sv, xn, xg, Z, rfl, hin, hz1, hz0⟩, hba⟩
    have hin0 := hin
    obtain ⟨ak4, ck4, ag4, cg4, ai4, ci4, rfl, _⟩ := hin
    obtain ⟨m1, hm1⟩ : ∃ k, k = Z.kinds.length := ⟨_, rfl⟩
    obtain ⟨m2, hm2⟩ : ∃ k, k = Z.gens.length := ⟨_, rfl⟩
    obtain ⟨m3, hm3⟩ : ∃ k, k = Z.items.length := ⟨_, rfl⟩
    rw [← hm1, ← hm2, ← hm3] at hin0 ⊢
    have hbA : Below wa.heap.size wa ((wa.alloc (.cells #[.slice ak4 m1 ck4, .slice ag4 m2 cg4, .slice ai4 m3 ci4] 26)).alloc (.cells #[.int .i64 xn, .int .i64 xg] 29)) := ((Below.refl wa.heap.size wa).alloc (Nat.le_refl _) _).alloc (by simp) _
    have hrv := row_first wa (.cells #[.slice ak4 m1 ck4, .slice ag4 m2 cg4, .slice ai4 m3 ci4] 26) (.cells #[.int .i64 xn, .int .i64 xg] 29)
    have hrx := row_second wa (.cells #[.slice ak4 m1 ck4, .slice ag4 m2 cg4, .slice ai4 m3 ci4] 26) (.cells #[.int .i64 xn, .int .i64 xg] 29)
    obtain ⟨wb, hwb⟩ : ∃ w, w = ((wa.alloc (.cells #[.slice ak4 m1 ck4, .slice ag4 m2 cg4, .slice ai4 m3 ci4] 26)).alloc (.cells #[.int .i64 xn, .int .i64 xg] 29)) := ⟨_, rfl⟩
    rw [← hwb] at hbA hrv hrx
    obtain ⟨bv, hbv⟩ : ∃ b, b = wa.heap.size := ⟨_, rfl⟩
    obtain ⟨bx, hbx⟩ : ∃ b, b = wa.heap.size + 1 := ⟨_, rfl⟩
    have HRV := Lib.hid hrv
    have HRX := Lib.hid hrx
    have HIN := Lib.hid (hin0.below hbA)
    replace HB := Lib.hid (bt (bt HB.out hba) hbA)
    replace HR := Lib.hid (heap_below (heap_below HR.out hba) hbA)
    have HW := Lib.hid hwb
    have HZ1 := Lib.hid hz1
    have HZ0 := Lib.hid hz0
    have CO := Lib.hid (ref_Open y _ wb (HV.out.below HB.out) HSM.out HKF.out)
    clear z1 z2 z3 hrv hrx hin0 hbA hba hwb hbv hbx HCS2 hz1 hz0 hm1 hm2 hm3
    have z0 := cell_of_row _ _ 0 _ _ _ HR.out
    have z1 := cell_of_row _ _ 1 _ _ _ HR.out
    have z2 := cell_of_row _ _ 2 _ _ _ HR.out
    rw [HW.out] at z0 z1 z2
    go_wp2_with fail
    rw [← HW.out]
    clear z0 z1 z2 HW
    refine CO.out.mono ?_
    rintro e wc ⟨hpost, hbc⟩
    have HD := Lib.hid hbc
    clear hbc CO
    rcases hpost with ⟨ho, rfl⟩ | ⟨ho, p, G, hG, rfl, hfl⟩
    · rw [open_check] at ho
      rw [open_check, ← HC.out]
      have hEC : E = C := by rw [HE.out, HC.out, spawn_bad ho]
      have hE0 : E ≠ 0 := by rw [hEC, HC.out]; exact ho
      subst hEC
      have t1 : (E != 0) = true := by rw [bne_iff_ne]; exact hE0
      have t2 : (E == E) = true := by simp
      obtain ⟨rfl, rfl, rfl⟩ := HZ1.out hE0
      have he := eqEnt 0 0 0 0
      have x0 := cell_of_row _ _ 0 _ _ _ (heap_below HRX.out HD.out)
      have x1 := cell_of_row _ _ 1 _ _ _ (heap_below HRX.out HD.out)
      have v0 := cell_of_row _ _ 0 _ _ _ (heap_below HRV.out HD.out)
      have v1 := cell_of_row _ _ 1 _ _ _ (heap_below HRV.out HD.out)
      have v2 := cell_of_row _ _ 2 _ _ _ (heap_below HRV.out HD.out)
      have CSM := same_bad ⟨[], [], []⟩ _ (.pointer none) E hE0 wc (HIN.out.below HD.out) small_zero
      rw [sameZ] at CSM
      have HCSM := Lib.hid CSM
      clear CSM hE0 ho
      go_wp2_with fail
      refine HCSM.out.mono ?_
      rintro e wd ⟨rfl, hbd⟩
      have HF := Lib.hid (bt (bt HB.out HD.out) hbd)
      clear hbd HCSM x0 x1 v0 v1 v2 he
      go_wp2_with fail
      go_ret
      exact ⟨rfl, HF.out⟩
    · rw [open_check] at ho
      have hop := opened_open ho hG
      have HOP := Lib.hid hop
      have HO := Lib.hid ho
      have HFL := Lib.hid hfl
      have hC0 : C = 0 := by rw [HC.out, ho]
      clear HC
      subst hC0
      obtain ⟨FN, hFN⟩ : ∃ x, x = freeN y := ⟨_, rfl⟩
      obtain ⟨FO, hFO⟩ : ∃ x, x = freeOk y := ⟨_, rfl⟩
      have CFr := world_Free y _ wc (HV.out.below (bt HB.out HD.out)) HSM.out
      rw [← hFN, ← hFO] at CFr
      have HCF2 := Lib.hid CFr
      have HFN := Lib.hid hFN
      have HFO := Lib.hid hFO
      have hrc := heap_below HR.out HD.out
      have z0 := cell_of_row _ _ 0 _ _ _ hrc
      have z1 := cell_of_row _ _ 1 _ _ _ hrc
      have z2 := cell_of_row _ _ 2 _ _ _ hrc
      clear hrc CFr hop ho hfl hFN hFO hG
      go_wp2_with fail
      refine HCF2.out.mono ?_
      rintro e wd ⟨rfl, hbd⟩
      replace HD := Lib.hid (bt HD.out hbd)
      replace HFL := Lib.hid (HFL.out.below hbd)
      have CR := flat_Room (openV y G) p wd HFL.out.flat (check_gens HO.out)
      rw [HOP.out.room, HOP.out.ok, ← HFN.out, ← HFO.out] at CR
      have HCR := Lib.hid CR
      clear CR hbd HCF2 z0 z1 z2
      go_wp2_with fail
      refine HCR.out.mono ?_
      rintro e we ⟨rfl, hbe⟩
      replace HD := Lib.hid (bt HD.out hbe)
      replace HFL := Lib.hid (HFL.out.below hbe)
      have CP := flat_Spawn (openV y G) l _ p a n ca we HFL.out (check_gens HO.out) HSM.out.1 HN.out H1.out HVL.out (HZ.out.below CompAt.abides (bt HB.out HD.out))
      rw [← HOP.out.spawnE HO.out, ← HE.out] at CP
      have HCP := Lib.hid CP
      have t1 : ((FN : Int) != (FN : Int)) = false := bne_self_eq_false _
      have t2 : (FO != FO) = false := bne_self_eq_false _
      clear CP hbe HCR
      go_wp2_with fail
      refine HCP.out.mono ?_
      rintro e wf ⟨⟨xn2, xg2, rfl, hf1, hf0⟩, hbf⟩
      have hbA : Below wb.heap.size wb (wf.alloc (.cells #[.int .i64 xn2, .int .i64 xg2] 29)) := (HD.out.trans hbf).alloc (HD.out.trans hbf).size _
      have hry := heap_alloc_new wf (.cells #[.int .i64 xn2, .int .i64 xg2] 29)
      have HBF := Lib.hid ((Below.refl wf.heap.size wf).alloc (Nat.le_refl _) (.cells #[.int .i64 xn2, .int .i64 xg2] 29))
      obtain ⟨wg, hwg⟩ : ∃ w, w = wf.alloc (.cells #[.int .i64 xn2, .int .i64 xg2] 29) := ⟨_, rfl⟩
      rw [← hwg] at hbA hry HBF
      have HW := Lib.hid hwg
      have HRY := Lib.hid hry
      replace HD := Lib.hid hbA
      have t3 : (E == E) = true := by simp
      have x0 := cell_of_row _ _ 0 _ _ _ (heap_below HRX.out HD.out)
      have x1 := cell_of_row _ _ 1 _ _ _ (heap_below HRX.out HD.out)
      have y0 := cell_of_row _ _ 0 _ _ _ HRY.out
      have y1 := cell_of_row _ _ 1 _ _ _ HRY.out
      have v0 := cell_of_row _ _ 0 _ _ _ (heap_below HRV.out HD.out)
      have v1 := cell_of_row _ _ 1 _ _ _ (heap_below HRV.out HD.out)
      have v2 := cell_of_row _ _ 2 _ _ _ (heap_below HRV.out HD.out)
      have HCSM : Hid (xn = xn2 ∧ xg = xg2 ∧ Calls Tryz.prog 14 #[.agg #[.slice ak4 m1 ck4, .slice ag4 m2 cg4, .slice ai4 m3 ci4], .pointer (some ⟨p, 0, none⟩), .int .i64 E] wg fun e w' => e = .returned (.bool true) ∧ Below wg.heap.size wg w') := by
        refine Lib.hid ?_
        by_cases hE0 : E = 0
        · obtain ⟨h1, h2, hfa⟩ := hf0 hE0
          obtain ⟨g1, g2, hz⟩ := HZ0.out hE0
          have hZ := HOP.out.spawn l Z hz
          have e1 : xn = xn2 := by rw [g1, h1, HOP.out.room]; rfl
          have e2 : xg = xg2 := by rw [g2, h2, HOP.out.room, HOP.out.spawnG]; rfl
          have hsG : SmallG 1048576 (spawnF (openV y G) l).parts := (HOP.out.small HSM.out).upd _ (fitM_small HVL.out)
          have hsg : (spawnF (openV y G) l).gens.length ≤ 1048576 := by
            rw [HOP.out.spawnG]; unfold spawnG
            have := check_gens HO.out
            split
            · rw [List.length_append]; simp; omega
            · omega
          have hsm := close_small (f := spawnF (openV y G) l) HSM.out.1 hsg hsG
          have CSM := same_ok Z (spawnF (openV y G) l) _ p wg (HIN.out.below HD.out) (by rw [hZ]; exact hsm) (hfa.below2 HBF.out) HSM.out.1 HKF.out hsg hsG hsm
          rw [← hZ, sameB_refl] at CSM
          subst hE0
          exact ⟨e1, e2, CSM⟩
        · obtain ⟨h1, h2⟩ := hf1 hE0
          obtain ⟨g1, g2, hz⟩ := HZ1.out hE0
          have CSM := same_bad ⟨[], [], []⟩ _ (.pointer (some ⟨p, 0, none⟩)) E hE0 wg (by have := HIN.out.below HD.out; rw [hz] at this; exact this) small_zero
          rw [sameZ] at CSM
          exact ⟨by rw [g1, h1], by rw [g2, h2], CSM⟩
      obtain ⟨e1, e2, CSM⟩ := HCSM.out
      clear HCSM
      subst e1 e2
      have HCSM := Lib.hid CSM
      have he := eqEnt xn xg xn xg
      rw [HW.out] at x0 x1 y0 y1 v0 v1 v2
      clear CSM hf1 hf0 hbf hbA hry hwg HCP HZ0 HZ1
      go_wp2_with fail
      rw [← HW.out]
      refine HCSM.out.mono ?_
      rintro e wh ⟨rfl, hbh⟩
      have HF := Lib.hid (bt (bt HB.out HD.out) hbh)
      clear hbh HCSM x0 x1 y0 y1 v0 v1 v2 he
      go_wp2_with fail
      go_ret
      exact ⟨rfl, HF.out⟩
  · subst hk0
    have t1 : (R != R) = false := bne_self_eq_false R
    have t2 : (R == 0) = false := by rw [beq_eq_false_iff_ne]; exact hr0
    have t3 : (R != 0) = true := by rw [bne_iff_ne]; exact hr0
    have HR0 := Lib.hid hr0
    clear hr0
    go_wp2_with fail
    refine HCK.out.mono ?_
    rintro e w5 ⟨rfl, hb5⟩
    replace HB := Lib.hid (bt HB.out hb5)
    replace HR := Lib.hid (heap_below HR.out hb5)
    clear z0
    have z0 := cell_of_row _ _ 0 _ _ _ HR.out
    have CA := ref_FittedAll y.kinds l ak a nk ck n ca NK.out.symm HN.out (by rw [NK.out]; exact HSM.out.1) H1.out HVL.out w5 (HZK.out.below KindAt.abides HB.out) (HZ.out.below CompAt.abides HB.out)
    unfold FitAllPost at CA
    rw [← HRE.out] at CA
    have HCA2 := Lib.hid CA
    clear hb5 HCK CA
    go_wp2_with fail
    refine HCA2.out.mono ?_
    rintro e w6 ⟨hpost, hb6⟩
    replace HB := Lib.hid (bt HB.out hb6)
    replace HR := Lib.hid (heap_below HR.out hb6)
    rcases hpost with ⟨_, rfl⟩ | ⟨hx, _⟩
    · clear z0 hb6 HCA2
      have z1 := cell_of_row _ _ 1 _ _ _ HR.out
      have z2 := cell_of_row _ _ 2 _ _ _ HR.out
      have z3 := cell_of_row _ _ 0 _ _ _ HR.out
      have CS2 := world_Spawn y l _ a n ca w6 (HV.out.below HB.out) HSM.out HKF.out HN.out H1.out HCA.out HVL.out (HZ.out.below CompAt.abides HB.out)
      rw [← HE.out] at CS2
      have HCS2 := Lib.hid CS2
      clear CS2
      go_wp2_with fail
      refine HCS2.out.mono ?_
      rintro e wa ⟨⟨sv, xn, xg, Z, rfl, hin, hz1, hz0⟩, hba⟩
      have hin0 := hin
      obtain ⟨ak4, ck4, ag4, cg4, ai4, ci4, rfl, _⟩ := hin
      obtain ⟨m1, hm1⟩ : ∃ k, k = Z.kinds.length := ⟨_, rfl⟩
      obtain ⟨m2, hm2⟩ : ∃ k, k = Z.gens.length := ⟨_, rfl⟩
      obtain ⟨m3, hm3⟩ : ∃ k, k = Z.items.length := ⟨_, rfl⟩
      rw [← hm1, ← hm2, ← hm3] at hin0 ⊢
      have hbA : Below wa.heap.size wa ((wa.alloc (.cells #[.slice ak4 m1 ck4, .slice ag4 m2 cg4, .slice ai4 m3 ci4] 26)).alloc (.cells #[.int .i64 xn, .int .i64 xg] 29)) := ((Below.refl wa.heap.size wa).alloc (Nat.le_refl _) _).alloc (by simp) _
      have hrv := row_first wa (.cells #[.slice ak4 m1 ck4, .slice ag4 m2 cg4, .slice ai4 m3 ci4] 26) (.cells #[.int .i64 xn, .int .i64 xg] 29)
      have hrx := row_second wa (.cells #[.slice ak4 m1 ck4, .slice ag4 m2 cg4, .slice ai4 m3 ci4] 26) (.cells #[.int .i64 xn, .int .i64 xg] 29)
      obtain ⟨wb, hwb⟩ : ∃ w, w = ((wa.alloc (.cells #[.slice ak4 m1 ck4, .slice ag4 m2 cg4, .slice ai4 m3 ci4] 26)).alloc (.cells #[.int .i64 xn, .int .i64 xg] 29)) := ⟨_, rfl⟩
      rw [← hwb] at hbA hrv hrx
      obtain ⟨bv, hbv⟩ : ∃ b, b = wa.heap.size := ⟨_, rfl⟩
      obtain ⟨bx, hbx⟩ : ∃ b, b = wa.heap.size + 1 := ⟨_, rfl⟩
      have HRV := Lib.hid hrv
      have HRX := Lib.hid hrx
      have HIN := Lib.hid (hin0.below hbA)
      replace HB := Lib.hid (bt (bt HB.out hba) hbA)
      replace HR := Lib.hid (heap_below (heap_below HR.out hba) hbA)
      have HW := Lib.hid hwb
      have HZ1 := Lib.hid hz1
      have HZ0 := Lib.hid hz0
      have CO := Lib.hid (ref_Open y _ wb (HV.out.below HB.out) HSM.out HKF.out)
      clear z1 z2 z3 hrv hrx hin0 hbA hba hwb hbv hbx HCS2 hz1 hz0 hm1 hm2 hm3
      have z0 := cell_of_row _ _ 0 _ _ _ HR.out
      have z1 := cell_of_row _ _ 1 _ _ _ HR.out
      have z2 := cell_of_row _ _ 2 _ _ _ HR.out
      rw [HW.out] at z0 z1 z2
      go_wp2_with fail
      rw [← HW.out]
      clear z0 z1 z2 HW
      refine CO.out.mono ?_
      rintro e wc ⟨hpost, hbc⟩
      have HD := Lib.hid hbc
      clear hbc CO
      rcases hpost with ⟨ho, rfl⟩ | ⟨ho, p, G, hG, rfl, hfl⟩
      · rw [open_check] at ho
        rw [open_check, ← HC.out]
        have hEC : E = C := by rw [HE.out, HC.out, spawn_bad ho]
        have hE0 : E ≠ 0 := by rw [hEC, HC.out]; exact ho
        subst hEC
        have t1 : (E != 0) = true := by rw [bne_iff_ne]; exact hE0
        have t2 : (E == E) = true := by simp
        obtain ⟨rfl, rfl, rfl⟩ := HZ1.out hE0
        have he := eqEnt 0 0 0 0
        have x0 := cell_of_row _ _ 0 _ _ _ (heap_below HRX.out HD.out)
        have x1 := cell_of_row _ _ 1 _ _ _ (heap_below HRX.out HD.out)
        have v0 := cell_of_row _ _ 0 _ _ _ (heap_below HRV.out HD.out)
        have v1 := cell_of_row _ _ 1 _ _ _ (heap_below HRV.out HD.out)
        have v2 := cell_of_row _ _ 2 _ _ _ (heap_below HRV.out HD.out)
        have CSM := same_bad ⟨[], [], []⟩ _ (.pointer none) E hE0 wc (HIN.out.below HD.out) small_zero
        rw [sameZ] at CSM
        have HCSM := Lib.hid CSM
        clear CSM hE0 ho
        go_wp2_with fail
        refine HCSM.out.mono ?_
        rintro e wd ⟨rfl, hbd⟩
        have HF := Lib.hid (bt (bt HB.out HD.out) hbd)
        clear hbd HCSM x0 x1 v0 v1 v2 he
        go_wp2_with fail
        go_ret
        exact ⟨rfl, HF.out⟩
      · rw [open_check] at ho
        have hop := opened_open ho hG
        have HOP := Lib.hid hop
        have HO := Lib.hid ho
        have HFL := Lib.hid hfl
        have hC0 : C = 0 := by rw [HC.out, ho]
        clear HC
        subst hC0
        obtain ⟨FN, hFN⟩ : ∃ x, x = freeN y := ⟨_, rfl⟩
        obtain ⟨FO, hFO⟩ : ∃ x, x = freeOk y := ⟨_, rfl⟩
        have CFr := world_Free y _ wc (HV.out.below (bt HB.out HD.out)) HSM.out
        rw [← hFN, ← hFO] at CFr
        have HCF2 := Lib.hid CFr
        have HFN := Lib.hid hFN
        have HFO := Lib.hid hFO
        have hrc := heap_below HR.out HD.out
        have z0 := cell_of_row _ _ 0 _ _ _ hrc
        have z1 := cell_of_row _ _ 1 _ _ _ hrc
        have z2 := cell_of_row _ _ 2 _ _ _ hrc
        clear hrc CFr hop ho hfl hFN hFO hG
        go_wp2_with fail
        refine HCF2.out.mono ?_
        rintro e wd ⟨rfl, hbd⟩
        replace HD := Lib.hid (bt HD.out hbd)
        replace HFL := Lib.hid (HFL.out.below hbd)
        have CR := flat_Room (openV y G) p wd HFL.out.flat (check_gens HO.out)
        rw [HOP.out.room, HOP.out.ok, ← HFN.out, ← HFO.out] at CR
        have HCR := Lib.hid CR
        clear CR hbd HCF2 z0 z1 z2
        go_wp2_with fail
        refine HCR.out.mono ?_
        rintro e we ⟨rfl, hbe⟩
        replace HD := Lib.hid (bt HD.out hbe)
        replace HFL := Lib.hid (HFL.out.below hbe)
        have CP := flat_Spawn (openV y G) l _ p a n ca we HFL.out (check_gens HO.out) HSM.out.1 HN.out H1.out HVL.out (HZ.out.below CompAt.abides (bt HB.out HD.out))
        rw [← HOP.out.spawnE HO.out, ← HE.out] at CP
        have HCP := Lib.hid CP
        have t1 : ((FN : Int) != (FN : Int)) = false := bne_self_eq_false _
        have t2 : (FO != FO) = false := bne_self_eq_false _
        clear CP hbe HCR
        go_wp2_with fail
        refine HCP.out.mono ?_
        rintro e wf ⟨⟨xn2, xg2, rfl, hf1, hf0⟩, hbf⟩
        have hbA : Below wb.heap.size wb (wf.alloc (.cells #[.int .i64 xn2, .int .i64 xg2] 29)) := (HD.out.trans hbf).alloc (HD.out.trans hbf).size _
        have hry := heap_alloc_new wf (.cells #[.int .i64 xn2, .int .i64 xg2] 29)
        have HBF := Lib.hid ((Below.refl wf.heap.size wf).alloc (Nat.le_refl _) (.cells #[.int .i64 xn2, .int .i64 xg2] 29))
        obtain ⟨wg, hwg⟩ : ∃ w, w = wf.alloc (.cells #[.int .i64 xn2, .int .i64 xg2] 29) := ⟨_, rfl⟩
        rw [← hwg] at hbA hry HBF
        have HW := Lib.hid hwg
        have HRY := Lib.hid hry
        replace HD := Lib.hid hbA
        have t3 : (E == E) = true := by simp
        have x0 := cell_of_row _ _ 0 _ _ _ (heap_below HRX.out HD.out)
        have x1 := cell_of_row _ _ 1 _ _ _ (heap_below HRX.out HD.out)
        have y0 := cell_of_row _ _ 0 _ _ _ HRY.out
        have y1 := cell_of_row _ _ 1 _ _ _ HRY.out
        have v0 := cell_of_row _ _ 0 _ _ _ (heap_below HRV.out HD.out)
        have v1 := cell_of_row _ _ 1 _ _ _ (heap_below HRV.out HD.out)
        have v2 := cell_of_row _ _ 2 _ _ _ (heap_below HRV.out HD.out)
        have HCSM : Hid (xn = xn2 ∧ xg = xg2 ∧ Calls Tryz.prog 14 #[.agg #[.slice ak4 m1 ck4, .slice ag4 m2 cg4, .slice ai4 m3 ci4], .pointer (some ⟨p, 0, none⟩), .int .i64 E] wg fun e w' => e = .returned (.bool true) ∧ Below wg.heap.size wg w') := by
          refine Lib.hid ?_
          by_cases hE0 : E = 0
          · obtain ⟨h1, h2, hfa⟩ := hf0 hE0
            obtain ⟨g1, g2, hz⟩ := HZ0.out hE0
            have hZ := HOP.out.spawn l Z hz
            have e1 : xn = xn2 := by rw [g1, h1, HOP.out.room]; rfl
            have e2 : xg = xg2 := by rw [g2, h2, HOP.out.room, HOP.out.spawnG]; rfl
            have hsG : SmallG 1048576 (spawnF (openV y G) l).parts := (HOP.out.small HSM.out).upd _ (fitM_small HVL.out)
            have hsg : (spawnF (openV y G) l).gens.length ≤ 1048576 := by
              rw [HOP.out.spawnG]; unfold spawnG
              have := check_gens HO.out
              split
              · rw [List.length_append]; simp; omega
              · omega
            have hsm := close_small (f := spawnF (openV y G) l) HSM.out.1 hsg hsG
            have CSM := same_ok Z (spawnF (openV y G) l) _ p wg (HIN.out.below HD.out) (by rw [hZ]; exact hsm) (hfa.below2 HBF.out) HSM.out.1 HKF.out hsg hsG hsm
            rw [← hZ, sameB_refl] at CSM
            subst hE0
            exact ⟨e1, e2, CSM⟩
          · obtain ⟨h1, h2⟩ := hf1 hE0
            obtain ⟨g1, g2, hz⟩ := HZ1.out hE0
            have CSM := same_bad ⟨[], [], []⟩ _ (.pointer (some ⟨p, 0, none⟩)) E hE0 wg (by have := HIN.out.below HD.out; rw [hz] at this; exact this) small_zero
            rw [sameZ] at CSM
            exact ⟨by rw [g1, h1], by rw [g2, h2], CSM⟩
        obtain ⟨e1, e2, CSM⟩ := HCSM.out
        clear HCSM
        subst e1 e2
        have HCSM := Lib.hid CSM
        have he := eqEnt xn xg xn xg
        rw [HW.out] at x0 x1 y0 y1 v0 v1 v2
        clear CSM hf1 hf0 hbf hbA hry hwg HCP HZ0 HZ1
        go_wp2_with fail
        rw [← HW.out]
        refine HCSM.out.mono ?_
        rintro e wh ⟨rfl, hbh⟩
        have HF := Lib.hid (bt (bt HB.out HD.out) hbh)
        clear hbh HCSM x0 x1 y0 y1 v0 v1 v2 he
        go_wp2_with fail
        go_ret
        exact ⟨rfl, HF.out⟩
    · exact absurd hx HR0.out
  · subst hk0 hr0
    have HUP := Lib.hid hup
    clear hup
    go_wp2_with fail
    refine HCK.out.mono ?_
    rintro e w5 ⟨rfl, hb5⟩
    replace HB := Lib.hid (bt HB.out hb5)
    replace HR := Lib.hid (heap_below HR.out hb5)
    replace HUP := Lib.hid (HUP.out.below hb5)
    clear z0
    have z0 := cell_of_row _ _ 0 _ _ _ HR.out
    have CA := ref_FittedAll y.kinds l ak a nk ck n ca NK.out.symm HN.out (by rw [NK.out]; exact HSM.out.1) H1.out HVL.out w5 (HZK.out.below KindAt.abides HB.out) (HZ.out.below CompAt.abides HB.out)
    unfold FitAllPost at CA
    rw [← HRE.out] at CA
    have HCA2 := Lib.hid CA
    clear hb5 HCK CA
    go_wp2_with fail
    refine HCA2.out.mono ?_
    rintro e w6 ⟨hpost, hb6⟩
    replace HB := Lib.hid (bt HB.out hb6)
    replace HR := Lib.hid (heap_below HR.out hb6)
    replace HUP := Lib.hid (HUP.out.below hb6)
    rcases hpost with ⟨hx, _⟩ | ⟨_, bm, mm, rfl, _, hmi⟩
    · exact absurd rfl hx
    · have CL := ref_Listed (fitAllM y.kinds l) bm mm (fitM_small HVL.out) w6 hmi
      have HCL := Lib.hid CL
      clear z0 hb6 HCA2 hmi CL
      go_wp2_with fail
      refine HCL.out.mono ?_
      rintro e w7 ⟨⟨la, lc, rfl, hul⟩, hb7⟩
      replace HB := Lib.hid (bt HB.out hb7)
      replace HR := Lib.hid (heap_below HR.out hb7)
      have CE := eqf_comps_r (listed (fitAllM y.kinds l)) (listed (fitAllM y.kinds l)) fa la _ _ fc lc rfl rfl (by have := listedTo_len (fitAllM y.kinds l) 16; unfold listed; omega) (by have := listedTo_len (fitAllM y.kinds l) 16; unfold listed; omega) (listed_small (fitM_small HVL.out)) (listed_small (fitM_small HVL.out)) w7 (HUP.out.below hb7).now hul.now
      rw [decide_eq_true rfl] at CE
      have HCE := Lib.hid CE
      clear hb7 HCL hul HUP CE
      go_wp2_with fail
      refine HCE.out.mono ?_
      rintro e w8 ⟨rfl, hb8⟩
      replace HB := Lib.hid (bt HB.out hb8)
      replace HR := Lib.hid (heap_below HR.out hb8)
      clear hb8 HCE
      have z1 := cell_of_row _ _ 1 _ _ _ HR.out
      have z2 := cell_of_row _ _ 2 _ _ _ HR.out
      have z3 := cell_of_row _ _ 0 _ _ _ HR.out
      have CS2 := world_Spawn y l _ a n ca w8 (HV.out.below HB.out) HSM.out HKF.out HN.out H1.out HCA.out HVL.out (HZ.out.below CompAt.abides HB.out)
      rw [← HE.out] at CS2
      have HCS2 := Lib.hid CS2
      clear CS2
      go_wp2_with fail
      refine HCS2.out.mono ?_
      rintro e wa ⟨⟨sv, xn, xg, Z, rfl, hin, hz1, hz0⟩, hba⟩
      have hin0 := hin
      obtain ⟨ak4, ck4, ag4, cg4, ai4, ci4, rfl, _⟩ := hin
      obtain ⟨m1, hm1⟩ : ∃ k, k = Z.kinds.length := ⟨_, rfl⟩
      obtain ⟨m2, hm2⟩ : ∃ k, k = Z.gens.length := ⟨_, rfl⟩
      obtain ⟨m3, hm3⟩ : ∃ k, k = Z.items.length := ⟨_, rfl⟩
      rw [← hm1, ← hm2, ← hm3] at hin0 ⊢
      have hbA : Below wa.heap.size wa ((wa.alloc (.cells #[.slice ak4 m1 ck4, .slice ag4 m2 cg4, .slice ai4 m3 ci4] 26)).alloc (.cells #[.int .i64 xn, .int .i64 xg] 29)) := ((Below.refl wa.heap.size wa).alloc (Nat.le_refl _) _).alloc (by simp) _
      have hrv := row_first wa (.cells #[.slice ak4 m1 ck4, .slice ag4 m2 cg4, .slice ai4 m3 ci4] 26) (.cells #[.int .i64 xn, .int .i64 xg] 29)
      have hrx := row_second wa (.cells #[.slice ak4 m1 ck4, .slice ag4 m2 cg4, .slice ai4 m3 ci4] 26) (.cells #[.int .i64 xn, .int .i64 xg] 29)
      obtain ⟨wb, hwb⟩ : ∃ w, w = ((wa.alloc (.cells #[.slice ak4 m1 ck4, .slice ag4 m2 cg4, .slice ai4 m3 ci4] 26)).alloc (.cells #[.int .i64 xn, .int .i64 xg] 29)) := ⟨_, rfl⟩
      rw [← hwb] at hbA hrv hrx
      obtain ⟨bv, hbv⟩ : ∃ b, b = wa.heap.size := ⟨_, rfl⟩
      obtain ⟨bx, hbx⟩ : ∃ b, b = wa.heap.size + 1 := ⟨_, rfl⟩
      have HRV := Lib.hid hrv
      have HRX := Lib.hid hrx
      have HIN := Lib.hid (hin0.below hbA)
      replace HB := Lib.hid (bt (bt HB.out hba) hbA)
      replace HR := Lib.hid (heap_below (heap_below HR.out hba) hbA)
      have HW := Lib.hid hwb
      have HZ1 := Lib.hid hz1
      have HZ0 := Lib.hid hz0
      have CO := Lib.hid (ref_Open y _ wb (HV.out.below HB.out) HSM.out HKF.out)
      clear z1 z2 z3 hrv hrx hin0 hbA hba hwb hbv hbx HCS2 hz1 hz0 hm1 hm2 hm3
      have z0 := cell_of_row _ _ 0 _ _ _ HR.out
      have z1 := cell_of_row _ _ 1 _ _ _ HR.out
      have z2 := cell_of_row _ _ 2 _ _ _ HR.out
      rw [HW.out] at z0 z1 z2
      go_wp2_with fail
      rw [← HW.out]
      clear z0 z1 z2 HW
      refine CO.out.mono ?_
      rintro e wc ⟨hpost, hbc⟩
      have HD := Lib.hid hbc
      clear hbc CO
      rcases hpost with ⟨ho, rfl⟩ | ⟨ho, p, G, hG, rfl, hfl⟩
      · rw [open_check] at ho
        rw [open_check, ← HC.out]
        have hEC : E = C := by rw [HE.out, HC.out, spawn_bad ho]
        have hE0 : E ≠ 0 := by rw [hEC, HC.out]; exact ho
        subst hEC
        have t1 : (E != 0) = true := by rw [bne_iff_ne]; exact hE0
        have t2 : (E == E) = true := by simp
        obtain ⟨rfl, rfl, rfl⟩ := HZ1.out hE0
        have he := eqEnt 0 0 0 0
        have x0 := cell_of_row _ _ 0 _ _ _ (heap_below HRX.out HD.out)
        have x1 := cell_of_row _ _ 1 _ _ _ (heap_below HRX.out HD.out)
        have v0 := cell_of_row _ _ 0 _ _ _ (heap_below HRV.out HD.out)
        have v1 := cell_of_row _ _ 1 _ _ _ (heap_below HRV.out HD.out)
        have v2 := cell_of_row _ _ 2 _ _ _ (heap_below HRV.out HD.out)
        have CSM := same_bad ⟨[], [], []⟩ _ (.pointer none) E hE0 wc (HIN.out.below HD.out) small_zero
        rw [sameZ] at CSM
        have HCSM := Lib.hid CSM
        clear CSM hE0 ho
        go_wp2_with fail
        refine HCSM.out.mono ?_
        rintro e wd ⟨rfl, hbd⟩
        have HF := Lib.hid (bt (bt HB.out HD.out) hbd)
        clear hbd HCSM x0 x1 v0 v1 v2 he
        go_wp2_with fail
        go_ret
        exact ⟨rfl, HF.out⟩
      · rw [open_check] at ho
        have hop := opened_open ho hG
        have HOP := Lib.hid hop
        have HO := Lib.hid ho
        have HFL := Lib.hid hfl
        have hC0 : C = 0 := by rw [HC.out, ho]
        clear HC
        subst hC0
        obtain ⟨FN, hFN⟩ : ∃ x, x = freeN y := ⟨_, rfl⟩
        obtain ⟨FO, hFO⟩ : ∃ x, x = freeOk y := ⟨_, rfl⟩
        have CFr := world_Free y _ wc (HV.out.below (bt HB.out HD.out)) HSM.out
        rw [← hFN, ← hFO] at CFr
        have HCF2 := Lib.hid CFr
        have HFN := Lib.hid hFN
        have HFO := Lib.hid hFO
        have hrc := heap_below HR.out HD.out
        have z0 := cell_of_row _ _ 0 _ _ _ hrc
        have z1 := cell_of_row _ _ 1 _ _ _ hrc
        have z2 := cell_of_row _ _ 2 _ _ _ hrc
        clear hrc CFr hop ho hfl hFN hFO hG
        go_wp2_with fail
        refine HCF2.out.mono ?_
        rintro e wd ⟨rfl, hbd⟩
        replace HD := Lib.hid (bt HD.out hbd)
        replace HFL := Lib.hid (HFL.out.below hbd)
        have CR := flat_Room (openV y G) p wd HFL.out.flat (check_gens HO.out)
        rw [HOP.out.room, HOP.out.ok, ← HFN.out, ← HFO.out] at CR
        have HCR := Lib.hid CR
        clear CR hbd HCF2 z0 z1 z2
        go_wp2_with fail
        refine HCR.out.mono ?_
        rintro e we ⟨rfl, hbe⟩
        replace HD := Lib.hid (bt HD.out hbe)
        replace HFL := Lib.hid (HFL.out.below hbe)
        have CP := flat_Spawn (openV y G) l _ p a n ca we HFL.out (check_gens HO.out) HSM.out.1 HN.out H1.out HVL.out (HZ.out.below CompAt.abides (bt HB.out HD.out))
        rw [← HOP.out.spawnE HO.out, ← HE.out] at CP
        have HCP := Lib.hid CP
        have t1 : ((FN : Int) != (FN : Int)) = false := bne_self_eq_false _
        have t2 : (FO != FO) = false := bne_self_eq_false _
        clear CP hbe HCR
        go_wp2_with fail
        refine HCP.out.mono ?_
        rintro e wf ⟨⟨xn2, xg2, rfl, hf1, hf0⟩, hbf⟩
        have hbA : Below wb.heap.size wb (wf.alloc (.cells #[.int .i64 xn2, .int .i64 xg2] 29)) := (HD.out.trans hbf).alloc (HD.out.trans hbf).size _
        have hry := heap_alloc_new wf (.cells #[.int .i64 xn2, .int .i64 xg2] 29)
        have HBF := Lib.hid ((Below.refl wf.heap.size wf).alloc (Nat.le_refl _) (.cells #[.int .i64 xn2, .int .i64 xg2] 29))
        obtain ⟨wg, hwg⟩ : ∃ w, w = wf.alloc (.cells #[.int .i64 xn2, .int .i64 xg2] 29) := ⟨_, rfl⟩
        rw [← hwg] at hbA hry HBF
        have HW := Lib.hid hwg
        have HRY := Lib.hid hry
        replace HD := Lib.hid hbA
        have t3 : (E == E) = true := by simp
        have x0 := cell_of_row _ _ 0 _ _ _ (heap_below HRX.out HD.out)
        have x1 := cell_of_row _ _ 1 _ _ _ (heap_below HRX.out HD.out)
        have y0 := cell_of_row _ _ 0 _ _ _ HRY.out
        have y1 := cell_of_row _ _ 1 _ _ _ HRY.out
        have v0 := cell_of_row _ _ 0 _ _ _ (heap_below HRV.out HD.out)
        have v1 := cell_of_row _ _ 1 _ _ _ (heap_below HRV.out HD.out)
        have v2 := cell_of_row _ _ 2 _ _ _ (heap_below HRV.out HD.out)
        have HCSM : Hid (xn = xn2 ∧ xg = xg2 ∧ Calls Tryz.prog 14 #[.agg #[.slice ak4 m1 ck4, .slice ag4 m2 cg4, .slice ai4 m3 ci4], .pointer (some ⟨p, 0, none⟩), .int .i64 E] wg fun e w' => e = .returned (.bool true) ∧ Below wg.heap.size wg w') := by
          refine Lib.hid ?_
          by_cases hE0 : E = 0
          · obtain ⟨h1, h2, hfa⟩ := hf0 hE0
            obtain ⟨g1, g2, hz⟩ := HZ0.out hE0
            have hZ := HOP.out.spawn l Z hz
            have e1 : xn = xn2 := by rw [g1, h1, HOP.out.room]; rfl
            have e2 : xg = xg2 := by rw [g2, h2, HOP.out.room, HOP.out.spawnG]; rfl
            have hsG : SmallG 1048576 (spawnF (openV y G) l).parts := (HOP.out.small HSM.out).upd _ (fitM_small HVL.out)
            have hsg : (spawnF (openV y G) l).gens.length ≤ 1048576 := by
              rw [HOP.out.spawnG]; unfold spawnG
              have := check_gens HO.out
              split
              · rw [List.length_append]; simp; omega
              · omega
            have hsm := close_small (f := spawnF (openV y G) l) HSM.out.1 hsg hsG
            have CSM := same_ok Z (spawnF (openV y G) l) _ p wg (HIN.out.below HD.out) (by rw [hZ]; exact hsm) (hfa.below2 HBF.out) HSM.out.1 HKF.out hsg hsG hsm
            rw [← hZ, sameB_refl] at CSM
            subst hE0
            exact ⟨e1, e2, CSM⟩
          · obtain ⟨h1, h2⟩ := hf1 hE0
            obtain ⟨g1, g2, hz⟩ := HZ1.out hE0
            have CSM := same_bad ⟨[], [], []⟩ _ (.pointer (some ⟨p, 0, none⟩)) E hE0 wg (by have := HIN.out.below HD.out; rw [hz] at this; exact this) small_zero
            rw [sameZ] at CSM
            exact ⟨by rw [g1, h1], by rw [g2, h2], CSM⟩
        obtain ⟨e1, e2, CSM⟩ := HCSM.out
        clear HCSM
        subst e1 e2
        have HCSM := Lib.hid CSM
        have he := eqEnt xn xg xn xg
        rw [HW.out] at x0 x1 y0 y1 v0 v1 v2
        clear CSM hf1 hf0 hbf hbA hry hwg HCP HZ0 HZ1
        go_wp2_with fail
        rw [← HW.out]
        refine HCSM.out.mono ?_
        rintro e wh ⟨rfl, hbh⟩
        have HF := Lib.hid (bt (bt HB.out HD.out) hbh)
        clear hbh HCSM x0 x1 y0 y1 v0 v1 v2 he
        go_wp2_with fail
        go_ret
        exact ⟨rfl, HF.out⟩
end Go.Proofs.YtfckbkhnelgjbaaGreatDoor
end
