/- Lemmas for the law WorldChecks: WChecks. No conditions. -/
import Derived.Test.YtfckbkhnelgjbaaDoorM20
import Derived.Test.YtfckbkhnelgjbaaDoorM21
import Derived.Test.YtfckbkhnelgjbaaDoorM23
import Derived.Test.YtfckbkhnelgjbaaDoorM17
/- The law WorldChecks. -/
section
namespace Go.Proofs.YtfckbkhnelgjbaaDoor
open Go.ChangeShapes Go.WideShapes Go.ChangeAt Go.RowKit Go.Nm Go.Mem
set_option linter.unusedVariables false
theorem FineW.small {y : WorldV} (h : FineW y) : SmallW y := ⟨h.kl, h.gl, h.il, fun t ht => ⟨(h.i t ht).1, fun c hc => (h.i t ht).2 c hc⟩⟩
theorem FineW.flds {y : WorldV} (h : FineW y) : ∀ k ∈ y.kinds, k.fields.length ≤ 1048576 := fun k hk => (h.k k hk).2.1
theorem pair_fine : FineW pairV := fine_of (of_decide_eq_true (by kernel_rfl))
theorem intsW_pos (y : WorldV) : ∃ n : Nat, (intsW y).length = n + 1 := ⟨_, by unfold intsW; rw [List.length_append, List.length_singleton, Nat.add_comm]⟩
theorem newV_ok {l : List KindV} (h : kindsE l = 0) : sameB (newV l) ⟨l, [], []⟩ = true := by unfold newV; rw [if_pos h]; exact sameB_refl _
theorem newV_bad {l : List KindV} (h : kindsE l ≠ 0) : sameB (newV l) ⟨[], [], []⟩ = true := by unfold newV; rw [if_neg h]; exact sameB_refl _
theorem newV_small {l : List KindV} (h : l.length ≤ 1048576) : SmallW (newV l) := by
  unfold newV
  split
  · exact ⟨h, by simp, by simp, fun y hy => absurd hy (by simp)⟩
  · exact ⟨by simp, by simp, by simp, fun y hy => absurd hy (by simp)⟩
theorem kinds_in {w : World} {l : List KindV} {a : Option Addr} {c : Nat} (h : SlAt 2 KindAt w a l) (h1 : l.length ≤ c) (h2 : c ≤ 9223372036854775807) : WorldIn w (.agg #[.slice a l.length c, .slice none 0 0, .slice none 0 0]) ⟨l, [], []⟩ :=
  ⟨a, c, none, 0, none, 0, rfl, h, fun h => absurd h (by simp), fun h => absurd h (by simp), h1, h2⟩
theorem zero_in (w : World) : WorldIn w (.agg #[.slice none 0 0, .slice none 0 0, .slice none 0 0]) ⟨[], [], []⟩ :=
  ⟨none, 0, none, 0, none, 0, rfl, fun h => absurd h (by simp), fun h => absurd h (by simp), fun h => absurd h (by simp), by simp, by simp⟩
def ROpen (y : WorldV) (W : World) (e : Ending) (w' : World) : Prop := (∃ p, e = .returned (.tuple #[.pointer p, .int .i64 (checkE y)])) ∧ Below W.heap.size W w'
theorem OpenPost.r {y : WorldV} {W w' : World} {e : Ending} (h : OpenPost y W e w') : ROpen y W e w' := by
  obtain ⟨h, hb⟩ := h
  rw [open_check] at h
  rcases h with ⟨_, h⟩ | ⟨h0, p, G, _, h, _⟩
  · exact ⟨⟨none, h⟩, hb⟩
  · exact ⟨⟨_, by rw [h0]; exact h⟩, hb⟩
theorem list20 {α : Type} {vs : List α} (h : vs.length = 20) : ∃ x0 x1 x2 x3 x4 x5 x6 x7 x8 x9 x10 x11 x12 x13 x14 x15 x16 x17 x18 x19, vs = [x0, x1, x2, x3, x4, x5, x6, x7, x8, x9, x10, x11, x12, x13, x14, x15, x16, x17, x18, x19] := by
  obtain ⟨x0, t0, rfl, h0⟩ := cons_of h
  obtain ⟨x1, t1, rfl, h1⟩ := cons_of h0
  obtain ⟨x2, t2, rfl, h2⟩ := cons_of h1
  obtain ⟨x3, t3, rfl, h3⟩ := cons_of h2
  obtain ⟨x4, t4, rfl, h4⟩ := cons_of h3
  obtain ⟨x5, t5, rfl, h5⟩ := cons_of h4
  obtain ⟨x6, t6, rfl, h6⟩ := cons_of h5
  obtain ⟨x7, t7, rfl, h7⟩ := cons_of h6
  obtain ⟨x8, t8, rfl, h8⟩ := cons_of h7
  obtain ⟨x9, t9, rfl, h9⟩ := cons_of h8
  obtain ⟨x10, t10, rfl, h10⟩ := cons_of h9
  obtain ⟨x11, t11, rfl, h11⟩ := cons_of h10
  obtain ⟨x12, t12, rfl, h12⟩ := cons_of h11
  obtain ⟨x13, t13, rfl, h13⟩ := cons_of h12
  obtain ⟨x14, t14, rfl, h14⟩ := cons_of h13
  obtain ⟨x15, t15, rfl, h15⟩ := cons_of h14
  obtain ⟨x16, t16, rfl, h16⟩ := cons_of h15
  obtain ⟨x17, t17, rfl, h17⟩ := cons_of h16
  obtain ⟨x18, t18, rfl, h18⟩ := cons_of h17
  obtain ⟨x19, t19, rfl, h19⟩ := cons_of h18
  exact ⟨x0, x1, x2, x3, x4, x5, x6, x7, x8, x9, x10, x11, x12, x13, x14, x15, x16, x17, x18, x19, by rw [List.eq_nil_of_length_eq_zero h19]⟩
def F_c8 (WB nk ck ng cg ni ci mk dk mg dg mi di : Nat) (ak ag ai bk bg bi : Option Addr) (YY : WorldV) (T : Bool) (jq : Nat) (v : Value) (w : World) : Prop :=
  match jq with
  | 0 => v = .agg #[.slice ak nk ck, .slice ag ng cg, .slice ai ni ci]
  | 1 => v = .agg #[.slice bk mk dk, .slice bg mg dg, .slice bi mi di]
  | 2 => v = .bool T
  | 3 => v = .agg #[.slice ak nk ck, .slice ag ng cg, .slice ai ni ci]
  | 4 => v = .agg #[.slice bk mk dk, .slice bg mg dg, .slice bi mi di]
  | 5 => v = .bool T
  | 6 => v = .bool false
  | 7 => v = .bool false
  | 8 => v = .agg #[.slice ak nk ck, .slice ag ng cg, .slice ai ni ci]
  | 9 => v = .agg #[.slice ak nk ck, .slice ag ng cg, .slice ai ni ci]
  | 10 => v = .bool true
  | 11 => v = .bool false
  | 12 => v = .bool false
  | 13 => v = .bool false
  | 14 => v = .agg #[.slice ak nk ck, .slice ag ng cg, .slice ai ni ci]
  | 15 => WorldIn w v YY
  | 16 => v = .agg #[.slice ak nk ck, .slice ag ng cg, .slice ai ni ci]
  | 17 => v = .bool true
  | 18 => v = .bool false
  | 19 => v = .bool false
  | _ => True
theorem F_c8_mono (WB nk ck ng cg ni ci mk dk mg dg mi di : Nat) (ak ag ai bk bg bi : Option Addr) (YY : WorldV) (T : Bool) : Facts (F_c8 WB nk ck ng cg ni ci mk dk mg dg mi di  ak ag ai bk bg bi  YY  T ) := ⟨by
  intro jq v w w' h hb
  unfold F_c8 at h ⊢
  split at h
  all_goals first
    | exact h
    | exact WorldIn.below h hb
    | trivial⟩
def F_c10 (WB nk ck ng cg ni ci mk dk mg dg mi di : Nat) (ak ag ai bk bg bi : Option Addr) (C DG : Int) (nl : Nat) (LL : List Int) (jq : Nat) (v : Value) (w : World) : Prop :=
  match jq with
  | 0 => v = .agg #[.slice ak nk ck, .slice ag ng cg, .slice ai ni ci]
  | 1 => v = .int .i64 C
  | 2 => v = .int .i64 C
  | 3 => v = .bool true
  | 4 => v = .bool true
  | 5 => v = .agg #[.slice ak nk ck, .slice ag ng cg, .slice ai ni ci]
  | 6 => ∃ a c, v = .slice a nl c ∧ IntsAt .i64 w a LL
  | 7 => v = .agg #[.slice ak nk ck, .slice ag ng cg, .slice ai ni ci]
  | 8 => ∃ a c, v = .slice a nl c ∧ IntsAt .i64 w a LL
  | 9 => v = .bool true
  | 10 => v = .bool true
  | 11 => v = .bool true
  | 12 => v = .agg #[.slice ak nk ck, .slice ag ng cg, .slice ai ni ci]
  | 13 => v = .int .u64 DG
  | 14 => v = .agg #[.slice ak nk ck, .slice ag ng cg, .slice ai ni ci]
  | 15 => ∃ a c, v = .slice a nl c ∧ IntsAt .i64 w a LL
  | 16 => v = .int .u64 DG
  | 17 => v = .bool true
  | 18 => v = .bool true
  | 19 => v = .bool true
  | _ => True
theorem F_c10_mono (WB nk ck ng cg ni ci mk dk mg dg mi di : Nat) (ak ag ai bk bg bi : Option Addr) (C DG : Int) (nl : Nat) (LL : List Int) : Facts (F_c10 WB nk ck ng cg ni ci mk dk mg dg mi di  ak ag ai bk bg bi  C DG  nl  LL ) := ⟨by
  intro jq v w w' h hb
  unfold F_c10 at h ⊢
  split at h
  all_goals first
    | exact h
    | (obtain ⟨a, c, e, hi⟩ := h; exact ⟨a, c, e, hi.below hb⟩)
    | trivial⟩

set_option maxHeartbeats 16000000 in
set_option maxRecDepth 20000 in
theorem walk_WorldChecks (y z : WorldV) (u v : Value) (W : World) (hu : WorldIn W u y) (hv : WorldIn W v z) (hfy : FineW y) (hfz : FineW z) :
    Calls Tryd.prog 3 #[u, v] W fun e w' => e = .returned (.bool true) ∧ Below W.heap.size W w' := by
  have hu0 := hu
  have hv0 := hv
  obtain ⟨ak, ck, ag, cg, ai, ci, rfl, q1, q2, q3, q4, q5⟩ := hu
  obtain ⟨bk, dk, bg, dg, bi, di, rfl, p1, p2, p3, p4, p5⟩ := hv
  obtain ⟨nk, hnk⟩ : ∃ n, n = y.kinds.length := ⟨_, rfl⟩
  obtain ⟨ng, hng⟩ : ∃ n, n = y.gens.length := ⟨_, rfl⟩
  obtain ⟨ni, hni⟩ : ∃ n, n = y.items.length := ⟨_, rfl⟩
  obtain ⟨mk, hmk⟩ : ∃ n, n = z.kinds.length := ⟨_, rfl⟩
  obtain ⟨mg, hmg⟩ : ∃ n, n = z.gens.length := ⟨_, rfl⟩
  obtain ⟨mi, hmi⟩ : ∃ n, n = z.items.length := ⟨_, rfl⟩
  rw [← hnk, ← hng, ← hni] at hu0
  rw [← hmk, ← hmg, ← hmi] at hv0
  rw [← hnk] at q4
  rw [← hnk, ← hng, ← hni, ← hmk, ← hmg, ← hmi]
  have hb0 := ((Below.refl W.heap.size W).alloc (Nat.le_refl _) (.cells #[.slice ak nk ck, .slice ag ng cg, .slice ai ni ci] 26)).alloc (by simp) (.cells #[.slice bk mk dk, .slice bg mg dg, .slice bi mi di] 26)
  have HB0 := Lib.hid hb0
  have hr1 := row_first W (.cells #[.slice ak nk ck, .slice ag ng cg, .slice ai ni ci] 26) (.cells #[.slice bk mk dk, .slice bg mg dg, .slice bi mi di] 26)
  have hr2 := row_second W (.cells #[.slice ak nk ck, .slice ag ng cg, .slice ai ni ci] 26) (.cells #[.slice bk mk dk, .slice bg mg dg, .slice bi mi di] 26)
  have HR1 := Lib.hid hr1
  have HR2 := Lib.hid hr2
  have HU := Lib.hid hu0
  have HV := Lib.hid hv0
  have HFY := Lib.hid hfy
  have HFZ := Lib.hid hfz
  have HZK := Lib.hid q1
  have HKC := Lib.hid (And.intro q4 q5)
  have NK := Lib.hid hnk
  obtain ⟨K, hK⟩ : ∃ K, K = kindsE y.kinds := ⟨_, rfl⟩
  obtain ⟨C, hC⟩ : ∃ C, C = checkE y := ⟨_, rfl⟩
  have HK := Lib.hid hK
  have HC := Lib.hid hC
  clear hu0 hv0 q1 q2 q3 q4 q5 p1 p2 p3 p4 p5 hnk hng hni hmk hmg hmi hb0 hr1 hr2 hfy hfz hK hC
  go_enter Tryd.func3, Tryd.ntmps3
  go_wp2_with fail
  refine (pair_w _).mono ?_
  rintro e w1 ⟨⟨pv, rfl, hpv⟩, hb1⟩
  have HPV := Lib.hid hpv
  have hc := world_Check pairV pv w1 hpv pair_small
  rw [pair_ok] at hc
  have HCK := Lib.hid hc
  have HB1 := Lib.hid (HB0.out.trans (hb1.mono HB0.out.size))
  have HR11 := Lib.hid (heap_below HR1.out hb1)
  have HR21 := Lib.hid (heap_below HR2.out hb1)
  clear hpv hc hb1 HR1 HR2 HB0
  go_wp2_with fail
  refine HCK.out.mono ?_
  rintro e w2 ⟨rfl, hb2⟩
  have HB2 := Lib.hid (HB1.out.trans (hb2.mono HB1.out.size))
  have HR12 := Lib.hid (heap_below HR11.out hb2)
  have HR22 := Lib.hid (heap_below HR21.out hb2)
  clear hb2 HR11 HR21 HB1 HCK HPV
  go_wp2_with fail
  refine (pair_w _).mono ?_
  rintro e w3 ⟨⟨pv2, rfl, hpv⟩, hb3⟩
  have HPI := Lib.hid (world_Ints pairV pv2 w3 hpv pair_fine)
  have HB3 := Lib.hid (HB2.out.trans (hb3.mono HB2.out.size))
  have HR13 := Lib.hid (heap_below HR12.out hb3)
  have HR23 := Lib.hid (heap_below HR22.out hb3)
  clear hpv hb3 HR12 HR22 HB2
  go_wp2_with fail
  refine HPI.out.mono ?_
  rintro e w4 ⟨⟨pa, pc, rfl, _⟩, hb4⟩
  have HB4 := Lib.hid (HB3.out.trans (hb4.mono HB3.out.size))
  have HR14 := Lib.hid (heap_below HR13.out hb4)
  have HR24 := Lib.hid (heap_below HR23.out hb4)
  obtain ⟨PN, hPN⟩ := intsW_pos pairV
  rw [hPN]
  have z0 := cell_of_row _ _ 0 _ _ _ HR14.out
  have z1 := cell_of_row _ _ 1 _ _ _ HR14.out
  have z2 := cell_of_row _ _ 2 _ _ _ HR14.out
  have HO := Lib.hid (ref_Open y _ w4 (HU.out.below HB4.out) HFY.out.small HFY.out.flds)
  clear hb4 HPI HR13 HR23 HB3 hPN
  go_wp2_with fail
  refine HO.out.mono ?_
  intro e w5 hpo
  obtain ⟨⟨po, rfl⟩, hb5⟩ := hpo.r
  have HB5 := Lib.hid (HB4.out.trans (hb5.mono HB4.out.size))
  have HR15 := Lib.hid (heap_below HR14.out hb5)
  have HR25 := Lib.hid (heap_below HR24.out hb5)
  rw [← HC.out]
  clear hb5 hpo HR14 HR24 HB4 HO z0 z1 z2
  have z0 := cell_of_row _ _ 0 _ _ _ HR15.out
  have HN := Lib.hid (world_New y.kinds ak nk ck NK.out.symm (by rw [NK.out]; exact HFY.out.kl) HKC.out.1 HKC.out.2 HFY.out.flds w5 (HZK.out.below KindAt.abides HB5.out))
  rw [← HK.out] at HN
  go_wp2_with fail
  refine HN.out.mono ?_
  rintro e w6 ⟨⟨nv, rfl, hnv⟩, hb6⟩
  obtain ⟨na, nc, nga, ngc, nia, nic, hnve, _⟩ := id hnv
  have HB6 := Lib.hid (HB5.out.trans (hb6.mono HB5.out.size))
  have hbA := (Below.refl w6.heap.size w6).alloc (Nat.le_refl _) (.cells #[.slice na (newV y.kinds).kinds.length nc, .slice nga (newV y.kinds).gens.length ngc, .slice nia (newV y.kinds).items.length nic] 26 (0, 0))
  have hrn := heap_alloc_new w6 (.cells #[.slice na (newV y.kinds).kinds.length nc, .slice nga (newV y.kinds).gens.length ngc, .slice nia (newV y.kinds).items.length nic] 26 (0, 0))
  obtain ⟨l1, hl1⟩ : ∃ n, n = (newV y.kinds).kinds.length := ⟨_, rfl⟩
  obtain ⟨l2, hl2⟩ : ∃ n, n = (newV y.kinds).gens.length := ⟨_, rfl⟩
  obtain ⟨l3, hl3⟩ : ∃ n, n = (newV y.kinds).items.length := ⟨_, rfl⟩
  rw [← hl1, ← hl2, ← hl3] at hbA hrn hnve
  subst hnve
  have HNV := Lib.hid hnv
  have HBA := Lib.hid hbA
  have HRN := Lib.hid hrn
  have HR16 := Lib.hid (heap_below (heap_below HR15.out hb6) hbA)
  have HR26 := Lib.hid (heap_below (heap_below HR25.out hb6) hbA)
  have HB6A := Lib.hid (bt HB6.out hbA)
  have HKE := Lib.hid (ref_KindsError y.kinds ak nk ck NK.out.symm (by rw [NK.out]; have := HFY.out.kl; omega) _ (HZK.out.below KindAt.abides HB6A.out))
  rw [← HK.out] at HKE
  clear z0 hnv hbA hrn hl1 hl2 hl3 hb6 HR15 HR25 HB5 HN
  have z0 := cell_of_row _ _ 0 _ _ _ HR16.out
  go_wp2_with fail
  refine HKE.out.mono ?_
  rintro e w7 ⟨rfl, hb7⟩
  have HB7 := Lib.hid (bt HB6A.out hb7)
  have HRA := Lib.hid (heap_below HR16.out hb7)
  have HRB := Lib.hid (heap_below HR26.out hb7)
  have hn7 := heap_below HRN.out hb7
  have HNV7 := Lib.hid (HNV.out.below (bt HBA.out hb7))
  clear z0 hb7 HR16 HR26 HRN HNV HBA HB6 HB6A HKE
  have z0 := cell_of_row _ _ 0 _ _ _ HRA.out
  have n0 := cell_of_row _ _ 0 _ _ _ hn7
  have n1 := cell_of_row _ _ 1 _ _ _ hn7
  have n2 := cell_of_row _ _ 2 _ _ _ hn7
  have t1 : (K != K) = false := bne_self_eq_false _
  clear hn7
  by_cases hK : K = 0
  · subst hK
    have HS1 := Lib.hid (ref_SameWorld (newV y.kinds) ⟨y.kinds, [], []⟩ _ (.agg #[.slice ak nk ck, .slice none 0 0, .slice none 0 0]) w7 HNV7.out (by have h := kinds_in (HZK.out.below KindAt.abides HB7.out) (by rw [← NK.out]; exact HKC.out.1) HKC.out.2; rw [← NK.out] at h; exact h) (newV_small HFY.out.kl) ⟨HFY.out.kl, by simp, by simp, fun y hy => absurd hy (by simp)⟩)
    rw [newV_ok HK.out.symm] at HS1
    go_wp2_with fail
    refine HS1.out.mono ?_
    rintro e w8 ⟨rfl, hb8⟩
    clear z0 n0 n1 n2 t1 HS1
    have HB8 := Lib.hid (bt HB7.out hb8)
    replace HRA := Lib.hid (heap_below HRA.out hb8)
    replace HRB := Lib.hid (heap_below HRB.out hb8)
    obtain ⟨T, hT⟩ : ∃ T, T = sameB y z := ⟨_, rfl⟩
    have H8A := Lib.hid (fun w' (hb : Below w8.heap.size w8 w') => world_Same y z _ _ w' (HU.out.below (bt HB8.out hb)) (HV.out.below (bt HB8.out hb)) HFY.out.small HFZ.out.small)
    have H8B := Lib.hid (fun w' (hb : Below w8.heap.size w8 w') => ref_SameWorld y z _ _ w' (HU.out.below (bt HB8.out hb)) (HV.out.below (bt HB8.out hb)) HFY.out.small HFZ.out.small)
    have H8C := Lib.hid (fun w' (hb : Below w8.heap.size w8 w') => world_Same y y _ _ w' (HU.out.below (bt HB8.out hb)) (HU.out.below (bt HB8.out hb)) HFY.out.small HFY.out.small)
    have H8D := Lib.hid (fun w' (hb : Below w8.heap.size w8 w') => (world_Copy y _ w' (HU.out.below (bt HB8.out hb)) HFY.out.small HFY.out.flds).mono (fun e w2 h => WCopyPost.world h HFY.out.kl))
    have H8E := Lib.hid (fun w' (hb : Below w8.heap.size w8 w') u (hu : WorldIn w' u y) => ref_SameWorld y y u _ w' hu (HU.out.below (bt HB8.out hb)) HFY.out.small HFY.out.small)
    rw [← hT] at H8A H8B
    rw [sameB_refl] at H8C H8E
    clear hb8 hT
    go_wp2_with fail
    refine wp_region_facts_t rfl 20 (by kernel_rfl) (F_c8 W.heap.size nk ck ng cg ni ci mk dk mg dg mi di ak ag ai bk bg bi y T) (F_c8_mono W.heap.size nk ck ng cg ni ci mk dk mg dg mi di ak ag ai bk bg bi y T) ?_ ?_
    · refine ⟨?_, ?_, ?_, ?_, ?_, ?_, ?_, ?_, ?_, ?_, ?_, ?_, ?_, ?_, ?_, ?_, ?_, ?_, ?_, ?_, trivial⟩
      · intro vs w' F hb hd hF hl hT
        have e := (hF 2).trans (look_out _ 2 _ _ (by kernel_rfl))
        exact rg_load 26 _ rfl rfl (W.heap.size) (0) [.slice ak nk ck, .slice ag ng cg, .slice ai ni ci] e (CellsK.row (heap_below HRA.out hb)) _ Tryd.underlying26 rfl (by kernel_rfl) ⟨_, rfl, Below.refl _ _, rfl⟩
      · intro vs w' F hb hd hF hl hT
        have e := (hF 3).trans (look_out _ 3 _ _ (by kernel_rfl))
        exact rg_load 26 _ rfl rfl (W.heap.size + 1) (0) [.slice bk mk dk, .slice bg mg dg, .slice bi mi di] e (CellsK.row (heap_below HRB.out hb)) _ Tryd.underlying26 rfl (by kernel_rfl) ⟨_, rfl, Below.refl _ _, rfl⟩
      · intro vs w' F hb hd hF hl hT
        have ea0 := ((hF 58).trans (look_at _ 58 0 _ _ (by kernel_rfl) (by kernel_rfl) hl)).trans (dep_of (Fact := F_c8 W.heap.size nk ck ng cg ni ci mk dk mg dg mi di ak ag ai bk bg bi y T) hd 0 (by kernel_rfl))
        have ea1 := ((hF 59).trans (look_at _ 59 1 _ _ (by kernel_rfl) (by kernel_rfl) hl)).trans (dep_of (Fact := F_c8 W.heap.size nk ck ng cg ni ci mk dk mg dg mi di ak ag ai bk bg bi y T) hd 1 (by kernel_rfl))
        refine one_call _ _ rfl rfl (enters_of Tryd.func11 (by kernel_rfl) rfl) #[.agg #[.slice ak nk ck, .slice ag ng cg, .slice ai ni ci], .agg #[.slice bk mk dk, .slice bg mg dg, .slice bi mi di]] (eval2 ea0 ea1) ?_
        refine (H8A.out w' hb).mono ?_
        rintro e2 w2 ⟨rfl, hb2⟩
        exact ⟨_, rfl, _, rfl, hb2, rfl⟩
      · intro vs w' F hb hd hF hl hT
        have e := (hF 2).trans (look_out _ 2 _ _ (by kernel_rfl))
        exact rg_load 26 _ rfl rfl (W.heap.size) (0) [.slice ak nk ck, .slice ag ng cg, .slice ai ni ci] e (CellsK.row (heap_below HRA.out hb)) _ Tryd.underlying26 rfl (by kernel_rfl) ⟨_, rfl, Below.refl _ _, rfl⟩
      · intro vs w' F hb hd hF hl hT
        have e := (hF 3).trans (look_out _ 3 _ _ (by kernel_rfl))
        exact rg_load 26 _ rfl rfl (W.heap.size + 1) (0) [.slice bk mk dk, .slice bg mg dg, .slice bi mi di] e (CellsK.row (heap_below HRB.out hb)) _ Tryd.underlying26 rfl (by kernel_rfl) ⟨_, rfl, Below.refl _ _, rfl⟩
      · intro vs w' F hb hd hF hl hT
        have ea0 := ((hF 61).trans (look_at _ 61 3 _ _ (by kernel_rfl) (by kernel_rfl) hl)).trans (dep_of (Fact := F_c8 W.heap.size nk ck ng cg ni ci mk dk mg dg mi di ak ag ai bk bg bi y T) hd 3 (by kernel_rfl))
        have ea1 := ((hF 62).trans (look_at _ 62 4 _ _ (by kernel_rfl) (by kernel_rfl) hl)).trans (dep_of (Fact := F_c8 W.heap.size nk ck ng cg ni ci mk dk mg dg mi di ak ag ai bk bg bi y T) hd 4 (by kernel_rfl))
        refine one_call _ _ rfl rfl (enters_of Tryd.func10 (by kernel_rfl) rfl) #[.agg #[.slice ak nk ck, .slice ag ng cg, .slice ai ni ci], .agg #[.slice bk mk dk, .slice bg mg dg, .slice bi mi di]] (eval2 ea0 ea1) ?_
        refine (H8B.out w' hb).mono ?_
        rintro e2 w2 ⟨rfl, hb2⟩
        exact ⟨_, rfl, _, rfl, hb2, rfl⟩
      · intro vs w' F hb hd hF hl hT
        have e1 := ((hF 60).trans (look_at _ 60 2 _ _ (by kernel_rfl) (by kernel_rfl) hl)).trans (dep_of (Fact := F_c8 W.heap.size nk ck ng cg ni ci mk dk mg dg mi di ak ag ai bk bg bi y T) hd 2 (by kernel_rfl))
        have e2 := ((hF 63).trans (look_at _ 63 5 _ _ (by kernel_rfl) (by kernel_rfl) hl)).trans (dep_of (Fact := F_c8 W.heap.size nk ck ng cg ni ci mk dk mg dg mi di ak ag ai bk bg bi y T) hd 5 (by kernel_rfl))
        exact one_bool_ne _ _ _ _ rfl rfl (by kernel_rfl) _ _ false e1 e2 (bne_self_eq_false _) ⟨_, rfl, Below.refl _ _, rfl⟩
      · intro vs w' F hb hd hF hl hT
        have e := ((hF 64).trans (look_at _ 64 6 _ _ (by kernel_rfl) (by kernel_rfl) hl)).trans (dep_of (Fact := F_c8 W.heap.size nk ck ng cg ni ci mk dk mg dg mi di ak ag ai bk bg bi y T) hd 6 (by kernel_rfl))
        exact one_move _ rfl (by first | exact Or.inl rfl | exact Or.inr rfl) ⟨_, rfl, Below.refl _ _, e⟩
      · intro vs w' F hb hd hF hl hT
        have eg := ((hF 65).trans (look_at _ 65 7 _ _ (by kernel_rfl) (by kernel_rfl) hl)).trans (dep_of (Fact := F_c8 W.heap.size nk ck ng cg ni ci mk dk mg dg mi di ak ag ai bk bg bi y T) hd 7 (by kernel_rfl))
        refine wpList_on rfl (t := 65) (by kernel_rfl) eg ?_
        have e := (hF 2).trans (look_out _ 2 _ _ (by kernel_rfl))
        exact rg_load 26 _ rfl rfl (W.heap.size) (0) [.slice ak nk ck, .slice ag ng cg, .slice ai ni ci] e (CellsK.row (heap_below HRA.out hb)) _ Tryd.underlying26 rfl (by kernel_rfl) ⟨_, rfl, Below.refl _ _, rfl⟩
      · intro vs w' F hb hd hF hl hT
        have eg := ((hF 65).trans (look_at _ 65 7 _ _ (by kernel_rfl) (by kernel_rfl) hl)).trans (dep_of (Fact := F_c8 W.heap.size nk ck ng cg ni ci mk dk mg dg mi di ak ag ai bk bg bi y T) hd 7 (by kernel_rfl))
        refine wpList_on rfl (t := 65) (by kernel_rfl) eg ?_
        have e := (hF 2).trans (look_out _ 2 _ _ (by kernel_rfl))
        exact rg_load 26 _ rfl rfl (W.heap.size) (0) [.slice ak nk ck, .slice ag ng cg, .slice ai ni ci] e (CellsK.row (heap_below HRA.out hb)) _ Tryd.underlying26 rfl (by kernel_rfl) ⟨_, rfl, Below.refl _ _, rfl⟩
      · intro vs w' F hb hd hF hl hT
        have eg := ((hF 65).trans (look_at _ 65 7 _ _ (by kernel_rfl) (by kernel_rfl) hl)).trans (dep_of (Fact := F_c8 W.heap.size nk ck ng cg ni ci mk dk mg dg mi di ak ag ai bk bg bi y T) hd 7 (by kernel_rfl))
        refine wpList_on rfl (t := 65) (by kernel_rfl) eg ?_
        have ea0 := ((hF 66).trans (look_at _ 66 8 _ _ (by kernel_rfl) (by kernel_rfl) hl)).trans (dep_of (Fact := F_c8 W.heap.size nk ck ng cg ni ci mk dk mg dg mi di ak ag ai bk bg bi y T) hd 8 (by kernel_rfl))
        have ea1 := ((hF 67).trans (look_at _ 67 9 _ _ (by kernel_rfl) (by kernel_rfl) hl)).trans (dep_of (Fact := F_c8 W.heap.size nk ck ng cg ni ci mk dk mg dg mi di ak ag ai bk bg bi y T) hd 9 (by kernel_rfl))
        refine one_call _ _ rfl rfl (enters_of Tryd.func11 (by kernel_rfl) rfl) #[.agg #[.slice ak nk ck, .slice ag ng cg, .slice ai ni ci], .agg #[.slice ak nk ck, .slice ag ng cg, .slice ai ni ci]] (eval2 ea0 ea1) ?_
        refine (H8C.out w' hb).mono ?_
        rintro e2 w2 ⟨rfl, hb2⟩
        exact ⟨_, rfl, _, rfl, hb2, rfl⟩
      · intro vs w' F hb hd hF hl hT
        have eg := ((hF 65).trans (look_at _ 65 7 _ _ (by kernel_rfl) (by kernel_rfl) hl)).trans (dep_of (Fact := F_c8 W.heap.size nk ck ng cg ni ci mk dk mg dg mi di ak ag ai bk bg bi y T) hd 7 (by kernel_rfl))
        refine wpList_on rfl (t := 65) (by kernel_rfl) eg ?_
        have e := ((hF 68).trans (look_at _ 68 10 _ _ (by kernel_rfl) (by kernel_rfl) hl)).trans (dep_of (Fact := F_c8 W.heap.size nk ck ng cg ni ci mk dk mg dg mi di ak ag ai bk bg bi y T) hd 10 (by kernel_rfl))
        exact one_not _ _ rfl rfl _ false e rfl ⟨_, rfl, Below.refl _ _, rfl⟩
      · intro vs w' F hb hd hF hl hT
        have ec := ((hF 65).trans (look_at _ 65 7 _ _ (by kernel_rfl) (by kernel_rfl) hl)).trans (dep_of (Fact := F_c8 W.heap.size nk ck ng cg ni ci mk dk mg dg mi di ak ag ai bk bg bi y T) hd 7 (by kernel_rfl))
        have e := ((hF 69).trans (look_at _ 69 11 _ _ (by kernel_rfl) (by kernel_rfl) hl)).trans (dep_of (Fact := F_c8 W.heap.size nk ck ng cg ni ci mk dk mg dg mi di ak ag ai bk bg bi y T) hd 11 (by kernel_rfl))
        exact one_pick_f _ _ _ rfl rfl _ ec e ⟨_, rfl, Below.refl _ _, rfl⟩
      · intro vs w' F hb hd hF hl hT
        have e := ((hF 70).trans (look_at _ 70 12 _ _ (by kernel_rfl) (by kernel_rfl) hl)).trans (dep_of (Fact := F_c8 W.heap.size nk ck ng cg ni ci mk dk mg dg mi di ak ag ai bk bg bi y T) hd 12 (by kernel_rfl))
        exact one_move _ rfl (by first | exact Or.inl rfl | exact Or.inr rfl) ⟨_, rfl, Below.refl _ _, e⟩
      · intro vs w' F hb hd hF hl hT
        have eg := ((hF 71).trans (look_at _ 71 13 _ _ (by kernel_rfl) (by kernel_rfl) hl)).trans (dep_of (Fact := F_c8 W.heap.size nk ck ng cg ni ci mk dk mg dg mi di ak ag ai bk bg bi y T) hd 13 (by kernel_rfl))
        refine wpList_on rfl (t := 71) (by kernel_rfl) eg ?_
        have e := (hF 2).trans (look_out _ 2 _ _ (by kernel_rfl))
        exact rg_load 26 _ rfl rfl (W.heap.size) (0) [.slice ak nk ck, .slice ag ng cg, .slice ai ni ci] e (CellsK.row (heap_below HRA.out hb)) _ Tryd.underlying26 rfl (by kernel_rfl) ⟨_, rfl, Below.refl _ _, rfl⟩
      · intro vs w' F hb hd hF hl hT
        have eg := ((hF 71).trans (look_at _ 71 13 _ _ (by kernel_rfl) (by kernel_rfl) hl)).trans (dep_of (Fact := F_c8 W.heap.size nk ck ng cg ni ci mk dk mg dg mi di ak ag ai bk bg bi y T) hd 13 (by kernel_rfl))
        refine wpList_on rfl (t := 71) (by kernel_rfl) eg ?_
        have e1 := (((hF 72).trans (look_at _ 72 14 _ _ (by kernel_rfl) (by kernel_rfl) hl)).trans (dep_of (Fact := F_c8 W.heap.size nk ck ng cg ni ci mk dk mg dg mi di ak ag ai bk bg bi y T) hd 14 (by kernel_rfl)))
        refine one_call _ _ rfl rfl (enters_of Tryd.func12 (by kernel_rfl) rfl) #[.agg #[.slice ak nk ck, .slice ag ng cg, .slice ai ni ci]] (eval1 e1) ?_
        refine (H8D.out w' hb).mono ?_
        rintro e2 w2 ⟨⟨u2, rfl, hu⟩, hb2⟩
        exact ⟨_, rfl, _, rfl, hb2, hu⟩
      · intro vs w' F hb hd hF hl hT
        have eg := ((hF 71).trans (look_at _ 71 13 _ _ (by kernel_rfl) (by kernel_rfl) hl)).trans (dep_of (Fact := F_c8 W.heap.size nk ck ng cg ni ci mk dk mg dg mi di ak ag ai bk bg bi y T) hd 13 (by kernel_rfl))
        refine wpList_on rfl (t := 71) (by kernel_rfl) eg ?_
        have e := (hF 2).trans (look_out _ 2 _ _ (by kernel_rfl))
        exact rg_load 26 _ rfl rfl (W.heap.size) (0) [.slice ak nk ck, .slice ag ng cg, .slice ai ni ci] e (CellsK.row (heap_below HRA.out hb)) _ Tryd.underlying26 rfl (by kernel_rfl) ⟨_, rfl, Below.refl _ _, rfl⟩
      · intro vs w' F hb hd hF hl hT
        have eg := ((hF 71).trans (look_at _ 71 13 _ _ (by kernel_rfl) (by kernel_rfl) hl)).trans (dep_of (Fact := F_c8 W.heap.size nk ck ng cg ni ci mk dk mg dg mi di ak ag ai bk bg bi y T) hd 13 (by kernel_rfl))
        refine wpList_on rfl (t := 71) (by kernel_rfl) eg ?_
        have hw := (dep_of (Fact := F_c8 W.heap.size nk ck ng cg ni ci mk dk mg dg mi di ak ag ai bk bg bi y T) hd 15 (by kernel_rfl))
        have e1 := ((hF 73).trans (look_at _ 73 15 _ _ (by kernel_rfl) (by kernel_rfl) hl))
        have e2 := (((hF 74).trans (look_at _ 74 16 _ _ (by kernel_rfl) (by kernel_rfl) hl)).trans (dep_of (Fact := F_c8 W.heap.size nk ck ng cg ni ci mk dk mg dg mi di ak ag ai bk bg bi y T) hd 16 (by kernel_rfl)))
        refine one_call _ _ rfl rfl (enters_of Tryd.func10 (by kernel_rfl) rfl) #[vs.getD 15 undef, .agg #[.slice ak nk ck, .slice ag ng cg, .slice ai ni ci]] (eval2 e1 e2) ?_
        refine (H8E.out w' hb _ hw).mono ?_
        rintro e2 w2 ⟨rfl, hb2⟩
        exact ⟨_, rfl, _, rfl, hb2, rfl⟩
      · intro vs w' F hb hd hF hl hT
        have eg := ((hF 71).trans (look_at _ 71 13 _ _ (by kernel_rfl) (by kernel_rfl) hl)).trans (dep_of (Fact := F_c8 W.heap.size nk ck ng cg ni ci mk dk mg dg mi di ak ag ai bk bg bi y T) hd 13 (by kernel_rfl))
        refine wpList_on rfl (t := 71) (by kernel_rfl) eg ?_
        have e := ((hF 75).trans (look_at _ 75 17 _ _ (by kernel_rfl) (by kernel_rfl) hl)).trans (dep_of (Fact := F_c8 W.heap.size nk ck ng cg ni ci mk dk mg dg mi di ak ag ai bk bg bi y T) hd 17 (by kernel_rfl))
        exact one_not _ _ rfl rfl _ false e rfl ⟨_, rfl, Below.refl _ _, rfl⟩
      · intro vs w' F hb hd hF hl hT
        have ec := ((hF 71).trans (look_at _ 71 13 _ _ (by kernel_rfl) (by kernel_rfl) hl)).trans (dep_of (Fact := F_c8 W.heap.size nk ck ng cg ni ci mk dk mg dg mi di ak ag ai bk bg bi y T) hd 13 (by kernel_rfl))
        have e := ((hF 76).trans (look_at _ 76 18 _ _ (by kernel_rfl) (by kernel_rfl) hl)).trans (dep_of (Fact := F_c8 W.heap.size nk ck ng cg ni ci mk dk mg dg mi di ak ag ai bk bg bi y T) hd 18 (by kernel_rfl))
        exact one_pick_f _ _ _ rfl rfl _ ec e ⟨_, rfl, Below.refl _ _, rfl⟩
    · intro vs8 W8 hl hb hI
      have i19 : vs8.getD 19 undef = .bool false := hI 19 (by omega)
      obtain ⟨x0, x1, x2, x3, x4, x5, x6, x7, x8, x9, x10, x11, x12, x13, x14, x15, x16, x17, x18, x19, hvs⟩ := list20 hl
      subst hvs
      replace i19 : x19 = .bool false := i19
      subst i19
      obtain ⟨W9, hW9⟩ : ∃ W9, W9 = W8 := ⟨_, rfl⟩
      subst hW9
      have HB9 := Lib.hid (bt HB8.out hb)
      replace HRA := Lib.hid (heap_below HRA.out hb)
      clear hI hl hb H8A H8B H8C H8D H8E HB8 HRB
      simp only [fillAll, Act.put, List.setIfInBounds_toArray, List.set_cons_succ, List.set_cons_zero]
      show wpList _ _ _ [] _ _
      have H0A := Lib.hid (fun w' (hb : Below W9.heap.size W9 w') => world_Check y _ w' (HU.out.below (bt HB9.out hb)) HFY.out.small)
      rw [← HC.out] at H0A
      obtain ⟨LL, hLL⟩ : ∃ L, L = intsW y := ⟨_, rfl⟩
      obtain ⟨nl, hnl⟩ : ∃ n, n = LL.length := ⟨_, rfl⟩
      obtain ⟨DG, hDG⟩ : ∃ D : Int, D = (dig LL : Nat) := ⟨_, rfl⟩
      have hll : LL.length ≤ 4000000 := by rw [hLL]; exact HFY.out.tot
      have H0B := Lib.hid (fun w' (hb : Below W9.heap.size W9 w') => world_Ints y _ w' (HU.out.below (bt HB9.out hb)) HFY.out)
      have H0C := Lib.hid (fun w' (hb : Below W9.heap.size W9 w') => ref_Described y _ w' (HU.out.below (bt HB9.out hb)) HFY.out)
      have H0F := Lib.hid (fun w' (hb : Below W9.heap.size W9 w') => world_Digest y _ w' (HU.out.below (bt HB9.out hb)) HFY.out (by have := HFY.out.tot; omega))
      have H0D := Lib.hid (fun w' a1 c1 a2 c2 (i1 : IntsAt .i64 w' a1 LL) (i2 : IntsAt .i64 w' a2 LL) => eq_intsN a1 a2 c1 c2 nl nl LL LL hnl.symm hnl.symm (by omega) (by omega) w' i1 i2)
      have H0E := Lib.hid (fun w' a1 c1 (i1 : IntsAt .i64 w' a1 LL) => sum_Ints a1 c1 LL (by omega) w' i1)
      rw [← hLL] at H0B H0C H0F
      rw [← hnl] at H0B H0C H0E
      rw [← hDG] at H0E H0F
      rw [decide_eq_true rfl] at H0D
      clear hLL hnl hDG hll
      go_wp2_with fail
      refine wp_region_facts_t rfl 20 (by kernel_rfl) (F_c10 W.heap.size nk ck ng cg ni ci mk dk mg dg mi di ak ag ai bk bg bi C DG nl LL) (F_c10_mono W.heap.size nk ck ng cg ni ci mk dk mg dg mi di ak ag ai bk bg bi C DG nl LL) ?_ ?_
      · refine ⟨?_, ?_, ?_, ?_, ?_, ?_, ?_, ?_, ?_, ?_, ?_, ?_, ?_, ?_, ?_, ?_, ?_, ?_, ?_, ?_, trivial⟩
        · intro vs w' F hb hd hF hl hT
          have e := (hF 2).trans (look_out _ 2 _ _ (by kernel_rfl))
          exact rg_load 26 _ rfl rfl (W.heap.size) (0) [.slice ak nk ck, .slice ag ng cg, .slice ai ni ci] e (CellsK.row (heap_below HRA.out hb)) _ Tryd.underlying26 rfl (by kernel_rfl) ⟨_, rfl, Below.refl _ _, rfl⟩
        · intro vs w' F hb hd hF hl hT
          have ea0 := ((hF 78).trans (look_at _ 78 0 _ _ (by kernel_rfl) (by kernel_rfl) hl)).trans (dep_of (Fact := F_c10 W.heap.size nk ck ng cg ni ci mk dk mg dg mi di ak ag ai bk bg bi C DG nl LL) hd 0 (by kernel_rfl))
          refine one_call _ _ rfl rfl (enters_of Tryd.func4 (by kernel_rfl) rfl) #[.agg #[.slice ak nk ck, .slice ag ng cg, .slice ai ni ci]] (eval1 ea0) ?_
          refine (H0A.out w' hb).mono ?_
          rintro e2 w2 ⟨rfl, hb2⟩
          exact ⟨_, rfl, _, rfl, hb2, rfl⟩
        · intro vs w' F hb hd hF hl hT
          have e := (hF 6).trans (look_out _ 6 _ _ (by kernel_rfl))
          exact one_move _ rfl (by first | exact Or.inl rfl | exact Or.inr rfl) ⟨_, rfl, Below.refl _ _, e⟩
        · intro vs w' F hb hd hF hl hT
          have e1 := ((hF 79).trans (look_at _ 79 1 _ _ (by kernel_rfl) (by kernel_rfl) hl)).trans (dep_of (Fact := F_c10 W.heap.size nk ck ng cg ni ci mk dk mg dg mi di ak ag ai bk bg bi C DG nl LL) hd 1 (by kernel_rfl))
          have e2 := ((hF 80).trans (look_at _ 80 2 _ _ (by kernel_rfl) (by kernel_rfl) hl)).trans (dep_of (Fact := F_c10 W.heap.size nk ck ng cg ni ci mk dk mg dg mi di ak ag ai bk bg bi C DG nl LL) hd 2 (by kernel_rfl))
          exact rg_eql _ _ _ _ rfl rfl .i64 (C) (C) true e1 e2 (decide_eq_true (by omega)) ⟨_, rfl, Below.refl _ _, rfl⟩
        · intro vs w' F hb hd hF hl hT
          have e := ((hF 81).trans (look_at _ 81 3 _ _ (by kernel_rfl) (by kernel_rfl) hl)).trans (dep_of (Fact := F_c10 W.heap.size nk ck ng cg ni ci mk dk mg dg mi di ak ag ai bk bg bi C DG nl LL) hd 3 (by kernel_rfl))
          exact one_move _ rfl (by first | exact Or.inl rfl | exact Or.inr rfl) ⟨_, rfl, Below.refl _ _, e⟩
        · intro vs w' F hb hd hF hl hT
          have eg := ((hF 82).trans (look_at _ 82 4 _ _ (by kernel_rfl) (by kernel_rfl) hl)).trans (dep_of (Fact := F_c10 W.heap.size nk ck ng cg ni ci mk dk mg dg mi di ak ag ai bk bg bi C DG nl LL) hd 4 (by kernel_rfl))
          refine wpList_on rfl (t := 82) (by kernel_rfl) eg ?_
          have e := (hF 2).trans (look_out _ 2 _ _ (by kernel_rfl))
          exact rg_load 26 _ rfl rfl (W.heap.size) (0) [.slice ak nk ck, .slice ag ng cg, .slice ai ni ci] e (CellsK.row (heap_below HRA.out hb)) _ Tryd.underlying26 rfl (by kernel_rfl) ⟨_, rfl, Below.refl _ _, rfl⟩
        · intro vs w' F hb hd hF hl hT
          have eg := ((hF 82).trans (look_at _ 82 4 _ _ (by kernel_rfl) (by kernel_rfl) hl)).trans (dep_of (Fact := F_c10 W.heap.size nk ck ng cg ni ci mk dk mg dg mi di ak ag ai bk bg bi C DG nl LL) hd 4 (by kernel_rfl))
          refine wpList_on rfl (t := 82) (by kernel_rfl) eg ?_
          have e1 := (((hF 83).trans (look_at _ 83 5 _ _ (by kernel_rfl) (by kernel_rfl) hl)).trans (dep_of (Fact := F_c10 W.heap.size nk ck ng cg ni ci mk dk mg dg mi di ak ag ai bk bg bi C DG nl LL) hd 5 (by kernel_rfl)))
          refine one_call _ _ rfl rfl (enters_of Tryd.func6 (by kernel_rfl) rfl) #[.agg #[.slice ak nk ck, .slice ag ng cg, .slice ai ni ci]] (eval1 e1) ?_
          refine (H0B.out w' hb).mono ?_
          rintro e2 w2 ⟨⟨a2, c2, rfl, hu⟩, hb2⟩
          exact ⟨_, rfl, _, rfl, hb2, a2, c2, rfl, hu⟩
        · intro vs w' F hb hd hF hl hT
          have eg := ((hF 82).trans (look_at _ 82 4 _ _ (by kernel_rfl) (by kernel_rfl) hl)).trans (dep_of (Fact := F_c10 W.heap.size nk ck ng cg ni ci mk dk mg dg mi di ak ag ai bk bg bi C DG nl LL) hd 4 (by kernel_rfl))
          refine wpList_on rfl (t := 82) (by kernel_rfl) eg ?_
          have e := (hF 2).trans (look_out _ 2 _ _ (by kernel_rfl))
          exact rg_load 26 _ rfl rfl (W.heap.size) (0) [.slice ak nk ck, .slice ag ng cg, .slice ai ni ci] e (CellsK.row (heap_below HRA.out hb)) _ Tryd.underlying26 rfl (by kernel_rfl) ⟨_, rfl, Below.refl _ _, rfl⟩
        · intro vs w' F hb hd hF hl hT
          have eg := ((hF 82).trans (look_at _ 82 4 _ _ (by kernel_rfl) (by kernel_rfl) hl)).trans (dep_of (Fact := F_c10 W.heap.size nk ck ng cg ni ci mk dk mg dg mi di ak ag ai bk bg bi C DG nl LL) hd 4 (by kernel_rfl))
          refine wpList_on rfl (t := 82) (by kernel_rfl) eg ?_
          have e1 := (((hF 85).trans (look_at _ 85 7 _ _ (by kernel_rfl) (by kernel_rfl) hl)).trans (dep_of (Fact := F_c10 W.heap.size nk ck ng cg ni ci mk dk mg dg mi di ak ag ai bk bg bi C DG nl LL) hd 7 (by kernel_rfl)))
          refine one_call _ _ rfl rfl (enters_of Tryd.func14 (by kernel_rfl) rfl) #[.agg #[.slice ak nk ck, .slice ag ng cg, .slice ai ni ci]] (eval1 e1) ?_
          refine (H0C.out w' hb).mono ?_
          rintro e2 w2 ⟨⟨a2, c2, rfl, hu⟩, hb2⟩
          exact ⟨_, rfl, _, rfl, hb2, a2, c2, rfl, hu⟩
        · intro vs w' F hb hd hF hl hT
          have eg := ((hF 82).trans (look_at _ 82 4 _ _ (by kernel_rfl) (by kernel_rfl) hl)).trans (dep_of (Fact := F_c10 W.heap.size nk ck ng cg ni ci mk dk mg dg mi di ak ag ai bk bg bi C DG nl LL) hd 4 (by kernel_rfl))
          refine wpList_on rfl (t := 82) (by kernel_rfl) eg ?_
          obtain ⟨a1, c1, h1, i1⟩ := (dep_of (Fact := F_c10 W.heap.size nk ck ng cg ni ci mk dk mg dg mi di ak ag ai bk bg bi C DG nl LL) hd 6 (by kernel_rfl))
          obtain ⟨a2, c2, h2, i2⟩ := (dep_of (Fact := F_c10 W.heap.size nk ck ng cg ni ci mk dk mg dg mi di ak ag ai bk bg bi C DG nl LL) hd 8 (by kernel_rfl))
          have e1 := ((hF 84).trans (look_at _ 84 6 _ _ (by kernel_rfl) (by kernel_rfl) hl)).trans h1
          have e2 := ((hF 86).trans (look_at _ 86 8 _ _ (by kernel_rfl) (by kernel_rfl) hl)).trans h2
          refine one_call _ _ rfl rfl (enters_of Tryd.func13 (by kernel_rfl) rfl) #[.slice a1 nl c1, .slice a2 nl c2] (eval2 e1 e2) ?_
          refine (H0D.out w' a1 c1 a2 c2 i1 i2).mono ?_
          rintro e2 w2 ⟨rfl, hb2⟩
          exact ⟨_, rfl, _, rfl, hb2, rfl⟩
        · intro vs w' F hb hd hF hl hT
          have ec := ((hF 82).trans (look_at _ 82 4 _ _ (by kernel_rfl) (by kernel_rfl) hl)).trans (dep_of (Fact := F_c10 W.heap.size nk ck ng cg ni ci mk dk mg dg mi di ak ag ai bk bg bi C DG nl LL) hd 4 (by kernel_rfl))
          have e := ((hF 87).trans (look_at _ 87 9 _ _ (by kernel_rfl) (by kernel_rfl) hl)).trans (dep_of (Fact := F_c10 W.heap.size nk ck ng cg ni ci mk dk mg dg mi di ak ag ai bk bg bi C DG nl LL) hd 9 (by kernel_rfl))
          exact one_pick_t _ _ _ rfl rfl _ ec e ⟨_, rfl, Below.refl _ _, rfl⟩
        · intro vs w' F hb hd hF hl hT
          have e := ((hF 88).trans (look_at _ 88 10 _ _ (by kernel_rfl) (by kernel_rfl) hl)).trans (dep_of (Fact := F_c10 W.heap.size nk ck ng cg ni ci mk dk mg dg mi di ak ag ai bk bg bi C DG nl LL) hd 10 (by kernel_rfl))
          exact one_move _ rfl (by first | exact Or.inl rfl | exact Or.inr rfl) ⟨_, rfl, Below.refl _ _, e⟩
        · intro vs w' F hb hd hF hl hT
          have eg := ((hF 89).trans (look_at _ 89 11 _ _ (by kernel_rfl) (by kernel_rfl) hl)).trans (dep_of (Fact := F_c10 W.heap.size nk ck ng cg ni ci mk dk mg dg mi di ak ag ai bk bg bi C DG nl LL) hd 11 (by kernel_rfl))
          refine wpList_on rfl (t := 89) (by kernel_rfl) eg ?_
          have e := (hF 2).trans (look_out _ 2 _ _ (by kernel_rfl))
          exact rg_load 26 _ rfl rfl (W.heap.size) (0) [.slice ak nk ck, .slice ag ng cg, .slice ai ni ci] e (CellsK.row (heap_below HRA.out hb)) _ Tryd.underlying26 rfl (by kernel_rfl) ⟨_, rfl, Below.refl _ _, rfl⟩
        · intro vs w' F hb hd hF hl hT
          have eg := ((hF 89).trans (look_at _ 89 11 _ _ (by kernel_rfl) (by kernel_rfl) hl)).trans (dep_of (Fact := F_c10 W.heap.size nk ck ng cg ni ci mk dk mg dg mi di ak ag ai bk bg bi C DG nl LL) hd 11 (by kernel_rfl))
          refine wpList_on rfl (t := 89) (by kernel_rfl) eg ?_
          have ea0 := ((hF 90).trans (look_at _ 90 12 _ _ (by kernel_rfl) (by kernel_rfl) hl)).trans (dep_of (Fact := F_c10 W.heap.size nk ck ng cg ni ci mk dk mg dg mi di ak ag ai bk bg bi C DG nl LL) hd 12 (by kernel_rfl))
          refine one_call _ _ rfl rfl (enters_of Tryd.func15 (by kernel_rfl) rfl) #[.agg #[.slice ak nk ck, .slice ag ng cg, .slice ai ni ci]] (eval1 ea0) ?_
          refine (H0F.out w' hb).mono ?_
          rintro e2 w2 ⟨rfl, hb2⟩
          exact ⟨_, rfl, _, rfl, hb2, rfl⟩
        · intro vs w' F hb hd hF hl hT
          have eg := ((hF 89).trans (look_at _ 89 11 _ _ (by kernel_rfl) (by kernel_rfl) hl)).trans (dep_of (Fact := F_c10 W.heap.size nk ck ng cg ni ci mk dk mg dg mi di ak ag ai bk bg bi C DG nl LL) hd 11 (by kernel_rfl))
          refine wpList_on rfl (t := 89) (by kernel_rfl) eg ?_
          have e := (hF 2).trans (look_out _ 2 _ _ (by kernel_rfl))
          exact rg_load 26 _ rfl rfl (W.heap.size) (0) [.slice ak nk ck, .slice ag ng cg, .slice ai ni ci] e (CellsK.row (heap_below HRA.out hb)) _ Tryd.underlying26 rfl (by kernel_rfl) ⟨_, rfl, Below.refl _ _, rfl⟩
        · intro vs w' F hb hd hF hl hT
          have eg := ((hF 89).trans (look_at _ 89 11 _ _ (by kernel_rfl) (by kernel_rfl) hl)).trans (dep_of (Fact := F_c10 W.heap.size nk ck ng cg ni ci mk dk mg dg mi di ak ag ai bk bg bi C DG nl LL) hd 11 (by kernel_rfl))
          refine wpList_on rfl (t := 89) (by kernel_rfl) eg ?_
          have e1 := (((hF 92).trans (look_at _ 92 14 _ _ (by kernel_rfl) (by kernel_rfl) hl)).trans (dep_of (Fact := F_c10 W.heap.size nk ck ng cg ni ci mk dk mg dg mi di ak ag ai bk bg bi C DG nl LL) hd 14 (by kernel_rfl)))
          refine one_call _ _ rfl rfl (enters_of Tryd.func14 (by kernel_rfl) rfl) #[.agg #[.slice ak nk ck, .slice ag ng cg, .slice ai ni ci]] (eval1 e1) ?_
          refine (H0C.out w' hb).mono ?_
          rintro e2 w2 ⟨⟨a2, c2, rfl, hu⟩, hb2⟩
          exact ⟨_, rfl, _, rfl, hb2, a2, c2, rfl, hu⟩
        · intro vs w' F hb hd hF hl hT
          have eg := ((hF 89).trans (look_at _ 89 11 _ _ (by kernel_rfl) (by kernel_rfl) hl)).trans (dep_of (Fact := F_c10 W.heap.size nk ck ng cg ni ci mk dk mg dg mi di ak ag ai bk bg bi C DG nl LL) hd 11 (by kernel_rfl))
          refine wpList_on rfl (t := 89) (by kernel_rfl) eg ?_
          obtain ⟨a1, c1, h1, i1⟩ := (dep_of (Fact := F_c10 W.heap.size nk ck ng cg ni ci mk dk mg dg mi di ak ag ai bk bg bi C DG nl LL) hd 15 (by kernel_rfl))
          have e1 := ((hF 93).trans (look_at _ 93 15 _ _ (by kernel_rfl) (by kernel_rfl) hl)).trans h1
          refine one_call _ _ rfl rfl (enters_of Tryd.func16 (by kernel_rfl) rfl) #[.slice a1 nl c1] (eval1 e1) ?_
          refine (H0E.out w' a1 c1 i1).mono ?_
          rintro e2 w2 ⟨rfl, hb2⟩
          exact ⟨_, rfl, _, rfl, hb2, rfl⟩
        · intro vs w' F hb hd hF hl hT
          have eg := ((hF 89).trans (look_at _ 89 11 _ _ (by kernel_rfl) (by kernel_rfl) hl)).trans (dep_of (Fact := F_c10 W.heap.size nk ck ng cg ni ci mk dk mg dg mi di ak ag ai bk bg bi C DG nl LL) hd 11 (by kernel_rfl))
          refine wpList_on rfl (t := 89) (by kernel_rfl) eg ?_
          have e1 := ((hF 91).trans (look_at _ 91 13 _ _ (by kernel_rfl) (by kernel_rfl) hl)).trans (dep_of (Fact := F_c10 W.heap.size nk ck ng cg ni ci mk dk mg dg mi di ak ag ai bk bg bi C DG nl LL) hd 13 (by kernel_rfl))
          have e2 := ((hF 94).trans (look_at _ 94 16 _ _ (by kernel_rfl) (by kernel_rfl) hl)).trans (dep_of (Fact := F_c10 W.heap.size nk ck ng cg ni ci mk dk mg dg mi di ak ag ai bk bg bi C DG nl LL) hd 16 (by kernel_rfl))
          exact rg_eql _ _ _ _ rfl rfl .u64 (DG) (DG) true e1 e2 (decide_eq_true (by omega)) ⟨_, rfl, Below.refl _ _, rfl⟩
        · intro vs w' F hb hd hF hl hT
          have ec := ((hF 89).trans (look_at _ 89 11 _ _ (by kernel_rfl) (by kernel_rfl) hl)).trans (dep_of (Fact := F_c10 W.heap.size nk ck ng cg ni ci mk dk mg dg mi di ak ag ai bk bg bi C DG nl LL) hd 11 (by kernel_rfl))
          have e := ((hF 95).trans (look_at _ 95 17 _ _ (by kernel_rfl) (by kernel_rfl) hl)).trans (dep_of (Fact := F_c10 W.heap.size nk ck ng cg ni ci mk dk mg dg mi di ak ag ai bk bg bi C DG nl LL) hd 17 (by kernel_rfl))
          exact one_pick_t _ _ _ rfl rfl _ ec e ⟨_, rfl, Below.refl _ _, rfl⟩
        · intro vs w' F hb hd hF hl hT
          have e := ((hF 96).trans (look_at _ 96 18 _ _ (by kernel_rfl) (by kernel_rfl) hl)).trans (dep_of (Fact := F_c10 W.heap.size nk ck ng cg ni ci mk dk mg dg mi di ak ag ai bk bg bi C DG nl LL) hd 18 (by kernel_rfl))
          exact one_move _ rfl (by first | exact Or.inl rfl | exact Or.inr rfl) ⟨_, rfl, Below.refl _ _, e⟩
      · intro vs8 W8 hl hb hI
        have i19 : vs8.getD 19 undef = .bool true := hI 19 (by omega)
        obtain ⟨x0, x1, x2, x3, x4, x5, x6, x7, x8, x9, x10, x11, x12, x13, x14, x15, x16, x17, x18, x19, hvs⟩ := list20 hl
        subst hvs
        replace i19 : x19 = .bool true := i19
        subst i19
        have HBE := Lib.hid (bt HB9.out hb)
        clear hI hl hb H0A H0B H0C H0D H0E H0F
        simp only [fillAll, Act.put, List.setIfInBounds_toArray, List.set_cons_succ, List.set_cons_zero]
        show wpList _ _ _ [] _ _
        go_wp2
        go_ret
        exact ⟨rfl, HBE.out⟩
  · have t2 : (K == 0) = false := by simpa using hK
    have t3 : (K != 0) = true := by simpa using hK
    have HS1 := Lib.hid (ref_SameWorld (newV y.kinds) ⟨[], [], []⟩ _ (.agg #[.slice none 0 0, .slice none 0 0, .slice none 0 0]) w7 HNV7.out (zero_in _) (newV_small HFY.out.kl) ⟨by simp, by simp, by simp, fun y hy => absurd hy (by simp)⟩)
    rw [newV_bad (fun h => hK (by rw [HK.out]; exact h))] at HS1
    go_wp2_with fail
    refine HS1.out.mono ?_
    rintro e w8 ⟨rfl, hb8⟩
    clear z0 n0 n1 n2 t1 HS1
    have HB8 := Lib.hid (bt HB7.out hb8)
    replace HRA := Lib.hid (heap_below HRA.out hb8)
    replace HRB := Lib.hid (heap_below HRB.out hb8)
    obtain ⟨T, hT⟩ : ∃ T, T = sameB y z := ⟨_, rfl⟩
    have H8A := Lib.hid (fun w' (hb : Below w8.heap.size w8 w') => world_Same y z _ _ w' (HU.out.below (bt HB8.out hb)) (HV.out.below (bt HB8.out hb)) HFY.out.small HFZ.out.small)
    have H8B := Lib.hid (fun w' (hb : Below w8.heap.size w8 w') => ref_SameWorld y z _ _ w' (HU.out.below (bt HB8.out hb)) (HV.out.below (bt HB8.out hb)) HFY.out.small HFZ.out.small)
    have H8C := Lib.hid (fun w' (hb : Below w8.heap.size w8 w') => world_Same y y _ _ w' (HU.out.below (bt HB8.out hb)) (HU.out.below (bt HB8.out hb)) HFY.out.small HFY.out.small)
    have H8D := Lib.hid (fun w' (hb : Below w8.heap.size w8 w') => (world_Copy y _ w' (HU.out.below (bt HB8.out hb)) HFY.out.small HFY.out.flds).mono (fun e w2 h => WCopyPost.world h HFY.out.kl))
    have H8E := Lib.hid (fun w' (hb : Below w8.heap.size w8 w') u (hu : WorldIn w' u y) => ref_SameWorld y y u _ w' hu (HU.out.below (bt HB8.out hb)) HFY.out.small HFY.out.small)
    rw [← hT] at H8A H8B
    rw [sameB_refl] at H8C H8E
    clear hb8 hT
    go_wp2_with fail
    refine wp_region_facts_t rfl 20 (by kernel_rfl) (F_c8 W.heap.size nk ck ng cg ni ci mk dk mg dg mi di ak ag ai bk bg bi y T) (F_c8_mono W.heap.size nk ck ng cg ni ci mk dk mg dg mi di ak ag ai bk bg bi y T) ?_ ?_
    · refine ⟨?_, ?_, ?_, ?_, ?_, ?_, ?_, ?_, ?_, ?_, ?_, ?_, ?_, ?_, ?_, ?_, ?_, ?_, ?_, ?_, trivial⟩
      · intro vs w' F hb hd hF hl hT
        have e := (hF 2).trans (look_out _ 2 _ _ (by kernel_rfl))
        exact rg_load 26 _ rfl rfl (W.heap.size) (0) [.slice ak nk ck, .slice ag ng cg, .slice ai ni ci] e (CellsK.row (heap_below HRA.out hb)) _ Tryd.underlying26 rfl (by kernel_rfl) ⟨_, rfl, Below.refl _ _, rfl⟩
      · intro vs w' F hb hd hF hl hT
        have e := (hF 3).trans (look_out _ 3 _ _ (by kernel_rfl))
        exact rg_load 26 _ rfl rfl (W.heap.size + 1) (0) [.slice bk mk dk, .slice bg mg dg, .slice bi mi di] e (CellsK.row (heap_below HRB.out hb)) _ Tryd.underlying26 rfl (by kernel_rfl) ⟨_, rfl, Below.refl _ _, rfl⟩
      · intro vs w' F hb hd hF hl hT
        have ea0 := ((hF 58).trans (look_at _ 58 0 _ _ (by kernel_rfl) (by kernel_rfl) hl)).trans (dep_of (Fact := F_c8 W.heap.size nk ck ng cg ni ci mk dk mg dg mi di ak ag ai bk bg bi y T) hd 0 (by kernel_rfl))
        have ea1 := ((hF 59).trans (look_at _ 59 1 _ _ (by kernel_rfl) (by kernel_rfl) hl)).trans (dep_of (Fact := F_c8 W.heap.size nk ck ng cg ni ci mk dk mg dg mi di ak ag ai bk bg bi y T) hd 1 (by kernel_rfl))
        refine one_call _ _ rfl rfl (enters_of Tryd.func11 (by kernel_rfl) rfl) #[.agg #[.slice ak nk ck, .slice ag ng cg, .slice ai ni ci], .agg #[.slice bk mk dk, .slice bg mg dg, .slice bi mi di]] (eval2 ea0 ea1) ?_
        refine (H8A.out w' hb).mono ?_
        rintro e2 w2 ⟨rfl, hb2⟩
        exact ⟨_, rfl, _, rfl, hb2, rfl⟩
      · intro vs w' F hb hd hF hl hT
        have e := (hF 2).trans (look_out _ 2 _ _ (by kernel_rfl))
        exact rg_load 26 _ rfl rfl (W.heap.size) (0) [.slice ak nk ck, .slice ag ng cg, .slice ai ni ci] e (CellsK.row (heap_below HRA.out hb)) _ Tryd.underlying26 rfl (by kernel_rfl) ⟨_, rfl, Below.refl _ _, rfl⟩
      · intro vs w' F hb hd hF hl hT
        have e := (hF 3).trans (look_out _ 3 _ _ (by kernel_rfl))
        exact rg_load 26 _ rfl rfl (W.heap.size + 1) (0) [.slice bk mk dk, .slice bg mg dg, .slice bi mi di] e (CellsK.row (heap_below HRB.out hb)) _ Tryd.underlying26 rfl (by kernel_rfl) ⟨_, rfl, Below.refl _ _, rfl⟩
      · intro vs w' F hb hd hF hl hT
        have ea0 := ((hF 61).trans (look_at _ 61 3 _ _ (by kernel_rfl) (by kernel_rfl) hl)).trans (dep_of (Fact := F_c8 W.heap.size nk ck ng cg ni ci mk dk mg dg mi di ak ag ai bk bg bi y T) hd 3 (by kernel_rfl))
        have ea1 := ((hF 62).trans (look_at _ 62 4 _ _ (by kernel_rfl) (by kernel_rfl) hl)).trans (dep_of (Fact := F_c8 W.heap.size nk ck ng cg ni ci mk dk mg dg mi di ak ag ai bk bg bi y T) hd 4 (by kernel_rfl))
        refine one_call _ _ rfl rfl (enters_of Tryd.func10 (by kernel_rfl) rfl) #[.agg #[.slice ak nk ck, .slice ag ng cg, .slice ai ni ci], .agg #[.slice bk mk dk, .slice bg mg dg, .slice bi mi di]] (eval2 ea0 ea1) ?_
        refine (H8B.out w' hb).mono ?_
        rintro e2 w2 ⟨rfl, hb2⟩
        exact ⟨_, rfl, _, rfl, hb2, rfl⟩
      · intro vs w' F hb hd hF hl hT
        have e1 := ((hF 60).trans (look_at _ 60 2 _ _ (by kernel_rfl) (by kernel_rfl) hl)).trans (dep_of (Fact := F_c8 W.heap.size nk ck ng cg ni ci mk dk mg dg mi di ak ag ai bk bg bi y T) hd 2 (by kernel_rfl))
        have e2 := ((hF 63).trans (look_at _ 63 5 _ _ (by kernel_rfl) (by kernel_rfl) hl)).trans (dep_of (Fact := F_c8 W.heap.size nk ck ng cg ni ci mk dk mg dg mi di ak ag ai bk bg bi y T) hd 5 (by kernel_rfl))
        exact one_bool_ne _ _ _ _ rfl rfl (by kernel_rfl) _ _ false e1 e2 (bne_self_eq_false _) ⟨_, rfl, Below.refl _ _, rfl⟩
      · intro vs w' F hb hd hF hl hT
        have e := ((hF 64).trans (look_at _ 64 6 _ _ (by kernel_rfl) (by kernel_rfl) hl)).trans (dep_of (Fact := F_c8 W.heap.size nk ck ng cg ni ci mk dk mg dg mi di ak ag ai bk bg bi y T) hd 6 (by kernel_rfl))
        exact one_move _ rfl (by first | exact Or.inl rfl | exact Or.inr rfl) ⟨_, rfl, Below.refl _ _, e⟩
      · intro vs w' F hb hd hF hl hT
        have eg := ((hF 65).trans (look_at _ 65 7 _ _ (by kernel_rfl) (by kernel_rfl) hl)).trans (dep_of (Fact := F_c8 W.heap.size nk ck ng cg ni ci mk dk mg dg mi di ak ag ai bk bg bi y T) hd 7 (by kernel_rfl))
        refine wpList_on rfl (t := 65) (by kernel_rfl) eg ?_
        have e := (hF 2).trans (look_out _ 2 _ _ (by kernel_rfl))
        exact rg_load 26 _ rfl rfl (W.heap.size) (0) [.slice ak nk ck, .slice ag ng cg, .slice ai ni ci] e (CellsK.row (heap_below HRA.out hb)) _ Tryd.underlying26 rfl (by kernel_rfl) ⟨_, rfl, Below.refl _ _, rfl⟩
      · intro vs w' F hb hd hF hl hT
        have eg := ((hF 65).trans (look_at _ 65 7 _ _ (by kernel_rfl) (by kernel_rfl) hl)).trans (dep_of (Fact := F_c8 W.heap.size nk ck ng cg ni ci mk dk mg dg mi di ak ag ai bk bg bi y T) hd 7 (by kernel_rfl))
        refine wpList_on rfl (t := 65) (by kernel_rfl) eg ?_
        have e := (hF 2).trans (look_out _ 2 _ _ (by kernel_rfl))
        exact rg_load 26 _ rfl rfl (W.heap.size) (0) [.slice ak nk ck, .slice ag ng cg, .slice ai ni ci] e (CellsK.row (heap_below HRA.out hb)) _ Tryd.underlying26 rfl (by kernel_rfl) ⟨_, rfl, Below.refl _ _, rfl⟩
      · intro vs w' F hb hd hF hl hT
        have eg := ((hF 65).trans (look_at _ 65 7 _ _ (by kernel_rfl) (by kernel_rfl) hl)).trans (dep_of (Fact := F_c8 W.heap.size nk ck ng cg ni ci mk dk mg dg mi di ak ag ai bk bg bi y T) hd 7 (by kernel_rfl))
        refine wpList_on rfl (t := 65) (by kernel_rfl) eg ?_
        have ea0 := ((hF 66).trans (look_at _ 66 8 _ _ (by kernel_rfl) (by kernel_rfl) hl)).trans (dep_of (Fact := F_c8 W.heap.size nk ck ng cg ni ci mk dk mg dg mi di ak ag ai bk bg bi y T) hd 8 (by kernel_rfl))
        have ea1 := ((hF 67).trans (look_at _ 67 9 _ _ (by kernel_rfl) (by kernel_rfl) hl)).trans (dep_of (Fact := F_c8 W.heap.size nk ck ng cg ni ci mk dk mg dg mi di ak ag ai bk bg bi y T) hd 9 (by kernel_rfl))
        refine one_call _ _ rfl rfl (enters_of Tryd.func11 (by kernel_rfl) rfl) #[.agg #[.slice ak nk ck, .slice ag ng cg, .slice ai ni ci], .agg #[.slice ak nk ck, .slice ag ng cg, .slice ai ni ci]] (eval2 ea0 ea1) ?_
        refine (H8C.out w' hb).mono ?_
        rintro e2 w2 ⟨rfl, hb2⟩
        exact ⟨_, rfl, _, rfl, hb2, rfl⟩
      · intro vs w' F hb hd hF hl hT
        have eg := ((hF 65).trans (look_at _ 65 7 _ _ (by kernel_rfl) (by kernel_rfl) hl)).trans (dep_of (Fact := F_c8 W.heap.size nk ck ng cg ni ci mk dk mg dg mi di ak ag ai bk bg bi y T) hd 7 (by kernel_rfl))
        refine wpList_on rfl (t := 65) (by kernel_rfl) eg ?_
        have e := ((hF 68).trans (look_at _ 68 10 _ _ (by kernel_rfl) (by kernel_rfl) hl)).trans (dep_of (Fact := F_c8 W.heap.size nk ck ng cg ni ci mk dk mg dg mi di ak ag ai bk bg bi y T) hd 10 (by kernel_rfl))
        exact one_not _ _ rfl rfl _ false e rfl ⟨_, rfl, Below.refl _ _, rfl⟩
      · intro vs w' F hb hd hF hl hT
        have ec := ((hF 65).trans (look_at _ 65 7 _ _ (by kernel_rfl) (by kernel_rfl) hl)).trans (dep_of (Fact := F_c8 W.heap.size nk ck ng cg ni ci mk dk mg dg mi di ak ag ai bk bg bi y T) hd 7 (by kernel_rfl))
        have e := ((hF 69).trans (look_at _ 69 11 _ _ (by kernel_rfl) (by kernel_rfl) hl)).trans (dep_of (Fact := F_c8 W.heap.size nk ck ng cg ni ci mk dk mg dg mi di ak ag ai bk bg bi y T) hd 11 (by kernel_rfl))
        exact one_pick_f _ _ _ rfl rfl _ ec e ⟨_, rfl, Below.refl _ _, rfl⟩
      · intro vs w' F hb hd hF hl hT
        have e := ((hF 70).trans (look_at _ 70 12 _ _ (by kernel_rfl) (by kernel_rfl) hl)).trans (dep_of (Fact := F_c8 W.heap.size nk ck ng cg ni ci mk dk mg dg mi di ak ag ai bk bg bi y T) hd 12 (by kernel_rfl))
        exact one_move _ rfl (by first | exact Or.inl rfl | exact Or.inr rfl) ⟨_, rfl, Below.refl _ _, e⟩
      · intro vs w' F hb hd hF hl hT
        have eg := ((hF 71).trans (look_at _ 71 13 _ _ (by kernel_rfl) (by kernel_rfl) hl)).trans (dep_of (Fact := F_c8 W.heap.size nk ck ng cg ni ci mk dk mg dg mi di ak ag ai bk bg bi y T) hd 13 (by kernel_rfl))
        refine wpList_on rfl (t := 71) (by kernel_rfl) eg ?_
        have e := (hF 2).trans (look_out _ 2 _ _ (by kernel_rfl))
        exact rg_load 26 _ rfl rfl (W.heap.size) (0) [.slice ak nk ck, .slice ag ng cg, .slice ai ni ci] e (CellsK.row (heap_below HRA.out hb)) _ Tryd.underlying26 rfl (by kernel_rfl) ⟨_, rfl, Below.refl _ _, rfl⟩
      · intro vs w' F hb hd hF hl hT
        have eg := ((hF 71).trans (look_at _ 71 13 _ _ (by kernel_rfl) (by kernel_rfl) hl)).trans (dep_of (Fact := F_c8 W.heap.size nk ck ng cg ni ci mk dk mg dg mi di ak ag ai bk bg bi y T) hd 13 (by kernel_rfl))
        refine wpList_on rfl (t := 71) (by kernel_rfl) eg ?_
        have e1 := (((hF 72).trans (look_at _ 72 14 _ _ (by kernel_rfl) (by kernel_rfl) hl)).trans (dep_of (Fact := F_c8 W.heap.size nk ck ng cg ni ci mk dk mg dg mi di ak ag ai bk bg bi y T) hd 14 (by kernel_rfl)))
        refine one_call _ _ rfl rfl (enters_of Tryd.func12 (by kernel_rfl) rfl) #[.agg #[.slice ak nk ck, .slice ag ng cg, .slice ai ni ci]] (eval1 e1) ?_
        refine (H8D.out w' hb).mono ?_
        rintro e2 w2 ⟨⟨u2, rfl, hu⟩, hb2⟩
        exact ⟨_, rfl, _, rfl, hb2, hu⟩
      · intro vs w' F hb hd hF hl hT
        have eg := ((hF 71).trans (look_at _ 71 13 _ _ (by kernel_rfl) (by kernel_rfl) hl)).trans (dep_of (Fact := F_c8 W.heap.size nk ck ng cg ni ci mk dk mg dg mi di ak ag ai bk bg bi y T) hd 13 (by kernel_rfl))
        refine wpList_on rfl (t := 71) (by kernel_rfl) eg ?_
        have e := (hF 2).trans (look_out _ 2 _ _ (by kernel_rfl))
        exact rg_load 26 _ rfl rfl (W.heap.size) (0) [.slice ak nk ck, .slice ag ng cg, .slice ai ni ci] e (CellsK.row (heap_below HRA.out hb)) _ Tryd.underlying26 rfl (by kernel_rfl) ⟨_, rfl, Below.refl _ _, rfl⟩
      · intro vs w' F hb hd hF hl hT
        have eg := ((hF 71).trans (look_at _ 71 13 _ _ (by kernel_rfl) (by kernel_rfl) hl)).trans (dep_of (Fact := F_c8 W.heap.size nk ck ng cg ni ci mk dk mg dg mi di ak ag ai bk bg bi y T) hd 13 (by kernel_rfl))
        refine wpList_on rfl (t := 71) (by kernel_rfl) eg ?_
        have hw := (dep_of (Fact := F_c8 W.heap.size nk ck ng cg ni ci mk dk mg dg mi di ak ag ai bk bg bi y T) hd 15 (by kernel_rfl))
        have e1 := ((hF 73).trans (look_at _ 73 15 _ _ (by kernel_rfl) (by kernel_rfl) hl))
        have e2 := (((hF 74).trans (look_at _ 74 16 _ _ (by kernel_rfl) (by kernel_rfl) hl)).trans (dep_of (Fact := F_c8 W.heap.size nk ck ng cg ni ci mk dk mg dg mi di ak ag ai bk bg bi y T) hd 16 (by kernel_rfl)))
        refine one_call _ _ rfl rfl (enters_of Tryd.func10 (by kernel_rfl) rfl) #[vs.getD 15 undef, .agg #[.slice ak nk ck, .slice ag ng cg, .slice ai ni ci]] (eval2 e1 e2) ?_
        refine (H8E.out w' hb _ hw).mono ?_
        rintro e2 w2 ⟨rfl, hb2⟩
        exact ⟨_, rfl, _, rfl, hb2, rfl⟩
      · intro vs w' F hb hd hF hl hT
        have eg := ((hF 71).trans (look_at _ 71 13 _ _ (by kernel_rfl) (by kernel_rfl) hl)).trans (dep_of (Fact := F_c8 W.heap.size nk ck ng cg ni ci mk dk mg dg mi di ak ag ai bk bg bi y T) hd 13 (by kernel_rfl))
        refine wpList_on rfl (t := 71) (by kernel_rfl) eg ?_
        have e := ((hF 75).trans (look_at _ 75 17 _ _ (by kernel_rfl) (by kernel_rfl) hl)).trans (dep_of (Fact := F_c8 W.heap.size nk ck ng cg ni ci mk dk mg dg mi di ak ag ai bk bg bi y T) hd 17 (by kernel_rfl))
        exact one_not _ _ rfl rfl _ false e rfl ⟨_, rfl, Below.refl _ _, rfl⟩
      · intro vs w' F hb hd hF hl hT
        have ec := ((hF 71).trans (look_at _ 71 13 _ _ (by kernel_rfl) (by kernel_rfl) hl)).trans (dep_of (Fact := F_c8 W.heap.size nk ck ng cg ni ci mk dk mg dg mi di ak ag ai bk bg bi y T) hd 13 (by kernel_rfl))
        have e := ((hF 76).trans (look_at _ 76 18 _ _ (by kernel_rfl) (by kernel_rfl) hl)).trans (dep_of (Fact := F_c8 W.heap.size nk ck ng cg ni ci mk dk mg dg mi di ak ag ai bk bg bi y T) hd 18 (by kernel_rfl))
        exact one_pick_f _ _ _ rfl rfl _ ec e ⟨_, rfl, Below.refl _ _, rfl⟩
    · intro vs8 W8 hl hb hI
      have i19 : vs8.getD 19 undef = .bool false := hI 19 (by omega)
      obtain ⟨x0, x1, x2, x3, x4, x5, x6, x7, x8, x9, x10, x11, x12, x13, x14, x15, x16, x17, x18, x19, hvs⟩ := list20 hl
      subst hvs
      replace i19 : x19 = .bool false := i19
      subst i19
      obtain ⟨W9, hW9⟩ : ∃ W9, W9 = W8 := ⟨_, rfl⟩
      subst hW9
      have HB9 := Lib.hid (bt HB8.out hb)
      replace HRA := Lib.hid (heap_below HRA.out hb)
      clear hI hl hb H8A H8B H8C H8D H8E HB8 HRB
      simp only [fillAll, Act.put, List.setIfInBounds_toArray, List.set_cons_succ, List.set_cons_zero]
      show wpList _ _ _ [] _ _
      have H0A := Lib.hid (fun w' (hb : Below W9.heap.size W9 w') => world_Check y _ w' (HU.out.below (bt HB9.out hb)) HFY.out.small)
      rw [← HC.out] at H0A
      obtain ⟨LL, hLL⟩ : ∃ L, L = intsW y := ⟨_, rfl⟩
      obtain ⟨nl, hnl⟩ : ∃ n, n = LL.length := ⟨_, rfl⟩
      obtain ⟨DG, hDG⟩ : ∃ D : Int, D = (dig LL : Nat) := ⟨_, rfl⟩
      have hll : LL.length ≤ 4000000 := by rw [hLL]; exact HFY.out.tot
      have H0B := Lib.hid (fun w' (hb : Below W9.heap.size W9 w') => world_Ints y _ w' (HU.out.below (bt HB9.out hb)) HFY.out)
      have H0C := Lib.hid (fun w' (hb : Below W9.heap.size W9 w') => ref_Described y _ w' (HU.out.below (bt HB9.out hb)) HFY.out)
      have H0F := Lib.hid (fun w' (hb : Below W9.heap.size W9 w') => world_Digest y _ w' (HU.out.below (bt HB9.out hb)) HFY.out (by have := HFY.out.tot; omega))
      have H0D := Lib.hid (fun w' a1 c1 a2 c2 (i1 : IntsAt .i64 w' a1 LL) (i2 : IntsAt .i64 w' a2 LL) => eq_intsN a1 a2 c1 c2 nl nl LL LL hnl.symm hnl.symm (by omega) (by omega) w' i1 i2)
      have H0E := Lib.hid (fun w' a1 c1 (i1 : IntsAt .i64 w' a1 LL) => sum_Ints a1 c1 LL (by omega) w' i1)
      rw [← hLL] at H0B H0C H0F
      rw [← hnl] at H0B H0C H0E
      rw [← hDG] at H0E H0F
      rw [decide_eq_true rfl] at H0D
      clear hLL hnl hDG hll
      go_wp2_with fail
      refine wp_region_facts_t rfl 20 (by kernel_rfl) (F_c10 W.heap.size nk ck ng cg ni ci mk dk mg dg mi di ak ag ai bk bg bi C DG nl LL) (F_c10_mono W.heap.size nk ck ng cg ni ci mk dk mg dg mi di ak ag ai bk bg bi C DG nl LL) ?_ ?_
      · refine ⟨?_, ?_, ?_, ?_, ?_, ?_, ?_, ?_, ?_, ?_, ?_, ?_, ?_, ?_, ?_, ?_, ?_, ?_, ?_, ?_, trivial⟩
        · intro vs w' F hb hd hF hl hT
          have e := (hF 2).trans (look_out _ 2 _ _ (by kernel_rfl))
          exact rg_load 26 _ rfl rfl (W.heap.size) (0) [.slice ak nk ck, .slice ag ng cg, .slice ai ni ci] e (CellsK.row (heap_below HRA.out hb)) _ Tryd.underlying26 rfl (by kernel_rfl) ⟨_, rfl, Below.refl _ _, rfl⟩
        · intro vs w' F hb hd hF hl hT
          have ea0 := ((hF 78).trans (look_at _ 78 0 _ _ (by kernel_rfl) (by kernel_rfl) hl)).trans (dep_of (Fact := F_c10 W.heap.size nk ck ng cg ni ci mk dk mg dg mi di ak ag ai bk bg bi C DG nl LL) hd 0 (by kernel_rfl))
          refine one_call _ _ rfl rfl (enters_of Tryd.func4 (by kernel_rfl) rfl) #[.agg #[.slice ak nk ck, .slice ag ng cg, .slice ai ni ci]] (eval1 ea0) ?_
          refine (H0A.out w' hb).mono ?_
          rintro e2 w2 ⟨rfl, hb2⟩
          exact ⟨_, rfl, _, rfl, hb2, rfl⟩
        · intro vs w' F hb hd hF hl hT
          have e := (hF 6).trans (look_out _ 6 _ _ (by kernel_rfl))
          exact one_move _ rfl (by first | exact Or.inl rfl | exact Or.inr rfl) ⟨_, rfl, Below.refl _ _, e⟩
        · intro vs w' F hb hd hF hl hT
          have e1 := ((hF 79).trans (look_at _ 79 1 _ _ (by kernel_rfl) (by kernel_rfl) hl)).trans (dep_of (Fact := F_c10 W.heap.size nk ck ng cg ni ci mk dk mg dg mi di ak ag ai bk bg bi C DG nl LL) hd 1 (by kernel_rfl))
          have e2 := ((hF 80).trans (look_at _ 80 2 _ _ (by kernel_rfl) (by kernel_rfl) hl)).trans (dep_of (Fact := F_c10 W.heap.size nk ck ng cg ni ci mk dk mg dg mi di ak ag ai bk bg bi C DG nl LL) hd 2 (by kernel_rfl))
          exact rg_eql _ _ _ _ rfl rfl .i64 (C) (C) true e1 e2 (decide_eq_true (by omega)) ⟨_, rfl, Below.refl _ _, rfl⟩
        · intro vs w' F hb hd hF hl hT
          have e := ((hF 81).trans (look_at _ 81 3 _ _ (by kernel_rfl) (by kernel_rfl) hl)).trans (dep_of (Fact := F_c10 W.heap.size nk ck ng cg ni ci mk dk mg dg mi di ak ag ai bk bg bi C DG nl LL) hd 3 (by kernel_rfl))
          exact one_move _ rfl (by first | exact Or.inl rfl | exact Or.inr rfl) ⟨_, rfl, Below.refl _ _, e⟩
        · intro vs w' F hb hd hF hl hT
          have eg := ((hF 82).trans (look_at _ 82 4 _ _ (by kernel_rfl) (by kernel_rfl) hl)).trans (dep_of (Fact := F_c10 W.heap.size nk ck ng cg ni ci mk dk mg dg mi di ak ag ai bk bg bi C DG nl LL) hd 4 (by kernel_rfl))
          refine wpList_on rfl (t := 82) (by kernel_rfl) eg ?_
          have e := (hF 2).trans (look_out _ 2 _ _ (by kernel_rfl))
          exact rg_load 26 _ rfl rfl (W.heap.size) (0) [.slice ak nk ck, .slice ag ng cg, .slice ai ni ci] e (CellsK.row (heap_below HRA.out hb)) _ Tryd.underlying26 rfl (by kernel_rfl) ⟨_, rfl, Below.refl _ _, rfl⟩
        · intro vs w' F hb hd hF hl hT
          have eg := ((hF 82).trans (look_at _ 82 4 _ _ (by kernel_rfl) (by kernel_rfl) hl)).trans (dep_of (Fact := F_c10 W.heap.size nk ck ng cg ni ci mk dk mg dg mi di ak ag ai bk bg bi C DG nl LL) hd 4 (by kernel_rfl))
          refine wpList_on rfl (t := 82) (by kernel_rfl) eg ?_
          have e1 := (((hF 83).trans (look_at _ 83 5 _ _ (by kernel_rfl) (by kernel_rfl) hl)).trans (dep_of (Fact := F_c10 W.heap.size nk ck ng cg ni ci mk dk mg dg mi di ak ag ai bk bg bi C DG nl LL) hd 5 (by kernel_rfl)))
          refine one_call _ _ rfl rfl (enters_of Tryd.func6 (by kernel_rfl) rfl) #[.agg #[.slice ak nk ck, .slice ag ng cg, .slice ai ni ci]] (eval1 e1) ?_
          refine (H0B.out w' hb).mono ?_
          rintro e2 w2 ⟨⟨a2, c2, rfl, hu⟩, hb2⟩
          exact ⟨_, rfl, _, rfl, hb2, a2, c2, rfl, hu⟩
        · intro vs w' F hb hd hF hl hT
          have eg := ((hF 82).trans (look_at _ 82 4 _ _ (by kernel_rfl) (by kernel_rfl) hl)).trans (dep_of (Fact := F_c10 W.heap.size nk ck ng cg ni ci mk dk mg dg mi di ak ag ai bk bg bi C DG nl LL) hd 4 (by kernel_rfl))
          refine wpList_on rfl (t := 82) (by kernel_rfl) eg ?_
          have e := (hF 2).trans (look_out _ 2 _ _ (by kernel_rfl))
          exact rg_load 26 _ rfl rfl (W.heap.size) (0) [.slice ak nk ck, .slice ag ng cg, .slice ai ni ci] e (CellsK.row (heap_below HRA.out hb)) _ Tryd.underlying26 rfl (by kernel_rfl) ⟨_, rfl, Below.refl _ _, rfl⟩
        · intro vs w' F hb hd hF hl hT
          have eg := ((hF 82).trans (look_at _ 82 4 _ _ (by kernel_rfl) (by kernel_rfl) hl)).trans (dep_of (Fact := F_c10 W.heap.size nk ck ng cg ni ci mk dk mg dg mi di ak ag ai bk bg bi C DG nl LL) hd 4 (by kernel_rfl))
          refine wpList_on rfl (t := 82) (by kernel_rfl) eg ?_
          have e1 := (((hF 85).trans (look_at _ 85 7 _ _ (by kernel_rfl) (by kernel_rfl) hl)).trans (dep_of (Fact := F_c10 W.heap.size nk ck ng cg ni ci mk dk mg dg mi di ak ag ai bk bg bi C DG nl LL) hd 7 (by kernel_rfl)))
          refine one_call _ _ rfl rfl (enters_of Tryd.func14 (by kernel_rfl) rfl) #[.agg #[.slice ak nk ck, .slice ag ng cg, .slice ai ni ci]] (eval1 e1) ?_
          refine (H0C.out w' hb).mono ?_
          rintro e2 w2 ⟨⟨a2, c2, rfl, hu⟩, hb2⟩
          exact ⟨_, rfl, _, rfl, hb2, a2, c2, rfl, hu⟩
        · intro vs w' F hb hd hF hl hT
          have eg := ((hF 82).trans (look_at _ 82 4 _ _ (by kernel_rfl) (by kernel_rfl) hl)).trans (dep_of (Fact := F_c10 W.heap.size nk ck ng cg ni ci mk dk mg dg mi di ak ag ai bk bg bi C DG nl LL) hd 4 (by kernel_rfl))
          refine wpList_on rfl (t := 82) (by kernel_rfl) eg ?_
          obtain ⟨a1, c1, h1, i1⟩ := (dep_of (Fact := F_c10 W.heap.size nk ck ng cg ni ci mk dk mg dg mi di ak ag ai bk bg bi C DG nl LL) hd 6 (by kernel_rfl))
          obtain ⟨a2, c2, h2, i2⟩ := (dep_of (Fact := F_c10 W.heap.size nk ck ng cg ni ci mk dk mg dg mi di ak ag ai bk bg bi C DG nl LL) hd 8 (by kernel_rfl))
          have e1 := ((hF 84).trans (look_at _ 84 6 _ _ (by kernel_rfl) (by kernel_rfl) hl)).trans h1
          have e2 := ((hF 86).trans (look_at _ 86 8 _ _ (by kernel_rfl) (by kernel_rfl) hl)).trans h2
          refine one_call _ _ rfl rfl (enters_of Tryd.func13 (by kernel_rfl) rfl) #[.slice a1 nl c1, .slice a2 nl c2] (eval2 e1 e2) ?_
          refine (H0D.out w' a1 c1 a2 c2 i1 i2).mono ?_
          rintro e2 w2 ⟨rfl, hb2⟩
          exact ⟨_, rfl, _, rfl, hb2, rfl⟩
        · intro vs w' F hb hd hF hl hT
          have ec := ((hF 82).trans (look_at _ 82 4 _ _ (by kernel_rfl) (by kernel_rfl) hl)).trans (dep_of (Fact := F_c10 W.heap.size nk ck ng cg ni ci mk dk mg dg mi di ak ag ai bk bg bi C DG nl LL) hd 4 (by kernel_rfl))
          have e := ((hF 87).trans (look_at _ 87 9 _ _ (by kernel_rfl) (by kernel_rfl) hl)).trans (dep_of (Fact := F_c10 W.heap.size nk ck ng cg ni ci mk dk mg dg mi di ak ag ai bk bg bi C DG nl LL) hd 9 (by kernel_rfl))
          exact one_pick_t _ _ _ rfl rfl _ ec e ⟨_, rfl, Below.refl _ _, rfl⟩
        · intro vs w' F hb hd hF hl hT
          have e := ((hF 88).trans (look_at _ 88 10 _ _ (by kernel_rfl) (by kernel_rfl) hl)).trans (dep_of (Fact := F_c10 W.heap.size nk ck ng cg ni ci mk dk mg dg mi di ak ag ai bk bg bi C DG nl LL) hd 10 (by kernel_rfl))
          exact one_move _ rfl (by first | exact Or.inl rfl | exact Or.inr rfl) ⟨_, rfl, Below.refl _ _, e⟩
        · intro vs w' F hb hd hF hl hT
          have eg := ((hF 89).trans (look_at _ 89 11 _ _ (by kernel_rfl) (by kernel_rfl) hl)).trans (dep_of (Fact := F_c10 W.heap.size nk ck ng cg ni ci mk dk mg dg mi di ak ag ai bk bg bi C DG nl LL) hd 11 (by kernel_rfl))
          refine wpList_on rfl (t := 89) (by kernel_rfl) eg ?_
          have e := (hF 2).trans (look_out _ 2 _ _ (by kernel_rfl))
          exact rg_load 26 _ rfl rfl (W.heap.size) (0) [.slice ak nk ck, .slice ag ng cg, .slice ai ni ci] e (CellsK.row (heap_below HRA.out hb)) _ Tryd.underlying26 rfl (by kernel_rfl) ⟨_, rfl, Below.refl _ _, rfl⟩
        · intro vs w' F hb hd hF hl hT
          have eg := ((hF 89).trans (look_at _ 89 11 _ _ (by kernel_rfl) (by kernel_rfl) hl)).trans (dep_of (Fact := F_c10 W.heap.size nk ck ng cg ni ci mk dk mg dg mi di ak ag ai bk bg bi C DG nl LL) hd 11 (by kernel_rfl))
          refine wpList_on rfl (t := 89) (by kernel_rfl) eg ?_
          have ea0 := ((hF 90).trans (look_at _ 90 12 _ _ (by kernel_rfl) (by kernel_rfl) hl)).trans (dep_of (Fact := F_c10 W.heap.size nk ck ng cg ni ci mk dk mg dg mi di ak ag ai bk bg bi C DG nl LL) hd 12 (by kernel_rfl))
          refine one_call _ _ rfl rfl (enters_of Tryd.func15 (by kernel_rfl) rfl) #[.agg #[.slice ak nk ck, .slice ag ng cg, .slice ai ni ci]] (eval1 ea0) ?_
          refine (H0F.out w' hb).mono ?_
          rintro e2 w2 ⟨rfl, hb2⟩
          exact ⟨_, rfl, _, rfl, hb2, rfl⟩
        · intro vs w' F hb hd hF hl hT
          have eg := ((hF 89).trans (look_at _ 89 11 _ _ (by kernel_rfl) (by kernel_rfl) hl)).trans (dep_of (Fact := F_c10 W.heap.size nk ck ng cg ni ci mk dk mg dg mi di ak ag ai bk bg bi C DG nl LL) hd 11 (by kernel_rfl))
          refine wpList_on rfl (t := 89) (by kernel_rfl) eg ?_
          have e := (hF 2).trans (look_out _ 2 _ _ (by kernel_rfl))
          exact rg_load 26 _ rfl rfl (W.heap.size) (0) [.slice ak nk ck, .slice ag ng cg, .slice ai ni ci] e (CellsK.row (heap_below HRA.out hb)) _ Tryd.underlying26 rfl (by kernel_rfl) ⟨_, rfl, Below.refl _ _, rfl⟩
        · intro vs w' F hb hd hF hl hT
          have eg := ((hF 89).trans (look_at _ 89 11 _ _ (by kernel_rfl) (by kernel_rfl) hl)).trans (dep_of (Fact := F_c10 W.heap.size nk ck ng cg ni ci mk dk mg dg mi di ak ag ai bk bg bi C DG nl LL) hd 11 (by kernel_rfl))
          refine wpList_on rfl (t := 89) (by kernel_rfl) eg ?_
          have e1 := (((hF 92).trans (look_at _ 92 14 _ _ (by kernel_rfl) (by kernel_rfl) hl)).trans (dep_of (Fact := F_c10 W.heap.size nk ck ng cg ni ci mk dk mg dg mi di ak ag ai bk bg bi C DG nl LL) hd 14 (by kernel_rfl)))
          refine one_call _ _ rfl rfl (enters_of Tryd.func14 (by kernel_rfl) rfl) #[.agg #[.slice ak nk ck, .slice ag ng cg, .slice ai ni ci]] (eval1 e1) ?_
          refine (H0C.out w' hb).mono ?_
          rintro e2 w2 ⟨⟨a2, c2, rfl, hu⟩, hb2⟩
          exact ⟨_, rfl, _, rfl, hb2, a2, c2, rfl, hu⟩
        · intro vs w' F hb hd hF hl hT
          have eg := ((hF 89).trans (look_at _ 89 11 _ _ (by kernel_rfl) (by kernel_rfl) hl)).trans (dep_of (Fact := F_c10 W.heap.size nk ck ng cg ni ci mk dk mg dg mi di ak ag ai bk bg bi C DG nl LL) hd 11 (by kernel_rfl))
          refine wpList_on rfl (t := 89) (by kernel_rfl) eg ?_
          obtain ⟨a1, c1, h1, i1⟩ := (dep_of (Fact := F_c10 W.heap.size nk ck ng cg ni ci mk dk mg dg mi di ak ag ai bk bg bi C DG nl LL) hd 15 (by kernel_rfl))
          have e1 := ((hF 93).trans (look_at _ 93 15 _ _ (by kernel_rfl) (by kernel_rfl) hl)).trans h1
          refine one_call _ _ rfl rfl (enters_of Tryd.func16 (by kernel_rfl) rfl) #[.slice a1 nl c1] (eval1 e1) ?_
          refine (H0E.out w' a1 c1 i1).mono ?_
          rintro e2 w2 ⟨rfl, hb2⟩
          exact ⟨_, rfl, _, rfl, hb2, rfl⟩
        · intro vs w' F hb hd hF hl hT
          have eg := ((hF 89).trans (look_at _ 89 11 _ _ (by kernel_rfl) (by kernel_rfl) hl)).trans (dep_of (Fact := F_c10 W.heap.size nk ck ng cg ni ci mk dk mg dg mi di ak ag ai bk bg bi C DG nl LL) hd 11 (by kernel_rfl))
          refine wpList_on rfl (t := 89) (by kernel_rfl) eg ?_
          have e1 := ((hF 91).trans (look_at _ 91 13 _ _ (by kernel_rfl) (by kernel_rfl) hl)).trans (dep_of (Fact := F_c10 W.heap.size nk ck ng cg ni ci mk dk mg dg mi di ak ag ai bk bg bi C DG nl LL) hd 13 (by kernel_rfl))
          have e2 := ((hF 94).trans (look_at _ 94 16 _ _ (by kernel_rfl) (by kernel_rfl) hl)).trans (dep_of (Fact := F_c10 W.heap.size nk ck ng cg ni ci mk dk mg dg mi di ak ag ai bk bg bi C DG nl LL) hd 16 (by kernel_rfl))
          exact rg_eql _ _ _ _ rfl rfl .u64 (DG) (DG) true e1 e2 (decide_eq_true (by omega)) ⟨_, rfl, Below.refl _ _, rfl⟩
        · intro vs w' F hb hd hF hl hT
          have ec := ((hF 89).trans (look_at _ 89 11 _ _ (by kernel_rfl) (by kernel_rfl) hl)).trans (dep_of (Fact := F_c10 W.heap.size nk ck ng cg ni ci mk dk mg dg mi di ak ag ai bk bg bi C DG nl LL) hd 11 (by kernel_rfl))
          have e := ((hF 95).trans (look_at _ 95 17 _ _ (by kernel_rfl) (by kernel_rfl) hl)).trans (dep_of (Fact := F_c10 W.heap.size nk ck ng cg ni ci mk dk mg dg mi di ak ag ai bk bg bi C DG nl LL) hd 17 (by kernel_rfl))
          exact one_pick_t _ _ _ rfl rfl _ ec e ⟨_, rfl, Below.refl _ _, rfl⟩
        · intro vs w' F hb hd hF hl hT
          have e := ((hF 96).trans (look_at _ 96 18 _ _ (by kernel_rfl) (by kernel_rfl) hl)).trans (dep_of (Fact := F_c10 W.heap.size nk ck ng cg ni ci mk dk mg dg mi di ak ag ai bk bg bi C DG nl LL) hd 18 (by kernel_rfl))
          exact one_move _ rfl (by first | exact Or.inl rfl | exact Or.inr rfl) ⟨_, rfl, Below.refl _ _, e⟩
      · intro vs8 W8 hl hb hI
        have i19 : vs8.getD 19 undef = .bool true := hI 19 (by omega)
        obtain ⟨x0, x1, x2, x3, x4, x5, x6, x7, x8, x9, x10, x11, x12, x13, x14, x15, x16, x17, x18, x19, hvs⟩ := list20 hl
        subst hvs
        replace i19 : x19 = .bool true := i19
        subst i19
        have HBE := Lib.hid (bt HB9.out hb)
        clear hI hl hb H0A H0B H0C H0D H0E H0F
        simp only [fillAll, Act.put, List.setIfInBounds_toArray, List.set_cons_succ, List.set_cons_zero]
        show wpList _ _ _ [] _ _
        go_wp2
        go_ret
        exact ⟨rfl, HBE.out⟩
end Go.Proofs.YtfckbkhnelgjbaaDoor
end
