/- Slots: List by the iterator. By program (gen_slots2.py). -/
import Derived.Test.YtlahmcbaiebapaaSlotE
import Derived.Test.YtlahmcbaiebapaaRegWide
import Derived.Test.YtlahmcbaiebapaaSetIt2
import Derived.Test.YtlahmcbaiebapaaCollect
namespace Go.Proofs.Ytlahmcbaiebapaa
open Go.ChangeShapes Go.WideShapes Go.ChangeAt Go.RowKit Go.Mem Go.Sp Go.Slt
set_option linter.unusedVariables false
attribute [local go_sem] Oper.semAt_some
variable {w w' : World} {D s r : Nat} {vg vu vf vb vh : Value} {G : List Int} {B : List Bool} {U F : List Nat}
/-- The entities in the slots of a list. -/
def entL (G : List Int) (L : List Nat) : List (Int × Int) := L.map fun (i : Nat) => ((i : Int), G.getD i 0)
theorem entL_snoc (G : List Int) (L : List Nat) (n : Nat) : entL G (L ++ [n]) = entL G L ++ [((n : Int), G.getD n 0)] := by simp [entL]
theorem entL_live (G : List Int) (B : List Bool) : entL G (live B) = entK G B B.length := rfl
theorem list13 {α : Type} {vs : List α} (h : vs.length = 13) : ∃ x0 x1 x2 x3 x4 x5 x6 x7 x8 x9 x10 x11 x12, vs = [x0, x1, x2, x3, x4, x5, x6, x7, x8, x9, x10, x11, x12] := by
  obtain ⟨x0, t0, rfl, h0⟩ := cons_of h
  obtain ⟨x1, t1, rfl, h1⟩ := cons_of h0
  obtain ⟨x2, t2, rfl, h2⟩ := cons_of h1
  obtain ⟨x3, t3, rfl, h3⟩ := cons_of h2
  obtain ⟨x4, t4, rfl, h4⟩ := cons_of h3
  obtain ⟨x5, t5, rfl, h5⟩ := cons_of h4
  obtain ⟨x6, t6, rfl, h6⟩ := cons_of h5
  obtain ⟨x7, t7, rfl, h7⟩ := cons_of h6
  obtain ⟨x8, t8, rfl, h8⟩ := cons_of h7
  obtain ⟨x9, t9, rfl, h9⟩ := cons_of h8
  obtain ⟨x10, t10, rfl, h10⟩ := cons_of h9
  obtain ⟨x11, t11, rfl, h11⟩ := cons_of h10
  obtain ⟨x12, t12, rfl, h12⟩ := cons_of h11
  exact ⟨x0, x1, x2, x3, x4, x5, x6, x7, x8, x9, x10, x11, x12, by rw [List.eq_nil_of_length_eq_zero h12]⟩
def F_sl4 (BW BX BO s gg x m cg : Nat) (q : Int) (u : Value) (jq : Nat) (v : Value) (w : World) : Prop :=
  match jq with
  | 0 => v = u
  | 1 => v = .int .i64 (x : Int)
  | 2 => v = .pointer (some ⟨s, 0, none⟩)
  | 3 => v = .pointer (some ⟨s, 0, none⟩)
  | 4 => v = .pointer (some ⟨s, 0, none⟩)
  | 5 => v = .slice (some ⟨gg, 0, none⟩) m cg
  | 6 => v = .int .i64 (x : Int)
  | 7 => v = .pointer (some ⟨gg, x * 1, none⟩)
  | 8 => v = .int .i64 q
  | 9 => v = .agg #[.int .i64 (x : Int), .int .i64 q]
  | 10 => ∃ g, v = .slice (some ⟨g, 0, none⟩) 1 1 ∧ BW ≤ g ∧ w.heap[g]? = some (.cells #[.int .i64 (x : Int), .int .i64 q] 55 (0, 0))
  | _ => True
theorem F_sl4_mono (BW BX BO s gg x m cg : Nat) (q : Int) (u : Value) : Facts (F_sl4 BW BX BO s gg x m cg q u) := ⟨by
  intro jq v w w' h hb
  unfold F_sl4 at h ⊢
  split at h
  all_goals first
    | exact h
    | (obtain ⟨g, e, h1, h2⟩ := h; exact ⟨g, e, h1, heap_below h2 hb⟩)
    | trivial⟩


set_option maxRecDepth 100000 in
set_option maxHeartbeats 8000000 in
theorem sl_List (h : Sl w D s vg vu vf G B U F) (si : SI G B U F) :
    Calls Try.prog 42 #[.pointer (some ⟨s, 0, none⟩)] w (ListPost (entK G B B.length) w) := by
  obtain ⟨au, cu, rfl⟩ := own_slice h.used
  obtain ⟨ag, cg, rfl⟩ := own_slice h.gens
  have hb0 : Below w.heap.size w (w.alloc (.cells #[.pointer (some ⟨s, 0, none⟩)] 47)) := (Below.refl _ _).alloc (Nat.le_refl _) _
  have hb1 : Below w.heap.size w ((w.alloc (.cells #[.pointer (some ⟨s, 0, none⟩)] 47)).alloc (.cells #[.slice none 0 0] 45)) := hb0.alloc (by simp) _
  have h1 := h.below hb1
  have HB1 := Lib.hid hb1
  have bx0 := heap_below (heap_alloc_new w (.cells #[.pointer (some ⟨s, 0, none⟩)] 47)) ((Below.refl _ _).alloc (Nat.le_refl _) (.cells #[.slice none 0 0] 45))
  have bx1 := Boxed.new (w.alloc (.cells #[.pointer (some ⟨s, 0, none⟩)] 47)) 45 (.slice none 0 0)
  have hs1 : (w.alloc (.cells #[.pointer (some ⟨s, 0, none⟩)] 47)).heap.size = w.heap.size + 1 := by simp
  rw [hs1] at bx1
  obtain ⟨nu, hnu⟩ : ∃ nu, nu = U.length := ⟨_, rfl⟩
  obtain ⟨m, hm⟩ : ∃ m, m = G.length := ⟨_, rfl⟩
  have c1 := h1.c1
  have x0 := cell_of_row _ _ 0 _ _ _ bx0
  simp only [List.getElem?_toArray, List.getElem?_cons_zero] at x0
  have hcu := si.cu
  have CA := sets_All U au U.length cu rfl (by have := hcu.1; omega) hcu.2.1 _ h1.su
  rw [← hnu] at c1 CA
  have HE := join_nil_els hcu.2.1
  have HC := joinN_canon bw_fst hcu.2.1 canon_nil.2.1
  obtain ⟨J, hJ⟩ : ∃ J, J = joinN (fun x _ => x) U [] := ⟨_, rfl⟩
  rw [← hJ] at HE HC CA
  rw [els_used si] at HE
  have hlv : ∀ x ∈ els J, x < m := by
    intro x hx
    rw [HE] at hx
    have := List.mem_range.1 (List.mem_filter.1 hx).1
    rw [hm, ← si.len]; exact this
  have hl256 : (els J).length ≤ 256 := by
    rw [HE]
    have h2 := List.length_filter_le (fun i => B.getD i false) (List.range B.length)
    have h3 := si.small
    have h4 := si.len
    unfold live
    simp only [List.length_range] at h2
    omega
  rw [← entL_live, ← HE]
  have HLV := Lib.hid hlv
  have HL2 := Lib.hid hl256
  have HCC := Lib.hid HC
  have HCA := Lib.hid CA
  have H1 := Lib.hid h1
  have HBX0 := Lib.hid bx0
  have HBX1 := Lib.hid bx1
  have HM := Lib.hid hm
  have H0 := Lib.hid h
  have hlt := lt_of_heap h.block
  clear hb0 hb1 h1 bx0 bx1 hs1 hnu hm hcu CA hJ hlv hl256 HC h HE si
  refine (callsIn_wide (n := 3)).1 (callsIn_of_wp_marks Try.func42 rfl trivial ?_ rfl)
  refine wpIn_wide.2 ?_
  simp only [Try.ntmps42, List.size_toArray, List.length_cons, List.length_nil, Nat.reduceAdd, Nat.reduceSub, Array.replicate_succ, Array.replicate_zero, List.push_toArray, List.append_toArray, List.nil_append, List.cons_append]
  go_wp2_with fail
  refine HCA.out.mono ?_
  rintro e w1 ⟨rfl, ⟨rr, k, cr, g2, g3, g4, g5⟩, g6, g7⟩
  rw [World.size_alloc, World.size_alloc] at g3 g5 g6
  have hbw := HB1.out.trans (g7.mono (by simp; omega))
  have HB2 := Lib.hid hbw
  have H2 := Lib.hid (H1.out.below g7)
  have HBX2 := Lib.hid (heap_below HBX0.out g7)
  have HBO2 := Lib.hid (show Boxed w1 (w.heap.size + 1) 45 (.slice none 0 0) from (g7.block _ (by simp)).trans HBX1.out)
  clear g7 hbw c1 x0
  go_wp2_with fail
  refine (wpIn_wide (n := 3)).1 (wpIn_rangeFunc_ownF rfl (by omega) (gf := 77) (lb := #[.pointer (some ⟨w.heap.size + 1 + 1, 0, none⟩)]) rfl trivial (enters_of Try.func77 (by kernel_rfl) rfl)
    (all_stopsB (3 - 1) (by omega) (w.heap.size + 1 + 1) (w.heap.size + 1 + 1) w1.heap.size rr k cr J g2 (by have := HCC.out.1; omega) HCC.out.2.1 w1 g6 g3 g5 g4) KeepB.trans (KeepB.put (Nat.le_refl _)) (Below.refl _ _) (fun _ => rfl)
    (fun pre W => (∃ v, Boxed W (w.heap.size + 1) 45 v ∧ W.ownsRow w1.heap.size 55 2 v pre.length (entC (entL G (pre.map (·.1)))) ∧ True) ∧ Below (w.heap.size + 1) w1 W)
    (fun _ _ _ => False)
    (OwnFrom.and (Own.from (holdsRow_own w1.heap.size (w.heap.size + 1) 45 55 2 (fun pre : List (El J) => pre.length) (fun pre => entC (entL G (pre.map (·.1)))) (fun _ _ => True)) _) (ownFrom_below (by omega) (by omega)))
    (fun _ _ _ _ _ hs _ _ => hs)
    ⟨⟨_, HBO2.out, World.ownsRow_nil _ _ _ _, trivial⟩, Below.refl _ _⟩
    (fun x => { tmps := #[.pointer (some ⟨s, 0, none⟩), .pointer (some ⟨w.heap.size, 0, none⟩), .slice none 0 0, .pointer (some ⟨w.heap.size + 1, 0, none⟩), .int .i64 (x.1 : Int), .pointer (some ⟨s, 0, none⟩), .pointer (some ⟨s, 0, none⟩), .pointer (some ⟨s, 1, none⟩), .slice au nu cu, .func (.func 77) #[] #[.pointer (some ⟨w.heap.size + 1 + 1, 0, none⟩)], .int .i64 (x.1 : Int), undef, undef, undef, undef, undef, undef, undef, undef, undef, undef, undef, undef, undef], defers := [] }) ?assign ?body ?done ?stop)
  case assign =>
    intro l x W K hK
    gi_wp2
    exact hK
  case body =>
    rintro l pre ⟨x, hx⟩ W ⟨⟨v, hv, hrow, _⟩, hB⟩ hlt
    have hxm : x < m := HLV.out x ((els_mem _ _).2 hx)
    have hxi : x < G.length := by rw [← HM.out]; exact hxm
    have hE := hB.size
    have hpl : pre.length < 4096 := hlt
    have hbW := HB2.out.trans (hB.mono (by omega))
    have h2 := H0.out.below hbW
    obtain ⟨gg, rfl, -, -, -, -, cgx, -⟩ := vints_cell h2.gens x hxi
    obtain ⟨q, hq⟩ : ∃ q, q = G.getD x 0 := ⟨_, rfl⟩
    have c0 := h2.c0
    rw [← HM.out] at c0
    rw [← hq] at cgx
    have x0 := cell_of_row _ _ 0 _ _ _ ((hB.block w.heap.size (by omega)).trans HBX2.out)
    simp only [List.getElem?_toArray, List.getElem?_cons_zero] at x0
    have C0 := Lib.hid c0
    have CG := Lib.hid cgx
    have X0 := Lib.hid x0
    have V0 := Lib.hid hv.cell
    have HQ := Lib.hid hq
    clear h2 hq x0 c0 cgx
    dsimp only
    gi_wp2
    refine wpIn_region_wide rfl (by rintro ⟨_, _, h⟩; exact h) (by kernel_rfl) ?_
    refine any_facts_t 11 (by kernel_rfl) (F_sl4 W.heap.size w.heap.size (w.heap.size + 1) s gg x m cg q v) (F_sl4_mono W.heap.size w.heap.size (w.heap.size + 1) s gg x m cg q v) ?_ ?_
    · refine ⟨?_, ?_, ?_, ?_, ?_, ?_, ?_, ?_, ?_, ?_, ?_, trivial⟩
      · intro vs w' F hb hd hF hl hT
        have e := (hF 3).trans (look_out _ 3 _ _ (by kernel_rfl))
        exact one_load _ _ rfl rfl _ _ e (cell_abides V0.out hb) (by kernel_rfl) ⟨_, rfl, Below.refl _ _, rfl⟩
      · intro vs w' F hb hd hF hl hT
        have e := (hF 4).trans (look_out _ 4 _ _ (by kernel_rfl))
        exact one_move _ rfl (by first | exact Or.inl rfl | exact Or.inr rfl) ⟨_, rfl, Below.refl _ _, e⟩
      · intro vs w' F hb hd hF hl hT
        have e := (hF 1).trans (look_out _ 1 _ _ (by kernel_rfl))
        exact one_load _ _ rfl rfl _ _ e (cell_abides X0.out hb) (by kernel_rfl) ⟨_, rfl, Below.refl _ _, rfl⟩
      · intro vs w' F hb hd hF hl hT
        have e := ((hF 13).trans (look_at _ 13 2 _ _ (by kernel_rfl) (by kernel_rfl) hl)).trans (dep_of (Fact := F_sl4 W.heap.size w.heap.size (w.heap.size + 1) s gg x m cg q v) hd 2 (by kernel_rfl))
        exact one_nilCheck _ rfl rfl _ e ⟨_, rfl, Below.refl _ _, rfl⟩
      · intro vs w' F hb hd hF hl hT
        have e := ((hF 14).trans (look_at _ 14 3 _ _ (by kernel_rfl) (by kernel_rfl) hl)).trans (dep_of (Fact := F_sl4 W.heap.size w.heap.size (w.heap.size + 1) s gg x m cg q v) hd 3 (by kernel_rfl))
        exact one_field _ _ _ rfl rfl _ _ e (0) (fun w => by kernel_rfl) ⟨_, rfl, Below.refl _ _, rfl⟩
      · intro vs w' F hb hd hF hl hT
        have e := ((hF 15).trans (look_at _ 15 4 _ _ (by kernel_rfl) (by kernel_rfl) hl)).trans (dep_of (Fact := F_sl4 W.heap.size w.heap.size (w.heap.size + 1) s gg x m cg q v) hd 4 (by kernel_rfl))
        exact one_load _ _ rfl rfl _ _ e (cell_abides C0.out hb) (by kernel_rfl) ⟨_, rfl, Below.refl _ _, rfl⟩
      · intro vs w' F hb hd hF hl hT
        have e := (hF 4).trans (look_out _ 4 _ _ (by kernel_rfl))
        exact one_move _ rfl (by first | exact Or.inl rfl | exact Or.inr rfl) ⟨_, rfl, Below.refl _ _, e⟩
      · intro vs w' F hb hd hF hl hT
        have ex := ((hF 16).trans (look_at _ 16 5 _ _ (by kernel_rfl) (by kernel_rfl) hl)).trans (dep_of (Fact := F_sl4 W.heap.size w.heap.size (w.heap.size + 1) s gg x m cg q v) hd 5 (by kernel_rfl))
        have ey := ((hF 17).trans (look_at _ 17 6 _ _ (by kernel_rfl) (by kernel_rfl) hl)).trans (dep_of (Fact := F_sl4 W.heap.size w.heap.size (w.heap.size + 1) s gg x m cg q v) hd 6 (by kernel_rfl))
        exact one_index 23 _ _ rfl rfl (.slice (some ⟨gg, 0, none⟩) m cg) (.int .i64 (x : Int)) (.pointer (some ⟨gg, x * 1, none⟩)) ex ey (fun w => by have h := rg_idx Try.underlying23 (show (Try.prog.info? 3).map (·.size) = some 1 by kernel_rfl) (gg) (0) (m) (cg) (x) (by omega) w; rw [Nat.zero_add] at h; exact h) ⟨_, rfl, Below.refl _ _, rfl⟩
      · intro vs w' F hb hd hF hl hT
        have e := ((hF 18).trans (look_at _ 18 7 _ _ (by kernel_rfl) (by kernel_rfl) hl)).trans (dep_of (Fact := F_sl4 W.heap.size w.heap.size (w.heap.size + 1) s gg x m cg q v) hd 7 (by kernel_rfl))
        exact one_load _ _ rfl rfl _ _ e ((by rw [Nat.mul_one]; exact cell_abides CG.out hb)) (by kernel_rfl) ⟨_, rfl, Below.refl _ _, rfl⟩
      · intro vs w' F hb hd hF hl hT
        have e1 := (((hF 12).trans (look_at _ 12 1 _ _ (by kernel_rfl) (by kernel_rfl) hl)).trans (dep_of (Fact := F_sl4 W.heap.size w.heap.size (w.heap.size + 1) s gg x m cg q v) hd 1 (by kernel_rfl)))
        have e2 := (((hF 19).trans (look_at _ 19 8 _ _ (by kernel_rfl) (by kernel_rfl) hl)).trans (dep_of (Fact := F_sl4 W.heap.size w.heap.size (w.heap.size + 1) s gg x m cg q v) hd 8 (by kernel_rfl)))
        exact one_build _ _ rfl rfl #[(0, .int .i64 (x : Int)), (1, .int .i64 q)] (parts2 e1 e2) (.agg #[.int .i64 (x : Int), .int .i64 q]) (fun w => by kernel_rfl) ⟨_, rfl, Below.refl _ _, rfl⟩
      · intro vs w' F hb hd hF hl hT
        have ex := (((hF 20).trans (look_at _ 20 9 _ _ (by kernel_rfl) (by kernel_rfl) hl)).trans (dep_of (Fact := F_sl4 W.heap.size w.heap.size (w.heap.size + 1) s gg x m cg q v) hd 9 (by kernel_rfl)))
        exact rg_slice_ent 45 55 _ rfl rfl (x : Int) q ex Try.underlying45 (by kernel_rfl) ⟨_, rfl, (Below.refl _ _).alloc (Nat.le_refl _) _, _, rfl, hb.size, heap_alloc_new _ _⟩
    · intro vs8 W8 hl hb hI
      have hv0 : vs8.getD 0 undef = v := hI 0 (by omega)
      obtain ⟨g9, hv9, hg9, hbl9⟩ := hI 10 (by omega)
      obtain ⟨z0, z1, z2, z3, z4, z5, z6, z7, z8, z9, z10, z11, z12, hvs⟩ := list13 hl
      subst hvs
      replace hv0 : z0 = v := hv0
      replace hv9 : z10 = .slice (some ⟨g9, 0, none⟩) 1 1 := hv9
      subst hv0 hv9
      have hvA : Boxed W8 (w.heap.size + 1) 45 z0 := (hb.block _ (by omega)).trans hv
      have hrowA := own_below hrow hb
      have hE8 : w1.heap.size ≤ W8.heap.size := Nat.le_trans hE hb.size
      have hgl9 := lt_of_heap hbl9
      obtain ⟨i0, hi0, hz0, hz1, hz2⟩ := info_parts (show (Try.prog.info? 55).map (fun i => (i.zero, i.size, i.bytes)) = some (some (.agg #[.int .i64 0, .int .i64 0]), 2, 16) by kernel_rfl)
      have HRA := Lib.hid hrowA
      have HVA := Lib.hid hvA
      have HBW8 := Lib.hid hb
      clear hI hl hrow hv V0 X0 C0 CG
      simp only [fillAll, Act.put, List.setIfInBounds_toArray, List.set_cons_succ, List.set_cons_zero, List.drop_succ_cons, List.drop_zero]
      go_wp2_with (at_builtin; go_must (refine wpList_append_lies _ rfl _ _ 45 rfl w1.heap.size 55 i0 (.agg #[.int .i64 0, .int .i64 0]) 2 16 Try.underlying45 hi0 hz0 hz1 hz2 rfl (by omega) z0 pre.length _ rfl HRA.out ⟨g9, 0, none⟩ 1 1 [.int .i64 (x : Int), .int .i64 q] rfl rfl (World.news_of_block (cs := #[.int .i64 (x : Int), .int .i64 q]) (t := 55) (fr := (0, 0)) hbl9) (by simp [Value.oneCell']) (by omega) (by unfold maxLen; omega) (by omega) hE8 W8.heap.size rfl ?_))
      intro g5 cap5 w6 hown6 hgrow6 hat6 hlt6
      have hno1 : ∀ j, z0.ownBlock = some j → w1.heap.size ≤ j := fun j hj => (own_lt HRA.out j hj).1
      have hv6 : Boxed w6 (w.heap.size + 1) 45 z0 := (hgrow6.block _ (by omega) (fun e => by have := hno1 _ e.symm; omega)).trans HVA.out
      have hc6 := hv6.cell
      have hf6 := hv6.frozen
      have HV6 := Lib.hid hv6
      have HO6 := Lib.hid hown6
      have HG6 := Lib.hid hgrow6
      have HN1 := Lib.hid hno1
      have HG5 := Lib.hid (own_lt hown6 g5 rfl)
      clear hv6 hown6 hgrow6 hno1 hat6
      go_wp2_with fail
      have k1 : KeepsOthers W W8 := .of_grownBy (row := none) (gb_below HBW8.out) (fun j o e => by cases e)
      have k2 : KeepsOthers W8 w6 := .of_grownBy HG6.out (fun j o ej hj => by
        rcases HRA.out.2 with ⟨e, _⟩ | ⟨g, cap, cur, e, _, hgb, _⟩
        · rw [e] at ej; cases ej
        · rw [e] at ej
          obtain rfl : g = j := by simpa [Value.ownBlock] using ej
          rw [hgb] at hj; injection hj with hj; rw [← hj]; rfl)
      have hs6 := HG6.out.size
      have hs8 := HBW8.out.size
      have hkk : ∀ j, j < w1.heap.size → j ≠ w.heap.size + 1 → (w6.setCell ⟨w.heap.size + 1, 0, none⟩ (.slice (some ⟨g5, 0, none⟩) (pre.length + 1) cap5)).heap[j]? = W.heap[j]? := fun j h1 h2 => by
        rw [Below.heap_setCell w6 ⟨w.heap.size + 1, 0, none⟩ _ j h2, HG6.out.block j (by omega) (fun e => by have := HN1.out _ e.symm; omega)]
        exact HBW8.out.block j (by omega)
      refine ⟨(k1.trans k2).trans (KeepsOthers.setCell _ _ _), ⟨by simp; omega, fun j j1 j2 => hkk j j2 (by omega)⟩, ⟨_, HV6.out.set _, ?_, trivial⟩, hB.trans ⟨HG6.out.os.trans HBW8.out.os, HG6.out.tape.trans HBW8.out.tape, HG6.out.output.trans HBW8.out.output, by simp; omega, fun j hj => hkk j (by omega) (by omega)⟩⟩
      have e1 : entC (entL G ((pre ++ [(⟨x, hx⟩ : El J)]).map (·.1))) = entC (entL G (pre.map (·.1))) ++ [Value.int .i64 (x : Int), .int .i64 q] := by
        rw [List.map_append, List.map_cons, List.map_nil, entL_snoc, ← HQ.out]
        simp [entC]
      rw [List.length_append, List.length_singleton, e1]
      exact own_set HO6.out (fun j hj e => by
        injection e with e
        have : g5 = j := by simpa [Value.ownBlock] using hj
        have := HG5.out.1
        omega) _ _
  case done =>
    rintro D1 ys W hD hys ⟨⟨v, hv, hrow, _⟩, hB⟩ hK
    obtain ⟨rz, cz, rfl⟩ := own_slice hrow
    have hvc := hv.cell
    have HROW := Lib.hid hrow
    have HBZ := Lib.hid hB
    have HYS := Lib.hid hys
    clear hys hrow hv hB
    go_wp2_with fail
    refine ⟨by simp, .inl ⟨_, _, rfl, run_takeDeferred hK, ?_⟩⟩
    refine ⟨_, results_tmp rfl _ _ _, ?_⟩
    have hys2 : ys.map (·.1) = els J := HYS.out
    have hlen : ys.length = (entL G (els J)).length := by rw [← hys2]; simp [entL]
    have hw0 : w.heap.size ≤ D1 := by have := HB2.out.size; omega
    have hfin := (HB2.out.trans (HBZ.out.mono (by omega))).trans (belowK_b (w := w) (Nat.le_refl _) W D1 _ (.deferred none) hw0 hK rfl rfl)
    have hrw : ∀ (o : Obj), (W.putObj D1 o).ownsRow w1.heap.size 55 2 (.slice rz ys.length cz) ys.length (entC (entL G (els J))) := fun o => by
      have h3 := HROW.out
      rw [hys2] at h3
      refine own_keep h3 fun g hg => ?_
      have hne : g ≠ D1 := by
        intro e
        rcases h3.2 with ⟨e2, _⟩ | ⟨g', cap, cur, e2, _, hgb, _⟩
        · rw [e2] at hg; cases hg
        · rw [e2] at hg
          obtain rfl : g' = g := by simpa [Value.ownBlock] using hg
          rw [e, hK] at hgb; cases hgb
      exact World.putObj_heap_other hne
    exact ⟨rz, ys.length, cz, hlen.symm, rfl, EntsAt.of_own (hrw _) hlen, hfin⟩
  case stop =>
    rintro D c pre W _ _ h _
    exact h.elim
end Go.Proofs.Ytlahmcbaiebapaa
