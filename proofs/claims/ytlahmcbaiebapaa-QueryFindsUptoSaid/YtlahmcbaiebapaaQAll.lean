/- query.All: the rows. By program (gen_qall.py). -/
import Derived.Test.YtlahmcbaiebapaaQFits
import Derived.Test.YtlahmcbaiebapaaQPair
import Derived.Test.YtlahmcbaiebapaaCopyC
import Derived.Test.YtlahmcbaiebapaaGrowL
import Derived.Test.YtlahmcbaiebapaaRegSt2
import Derived.Test.YtlahmcbaiebapaaGrown
namespace Go.Proofs.Ytlahmcbaiebapaa
open Go.ChangeShapes Go.WideShapes Go.ChangeAt Go.RowKit Go.Mem
set_option linter.unusedVariables false
theorem Win.lower {lo lo2 hi hi2 : Nat} {Q : World → Prop} {w : World} (h : Win lo hi Q w) (h1 : lo2 ≤ lo) (h2 : hi ≤ hi2) (h3 : hi2 ≤ w.heap.size) : Win lo2 hi2 Q w :=
  ⟨h3, fun w2 k1 k2 => h.2 w2 (Nat.le_trans h2 k1) (fun g g1 g2 => k2 g (Nat.le_trans h1 g1) (Nat.lt_of_lt_of_le g2 h2))⟩
theorem Win.below {lo hi : Nat} {Q : World → Prop} {w w' : World} (h : Win lo hi Q w) (hb : Below w.heap.size w w') : Win lo hi Q w' := h.to (Nat.le_trans h.1 hb.size) (fun g _ g2 => hb.block g (Nat.lt_of_lt_of_le g2 h.1))
abbrev RowQ := Nat × ItemV
def ERow (w : World) (cs : List Value) (y : RowQ) : Prop := ∃ a, cs = [.int .i64 (y.1 : Int), .int .i64 y.2.n, .int .i64 y.2.gen, .slice a y.2.comps.length y.2.comps.length] ∧ SlAt 2 CompAt w a y.2.comps
def RowAt (w : World) (p : Addr) (y : RowQ) : Prop := w.cell? p = some (.int .i64 (y.1 : Int)) ∧ w.cell? ⟨p.block, p.off + 1, none⟩ = some (.int .i64 y.2.n) ∧ w.cell? ⟨p.block, p.off + 2, none⟩ = some (.int .i64 y.2.gen) ∧
  ∃ a, w.cell? ⟨p.block, p.off + 3, none⟩ = some (.slice a y.2.comps.length y.2.comps.length) ∧ SlAt 2 CompAt w a y.2.comps
theorem ERow.at (w : World) (g q : Nat) (cs : List Value) (y : RowQ) (h : ERow w cs y) (hc : ∀ i u, cs[i]? = some u → w.cell? ⟨g, q + i, none⟩ = some u) : RowAt w ⟨g, q, none⟩ y := by
  obtain ⟨a, rfl, hi⟩ := h
  exact ⟨hc 0 _ rfl, hc 1 _ rfl, hc 2 _ rfl, a, hc 3 _ rfl, hi⟩
theorem RowAt.abides : Abides RowAt := fun w w' p y h hb => by
  obtain ⟨h1, h2, h3, a, h5, h6⟩ := h
  exact ⟨cell_abides h1 hb, cell_abides h2 hb, cell_abides h3 hb, a, cell_abides h5 hb, h6.below CompAt.abides hb⟩
/-- the rows of the first k items -/
def rowsK (its : List ItemV) (wi wo : List Int) (k : Nat) : List RowQ := ((List.range k).filter fun i => matchB (its.getD i default).comps wi wo).map fun i => (i, its.getD i default)
theorem rowsK_succ (its : List ItemV) (wi wo : List Int) (k : Nat) : rowsK its wi wo (k + 1) = rowsK its wi wo k ++ (if matchB (its.getD k default).comps wi wo = true then [(k, its.getD k default)] else []) := by
  unfold rowsK
  rw [List.range_succ, List.filter_append, List.map_append]
  congr 1
  by_cases h : matchB (its.getD k default).comps wi wo = true
  · rw [if_pos h, List.filter_cons_of_pos (p := fun i => matchB (its.getD i default).comps wi wo) h]; rfl
  · rw [if_neg h, List.filter_cons_of_neg (p := fun i => matchB (its.getD i default).comps wi wo) h]; rfl
theorem rowsK_len (its : List ItemV) (wi wo : List Int) (k : Nat) : (rowsK its wi wo k).length ≤ k := by
  unfold rowsK
  rw [List.length_map]
  have := List.length_filter_le (fun i => matchB (its.getD i default).comps wi wo) (List.range k)
  simpa using this
def SmallI (its : List ItemV) : Prop := its.length ≤ 1048576 ∧ ∀ y ∈ its, y.comps.length ≤ 1048576 ∧ ∀ c ∈ y.comps, c.vals.length ≤ 1048576
theorem getD_item (its : List ItemV) (k : Nat) (h : k < its.length) : its.getD k default = its[k] := by rw [List.getD_eq_getElem?_getD, List.getElem?_eq_getElem h]; rfl
def AllPost (rows : List RowQ) (W : World) (e : Ending) (w' : World) : Prop := ∃ bx a c, e = .returned (.func (.func 87) #[] #[.pointer (some ⟨bx, 0, none⟩)]) ∧ Below W.heap.size W w' ∧ W.heap.size ≤ bx ∧ w'.heap[bx]? = some (.cells #[.slice a rows.length c] 136 (0, 0)) ∧ Up W.heap.size (fun w => SlAt 4 RowAt w a rows) w'
section
variable {P : Program} {ops : Array Oper} {o : Oper} {F : Act} {w : World} {Q : Exit → Act → World → Prop}
theorem rg_slice_row (t e : TypeId) (x0 : Operand) (hgd : o.guard = none) (ho : o.op = .buildSlice t 1 #[(0, x0)]) (i p g : Int) (a : Option Addr) (n c : Nat) (h0 : F.eval x0 = .agg #[.int .i64 i, .int .i64 p, .int .i64 g, .slice a n c])
    (hu : P.underlying t = some (.slice e)) (hi : (P.info? e).map (fun i => (i.zero, i.size)) = some (some (.agg #[.int .i64 0, .int .i64 0, .int .i64 0, .slice none 0 0]), 4)) (h : Q .normal (F.put o.dst (.slice (some ⟨w.heap.size, 0, none⟩) 1 1)) (w.alloc (.cells #[.int .i64 i, .int .i64 p, .int .i64 g, .slice a n c] e (0, 0)))) : wpList P ops Q [o] F w := by
  obtain ⟨j, hi2, hzz⟩ := Option.map_eq_some_iff.1 hi
  simp only [Prod.mk.injEq] at hzz
  refine wpList_plain hgd fun K hK => ?_
  refine wp_buildSlice t e 1 _ ho #[.int .i64 i, .int .i64 p, .int .i64 g, .slice a n c] j (.agg #[.int .i64 0, .int .i64 0, .int .i64 0, .slice none 0 0]) hu hi2 hzz.1 (by rw [hzz.2]; decide) (by rw [hzz.2]; decide) ?_ (hK _ _ h)
  rw [hzz.2]
  simp only [List.map_toArray, List.map_cons, List.map_nil, h0]
  have hr : Array.range 4 = #[0, 1, 2, 3] := by decide
  simp [Instr.fill, Value.cells, hr]
end
theorem list12 {α : Type} {vs : List α} (h : vs.length = 12) : ∃ x0 x1 x2 x3 x4 x5 x6 x7 x8 x9 x10 x11, vs = [x0, x1, x2, x3, x4, x5, x6, x7, x8, x9, x10, x11] := by
  obtain ⟨x0, t0, rfl, h0⟩ := cons_of h
  obtain ⟨x1, t1, rfl, h1⟩ := cons_of h0
  obtain ⟨x2, t2, rfl, h2⟩ := cons_of h1
  obtain ⟨x3, t3, rfl, h3⟩ := cons_of h2
  obtain ⟨x4, t4, rfl, h4⟩ := cons_of h3
  obtain ⟨x5, t5, rfl, h5⟩ := cons_of h4
  obtain ⟨x6, t6, rfl, h6⟩ := cons_of h5
  obtain ⟨x7, t7, rfl, h7⟩ := cons_of h6
  obtain ⟨x8, t8, rfl, h8⟩ := cons_of h7
  obtain ⟨x9, t9, rfl, h9⟩ := cons_of h8
  obtain ⟨x10, t10, rfl, h10⟩ := cons_of h9
  obtain ⟨x11, t11, rfl, h11⟩ := cons_of h10
  exact ⟨x0, x1, x2, x3, x4, x5, x6, x7, x8, x9, x10, x11, by rw [List.eq_nil_of_length_eq_zero h11]⟩
def F_qa6 (BW BX bi i nc cc : Nat) (yn yg : Int) (ac : Option Addr) (v7 : Value) (cs : List CompV) (jq : Nat) (v : Value) (w : World) : Prop :=
  match jq with
  | 0 => v = v7
  | 1 => v = .int .i64 (i : Int)
  | 2 => v = .pointer (some ⟨bi, 0, none⟩)
  | 3 => v = .agg #[.int .i64 yn, .int .i64 yg]
  | 4 => v = .pointer (some ⟨bi, 2, none⟩)
  | 5 => v = .slice ac nc cc
  | 6 => ∃ a hi, v = .slice a nc nc ∧ Win BW hi (fun w => SlAt 2 CompAt w a cs) w
  | 7 => ∃ a hi, v = .agg #[.int .i64 yn, .int .i64 yg, .slice a nc nc] ∧ Win BW hi (fun w => SlAt 2 CompAt w a cs) w
  | 8 => ∃ a hi, v = .agg #[.int .i64 (i : Int), .int .i64 yn, .int .i64 yg, .slice a nc nc] ∧ Win BW hi (fun w => SlAt 2 CompAt w a cs) w
  | 9 => ∃ a hi g, v = .slice (some ⟨g, 0, none⟩) 1 1 ∧ w.heap[g]? = some (.cells #[.int .i64 (i : Int), .int .i64 yn, .int .i64 yg, .slice a nc nc] 139 (0, 0)) ∧ Win BW hi (fun w => SlAt 2 CompAt w a cs) w
  | _ => True
theorem F_qa6_mono (BW BX bi i nc cc : Nat) (yn yg : Int) (ac : Option Addr) (v7 : Value) (cs : List CompV) : Facts (F_qa6 BW BX bi i nc cc yn yg ac v7 cs) := ⟨by
  intro jq v w w' h hb
  unfold F_qa6 at h ⊢
  split at h
  all_goals first
    | exact h
    | (obtain ⟨a, hi, h1, h2⟩ := h; exact ⟨a, hi, h1, h2.below hb⟩)
    | (obtain ⟨a, hi, g, h1, h2, h3⟩ := h; exact ⟨a, hi, g, h1, heap_below h2 hb, h3.below hb⟩)
    | trivial⟩


set_option maxRecDepth 100000 in
set_option maxHeartbeats 8000000 in
theorem q_All (its : List ItemV) (v : Value) (ai ao : Option Addr) (ni ci no co : Nat) (wi wo : List Int) (hni : wi.length = ni) (hno : wo.length = no) (h2 : ni ≤ 17592186044000) (h3 : no ≤ 17592186044000) (hsm : SmallI its) (W : World) (hv : WorldI W v its) (hzi : IntsAt .i64 W ai wi) (hzo : IntsAt .i64 W ao wo) :
    Calls Try.prog 47 #[v, .slice ai ni ci, .slice ao no co] W (AllPost (rowsK its wi wo its.length) W) := by
  obtain ⟨ak, nk, ck, ag, ng, cg, a, c, rfl, hz⟩ := hv
  obtain ⟨m, hm⟩ : ∃ m, m = its.length := ⟨_, rfl⟩
  have hb0 := (Below.refl W.heap.size W).alloc (Nat.le_refl _) (.cells #[.slice ak nk ck, .slice ag ng cg, .slice a its.length c] 70)
  have hb1 := hb0.alloc (by simp) (.cells #[.slice none 0 0] 136)
  have hx := row_first W (.cells #[.slice ak nk ck, .slice ag ng cg, .slice a its.length c] 70) (.cells #[.slice none 0 0] 136)
  have hy := row_second W (.cells #[.slice ak nk ck, .slice ag ng cg, .slice a its.length c] 70) (.cells #[.slice none 0 0] 136)
  have HB1 := Lib.hid hb1
  have HZ := Lib.hid hz
  have HNI := Lib.hid hni
  have HNO := Lib.hid hno
  have HZI := Lib.hid hzi
  have HZO := Lib.hid hzo
  have HSM := Lib.hid hsm
  rw [← hm] at hx hy HB1 ⊢
  have HM := Lib.hid hm
  have hm20 : m ≤ 1048576 := by rw [hm]; exact hsm.1
  have HX := Lib.hid hx
  have HY := Lib.hid hy
  clear hb0 hb1 hz hni hno hzi hzo hsm hm hx hy
  go_enter Try.func47, Try.ntmps47
  go_wp2_with fail
  obtain ⟨W1, hW1⟩ : ∃ W1, W1 = (W.alloc (.cells #[.slice ak nk ck, .slice ag ng cg, .slice a m c] 70)).alloc (.cells #[.slice none 0 0] 136) := ⟨_, rfl⟩
  rw [← hW1] at HB1 HX HY ⊢
  clear hW1
  go_loopg [13] m (fun gk vi wx => ∃ (i : Nat) (v7 : Value), i ≤ m ∧ gk = m - i ∧ vi = .int .i64 i ∧ Hid (wx.heap[W.heap.size + 1]? = some (.cells #[v7] 136 (0, 0))) ∧ Hid (GrowL ERow (W.heap.size + 1 + 1) 139 4 wx v7 (rowsK its wi wo i)) ∧ Hid (Below W.heap.size W wx))
  case atStart => exact ⟨0, _, Nat.zero_le _, rfl, rfl, HY, Lib.hid (GrowL.nil _ _ _ _ _), HB1⟩
  case round =>
    clear HY HB1
    obtain ⟨i, v7, hi, g2, rfl, HY, HGR, HB⟩ := hrel
    have G2 := Lib.hid g2
    clear g2
    by_cases hlt : i < m
    · obtain ⟨x, rfl, hx, hix⟩ := (HZ.out.below ItemAt.abides HB.out) (by rw [← HM.out]; omega)
      obtain ⟨c0, c1, ac, cc, c2, hsl⟩ := hix i (by rw [← HM.out]; exact hlt)
      obtain ⟨y, hy⟩ : ∃ y, y = its[i]'(by rw [← HM.out]; exact hlt) := ⟨_, rfl⟩
      have hyg : its.getD i default = y := by rw [hy]; exact getD_item its i (by rw [← HM.out]; exact hlt)
      have hsy := HSM.out.2 y (by rw [hy]; exact List.getElem_mem _)
      rw [← hy] at c0 c1 c2 hsl
      obtain ⟨yn, hyn⟩ : ∃ q, q = y.n := ⟨_, rfl⟩
      obtain ⟨yg, hyg2⟩ : ∃ q, q = y.gen := ⟨_, rfl⟩
      obtain ⟨nc, hnc⟩ : ∃ q, q = y.comps.length := ⟨_, rfl⟩
      rw [← hyn] at c0
      rw [← hyg2] at c1
      rw [← hnc] at c2
      have HYN := Lib.hid hyn
      have HYG := Lib.hid hyg2
      have HNC := Lib.hid hnc
      have HYI := Lib.hid hyg
      have HSY := Lib.hid hsy
      have HSL := Lib.hid hsl
      have i1 : (0 : Int) ≤ (i : Int) := by omega
      have i2 : (i : Int) < (m : Int) := by omega
      have hlb := HB.out.size
      have hbx := lt_of_heap HY.out
      have hbA : Below wr.heap.size wr (wr.alloc (.cells #[.int .i64 yn, .int .i64 yg, .slice ac nc cc] 80)) := (Below.refl _ _).alloc (Nat.le_refl _) _
      have HCM := Lib.hid (q_Match yn yg y.comps ac ai ao nc cc ni ci no co wi wo HNC.out.symm HNI.out HNO.out (by have := HSY.out.1; rw [HNC.out]; omega) h2 h3 _ (HSL.out.below CompAt.abides hbA) (HZI.out.below (HB.out.trans (hbA.mono hlb))) (HZO.out.below (HB.out.trans (hbA.mono hlb))))
      have HYA := Lib.hid (heap_below HY.out hbA)
      have HIT := Lib.hid (heap_alloc_new wr (.cells #[.int .i64 yn, .int .i64 yg, .slice ac nc cc] 80))
      have HGA := Lib.hid (HGR.out.below hbA)
      have HBA := Lib.hid (HB.out.trans (hbA.mono hlb))
      have HSA := Lib.hid (HSL.out.below CompAt.abides hbA)
      clear hix hy hyg hsy hsl hyn hyg2 hnc hbA HSL
      go_wp2_with fail
      obtain ⟨W2, hW2⟩ : ∃ W2, W2 = wr.alloc (.cells #[.int .i64 yn, .int .i64 yg, .slice ac nc cc] 80) := ⟨_, rfl⟩
      rw [← hW2] at HCM HYA HIT HGA HBA HSA ⊢
      obtain ⟨bi, hbi⟩ : ∃ bi, bi = wr.heap.size := ⟨_, rfl⟩
      rw [← hbi] at HIT ⊢
      have hbil : W.heap.size ≤ bi := by omega
      clear hW2 hbi c0 c1 c2
      obtain ⟨r, hr⟩ : ∃ r, r = matchB y.comps wi wo := ⟨_, rfl⟩
      rw [← hr] at HCM
      have HR := Lib.hid hr
      clear hr
      refine HCM.out.mono ?_
      rintro e w3 ⟨rfl, hb3⟩
      have HYB := Lib.hid (heap_below HYA.out hb3)
      have HITB := Lib.hid (heap_below HIT.out hb3)
      have HGB := Lib.hid (HGA.out.below hb3)
      have HBB := Lib.hid (HBA.out.trans (hb3.mono HBA.out.size))
      have HSB := Lib.hid (HSA.out.below CompAt.abides hb3)
      clear hb3 HCM HYA HIT HGA HBA HSA
      cases r
      · have hst : rowsK its wi wo (i + 1) = rowsK its wi wo i := by rw [rowsK_succ, HYI.out, ← HR.out]; simp
        have HST := Lib.hid hst
        clear hst
        go_wp2_with fail
        go_roundg (m - (i + 1))
        case measure => rw [G2.out]; omega
        case rel => exact ⟨i + 1, v7, hlt, rfl, by go_num, HYB, by rw [HST.out]; exact HGB, HBB⟩
      · have hst : rowsK its wi wo (i + 1) = rowsK its wi wo i ++ [(i, y)] := by rw [rowsK_succ, HYI.out, ← HR.out]; simp
        have HST := Lib.hid hst
        have Q0 := Lib.hid (show w3.cell? ⟨W.heap.size + 1, 0, none⟩ = some v7 by rw [cell_of_row _ _ 0 _ _ _ HYB.out]; rfl)
        have K2 := Lib.hid (show w3.cell? ⟨bi, 2, none⟩ = some (.slice ac nc cc) by rw [cell_of_row _ _ 2 _ _ _ HITB.out]; rfl)
        have KE := Lib.hid (show CellsK w3 bi 0 [.int .i64 yn, .int .i64 yg] from fun j u hu => by
          match j with
          | 0 => simp at hu; subst hu; rw [cell_of_row _ _ 0 _ _ _ HITB.out]; rfl
          | 1 => simp at hu; subst hu; rw [cell_of_row _ _ 1 _ _ _ HITB.out]; rfl
          | j + 2 => simp at hu)
        have CC := Lib.hid (fun w' (hb : Below w3.heap.size w3 w') => copy_comps y.comps ac nc cc HNC.out.symm (by have := HSY.out.1; rw [HNC.out]; exact this) HSY.out.2 w' (HSB.out.below CompAt.abides hb))
        clear hst
        go_wp2_with fail
        refine wp_region_facts_t rfl 10 (by kernel_rfl) (F_qa6 w3.heap.size (W.heap.size + 1) bi i nc cc yn yg ac v7 y.comps) (F_qa6_mono w3.heap.size (W.heap.size + 1) bi i nc cc yn yg ac v7 y.comps) ?_ ?_
        · refine ⟨?_, ?_, ?_, ?_, ?_, ?_, ?_, ?_, ?_, ?_, trivial⟩
          · intro vs w' F hb hd hF hl hT
            have e := (hF 7).trans (look_out _ 7 _ _ (by kernel_rfl))
            exact one_load _ _ rfl rfl _ _ e (cell_abides Q0.out hb) (by kernel_rfl) ⟨_, rfl, Below.refl _ _, rfl⟩
          · intro vs w' F hb hd hF hl hT
            have e := (hF 8).trans (look_out _ 8 _ _ (by kernel_rfl))
            exact one_move _ rfl (by first | exact Or.inl rfl | exact Or.inr rfl) ⟨_, rfl, Below.refl _ _, e⟩
          · intro vs w' F hb hd hF hl hT
            have e := (hF 9).trans (look_out _ 9 _ _ (by kernel_rfl))
            exact one_field _ _ _ rfl rfl _ _ e (0) (fun w => by kernel_rfl) ⟨_, rfl, Below.refl _ _, rfl⟩
          · intro vs w' F hb hd hF hl hT
            have e := ((hF 24).trans (look_at _ 24 2 _ _ (by kernel_rfl) (by kernel_rfl) hl)).trans (dep_of (Fact := F_qa6 w3.heap.size (W.heap.size + 1) bi i nc cc yn yg ac v7 y.comps) hd 2 (by kernel_rfl))
            exact rg_load 55 _ rfl rfl (bi) (0) [.int .i64 yn, .int .i64 yg] e (KE.out.below hb) _ Try.underlying55 rfl (by kernel_rfl) ⟨_, rfl, Below.refl _ _, rfl⟩
          · intro vs w' F hb hd hF hl hT
            have e := (hF 9).trans (look_out _ 9 _ _ (by kernel_rfl))
            exact one_field _ _ _ rfl rfl _ _ e (2) (fun w => by kernel_rfl) ⟨_, rfl, Below.refl _ _, rfl⟩
          · intro vs w' F hb hd hF hl hT
            have e := ((hF 26).trans (look_at _ 26 4 _ _ (by kernel_rfl) (by kernel_rfl) hl)).trans (dep_of (Fact := F_qa6 w3.heap.size (W.heap.size + 1) bi i nc cc yn yg ac v7 y.comps) hd 4 (by kernel_rfl))
            exact one_load _ _ rfl rfl _ _ e (cell_abides K2.out hb) (by kernel_rfl) ⟨_, rfl, Below.refl _ _, rfl⟩
          · intro vs w' F hb hd hF hl hT
            have ea := (((hF 27).trans (look_at _ 27 5 _ _ (by kernel_rfl) (by kernel_rfl) hl)).trans (dep_of (Fact := F_qa6 w3.heap.size (W.heap.size + 1) bi i nc cc yn yg ac v7 y.comps) hd 5 (by kernel_rfl)))
            refine one_call _ _ rfl rfl (enters_of Try.func86 (by kernel_rfl) rfl) #[.slice ac nc cc] (eval1 ea) ?_
            refine (CC.out w' hb).mono ?_
            rintro e2 w2 ⟨a2, rfl, hs2, hb2⟩
            exact ⟨_, rfl, _, rfl, hb2, a2, w2.heap.size, rfl, (Win.ofUp hs2).lower hb.size (Nat.le_refl _) (Nat.le_refl _)⟩
          · intro vs w' F hb hd hF hl hT
            obtain ⟨a2, h2, e6, hw⟩ := (dep_of (Fact := F_qa6 w3.heap.size (W.heap.size + 1) bi i nc cc yn yg ac v7 y.comps) hd 6 (by kernel_rfl))
            have g0 := (((hF 25).trans (look_at _ 25 3 _ _ (by kernel_rfl) (by kernel_rfl) hl)).trans (dep_of (Fact := F_qa6 w3.heap.size (W.heap.size + 1) bi i nc cc yn yg ac v7 y.comps) hd 3 (by kernel_rfl)))
            have g6 := ((hF 28).trans (look_at _ 28 6 _ _ (by kernel_rfl) (by kernel_rfl) hl)).trans e6
            exact one_build _ _ rfl rfl #[(0, .agg #[.int .i64 yn, .int .i64 yg]), (1, .slice a2 nc nc)] (parts2 g0 g6) (.agg #[.int .i64 yn, .int .i64 yg, .slice a2 nc nc]) (fun w => by kernel_rfl) ⟨_, rfl, Below.refl _ _, a2, h2, rfl, hw⟩
          · intro vs w' F hb hd hF hl hT
            obtain ⟨a2, h2, e7, hw⟩ := (dep_of (Fact := F_qa6 w3.heap.size (W.heap.size + 1) bi i nc cc yn yg ac v7 y.comps) hd 7 (by kernel_rfl))
            have g0 := (((hF 23).trans (look_at _ 23 1 _ _ (by kernel_rfl) (by kernel_rfl) hl)).trans (dep_of (Fact := F_qa6 w3.heap.size (W.heap.size + 1) bi i nc cc yn yg ac v7 y.comps) hd 1 (by kernel_rfl)))
            have g7 := ((hF 29).trans (look_at _ 29 7 _ _ (by kernel_rfl) (by kernel_rfl) hl)).trans e7
            exact one_build _ _ rfl rfl #[(0, .int .i64 (i : Int)), (1, .agg #[.int .i64 yn, .int .i64 yg, .slice a2 nc nc])] (parts2 g0 g7) (.agg #[.int .i64 (i : Int), .int .i64 yn, .int .i64 yg, .slice a2 nc nc]) (fun w => by kernel_rfl) ⟨_, rfl, Below.refl _ _, a2, h2, rfl, hw⟩
          · intro vs w' F hb hd hF hl hT
            obtain ⟨a2, h2, e8, hw⟩ := (dep_of (Fact := F_qa6 w3.heap.size (W.heap.size + 1) bi i nc cc yn yg ac v7 y.comps) hd 8 (by kernel_rfl))
            have g8 := ((hF 30).trans (look_at _ 30 8 _ _ (by kernel_rfl) (by kernel_rfl) hl)).trans e8
            exact rg_slice_row _ 139 _ rfl rfl (i : Int) yn yg a2 nc nc g8 Try.underlying136 (by kernel_rfl) ⟨_, rfl, (Below.refl _ _).alloc (Nat.le_refl _) _, a2, h2, _, rfl, heap_alloc_new _ _, hw.below ((Below.refl _ _).alloc (Nat.le_refl _) _)⟩
        · intro vs8 W8 hl hb hI
          have hv0 : vs8.getD 0 undef = v7 := hI 0 (by omega)
          obtain ⟨a9, h9, g9, hv9, hg9, hw9⟩ := hI 9 (by omega)
          obtain ⟨z0, z1, z2, z3, z4, z5, z6, z7, z8, z9, z10, z11, hvs⟩ := list12 hl
          subst hvs
          replace hv0 : z0 = v7 := hv0
          replace hv9 : z9 = .slice (some ⟨g9, 0, none⟩) 1 1 := hv9
          subst hv0 hv9
          obtain ⟨css, hcss⟩ := HGB.out
          have HCSS := Lib.hid hcss
          have hown := own_below hcss.2.2.1 hb
          have hrl := rowsK_len its wi wo i
          obtain ⟨nr, hnr⟩ : ∃ nr, nr = (rowsK its wi wo i).length := ⟨_, rfl⟩
          rw [← hnr] at hown hrl
          have HNR := Lib.hid hnr
          have HB8 := Lib.hid hb
          have HW9 := Lib.hid hw9
          have hbx3 := lt_of_heap HYB.out
          have hB8 : W.heap.size + 1 + 1 ≤ W8.heap.size := by have := hb.size; omega
          have HOWN := Lib.hid hown
          have hne := own_ne hown (heap_below HYB.out hb) (by decide)
          have HNE := Lib.hid hne
          have HYC := Lib.hid (heap_below HYB.out hb)
          clear hI hl hcss hb hw9 hnr CC Q0 K2 KE hne
          simp only [fillAll, Act.put, List.setIfInBounds_toArray, List.set_cons_succ, List.set_cons_zero, List.drop_succ_cons, List.drop_zero]
          go_wp2_with (at_builtin; go_must (refine wpList_append_blk rfl _ _ 136 rfl (W.heap.size + 1 + 1) 139 (.agg #[.int .i64 0, .int .i64 0, .int .i64 0, .slice none 0 0]) 4 48 Try.underlying136 (by kernel_rfl) rfl (by decide) _ _ _ rfl hown g9 _ _ rfl hg9 rfl rfl (by omega) (by decide) hB8 ?_))
          intro g' cap' w9 hown9 hgr9 hor9 hlt9
          have hyd := heap_gb HYC.out hgr9 (fun e => HNE.out _ e.symm rfl)
          have q0 := cell_of_row _ _ 0 _ _ _ hyd
          simp only [List.getElem?_toArray, List.getElem?_cons_zero] at q0
          have f0 := Mem.frozen_of_row hyd 0
          have hGN : GrowL ERow (W.heap.size + 1 + 1) 139 4 w9 (.slice (some ⟨g', 0, none⟩) (nr + 1) cap') (rowsK its wi wo i ++ [(i, y)]) := by
            have hl1 : W.heap.size + 1 + 1 ≤ w3.heap.size := by omega
            refine HGB.out.push hl1 HB8.out [.int .i64 (i : Int), .int .i64 yn, .int .i64 yg, .slice a9 nc nc] (i, y) rfl ⟨Nat.le_refl _, fun w2 k1 k2 => ⟨a9, ?_, (HW9.out.lower (Nat.le_refl _) HW9.out.1 (Nat.le_refl _)).2 w2 k1 k2⟩⟩ HCSS.out ?_ hgr9 g' rfl hor9
            · rw [HYN.out, HYG.out, HNC.out]
            · rw [← HNR.out]; exact hown9
          have hY10 := heap_set hyd 0 (.slice (some ⟨g', 0, none⟩) (nr + 1) cap')
          have hG10 : GrowL ERow (W.heap.size + 1 + 1) 139 4 (w9.setCell ⟨W.heap.size + 1, 0, none⟩ (.slice (some ⟨g', 0, none⟩) (nr + 1) cap')) (.slice (some ⟨g', 0, none⟩) (nr + 1) cap') (rowsK its wi wo i ++ [(i, y)]) :=
            hGN.frame (by simp) (fun g k1 k2 => Below.heap_setCell w9 ⟨W.heap.size + 1, 0, none⟩ _ g (by show g ≠ W.heap.size + 1; omega))
          have hB10 : Below W.heap.size W (w9.setCell ⟨W.heap.size + 1, 0, none⟩ (.slice (some ⟨g', 0, none⟩) (nr + 1) cap')) :=
            ((HBB.out.trans (HB8.out.mono HBB.out.size)).grown hgr9 (by omega) (fun k hk => by have := (own_lt HOWN.out k hk).1; omega)).setCell (p := ⟨W.heap.size + 1, 0, none⟩) (by show W.heap.size ≤ W.heap.size + 1; omega) _
          have HY10 := Lib.hid (show (w9.setCell ⟨W.heap.size + 1, 0, none⟩ (.slice (some ⟨g', 0, none⟩) (nr + 1) cap')).heap[W.heap.size + 1]? = some (.cells #[.slice (some ⟨g', 0, none⟩) (nr + 1) cap'] 136 (0, 0)) from hY10)
          have HG10 := Lib.hid hG10
          have HB10 := Lib.hid hB10
          rw [← HST.out] at HG10
          clear hown hown9 hgr9 hor9 hlt9 hyd hGN hY10 hG10 hB10 hg9 hrl
          go_wp2_with fail
          go_roundg (m - (i + 1))
          case measure => rw [G2.out]; omega
          case rel => exact ⟨i + 1, _, hlt, rfl, by go_num, HY10, HG10, HB10⟩
    · have hi2 : i = m := by omega
      have HI2 := Lib.hid hi2
      go_wp2_with fail
      go_ret
      rw [HI2.out] at HGR
      obtain ⟨a7, c7, e7, -, -⟩ := HGR.out.slice
      have hy := HY.out
      rw [e7] at hy
      exact ⟨W.heap.size + 1, a7, c7, rfl, HB.out, by omega, hy, (HGR.out.up ERow.at a7 c7 e7).lower (by omega)⟩
end Go.Proofs.Ytlahmcbaiebapaa
