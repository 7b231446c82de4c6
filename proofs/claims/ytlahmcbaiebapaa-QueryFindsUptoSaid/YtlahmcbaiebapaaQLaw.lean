/- QueryFinds: the law's walk. By program (gen_qlaw.py). -/
import Derived.Test.YtlahmcbaiebapaaQFields
import Derived.Test.YtlahmcbaiebapaaSlotE
import Derived.Test.YtlahmcbaiebapaaEqI
import Derived.Test.YtlahmcbaiebapaaWEq
import Derived.Test.YtlahmcbaiebapaaRegAll
import Derived.Test.YtlahmcbaiebapaaRegWide
import Derived.Test.YtlahmcbaiebapaaCollect
namespace Go.Proofs.Ytlahmcbaiebapaa
open Go.ChangeShapes Go.WideShapes Go.ChangeAt Go.RowKit Go.Mem Go.Slt
set_option linter.unusedVariables false
attribute [local go_sem] Oper.semAt_some
theorem pair_rows : (rowsK pairI [1] [0] pairI.length).length = 1 := by decide
theorem pair_smallI : SmallI pairI := by
  refine ⟨by decide, ?_⟩
  intro y hy
  unfold pairI at hy
  simp only [List.mem_cons, List.not_mem_nil, or_false] at hy
  rcases hy with rfl | rfl <;> refine ⟨by decide, ?_⟩ <;> intro c hc <;> simp only [List.mem_cons, List.not_mem_nil, or_false] at hc
  · rcases hc with rfl | rfl <;> decide
  · subst hc; decide
theorem put2 (t : Array Value) (p q : Tmp) (u v : Value) : (#[p, q].zip #[u, v]).foldl (fun t (p, v) => t.setIfInBounds p v) t = (t.setIfInBounds p u).setIfInBounds q v := by simp
theorem item_cells {w : World} {x : Addr} {l : List ItemV} (h : SlAt 3 ItemAt w (some x) l) (i : Nat) (hi : i < l.length) : ∃ xb xo, x = ⟨xb, xo, none⟩ ∧ ∃ a c, CellsK w xb (xo + i * 3) [.int .i64 l[i].n, .int .i64 l[i].gen, .slice a l[i].comps.length c] ∧ SlAt 2 CompAt w a l[i].comps := by
  obtain ⟨y, hy, hb, hc⟩ := h (by omega)
  injection hy with hy
  subst hy
  obtain ⟨xb, xo, sp⟩ := x
  have hsp : sp = none := by
    obtain ⟨f0, _⟩ := hc 0 (by omega)
    simpa [Addr.add] using World.cell?_spot f0
  obtain ⟨e0, e1, a, c, e2, h2⟩ := hc i hi
  subst hsp
  rw [Addr.add_lit] at e0 e1 e2
  refine ⟨xb, xo, rfl, a, c, fun j v hv => ?_, h2⟩
  match j with
  | 0 => cases hv; exact e0
  | 1 => cases hv; exact e1
  | 2 => cases hv; exact e2
  | j + 3 => simp at hv
theorem mem_rowsK {its : List ItemV} {wi wo : List Int} {k qi : Nat} {y : ItemV} (h : (qi, y) ∈ rowsK its wi wo k) (hk : k ≤ its.length) : qi < k ∧ ∃ h : qi < its.length, y = its[qi] := by
  unfold rowsK at h
  obtain ⟨i, hi, e⟩ := List.mem_map.1 h
  have hi2 := List.mem_range.1 (List.mem_filter.1 hi).1
  injection e with e1 e2
  subst e1
  exact ⟨hi2, by omega, by rw [← e2, getD_item its i (by omega)]⟩
theorem own_apart {w : World} {B e1 s1 e2 s2 n1 n2 : Nat} {v1 v2 : Value} {xs1 xs2 : List Value} (h1 : w.ownsRow B e1 s1 v1 n1 xs1) (h2 : w.ownsRow B e2 s2 v2 n2 xs2) (hne : e1 ≠ e2) (g : Nat) (g1 : v1.ownBlock = some g) (g2 : v2.ownBlock = some g) : False := by
  rcases h2.2 with ⟨e, _⟩ | ⟨g', cap, cur, e, _, hgb, _⟩
  · rw [e] at g2; cases g2
  · rw [e] at g2
    obtain rfl : g' = g := by simpa [Value.ownBlock] using g2
    exact own_ne h1 hgb hne g' g1 rfl
theorem gb_cells {w w' : World} {B e s n k : Nat} {v : Value} {xs : List Value} {cs : Array Value} {t : TypeId} (h : w.ownsRow B e s v n xs) (hg : w.grownBy w' v.ownBlock) (hk : w.heap[k]? = some (.cells cs t (0, 0))) (hne : e ≠ t) : w'.heap[k]? = some (.cells cs t (0, 0)) :=
  (hg.block k (lt_of_heap hk) (fun e => own_ne h hk hne k e.symm rfl)).trans hk
/-- the three lists of the law's own -/
structure Tri (B : Nat) (ws : List Int) (es : List (Int × Int)) (vs : List Int) (v1 v2 v3 : Value) (w : World) : Prop where
  a : w.ownsRow B 3 1 v1 ws.length (vints .i64 ws)
  b : w.ownsRow B 55 2 v2 es.length (entC es)
  c : w.ownsRow B 3 1 v3 vs.length (vints .i64 vs)
  ne : ∀ g, v1.ownBlock = some g → v3.ownBlock = some g → False
theorem Tri.nil (B : Nat) (w : World) : Tri B [] [] [] (.slice none 0 0) (.slice none 0 0) (.slice none 0 0) w := ⟨World.ownsRow_nil _ _ _ _, World.ownsRow_nil _ _ _ _, World.ownsRow_nil _ _ _ _, fun g h => by simp [Value.ownBlock] at h⟩
section
variable {B g cap : Nat} {ws vs : List Int} {es : List (Int × Int)} {v1 v2 v3 : Value} {w w' : World}
theorem Tri.below (h : Tri B ws es vs v1 v2 v3 w) (hb : Below w.heap.size w w') : Tri B ws es vs v1 v2 v3 w' := ⟨own_below h.a hb, own_below h.b hb, own_below h.c hb, h.ne⟩
theorem Tri.p1 (h : Tri B ws es vs v1 v2 v3 w) {i : Int} (ho : w'.ownsRow B 3 1 (.slice (some ⟨g, 0, none⟩) (ws.length + 1) cap) (ws.length + 1) (vints .i64 ws ++ (#[Value.int .i64 i] : Array Value).toList)) (hg : w.grownBy w' v1.ownBlock) (hor : v1.ownBlock = some g ∨ g = w.heap.size + 1) :
    Tri B (ws ++ [i]) es vs (.slice (some ⟨g, 0, none⟩) (ws.length + 1) cap) v2 v3 w' :=
  ⟨by rw [vints_snoc] at ho; rw [List.length_append]; exact ho, own_keep h.b fun k hk => hg.block k (own_lt h.b k hk).2 (fun e => own_apart h.a h.b (by decide) k e.symm hk), own_keep h.c fun k hk => hg.block k (own_lt h.c k hk).2 (fun e => h.ne k e.symm hk), fun k h1 h2 => by
    have e : g = k := by simpa [Value.ownBlock] using h1
    subst e
    rcases hor with e | e
    · exact h.ne _ e h2
    · have := (own_lt h.c _ h2).2; omega⟩
theorem Tri.p2 (h : Tri B ws es vs v1 v2 v3 w) {i j : Int} (ho : w'.ownsRow B 55 2 (.slice (some ⟨g, 0, none⟩) (es.length + 1) cap) (es.length + 1) (entC es ++ (#[Value.int .i64 i, .int .i64 j] : Array Value).toList)) (hg : w.grownBy w' v2.ownBlock) :
    Tri B ws (es ++ [(i, j)]) vs v1 (.slice (some ⟨g, 0, none⟩) (es.length + 1) cap) v3 w' :=
  ⟨own_keep h.a fun k hk => hg.block k (own_lt h.a k hk).2 (fun e => own_apart h.b h.a (by decide) k e.symm hk), by rw [entC_snoc] at ho; rw [List.length_append]; exact ho, own_keep h.c fun k hk => hg.block k (own_lt h.c k hk).2 (fun e => own_apart h.b h.c (by decide) k e.symm hk), h.ne⟩
theorem Tri.p3 (h : Tri B ws es vs v1 v2 v3 w) {i : Int} (ho : w'.ownsRow B 3 1 (.slice (some ⟨g, 0, none⟩) (vs.length + 1) cap) (vs.length + 1) (vints .i64 vs ++ (#[Value.int .i64 i] : Array Value).toList)) (hg : w.grownBy w' v3.ownBlock) (hor : v3.ownBlock = some g ∨ g = w.heap.size + 1) :
    Tri B ws es (vs ++ [i]) v1 v2 (.slice (some ⟨g, 0, none⟩) (vs.length + 1) cap) w' :=
  ⟨own_keep h.a fun k hk => hg.block k (own_lt h.a k hk).2 (fun e => h.ne k hk e.symm), own_keep h.b fun k hk => hg.block k (own_lt h.b k hk).2 (fun e => own_apart h.c h.b (by decide) k e.symm hk), by rw [vints_snoc] at ho; rw [List.length_append]; exact ho, fun k h1 h2 => by
    have e : g = k := by simpa [Value.ownBlock] using h2
    subst e
    rcases hor with e | e
    · exact h.ne _ h1 e
    · have := (own_lt h.a _ h1).2; omega⟩
end
def fdJ (rk rf : Int) (y : ItemV) (c : CompV) (t : Nat) : List FdV := if c.kind = rk ∧ 0 ≤ rf ∧ rf < t then [((y.n, y.gen), c.vals.getD rf.toNat 0)] else []
theorem fdJ_zero (rk rf : Int) (y : ItemV) (c : CompV) : fdJ rk rf y c 0 = [] := if_neg (fun h => by have := h.2; omega)
theorem fdJ_all (rk rf : Int) (y : ItemV) (c : CompV) : fdJ rk rf y c c.vals.length = fd rk rf y c := rfl
theorem fdJ_no {rk rf : Int} {y : ItemV} {c : CompV} {t : Nat} (h : ¬ (c.kind = rk ∧ (t : Int) = rf)) : fdJ rk rf y c (t + 1) = fdJ rk rf y c t := by
  unfold fdJ
  by_cases hk : c.kind = rk
  · have hne : (t : Int) ≠ rf := fun e => h ⟨hk, e⟩
    by_cases h1 : 0 ≤ rf ∧ rf < (t : Int)
    · rw [if_pos ⟨hk, h1.1, by have := h1.2; omega⟩, if_pos ⟨hk, h1⟩]
    · rw [if_neg (fun q => h1 ⟨q.2.1, by have := q.2.2; omega⟩), if_neg (fun q => h1 q.2)]
  · rw [if_neg (fun q => hk q.1), if_neg (fun q => hk q.1)]
theorem fdJ_yes {rk rf : Int} {y : ItemV} {c : CompV} {t : Nat} (hk : c.kind = rk) (hr : (t : Int) = rf) : fdJ rk rf y c (t + 1) = fdJ rk rf y c t ++ [((y.n, y.gen), c.vals.getD t 0)] := by
  unfold fdJ
  rw [if_pos ⟨hk, by omega, by omega⟩, if_neg (fun q => by have := q.2.2; omega)]
  simp [← hr]
theorem fdJ_len (rk rf : Int) (y : ItemV) (c : CompV) (t : Nat) : (fdJ rk rf y c t).length ≤ 1 := by unfold fdJ; split <;> simp
def wk (its : List ItemV) (wi wo : List Int) (k : Nat) : List Int := (rowsK its wi wo k).map fun x => (x.1 : Int)
theorem wk_yes {its : List ItemV} {wi wo : List Int} {k : Nat} (h : matchB (its.getD k default).comps wi wo = true) : wk its wi wo (k + 1) = wk its wi wo k ++ [(k : Int)] := by
  unfold wk; rw [rowsK_succ, if_pos h, List.map_append]; rfl
theorem wk_no {its : List ItemV} {wi wo : List Int} {k : Nat} (h : matchB (its.getD k default).comps wi wo = false) : wk its wi wo (k + 1) = wk its wi wo k := by
  unfold wk; rw [rowsK_succ, if_neg (by rw [h]; decide), List.append_nil]
theorem ents_one (L : List FdV) (a b q : Int) : entsOf L ++ [(a, b)] = entsOf (L ++ [((a, b), q)]) := by simp [entsOf]
theorem vals_one (L : List FdV) (a b q : Int) : valsOf L ++ [q] = valsOf (L ++ [((a, b), q)]) := by simp [valsOf]
theorem results_cell1 {P : Program} {fn : Func} {p : Tmp} {ty : TypeId} (h : fn.results = #[.cell p ty]) (tmps : Array Value) (w : World) (g : Nat) (v : Value) (hp : tmps.getD p undef = .pointer (some ⟨g, 0, none⟩)) (hl : (loadVar ty ⟨g, 0, none⟩).run P w = .ok v w) :
    (results fn tmps).run P w = .ok v w := by
  have hp' : tmps[p]?.getD undef = .pointer (some ⟨g, 0, none⟩) := by simpa using hp
  simp [results, h, hp', asAddr, hl]
theorem loadVar_bool {w : World} {g : Nat} {v : Value} (h : w.cell? ⟨g, 0, none⟩ = some v) : (loadVar 4 ⟨g, 0, none⟩).run Try.prog w = .ok v w := by
  have hagg : (isAgg 4).run Try.prog w = .ok false w := by
    unfold isAgg
    rw [Sem.run_bind, run_underlying Try.underlying4 w]
    rfl
  simp [loadVar, Sem.run_bind, hagg, h]
theorem list19 {α : Type} {vs : List α} (h : vs.length = 19) : ∃ x0 x1 x2 x3 x4 x5 x6 x7 x8 x9 x10 x11 x12 x13 x14 x15 x16 x17 x18, vs = [x0, x1, x2, x3, x4, x5, x6, x7, x8, x9, x10, x11, x12, x13, x14, x15, x16, x17, x18] := by
  obtain ⟨x0, t0, rfl, h0⟩ := cons_of h
  obtain ⟨x1, t1, rfl, h1⟩ := cons_of h0
  obtain ⟨x2, t2, rfl, h2⟩ := cons_of h1
  obtain ⟨x3, t3, rfl, h3⟩ := cons_of h2
  obtain ⟨x4, t4, rfl, h4⟩ := cons_of h3
  obtain ⟨x5, t5, rfl, h5⟩ := cons_of h4
  obtain ⟨x6, t6, rfl, h6⟩ := cons_of h5
  obtain ⟨x7, t7, rfl, h7⟩ := cons_of h6
  obtain ⟨x8, t8, rfl, h8⟩ := cons_of h7
  obtain ⟨x9, t9, rfl, h9⟩ := cons_of h8
  obtain ⟨x10, t10, rfl, h10⟩ := cons_of h9
  obtain ⟨x11, t11, rfl, h11⟩ := cons_of h10
  obtain ⟨x12, t12, rfl, h12⟩ := cons_of h11
  obtain ⟨x13, t13, rfl, h13⟩ := cons_of h12
  obtain ⟨x14, t14, rfl, h14⟩ := cons_of h13
  obtain ⟨x15, t15, rfl, h15⟩ := cons_of h14
  obtain ⟨x16, t16, rfl, h16⟩ := cons_of h15
  obtain ⟨x17, t17, rfl, h17⟩ := cons_of h16
  obtain ⟨x18, t18, rfl, h18⟩ := cons_of h17
  exact ⟨x0, x1, x2, x3, x4, x5, x6, x7, x8, x9, x10, x11, x12, x13, x14, x15, x16, x17, x18, by rw [List.eq_nil_of_length_eq_zero h18]⟩
def F_ql7 (b4 bt xb xo qi m c nc cw : Nat) (yn yg : Int) (ac aw : Option Addr) (jq : Nat) (v : Value) (w : World) : Prop :=
  match jq with
  | 0 => v = .int .i64 (qi : Int)
  | 1 => v = .bool false
  | 2 => v = .bool false
  | 3 => v = .int .i64 (qi : Int)
  | 4 => v = .pointer (some ⟨b4, 2, none⟩)
  | 5 => v = .slice (some ⟨xb, xo, none⟩) m c
  | 6 => v = .int .i64 (m : Int)
  | 7 => v = .bool false
  | 8 => v = .bool false
  | 9 => v = .bool false
  | 10 => v = .agg #[.int .i64 yn, .int .i64 yg, .slice ac nc nc]
  | 11 => v = .pointer (some ⟨b4, 2, none⟩)
  | 12 => v = .slice (some ⟨xb, xo, none⟩) m c
  | 13 => v = .int .i64 (qi : Int)
  | 14 => v = .pointer (some ⟨xb, xo + qi * 3, none⟩)
  | 15 => v = .agg #[.int .i64 yn, .int .i64 yg, .slice aw nc cw]
  | 16 => v = .bool true
  | 17 => v = .bool false
  | 18 => v = .bool false
  | _ => True
theorem F_ql7_mono (b4 bt xb xo qi m c nc cw : Nat) (yn yg : Int) (ac aw : Option Addr) : Facts (F_ql7 b4 bt xb xo qi m c nc cw  yn yg  ac aw ) := ⟨by
  intro jq v w w' h hb
  unfold F_ql7 at h ⊢
  split at h
  all_goals first
    | exact h
    | trivial⟩


set_option maxRecDepth 100000 in
set_option maxHeartbeats 32000000 in
theorem walk_QueryFinds (its : List ItemV) (v : Value) (ai ao : Option Addr) (ni ci no co : Nat) (wi wo : List Int) (rk rf : Int) (hni : wi.length = ni) (hno : wo.length = no) (h2 : ni ≤ 17592186044000) (h3 : no ≤ 17592186044000) (hsm : SmallI its) (hT : (fdA rk rf its).length ≤ 1048576)
    (hwc : ∀ y ∈ its, ∀ c ∈ y.comps, (Lit.int .i64 c.kind).wf = true) (hwi : ∀ k ∈ wi, (Lit.int .i64 k).wf = true) (hwo : ∀ k ∈ wo, (Lit.int .i64 k).wf = true) (w : World) (hv : WorldI w v its) (hzi : IntsAt .i64 w ai wi) (hzo : IntsAt .i64 w ao wo) :
    Calls Try.prog 5 #[v, .slice ai ni ci, .slice ao no co, .agg #[.int .i64 rk, .int .i64 rf]] w fun e w' => e = .returned (.bool true) ∧ Below w.heap.size w w' := by
  obtain ⟨ak, nk, ck, ag, ng, cg, a, c, rfl, hz⟩ := hv
  obtain ⟨m, hm⟩ : ∃ m, m = its.length := ⟨_, rfl⟩
  have hm20 : m ≤ 1048576 := by rw [hm]; exact hsm.1
  have hb0 := (Below.refl w.heap.size w).alloc (Nat.le_refl _) (.cells #[.slice ak nk ck, .slice ag ng cg, .slice a its.length c] 70)
  have hb1 := hb0.alloc (by simp) (.cells #[.int .i64 rk, .int .i64 rf] 72)
  have hb2 := hb1.alloc (by simp; omega) (.cells #[.bool false] 4)
  have hx4 := heap_keep (row_first w (.cells #[.slice ak nk ck, .slice ag ng cg, .slice a its.length c] 70) (.cells #[.int .i64 rk, .int .i64 rf] 72)) (.cells #[.bool false] 4)
  have hx7 := heap_keep (row_second w (.cells #[.slice ak nk ck, .slice ag ng cg, .slice a its.length c] 70) (.cells #[.int .i64 rk, .int .i64 rf] 72)) (.cells #[.bool false] 4)
  have hx8 := heap_alloc_new ((w.alloc (.cells #[.slice ak nk ck, .slice ag ng cg, .slice a its.length c] 70)).alloc (.cells #[.int .i64 rk, .int .i64 rf] 72)) (.cells #[.bool false] 4)
  simp only [World.size_alloc] at hx8
  rw [← hm] at hb2 hx4 hx7 hx8 ⊢
  have HB2 := Lib.hid hb2
  have HX4 := Lib.hid hx4
  have HX7 := Lib.hid hx7
  have HX8 := Lib.hid hx8
  have HZ := Lib.hid hz
  have HM := Lib.hid hm
  have HNI := Lib.hid hni
  have HNO := Lib.hid hno
  have HZI := Lib.hid hzi
  have HZO := Lib.hid hzo
  have HSM := Lib.hid hsm
  have HT := Lib.hid hT
  have HWC := Lib.hid hwc
  have HWI := Lib.hid hwi
  have HWO := Lib.hid hwo
  clear hb0 hb1 hb2 hx4 hx7 hx8 hz hm hni hno hzi hzo hsm hT hwc hwi hwo
  refine (callsIn_wide (n := 3)).1 (callsIn_of_wp_marks Try.func5 rfl trivial ?_ rfl)
  refine wpIn_wide.2 ?_
  simp only [Try.ntmps5, List.size_toArray, List.length_cons, List.length_nil, Nat.reduceAdd, Nat.reduceSub, Array.replicate_succ, Array.replicate_zero, List.push_toArray, List.append_toArray, List.nil_append, List.cons_append]
  go_wp2_with fail
  obtain ⟨w0, hw0⟩ : ∃ w0, w0 = ((w.alloc (.cells #[.slice ak nk ck, .slice ag ng cg, .slice a m c] 70)).alloc (.cells #[.int .i64 rk, .int .i64 rf] 72)).alloc (.cells #[.bool false] 4) := ⟨_, rfl⟩
  rw [← hw0] at HB2 HX4 HX7 HX8 ⊢
  clear hw0
  obtain ⟨b4, hb4⟩ : ∃ b, b = w.heap.size := ⟨_, rfl⟩
  obtain ⟨b7, hb7⟩ : ∃ b, b = w.heap.size + 1 := ⟨_, rfl⟩
  obtain ⟨b8, hb8⟩ : ∃ b, b = w.heap.size + 1 + 1 := ⟨_, rfl⟩
  rw [← hb8] at HX8 ⊢
  rw [← hb7] at HX7 ⊢
  have HB8 := Lib.hid hb8
  rw [show (Value.pointer (some ⟨w.heap.size, 0, none⟩)) = .pointer (some ⟨b4, 0, none⟩) from by rw [hb4]]
  rw [← hb4] at HX4
  have HB4 := Lib.hid hb4
  clear hb4 hb7 hb8
  refine (pair_w w0).mono ?_
  rintro e w1 ⟨⟨pv, rfl, hpv⟩, hbp⟩
  have HPV := Lib.hid hpv
  have HBP := Lib.hid hbp
  clear hpv hbp
  have HX4a := Lib.hid (heap_below HX4.out HBP.out)
  have HX7a := Lib.hid (heap_below HX7.out HBP.out)
  have HX8a := Lib.hid (heap_below HX8.out HBP.out)
  have HB1 := Lib.hid (HB2.out.trans (HBP.out.mono HB2.out.size))
  go_wp2_with fail
  have hl2 := row_first w1 (.cells #[.int .i64 1] 3) (.cells #[.int .i64 0] 3)
  have hl3 := row_second w1 (.cells #[.int .i64 1] 3) (.cells #[.int .i64 0] 3)
  have hbl := ((Below.refl _ w1).alloc (Nat.le_refl _) (.cells #[.int .i64 1] 3)).alloc (by simp) (.cells #[.int .i64 0] 3)
  have CC := q_Count pairI pv (some ⟨w1.heap.size, 0, none⟩) (some ⟨w1.heap.size + 1, 0, none⟩) 1 1 1 1 [1] [0] rfl rfl (by decide) (by decide) pair_smallI _ (HPV.out.below hbl) (RowB.ints (k := .i64) (zs := [1]) (show RowB _ _ 3 .i64 [1] from hl2)) (RowB.ints (k := .i64) (zs := [0]) (show RowB _ _ 3 .i64 [0] from hl3))
  rw [pair_rows] at CC
  have HCC := Lib.hid CC
  have HBL := Lib.hid hbl
  clear hl2 hl3 hbl CC
  refine HCC.out.mono ?_
  rintro e w2 ⟨rfl, hb⟩
  have hbl2 := HBL.out.trans (hb.mono (by simp; omega))
  have HX4b := Lib.hid (heap_below HX4a.out hbl2)
  have HX7b := Lib.hid (heap_below HX7a.out hbl2)
  have HX8b := Lib.hid (heap_below HX8a.out hbl2)
  have HBb := Lib.hid (HB1.out.trans (hbl2.mono HB1.out.size))
  clear hb hbl2 HCC HBL HX4 HX7 HX8 HX4a HX7a HX8a HB1 HB2 HPV HBP
  rw [show (((1 : Nat) : Int)) = 1 from rfl]
  have y0 := cell_of_row _ _ 0 _ _ _ HX4b.out
  have y1 := cell_of_row _ _ 1 _ _ _ HX4b.out
  have y2 := cell_of_row _ _ 2 _ _ _ HX4b.out
  simp only [List.getElem?_toArray, List.getElem?_cons_zero, List.getElem?_cons_succ] at y0 y1 y2
  have hl4 := lt_of_heap HX4b.out
  go_wp2_with fail
  have hbn := (Below.refl _ w2).alloc (Nat.le_refl _) (.cells #[.slice none 0 0] 23)
  have hx9 := heap_alloc_new w2 (.cells #[.slice none 0 0] 23)
  have HX4c := Lib.hid (heap_below HX4b.out hbn)
  have HX7c := Lib.hid (heap_below HX7b.out hbn)
  have HX8c := Lib.hid (heap_below HX8b.out hbn)
  have HBc := Lib.hid (HBb.out.trans (hbn.mono HBb.out.size))
  obtain ⟨w3, hw3⟩ : ∃ w3, w3 = w2.alloc (.cells #[.slice none 0 0] 23) := ⟨_, rfl⟩
  rw [← hw3] at hx9 HX4c HX7c HX8c HBc ⊢
  obtain ⟨b9, hb9⟩ : ∃ b, b = w2.heap.size := ⟨_, rfl⟩
  rw [← hb9] at hx9 ⊢
  have HX9c := Lib.hid hx9
  have hwb9 : w.heap.size ≤ b9 := by rw [hb9]; exact HBb.out.size
  have h49 : b4 < b9 := by rw [hb9]; exact lt_of_heap HX4b.out
  have h79 : b7 < b9 := by rw [hb9]; exact lt_of_heap HX7b.out
  have h89 : b8 < b9 := by rw [hb9]; exact lt_of_heap HX8b.out
  clear hbn hx9 hw3 hb9 HX4b HX7b HX8b HBb y0 y1 y2 hl4
  have CA := q_All its (.agg #[.slice ak nk ck, .slice ag ng cg, .slice a m c]) ai ao ni ci no co wi wo HNI.out HNO.out h2 h3 HSM.out w3 ⟨ak, nk, ck, ag, ng, cg, a, c, by rw [HM.out], HZ.out.below ItemAt.abides HBc.out⟩ (HZI.out.below HBc.out) (HZO.out.below HBc.out)
  rw [← HM.out] at CA
  have hrs := rows_small (wi := wi) (wo := wo) HSM.out m (by rw [HM.out]; exact Nat.le_refl _)
  have hrl := rowsK_len its wi wo m
  obtain ⟨rows, hrows⟩ : ∃ rows, rows = rowsK its wi wo m := ⟨_, rfl⟩
  rw [← hrows] at hrs hrl CA
  obtain ⟨nr, hnr⟩ : ∃ nr, nr = rows.length := ⟨_, rfl⟩
  have hr20 : nr ≤ 1048576 := by omega
  have HRS := Lib.hid hrs
  have HNR := Lib.hid hnr
  have HROWS := Lib.hid hrows
  have HCA := Lib.hid CA
  clear hrs hrl hnr hrows CA
  refine HCA.out.mono ?_
  rintro e w4 ⟨bx, ra, rc, rfl, g1, g2, g3, g4⟩
  have HX4 := Lib.hid (heap_below HX4c.out g1)
  have HX7 := Lib.hid (heap_below HX7c.out g1)
  have HX8 := Lib.hid (heap_below HX8c.out g1)
  have HX9 := Lib.hid (heap_below HX9c.out g1)
  have HBW := Lib.hid (HBc.out.trans (g1.mono HBc.out.size))
  have h93 := lt_of_heap HX9c.out
  rw [← HNR.out] at g3
  have HG3 := Lib.hid g3
  have HG4 := Lib.hid g4
  have hlo := g2
  have hw4s := HBW.out.size
  have h34 := g1.size
  clear g1 g2 g3 g4 HCA HX4c HX7c HX8c HX9c HBc
  go_wp2_with fail
  have HNL := Lib.hid (show w3.heap.size ≤ bx ∧ nr ≤ 1048576 from ⟨hlo, hr20⟩)
  refine (wpIn_wide (n := 3)).1 (wpIn_rangeFunc_ownM rfl (by omega) (gf := 87) (lb := #[.pointer (some ⟨bx, 0, none⟩)]) rfl trivial (enters_of Try.func87 (by kernel_rfl) rfl)
    (all_q (3 - 1) (by omega) bx w3.heap.size ra rc rows nr HNR.out.symm hr20 HRS.out w4 hlo HG3.out HG4.out) KeepB.trans (KeepB.put (Nat.le_refl _)) (fun W Wa h hb => KeepB.of_below hb h)
    (fun x b W => ∃ bt, w4.heap.size ≤ bt ∧ b = ({ tmps := #[.agg #[.slice ak nk ck, .slice ag ng cg, .slice a m c], .slice ai ni ci, .slice ao no co, .agg #[.int .i64 rk, .int .i64 rf], .pointer (some ⟨b4, 0, none⟩), undef, undef, .pointer (some ⟨b7, 0, none⟩), .pointer (some ⟨b8, 0, none⟩), .pointer (some ⟨b9, 0, none⟩), .int .i64 (x.1.1 : Int), .pointer (some ⟨bt, 0, none⟩), undef, undef, undef, undef, undef, undef, undef, undef, undef, undef, undef, undef, pv, .slice (some ⟨w1.heap.size, 0, none⟩) 1 1, .slice (some ⟨w1.heap.size + 1, 0, none⟩) 1 1, .int .i64 1, .bool false, .agg #[.slice ak nk ck, .slice ag ng cg, .slice a m c], .slice ai ni ci, .slice ao no co, .func (.func 87) #[] #[.pointer (some ⟨bx, 0, none⟩)], .int .i64 (x.1.1 : Int), .agg #[.int .i64 x.1.2.n, .int .i64 x.1.2.gen, .slice x.2 x.1.2.comps.length x.1.2.comps.length], undef, undef, undef, undef, undef, undef, undef, undef, undef, undef, undef, undef, undef, undef, undef, undef, undef, undef, undef, undef, undef, undef, undef, undef, undef, undef, undef, undef, undef, undef, undef, undef, undef, undef, undef, undef, undef, undef, undef, undef, undef, undef, undef, undef, undef, undef, undef, undef, undef, undef, undef, undef, undef, undef, undef, undef, undef, undef, undef, undef, undef, undef, undef, undef, undef, undef, undef, undef, undef, undef, undef, undef, undef, undef, undef, undef, undef, undef, undef, undef, undef, undef, undef, undef, undef, undef, undef, undef, undef, undef, undef, undef, undef, undef, undef, undef, undef, undef, undef, undef, undef, undef, undef, undef, undef, undef, undef, undef, undef, undef, undef, undef], defers := [] } : Act) ∧ W.heap[bt]? = some (.cells #[.int .i64 x.1.2.n, .int .i64 x.1.2.gen, .slice x.2 x.1.2.comps.length x.1.2.comps.length] 80 (0, 0)) ∧ CQ rows x W)
    (fun W l o o' x b _ hl ho _ h => by obtain ⟨bt, h1, h2, h3, h4⟩ := h; exact ⟨bt, h1, h2, (World.putObj_heap_other (by rintro rfl; rw [hl] at h3; cases h3; cases ho)).trans h3, h4.put o' hl ho⟩)
    (Below.refl _ _) (fun _ => rfl)
    (fun pre W => (∃ v, Boxed W b9 23 v ∧ W.ownsRow w4.heap.size 3 1 v pre.length (vints .i64 (pre.map fun x => (x.1.1 : Int))) ∧ True) ∧ Below b9 w4 W)
    (fun _ _ _ => False)
    (OwnFrom.and (Own.from (holdsRow_own w4.heap.size b9 23 3 1 (fun pre : List HandQ => pre.length) (fun pre => vints .i64 (pre.map fun x => (x.1.1 : Int))) (fun _ _ => True)) _) (ownFrom_below (by omega) (by omega)))
    (fun _ _ _ _ _ hs _ _ => hs)
    ⟨⟨_, HX9.out, World.ownsRow_nil _ _ _ _, trivial⟩, Below.refl _ _⟩ ?assign ?body ?done ?stop)
  case assign =>
    intro l x W K hsz hcx hK
    obtain ⟨⟨qi, y⟩, ac⟩ := x
    rw [show encQ ((qi, y), ac) = #[.int .i64 (qi : Int), .agg #[.int .i64 y.n, .int .i64 y.gen, .slice ac y.comps.length y.comps.length]] from rfl, put2]
    simp only [List.setIfInBounds_toArray, List.set_cons_succ, List.set_cons_zero]
    gi_wp2
    exact hK _ _ ⟨W.heap.size, hsz, rfl, heap_alloc_new _ _, hcx.1, hcx.2.below CompAt.abides ((Below.refl _ _).alloc (Nat.le_refl _) _)⟩ ((Below.refl _ _).alloc (Nat.le_refl _) _)
  case body =>
    rintro l pre ⟨⟨qi, y⟩, ac⟩ b W ⟨⟨v, hv, hrow, _⟩, hB⟩ ⟨bt, hbt, rfl, hit, hcm, hcs⟩ hlt
    have hpl : pre.length ≤ 1048576 := by have := HNL.out.2; omega
    have hit : W.heap[bt]? = some (.cells #[.int .i64 y.n, .int .i64 y.gen, .slice ac y.comps.length y.comps.length] 80 (0, 0)) := hit
    have hcs : SlAt 2 CompAt W ac y.comps := hcs
    have hcm2 : (qi, y) ∈ rowsK its wi wo m := by rw [← HROWS.out]; exact hcm
    obtain ⟨hqm, hql, hyq⟩ := mem_rowsK hcm2 (by rw [HM.out]; exact Nat.le_refl _)
    have hBw : Below w.heap.size w W := HBW.out.trans (hB.mono hwb9)
    obtain ⟨x, rfl, -, -⟩ := (HZ.out.below ItemAt.abides hBw) (by omega)
    obtain ⟨xb, xo, rfl, aw, cw, hcl, hco⟩ := item_cells (HZ.out.below ItemAt.abides hBw) qi hql
    rw [← hyq] at hcl hco
    have hsy := HSM.out.2 y (by rw [hyq]; exact List.getElem_mem _)
    have hc4 : W.cell? ⟨b4, 2, none⟩ = some (.slice (some ⟨xb, xo, none⟩) m c) := by rw [cell_of_row _ _ 2 _ _ _ ((hB.block b4 h49).trans HX4.out)]; rfl
    obtain ⟨yn, hyn⟩ : ∃ q, q = y.n := ⟨_, rfl⟩
    obtain ⟨yg, hyg⟩ : ∃ q, q = y.gen := ⟨_, rfl⟩
    obtain ⟨nc, hnc⟩ : ∃ q, q = y.comps.length := ⟨_, rfl⟩
    have CS := Lib.hid (fun w' (hb : Below W.heap.size W w') => same_item_r y y ac aw nc nc nc cw hnc.symm hnc.symm (by rw [hnc]; exact hsy.1) (by rw [hnc]; exact hsy.1) hsy.2 hsy.2 w' (hcs.below CompAt.abides hb) (hco.below CompAt.abides hb))
    rw [decide_eq_true rfl, ← hyn, ← hyg] at CS
    rw [← hyn, ← hyg, ← hnc] at hcl hit
    dsimp only
    rw [← hyn, ← hyg, ← hnc]
    have HIT := Lib.hid (show CellsK W bt 0 [.int .i64 yn, .int .i64 yg, .slice ac nc nc] from CellsK.row hit)
    have HCL := Lib.hid hcl
    have HC4 := Lib.hid hc4
    have HRW := Lib.hid hrow
    have HV := Lib.hid hv
    have HBB := Lib.hid hB
    have hE := hB.size
    clear hit hcl hc4 hrow hv hco hcs hcm hcm2 hyn hyg hnc hsy hyq hBw hlt
    gi_wp2
    refine wpIn_region_wide rfl (by rintro ⟨_, _, h⟩; exact h) (by kernel_rfl) ?_
    refine any_facts_t 19 (by kernel_rfl) (F_ql7 b4 bt xb xo qi m c nc cw yn yg ac aw) (F_ql7_mono b4 bt xb xo qi m c nc cw yn yg ac aw) ?_ ?_
    · refine ⟨?_, ?_, ?_, ?_, ?_, ?_, ?_, ?_, ?_, ?_, ?_, ?_, ?_, ?_, ?_, ?_, ?_, ?_, ?_, trivial⟩
      · intro vs w' F hb hd hF hl hT
        have e := (hF 10).trans (look_out _ 10 _ _ (by kernel_rfl))
        exact one_move _ rfl (by first | exact Or.inl rfl | exact Or.inr rfl) ⟨_, rfl, Below.refl _ _, e⟩
      · intro vs w' F hb hd hF hl hT
        have e1 := ((hF 35).trans (look_at _ 35 0 _ _ (by kernel_rfl) (by kernel_rfl) hl)).trans (dep_of (Fact := F_ql7 b4 bt xb xo qi m c nc cw yn yg ac aw) hd 0 (by kernel_rfl))
        exact rg_lss _ _ _ _ rfl rfl .i64 ((qi : Int)) (0) false e1 rfl (decide_eq_false (by omega)) ⟨_, rfl, Below.refl _ _, rfl⟩
      · intro vs w' F hb hd hF hl hT
        have e := ((hF 36).trans (look_at _ 36 1 _ _ (by kernel_rfl) (by kernel_rfl) hl)).trans (dep_of (Fact := F_ql7 b4 bt xb xo qi m c nc cw yn yg ac aw) hd 1 (by kernel_rfl))
        exact one_move _ rfl (by first | exact Or.inl rfl | exact Or.inr rfl) ⟨_, rfl, Below.refl _ _, e⟩
      · intro vs w' F hb hd hF hl hT
        have eg := ((hF 37).trans (look_at _ 37 2 _ _ (by kernel_rfl) (by kernel_rfl) hl)).trans (dep_of (Fact := F_ql7 b4 bt xb xo qi m c nc cw yn yg ac aw) hd 2 (by kernel_rfl))
        refine wpList_on rfl (t := 37) (by kernel_rfl) eg ?_
        have e := (hF 10).trans (look_out _ 10 _ _ (by kernel_rfl))
        exact one_move _ rfl (by first | exact Or.inl rfl | exact Or.inr rfl) ⟨_, rfl, Below.refl _ _, e⟩
      · intro vs w' F hb hd hF hl hT
        have eg := ((hF 37).trans (look_at _ 37 2 _ _ (by kernel_rfl) (by kernel_rfl) hl)).trans (dep_of (Fact := F_ql7 b4 bt xb xo qi m c nc cw yn yg ac aw) hd 2 (by kernel_rfl))
        refine wpList_on rfl (t := 37) (by kernel_rfl) eg ?_
        have e := (hF 4).trans (look_out _ 4 _ _ (by kernel_rfl))
        exact one_field _ _ _ rfl rfl _ _ e (2) (fun w => by kernel_rfl) ⟨_, rfl, Below.refl _ _, rfl⟩
      · intro vs w' F hb hd hF hl hT
        have eg := ((hF 37).trans (look_at _ 37 2 _ _ (by kernel_rfl) (by kernel_rfl) hl)).trans (dep_of (Fact := F_ql7 b4 bt xb xo qi m c nc cw yn yg ac aw) hd 2 (by kernel_rfl))
        refine wpList_on rfl (t := 37) (by kernel_rfl) eg ?_
        have e := ((hF 39).trans (look_at _ 39 4 _ _ (by kernel_rfl) (by kernel_rfl) hl)).trans (dep_of (Fact := F_ql7 b4 bt xb xo qi m c nc cw yn yg ac aw) hd 4 (by kernel_rfl))
        exact one_load _ _ rfl rfl _ _ e (cell_abides HC4.out hb) (by kernel_rfl) ⟨_, rfl, Below.refl _ _, rfl⟩
      · intro vs w' F hb hd hF hl hT
        have eg := ((hF 37).trans (look_at _ 37 2 _ _ (by kernel_rfl) (by kernel_rfl) hl)).trans (dep_of (Fact := F_ql7 b4 bt xb xo qi m c nc cw yn yg ac aw) hd 2 (by kernel_rfl))
        refine wpList_on rfl (t := 37) (by kernel_rfl) eg ?_
        have e := ((hF 40).trans (look_at _ 40 5 _ _ (by kernel_rfl) (by kernel_rfl) hl)).trans (dep_of (Fact := F_ql7 b4 bt xb xo qi m c nc cw yn yg ac aw) hd 5 (by kernel_rfl))
        exact rg_len _ 68 80 rfl rfl Try.underlying68 (some ⟨xb, xo, none⟩) (m) (c) e ⟨_, rfl, Below.refl _ _, rfl⟩
      · intro vs w' F hb hd hF hl hT
        have eg := ((hF 37).trans (look_at _ 37 2 _ _ (by kernel_rfl) (by kernel_rfl) hl)).trans (dep_of (Fact := F_ql7 b4 bt xb xo qi m c nc cw yn yg ac aw) hd 2 (by kernel_rfl))
        refine wpList_on rfl (t := 37) (by kernel_rfl) eg ?_
        have e1 := ((hF 38).trans (look_at _ 38 3 _ _ (by kernel_rfl) (by kernel_rfl) hl)).trans (dep_of (Fact := F_ql7 b4 bt xb xo qi m c nc cw yn yg ac aw) hd 3 (by kernel_rfl))
        have e2 := ((hF 41).trans (look_at _ 41 6 _ _ (by kernel_rfl) (by kernel_rfl) hl)).trans (dep_of (Fact := F_ql7 b4 bt xb xo qi m c nc cw yn yg ac aw) hd 6 (by kernel_rfl))
        exact rg_geq _ _ _ _ rfl rfl .i64 ((qi : Int)) ((m : Int)) false e1 e2 (decide_eq_false (by omega)) ⟨_, rfl, Below.refl _ _, rfl⟩
      · intro vs w' F hb hd hF hl hT
        have ec := ((hF 37).trans (look_at _ 37 2 _ _ (by kernel_rfl) (by kernel_rfl) hl)).trans (dep_of (Fact := F_ql7 b4 bt xb xo qi m c nc cw yn yg ac aw) hd 2 (by kernel_rfl))
        have e := ((hF 42).trans (look_at _ 42 7 _ _ (by kernel_rfl) (by kernel_rfl) hl)).trans (dep_of (Fact := F_ql7 b4 bt xb xo qi m c nc cw yn yg ac aw) hd 7 (by kernel_rfl))
        exact one_pick_f _ _ _ rfl rfl _ ec e ⟨_, rfl, Below.refl _ _, rfl⟩
      · intro vs w' F hb hd hF hl hT
        have e := ((hF 43).trans (look_at _ 43 8 _ _ (by kernel_rfl) (by kernel_rfl) hl)).trans (dep_of (Fact := F_ql7 b4 bt xb xo qi m c nc cw yn yg ac aw) hd 8 (by kernel_rfl))
        exact one_move _ rfl (by first | exact Or.inl rfl | exact Or.inr rfl) ⟨_, rfl, Below.refl _ _, e⟩
      · intro vs w' F hb hd hF hl hT
        have eg := ((hF 44).trans (look_at _ 44 9 _ _ (by kernel_rfl) (by kernel_rfl) hl)).trans (dep_of (Fact := F_ql7 b4 bt xb xo qi m c nc cw yn yg ac aw) hd 9 (by kernel_rfl))
        refine wpList_on rfl (t := 44) (by kernel_rfl) eg ?_
        have e := (hF 11).trans (look_out _ 11 _ _ (by kernel_rfl))
        exact rg_load 80 _ rfl rfl (bt) (0) [.int .i64 yn, .int .i64 yg, .slice ac nc nc] e (HIT.out.below hb) _ Try.underlying80 rfl (by kernel_rfl) ⟨_, rfl, Below.refl _ _, rfl⟩
      · intro vs w' F hb hd hF hl hT
        have eg := ((hF 44).trans (look_at _ 44 9 _ _ (by kernel_rfl) (by kernel_rfl) hl)).trans (dep_of (Fact := F_ql7 b4 bt xb xo qi m c nc cw yn yg ac aw) hd 9 (by kernel_rfl))
        refine wpList_on rfl (t := 44) (by kernel_rfl) eg ?_
        have e := (hF 4).trans (look_out _ 4 _ _ (by kernel_rfl))
        exact one_field _ _ _ rfl rfl _ _ e (2) (fun w => by kernel_rfl) ⟨_, rfl, Below.refl _ _, rfl⟩
      · intro vs w' F hb hd hF hl hT
        have eg := ((hF 44).trans (look_at _ 44 9 _ _ (by kernel_rfl) (by kernel_rfl) hl)).trans (dep_of (Fact := F_ql7 b4 bt xb xo qi m c nc cw yn yg ac aw) hd 9 (by kernel_rfl))
        refine wpList_on rfl (t := 44) (by kernel_rfl) eg ?_
        have e := ((hF 46).trans (look_at _ 46 11 _ _ (by kernel_rfl) (by kernel_rfl) hl)).trans (dep_of (Fact := F_ql7 b4 bt xb xo qi m c nc cw yn yg ac aw) hd 11 (by kernel_rfl))
        exact one_load _ _ rfl rfl _ _ e (cell_abides HC4.out hb) (by kernel_rfl) ⟨_, rfl, Below.refl _ _, rfl⟩
      · intro vs w' F hb hd hF hl hT
        have eg := ((hF 44).trans (look_at _ 44 9 _ _ (by kernel_rfl) (by kernel_rfl) hl)).trans (dep_of (Fact := F_ql7 b4 bt xb xo qi m c nc cw yn yg ac aw) hd 9 (by kernel_rfl))
        refine wpList_on rfl (t := 44) (by kernel_rfl) eg ?_
        have e := (hF 10).trans (look_out _ 10 _ _ (by kernel_rfl))
        exact one_move _ rfl (by first | exact Or.inl rfl | exact Or.inr rfl) ⟨_, rfl, Below.refl _ _, e⟩
      · intro vs w' F hb hd hF hl hT
        have eg := ((hF 44).trans (look_at _ 44 9 _ _ (by kernel_rfl) (by kernel_rfl) hl)).trans (dep_of (Fact := F_ql7 b4 bt xb xo qi m c nc cw yn yg ac aw) hd 9 (by kernel_rfl))
        refine wpList_on rfl (t := 44) (by kernel_rfl) eg ?_
        have ex := ((hF 47).trans (look_at _ 47 12 _ _ (by kernel_rfl) (by kernel_rfl) hl)).trans (dep_of (Fact := F_ql7 b4 bt xb xo qi m c nc cw yn yg ac aw) hd 12 (by kernel_rfl))
        have ey := ((hF 48).trans (look_at _ 48 13 _ _ (by kernel_rfl) (by kernel_rfl) hl)).trans (dep_of (Fact := F_ql7 b4 bt xb xo qi m c nc cw yn yg ac aw) hd 13 (by kernel_rfl))
        exact one_index 68 _ _ rfl rfl (.slice (some ⟨xb, xo, none⟩) m c) (.int .i64 (qi : Int)) (.pointer (some ⟨xb, xo + qi * 3, none⟩)) ex ey (fun w => rg_idx Try.underlying68 (show (Try.prog.info? 80).map (·.size) = some 3 by kernel_rfl) (xb) (xo) (m) (c) (qi) (by omega) w) ⟨_, rfl, Below.refl _ _, rfl⟩
      · intro vs w' F hb hd hF hl hT
        have eg := ((hF 44).trans (look_at _ 44 9 _ _ (by kernel_rfl) (by kernel_rfl) hl)).trans (dep_of (Fact := F_ql7 b4 bt xb xo qi m c nc cw yn yg ac aw) hd 9 (by kernel_rfl))
        refine wpList_on rfl (t := 44) (by kernel_rfl) eg ?_
        have e := ((hF 49).trans (look_at _ 49 14 _ _ (by kernel_rfl) (by kernel_rfl) hl)).trans (dep_of (Fact := F_ql7 b4 bt xb xo qi m c nc cw yn yg ac aw) hd 14 (by kernel_rfl))
        exact rg_load 80 _ rfl rfl (xb) (xo + qi * 3) [.int .i64 yn, .int .i64 yg, .slice aw nc cw] e (HCL.out.below hb) _ Try.underlying80 rfl (by kernel_rfl) ⟨_, rfl, Below.refl _ _, rfl⟩
      · intro vs w' F hb hd hF hl hT
        have eg := ((hF 44).trans (look_at _ 44 9 _ _ (by kernel_rfl) (by kernel_rfl) hl)).trans (dep_of (Fact := F_ql7 b4 bt xb xo qi m c nc cw yn yg ac aw) hd 9 (by kernel_rfl))
        refine wpList_on rfl (t := 44) (by kernel_rfl) eg ?_
        have ea0 := ((hF 45).trans (look_at _ 45 10 _ _ (by kernel_rfl) (by kernel_rfl) hl)).trans (dep_of (Fact := F_ql7 b4 bt xb xo qi m c nc cw yn yg ac aw) hd 10 (by kernel_rfl))
        have ea1 := ((hF 50).trans (look_at _ 50 15 _ _ (by kernel_rfl) (by kernel_rfl) hl)).trans (dep_of (Fact := F_ql7 b4 bt xb xo qi m c nc cw yn yg ac aw) hd 15 (by kernel_rfl))
        refine one_call _ _ rfl rfl (enters_of Try.func48 (by kernel_rfl) rfl) #[.agg #[.int .i64 yn, .int .i64 yg, .slice ac nc nc], .agg #[.int .i64 yn, .int .i64 yg, .slice aw nc cw]] (eval2 ea0 ea1) ?_
        refine (CS.out w' hb).mono ?_
        rintro e2 w2 ⟨rfl, hb2⟩
        exact ⟨_, rfl, _, rfl, hb2, rfl⟩
      · intro vs w' F hb hd hF hl hT
        have eg := ((hF 44).trans (look_at _ 44 9 _ _ (by kernel_rfl) (by kernel_rfl) hl)).trans (dep_of (Fact := F_ql7 b4 bt xb xo qi m c nc cw yn yg ac aw) hd 9 (by kernel_rfl))
        refine wpList_on rfl (t := 44) (by kernel_rfl) eg ?_
        have e := ((hF 51).trans (look_at _ 51 16 _ _ (by kernel_rfl) (by kernel_rfl) hl)).trans (dep_of (Fact := F_ql7 b4 bt xb xo qi m c nc cw yn yg ac aw) hd 16 (by kernel_rfl))
        exact one_not _ _ rfl rfl _ false e rfl ⟨_, rfl, Below.refl _ _, rfl⟩
      · intro vs w' F hb hd hF hl hT
        have ec := ((hF 44).trans (look_at _ 44 9 _ _ (by kernel_rfl) (by kernel_rfl) hl)).trans (dep_of (Fact := F_ql7 b4 bt xb xo qi m c nc cw yn yg ac aw) hd 9 (by kernel_rfl))
        have e := ((hF 52).trans (look_at _ 52 17 _ _ (by kernel_rfl) (by kernel_rfl) hl)).trans (dep_of (Fact := F_ql7 b4 bt xb xo qi m c nc cw yn yg ac aw) hd 17 (by kernel_rfl))
        exact one_pick_f _ _ _ rfl rfl _ ec e ⟨_, rfl, Below.refl _ _, rfl⟩
    · intro vs8 W8 hl hb hI
      have hv18 : vs8.getD 18 undef = .bool false := hI 18 (by omega)
      obtain ⟨z0, z1, z2, z3, z4, z5, z6, z7, z8, z9, z10, z11, z12, z13, z14, z15, z16, z17, z18, hvs⟩ := list19 hl
      subst hvs
      replace hv18 : z18 = .bool false := hv18
      subst hv18
      have HB8 := Lib.hid hb
      have hvA : Boxed W8 b9 23 v := (hb.block _ (lt_of_heap HV.out)).trans HV.out
      have hrowA := own_below HRW.out hb
      have hE8 : w4.heap.size ≤ W8.heap.size := Nat.le_trans hE hb.size
      have hq5 : b9 < w4.heap.size := by omega
      have hc := hvA.cell
      obtain ⟨i0, hi, hz0, hz1, hz2⟩ := info_parts (show (Try.prog.info? 3).map (fun i => (i.zero, i.size, i.bytes)) = some (some (.int .i64 0), 1, 8) by kernel_rfl)
      clear hI hl HRW HV HIT HCL HC4 CS hb
      simp only [fillAll, Act.put, List.setIfInBounds_toArray, List.set_cons_succ, List.set_cons_zero, List.drop_succ_cons, List.drop_zero]
      show wpListIn (Fence.wide.inRound l) (3 - 1 - 1) Try.prog #[] _ [] _ _
      gi_wp2_with (gi_at_builtin; go_must (refine wpListIn_append_own _ rfl _ _ 23 rfl w4.heap.size 3 i0 (.int .i64 0) 1 8 Try.underlying23 hi hz0 hz1 hz2 rfl (by decide) _ _ _ rfl (hrowA.alloc _) ⟨W8.heap.size, 0, none⟩ 1 1 [.int .i64 (qi : Int)] rfl rfl (cell_one_new _ _ _) (by simp [Value.oneCell']) (by unfold maxLen; omega) (by omega) (by simp; omega) ?_))
      intro v' w6 hown' hgrow _
      obtain ⟨g', cap', rfl⟩ := ownsRow_succ hown'
      obtain ⟨hv1, hv2, hr2, hk2, hb2, hs2⟩ := collect hvA (by decide) hrowA hE8 hq5 hown' hgrow
      have hc1 := hv1.cell
      have hf1 := hv1.frozen
      have hg6 := hgrow.size
      rw [World.size_alloc] at hg6
      gi_wp2
      have k1 : KeepsOthers W W8 := .of_grownBy (row := none) (gb_below HB8.out) (fun j o e => by cases e)
      have hs8 := HB8.out.size
      have e1 : (pre ++ [(((qi, y), ac) : HandQ)]).length = pre.length + 1 := by simp
      have e2 : vints .i64 ((pre ++ [(((qi, y), ac) : HandQ)]).map fun x => (x.1.1 : Int)) = vints .i64 (pre.map fun x => (x.1.1 : Int)) ++ [Value.int .i64 (qi : Int)] := by
        rw [List.map_append, List.map_cons, List.map_nil, vints_snoc]
      refine ⟨k1.trans hk2, ⟨by rw [World.size_setCell]; omega, fun k k1 k2 => (hs2 k k2 (by omega)).trans (HB8.out.block k (by omega))⟩, ⟨_, hv2, by rw [e1, e2]; exact hr2, trivial⟩, HBB.out.trans ((HB8.out.mono (by omega)).trans hb2)⟩
  case done =>
    rintro D ys W hD hys ⟨⟨v, hv, hrow, _⟩, hB⟩ hK
    obtain ⟨rz, cz, rfl⟩ := own_slice hrow
    have hlen : ys.length = nr := by rw [HNR.out, ← hys, List.length_map]
    have hmap : (ys.map fun x => (x.1.1 : Int)) = wk its wi wo m := by unfold wk; rw [← HROWS.out, ← hys, List.map_map]; rfl
    rw [hlen] at hv hrow
    rw [hmap] at hrow
    have hwn : (wk its wi wo m).length = nr := by unfold wk; rw [List.length_map, ← HROWS.out, HNR.out]
    have HWN := Lib.hid hwn
    have HBx := Lib.hid (show Below w.heap.size w W from HBW.out.trans (hB.mono hwb9))
    have HV := Lib.hid hv
    have HZL := Lib.hid (IntsAt.of_own hrow hwn.symm)
    have HX4d := Lib.hid ((hB.block b4 h49).trans HX4.out)
    have HX7d := Lib.hid ((hB.block b7 h79).trans HX7.out)
    have HX8d := Lib.hid ((hB.block b8 h89).trans HX8.out)
    have HKD := Lib.hid hK
    have HDL := Lib.hid (show w.heap.size ≤ D by have := HBW.out.size; omega)
    have HD9 := Lib.hid (show b8 < D by omega)
    have HBO8 := Lib.hid (show w.heap.size ≤ b8 by have := HB8.out; omega)
    have h9W := lt_of_heap hv
    have hxs := HBx.out.size
    have y2 := cell_of_row _ _ 2 _ _ _ HX4d.out
    simp only [List.getElem?_toArray, List.getElem?_cons_zero, List.getElem?_cons_succ] at y2
    clear hlen hmap hwn hv hrow hB hK hD hys HX4 HX7 HX8 HX9 HG3 HG4 HRS
    dsimp only
    go_wp2_with fail
    clear y2
    go_loopg [12, 13, 14, 61] m (fun gk v12 v13 v14 vi wx => ∃ (i : Nat), i ≤ m ∧ gk = m - i ∧ vi = .int .i64 i ∧ Hid (Tri W.heap.size (wk its wi wo i) (entsOf ((its.take i).flatMap (fdI rk rf))) (valsOf ((its.take i).flatMap (fdI rk rf))) v12 v13 v14 wx) ∧ Hid (Below W.heap.size W wx))
    case atStart => exact ⟨0, Nat.zero_le _, rfl, rfl, Lib.hid (Tri.nil _ _), Lib.hid (Below.refl _ _)⟩
    case round =>
      obtain ⟨i, hi, g2, rfl, HTW, HB⟩ := hrel
      have G2 := Lib.hid g2
      clear g2
      by_cases hlt : i < m
      · obtain ⟨x, rfl, hx, hix⟩ := (HZ.out.below ItemAt.abides HBx.out) (by rw [← HM.out]; omega)
        obtain ⟨cw0, cw1, ac, cc, cw2, hsl⟩ := hix i (by rw [← HM.out]; exact hlt)
        obtain ⟨y, hy⟩ : ∃ y, y = its[i]'(by rw [← HM.out]; exact hlt) := ⟨_, rfl⟩
        rw [← hy] at cw0 cw1 cw2 hsl
        have hyd : its.getD i default = y := by rw [getD_item its i (by rw [← HM.out]; exact hlt), hy]
        have hsy := HSM.out.2 y (by rw [hy]; exact List.getElem_mem _)
        have hwc := HWC.out y (by rw [hy]; exact List.getElem_mem _)
        have HST := Lib.hid (show (its.take (i + 1)).flatMap (fdI rk rf) = (its.take i).flatMap (fdI rk rf) ++ fdI rk rf y by rw [flat_take_succ _ _ _ (by rw [← HM.out]; exact hlt), hy])
        have HTL := Lib.hid (show ((its.take (i + 1)).flatMap (fdI rk rf)).length ≤ 1048576 from Nat.le_trans (flat_take_le _ _ _) HT.out)
        have c0 := (HB.out.cell (World.block_lt_of_cell? _ _ cw0)).trans cw0
        have c1 := (HB.out.cell (World.block_lt_of_cell? _ _ cw1)).trans cw1
        have c2 := (HB.out.cell (World.block_lt_of_cell? _ _ cw2)).trans cw2
        obtain ⟨yn, hyn⟩ : ∃ q, q = y.n := ⟨_, rfl⟩
        obtain ⟨yg, hyg2⟩ : ∃ q, q = y.gen := ⟨_, rfl⟩
        obtain ⟨nc, hnc⟩ : ∃ q, q = y.comps.length := ⟨_, rfl⟩
        rw [← hyn] at c0
        rw [← hyg2] at c1
        rw [← hnc] at c2
        have hnc20 : nc ≤ 1048576 := by rw [hnc]; exact hsy.1
        obtain ⟨bm, hbm⟩ : ∃ b, b = matchB y.comps wi wo := ⟨_, rfl⟩
        have CF := Lib.hid (fun w' (hb : Below W.heap.size W w') => r_Fits yn yg y.comps ac ai ao nc cc ni ci no co wi wo hnc.symm HNI.out HNO.out hnc20 h2 h3 hwc HWI.out HWO.out w' (hsl.below CompAt.abides hb) (HZI.out.below (HBx.out.trans (hb.mono hxs))) (HZO.out.below (HBx.out.trans (hb.mono hxs))))
        have CM := Lib.hid (fun w' (hb : Below W.heap.size W w') => q_Match yn yg y.comps ac ai ao nc cc ni ci no co wi wo hnc.symm HNI.out HNO.out (by omega) h2 h3 w' (hsl.below CompAt.abides hb) (HZI.out.below (HBx.out.trans (hb.mono hxs))) (HZO.out.below (HBx.out.trans (hb.mono hxs))))
        rw [← hbm] at CF CM
        have HBM := Lib.hid hbm
        have HYD := Lib.hid hyd
        have HYN := Lib.hid hyn
        have HYG := Lib.hid hyg2
        have HNC := Lib.hid hnc
        have HSY := Lib.hid hsy
        have HSL := Lib.hid hsl
        have i1 : (0 : Int) ≤ (i : Int) := by omega
        have i2 : (i : Int) < (m : Int) := by omega
        have hbA : Below wr.heap.size wr (wr.alloc (.cells #[.int .i64 yn, .int .i64 yg, .slice ac nc cc] 80)) := (Below.refl _ _).alloc (Nat.le_refl _) _
        have HITA := Lib.hid (heap_alloc_new wr (.cells #[.int .i64 yn, .int .i64 yg, .slice ac nc cc] 80))
        have HTA := Lib.hid (HTW.out.below hbA)
        have HBA := Lib.hid (HB.out.trans (hbA.mono HB.out.size))
        have e0 := cell_of_row _ _ 0 _ _ _ HITA.out
        have e1 := cell_of_row _ _ 1 _ _ _ HITA.out
        have e2 := cell_of_row _ _ 2 _ _ _ HITA.out
        simp only [List.getElem?_toArray, List.getElem?_cons_zero, List.getElem?_cons_succ] at e0 e1 e2
        clear hix hy hyd hsy hwc hsl hyn hyg2 hnc hbm hbA cw0 cw1 cw2 HTW HB
        go_wp2_with fail
        obtain ⟨w5, hw5⟩ : ∃ W2, W2 = wr.alloc (.cells #[.int .i64 yn, .int .i64 yg, .slice ac nc cc] 80) := ⟨_, rfl⟩
        rw [← hw5] at HITA HTA HBA ⊢
        obtain ⟨bi, hbi⟩ : ∃ bi, bi = wr.heap.size := ⟨_, rfl⟩
        rw [← hbi] at HITA ⊢
        clear hw5 hbi c0 c1 c2 e0 e1 e2
        refine (CF.out _ HBA.out).mono ?_
        rintro e w6 ⟨rfl, hb⟩
        have HIT6 := Lib.hid (heap_below HITA.out hb)
        have HT6 := Lib.hid (HTA.out.below hb)
        have HB6 := Lib.hid (HBA.out.trans (hb.mono HBA.out.size))
        clear hb CF HITA HTA HBA
        have e0 := cell_of_row _ _ 0 _ _ _ HIT6.out
        have e1 := cell_of_row _ _ 1 _ _ _ HIT6.out
        have e2 := cell_of_row _ _ 2 _ _ _ HIT6.out
        simp only [List.getElem?_toArray, List.getElem?_cons_zero, List.getElem?_cons_succ] at e0 e1 e2
        go_wp2_with fail
        clear e0 e1 e2
        refine (CM.out _ HB6.out).mono ?_
        rintro e w7 ⟨rfl, hb⟩
        have HIT7 := Lib.hid (heap_below HIT6.out hb)
        have HT7 := Lib.hid (HT6.out.below hb)
        have HB7 := Lib.hid (HB6.out.trans (hb.mono HB6.out.size))
        have HW7 := Lib.hid HB7.out.size
        have HKL := Lib.hid (show (wk its wi wo i).length ≤ 1048576 by unfold wk; rw [List.length_map]; have := rowsK_len its wi wo i; omega)
        clear hb CM HIT6 HT6 HB6
        cases bm with
        | true =>
          have HWK := Lib.hid (wk_yes (k := i) (show matchB (its.getD i default).comps wi wo = true by rw [HYD.out]; exact HBM.out.symm))
          go_wp2_with (at_builtin; go_must (refine wpList_append_new rfl _ _ 23 rfl W.heap.size 3 (.int .i64 0) 1 8 Try.underlying23 (by kernel_rfl) rfl (by decide) _ _ _ rfl HT7.out.a _ _ rfl rfl rfl (by have := HKL.out; omega) (by decide) HW7.out ?_))
          intro g' cap' w8 hown hg hor hlt'
          have HT8 := Lib.hid (HT7.out.p1 hown hg hor)
          have HIT8 := Lib.hid (gb_cells HT7.out.a hg HIT7.out (by decide))
          have HB8 := Lib.hid (HB7.out.grown hg HW7.out (fun j hj => (own_lt HT7.out.a j hj).1))
          obtain ⟨t12, ht12⟩ : ∃ t, t = Value.slice (some ⟨g', 0, none⟩) ((wk its wi wo i).length + 1) cap' := ⟨_, rfl⟩
          rw [← ht12] at HT8 ⊢
          rw [← HWK.out] at HT8
          clear ht12 hown hg hor hlt' HT7 HIT7 HB7 HW7 HKL HWK
          have e2 := cell_of_row _ _ 2 _ _ _ HIT8.out
          simp only [List.getElem?_toArray, List.getElem?_cons_zero, List.getElem?_cons_succ] at e2
          obtain ⟨LI, hLI⟩ : ∃ LI, LI = (its.take i).flatMap (fdI rk rf) := ⟨_, rfl⟩
          rw [← hLI] at HT8 HST
          clear hLI
          go_wp2_with fail
          clear e2
          go_loopg [13, 14, 84] nc (fun gk v13 v14 vi wx => ∃ (j : Nat), j ≤ nc ∧ gk = nc - j ∧ vi = .int .i64 j ∧ Hid (Tri W.heap.size (wk its wi wo (i + 1)) (entsOf (LI ++ (y.comps.take j).flatMap (fd rk rf y))) (valsOf (LI ++ (y.comps.take j).flatMap (fd rk rf y))) t12 v13 v14 wx) ∧ Hid (wx.heap[bi]? = some (.cells #[.int .i64 yn, .int .i64 yg, .slice ac nc cc] 80 (0, 0))) ∧ Hid (Below W.heap.size W wx))
          case atStart => exact ⟨0, Nat.zero_le _, rfl, rfl, by simpa using HT8, HIT8, HB8⟩
          case round =>
            clear HT8 HIT8 HB8
            obtain ⟨j, hj, g3, rfl, HTW, HIT, HB⟩ := hrel
            have G3 := Lib.hid g3
            clear g3
            by_cases hlj : j < nc
            · obtain ⟨xc, rfl, hxc, hixc⟩ := HSL.out (by rw [← HNC.out]; omega)
              obtain ⟨cw0, av, cv, cw1, hvals⟩ := hixc j (by rw [← HNC.out]; exact hlj)
              obtain ⟨cy, hcy⟩ : ∃ cy, cy = y.comps[j]'(by rw [← HNC.out]; exact hlj) := ⟨_, rfl⟩
              rw [← hcy] at cw0 cw1 hvals
              have c0 := (HB.out.cell (World.block_lt_of_cell? _ _ cw0)).trans cw0
              have c1 := (HB.out.cell (World.block_lt_of_cell? _ _ cw1)).trans cw1
              have hst2 : (y.comps.take (j + 1)).flatMap (fd rk rf y) = (y.comps.take j).flatMap (fd rk rf y) ++ fd rk rf y cy := by rw [flat_take_succ _ _ _ (by rw [← HNC.out]; exact hlj), hcy]
              have hvl := HSY.out.2 cy (by rw [hcy]; exact List.getElem_mem _)
              have hll : (LI ++ (y.comps.take j).flatMap (fd rk rf y)).length ≤ 1048576 := by
                have h1 := HTL.out
                rw [HST.out, List.length_append] at h1
                have h2 := flat_take_le (fd rk rf y) y.comps j
                unfold fdI at h1
                rw [List.length_append]; omega
              obtain ⟨kk, hkk⟩ : ∃ q, q = cy.kind := ⟨_, rfl⟩
              obtain ⟨nv, hnv⟩ : ∃ q, q = cy.vals.length := ⟨_, rfl⟩
              rw [← hkk] at c0
              rw [← hnv] at c1 hvl
              have HKK := Lib.hid hkk
              have HNV := Lib.hid hnv
              have HVS := Lib.hid hvals
              have j1 : (0 : Int) ≤ (j : Int) := by omega
              have j2 : (j : Int) < (nc : Int) := by omega
              have hbA : Below wr.heap.size wr (wr.alloc (.cells #[.int .i64 kk, .slice av nv cv] 84)) := (Below.refl _ _).alloc (Nat.le_refl _) _
              have HITA := Lib.hid (heap_below HIT.out hbA)
              have HCB := Lib.hid (heap_alloc_new wr (.cells #[.int .i64 kk, .slice av nv cv] 84))
              have HTA := Lib.hid (HTW.out.below hbA)
              have HBA := Lib.hid (HB.out.trans (hbA.mono HB.out.size))
              obtain ⟨LJ, hLJ⟩ : ∃ LJ, LJ = LI ++ (y.comps.take j).flatMap (fd rk rf y) := ⟨_, rfl⟩
              rw [← hLJ] at HTA hll
              have HLJ := Lib.hid (show LI ++ (y.comps.take (j + 1)).flatMap (fd rk rf y) = LJ ++ fd rk rf y cy by rw [hst2, hLJ, List.append_assoc])
              have HLL := Lib.hid hll
              have d1 := cell_of_row _ _ 1 _ _ _ HCB.out
              simp only [List.getElem?_toArray, List.getElem?_cons_zero, List.getElem?_cons_succ] at d1
              clear hixc hcy hst2 hkk hnv hvals hbA hLJ cw0 cw1 HTW HIT HB hll
              go_wp2_with fail
              obtain ⟨w9, hw9⟩ : ∃ q, q = wr.alloc (.cells #[.int .i64 kk, .slice av nv cv] 84) := ⟨_, rfl⟩
              rw [← hw9] at HITA HCB HTA HBA ⊢
              obtain ⟨bc, hbc⟩ : ∃ q, q = wr.heap.size := ⟨_, rfl⟩
              rw [← hbc] at HCB ⊢
              clear hw9 hbc c0 c1 d1
              go_loopg [13, 14, 91] nv (fun gk v13 v14 vi wx => ∃ (t : Nat), t ≤ nv ∧ gk = nv - t ∧ vi = .int .i64 t ∧ Hid (Tri W.heap.size (wk its wi wo (i + 1)) (entsOf (LJ ++ fdJ rk rf y cy t)) (valsOf (LJ ++ fdJ rk rf y cy t)) t12 v13 v14 wx) ∧ Hid (wx.heap[bi]? = some (.cells #[.int .i64 yn, .int .i64 yg, .slice (some xc) nc cc] 80 (0, 0))) ∧ Hid (wx.heap[bc]? = some (.cells #[.int .i64 kk, .slice av nv cv] 84 (0, 0))) ∧ Hid (Below W.heap.size W wx))
              case atStart => exact ⟨0, Nat.zero_le _, rfl, rfl, by rw [fdJ_zero, List.append_nil]; exact HTA, HITA, HCB, HBA⟩
              case round =>
                clear HTA HITA HCB HBA
                obtain ⟨t, ht, g4, rfl, HTW, HIT, HC, HB⟩ := hrel
                have G4 := Lib.hid g4
                clear g4
                by_cases hlt2 : t < nv
                · obtain ⟨xv, rfl, hxv, hcv⟩ := HVS.out (by rw [← HNV.out]; omega)
                  have hcf := hcv t (by rw [← HNV.out]; exact hlt2)
                  obtain ⟨q, hq⟩ : ∃ q, q = cy.vals.getD t 0 := ⟨_, rfl⟩
                  rw [← hq] at hcf
                  have cx := (HB.out.cell (World.block_lt_of_cell? _ _ hcf)).trans hcf
                  have HQ := Lib.hid hq
                  have k1 : (0 : Int) ≤ (t : Int) := by omega
                  have k2 : (t : Int) < (nv : Int) := by omega
                  have f0 := cell_of_row _ _ 0 _ _ _ HC.out
                  have b70 := cell_of_row _ _ 0 _ _ _ ((HB.out.block b7 (by omega)).trans HX7d.out)
                  have b71 := cell_of_row _ _ 1 _ _ _ ((HB.out.block b7 (by omega)).trans HX7d.out)
                  have e0 := cell_of_row _ _ 0 _ _ _ HIT.out
                  have e1 := cell_of_row _ _ 1 _ _ _ HIT.out
                  simp only [List.getElem?_toArray, List.getElem?_cons_zero, List.getElem?_cons_succ] at f0 b70 b71 e0 e1
                  have hw8 := HB.out.size
                  have HW8 := Lib.hid hw8
                  have HLT := Lib.hid (show (LJ ++ fdJ rk rf y cy t).length ≤ 1048577 by rw [List.length_append]; have := fdJ_len rk rf y cy t; have := HLL.out; omega)
                  clear hcv hcf hq
                  by_cases hk : kk = rk
                  · have t1 : (kk == rk) = true := by rw [beq_iff_eq]; exact hk
                    by_cases hr : (t : Int) = rf
                    · have t2 : ((t : Int) == rf) = true := by rw [beq_iff_eq]; exact hr
                      have HFY := Lib.hid (show fdJ rk rf y cy (t + 1) = fdJ rk rf y cy t ++ [((yn, yg), q)] by rw [fdJ_yes (by rw [← HKK.out]; exact hk) hr, HQ.out, HYN.out, HYG.out])
                      clear hk hr
                      go_wp2_with (at_builtin; go_must (refine wpList_append_new rfl _ _ 45 rfl W.heap.size 55 (.agg #[.int .i64 0, .int .i64 0]) 2 16 Try.underlying45 (by kernel_rfl) rfl (by decide) _ _ _ rfl HTW.out.b _ _ rfl rfl rfl (by unfold entsOf; rw [List.length_map]; have := HLT.out; omega) (by decide) HW8.out ?_))
                      intro g1 cap1 wa hown hg hor hlta
                      have HTa := Lib.hid (HTW.out.p2 hown hg)
                      have HITa := Lib.hid (gb_cells HTW.out.b hg HIT.out (by decide))
                      have HCa := Lib.hid (gb_cells HTW.out.b hg HC.out (by decide))
                      have HBa := Lib.hid (HB.out.grown hg HW8.out (fun j hj => (own_lt HTW.out.b j hj).1))
                      have HWa := Lib.hid HBa.out.size
                      clear hown hg hor hlta HTW HIT HC HB cx f0 b70 b71 e0 e1 t1 t2
                      go_wp2_with (at_builtin; go_must (refine wpList_append_new rfl _ _ 23 rfl W.heap.size 3 (.int .i64 0) 1 8 Try.underlying23 (by kernel_rfl) rfl (by decide) _ _ _ rfl HTa.out.c _ _ rfl rfl rfl (by unfold valsOf; rw [List.length_map]; have := HLT.out; omega) (by decide) HWa.out ?_))
                      intro g2 cap2 wb hown hg hor hlta
                      have HTb := HTa.out.p3 hown hg hor
                      rw [ents_one _ _ _ q, vals_one _ yn yg, List.append_assoc, ← HFY.out] at HTb
                      have HTc := Lib.hid HTb
                      have HITb := Lib.hid (gb_cells HTa.out.c hg HITa.out (by decide))
                      have HCb := Lib.hid (gb_cells HTa.out.c hg HCa.out (by decide))
                      have HBb := Lib.hid (HBa.out.grown hg HWa.out (fun j hj => (own_lt HTa.out.c j hj).1))
                      clear hown hg hor hlta HTa HITa HCa HBa HTb
                      go_wp2_with fail
                      go_roundg (nv - (t + 1))
                      case measure => rw [G4.out]; omega
                      case rel => exact ⟨t + 1, hlt2, rfl, by go_num, HTc, HITb, HCb, HBb⟩
                    · have t2 : ((t : Int) == rf) = false := by rw [beq_eq_false_iff_ne]; exact hr
                      have HFN := Lib.hid (fdJ_no (rk := rk) (rf := rf) (y := y) (c := cy) (t := t) (fun h => hr h.2))
                      clear hk hr
                      go_wp2_with fail
                      go_roundg (nv - (t + 1))
                      case measure => rw [G4.out]; omega
                      case rel => exact ⟨t + 1, hlt2, rfl, by go_num, by rw [HFN.out]; exact HTW, HIT, HC, HB⟩
                  · have t1 : (kk == rk) = false := by rw [beq_eq_false_iff_ne]; exact hk
                    have HFN := Lib.hid (fdJ_no (rk := rk) (rf := rf) (y := y) (c := cy) (t := t) (fun h => hk (by rw [HKK.out]; exact h.1)))
                    clear hk
                    go_wp2_with fail
                    go_roundg (nv - (t + 1))
                    case measure => rw [G4.out]; omega
                    case rel => exact ⟨t + 1, hlt2, rfl, by go_num, by rw [HFN.out]; exact HTW, HIT, HC, HB⟩
                · have hte : t = cy.vals.length := by rw [← HNV.out]; omega
                  rw [hte, fdJ_all, ← HLJ.out] at HTW
                  clear hte
                  go_wp2_with fail
                  go_roundg (nc - (j + 1))
                  case measure => rw [G3.out]; omega
                  case rel => exact ⟨j + 1, hlj, rfl, by go_num, HTW, HIT, HB⟩
            · have hj2 : y.comps.take j = y.comps := List.take_of_length_le (by rw [← HNC.out]; omega)
              rw [hj2] at HTW
              have HTN := HTW
              have hfi : LI ++ y.comps.flatMap (fd rk rf y) = (its.take (i + 1)).flatMap (fdI rk rf) := by rw [HST.out]; rfl
              rw [hfi] at HTN
              clear hj2 hfi HTW
              go_wp2_with fail
              go_roundg (m - (i + 1))
              case measure => rw [G2.out]; omega
              case rel => exact ⟨i + 1, hlt, rfl, by go_num, HTN, HB⟩
        | false =>
          have HWK := Lib.hid (wk_no (k := i) (show matchB (its.getD i default).comps wi wo = false by rw [HYD.out]; exact HBM.out.symm))
          have HT8 := HT7
          have HIT8 := HIT7
          have HB8 := HB7
          rw [← HWK.out] at HT8
          obtain ⟨w8, hw8⟩ : ∃ q, q = w7 := ⟨_, rfl⟩
          rw [← hw8] at HT8 HIT8 HB8 ⊢
          clear hw8 HT7 HIT7 HB7 HW7 HKL HWK
          obtain ⟨t12, ht12⟩ : ∃ t, t = u12 := ⟨_, rfl⟩
          rw [← ht12] at HT8 ⊢
          clear ht12
          have e2 := cell_of_row _ _ 2 _ _ _ HIT8.out
          simp only [List.getElem?_toArray, List.getElem?_cons_zero, List.getElem?_cons_succ] at e2
          obtain ⟨LI, hLI⟩ : ∃ LI, LI = (its.take i).flatMap (fdI rk rf) := ⟨_, rfl⟩
          rw [← hLI] at HT8 HST
          clear hLI
          go_wp2_with fail
          clear e2
          go_loopg [13, 14, 84] nc (fun gk v13 v14 vi wx => ∃ (j : Nat), j ≤ nc ∧ gk = nc - j ∧ vi = .int .i64 j ∧ Hid (Tri W.heap.size (wk its wi wo (i + 1)) (entsOf (LI ++ (y.comps.take j).flatMap (fd rk rf y))) (valsOf (LI ++ (y.comps.take j).flatMap (fd rk rf y))) t12 v13 v14 wx) ∧ Hid (wx.heap[bi]? = some (.cells #[.int .i64 yn, .int .i64 yg, .slice ac nc cc] 80 (0, 0))) ∧ Hid (Below W.heap.size W wx))
          case atStart => exact ⟨0, Nat.zero_le _, rfl, rfl, by simpa using HT8, HIT8, HB8⟩
          case round =>
            clear HT8 HIT8 HB8
            obtain ⟨j, hj, g3, rfl, HTW, HIT, HB⟩ := hrel
            have G3 := Lib.hid g3
            clear g3
            by_cases hlj : j < nc
            · obtain ⟨xc, rfl, hxc, hixc⟩ := HSL.out (by rw [← HNC.out]; omega)
              obtain ⟨cw0, av, cv, cw1, hvals⟩ := hixc j (by rw [← HNC.out]; exact hlj)
              obtain ⟨cy, hcy⟩ : ∃ cy, cy = y.comps[j]'(by rw [← HNC.out]; exact hlj) := ⟨_, rfl⟩
              rw [← hcy] at cw0 cw1 hvals
              have c0 := (HB.out.cell (World.block_lt_of_cell? _ _ cw0)).trans cw0
              have c1 := (HB.out.cell (World.block_lt_of_cell? _ _ cw1)).trans cw1
              have hst2 : (y.comps.take (j + 1)).flatMap (fd rk rf y) = (y.comps.take j).flatMap (fd rk rf y) ++ fd rk rf y cy := by rw [flat_take_succ _ _ _ (by rw [← HNC.out]; exact hlj), hcy]
              have hvl := HSY.out.2 cy (by rw [hcy]; exact List.getElem_mem _)
              have hll : (LI ++ (y.comps.take j).flatMap (fd rk rf y)).length ≤ 1048576 := by
                have h1 := HTL.out
                rw [HST.out, List.length_append] at h1
                have h2 := flat_take_le (fd rk rf y) y.comps j
                unfold fdI at h1
                rw [List.length_append]; omega
              obtain ⟨kk, hkk⟩ : ∃ q, q = cy.kind := ⟨_, rfl⟩
              obtain ⟨nv, hnv⟩ : ∃ q, q = cy.vals.length := ⟨_, rfl⟩
              rw [← hkk] at c0
              rw [← hnv] at c1 hvl
              have HKK := Lib.hid hkk
              have HNV := Lib.hid hnv
              have HVS := Lib.hid hvals
              have j1 : (0 : Int) ≤ (j : Int) := by omega
              have j2 : (j : Int) < (nc : Int) := by omega
              have hbA : Below wr.heap.size wr (wr.alloc (.cells #[.int .i64 kk, .slice av nv cv] 84)) := (Below.refl _ _).alloc (Nat.le_refl _) _
              have HITA := Lib.hid (heap_below HIT.out hbA)
              have HCB := Lib.hid (heap_alloc_new wr (.cells #[.int .i64 kk, .slice av nv cv] 84))
              have HTA := Lib.hid (HTW.out.below hbA)
              have HBA := Lib.hid (HB.out.trans (hbA.mono HB.out.size))
              obtain ⟨LJ, hLJ⟩ : ∃ LJ, LJ = LI ++ (y.comps.take j).flatMap (fd rk rf y) := ⟨_, rfl⟩
              rw [← hLJ] at HTA hll
              have HLJ := Lib.hid (show LI ++ (y.comps.take (j + 1)).flatMap (fd rk rf y) = LJ ++ fd rk rf y cy by rw [hst2, hLJ, List.append_assoc])
              have HLL := Lib.hid hll
              have d1 := cell_of_row _ _ 1 _ _ _ HCB.out
              simp only [List.getElem?_toArray, List.getElem?_cons_zero, List.getElem?_cons_succ] at d1
              clear hixc hcy hst2 hkk hnv hvals hbA hLJ cw0 cw1 HTW HIT HB hll
              go_wp2_with fail
              obtain ⟨w9, hw9⟩ : ∃ q, q = wr.alloc (.cells #[.int .i64 kk, .slice av nv cv] 84) := ⟨_, rfl⟩
              rw [← hw9] at HITA HCB HTA HBA ⊢
              obtain ⟨bc, hbc⟩ : ∃ q, q = wr.heap.size := ⟨_, rfl⟩
              rw [← hbc] at HCB ⊢
              clear hw9 hbc c0 c1 d1
              go_loopg [13, 14, 91] nv (fun gk v13 v14 vi wx => ∃ (t : Nat), t ≤ nv ∧ gk = nv - t ∧ vi = .int .i64 t ∧ Hid (Tri W.heap.size (wk its wi wo (i + 1)) (entsOf (LJ ++ fdJ rk rf y cy t)) (valsOf (LJ ++ fdJ rk rf y cy t)) t12 v13 v14 wx) ∧ Hid (wx.heap[bi]? = some (.cells #[.int .i64 yn, .int .i64 yg, .slice (some xc) nc cc] 80 (0, 0))) ∧ Hid (wx.heap[bc]? = some (.cells #[.int .i64 kk, .slice av nv cv] 84 (0, 0))) ∧ Hid (Below W.heap.size W wx))
              case atStart => exact ⟨0, Nat.zero_le _, rfl, rfl, by rw [fdJ_zero, List.append_nil]; exact HTA, HITA, HCB, HBA⟩
              case round =>
                clear HTA HITA HCB HBA
                obtain ⟨t, ht, g4, rfl, HTW, HIT, HC, HB⟩ := hrel
                have G4 := Lib.hid g4
                clear g4
                by_cases hlt2 : t < nv
                · obtain ⟨xv, rfl, hxv, hcv⟩ := HVS.out (by rw [← HNV.out]; omega)
                  have hcf := hcv t (by rw [← HNV.out]; exact hlt2)
                  obtain ⟨q, hq⟩ : ∃ q, q = cy.vals.getD t 0 := ⟨_, rfl⟩
                  rw [← hq] at hcf
                  have cx := (HB.out.cell (World.block_lt_of_cell? _ _ hcf)).trans hcf
                  have HQ := Lib.hid hq
                  have k1 : (0 : Int) ≤ (t : Int) := by omega
                  have k2 : (t : Int) < (nv : Int) := by omega
                  have f0 := cell_of_row _ _ 0 _ _ _ HC.out
                  have b70 := cell_of_row _ _ 0 _ _ _ ((HB.out.block b7 (by omega)).trans HX7d.out)
                  have b71 := cell_of_row _ _ 1 _ _ _ ((HB.out.block b7 (by omega)).trans HX7d.out)
                  have e0 := cell_of_row _ _ 0 _ _ _ HIT.out
                  have e1 := cell_of_row _ _ 1 _ _ _ HIT.out
                  simp only [List.getElem?_toArray, List.getElem?_cons_zero, List.getElem?_cons_succ] at f0 b70 b71 e0 e1
                  have hw8 := HB.out.size
                  have HW8 := Lib.hid hw8
                  have HLT := Lib.hid (show (LJ ++ fdJ rk rf y cy t).length ≤ 1048577 by rw [List.length_append]; have := fdJ_len rk rf y cy t; have := HLL.out; omega)
                  clear hcv hcf hq
                  by_cases hk : kk = rk
                  · have t1 : (kk == rk) = true := by rw [beq_iff_eq]; exact hk
                    by_cases hr : (t : Int) = rf
                    · have t2 : ((t : Int) == rf) = true := by rw [beq_iff_eq]; exact hr
                      have HFY := Lib.hid (show fdJ rk rf y cy (t + 1) = fdJ rk rf y cy t ++ [((yn, yg), q)] by rw [fdJ_yes (by rw [← HKK.out]; exact hk) hr, HQ.out, HYN.out, HYG.out])
                      clear hk hr
                      go_wp2_with (at_builtin; go_must (refine wpList_append_new rfl _ _ 45 rfl W.heap.size 55 (.agg #[.int .i64 0, .int .i64 0]) 2 16 Try.underlying45 (by kernel_rfl) rfl (by decide) _ _ _ rfl HTW.out.b _ _ rfl rfl rfl (by unfold entsOf; rw [List.length_map]; have := HLT.out; omega) (by decide) HW8.out ?_))
                      intro g1 cap1 wa hown hg hor hlta
                      have HTa := Lib.hid (HTW.out.p2 hown hg)
                      have HITa := Lib.hid (gb_cells HTW.out.b hg HIT.out (by decide))
                      have HCa := Lib.hid (gb_cells HTW.out.b hg HC.out (by decide))
                      have HBa := Lib.hid (HB.out.grown hg HW8.out (fun j hj => (own_lt HTW.out.b j hj).1))
                      have HWa := Lib.hid HBa.out.size
                      clear hown hg hor hlta HTW HIT HC HB cx f0 b70 b71 e0 e1 t1 t2
                      go_wp2_with (at_builtin; go_must (refine wpList_append_new rfl _ _ 23 rfl W.heap.size 3 (.int .i64 0) 1 8 Try.underlying23 (by kernel_rfl) rfl (by decide) _ _ _ rfl HTa.out.c _ _ rfl rfl rfl (by unfold valsOf; rw [List.length_map]; have := HLT.out; omega) (by decide) HWa.out ?_))
                      intro g2 cap2 wb hown hg hor hlta
                      have HTb := HTa.out.p3 hown hg hor
                      rw [ents_one _ _ _ q, vals_one _ yn yg, List.append_assoc, ← HFY.out] at HTb
                      have HTc := Lib.hid HTb
                      have HITb := Lib.hid (gb_cells HTa.out.c hg HITa.out (by decide))
                      have HCb := Lib.hid (gb_cells HTa.out.c hg HCa.out (by decide))
                      have HBb := Lib.hid (HBa.out.grown hg HWa.out (fun j hj => (own_lt HTa.out.c j hj).1))
                      clear hown hg hor hlta HTa HITa HCa HBa HTb
                      go_wp2_with fail
                      go_roundg (nv - (t + 1))
                      case measure => rw [G4.out]; omega
                      case rel => exact ⟨t + 1, hlt2, rfl, by go_num, HTc, HITb, HCb, HBb⟩
                    · have t2 : ((t : Int) == rf) = false := by rw [beq_eq_false_iff_ne]; exact hr
                      have HFN := Lib.hid (fdJ_no (rk := rk) (rf := rf) (y := y) (c := cy) (t := t) (fun h => hr h.2))
                      clear hk hr
                      go_wp2_with fail
                      go_roundg (nv - (t + 1))
                      case measure => rw [G4.out]; omega
                      case rel => exact ⟨t + 1, hlt2, rfl, by go_num, by rw [HFN.out]; exact HTW, HIT, HC, HB⟩
                  · have t1 : (kk == rk) = false := by rw [beq_eq_false_iff_ne]; exact hk
                    have HFN := Lib.hid (fdJ_no (rk := rk) (rf := rf) (y := y) (c := cy) (t := t) (fun h => hk (by rw [HKK.out]; exact h.1)))
                    clear hk
                    go_wp2_with fail
                    go_roundg (nv - (t + 1))
                    case measure => rw [G4.out]; omega
                    case rel => exact ⟨t + 1, hlt2, rfl, by go_num, by rw [HFN.out]; exact HTW, HIT, HC, HB⟩
                · have hte : t = cy.vals.length := by rw [← HNV.out]; omega
                  rw [hte, fdJ_all, ← HLJ.out] at HTW
                  clear hte
                  go_wp2_with fail
                  go_roundg (nc - (j + 1))
                  case measure => rw [G3.out]; omega
                  case rel => exact ⟨j + 1, hlj, rfl, by go_num, HTW, HIT, HB⟩
            · have hj2 : y.comps.take j = y.comps := List.take_of_length_le (by rw [← HNC.out]; omega)
              rw [hj2] at HTW
              have HTN := HTW
              have hfi : LI ++ y.comps.flatMap (fd rk rf y) = (its.take (i + 1)).flatMap (fdI rk rf) := by rw [HST.out]; rfl
              rw [hfi] at HTN
              clear hj2 hfi HTW
              go_wp2_with fail
              go_roundg (m - (i + 1))
              case measure => rw [G2.out]; omega
              case rel => exact ⟨i + 1, hlt, rfl, by go_num, HTN, HB⟩
      · have hi2 : its.take i = its := List.take_of_length_le (by rw [← HM.out]; omega)
        obtain rfl : i = m := by omega
        rw [hi2] at HTW
        have HTN : Hid (Tri W.heap.size (wk its wi wo i) (entsOf (fdA rk rf its)) (valsOf (fdA rk rf its)) u12 u13 u14 wr) := HTW
        clear hi2 HTW
        obtain ⟨nl, hnl⟩ : ∃ n, n = (fdA rk rf its).length := ⟨_, rfl⟩
        have hT8 : nl ≤ 1048576 := by rw [hnl]; exact HT.out
        obtain ⟨a12, c12, rfl⟩ := own_slice HTN.out.a
        obtain ⟨a13, c13, rfl⟩ := own_slice HTN.out.b
        obtain ⟨a14, c14, rfl⟩ := own_slice HTN.out.c
        have hle : (entsOf (fdA rk rf its)).length = nl := by unfold entsOf; rw [List.length_map, hnl]
        have hlv : (valsOf (fdA rk rf its)).length = nl := by unfold valsOf; rw [List.length_map, hnl]
        have HZ12 := Lib.hid (IntsAt.of_own HTN.out.a rfl)
        have HZ13 := Lib.hid (EntsAt.of_own HTN.out.b rfl)
        have HZ14 := Lib.hid (IntsAt.of_own HTN.out.c rfl)
        rw [HWN.out, hle, hlv]
        have HX4r := Lib.hid (heap_below HX4d.out HB.out)
        have HX7r := Lib.hid (heap_below HX7d.out HB.out)
        have HX8r := Lib.hid (heap_below HX8d.out HB.out)
        have HVr := Lib.hid (show Boxed wr b9 23 (.slice rz nr cz) from (HB.out.block _ h9W).trans HV.out)
        have HZLr := Lib.hid (HZL.out.below HB.out)
        have HKDr := Lib.hid (heap_below HKD.out HB.out)
        have HBr := Lib.hid (HBx.out.trans (HB.out.mono hxs))
        have HLE := Lib.hid hle
        have HLV := Lib.hid hlv
        have HNL2 := Lib.hid hnl
        have y0 := cell_of_row _ _ 0 _ _ _ HX4r.out
        have y1 := cell_of_row _ _ 1 _ _ _ HX4r.out
        have y2 := cell_of_row _ _ 2 _ _ _ HX4r.out
        have x0 := cell_of_row _ _ 0 _ _ _ HX7r.out
        have x1 := cell_of_row _ _ 1 _ _ _ HX7r.out
        simp only [List.getElem?_toArray, List.getElem?_cons_zero, List.getElem?_cons_succ] at y0 y1 y2 x0 x1
        clear HTN hle hlv hnl HX4d HX7d HX8d HV HZL HKD HB G2
        have CQF := Lib.hid (q_Fields its (.agg #[.slice ak nk ck, .slice ag ng cg, .slice a i c]) rk rf HSM.out HT.out wr ⟨ak, nk, ck, ag, ng, cg, a, c, by rw [HM.out], HZ.out.below ItemAt.abides HBr.out⟩)
        go_wp2_with fail
        clear y0 y1 y2 x0 x1
        refine CQF.out.mono ?_
        rintro e w5 ⟨fa, fc, fb, fd', rfl, hE, hV, hb⟩
        rw [← HNL2.out]
        have HE := Lib.hid hE
        have HV := Lib.hid hV
        have HZ12a := Lib.hid (HZ12.out.below hb)
        have HZ13a := Lib.hid (HZ13.out.below hb)
        have HZ14a := Lib.hid (HZ14.out.below hb)
        have HX4a := Lib.hid (heap_below HX4r.out hb)
        have HX8a := Lib.hid (heap_below HX8r.out hb)
        have HVa := (hb.block b9 (lt_of_heap HVr.out)).trans HVr.out
        have HZLa := Lib.hid (HZLr.out.below hb)
        have HKDa := Lib.hid (heap_below HKDr.out hb)
        have HBa := Lib.hid (HBr.out.trans (hb.mono HBr.out.size))
        have v0 := cell_of_row _ _ 0 _ _ _ HVa
        simp only [List.getElem?_toArray, List.getElem?_cons_zero] at v0
        clear HVa hE hV hb CQF HZ12 HZ13 HZ14 HX4r HX7r HX8r HVr HZLr HKDr HBr
        have CE := eq_intsN rz a12 cz c12 nr nr (wk its wi wo i) (wk its wi wo i) HWN.out HWN.out (by omega) (by omega) w5 HZLa.out HZ12a.out
        rw [decide_eq_true rfl] at CE
        have HCE := Lib.hid CE
        clear CE
        go_wp2_with fail
        clear v0
        refine HCE.out.mono ?_
        rintro e w6 ⟨rfl, hb⟩
        have HEb := Lib.hid (HE.out.below hb)
        have HVb := Lib.hid (HV.out.below hb)
        have HZ13b := Lib.hid (HZ13a.out.below hb)
        have HZ14b := Lib.hid (HZ14a.out.below hb)
        have HX4b := Lib.hid (heap_below HX4a.out hb)
        have HX8b := Lib.hid (heap_below HX8a.out hb)
        have HKDb := Lib.hid (heap_below HKDa.out hb)
        have HBb := Lib.hid (HBa.out.trans (hb.mono HBa.out.size))
        have y0 := cell_of_row _ _ 0 _ _ _ HX4b.out
        have y1 := cell_of_row _ _ 1 _ _ _ HX4b.out
        have y2 := cell_of_row _ _ 2 _ _ _ HX4b.out
        simp only [List.getElem?_toArray, List.getElem?_cons_zero, List.getElem?_cons_succ] at y0 y1 y2
        clear hb HCE HE HV HZ12a HZ13a HZ14a HX4a HX8a HKDa HBa HZLa
        have CC := q_Count its (.agg #[.slice ak nk ck, .slice ag ng cg, .slice a i c]) ai ao ni ci no co wi wo HNI.out HNO.out h2 h3 HSM.out w6 ⟨ak, nk, ck, ag, ng, cg, a, c, by rw [HM.out], HZ.out.below ItemAt.abides HBb.out⟩ (HZI.out.below HBb.out) (HZO.out.below HBb.out)
        rw [← HM.out, ← HROWS.out, ← HNR.out] at CC
        have HCC := Lib.hid CC
        clear CC
        go_wp2_with fail
        clear y0 y1 y2
        refine HCC.out.mono ?_
        rintro e w7 ⟨rfl, hb⟩
        have HEc := Lib.hid (HEb.out.below hb)
        have HVc := Lib.hid (HVb.out.below hb)
        have HZ13c := Lib.hid (HZ13b.out.below hb)
        have HZ14c := Lib.hid (HZ14b.out.below hb)
        have HX8c := Lib.hid (heap_below HX8b.out hb)
        have HKDc := Lib.hid (heap_below HKDb.out hb)
        have HBc := Lib.hid (HBb.out.trans (hb.mono HBb.out.size))
        clear hb HCC HEb HVb HZ13b HZ14b HX4b HX8b HKDb HBb
        have t3 : ((nr : Int) == (nr : Int)) = true := beq_self_eq_true _
        have HCN := Lib.hid (eq_ents fa a13 fc c13 nl (entsOf (fdA rk rf its)) HLE.out (by omega) w7 HEc.out HZ13c.out)
        go_wp2_with fail
        refine HCN.out.mono ?_
        rintro e w8 ⟨rfl, hb⟩
        have CV := eq_intsN fb a14 fd' c14 nl nl (valsOf (fdA rk rf its)) (valsOf (fdA rk rf its)) HLV.out HLV.out (by omega) (by omega) w8 (HVc.out.below hb) (HZ14c.out.below hb)
        rw [decide_eq_true rfl] at CV
        have HCV := Lib.hid CV
        have HX8e := Lib.hid (heap_below HX8c.out hb)
        have HKDe := Lib.hid (heap_below HKDc.out hb)
        have HBe := Lib.hid (HBc.out.trans (hb.mono HBc.out.size))
        clear hb HCN HEc HVc HZ13c HZ14c HX8c HKDc HBc CV
        go_wp2_with fail
        refine HCV.out.mono ?_
        rintro e w9 ⟨rfl, hb⟩
        have HX8f := Lib.hid (heap_below HX8e.out hb)
        have HKDf := Lib.hid (heap_below HKDe.out hb)
        have HBf := Lib.hid (HBe.out.trans (hb.mono HBe.out.size))
        have hx8 : Boxed w9 b8 4 (.bool false) := HX8f.out
        have z0 := hx8.cell
        have z1 := hx8.frozen
        clear hb HCV HX8e HKDe HBe
        go_wp2_with fail
        have hkd := (Below.heap_setCell w9 ⟨b8, 0, none⟩ (.bool true) D (by have := HD9.out; show D ≠ b8; omega)).trans HKDf.out
        have hx9 := hx8.set (.bool true)
        have hxp : ((w9.setCell ⟨b8, 0, none⟩ (.bool true)).putObj D (.deferred none)).cell? ⟨b8, 0, none⟩ = some (.bool true) := cell_put _ hx9.cell hkd rfl
        refine ⟨by simp, .inl ⟨_, _, rfl, run_takeDeferred hkd, ?_⟩⟩
        exact ⟨_, results_cell1 rfl _ _ b8 (.bool true) rfl (loadVar_bool hxp), rfl, (HBf.out.setCell (p := ⟨b8, 0, none⟩) (by have := HBO8.out; show w.heap.size ≤ b8; omega) _).trans (belowK_b (w := w) (Nat.le_refl _) _ D _ _ HDL.out hkd rfl rfl)⟩
  case stop =>
    rintro D c pre W _ _ h _
    exact h.elim
end Go.Proofs.Ytlahmcbaiebapaa
