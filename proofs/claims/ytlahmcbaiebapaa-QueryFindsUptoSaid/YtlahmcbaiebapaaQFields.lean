/- query.Fields. By program (gen_qfields.py). -/
import Derived.Test.YtlahmcbaiebapaaQCount
import Derived.Test.YtlahmcbaiebapaaSlotL
import Derived.Test.YtlahmcbaiebapaaRegSt2
namespace Go.Proofs.Ytlahmcbaiebapaa
open Go.ChangeShapes Go.WideShapes Go.ChangeAt Go.RowKit Go.Mem Go.Slt
set_option linter.unusedVariables false
abbrev FdV := (Int × Int) × Int
def fd (rk rf : Int) (y : ItemV) (c : CompV) : List FdV := if c.kind = rk ∧ 0 ≤ rf ∧ rf < c.vals.length then [((y.n, y.gen), c.vals.getD rf.toNat 0)] else []
def fdI (rk rf : Int) (y : ItemV) : List FdV := y.comps.flatMap (fd rk rf y)
def fdA (rk rf : Int) (its : List ItemV) : List FdV := its.flatMap (fdI rk rf)
theorem flat_take_succ {α β : Type} (f : α → List β) (l : List α) (i : Nat) (h : i < l.length) : (l.take (i + 1)).flatMap f = (l.take i).flatMap f ++ f l[i] := by
  rw [List.take_succ_eq_append_getElem h, List.flatMap_append]; simp
theorem flat_take_le {α β : Type} (f : α → List β) (l : List α) (i : Nat) : ((l.take i).flatMap f).length ≤ (l.flatMap f).length := by
  conv => rhs; rw [← List.take_append_drop i l, List.flatMap_append, List.length_append]
  omega
theorem fd_no {rk rf : Int} {y : ItemV} {c : CompV} (h : ¬ (c.kind = rk ∧ 0 ≤ rf ∧ rf < c.vals.length)) : fd rk rf y c = [] := if_neg h
theorem fd_yes {rk rf : Int} {y : ItemV} {c : CompV} (h : c.kind = rk ∧ 0 ≤ rf ∧ rf < c.vals.length) : fd rk rf y c = [((y.n, y.gen), c.vals.getD rf.toNat 0)] := if_pos h
theorem cell_grp {P : Nat → Prop} {a b : World} {p : Addr} {v : Value} (h : a.cell? p = some v) (hg : GrP P a b) (hp : ¬ P p.block) : b.cell? p = some v :=
  (cell_same (hg.block _ (World.block_lt_of_cell? _ _ h) hp)).trans h
def entsOf (L : List FdV) : List (Int × Int) := L.map (·.1)
def valsOf (L : List FdV) : List Int := L.map (·.2)
theorem ents_snoc (L : List FdV) (a b q : Int) : entC (entsOf L) ++ (#[Value.int .i64 a, .int .i64 b] : Array Value).toList = entC (entsOf (L ++ [((a, b), q)])) := by
  rw [entC_snoc]; simp [entsOf]
theorem vals_snoc (L : List FdV) (a b q : Int) : vints .i64 (valsOf L) ++ (#[Value.int .i64 q] : Array Value).toList = vints .i64 (valsOf (L ++ [((a, b), q)])) := by
  rw [vints_snoc]; simp [valsOf]
/-- the two lists of the call's own -/
def Two (L : List FdV) (B : Nat) (v6 v7 : Value) (w : World) : Prop := w.ownsRow B 55 2 v6 L.length (entC (entsOf L)) ∧ w.ownsRow B 3 1 v7 L.length (vints .i64 (valsOf L))
theorem Two.below {L : List FdV} {B : Nat} {v6 v7 : Value} {w w' : World} (h : Two L B v6 v7 w) (hb : Below w.heap.size w w') : Two L B v6 v7 w' := ⟨own_below h.1 hb, own_below h.2 hb⟩

/-- What the region has made of the world. -/
structure FdSt (W0 : World) (D : Nat) (v1 v2 : Value) (n1 n2 : Nat) (xs1 xs2 : List Value) (a b q : Int) (S : Nat → Option Value) (w : World) : Prop where
  gr : GrP (fun k => v1.ownBlock = some k ∨ v2.ownBlock = some k) W0 w
  e1 : S 4 = none → ∀ v, S 3 = some v → ∃ g, v = .slice (some ⟨g, 0, none⟩) 1 1 ∧ W0.heap.size ≤ g ∧ w.heap[g]? = some (.cells #[.int .i64 a, .int .i64 b] 55 (0, 0))
  e2 : S 13 = none → ∀ v, S 12 = some v → ∃ g, v = .slice (some ⟨g, 0, none⟩) 1 1 ∧ W0.heap.size ≤ g ∧ w.heap[g]? = some (.cells #[.int .i64 q] 3 (0, 0))
  r1 : S 4 = none → w.ownsRow D 55 2 v1 n1 xs1
  q1 : ∀ v, S 4 = some v → w.ownsRow D 55 2 v (n1 + 1) (xs1 ++ (#[.int .i64 a, .int .i64 b] : Array Value).toList)
  r2 : S 13 = none → w.ownsRow D 3 1 v2 n2 xs2
  q2 : ∀ v, S 13 = some v → w.ownsRow D 3 1 v (n2 + 1) (xs2 ++ (#[.int .i64 q] : Array Value).toList)
theorem FdSt.congr {W0 : World} {D : Nat} {v1 v2 : Value} {n1 n2 : Nat} {xs1 xs2 : List Value} {a b q : Int}  (S S' : Nat → Option Value) (w : World) (hs : ∀ j ∈ [3, 4, 12, 13], S j = S' j) (h : FdSt W0 D v1 v2 n1 n2 xs1 xs2 a b q S w) : FdSt W0 D v1 v2 n1 n2 xs1 xs2 a b q S' w := by
  have h3 := hs 3 (by decide); have h4 := hs 4 (by decide); have h12 := hs 12 (by decide); have h13 := hs 13 (by decide)
  obtain ⟨a1, a2, a3, a4, a5, a6, a7⟩ := h
  rw [h3, h4] at a2
  rw [h12, h13] at a3
  rw [h4] at a4 a5
  rw [h13] at a6 a7
  exact ⟨a1, a2, a3, a4, a5, a6, a7⟩
theorem FdSt.init {w : World} {D : Nat} {v1 v2 : Value} {n1 n2 : Nat} {xs1 xs2 : List Value} {a b q : Int}  (h1 : w.ownsRow D 55 2 v1 n1 xs1) (h2 : w.ownsRow D 3 1 v2 n2 xs2) : FdSt w D v1 v2 n1 n2 xs1 xs2 a b q (fun _ => none) w.drew :=
  ⟨(GrP.refl _ _).drew, fun _ v h => (by cases h), fun _ v h => (by cases h), fun _ => h1, fun v h => (by cases h), fun _ => h2, fun v h => (by cases h)⟩
theorem FdSt.below {W0 w w' : World} {D : Nat} {v1 v2 : Value} {n1 n2 : Nat} {xs1 xs2 : List Value} {a b q : Int} {S : Nat → Option Value} (h : FdSt W0 D v1 v2 n1 n2 xs1 xs2 a b q S w) (hb : Below w.heap.size w w') : FdSt W0 D v1 v2 n1 n2 xs1 xs2 a b q S w' := by
  obtain ⟨a1, a2, a3, a4, a5, a6, a7⟩ := h
  refine ⟨a1.then hb, fun h v hv => ?_, fun h v hv => ?_, fun h => own_below (a4 h) hb, fun v hv => own_below (a5 v hv) hb, fun h => own_below (a6 h) hb, fun v hv => own_below (a7 v hv) hb⟩
  · obtain ⟨g, h1, h2, h3⟩ := a2 h v hv
    exact ⟨g, h1, h2, heap_below h3 hb⟩
  · obtain ⟨g, h1, h2, h3⟩ := a3 h v hv
    exact ⟨g, h1, h2, heap_below h3 hb⟩
theorem FdSt.s1 {W0 w : World} {D : Nat} {v1 v2 : Value} {n1 n2 : Nat} {xs1 xs2 : List Value} {a b q : Int} {S : Nat → Option Value} (h : FdSt W0 D v1 v2 n1 n2 xs1 xs2 a b q S w) : FdSt W0 D v1 v2 n1 n2 xs1 xs2 a b q (upd S 3 (.slice (some ⟨w.heap.size, 0, none⟩) 1 1)) (w.alloc (.cells #[.int .i64 a, .int .i64 b] 55 (0, 0))) := by
  have h2 := h.below ((Below.refl _ _).alloc (Nat.le_refl _) (.cells #[.int .i64 a, .int .i64 b] 55 (0, 0)))
  refine ⟨h2.gr, fun _ v hv => ?_, h2.e2, h2.r1, h2.q1, h2.r2, h2.q2⟩
  rw [upd_same] at hv
  injection hv with hv
  exact ⟨_, hv.symm, h.gr.size, heap_alloc_new _ _⟩
theorem FdSt.s2 {W0 w : World} {D : Nat} {v1 v2 : Value} {n1 n2 : Nat} {xs1 xs2 : List Value} {a b q : Int} {S : Nat → Option Value} (h : FdSt W0 D v1 v2 n1 n2 xs1 xs2 a b q S w) : FdSt W0 D v1 v2 n1 n2 xs1 xs2 a b q (upd S 12 (.slice (some ⟨w.heap.size, 0, none⟩) 1 1)) (w.alloc (.cells #[.int .i64 q] 3 (0, 0))) := by
  have h2 := h.below ((Below.refl _ _).alloc (Nat.le_refl _) (.cells #[.int .i64 q] 3 (0, 0)))
  refine ⟨h2.gr, h2.e1, fun _ v hv => ?_, h2.r1, h2.q1, h2.r2, h2.q2⟩
  rw [upd_same] at hv
  injection hv with hv
  exact ⟨_, hv.symm, h.gr.size, heap_alloc_new _ _⟩
theorem FdSt.a1 {W0 w w' : World} {D : Nat} {v1 v2 : Value} {n1 n2 : Nat} {xs1 xs2 : List Value} {a b q : Int} {S : Nat → Option Value} (h : FdSt W0 D v1 v2 n1 n2 xs1 xs2 a b q S w) (hv0 : ∀ k, v1.ownBlock = some k → k < W0.heap.size) (n4 : S 4 = none) (n13 : S 13 = none) {v : Value} (ho : w'.ownsRow D 55 2 v (n1 + 1) (xs1 ++ (#[.int .i64 a, .int .i64 b] : Array Value).toList)) (hg : w.grownBy w' v1.ownBlock) : FdSt W0 D v1 v2 n1 n2 xs1 xs2 a b q (upd S 4 v) w' := by
  have hu := h.r1 n4
  refine ⟨h.gr.gb' hg (fun k hk _ => .inl hk), fun h4 => (by have := h4; rw [upd_same] at this; cases this), fun _ v hv => ?_, fun h4 => (by have := h4; rw [upd_same] at this; cases this), fun u hv => ?_, fun _ => own_grown (h.r2 n13) hg (fun k hk => own_other (h.r2 n13) hu (by decide) k hk), fun u hv => (by have := hv; rw [upd_ne _ _ _ _ (by decide), n13] at this; cases this)⟩
  · obtain ⟨g2, h1, h2, h3⟩ := h.e2 n13 v (by rw [upd_ne _ _ _ _ (by decide)] at hv; exact hv)
    exact ⟨g2, h1, h2, heap_gb h3 hg (fun e => by have := hv0 g2 e.symm; omega)⟩
  · rw [upd_same] at hv
    injection hv with hv
    subst hv
    exact ho
theorem FdSt.a2 {W0 w w' : World} {D : Nat} {v1 v2 : Value} {n1 n2 : Nat} {xs1 xs2 : List Value} {a b q : Int} {S : Nat → Option Value} (h : FdSt W0 D v1 v2 n1 n2 xs1 xs2 a b q S w) (hv0 : ∀ k, v2.ownBlock = some k → k < W0.heap.size) {v4 : Value} (n4 : S 4 = some v4) (n13 : S 13 = none) {v : Value} (ho : w'.ownsRow D 3 1 v (n2 + 1) (xs2 ++ (#[.int .i64 q] : Array Value).toList)) (hg : w.grownBy w' v2.ownBlock) : FdSt W0 D v1 v2 n1 n2 xs1 xs2 a b q (upd S 13 v) w' := by
  have hu := h.r2 n13
  refine ⟨h.gr.gb' hg (fun k hk _ => .inr hk), fun h4 => (by have := h4; rw [upd_ne _ _ _ _ (by decide), n4] at this; cases this), fun h13 => (by have := h13; rw [upd_same] at this; cases this), fun h4 => (by have := h4; rw [upd_ne _ _ _ _ (by decide), n4] at this; cases this), fun u hv => own_grown (h.q1 u (by rw [upd_ne _ _ _ _ (by decide)] at hv; exact hv)) hg (fun k hk => own_other (h.q1 u (by rw [upd_ne _ _ _ _ (by decide)] at hv; exact hv)) hu (by decide) k hk), fun h13 => (by have := h13; rw [upd_same] at this; cases this), fun u hv => ?_⟩
  rw [upd_same] at hv
  injection hv with hv
  subst hv
  exact ho
def FieldsPost (L : List FdV) (W : World) (e : Ending) (w' : World) : Prop := ∃ a c b d, e = .returned (.tuple #[.slice a L.length c, .slice b L.length d]) ∧ EntsAt w' a (entsOf L) ∧ IntsAt .i64 w' b (valsOf L) ∧ Below W.heap.size W w'
theorem rg_idx_at {P : Program} {t e : TypeId} {k : Nat} (hu : P.underlying t = some (.slice e)) (hs : (P.info? e).map (·.size) = some k) (x : Addr) (n c j : Nat) (hj : j < n) (w : World) :
    (Instr.indexAt t (.slice (some x) n c) (.int .i64 j)).run P w = .ok (.pointer (some (x.add (j * k)))) w := by
  have i1 : (0 : Int) ≤ (j : Int) := by omega
  have i2 : (j : Int) < (n : Int) := by omega
  cases hq : P.info? e with
  | none => simp [hq] at hs
  | some i =>
    have hsz : i.size = k := by simpa [hq] using hs
    have ha : Sem.run P (asIntOf (.int .i64 (j : Int))) w = .ok (.i64, (j : Int)) w := rfl
    simp [Instr.indexAt, run_underlying hu, sizeOf, typeInfo, hq, hsz, Sem.run_bind, ha, hj]
theorem list16 {α : Type} {vs : List α} (h : vs.length = 16) : ∃ x0 x1 x2 x3 x4 x5 x6 x7 x8 x9 x10 x11 x12 x13 x14 x15, vs = [x0, x1, x2, x3, x4, x5, x6, x7, x8, x9, x10, x11, x12, x13, x14, x15] := by
  obtain ⟨x0, t0, rfl, h0⟩ := cons_of h
  obtain ⟨x1, t1, rfl, h1⟩ := cons_of h0
  obtain ⟨x2, t2, rfl, h2⟩ := cons_of h1
  obtain ⟨x3, t3, rfl, h3⟩ := cons_of h2
  obtain ⟨x4, t4, rfl, h4⟩ := cons_of h3
  obtain ⟨x5, t5, rfl, h5⟩ := cons_of h4
  obtain ⟨x6, t6, rfl, h6⟩ := cons_of h5
  obtain ⟨x7, t7, rfl, h7⟩ := cons_of h6
  obtain ⟨x8, t8, rfl, h8⟩ := cons_of h7
  obtain ⟨x9, t9, rfl, h9⟩ := cons_of h8
  obtain ⟨x10, t10, rfl, h10⟩ := cons_of h9
  obtain ⟨x11, t11, rfl, h11⟩ := cons_of h10
  obtain ⟨x12, t12, rfl, h12⟩ := cons_of h11
  obtain ⟨x13, t13, rfl, h13⟩ := cons_of h12
  obtain ⟨x14, t14, rfl, h14⟩ := cons_of h13
  obtain ⟨x15, t15, rfl, h15⟩ := cons_of h14
  exact ⟨x0, x1, x2, x3, x4, x5, x6, x7, x8, x9, x10, x11, x12, x13, x14, x15, by rw [List.eq_nil_of_length_eq_zero h15]⟩
def F_qf10 (bi bc br nv cv f : Nat) (yn yg q : Int) (xv : Addr) (v6 v7 : Value) (jq : Nat) (v : Value) (w : World) : Prop :=
  match jq with
  | 0 => v = v6
  | 1 => v = .pointer (some ⟨bi, 0, none⟩)
  | 2 => v = .agg #[.int .i64 yn, .int .i64 yg]
  | 3 => True
  | 4 => True
  | 5 => v = v7
  | 6 => v = .pointer (some ⟨bc, 1, none⟩)
  | 7 => v = .slice (some xv) nv cv
  | 8 => v = .pointer (some ⟨br, 1, none⟩)
  | 9 => v = .int .i64 (f : Int)
  | 10 => v = .pointer (some (xv.add f))
  | 11 => v = .int .i64 q
  | 12 => True
  | 13 => True
  | _ => True
theorem F_qf10_mono (bi bc br nv cv f : Nat) (yn yg q : Int) (xv : Addr) (v6 v7 : Value) : FactsF (F_qf10 bi bc br nv cv f  yn yg q  xv  v6 v7 ) := ⟨by
  intro jq v w w' h
  unfold F_qf10 at h ⊢
  split at h
  all_goals first
    | exact h
    | trivial⟩


set_option maxRecDepth 100000 in
set_option maxHeartbeats 16000000 in
theorem q_Fields (its : List ItemV) (v : Value) (rk rf : Int) (hsm : SmallI its) (hT : (fdA rk rf its).length ≤ 1048576) (W : World) (hv : WorldI W v its) :
    Calls Try.prog 51 #[v, .agg #[.int .i64 rk, .int .i64 rf]] W (FieldsPost (fdA rk rf its) W) := by
  obtain ⟨ak, nk, ck, ag, ng, cg, a, c, rfl, hz⟩ := hv
  obtain ⟨m, hm⟩ : ∃ m, m = its.length := ⟨_, rfl⟩
  have hb0 := (Below.refl W.heap.size W).alloc (Nat.le_refl _) (.cells #[.slice ak nk ck, .slice ag ng cg, .slice a its.length c] 70)
  have hb1 := hb0.alloc (by simp) (.cells #[.int .i64 rk, .int .i64 rf] 72)
  have hx := row_second W (.cells #[.slice ak nk ck, .slice ag ng cg, .slice a its.length c] 70) (.cells #[.int .i64 rk, .int .i64 rf] 72)
  have HB1 := Lib.hid hb1
  have HZ := Lib.hid hz
  have HSM := Lib.hid hsm
  have HT := Lib.hid hT
  rw [← hm] at hx HB1 ⊢
  have HM := Lib.hid hm
  have hm20 : m ≤ 1048576 := by rw [hm]; exact hsm.1
  have HX := Lib.hid hx
  clear hb0 hb1 hz hsm hT hm hx
  go_enter Try.func51, Try.ntmps51
  go_wp2_with fail
  obtain ⟨W1, hW1⟩ : ∃ W1, W1 = (W.alloc (.cells #[.slice ak nk ck, .slice ag ng cg, .slice a m c] 70)).alloc (.cells #[.int .i64 rk, .int .i64 rf] 72) := ⟨_, rfl⟩
  rw [← hW1] at HB1 HX ⊢
  clear hW1
  obtain ⟨br, hbr⟩ : ∃ br, br = W.heap.size + 1 := ⟨_, rfl⟩
  rw [← hbr] at HX ⊢
  have HBR := Lib.hid hbr
  clear hbr
  go_loopg [6, 7, 15] m (fun gk v6 v7 vi wx => ∃ (i : Nat), i ≤ m ∧ gk = m - i ∧ vi = .int .i64 i ∧ Hid (Two ((its.take i).flatMap (fdI rk rf)) W.heap.size v6 v7 wx) ∧ Hid (wx.heap[br]? = some (.cells #[.int .i64 rk, .int .i64 rf] 72 (0, 0))) ∧ Hid (Below W.heap.size W wx))
  case atStart => exact ⟨0, Nat.zero_le _, rfl, rfl, Lib.hid ⟨World.ownsRow_nil _ _ _ _, World.ownsRow_nil _ _ _ _⟩, HX, HB1⟩
  case round =>
    clear HX HB1
    obtain ⟨i, hi, g2, rfl, HTW, HX, HB⟩ := hrel
    have G2 := Lib.hid g2
    clear g2
    by_cases hlt : i < m
    · obtain ⟨x, rfl, hx, hix⟩ := (HZ.out.below ItemAt.abides HB.out) (by rw [← HM.out]; omega)
      obtain ⟨c0, c1, ac, cc, c2, hsl⟩ := hix i (by rw [← HM.out]; exact hlt)
      obtain ⟨y, hy⟩ : ∃ y, y = its[i]'(by rw [← HM.out]; exact hlt) := ⟨_, rfl⟩
      obtain ⟨wsl, hws, hwz⟩ : ∃ wsl : Option Addr × Nat, wsl = (ac, cc) ∧ True := ⟨_, rfl, trivial⟩
      have hsW : ∃ ac0 cc0, W.cell? ⟨(x.add (i * 3)).block, (x.add (i * 3)).off + 2, none⟩ = some (.slice ac0 y.comps.length cc0) ∧ SlAt 2 CompAt W ac0 y.comps := by
        obtain ⟨x', e', hx', hix'⟩ := HZ.out (by rw [← HM.out]; omega)
        injection e' with e'
        subst e'
        obtain ⟨_, _, a0, c0', h2, h3⟩ := hix' i (by rw [← HM.out]; exact hlt)
        rw [← hy] at h2 h3
        exact ⟨a0, c0', h2, h3⟩
      have hsy := HSM.out.2 y (by rw [hy]; exact List.getElem_mem _)
      have hst : (its.take (i + 1)).flatMap (fdI rk rf) = (its.take i).flatMap (fdI rk rf) ++ fdI rk rf y := by rw [flat_take_succ _ _ _ (by rw [← HM.out]; exact hlt), hy]
      have HST := Lib.hid hst
      have HTL := Lib.hid (show ((its.take (i + 1)).flatMap (fdI rk rf)).length ≤ 1048576 from Nat.le_trans (flat_take_le _ _ _) HT.out)
      rw [← hy] at c0 c1 c2 hsl
      obtain ⟨ac0, cc0, hs1, hs2⟩ := hsW
      have hsc := (HB.out.cell (World.block_lt_of_cell? _ _ hs1)).trans hs1
      rw [hsc] at c2
      injection c2 with c2
      injection c2 with c2a c2b c2c
      subst c2a c2c
      have c2 := hsc
      obtain ⟨yn, hyn⟩ : ∃ q, q = y.n := ⟨_, rfl⟩
      obtain ⟨yg, hyg2⟩ : ∃ q, q = y.gen := ⟨_, rfl⟩
      obtain ⟨nc, hnc⟩ : ∃ q, q = y.comps.length := ⟨_, rfl⟩
      rw [← hyn] at c0
      rw [← hyg2] at c1
      rw [← hnc] at c2
      have HYN := Lib.hid hyn
      have HYG := Lib.hid hyg2
      have HNC := Lib.hid hnc
      have HSY := Lib.hid hsy
      have HSL := Lib.hid hs2
      have i1 : (0 : Int) ≤ (i : Int) := by omega
      have i2 : (i : Int) < (m : Int) := by omega
      have hlb := HB.out.size
      have hnc20 : nc ≤ 1048576 := by rw [hnc]; exact hsy.1
      have hbA : Below wr.heap.size wr (wr.alloc (.cells #[.int .i64 yn, .int .i64 yg, .slice ac0 nc cc0] 80)) := (Below.refl _ _).alloc (Nat.le_refl _) _
      have HXA := Lib.hid (heap_below HX.out hbA)
      have HIT := Lib.hid (heap_alloc_new wr (.cells #[.int .i64 yn, .int .i64 yg, .slice ac0 nc cc0] 80))
      have HTA := Lib.hid (HTW.out.below hbA)
      have HBA := Lib.hid (HB.out.trans (hbA.mono hlb))
      clear hix hy hsy hsl hyn hyg2 hnc hbA hst hs1 hs2 hsc hws hwz c2b HTW HX HB
      go_wp2_with fail
      obtain ⟨W2, hW2⟩ : ∃ W2, W2 = wr.alloc (.cells #[.int .i64 yn, .int .i64 yg, .slice ac0 nc cc0] 80) := ⟨_, rfl⟩
      rw [← hW2] at HXA HIT HTA HBA ⊢
      obtain ⟨bi, hbi⟩ : ∃ bi, bi = wr.heap.size := ⟨_, rfl⟩
      rw [← hbi] at HIT ⊢
      clear hW2 hbi c0 c1 c2
      obtain ⟨LI, hLI⟩ : ∃ LI, LI = (its.take i).flatMap (fdI rk rf) := ⟨_, rfl⟩
      rw [← hLI] at HTA HST
      have HLI := Lib.hid hLI
      clear hLI
      go_loopg [6, 7, 22] nc (fun gk v6 v7 vi wx => ∃ (j : Nat), j ≤ nc ∧ gk = nc - j ∧ vi = .int .i64 j ∧ Hid (Two (LI ++ (y.comps.take j).flatMap (fd rk rf y)) W.heap.size v6 v7 wx) ∧ Hid (wx.heap[br]? = some (.cells #[.int .i64 rk, .int .i64 rf] 72 (0, 0))) ∧ Hid (wx.heap[bi]? = some (.cells #[.int .i64 yn, .int .i64 yg, .slice ac0 nc cc0] 80 (0, 0))) ∧ Hid (Below W.heap.size W wx))
      case atStart => exact ⟨0, Nat.zero_le _, rfl, rfl, by simpa using HTA, HXA, HIT, HBA⟩
      case round =>
        clear HXA HIT HTA HBA
        obtain ⟨j, hj, g3, rfl, HTW, HX, HIT, HB⟩ := hrel
        have G3 := Lib.hid g3
        clear g3
        by_cases hlj : j < nc
        · obtain ⟨xc, rfl, hxc, hixc⟩ := HSL.out (by rw [← HNC.out]; omega)
          obtain ⟨cw0, av, cv, cw1, hvals⟩ := hixc j (by rw [← HNC.out]; exact hlj)
          obtain ⟨cy, hcy⟩ : ∃ cy, cy = y.comps[j]'(by rw [← HNC.out]; exact hlj) := ⟨_, rfl⟩
          rw [← hcy] at cw0 cw1 hvals
          have c0 := (HB.out.cell (World.block_lt_of_cell? _ _ cw0)).trans cw0
          have c1 := (HB.out.cell (World.block_lt_of_cell? _ _ cw1)).trans cw1
          have hst2 : (y.comps.take (j + 1)).flatMap (fd rk rf y) = (y.comps.take j).flatMap (fd rk rf y) ++ fd rk rf y cy := by rw [flat_take_succ _ _ _ (by rw [← HNC.out]; exact hlj), hcy]
          have HST2 := Lib.hid hst2
          have hvl := HSY.out.2 cy (by rw [hcy]; exact List.getElem_mem _)
          have hll : (LI ++ (y.comps.take j).flatMap (fd rk rf y)).length ≤ 1048576 := by
            have h1 := HTL.out
            rw [HST.out, List.length_append] at h1
            have h2 := flat_take_le (fd rk rf y) y.comps j
            unfold fdI at h1
            rw [List.length_append]; omega
          obtain ⟨kk, hkk⟩ : ∃ q, q = cy.kind := ⟨_, rfl⟩
          obtain ⟨nv, hnv⟩ : ∃ q, q = cy.vals.length := ⟨_, rfl⟩
          rw [← hkk] at c0
          rw [← hnv] at c1 hvl
          have HKK := Lib.hid hkk
          have HNV := Lib.hid hnv
          have HVS := Lib.hid hvals
          have j1 : (0 : Int) ≤ (j : Int) := by omega
          have j2 : (j : Int) < (nc : Int) := by omega
          have hbA : Below wr.heap.size wr (wr.alloc (.cells #[.int .i64 kk, .slice av nv cv] 84)) := (Below.refl _ _).alloc (Nat.le_refl _) _
          have HXA := Lib.hid (heap_below HX.out hbA)
          have HITA := Lib.hid (heap_below HIT.out hbA)
          have HCB := Lib.hid (heap_alloc_new wr (.cells #[.int .i64 kk, .slice av nv cv] 84))
          have HTA := Lib.hid (HTW.out.below hbA)
          have HBA := Lib.hid (HB.out.trans (hbA.mono HB.out.size))
          obtain ⟨LJ, hLJ⟩ : ∃ LJ, LJ = LI ++ (y.comps.take j).flatMap (fd rk rf y) := ⟨_, rfl⟩
          rw [← hLJ] at HTA hll
          have HLJ := Lib.hid (show LI ++ (y.comps.take (j + 1)).flatMap (fd rk rf y) = LJ ++ fd rk rf y cy by rw [hst2, hLJ, List.append_assoc])
          have HLL := Lib.hid hll
          have x0 := cell_of_row _ _ 0 _ _ _ HXA.out
          have x1 := cell_of_row _ _ 1 _ _ _ HXA.out
          have d0 := cell_of_row _ _ 0 _ _ _ HCB.out
          have d1 := cell_of_row _ _ 1 _ _ _ HCB.out
          simp only [List.getElem?_toArray, List.getElem?_cons_zero, List.getElem?_cons_succ] at x0 x1 d0 d1
          clear hixc hcy hst2 hkk hnv hvals hbA hLJ cw0 cw1 HTW HX HIT HB hll
          by_cases hk : kk = rk
          · have t1 : (kk == rk) = true := by rw [beq_iff_eq]; exact hk
            have HK := Lib.hid hk
            clear hk
            by_cases h0 : 0 ≤ rf
            · by_cases hn : rf < (nv : Int)
              · obtain ⟨f, rfl⟩ : ∃ f : Nat, rf = f := ⟨rf.toNat, by omega⟩
                have HFY := Lib.hid (fd_yes (y := y) (c := cy) (rk := rk) (rf := (f : Int)) ⟨by rw [← HKK.out]; exact HK.out, h0, by rw [← HNV.out]; exact hn⟩)
                go_wp2_with fail
                have hfn : f < nv := by omega
                obtain ⟨W3, hW3⟩ : ∃ W3, W3 = wr.alloc (.cells #[.int .i64 kk, .slice av nv cv] 84) := ⟨_, rfl⟩
                rw [← hW3] at HXA HITA HCB HTA HBA d0 d1 x0 x1 ⊢
                have HW3 := Lib.hid (show W3.heap.size = W3.heap.size from rfl)
                obtain ⟨bc, hbc⟩ : ∃ bc, bc = wr.heap.size := ⟨_, rfl⟩
                rw [← hbc] at HCB d0 d1 ⊢
                obtain ⟨xv, rfl, hxv, hcv⟩ := HVS.out (by rw [← HNV.out]; omega)
                have hcf := hcv f (by rw [← HNV.out]; exact hfn)
                obtain ⟨q, hq⟩ : ∃ q, q = cy.vals.getD f 0 := ⟨_, rfl⟩
                rw [← hq] at hcf
                have hfy := HFY.out
                rw [Int.toNat_natCast, ← hq, ← HYN.out, ← HYG.out] at hfy
                have HFY2 := Lib.hid hfy
                have CX := Lib.hid ((HBA.out.cell (World.block_lt_of_cell? _ _ hcf)).trans hcf)
                have CV := Lib.hid d1
                have CR := Lib.hid x1
                have KE := Lib.hid (show CellsK W3 bi 0 [.int .i64 yn, .int .i64 yg] from fun j u hu => by
                  match j with
                  | 0 => simp at hu; subst hu; rw [cell_of_row _ _ 0 _ _ _ HITA.out]; rfl
                  | 1 => simp at hu; subst hu; rw [cell_of_row _ _ 1 _ _ _ HITA.out]; rfl
                  | j + 2 => simp at hu)
                have hne : ∀ k (cs : Array Value) (t : TypeId), W3.heap[k]? = some (.cells cs t (0, 0)) → 55 ≠ t → 3 ≠ t → ¬ (u6.ownBlock = some k ∨ u7.ownBlock = some k) := fun k cs t hk h1 h2 h => by
                  rcases h with h | h
                  · exact own_ne HTA.out.1 hk h1 k h rfl
                  · exact own_ne HTA.out.2 hk h2 k h rfl
                have N9 := Lib.hid (hne bi _ _ HITA.out (by decide) (by decide))
                have N11 := Lib.hid (hne bc _ _ HCB.out (by decide) (by decide))
                have N3 := Lib.hid (hne br _ _ HXA.out (by decide) (by decide))
                have NX := Lib.hid (show ¬ (u6.ownBlock = some xv.block ∨ u7.ownBlock = some xv.block) from fun h => by
                  rcases h with h | h
                  · have := (own_lt HTA.out.1 _ h).1; omega
                  · have := (own_lt HTA.out.2 _ h).1; omega)
                have HV6 := Lib.hid (fun k (hk : u6.ownBlock = some k) => (own_lt HTA.out.1 k hk).2)
                have HV7 := Lib.hid (fun k (hk : u7.ownBlock = some k) => (own_lt HTA.out.2 k hk).2)
                clear hne hW3 hbc hcv hcf hq hfy d0 d1 x0 x1 HVS HFY
                refine wp_region_st rfl 14 (by kernel_rfl) (FdSt W3 W.heap.size u6 u7 LJ.length LJ.length (entC (entsOf LJ)) (vints .i64 (valsOf LJ)) yn yg q) [3, 4, 12, 13] (FdSt.congr) (FdSt.init HTA.out.1 HTA.out.2) (F_qf10 bi bc br nv cv f yn yg q xv u6 u7) (F_qf10_mono bi bc br nv cv f yn yg q xv u6 u7) [0, 0, 2, 6, 15, 0, 0, 64, 0, 256, 960, 1984, 4032, 8191, 16383, 32767] (by kernel_rfl) ?_ ?_
                · refine ⟨?_, ?_, ?_, ?_, ?_, ?_, ?_, ?_, ?_, ?_, ?_, ?_, ?_, ?_, trivial⟩
                  · intro vs w' F S hst hd hF hl hT hA hN hp
                    have e := ((hF 6).trans (look_at _ 6 14 _ _ (by kernel_rfl) (by kernel_rfl) hl)).trans ((hT 14 (by decide)).trans (show _ = u6 from by kernel_rfl))
                    exact one_move _ rfl (by first | exact Or.inl rfl | exact Or.inr rfl) ⟨_, rfl, (hp (by kernel_rfl) _), e⟩
                  · intro vs w' F S hst hd hF hl hT hA hN hp
                    have e := (hF 9).trans (look_out _ 9 _ _ (by kernel_rfl))
                    exact one_field _ _ _ rfl rfl _ _ e (0) (fun w => by kernel_rfl) ⟨_, rfl, (hp (by kernel_rfl) _), rfl⟩
                  · intro vs w' F S hst hd hF hl hT hA hN hp
                    have e := ((hF 45).trans (look_at _ 45 1 _ _ (by kernel_rfl) (by kernel_rfl) hl)).trans (dep_of (Fact := F_qf10 bi bc br nv cv f yn yg q xv u6 u7) hd 1 (by kernel_rfl))
                    exact rg_load 55 _ rfl rfl (bi) (0) [.int .i64 yn, .int .i64 yg] e (fun j u hu => cell_grp (KE.out j u hu) hst.gr N9.out) _ Try.underlying55 rfl (by kernel_rfl) ⟨_, rfl, (hp (by kernel_rfl) _), rfl⟩
                  · intro vs w' F S hst hd hF hl hT hA hN hp
                    have ex := (((hF 46).trans (look_at _ 46 2 _ _ (by kernel_rfl) (by kernel_rfl) hl)).trans (dep_of (Fact := F_qf10 bi bc br nv cv f yn yg q xv u6 u7) hd 2 (by kernel_rfl)))
                    exact rg_slice_ent 45 55 _ rfl rfl yn yg ex Try.underlying45 (by kernel_rfl) ⟨_, rfl, hst.s1, trivial⟩
                  · intro vs w' F S hst hd hF hl hT hA hN hp
                    have ea := (((hF 44).trans (look_at _ 44 0 _ _ (by kernel_rfl) (by kernel_rfl) hl)).trans (dep_of (Fact := F_qf10 bi bc br nv cv f yn yg q xv u6 u7) hd 0 (by kernel_rfl)))
                    have n4 := hN 4 (by decide) (by kernel_rfl)
                    have n13 := hN 13 (by decide) (by kernel_rfl)
                    obtain ⟨g6, e6, l6, b6⟩ := hst.e1 n4 _ (hA 3 (by kernel_rfl) (by decide))
                    have eb := ((hF 47).trans (look_at _ 47 3 _ _ (by kernel_rfl) (by kernel_rfl) hl)).trans e6
                    refine wpList_append_blk rfl _ _ 45 rfl W.heap.size 55 (.agg #[.int .i64 0, .int .i64 0]) 2 16 Try.underlying45 (by kernel_rfl) rfl (by decide) _ _ _ ea (hst.r1 n4) g6 _ _ eb b6 rfl rfl (by have := HLL.out; omega) (by decide) (Nat.le_trans HBA.out.size (Nat.le_trans (by rw [← HW3.out]; exact Nat.le_refl _) hst.gr.size)) ?_
                    intro g' c' w2 hown hg hor hlt
                    exact ⟨_, rfl, hst.a1 HV6.out n4 n13 hown hg, trivial⟩
                  · intro vs w' F S hst hd hF hl hT hA hN hp
                    have e := ((hF 7).trans (look_at _ 7 15 _ _ (by kernel_rfl) (by kernel_rfl) hl)).trans ((hT 15 (by decide)).trans (show _ = u7 from by kernel_rfl))
                    exact one_move _ rfl (by first | exact Or.inl rfl | exact Or.inr rfl) ⟨_, rfl, (hp (by kernel_rfl) _), e⟩
                  · intro vs w' F S hst hd hF hl hT hA hN hp
                    have e := (hF 11).trans (look_out _ 11 _ _ (by kernel_rfl))
                    exact one_field _ _ _ rfl rfl _ _ e (1) (fun w => by kernel_rfl) ⟨_, rfl, (hp (by kernel_rfl) _), rfl⟩
                  · intro vs w' F S hst hd hF hl hT hA hN hp
                    have e := ((hF 50).trans (look_at _ 50 6 _ _ (by kernel_rfl) (by kernel_rfl) hl)).trans (dep_of (Fact := F_qf10 bi bc br nv cv f yn yg q xv u6 u7) hd 6 (by kernel_rfl))
                    exact one_load _ _ rfl rfl _ _ e (cell_grp CV.out hst.gr N11.out) (by kernel_rfl) ⟨_, rfl, (hp (by kernel_rfl) _), rfl⟩
                  · intro vs w' F S hst hd hF hl hT hA hN hp
                    have e := (hF 3).trans (look_out _ 3 _ _ (by kernel_rfl))
                    exact one_field _ _ _ rfl rfl _ _ e (1) (fun w => by kernel_rfl) ⟨_, rfl, (hp (by kernel_rfl) _), rfl⟩
                  · intro vs w' F S hst hd hF hl hT hA hN hp
                    have e := ((hF 52).trans (look_at _ 52 8 _ _ (by kernel_rfl) (by kernel_rfl) hl)).trans (dep_of (Fact := F_qf10 bi bc br nv cv f yn yg q xv u6 u7) hd 8 (by kernel_rfl))
                    exact one_load _ _ rfl rfl _ _ e (cell_grp CR.out hst.gr N3.out) (by kernel_rfl) ⟨_, rfl, (hp (by kernel_rfl) _), rfl⟩
                  · intro vs w' F S hst hd hF hl hT hA hN hp
                    have ex := (((hF 51).trans (look_at _ 51 7 _ _ (by kernel_rfl) (by kernel_rfl) hl)).trans (dep_of (Fact := F_qf10 bi bc br nv cv f yn yg q xv u6 u7) hd 7 (by kernel_rfl)))
                    have ey := (((hF 53).trans (look_at _ 53 9 _ _ (by kernel_rfl) (by kernel_rfl) hl)).trans (dep_of (Fact := F_qf10 bi bc br nv cv f yn yg q xv u6 u7) hd 9 (by kernel_rfl)))
                    exact one_index 23 _ _ rfl rfl _ _ _ ex ey (fun w => by have h := rg_idx_at Try.underlying23 (show (Try.prog.info? 3).map (·.size) = some 1 by kernel_rfl) xv nv cv f (by omega) w; rw [Nat.mul_one] at h; exact h) ⟨_, rfl, hp (by kernel_rfl) _, rfl⟩
                  · intro vs w' F S hst hd hF hl hT hA hN hp
                    have e := (((hF 54).trans (look_at _ 54 10 _ _ (by kernel_rfl) (by kernel_rfl) hl)).trans (dep_of (Fact := F_qf10 bi bc br nv cv f yn yg q xv u6 u7) hd 10 (by kernel_rfl)))
                    exact one_load _ _ rfl rfl _ _ e (cell_grp CX.out hst.gr (by rw [block_of_add]; exact NX.out)) (by kernel_rfl) ⟨_, rfl, hp (by kernel_rfl) _, rfl⟩
                  · intro vs w' F S hst hd hF hl hT hA hN hp
                    have ex := (((hF 55).trans (look_at _ 55 11 _ _ (by kernel_rfl) (by kernel_rfl) hl)).trans (dep_of (Fact := F_qf10 bi bc br nv cv f yn yg q xv u6 u7) hd 11 (by kernel_rfl)))
                    exact rg_slice_val _ 3 _ rfl rfl (.int .i64 q) (.int .i64 0) ex rfl Try.underlying23 (by kernel_rfl) rfl ⟨_, rfl, hst.s2, trivial⟩
                  · intro vs w' F S hst hd hF hl hT hA hN hp
                    have ea := (((hF 49).trans (look_at _ 49 5 _ _ (by kernel_rfl) (by kernel_rfl) hl)).trans (dep_of (Fact := F_qf10 bi bc br nv cv f yn yg q xv u6 u7) hd 5 (by kernel_rfl)))
                    have n13 := hN 13 (by decide) (by kernel_rfl)
                    have n4 := hA 4 (by kernel_rfl) (by decide)
                    obtain ⟨g6, e6, l6, b6⟩ := hst.e2 n13 _ (hA 12 (by kernel_rfl) (by decide))
                    have eb := ((hF 56).trans (look_at _ 56 12 _ _ (by kernel_rfl) (by kernel_rfl) hl)).trans e6
                    refine wpList_append_blk rfl _ _ 23 rfl W.heap.size 3 (.int .i64 0) 1 8 Try.underlying23 (by kernel_rfl) rfl (by decide) _ _ _ ea (hst.r2 n13) g6 _ _ eb b6 rfl rfl (by have := HLL.out; omega) (by decide) (Nat.le_trans HBA.out.size (Nat.le_trans (by rw [← HW3.out]; exact Nat.le_refl _) hst.gr.size)) ?_
                    intro g' c' w2 hown hg hor hlt
                    exact ⟨_, rfl, hst.a2 HV7.out n4 n13 hown hg, trivial⟩
                · intro vs8 W8 S8 hl hst hS hI
                  obtain ⟨z0, z1, z2, z3, z4, z5, z6, z7, z8, z9, z10, z11, z12, z13, z14, z15, hvs⟩ := list16 hl
                  subst hvs
                  have hq1 := hst.q1 z4 (hS 4 (by decide))
                  have hq2 := hst.q2 z13 (hS 13 (by decide))
                  rw [ents_snoc LJ yn yg q] at hq1
                  rw [vals_snoc LJ yn yg q] at hq2
                  have HT8 := Lib.hid (show Two (LJ ++ [((yn, yg), q)]) W.heap.size z4 z13 W8 from ⟨by rw [List.length_append]; exact hq1, by rw [List.length_append]; exact hq2⟩)
                  have HX8 := Lib.hid (heap_grp HXA.out hst.gr N3.out)
                  have HI8 := Lib.hid (heap_grp HITA.out hst.gr N9.out)
                  have HB8 := Lib.hid (HBA.out.trans (hst.gr.below HBA.out.size (fun k hk => by
                    rcases hk with h | h
                    · exact (own_lt HTA.out.1 _ h).1
                    · exact (own_lt HTA.out.2 _ h).1)))
                  clear hst hS hI hl hq1 hq2 CX CV CR KE N9 N11 N3 NX HV6 HV7
                  simp only [fillAll, Act.put, List.setIfInBounds_toArray, List.set_cons_succ, List.set_cons_zero, List.drop_succ_cons, List.drop_zero]
                  go_wp2_with fail
                  go_roundg (nc - (j + 1))
                  case measure => rw [G3.out]; omega
                  case rel => exact ⟨j + 1, hlj, rfl, by go_num, by rw [HLJ.out, HFY2.out]; exact HT8, HX8, HI8, HB8⟩
              · have HFN := Lib.hid (fd_no (y := y) (c := cy) (rk := rk) (rf := rf) (fun h => hn (by rw [HNV.out]; exact h.2.2)))
                go_wp2_with fail
                go_roundg (nc - (j + 1))
                case measure => rw [G3.out]; omega
                case rel => exact ⟨j + 1, hlj, rfl, by go_num, by rw [HLJ.out, HFN.out, List.append_nil]; exact HTA, HXA, HITA, HBA⟩
            · have HFN := Lib.hid (fd_no (y := y) (c := cy) (rk := rk) (rf := rf) (fun h => h0 h.2.1))
              go_wp2_with fail
              go_roundg (nc - (j + 1))
              case measure => rw [G3.out]; omega
              case rel => exact ⟨j + 1, hlj, rfl, by go_num, by rw [HLJ.out, HFN.out, List.append_nil]; exact HTA, HXA, HITA, HBA⟩
          · have t1 : (kk == rk) = false := by rw [beq_eq_false_iff_ne]; exact hk
            have HFN := Lib.hid (fd_no (y := y) (c := cy) (rk := rk) (rf := rf) (fun h => hk (by rw [HKK.out]; exact h.1)))
            clear hk
            go_wp2_with fail
            go_roundg (nc - (j + 1))
            case measure => rw [G3.out]; omega
            case rel => exact ⟨j + 1, hlj, rfl, by go_num, by rw [HLJ.out, HFN.out, List.append_nil]; exact HTA, HXA, HITA, HBA⟩
        · have hj2 : y.comps.take j = y.comps := List.take_of_length_le (by rw [← HNC.out]; omega)
          rw [hj2] at HTW
          have HTN := HTW
          have hfi : LI ++ y.comps.flatMap (fd rk rf y) = (its.take (i + 1)).flatMap (fdI rk rf) := by rw [HST.out]; rfl
          rw [hfi] at HTN
          clear hj2 hfi HTW
          go_wp2_with fail
          go_roundg (m - (i + 1))
          case measure => rw [G2.out]; omega
          case rel => exact ⟨i + 1, hlt, rfl, by go_num, HTN, HX, HB⟩
    · have hi2 : its.take i = its := List.take_of_length_le (by rw [← HM.out]; omega)
      rw [hi2] at HTW
      have HTN : Hid (Two (fdA rk rf its) W.heap.size _ _ wr) := HTW
      obtain ⟨a6, c6, rfl⟩ := own_slice HTN.out.1
      obtain ⟨a7, c7, rfl⟩ := own_slice HTN.out.2
      clear hi2 HTW
      go_wp2_with fail
      go_ret2
      exact ⟨a6, c6, a7, c7, rfl, EntsAt.of_own HTN.out.1 (by simp [entsOf]), IntsAt.of_own HTN.out.2 (by simp [valsOf]), HB.out⟩
end Go.Proofs.Ytlahmcbaiebapaa
