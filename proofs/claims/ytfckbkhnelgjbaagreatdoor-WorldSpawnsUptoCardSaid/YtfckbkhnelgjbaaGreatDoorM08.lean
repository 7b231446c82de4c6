/- Lemmas for the law WorldSpawns: RegGrow, EqI, WEqK. No conditions. -/
import Derived.Test.YtfckbkhnelgjbaaGreatDoorM05
import Derived.Test.YtfckbkhnelgjbaaGreatDoorM06
import Derived.Test.YtfckbkhnelgjbaaGreatDoorM07
import Derived.Test.YtfckbkhnelgjbaaGreatDoorM01
import Derived.BigQuiet
import Derived.Deep.QuietTactic
import Derived.Deep.LoopGhost
import Derived.Test.YtfckbkhnelgjbaaGreatDoorRows
import Derived.Shelf.Abstract
/- Drawn regions that append to a row of the call's own: the relations of worlds. -/
section
namespace Go.Proofs.YtfckbkhnelgjbaaGreatDoor
open Go.ChangeShapes Go.WideShapes Go.ChangeAt Go.RowKit Go.Nm Go.Mem
set_option linter.unusedVariables false
/-- what operation i does: the append (q) writes its row, the others only lay blocks -/
def RG (q : Nat) (row : Option Nat) (i : Nat) (a b : World) : Prop := (i ≠ q → Below a.heap.size a b) ∧ (i = q → a.grownBy b row)
theorem RG.same (q : Nat) (row : Option Nat) (i : Nat) (w : World) : RG q row i w w := ⟨fun _ => Below.refl _ _, fun _ => World.grownBy.refl _ _⟩
theorem RG.below {q : Nat} {row : Option Nat} {i : Nat} {a b : World} (hi : i ≠ q) (hb : Below a.heap.size a b) : RG q row i a b := ⟨fun _ => hb, fun h => absurd h hi⟩
theorem RG.at_ {q : Nat} {row : Option Nat} {i : Nat} {a b : World} (hi : i = q) (hg : a.grownBy b row) : RG q row i a b := ⟨fun h => absurd hi h, fun _ => hg⟩
theorem RG.gb {q : Nat} {row : Option Nat} {i : Nat} {a b : World} (h : RG q row i a b) : a.grownBy b row := by
  by_cases hi : i = q
  · exact h.2 hi
  · have hb := h.1 hi
    exact ⟨hb.os, hb.tape, hb.output, hb.size, fun k hk _ => hb.block k hk⟩
theorem RG.sub {q : Nat} {row : Option Nat} : ∀ i a b, RG q row i a b → a.grownBy b row := fun _ _ _ h => h.gb
theorem gb_drew (row : Option Nat) (w : World) : w.grownBy w.drew row := ⟨rfl, rfl, rfl, Nat.le_refl _, fun k _ _ => rfl⟩
theorem cells_gbo {w w' : World} {g : Nat} {zs : List Value} {row : Option Nat} (h : CellsAt w (some ⟨g, 0, none⟩) zs) (hg : w.grownBy w' row) (hne : some g ≠ row) : CellsAt w' (some ⟨g, 0, none⟩) zs := fun h0 => by
  obtain ⟨x, e, hx, hc⟩ := h h0
  injection e with e
  subst e
  exact ⟨_, rfl, Nat.lt_of_lt_of_le hx hg.size, fun j u hu => World.grownBy.cell hg (hc j u hu) (by rw [block_of_add]; exact hne)⟩
def EKind (w : World) (cs : List Value) (y : KindV) : Prop := ∃ a cap, cs = [.string y.name, .slice a y.fields.length cap] ∧ y.name.size ≤ 9223372036854775807 ∧ y.fields.length ≤ cap ∧ cap ≤ 9223372036854775807 ∧ SlAt 3 FieldAt w a y.fields
theorem EKind.at (w : World) (g q : Nat) (cs : List Value) (y : KindV) (h : EKind w cs y) (hc : ∀ i u, cs[i]? = some u → w.cell? ⟨g, q + i, none⟩ = some u) : KindAt w ⟨g, q, none⟩ y := by
  obtain ⟨a, cap, rfl, h1, h2, h3, hi⟩ := h
  exact ⟨hc 0 _ rfl, h1, a, cap, hc 1 _ rfl, h2, h3, hi⟩
def EItem (w : World) (cs : List Value) (y : ItemV) : Prop := ∃ a cap, cs = [.int .i64 y.n, .int .i64 y.gen, .slice a y.comps.length cap] ∧ SlAt 2 CompAt w a y.comps
theorem EItem.at (w : World) (g q : Nat) (cs : List Value) (y : ItemV) (h : EItem w cs y) (hc : ∀ i u, cs[i]? = some u → w.cell? ⟨g, q + i, none⟩ = some u) : ItemAt w ⟨g, q, none⟩ y := by
  obtain ⟨a, cap, rfl, hi⟩ := h
  exact ⟨hc 0 _ rfl, hc 1 _ rfl, a, cap, hc 2 _ rfl, hi⟩
section
variable {P : Program} {ops : Array Oper} {o : Oper} {F : Act} {w : World} {Q : Exit → Act → World → Prop}
theorem rg_slice_kind (t e : TypeId) (x0 : Operand) (hgd : o.guard = none) (ho : o.op = .buildSlice t 1 #[(0, x0)]) (s : ByteArray) (a : Option Addr) (n c : Nat) (h0 : F.eval x0 = .agg #[.string s, .slice a n c])
    (hu : P.underlying t = some (.slice e)) (hi : (P.info? e).map (fun i => (i.zero, i.size)) = some (some (.agg #[.string ByteArray.empty, .slice none 0 0]), 2)) (h : Q .normal (F.put o.dst (.slice (some ⟨w.heap.size, 0, none⟩) 1 1)) (w.alloc (.cells #[.string s, .slice a n c] e (0, 0)))) : wpList P ops Q [o] F w := by
  obtain ⟨i, hi2, hzz⟩ := Option.map_eq_some_iff.1 hi
  simp only [Prod.mk.injEq] at hzz
  refine wpList_plain hgd fun K hK => ?_
  refine wp_buildSlice t e 1 _ ho #[.string s, .slice a n c] i (.agg #[.string ByteArray.empty, .slice none 0 0]) hu hi2 hzz.1 (by rw [hzz.2]; decide) (by rw [hzz.2]; decide) ?_ (hK _ _ h)
  rw [hzz.2]
  simp only [List.map_toArray, List.map_cons, List.map_nil, h0]
  have hr : Array.range 2 = #[0, 1] := by decide
  simp [Instr.fill, Value.cells, hr]
theorem rg_slice_item (t e : TypeId) (x0 : Operand) (hgd : o.guard = none) (ho : o.op = .buildSlice t 1 #[(0, x0)]) (p g : Int) (a : Option Addr) (n c : Nat) (h0 : F.eval x0 = .agg #[.int .i64 p, .int .i64 g, .slice a n c])
    (hu : P.underlying t = some (.slice e)) (hi : (P.info? e).map (fun i => (i.zero, i.size)) = some (some (.agg #[.int .i64 0, .int .i64 0, .slice none 0 0]), 3)) (h : Q .normal (F.put o.dst (.slice (some ⟨w.heap.size, 0, none⟩) 1 1)) (w.alloc (.cells #[.int .i64 p, .int .i64 g, .slice a n c] e (0, 0)))) : wpList P ops Q [o] F w := by
  obtain ⟨i, hi2, hzz⟩ := Option.map_eq_some_iff.1 hi
  simp only [Prod.mk.injEq] at hzz
  refine wpList_plain hgd fun K hK => ?_
  refine wp_buildSlice t e 1 _ ho #[.int .i64 p, .int .i64 g, .slice a n c] i (.agg #[.int .i64 0, .int .i64 0, .slice none 0 0]) hu hi2 hzz.1 (by rw [hzz.2]; decide) (by rw [hzz.2]; decide) ?_ (hK _ _ h)
  rw [hzz.2]
  simp only [List.map_toArray, List.map_cons, List.map_nil, h0]
  have hr : Array.range 3 = #[0, 1, 2] := by decide
  simp [Instr.fill, Value.cells, hr]
end
end Go.Proofs.YtfckbkhnelgjbaaGreatDoor
end
/- slices.Equal of two slices of integers. -/
section
namespace Go.Proofs.YtfckbkhnelgjbaaGreatDoor
open Go.ChangeShapes Go.WideShapes Go.ChangeAt Go.RowKit Go.Mem
set_option linter.unusedVariables false
theorem list_ne_of_getD {zs ys : List Int} (k : Nat) (hk : k < zs.length) (hl : zs.length = ys.length) (h : zs.getD k 0 ≠ ys.getD k 0) : zs ≠ ys := by
  rintro rfl; exact h rfl

set_option maxHeartbeats 4000000 in
theorem eq_ints (a b : Option Addr) (ca cb : Nat) (zs ys : List Int) (h1 : zs.length ≤ 9223372036854775807) (h2 : ys.length ≤ 9223372036854775807) (w : World) (ha : IntsAt .i64 w a zs) (hb : IntsAt .i64 w b ys) :
    Calls Tryz.prog 19 #[.slice a zs.length ca, .slice b ys.length cb] w fun e w' => e = .returned (.bool (decide (zs = ys))) ∧ Below w.heap.size w w' := by
  by_cases hl : zs.length = ys.length
  · obtain ⟨n, hn⟩ : ∃ n, n = zs.length := ⟨_, rfl⟩
    have hm : ys.length = n := by omega
    have hne : ((n : Int) != (n : Int)) = false := by simp
    rw [hm, ← hn]
    have HN := Lib.hid hn
    have HM := Lib.hid hm
    have HA := Lib.hid ha
    have HB := Lib.hid hb
    have h63 : n ≤ 9223372036854775807 := by omega
    clear hn hm ha hb hl h1 h2
    go_enter Tryz.func19, Tryz.ntmps19
    go_wp2_with fail
    go_loopg [5, 13] n (fun gk _ vi wx => ∃ k : Nat, k ≤ n ∧ gk = n - k ∧ vi = .int .i64 k ∧ (∀ j, j < k → zs.getD j 0 = ys.getD j 0) ∧ Below w.heap.size w wx)
    case atStart => exact ⟨0, by omega, rfl, rfl, fun j h => by omega, Below.refl _ _⟩
    case round =>
      obtain ⟨k, g1, g2, rfl, heq, hbw⟩ := hrel
      have G2 := Lib.hid g2
      have HEQ := Lib.hid heq
      clear g2 heq
      by_cases hlt : k < n
      · obtain ⟨x, rfl, hx, hcx⟩ := HA.out (by rw [← HN.out]; omega)
        obtain ⟨y, rfl, hy, hcy⟩ := HB.out (by rw [HM.out]; omega)
        obtain ⟨p, hp⟩ : ∃ p, p = zs.getD k 0 := ⟨_, rfl⟩
        obtain ⟨q, hq⟩ : ∃ q, q = ys.getD k 0 := ⟨_, rfl⟩
        have cx := (hbw.cell (by rw [block_of_add]; exact hx)).trans (hcx k (by rw [← HN.out]; omega))
        have cy := (hbw.cell (by rw [block_of_add]; exact hy)).trans (hcy k (by rw [HM.out]; omega))
        rw [← hp] at cx
        rw [← hq] at cy
        have i1 : (0 : Int) ≤ (k : Int) := by omega
        have i2 : (k : Int) < (n : Int) := by omega
        have HPQ := Lib.hid (And.intro hp hq)
        clear hcx hcy hp hq
        by_cases e : p = q
        · subst e
          have hee : (p != p) = false := by simp
          go_wp2
          go_quiet (fail)
          go_wp2
          go_roundg (n - (k + 1))
          case measure => rw [G2.out]; omega
          case rel => exact ⟨k + 1, by omega, rfl, by go_num, fun j hj => by
            by_cases q : j = k
            · rw [q, ← HPQ.out.1, ← HPQ.out.2]
            · exact HEQ.out j (by omega), below_drewN hbw _⟩
        · have hee : (p != q) = true := by simp [e]
          have hz : zs ≠ ys := list_ne_of_getD k (by rw [← HN.out]; exact hlt) (by rw [← HN.out, HM.out]) (by rw [← HPQ.out.1, ← HPQ.out.2]; exact e)
          have HZ := Lib.hid hz
          clear hz e
          go_wp2
          go_quiet (fail)
          go_wp2
          go_ret
          exact ⟨by rw [decide_eq_false HZ.out]; rfl, below_drewN hbw _⟩
      · obtain rfl : k = n := by omega
        have hz : zs = ys := getD_eq_of_ext (by rw [← HN.out, HM.out]) (fun j hj => HEQ.out j (by rw [HN.out]; exact hj))
        have HZ := Lib.hid (decide_eq_true hz)
        clear hz
        go_wp2
        go_ret
        exact ⟨by rw [HZ.out]; rfl, hbw⟩
  · have hz : zs ≠ ys := fun h => hl (by rw [h])
    have HZ := Lib.hid hz
    obtain ⟨n, hn⟩ : ∃ n, n = zs.length := ⟨_, rfl⟩
    obtain ⟨m, hm⟩ : ∃ m, m = ys.length := ⟨_, rfl⟩
    rw [← hn, ← hm] at hl ⊢
    have hne : ((n : Int) != (m : Int)) = true := by simp; omega
    clear hz hl hn hm
    go_enter Tryz.func19, Tryz.ntmps19
    go_wp2_with fail
    go_ret
    exact ⟨by rw [decide_eq_false HZ.out]; rfl, Below.refl _ _⟩

end Go.Proofs.YtfckbkhnelgjbaaGreatDoor
end
/- Fields and kinds held against each other. -/
section
namespace Go.Proofs.YtfckbkhnelgjbaaGreatDoor
open Go.ChangeShapes Go.WideShapes Go.ChangeAt Go.RowKit Go.Nm Go.Mem
set_option linter.unusedVariables false
def eqL {α : Type} (e : α → α → Bool) : List α → List α → Bool
  | [], [] => true
  | a :: l, b :: k => e a b && eqL e l k
  | _, _ => false
theorem eqL_len {α : Type} {e : α → α → Bool} : ∀ {l k : List α}, l.length ≠ k.length → eqL e l k = false
  | [], [], h => absurd rfl h
  | [], _ :: _, _ => rfl
  | _ :: _, [], _ => rfl
  | a :: l, b :: k, h => by
    unfold eqL
    rw [eqL_len (l := l) (k := k) (by simpa using h), Bool.and_false]
theorem eqL_ne {α : Type} {e : α → α → Bool} : ∀ {l k : List α} (i : Nat) (h1 : i < l.length) (h2 : i < k.length), e l[i] k[i] = false → eqL e l k = false
  | [], _, i, h1, _, _ => absurd h1 (by simp)
  | _ :: _, [], i, _, h2, _ => absurd h2 (by simp)
  | a :: l, b :: k, 0, _, _, h => by
    unfold eqL
    have h' : e a b = false := h
    rw [h', Bool.false_and]
  | a :: l, b :: k, i + 1, h1, h2, h => by
    unfold eqL
    rw [eqL_ne (l := l) (k := k) i (by simpa using h1) (by simpa using h2) (by simpa using h), Bool.and_false]
theorem eqL_eq {α : Type} {e : α → α → Bool} : ∀ {l k : List α}, l.length = k.length → (∀ i (h1 : i < l.length) (h2 : i < k.length), e l[i] k[i] = true) → eqL e l k = true
  | [], [], _, _ => rfl
  | [], _ :: _, h, _ => by simp at h
  | _ :: _, [], h, _ => by simp at h
  | a :: l, b :: k, h, hi => by
    unfold eqL
    have h0 : e a b = true := hi 0 (by simp) (by simp)
    rw [h0, Bool.true_and]
    exact eqL_eq (by simpa using h) (fun i h1 h2 => by have := hi (i + 1) (by simpa using h1) (by simpa using h2); simpa using this)
theorem eqL_refl {α : Type} {e : α → α → Bool} (he : ∀ a, e a a = true) (l : List α) : eqL e l l = true := eqL_eq rfl (fun i _ _ => he _)
def feqB (a b : FieldV) : Bool := a.name.toList == b.name.toList && (decide (a.bits = b.bits) && decide (a.low = b.low))
theorem feqB_refl (a : FieldV) : feqB a a = true := by unfold feqB; simp
def keqB (a b : KindV) : Bool := a.name.toList == b.name.toList && eqL feqB a.fields b.fields
theorem keqB_refl (a : KindV) : keqB a a = true := by unfold keqB; rw [eqL_refl feqB_refl]; simp
theorem fld_eqg (s s2 : ByteArray) (b l b2 l2 : Int) (w : World) : (Op.equalIn 10000 99 (.agg #[.string s, .int .i64 b, .int .i64 l]) (.agg #[.string s2, .int .i64 b2, .int .i64 l2])).run Tryz.prog w = .ok (s.toList == s2.toList && (decide (b = b2) && decide (l = l2))) w := by
  have u3 := Tryz.underlying3
  have u4 := Tryz.underlying9
  have a3 := Tryz.isAgg3
  have z3 := Tryz.sizeOf3
  have a4 := Tryz.isAgg9
  have z4 := Tryz.sizeOf9
  rw [show (10000 : Nat) = 9999 + 1 from rfl, Op.equalIn]
  simp only [Sem.run_bind, run_underlying Tryz.underlying99, Result.andThen_ok]
  go_simp
  by_cases h1 : s.toList = s2.toList <;> by_cases h2 : b = b2 <;> by_cases h3 : l = l2 <;> simp [h1, h2, h3]
theorem fld_neqg (s s2 : ByteArray) (b l b2 l2 : Int) (w : World) : (binOp .neq 99 (.agg #[.string s, .int .i64 b, .int .i64 l]) (.agg #[.string s2, .int .i64 b2, .int .i64 l2])).run Tryz.prog w = .ok (.bool (!(s.toList == s2.toList && (decide (b = b2) && decide (l = l2))))) w := by
  have h := fld_eqg s s2 b l b2 l2
  simp [binOp, Op.equal, Op.maxDepth, h]
theorem fld_guardg (x y : Operand) (u v : Array Value) (w : World) : (eqGuard .neq 99 x y (.agg u) (.agg v)).run Tryz.prog w = .ok () w := by
  have h : Tryz.prog.eqGuardType Tryz.prog.depth 99 = false := by kernel_rfl
  simp [eqGuard, h]
theorem list9 {α : Type} {vs : List α} (h : vs.length = 9) : ∃ x0 x1 x2 x3 x4 x5 x6 x7 x8, vs = [x0, x1, x2, x3, x4, x5, x6, x7, x8] := by
  obtain ⟨x0, t0, rfl, h0⟩ := cons_of h
  obtain ⟨x1, t1, rfl, h1⟩ := cons_of h0
  obtain ⟨x2, t2, rfl, h2⟩ := cons_of h1
  obtain ⟨x3, t3, rfl, h3⟩ := cons_of h2
  obtain ⟨x4, t4, rfl, h4⟩ := cons_of h3
  obtain ⟨x5, t5, rfl, h5⟩ := cons_of h4
  obtain ⟨x6, t6, rfl, h6⟩ := cons_of h5
  obtain ⟨x7, t7, rfl, h7⟩ := cons_of h6
  obtain ⟨x8, t8, rfl, h8⟩ := cons_of h7
  exact ⟨x0, x1, x2, x3, x4, x5, x6, x7, x8, by rw [List.eq_nil_of_length_eq_zero h8]⟩
def F_fet (xb xo zb zo n ca cb i : Nat) (y q : FieldV) (jq : Nat) (v : Value) (w : World) : Prop :=
  match jq with
  | 0 => v = .slice (some ⟨xb, xo, none⟩) n ca
  | 1 => v = .int .i64 i
  | 2 => v = .pointer (some ⟨xb, xo + i * 3, none⟩)
  | 3 => v = .agg #[.string y.name, .int .i64 y.bits, .int .i64 y.low]
  | 4 => v = .slice (some ⟨zb, zo, none⟩) n cb
  | 5 => v = .int .i64 i
  | 6 => v = .pointer (some ⟨zb, zo + i * 3, none⟩)
  | 7 => v = .agg #[.string q.name, .int .i64 q.bits, .int .i64 q.low]
  | 8 => v = .bool false
  | _ => True
theorem F_fet_mono (xb xo zb zo n ca cb i : Nat) (y q : FieldV) : Facts (F_fet xb xo zb zo n ca cb i  y q ) := ⟨by
  intro jq v w w' h hb
  unfold F_fet at h ⊢
  split at h
  all_goals first
    | exact h
    | trivial⟩
def F_fef (xb xo zb zo n ca cb i : Nat) (y q : FieldV) (jq : Nat) (v : Value) (w : World) : Prop :=
  match jq with
  | 0 => v = .slice (some ⟨xb, xo, none⟩) n ca
  | 1 => v = .int .i64 i
  | 2 => v = .pointer (some ⟨xb, xo + i * 3, none⟩)
  | 3 => v = .agg #[.string y.name, .int .i64 y.bits, .int .i64 y.low]
  | 4 => v = .slice (some ⟨zb, zo, none⟩) n cb
  | 5 => v = .int .i64 i
  | 6 => v = .pointer (some ⟨zb, zo + i * 3, none⟩)
  | 7 => v = .agg #[.string q.name, .int .i64 q.bits, .int .i64 q.low]
  | 8 => v = .bool true
  | _ => True
theorem F_fef_mono (xb xo zb zo n ca cb i : Nat) (y q : FieldV) : Facts (F_fef xb xo zb zo n ca cb i  y q ) := ⟨by
  intro jq v w w' h hb
  unfold F_fef at h ⊢
  split at h
  all_goals first
    | exact h
    | trivial⟩

set_option maxHeartbeats 4000000 in
theorem eq_fldsg (l k : List FieldV) (a b : Option Addr) (n m ca cb : Nat) (hn : l.length = n) (hm : k.length = m) (h1 : n ≤ 9223372036854775807) (h2 : m ≤ 9223372036854775807) (W : World) (hz : SlAt 3 FieldAt W a l) (hy : SlAt 3 FieldAt W b k) :
    Calls Tryz.prog 102 #[.slice a n ca, .slice b m cb] W fun e w' => e = .returned (.bool (eqL feqB l k)) ∧ Below W.heap.size W w' := by
  obtain ⟨R, hR⟩ : ∃ R, R = eqL feqB l k := ⟨_, rfl⟩
  rw [← hR]
  have HR := Lib.hid hR
  have HN := Lib.hid hn
  have HM := Lib.hid hm
  have HZ := Lib.hid hz
  have HY := Lib.hid hy
  clear hR hn hm hz hy
  by_cases hnm : n = m
  · subst hnm
    have t0 : ((n : Int) != (n : Int)) = false := by simp
    go_enter Tryz.func102, Tryz.ntmps102
    go_wp2_with fail
    go_loopg [5, 13] n (fun gk v5 vi wx => ∃ i : Nat, i ≤ n ∧ gk = n - i ∧ vi = .int .i64 i ∧ (∀ j (h : j < n), j < i → feqB (l[j]'(by rw [HN.out]; exact h)) (k[j]'(by rw [HM.out]; exact h)) = true) ∧ Below W.heap.size W wx)
    case atStart => exact ⟨0, Nat.zero_le _, rfl, rfl, fun j h h2 => absurd h2 (by omega), Below.refl _ _⟩
    case round =>
      obtain ⟨i, hi, g2, rfl, hat, hb⟩ := hrel
      have G2 := Lib.hid g2
      have HAT := Lib.hid hat
      have HB := Lib.hid hb
      clear g2 hat hb
      by_cases hlt : i < n
      · obtain ⟨x, rfl, _, _⟩ := HZ.out (by rw [HN.out]; omega)
        obtain ⟨z, rfl, _, _⟩ := HY.out (by rw [HM.out]; omega)
        obtain ⟨xb, xo, rfl, hcx⟩ := fld_cells (HZ.out.below FieldAt.abides HB.out) i (by rw [HN.out]; exact hlt)
        obtain ⟨zb, zo, rfl, hcz⟩ := fld_cells (HY.out.below FieldAt.abides HB.out) i (by rw [HM.out]; exact hlt)
        obtain ⟨y, hy⟩ : ∃ y, y = l[i]'(by rw [HN.out]; exact hlt) := ⟨_, rfl⟩
        obtain ⟨q, hq⟩ : ∃ q, q = k[i]'(by rw [HM.out]; exact hlt) := ⟨_, rfl⟩
        rw [← hy] at hcx
        rw [← hq] at hcz
        obtain ⟨S, hS⟩ : ∃ S, S = feqB y q := ⟨_, rfl⟩
        have CX := Lib.hid hcx
        have CZ := Lib.hid hcz
        have HS := Lib.hid hS
        have HYD := Lib.hid hy
        have HQD := Lib.hid hq
        clear hcx hcz hS hy hq
        cases S with
        | true =>
          go_wp2_with fail
          refine wp_region_facts_t rfl 9 (by kernel_rfl) (F_fet xb xo zb zo n ca cb i y q) (F_fet_mono xb xo zb zo n ca cb i y q) ?_ ?_
          · refine ⟨?_, ?_, ?_, ?_, ?_, ?_, ?_, ?_, ?_, trivial⟩
            · intro vs w' F hb hd hF hl hT
              have e := (hF 0).trans (look_out _ 0 _ _ (by kernel_rfl))
              exact one_move _ rfl (by first | exact Or.inl rfl | exact Or.inr rfl) ⟨_, rfl, Below.refl _ _, e⟩
            · intro vs w' F hb hd hF hl hT
              have e := (hF 5).trans (look_out _ 5 _ _ (by kernel_rfl))
              exact one_move _ rfl (by first | exact Or.inl rfl | exact Or.inr rfl) ⟨_, rfl, Below.refl _ _, e⟩
            · intro vs w' F hb hd hF hl hT
              have ex := ((hF 16).trans (look_at _ 16 0 _ _ (by kernel_rfl) (by kernel_rfl) hl)).trans (dep_of (Fact := F_fet xb xo zb zo n ca cb i y q) hd 0 (by kernel_rfl))
              have ey := ((hF 17).trans (look_at _ 17 1 _ _ (by kernel_rfl) (by kernel_rfl) hl)).trans (dep_of (Fact := F_fet xb xo zb zo n ca cb i y q) hd 1 (by kernel_rfl))
              exact one_index 84 _ _ rfl rfl (.slice (some ⟨xb, xo, none⟩) n ca) (.int .i64 i) (.pointer (some ⟨xb, xo + i * 3, none⟩)) ex ey (fun w => rg_idx Tryz.underlying84 (show (Tryz.prog.info? 99).map (·.size) = some 3 by kernel_rfl) (xb) (xo) (n) (ca) (i) (by omega) w) ⟨_, rfl, Below.refl _ _, rfl⟩
            · intro vs w' F hb hd hF hl hT
              have e := ((hF 18).trans (look_at _ 18 2 _ _ (by kernel_rfl) (by kernel_rfl) hl)).trans (dep_of (Fact := F_fet xb xo zb zo n ca cb i y q) hd 2 (by kernel_rfl))
              exact rg_load 99 _ rfl rfl (xb) (xo + i * 3) [.string y.name, .int .i64 y.bits, .int .i64 y.low] e (CX.out.below hb) _ Tryz.underlying99 rfl (by kernel_rfl) ⟨_, rfl, Below.refl _ _, rfl⟩
            · intro vs w' F hb hd hF hl hT
              have e := (hF 1).trans (look_out _ 1 _ _ (by kernel_rfl))
              exact one_move _ rfl (by first | exact Or.inl rfl | exact Or.inr rfl) ⟨_, rfl, Below.refl _ _, e⟩
            · intro vs w' F hb hd hF hl hT
              have e := (hF 5).trans (look_out _ 5 _ _ (by kernel_rfl))
              exact one_move _ rfl (by first | exact Or.inl rfl | exact Or.inr rfl) ⟨_, rfl, Below.refl _ _, e⟩
            · intro vs w' F hb hd hF hl hT
              have ex := ((hF 20).trans (look_at _ 20 4 _ _ (by kernel_rfl) (by kernel_rfl) hl)).trans (dep_of (Fact := F_fet xb xo zb zo n ca cb i y q) hd 4 (by kernel_rfl))
              have ey := ((hF 21).trans (look_at _ 21 5 _ _ (by kernel_rfl) (by kernel_rfl) hl)).trans (dep_of (Fact := F_fet xb xo zb zo n ca cb i y q) hd 5 (by kernel_rfl))
              exact one_index 84 _ _ rfl rfl (.slice (some ⟨zb, zo, none⟩) n cb) (.int .i64 i) (.pointer (some ⟨zb, zo + i * 3, none⟩)) ex ey (fun w => rg_idx Tryz.underlying84 (show (Tryz.prog.info? 99).map (·.size) = some 3 by kernel_rfl) (zb) (zo) (n) (cb) (i) (by omega) w) ⟨_, rfl, Below.refl _ _, rfl⟩
            · intro vs w' F hb hd hF hl hT
              have e := ((hF 22).trans (look_at _ 22 6 _ _ (by kernel_rfl) (by kernel_rfl) hl)).trans (dep_of (Fact := F_fet xb xo zb zo n ca cb i y q) hd 6 (by kernel_rfl))
              exact rg_load 99 _ rfl rfl (zb) (zo + i * 3) [.string q.name, .int .i64 q.bits, .int .i64 q.low] e (CZ.out.below hb) _ Tryz.underlying99 rfl (by kernel_rfl) ⟨_, rfl, Below.refl _ _, rfl⟩
            · intro vs w' F hb hd hF hl hT
              have ex := (((hF 19).trans (look_at _ 19 3 _ _ (by kernel_rfl) (by kernel_rfl) hl)).trans (dep_of (Fact := F_fet xb xo zb zo n ca cb i y q) hd 3 (by kernel_rfl)))
              have ey := (((hF 23).trans (look_at _ 23 7 _ _ (by kernel_rfl) (by kernel_rfl) hl)).trans (dep_of (Fact := F_fet xb xo zb zo n ca cb i y q) hd 7 (by kernel_rfl)))
              have hr := fld_neqg y.name q.name y.bits y.low q.bits q.low w'
              rw [show (y.name.toList == q.name.toList && (decide (y.bits = q.bits) && decide (y.low = q.low))) = true from HS.out.symm] at hr
              exact one_binop _ 99 _ _ _ rfl rfl _ _ ex ey (.bool false) (fld_guardg _ _ _ _ w') hr ⟨_, rfl, Below.refl _ _, rfl⟩
          · intro vs8 W8 hl hb hI
            have hv : vs8.getD 8 undef = .bool false := hI 8 (by omega)
            obtain ⟨x0, x1, x2, x3, x4, x5, x6, x7, x8, hvs⟩ := list9 hl
            subst hvs
            replace hv : x8 = .bool false := hv
            subst hv
            clear hI hl
            simp only [fillAll, Act.put, List.setIfInBounds_toArray, List.set_cons_succ, List.set_cons_zero]
            show wpList _ _ _ [] _ _
            have HB8 := bt HB.out hb
            clear hb CX CZ
            go_wp2
            go_roundg (n - (i + 1))
            case measure => rw [G2.out]; omega
            case rel => exact ⟨i + 1, hlt, rfl, by go_num, fun j h hj => by
              by_cases hji : j < i
              · exact HAT.out j h hji
              · obtain rfl : j = i := by omega
                rw [← HYD.out, ← HQD.out]; exact HS.out.symm, HB8⟩
        | false =>
          have HF := Lib.hid (show R = false by rw [HR.out]; exact eqL_ne i (by rw [HN.out]; exact hlt) (by rw [HM.out]; exact hlt) (by rw [← HYD.out, ← HQD.out]; exact HS.out.symm))
          go_wp2_with fail
          refine wp_region_facts_t rfl 9 (by kernel_rfl) (F_fef xb xo zb zo n ca cb i y q) (F_fef_mono xb xo zb zo n ca cb i y q) ?_ ?_
          · refine ⟨?_, ?_, ?_, ?_, ?_, ?_, ?_, ?_, ?_, trivial⟩
            · intro vs w' F hb hd hF hl hT
              have e := (hF 0).trans (look_out _ 0 _ _ (by kernel_rfl))
              exact one_move _ rfl (by first | exact Or.inl rfl | exact Or.inr rfl) ⟨_, rfl, Below.refl _ _, e⟩
            · intro vs w' F hb hd hF hl hT
              have e := (hF 5).trans (look_out _ 5 _ _ (by kernel_rfl))
              exact one_move _ rfl (by first | exact Or.inl rfl | exact Or.inr rfl) ⟨_, rfl, Below.refl _ _, e⟩
            · intro vs w' F hb hd hF hl hT
              have ex := ((hF 16).trans (look_at _ 16 0 _ _ (by kernel_rfl) (by kernel_rfl) hl)).trans (dep_of (Fact := F_fef xb xo zb zo n ca cb i y q) hd 0 (by kernel_rfl))
              have ey := ((hF 17).trans (look_at _ 17 1 _ _ (by kernel_rfl) (by kernel_rfl) hl)).trans (dep_of (Fact := F_fef xb xo zb zo n ca cb i y q) hd 1 (by kernel_rfl))
              exact one_index 84 _ _ rfl rfl (.slice (some ⟨xb, xo, none⟩) n ca) (.int .i64 i) (.pointer (some ⟨xb, xo + i * 3, none⟩)) ex ey (fun w => rg_idx Tryz.underlying84 (show (Tryz.prog.info? 99).map (·.size) = some 3 by kernel_rfl) (xb) (xo) (n) (ca) (i) (by omega) w) ⟨_, rfl, Below.refl _ _, rfl⟩
            · intro vs w' F hb hd hF hl hT
              have e := ((hF 18).trans (look_at _ 18 2 _ _ (by kernel_rfl) (by kernel_rfl) hl)).trans (dep_of (Fact := F_fef xb xo zb zo n ca cb i y q) hd 2 (by kernel_rfl))
              exact rg_load 99 _ rfl rfl (xb) (xo + i * 3) [.string y.name, .int .i64 y.bits, .int .i64 y.low] e (CX.out.below hb) _ Tryz.underlying99 rfl (by kernel_rfl) ⟨_, rfl, Below.refl _ _, rfl⟩
            · intro vs w' F hb hd hF hl hT
              have e := (hF 1).trans (look_out _ 1 _ _ (by kernel_rfl))
              exact one_move _ rfl (by first | exact Or.inl rfl | exact Or.inr rfl) ⟨_, rfl, Below.refl _ _, e⟩
            · intro vs w' F hb hd hF hl hT
              have e := (hF 5).trans (look_out _ 5 _ _ (by kernel_rfl))
              exact one_move _ rfl (by first | exact Or.inl rfl | exact Or.inr rfl) ⟨_, rfl, Below.refl _ _, e⟩
            · intro vs w' F hb hd hF hl hT
              have ex := ((hF 20).trans (look_at _ 20 4 _ _ (by kernel_rfl) (by kernel_rfl) hl)).trans (dep_of (Fact := F_fef xb xo zb zo n ca cb i y q) hd 4 (by kernel_rfl))
              have ey := ((hF 21).trans (look_at _ 21 5 _ _ (by kernel_rfl) (by kernel_rfl) hl)).trans (dep_of (Fact := F_fef xb xo zb zo n ca cb i y q) hd 5 (by kernel_rfl))
              exact one_index 84 _ _ rfl rfl (.slice (some ⟨zb, zo, none⟩) n cb) (.int .i64 i) (.pointer (some ⟨zb, zo + i * 3, none⟩)) ex ey (fun w => rg_idx Tryz.underlying84 (show (Tryz.prog.info? 99).map (·.size) = some 3 by kernel_rfl) (zb) (zo) (n) (cb) (i) (by omega) w) ⟨_, rfl, Below.refl _ _, rfl⟩
            · intro vs w' F hb hd hF hl hT
              have e := ((hF 22).trans (look_at _ 22 6 _ _ (by kernel_rfl) (by kernel_rfl) hl)).trans (dep_of (Fact := F_fef xb xo zb zo n ca cb i y q) hd 6 (by kernel_rfl))
              exact rg_load 99 _ rfl rfl (zb) (zo + i * 3) [.string q.name, .int .i64 q.bits, .int .i64 q.low] e (CZ.out.below hb) _ Tryz.underlying99 rfl (by kernel_rfl) ⟨_, rfl, Below.refl _ _, rfl⟩
            · intro vs w' F hb hd hF hl hT
              have ex := (((hF 19).trans (look_at _ 19 3 _ _ (by kernel_rfl) (by kernel_rfl) hl)).trans (dep_of (Fact := F_fef xb xo zb zo n ca cb i y q) hd 3 (by kernel_rfl)))
              have ey := (((hF 23).trans (look_at _ 23 7 _ _ (by kernel_rfl) (by kernel_rfl) hl)).trans (dep_of (Fact := F_fef xb xo zb zo n ca cb i y q) hd 7 (by kernel_rfl)))
              have hr := fld_neqg y.name q.name y.bits y.low q.bits q.low w'
              rw [show (y.name.toList == q.name.toList && (decide (y.bits = q.bits) && decide (y.low = q.low))) = false from HS.out.symm] at hr
              exact one_binop _ 99 _ _ _ rfl rfl _ _ ex ey (.bool true) (fld_guardg _ _ _ _ w') hr ⟨_, rfl, Below.refl _ _, rfl⟩
          · intro vs8 W8 hl hb hI
            have hv : vs8.getD 8 undef = .bool true := hI 8 (by omega)
            obtain ⟨x0, x1, x2, x3, x4, x5, x6, x7, x8, hvs⟩ := list9 hl
            subst hvs
            replace hv : x8 = .bool true := hv
            subst hv
            clear hI hl
            simp only [fillAll, Act.put, List.setIfInBounds_toArray, List.set_cons_succ, List.set_cons_zero]
            show wpList _ _ _ [] _ _
            have HB8 := bt HB.out hb
            clear hb CX CZ
            go_wp2
            go_ret
            exact ⟨by rw [HF.out]; rfl, HB8⟩
      · have hie : i = n := by omega
        have HF := Lib.hid (show R = true by rw [HR.out]; exact eqL_eq (HN.out.trans HM.out.symm) (fun j h _ => HAT.out j (by rw [← HN.out]; exact h) (by rw [hie, ← HN.out]; exact h)))
        clear hie
        go_wp2_with fail
        go_ret
        exact ⟨by rw [HF.out]; rfl, HB.out⟩
  · have t0 : ((n : Int) != (m : Int)) = true := by rw [bne_iff_ne]; omega
    have HF := Lib.hid (show R = false by rw [HR.out]; exact eqL_len (by rw [HN.out, HM.out]; exact hnm))
    clear hnm
    go_enter Tryz.func102, Tryz.ntmps102
    go_wp2_with fail
    go_ret
    exact ⟨by rw [HF.out]; rfl, Below.refl _ _⟩
set_option maxHeartbeats 4000000 in
theorem same_kindg (x y : KindV) (ax ay : Option Addr) (n m cx cy : Nat) (hn : x.fields.length = n) (hm : y.fields.length = m) (h1 : n ≤ 9223372036854775807) (h2 : m ≤ 9223372036854775807) (W : World) (hx : SlAt 3 FieldAt W ax x.fields) (hy : SlAt 3 FieldAt W ay y.fields) :
    Calls Tryz.prog 77 #[.agg #[.string x.name, .slice ax n cx], .agg #[.string y.name, .slice ay m cy]] W fun e w' => e = .returned (.bool (keqB x y)) ∧ Below W.heap.size W w' := by
  obtain ⟨p, l⟩ := x
  obtain ⟨q, k⟩ := y
  simp only at hn hm hx hy ⊢
  obtain ⟨R, hR⟩ : ∃ R, R = keqB ⟨p, l⟩ ⟨q, k⟩ := ⟨_, rfl⟩
  rw [← hR]
  have hb0 := ((Below.refl W.heap.size W).alloc (Nat.le_refl _) (.cells #[.string p, .slice ax n cx] 86)).alloc (by simp) (.cells #[.string q, .slice ay m cy] 86)
  have HC := Lib.hid (eq_fldsg l k ax ay n m cx cy hn hm h1 h2 _ (hx.below FieldAt.abides hb0) (hy.below FieldAt.abides hb0))
  have HB0 := Lib.hid hb0
  have HR := Lib.hid hR
  obtain ⟨T, hT⟩ : ∃ T, T = eqL feqB l k := ⟨_, rfl⟩
  rw [← hT] at HC
  have HT := Lib.hid hT
  clear hn hm hx hy hR hb0 hT
  cases hS : (p.toList == q.toList) with
  | true =>
    have HRS := Lib.hid (show R = T by rw [HR.out, HT.out]; unfold keqB; rw [hS, Bool.true_and])
    go_enter Tryz.func77, Tryz.ntmps77
    go_wp2_with fail
    refine HC.out.mono ?_
    rintro e w1 ⟨rfl, hb1⟩
    have HB1 := Lib.hid (HB0.out.trans (hb1.mono (by simp; omega)))
    clear hb1
    go_wp2_with fail
    go_ret
    exact ⟨by rw [HRS.out]; rfl, HB1.out⟩
  | false =>
    have HF := Lib.hid (show R = false by rw [HR.out]; unfold keqB; rw [hS, Bool.false_and])
    go_enter Tryz.func77, Tryz.ntmps77
    go_wp2_with fail
    go_ret
    exact ⟨by rw [HF.out]; rfl, HB0.out⟩
set_option maxHeartbeats 4000000 in
theorem eqf_kindsg (l k : List KindV) (a b : Option Addr) (n m ca cb : Nat) (hn : l.length = n) (hm : k.length = m) (h1 : n ≤ 1048576) (h2 : m ≤ 1048576) (W : World) (hz : SlAt 2 KindAt W a l) (hy : SlAt 2 KindAt W b k) :
    Calls Tryz.prog 76 #[.slice a n ca, .slice b m cb, .func (.func 77) #[] #[]] W fun e w' => e = .returned (.bool (eqL keqB l k)) ∧ Below W.heap.size W w' := by
  obtain ⟨R, hR⟩ : ∃ R, R = eqL keqB l k := ⟨_, rfl⟩
  rw [← hR]
  have HR := Lib.hid hR
  have HN := Lib.hid hn
  have HM := Lib.hid hm
  have HZ := Lib.hid hz
  have HY := Lib.hid hy
  clear hR hn hm hz hy
  by_cases hnm : n = m
  · subst hnm
    have t0 : ((n : Int) != (n : Int)) = false := by simp
    go_enter Tryz.func76, Tryz.ntmps76
    go_wp2_with fail
    go_loopg [7, 8, 9, 17] n (fun gk v7 v8 v9 vi wx => ∃ i : Nat, i ≤ n ∧ gk = n - i ∧ vi = .int .i64 i ∧ (∀ j (h : j < n), j < i → keqB (l[j]'(by rw [HN.out]; exact h)) (k[j]'(by rw [HM.out]; exact h)) = true) ∧ Below W.heap.size W wx)
    case atStart => exact ⟨0, Nat.zero_le _, rfl, rfl, fun j h h2 => absurd h2 (by omega), Below.refl _ _⟩
    case round =>
      obtain ⟨i, hi, g2, rfl, hat, hb⟩ := hrel
      have G2 := Lib.hid g2
      have HAT := Lib.hid hat
      have HB := Lib.hid hb
      clear g2 hat hb
      by_cases hlt : i < n
      · obtain ⟨x, rfl, hx, hix⟩ := (HZ.out.below KindAt.abides HB.out) (by rw [HN.out]; omega)
        obtain ⟨y, rfl, hy, hiy⟩ := (HY.out.below KindAt.abides HB.out) (by rw [HM.out]; omega)
        have kx := hix i (by rw [HN.out]; exact hlt)
        have ky := hiy i (by rw [HM.out]; exact hlt)
        obtain ⟨X, hX⟩ : ∃ X, X = l[i]'(by rw [HN.out]; exact hlt) := ⟨_, rfl⟩
        obtain ⟨Y, hY⟩ : ∃ Y, Y = k[i]'(by rw [HM.out]; exact hlt) := ⟨_, rfl⟩
        rw [← hX] at kx
        rw [← hY] at ky
        have HX := Lib.hid hX
        have HY2 := Lib.hid hY
        clear hix hiy hX hY
        obtain ⟨x0, xs, ax, cx, x1, xc1, xc2, xi⟩ := kx
        obtain ⟨y0, ys, ay, cy, y1, yc1, yc2, yi⟩ := ky
        have hb1 := (Below.refl wr.heap.size wr).alloc (Nat.le_refl _) (.cells #[.string X.name, .slice ax X.fields.length cx] 86)
        have hb2 := hb1.alloc (by simp) (.cells #[.string Y.name, .slice ay Y.fields.length cy] 86)
        have y2 := cell_abides y0 hb1
        have y3 := cell_abides y1 hb1
        obtain ⟨S, hS⟩ : ∃ S, S = keqB X Y := ⟨_, rfl⟩
        have HC := Lib.hid (same_kindg X Y ax ay _ _ cx cy rfl rfl (by omega) (by omega) _ (xi.below FieldAt.abides hb2) (yi.below FieldAt.abides hb2))
        rw [← hS] at HC
        have HS := Lib.hid hS
        have HB2 := Lib.hid hb2
        clear hb1 hb2 hS xi yi y0 y1
        go_wp2_with fail
        refine HC.out.mono ?_
        rintro e w1 ⟨rfl, hb1⟩
        have HB3 := Lib.hid (HB.out.trans ((HB2.out.trans (hb1.mono (by simp; omega))).mono HB.out.size))
        clear hb1 HC
        cases S
        · have HF := Lib.hid (show R = false by rw [HR.out]; exact eqL_ne i (by rw [HN.out]; exact hlt) (by rw [HM.out]; exact hlt) (by rw [← HX.out, ← HY2.out]; exact HS.out.symm))
          go_wp2_with fail
          go_ret
          exact ⟨by rw [HF.out]; rfl, HB3.out⟩
        · have HE := Lib.hid HS.out.symm
          go_wp2_with fail
          go_roundg (n - (i + 1))
          case measure => rw [G2.out]; omega
          case rel => exact ⟨i + 1, hlt, rfl, by go_num, fun j h hj => by
            by_cases hji : j < i
            · exact HAT.out j h hji
            · obtain rfl : j = i := by omega
              rw [← HX.out, ← HY2.out]; exact HE.out, HB3.out⟩
      · have hie : i = n := by omega
        have HF := Lib.hid (show R = true by rw [HR.out]; exact eqL_eq (HN.out.trans HM.out.symm) (fun j h _ => HAT.out j (by rw [← HN.out]; exact h) (by rw [hie, ← HN.out]; exact h)))
        clear hie
        go_wp2_with fail
        go_ret
        exact ⟨by rw [HF.out]; rfl, HB.out⟩
  · have t0 : ((n : Int) != (m : Int)) = true := by rw [bne_iff_ne]; omega
    have HF := Lib.hid (show R = false by rw [HR.out]; exact eqL_len (by rw [HN.out, HM.out]; exact hnm))
    clear hnm
    go_enter Tryz.func76, Tryz.ntmps76
    go_wp2_with fail
    go_ret
    exact ⟨by rw [HF.out]; rfl, Below.refl _ _⟩
end Go.Proofs.YtfckbkhnelgjbaaGreatDoor
end
