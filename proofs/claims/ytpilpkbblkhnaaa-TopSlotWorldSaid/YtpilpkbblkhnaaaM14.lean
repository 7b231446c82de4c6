/- Lemmas for the law TopSlotWorld: H6P, SumInts, OutB, WName, WIntsP, H6Leaves, EqI, WEqK. No conditions. -/
import Derived.Test.YtpilpkbblkhnaaaM13
import Derived.Test.YtpilpkbblkhnaaaM01
import Derived.Deep.DeepMust
import Derived.OwnWalk
import Derived.Test.YtpilpkbblkhnaaaM03
import Derived.Test.YtpilpkbblkhnaaaRows
import Derived.Test.YtpilpkbblkhnaaaM06
import Derived.Deep.LoopGhost
import Derived.Lib.ConvBytes
import Derived.Lib.SmallJoins
import Derived.Test.YtpilpkbblkhnaaaM11
import Derived.Test.YtpilpkbblkhnaaaM12
import Derived.Deep.DeepCutAuto
import Derived.RegionTactic
import Derived.BigQuiet
import Derived.Deep.QuietTactic
import Derived.Test.YtpilpkbblkhnaaaM05
import Derived.Shelf.Abstract
/- A world in which one value is changed: plain; tourmake.Below, told exactly. -/
section
namespace Go.Proofs.Ytpilpkbblkhnaaa
open Go.ChangeShapes Go.WideShapes Go.ChangeAt Go.RowKit Go.Nm Go.Mem
set_option linter.unusedVariables false
theorem tm_BelowE (x n : Int) (h1 : 1 ≤ n) (h2 : n ≤ 9223372036854775807) (w : World) : Calls Try.prog 10 #[.int .i64 x, .int .i64 n] w fun e w' => e = .returned (.int .i64 (x % n)) ∧ w' = w := by
  obtain ⟨t, ht⟩ : ∃ t, t = x.tmod n := ⟨_, rfl⟩
  have hb : -n < t ∧ t < n := by
    rw [ht]
    rcases Int.le_total 0 x with h | h
    · have := Int.tmod_nonneg n h; have := Int.tmod_lt_of_pos x (show 0 < n by omega); omega
    · have h3 := Int.lt_tmod_of_pos x (show 0 < n by omega); have := Int.tmod_lt_of_pos x (show 0 < n by omega); omega
  have ht' : x.tmod n = t := ht.symm
  have hq : x % n = t % n := by
    have h := Int.tmod_add_mul_tdiv x n
    rw [ht'] at h
    rw [← h, Int.add_mul_emod_self_left]
  have hnb : (n == 0) = false := by simp; omega
  by_cases hneg : t < 0
  · have hr : x % n = t + n := by rw [hq, ← Int.add_emod_right, Int.emod_eq_of_lt (by omega) (by omega)]
    obtain ⟨r, hrr⟩ : ∃ r, r = x % n := ⟨_, rfl⟩
    rw [← hrr] at hr ⊢
    have wr : IntKind.i64.wrap (t + n) = r := by rw [IntKind.wrap_i64]; omega
    clear ht hq hrr hr
    go_enter Try.func10, Try.ntmps10
    go_wp2_with fail
    go_ret
    exact ⟨rfl, rfl⟩
  · have hr : x % n = t := by rw [hq, Int.emod_eq_of_lt (by omega) (by omega)]
    rw [hr]
    clear ht hq hr
    go_enter Try.func10, Try.ntmps10
    go_wp2_with fail
    go_ret
    exact ⟨rfl, rfl⟩
end Go.Proofs.Ytpilpkbblkhnaaa
end
/- sum.Ints. -/
section
namespace Go.Proofs.Ytpilpkbblkhnaaa
open Go.ChangeShapes Go.WideShapes Go.ChangeAt Go.RowKit Go.Mem
set_option linter.unusedVariables false

theorem dig_of_u (l o : List Int) (hl : o.length = l.length) (h : ∀ j, j < l.length → o.getD j 0 = (W64.u (l.getD j 0) : Int)) : dig o = dig l ∧ U64s o := by
  have e : o = l.map fun z => (W64.u z : Int) := by
    apply getD_eq_of_ext (by simpa using hl)
    intro j hj
    rw [h j (by omega)]
    have : j < l.length := by omega
    simp [this]
  subst e
  refine ⟨dig_map l, fun z hz => ?_⟩
  obtain ⟨y, _, rfl⟩ := List.mem_map.1 hz
  have := W64.u_lt y
  omega

set_option maxHeartbeats 4000000 in
theorem sum_Ints (a : Option Addr) (cap : Nat) (l : List Int) (hl : l.length ≤ 17592186044416) (w : World) (hin : Mem.IntsAt .i64 w a l) :
    Calls Try.prog 42 #[.slice a l.length cap] w fun e w' => e = .returned (.int .u64 (dig l : Nat)) ∧ Below w.heap.size w w' := by
  obtain ⟨n, hn⟩ : ∃ n, n = l.length := ⟨_, rfl⟩
  rw [← hn]
  have HN := Lib.hid hn
  have HI := Lib.hid hin
  have h63 : n ≤ 17592186044416 := by omega
  clear hin hn hl
  obtain ⟨i0, hi, hz0, hz1, hz2⟩ := info_parts (show (Try.prog.info? 61).map (fun i => (i.zero, i.size, i.bytes)) = some (some (.int .u64 0), 1, 8) by kernel_rfl)
  go_enter Try.func42, Try.ntmps42
  go_wp2_with (at_make; go_must (refine wpList_make_full _ rfl _ _ 71 rfl w.heap.size 61 i0 (.int .u64 0) 1 Try.underlying71 hi hz0 hz1 _ _ _ _ n rfl rfl rfl rfl ?b1 ?b2 ?b3 ?_))
  case b1 => rw [hz2]; omega
  case b2 => unfold maxLen; omega
  case b3 => omega
  intro w1 hown hgr
  rw [toList_madeCells_one, vints_replicate] at hown
  have hb1 : Below w.heap.size w w1 := (Below.refl _ _).grown hgr (Nat.le_refl _) (fun k hk => by cases hk)
  clear hgr hi hz0 hz1 hz2
  go_wp2
  go_loopg [4, 5, 11] n (fun gk _ _ vi wr => ∃ (k : Nat) (out : List Int), k ≤ n ∧ gk = n - k ∧ vi = .int .i64 k ∧ out.length = n ∧ (∀ j, j < k → out.getD j 0 = (W64.u (l.getD j 0) : Int)) ∧
      wr.ownsRow w.heap.size 61 1 (.slice (some ⟨w.heap.size, 0, none⟩) n n) n (vints .u64 out) ∧ Below w.heap.size w wr)
  case atStart => exact ⟨0, List.replicate n 0, by omega, rfl, rfl, by simp, fun j h => by omega, hown, hb1⟩
  case round =>
    clear hown hb1
    obtain ⟨k, out, hk, h2, rfl, hlen, hout, hown, hb⟩ := hrel
    have H2 := Lib.hid h2
    have HLEN := Lib.hid hlen
    have HOUT := Lib.hid hout
    clear h2 hout
    by_cases hlt : k < n
    · obtain ⟨x, rfl, hx, hc⟩ := (HI.out.below hb) (by rw [← HN.out]; omega)
      have hcell := hc k (by rw [← HN.out]; omega)
      obtain ⟨z, hz⟩ : ∃ z, z = l.getD k 0 := ⟨_, rfl⟩
      rw [← hz] at hcell
      have HZ := Lib.hid hz
      have eu : IntKind.u64.wrap z = W64.u z := W64.u_eq z
      have e1 := (hown.cellAt k (by omega)).trans (vints_get .u64 out k (by omega))
      have e2 := hown.frozenAt k
      have hst := (hown.stored k (.int .u64 (W64.u z : Nat)))
      rw [vints_set] at hst
      have HST := Lib.hid hst
      clear hc hz hst hown hlen
      go_wp2
      go_roundg (n - (k + 1))
      case measure => rw [H2.out]; omega
      case rel =>
        refine ⟨k + 1, out.set k (W64.u z), by omega, rfl, by go_num, by rw [List.length_set]; exact HLEN.out, fun j hj => ?_, HST.out.1, hb.setCell (by simp) _⟩
        by_cases q : j = k
        · subst q
          have := HLEN.out
          have h3 : j < out.length := by omega
          rw [← HZ.out]; simp [h3]
        · rw [List.getD_eq_getElem?_getD, List.getElem?_set_ne (by omega), ← List.getD_eq_getElem?_getD]
          exact HOUT.out j (by omega)
    · obtain rfl : k = n := by omega
      obtain ⟨q1, q2⟩ := dig_of_u l out (by rw [HLEN.out, HN.out]) (fun j hj => HOUT.out j (by rw [HN.out]; exact hj))
      have cw := sum_Words (some ⟨w.heap.size, 0, none⟩) k out (by rw [HLEN.out]; omega) q2 wr (IntsAt.of_own hown HLEN.out.symm)
      rw [HLEN.out, q1] at cw
      have CW := Lib.hid cw
      clear cw q1 q2 hlen hown
      go_wp2_with (go_at_call 19; refine (CW.out).mono ?_; rintro e w2 ⟨rfl, rfl⟩)
      go_ret
      exact ⟨rfl, hb⟩
end Go.Proofs.Ytpilpkbblkhnaaa
end
/- A boxed slice of ints that grows by append: the variable in block X, its row in a block of its own. -/
section
namespace Go.Proofs.Ytpilpkbblkhnaaa
open Go.ChangeShapes Go.WideShapes Go.ChangeAt Go.RowKit Go.Mem
set_option linter.unusedVariables false
/-- the variable in block X holds v, and v is the call's own row of these numbers; all that turns lies at or beyond B -/
structure OutV (w : World) (B X : Nat) (v : Value) (L : List Int) : Prop where
  le : B ≤ X
  box : w.heap[X]? = some (.cells #[v] 22 (0, 0))
  row : w.ownsRow B 3 1 v L.length (vints .i64 L)
/-- nothing has turned but block X and rows of ints at or beyond B -/
structure FrX (B X : Nat) (w w' : World) : Prop where
  bel : Below B w w'
  far : ∀ (k : Nat) (cs : Array Value) (t : TypeId) (fr : Nat × Nat), w.heap[k]? = some (.cells cs t fr) → t ≠ 3 → k ≠ X → w'.heap[k]? = some (.cells cs t fr)
theorem FrX.refl (B X : Nat) (w : World) : FrX B X w w := ⟨Below.refl _ _, fun k cs t fr h _ _ => h⟩
theorem FrX.trans {B X : Nat} {a b c : World} (h : FrX B X a b) (h2 : FrX B X b c) : FrX B X a c := ⟨h.bel.trans h2.bel, fun k cs t fr h3 h4 h5 => h2.far k cs t fr (h.far k cs t fr h3 h4 h5) h4 h5⟩
theorem FrX.below {B X : Nat} {a b c : World} (h : FrX B X a b) (hB : B ≤ a.heap.size) (hb : Below b.heap.size b c) : FrX B X a c :=
  ⟨h.bel.trans (hb.mono (Nat.le_trans hB h.bel.size)), fun k cs t fr h3 h4 h5 => heap_below (h.far k cs t fr h3 h4 h5) hb⟩
theorem FrX.of_below {B X : Nat} {a b : World} (hB : B ≤ a.heap.size) (hb : Below a.heap.size a b) : FrX B X a b := (FrX.refl B X a).below hB hb
theorem FrX.low {B X N : Nat} {a b : World} {o : Obj} (h : FrX B X a b) (hN : N < B) (hr : a.heap[N]? = some o) : b.heap[N]? = some o := (h.bel.block N hN).trans hr
theorem OutV.cell {w : World} {B X : Nat} {v : Value} {L : List Int} (h : OutV w B X v L) : w.cell? ⟨X, 0, none⟩ = some v := cell_of_row _ _ 0 _ _ _ h.box
theorem OutV.lt {w : World} {B X : Nat} {v : Value} {L : List Int} (h : OutV w B X v L) : X < w.heap.size := lt_of_heap h.box
theorem OutV.ble {w : World} {B X : Nat} {v : Value} {L : List Int} (h : OutV w B X v L) : B ≤ w.heap.size := Nat.le_trans h.le (Nat.le_of_lt h.lt)
theorem OutV.free {w : World} {B X : Nat} {v : Value} {L : List Int} (h : OutV w B X v L) : w.frozen? ⟨X, 0, none⟩ = false := Mem.frozen_of_row h.box 0
theorem OutV.below {w w' : World} {B X : Nat} {v : Value} {L : List Int} (h : OutV w B X v L) (hb : Below w.heap.size w w') : OutV w' B X v L := ⟨h.le, heap_below h.box hb, own_below h.row hb⟩
theorem OutV.one {w : World} {B X : Nat} {v : Value} {L : List Int} (h : OutV w B X v L) : v.oneCell' = true ∧ v.cells = #[v] := by
  rcases h.row.2 with ⟨rfl, _⟩ | ⟨g, cap, cur, rfl, _⟩
  · exact ⟨rfl, rfl⟩
  · exact ⟨rfl, rfl⟩
theorem OutV.len {w : World} {B X : Nat} {v : Value} {L : List Int} (h : OutV w B X v L) : ∃ a c, v = .slice a L.length c := by
  rcases h.row.2 with ⟨rfl, h0⟩ | ⟨g, cap, cur, rfl, _⟩
  · exact ⟨none, 0, by rw [h0]⟩
  · exact ⟨_, _, rfl⟩
theorem OutV.ints {w : World} {B X : Nat} {v : Value} {L : List Int} (h : OutV w B X v L) : ∃ a c, v = .slice a L.length c ∧ IntsAt .i64 w a L := by
  obtain ⟨a, c, rfl⟩ := h.len
  exact ⟨a, c, rfl, IntsAt.of_own h.row rfl⟩
/-- the row's block is a block of ints at or beyond B -/
theorem OutV.own {w : World} {B X : Nat} {v : Value} {L : List Int} (h : OutV w B X v L) (g : Nat) (hv : v.ownBlock = some g) : B ≤ g ∧ g < w.heap.size ∧ ∃ cs fr, w.heap[g]? = some (.cells cs 3 fr) := by
  rcases h.row.2 with ⟨rfl, _⟩ | ⟨g', cap, cur, rfl, hb, hh, _⟩
  · cases hv
  · injection hv with hv
    have hv : g' = g := hv
    subst hv
    exact ⟨hb, lt_of_heap hh, _, _, hh⟩
theorem int_ne {w : World} {X g : Nat} {v : Value} {cs : Array Value} {fr : Nat × Nat} (hX : w.heap[X]? = some (.cells #[v] 22 (0, 0))) (hg : w.heap[g]? = some (.cells cs 3 fr)) : g ≠ X := fun e => by
  subst e
  rw [hX] at hg
  injection hg with hg
  injection hg with _ h7 _
  exact absurd h7 (by decide)
theorem new_ints1 (w : World) (a : Int) : IntsAt .i64 (w.alloc (.cells #[.int .i64 a] 3 (0, 0))) (some ⟨w.heap.size, 0, none⟩) [a] := RowB.ints (k := .i64) (zs := [a]) (heap_alloc_new w _)
theorem new_ints2 (w : World) (a b : Int) : IntsAt .i64 (w.alloc (.cells #[.int .i64 a, .int .i64 b] 3 (0, 0))) (some ⟨w.heap.size, 0, none⟩) [a, b] := RowB.ints (k := .i64) (zs := [a, b]) (heap_alloc_new w _)
theorem new_ints3 (w : World) (a b c : Int) : IntsAt .i64 (w.alloc (.cells #[.int .i64 a, .int .i64 b, .int .i64 c] 3 (0, 0))) (some ⟨w.heap.size, 0, none⟩) [a, b, c] := RowB.ints (k := .i64) (zs := [a, b, c]) (heap_alloc_new w _)
/-- as FrX, and block X too is as it was -/
structure FrY (B X : Nat) (w w' : World) : Prop where
  fr : FrX B X w w'
  box : ∀ o, w.heap[X]? = some o → w'.heap[X]? = some o
theorem FrY.refl (B X : Nat) (w : World) : FrY B X w w := ⟨FrX.refl _ _ _, fun o h => h⟩
theorem FrY.trans {B X : Nat} {a b c : World} (h : FrY B X a b) (h2 : FrY B X b c) : FrY B X a c := ⟨h.fr.trans h2.fr, fun o ho => h2.box o (h.box o ho)⟩
theorem FrY.of_below {B X : Nat} {a b : World} (hB : B ≤ a.heap.size) (hb : Below a.heap.size a b) : FrY B X a b := ⟨FrX.of_below hB hb, fun o ho => heap_below ho hb⟩
theorem FrY.drew (B X : Nat) (w : World) : FrY B X w w.drew := ⟨⟨(Below.refl _ _).drew, fun k cs t fr h _ _ => h⟩, fun o h => h⟩
theorem row_own {w : World} {B n : Nat} {v : Value} {xs : List Value} (h : w.ownsRow B 3 1 v n xs) (g : Nat) (hv : v.ownBlock = some g) : B ≤ g ∧ g < w.heap.size ∧ ∃ cs fr, w.heap[g]? = some (.cells cs 3 fr) := by
  rcases h.2 with ⟨rfl, _⟩ | ⟨g', cap, cur, rfl, hb, hh, _⟩
  · cases hv
  · injection hv with hv
    have hv : g' = g := hv
    subst hv
    exact ⟨hb, lt_of_heap hh, _, _, hh⟩
theorem own_frY {w w' : World} {B X n : Nat} {u v : Value} {xs : List Value} (hB : B ≤ w.heap.size) (hbox : w.heap[X]? = some (.cells #[u] 22 (0, 0))) (h : w.ownsRow B 3 1 v n xs) (hg : w.grownBy w' v.ownBlock) : FrY B X w w' := by
  refine ⟨⟨⟨hg.os, hg.tape, hg.output, hg.size, fun k hk => ?_⟩, fun k cs t fr h3 h4 h5 => ?_⟩, fun o ho => (hg.block X (lt_of_heap hbox) (fun e => ?_)).trans ho⟩
  · exact hg.block k (Nat.lt_of_lt_of_le hk hB) (fun e => by have := (row_own h k e.symm).1; omega)
  · refine (hg.block k (lt_of_heap h3) (fun e => ?_)).trans h3
    obtain ⟨_, _, cs2, fr2, h6⟩ := row_own h k e.symm
    rw [h3] at h6
    injection h6 with h6
    injection h6 with _ h7 _
    exact h4 h7
  · obtain ⟨_, _, cs, fr, h6⟩ := row_own h X e.symm
    exact int_ne hbox h6 rfl
/-- .. and the store into the variable -/
theorem out_store {w w2 : World} {B X : Nat} {v v' : Value} {L : List Int} (hle : B ≤ X) (hb : w.heap[X]? = some (.cells #[v] 22 (0, 0))) (hown : w.ownsRow B 3 1 v' L.length (vints .i64 L)) (hput : Put w w2 X 22 v') : OutV w2 B X v' L ∧ FrX B X w w2 := by
  refine ⟨⟨hle, hput.here, own_keep hown (fun g hg => ?_)⟩, ⟨hput.below hle, fun k cs t fr h3 h4 h5 => (hput.else_ k h5).trans h3⟩⟩
  refine hput.else_ g ?_
  rcases hown.2 with ⟨rfl, _⟩ | ⟨g', cap, cur, rfl, _, hh, _⟩
  · cases hg
  · injection hg with hg
    have hg : g' = g := hg
    subst hg
    exact int_ne hb hh
/-- both, in the walk: the variable holds u, the row that grows is v -/
theorem wpList_out2 {w : World} {ops : Array Oper} {rest : List Oper} {o o2 : Oper} {a : Act} {Q : Exit → Act → World → Prop} (hgd : o.guard = none) (s x : Operand)
    (ho : o.op = .call { callee := .builtin .append, args := #[s, x], argTypes := #[22, 22] }) (hgd2 : o2.guard = none) (p y : Operand) (ho2 : o2.op = .store 22 p y)
    (B X : Nat) (u v : Value) (L : List Int) (hs : a.eval s = v) (hle : B ≤ X) (hbox : w.heap[X]? = some (.cells #[u] 22 (0, 0))) (hrow : w.ownsRow B 3 1 v L.length (vints .i64 L)) (A : Option Addr) (m c : Nat) (zs : List Int) (hx : a.eval x = .slice A m c) (hm : zs.length = m) (hr : IntsAt .i64 w A zs)
    (hn : (L.length + m) * 8 ≤ 140737488355328) (hp : ∀ u, (a.put o.dst u).eval p = .pointer (some ⟨X, 0, none⟩)) (hy : ∀ u, (a.put o.dst u).eval y = u)
    (hK : ∀ v2 w2, OutV w2 B X v2 (L ++ zs) → FrX B X w w2 → wpList Try.prog ops Q rest ((a.put o.dst v2).put o2.dst undef) w2) : wpList Try.prog ops Q (o :: o2 :: rest) a w := by
  have hBw : B ≤ w.heap.size := Nat.le_trans hle (Nat.le_of_lt (lt_of_heap hbox))
  refine wpList_append_ints hgd s x 22 ho B 3 .i64 8 Try.underlying22 (by kernel_rfl) v L.length L hs hrow A m c zs hx hm hr (by unfold maxLen; omega) hn hBw fun v' w' hown hg hor => ?_
  rw [← hm] at hown
  have hfr := own_frY hBw hbox hrow hg
  have hb := hfr.box _ hbox
  have hown2 : w'.ownsRow B 3 1 v' (L ++ zs).length (vints .i64 (L ++ zs)) := by rw [List.length_append]; exact hown
  have hone : v'.oneCell' = true ∧ v'.cells = #[v'] := by
    rcases hown.2 with ⟨rfl, _⟩ | ⟨g, cap, cur, rfl, _⟩
    · exact ⟨rfl, rfl⟩
    · exact ⟨rfl, rfl⟩
  refine wpList_store_var hgd2 22 p y ho2 X v' (hp v') (hy v') hone.2 hone.1 22 u hb (by kernel_rfl) fun w2 hput => ?_
  obtain ⟨h1, h2⟩ := out_store hle hb hown2 hput
  exact hK v' w2 h1 (hfr.fr.trans h2)
theorem wpList_out {w : World} {ops : Array Oper} {rest : List Oper} {o o2 : Oper} {a : Act} {Q : Exit → Act → World → Prop} (hgd : o.guard = none) (s x : Operand)
    (ho : o.op = .call { callee := .builtin .append, args := #[s, x], argTypes := #[22, 22] }) (hgd2 : o2.guard = none) (p y : Operand) (ho2 : o2.op = .store 22 p y)
    (B X : Nat) (v : Value) (L : List Int) (hs : a.eval s = v) (h : OutV w B X v L) (A : Option Addr) (m c : Nat) (zs : List Int) (hx : a.eval x = .slice A m c) (hm : zs.length = m) (hr : IntsAt .i64 w A zs)
    (hn : (L.length + m) * 8 ≤ 140737488355328) (hp : ∀ u, (a.put o.dst u).eval p = .pointer (some ⟨X, 0, none⟩)) (hy : ∀ u, (a.put o.dst u).eval y = u)
    (hK : ∀ v2 w2, OutV w2 B X v2 (L ++ zs) → FrX B X w w2 → wpList Try.prog ops Q rest ((a.put o.dst v2).put o2.dst undef) w2) : wpList Try.prog ops Q (o :: o2 :: rest) a w :=
  wpList_out2 hgd s x ho hgd2 p y ho2 B X v v L hs h.le h.box h.row A m c zs hx hm hr hn hp hy hK
end Go.Proofs.Ytpilpkbblkhnaaa
end
/- The closures of world.Ints and of the reference's Described: a name, as numbers. -/
section
namespace Go.Proofs.Ytpilpkbblkhnaaa
open Go.ChangeShapes Go.WideShapes Go.ChangeAt Go.RowKit Go.Mem
set_option linter.unusedVariables false
def byteI (s : ByteArray) (i : Nat) : Int := ((s.data.toList.getD i 0).toNat : Int)
def bytesI (s : ByteArray) (k : Nat) : List Int := (List.range k).map (byteI s)
theorem bytesI_succ (s : ByteArray) (k : Nat) : bytesI s (k + 1) = bytesI s k ++ [byteI s k] := by unfold bytesI; rw [List.range_succ, List.map_append]; rfl
theorem bytesI_len (s : ByteArray) (k : Nat) : (bytesI s k).length = k := by unfold bytesI; simp
def nameI (s : ByteArray) : List Int := (s.size : Int) :: bytesI s s.size
theorem nameI_len (s : ByteArray) : (nameI s).length = s.size + 1 := by unfold nameI; rw [List.length_cons, bytesI_len]
theorem byteI_at (s : ByteArray) (i : Nat) (h : i < s.size) : byteI s i = (s[i].toNat : Int) := by
  unfold byteI
  have : s.data.toList.getD i 0 = s[i] := by rw [List.getD_eq_getElem?_getD, List.getElem?_eq_getElem h]; rfl
  rw [this]
theorem idx_str (s : ByteArray) (i : Nat) (h : i < s.size) (h9 : s.size ≤ 9223372036854775807) (w : World) : (Instr.index 9 (.string s) (.int .i64 (i : Int))).run Try.prog w = .ok (.int .u8 (byteI s i)) w := by
  rw [byteI_at s i h]
  have i1 : (0 : Int) ≤ (i : Int) := by omega
  have i2 : (i : Int) < (s.size : Int) := by omega
  go_simp
theorem conv_byte (s : ByteArray) (i : Nat) (w : World) : (Go.convert 5 3 (.int .u8 (byteI s i))).run Try.prog w = .ok (.int .i64 (byteI s i)) w := by
  have h1 : 0 ≤ byteI s i := by unfold byteI; omega
  have h2 : byteI s i < 256 := by unfold byteI; have := (s.data.toList.getD i 0).toNat_lt; omega
  have h3 : IntKind.i64.wrap (byteI s i) = byteI s i := by rw [IntKind.wrap_i64]; omega
  go_simp
def F_nm (X i : Nat) (s : ByteArray) (u : Value) (jq : Nat) (v : Value) (w : World) : Prop :=
  match jq with
  | 0 => v = u
  | 1 => v = .string s
  | 2 => v = .int .i64 i
  | 3 => v = .int .u8 (byteI s i)
  | 4 => v = .int .i64 (byteI s i)
  | 5 => ∃ b, v = .slice (some ⟨b, 0, none⟩) 1 1 ∧ IntsAt .i64 w (some ⟨b, 0, none⟩) [byteI s i]
  | _ => True
theorem F_nm_mono (X i : Nat) (s : ByteArray) (u : Value) : Facts (F_nm X i s u) := ⟨by
  intro jq v w w' h hb
  unfold F_nm at h ⊢
  split at h
  all_goals first
    | exact h
    | (obtain ⟨b, e, h1⟩ := h; exact ⟨b, e, h1.below hb⟩)
    | trivial⟩

set_option maxHeartbeats 8000000 in
theorem ints_name (s : ByteArray) (hs : s.size ≤ 1048576) (B X : Nat) (v : Value) (L : List Int) (w : World) (h : OutV w B X v L) (hL : L.length ≤ 10000000) : Calls Try.prog 65 #[.string s, .pointer (some ⟨X, 0, none⟩)] w fun e w' => e = .returned (.tuple #[]) ∧ (∃ v2, OutV w' B X v2 (L ++ nameI s)) ∧ FrX B X w w' := by
  have HX := h.ble
  have H := Lib.hid h
  have c0 := h.cell
  have hnl := hs
  clear h hs
  go_enter Try.func65, Try.ntmps65
  go_wp2_with (at_builtin; go_must (refine wpList_out rfl _ _ rfl rfl _ _ rfl B X v L rfl (H.out.below ((Below.refl _ _).alloc (Nat.le_refl _) _)) (some ⟨w.heap.size, 0, none⟩) 1 1 [(s.size : Int)] rfl rfl (new_ints1 w s.size) (by omega) (fun u => rfl) (fun u => rfl) ?_); intro v2 w2 hout hfr; have HOUT := Lib.hid hout; have HFR := Lib.hid hfr; clear hout hfr)
  have hf0 := (FrX.of_below HX ((Below.refl w.heap.size w).alloc (Nat.le_refl _) (.cells #[.int .i64 (s.size : Int)] 3))).trans HFR.out
  have HF0 := Lib.hid hf0
  clear HFR hf0 c0
  go_loopg [11, 3] s.size (fun gk v11 _ wx => ∃ (i : Nat) (u : Value), i ≤ s.size ∧ gk = s.size - i ∧ v11 = .int .i64 i ∧ OutV wx B X u (L ++ [(s.size : Int)] ++ bytesI s i) ∧ FrX B X w wx)
  case atStart => exact ⟨0, v2, Nat.zero_le _, rfl, rfl, by rw [show bytesI s 0 = [] from rfl, List.append_nil]; exact HOUT.out, HF0.out⟩
  case round =>
    clear HOUT HF0
    obtain ⟨i, u, i1, i2, rfl, hout, hfr⟩ := hrel
    have I2 := Lib.hid i2
    have HOUT := Lib.hid hout
    have HFR := Lib.hid hfr
    have hxr := hout.ble
    clear i2 hfr
    by_cases hi : i < s.size
    · have C0 := Lib.hid hout.cell
      have HLL : (L ++ [(s.size : Int)] ++ bytesI s i).length = L.length + 1 + i := by rw [List.length_append, bytesI_len, List.length_append, List.length_singleton]
      obtain ⟨LL, hLL⟩ : ∃ LL, LL = L ++ [(s.size : Int)] ++ bytesI s i := ⟨_, rfl⟩
      have hbs := bytesI_succ s i
      rw [← hLL] at HOUT HLL
      have hnx : L ++ [(s.size : Int)] ++ bytesI s (i + 1) = LL ++ [byteI s i] := by rw [hbs, hLL, List.append_assoc, List.append_assoc, List.append_assoc]
      have HNX := Lib.hid hnx
      clear hout hLL hbs hnx
      go_wp2_with fail
      refine wp_region_facts_t rfl 6 (by kernel_rfl) (F_nm X i s u) (F_nm_mono X i s u) ?_ ?_
      · refine ⟨?_, ?_, ?_, ?_, ?_, ?_, trivial⟩
        · intro vs w' F hb hd hF hl hT
          have e := (hF 1).trans (look_out _ 1 _ _ (by kernel_rfl))
          exact one_load _ _ rfl rfl _ _ e (cell_abides C0.out hb) (by kernel_rfl) ⟨_, rfl, Below.refl _ _, rfl⟩
        · intro vs w' F hb hd hF hl hT
          have e := (hF 0).trans (look_out _ 0 _ _ (by kernel_rfl))
          exact one_move _ rfl (by first | exact Or.inl rfl | exact Or.inr rfl) ⟨_, rfl, Below.refl _ _, e⟩
        · intro vs w' F hb hd hF hl hT
          have e := (hF 3).trans (look_out _ 3 _ _ (by kernel_rfl))
          exact one_move _ rfl (by first | exact Or.inl rfl | exact Or.inr rfl) ⟨_, rfl, Below.refl _ _, e⟩
        · intro vs w' F hb hd hF hl hT
          have ex := (((hF 15).trans (look_at _ 15 1 _ _ (by kernel_rfl) (by kernel_rfl) hl)).trans (dep_of (Fact := F_nm X i s u) hd 1 (by kernel_rfl)))
          have ey := (((hF 16).trans (look_at _ 16 2 _ _ (by kernel_rfl) (by kernel_rfl) hl)).trans (dep_of (Fact := F_nm X i s u) hd 2 (by kernel_rfl)))
          exact rg_index 9 _ _ rfl rfl (.string s) (.int .i64 (i : Int)) (.int .u8 (byteI s i)) ex ey (fun w => idx_str s i (by omega) (by omega) w) ⟨_, rfl, Below.refl _ _, rfl⟩
        · intro vs w' F hb hd hF hl hT
          have ex := (((hF 17).trans (look_at _ 17 3 _ _ (by kernel_rfl) (by kernel_rfl) hl)).trans (dep_of (Fact := F_nm X i s u) hd 3 (by kernel_rfl)))
          exact rg_convert 5 3 _ rfl rfl (.int .u8 (byteI s i)) (.int .i64 (byteI s i)) ex (fun w => conv_byte s i w) ⟨_, rfl, Below.refl _ _, rfl⟩
        · intro vs w' F hb hd hF hl hT
          have ex := (((hF 18).trans (look_at _ 18 4 _ _ (by kernel_rfl) (by kernel_rfl) hl)).trans (dep_of (Fact := F_nm X i s u) hd 4 (by kernel_rfl)))
          exact rg_slice1 22 3 _ rfl rfl (byteI s i) ex Try.underlying22 (by kernel_rfl) ⟨_, rfl, (Below.refl _ _).alloc (Nat.le_refl _) _, _, rfl, new_ints1 _ _⟩
      · intro vs8 W8 hl hb hI
        obtain ⟨b, hv5, hin⟩ := hI 5 (by omega)
        have hv0 : vs8.getD 0 undef = u := hI 0 (by omega)
        obtain ⟨x0, x1, x2, x3, x4, x5, x6, x7, hvs⟩ := list8 hl
        subst hvs
        replace hv5 : x5 = .slice (some ⟨b, 0, none⟩) 1 1 := hv5
        replace hv0 : x0 = u := hv0
        subst hv5 hv0
        have HO8 := Lib.hid (HOUT.out.below hb)
        have HF8 := Lib.hid (HFR.out.trans (FrX.of_below hxr hb))
        have HIN := Lib.hid hin
        clear hI hl hb hin C0 HFR HOUT
        simp only [fillAll, Act.put, List.setIfInBounds_toArray, List.set_cons_succ, List.set_cons_zero, List.drop_succ_cons, List.drop_zero]
        go_wp2_with (at_builtin; go_must (refine wpList_out rfl _ _ rfl rfl _ _ rfl B X _ LL rfl HO8.out (some ⟨b, 0, none⟩) 1 1 [byteI s i] rfl rfl HIN.out (by omega) (fun u => rfl) (fun u => rfl) ?_); intro v2 w2 hout hfr; have HOUT := Lib.hid hout; have HFR := Lib.hid hfr; clear hout hfr)
        go_roundg (s.size - (i + 1))
        case measure => rw [I2.out]; omega
        case rel => exact ⟨i + 1, _, hi, rfl, by go_num, by rw [HNX.out]; exact HOUT.out, HF8.out.trans HFR.out⟩
    · obtain rfl : i = s.size := by omega
      go_wp2
      go_end0
      exact ⟨rfl, ⟨u, by unfold nameI; have := HOUT.out; rw [List.append_assoc] at this; exact this⟩, HFR.out⟩
end Go.Proofs.Ytpilpkbblkhnaaa
end
/- Plain: a world as numbers. -/
section
namespace Go.Proofs.Ytpilpkbblkhnaaa
open Go.RowKit Go.Mem
set_option linter.unusedVariables false
def fldI (f : FieldV) : List Int := nameI f.name ++ [f.bits, f.low]
def kndI (k : KindV) : List Int := nameI k.name ++ ([(k.fields.length : Int)] ++ (k.fields.map fldI).flatten)
def compI (c : CompV) : List Int := [c.kind, (c.vals.length : Int)] ++ c.vals
def itemI (t : ItemV) : List Int := [t.n, t.gen, (t.comps.length : Int)] ++ (t.comps.map compI).flatten
def intsW (y : WorldV) : List Int := [(y.kinds.length : Int)] ++ ((y.kinds.map kndI).flatten ++ ([(y.gens.length : Int)] ++ (y.gens ++ ([(y.items.length : Int)] ++ (y.items.map itemI).flatten))))
theorem drop_flat {α : Type} (f : α → List Int) (l : List α) (i : Nat) (h : i < l.length) (R : List Int) : ((l.drop i).map f).flatten ++ R = f l[i] ++ (((l.drop (i + 1)).map f).flatten ++ R) := by
  rw [List.drop_eq_getElem_cons h, List.map_cons, List.flatten_cons, List.append_assoc]
theorem drop_end {α : Type} (f : α → List Int) (l : List α) (R : List Int) : ((l.drop l.length).map f).flatten ++ R = R := by rw [List.drop_length]; rfl
theorem step_eq {L zs R T : List Int} (h : L ++ (zs ++ R) = T) : (L ++ zs) ++ R = T := by rw [List.append_assoc]; exact h
theorem len_le {L R T : List Int} (h : L ++ R = T) : L.length ≤ T.length := by rw [← h, List.length_append]; omega
/-- a world whose numbers of values and letters are small -/
structure FineW (y : WorldV) : Prop where
  tot : (intsW y).length ≤ 4000000
  kl : y.kinds.length ≤ 1048576
  gl : y.gens.length ≤ 1048576
  il : y.items.length ≤ 1048576
  k : ∀ k ∈ y.kinds, k.name.size ≤ 1048576 ∧ k.fields.length ≤ 1048576 ∧ ∀ f ∈ k.fields, f.name.size ≤ 1048576
  i : ∀ t ∈ y.items, t.comps.length ≤ 1048576 ∧ ∀ c ∈ t.comps, c.vals.length ≤ 1048576
theorem sum_mem {α : Type} {f : α → Nat} {l : List α} {x : α} (h : x ∈ l) : f x ≤ (l.map f).sum := by
  induction l with
  | nil => cases h
  | cons a l ih =>
    rw [List.map_cons, List.sum_cons]
    rcases List.mem_cons.1 h with rfl | h
    · omega
    · have := ih h; omega
theorem len_sum {α : Type} {f : α → Nat} (h1 : ∀ x, 1 ≤ f x) (l : List α) : l.length ≤ (l.map f).sum := by
  induction l with
  | nil => exact Nat.le_refl _
  | cons a l ih => rw [List.map_cons, List.sum_cons, List.length_cons]; have := h1 a; omega
theorem flat_le {α : Type} {g : α → List Int} {f : α → Nat} (h : ∀ x, (g x).length ≤ 3 * f x) (l : List α) : (l.map g).flatten.length ≤ 3 * (l.map f).sum := by
  induction l with
  | nil => exact Nat.le_refl _
  | cons a l ih =>
    rw [List.map_cons, List.flatten_cons, List.length_append, List.map_cons, List.sum_cons]
    have := h a
    omega
theorem fldI_le (f : FieldV) : (fldI f).length ≤ 3 * costField f := by unfold fldI costField; rw [List.length_append, nameI_len]; simp; omega
theorem kndI_le (k : KindV) : (kndI k).length ≤ 3 * costKind k := by
  unfold kndI costKind
  rw [List.length_append, nameI_len, List.length_append]
  have := flat_le fldI_le k.fields
  simp only [List.length_singleton]
  omega
theorem compI_le (c : CompV) : (compI c).length ≤ 3 * costComp c := by unfold compI costComp; rw [List.length_append]; simp; omega
theorem itemI_le (t : ItemV) : (itemI t).length ≤ 3 * costItem t := by
  unfold itemI costItem
  rw [List.length_append]
  have := flat_le compI_le t.comps
  simp only [List.length_cons, List.length_nil]
  omega
theorem fine_of {y : WorldV} (h : costWorld y ≤ 1048576) : FineW y := by
  unfold costWorld at h
  have k1 := flat_le kndI_le y.kinds
  have i1 := flat_le itemI_le y.items
  have k2 := len_sum (f := costKind) (fun x => by unfold costKind; omega) y.kinds
  have i2 := len_sum (f := costItem) (fun x => by unfold costItem; omega) y.items
  refine ⟨?_, by omega, by omega, by omega, fun k hk => ?_, fun t ht => ?_⟩
  · unfold intsW
    simp only [List.length_append, List.length_singleton]
    omega
  · have h1 : k.name.size + (k.fields.map costField).sum + 1 ≤ (y.kinds.map costKind).sum := sum_mem (f := costKind) hk
    have h2 := len_sum (f := costField) (fun x => by unfold costField; omega) k.fields
    refine ⟨by omega, by omega, fun f hf => ?_⟩
    have h3 : f.name.size + 1 ≤ (k.fields.map costField).sum := sum_mem (f := costField) hf
    omega
  · have h1 : (t.comps.map costComp).sum + 1 ≤ (y.items.map costItem).sum := sum_mem (f := costItem) ht
    have h2 := len_sum (f := costComp) (fun x => by unfold costComp; omega) t.comps
    refine ⟨by omega, fun c hc => ?_⟩
    have h3 : c.vals.length + 1 ≤ (t.comps.map costComp).sum := sum_mem (f := costComp) hc
    omega
end Go.Proofs.Ytpilpkbblkhnaaa
end
/- tourtop.h6leaves: by program (gen_h6leaves.py). -/
section
namespace Go.Proofs.Ytpilpkbblkhnaaa
open Go.ChangeShapes Go.WideShapes Go.ChangeAt Go.RowKit Go.Nm Go.Mem
set_option linter.unusedVariables false
/-- the numbers of an item's leaf -/
def leafI (t : ItemV) : List Int := [t.n, t.gen] ++ (t.comps.map compI).flatten
def leafD (t : ItemV) : Int := (dig (leafI t) : Nat)
end Go.Proofs.Ytpilpkbblkhnaaa
end
/- slices.Equal of two slices of integers. -/
section
namespace Go.Proofs.Ytpilpkbblkhnaaa
open Go.ChangeShapes Go.WideShapes Go.ChangeAt Go.RowKit Go.Mem
set_option linter.unusedVariables false
theorem list_ne_of_getD {zs ys : List Int} (k : Nat) (hk : k < zs.length) (hl : zs.length = ys.length) (h : zs.getD k 0 ≠ ys.getD k 0) : zs ≠ ys := by
  rintro rfl; exact h rfl

set_option maxHeartbeats 4000000 in
theorem eq_ints (a b : Option Addr) (ca cb : Nat) (zs ys : List Int) (h1 : zs.length ≤ 9223372036854775807) (h2 : ys.length ≤ 9223372036854775807) (w : World) (ha : IntsAt .i64 w a zs) (hb : IntsAt .i64 w b ys) :
    Calls Try.prog 15 #[.slice a zs.length ca, .slice b ys.length cb] w fun e w' => e = .returned (.bool (decide (zs = ys))) ∧ Below w.heap.size w w' := by
  by_cases hl : zs.length = ys.length
  · obtain ⟨n, hn⟩ : ∃ n, n = zs.length := ⟨_, rfl⟩
    have hm : ys.length = n := by omega
    have hne : ((n : Int) != (n : Int)) = false := by simp
    rw [hm, ← hn]
    have HN := Lib.hid hn
    have HM := Lib.hid hm
    have HA := Lib.hid ha
    have HB := Lib.hid hb
    have h63 : n ≤ 9223372036854775807 := by omega
    clear hn hm ha hb hl h1 h2
    go_enter Try.func15, Try.ntmps15
    go_wp2_with fail
    go_loopg [5, 13] n (fun gk _ vi wx => ∃ k : Nat, k ≤ n ∧ gk = n - k ∧ vi = .int .i64 k ∧ (∀ j, j < k → zs.getD j 0 = ys.getD j 0) ∧ Below w.heap.size w wx)
    case atStart => exact ⟨0, by omega, rfl, rfl, fun j h => by omega, Below.refl _ _⟩
    case round =>
      obtain ⟨k, g1, g2, rfl, heq, hbw⟩ := hrel
      have G2 := Lib.hid g2
      have HEQ := Lib.hid heq
      clear g2 heq
      by_cases hlt : k < n
      · obtain ⟨x, rfl, hx, hcx⟩ := HA.out (by rw [← HN.out]; omega)
        obtain ⟨y, rfl, hy, hcy⟩ := HB.out (by rw [HM.out]; omega)
        obtain ⟨p, hp⟩ : ∃ p, p = zs.getD k 0 := ⟨_, rfl⟩
        obtain ⟨q, hq⟩ : ∃ q, q = ys.getD k 0 := ⟨_, rfl⟩
        have cx := (hbw.cell (by rw [block_of_add]; exact hx)).trans (hcx k (by rw [← HN.out]; omega))
        have cy := (hbw.cell (by rw [block_of_add]; exact hy)).trans (hcy k (by rw [HM.out]; omega))
        rw [← hp] at cx
        rw [← hq] at cy
        have i1 : (0 : Int) ≤ (k : Int) := by omega
        have i2 : (k : Int) < (n : Int) := by omega
        have HPQ := Lib.hid (And.intro hp hq)
        clear hcx hcy hp hq
        by_cases e : p = q
        · subst e
          have hee : (p != p) = false := by simp
          go_wp2
          go_quiet (fail)
          go_wp2
          go_roundg (n - (k + 1))
          case measure => rw [G2.out]; omega
          case rel => exact ⟨k + 1, by omega, rfl, by go_num, fun j hj => by
            by_cases q : j = k
            · rw [q, ← HPQ.out.1, ← HPQ.out.2]
            · exact HEQ.out j (by omega), below_drewN hbw _⟩
        · have hee : (p != q) = true := by simp [e]
          have hz : zs ≠ ys := list_ne_of_getD k (by rw [← HN.out]; exact hlt) (by rw [← HN.out, HM.out]) (by rw [← HPQ.out.1, ← HPQ.out.2]; exact e)
          have HZ := Lib.hid hz
          clear hz e
          go_wp2
          go_quiet (fail)
          go_wp2
          go_ret
          exact ⟨by rw [decide_eq_false HZ.out]; rfl, below_drewN hbw _⟩
      · obtain rfl : k = n := by omega
        have hz : zs = ys := getD_eq_of_ext (by rw [← HN.out, HM.out]) (fun j hj => HEQ.out j (by rw [HN.out]; exact hj))
        have HZ := Lib.hid (decide_eq_true hz)
        clear hz
        go_wp2
        go_ret
        exact ⟨by rw [HZ.out]; rfl, hbw⟩
  · have hz : zs ≠ ys := fun h => hl (by rw [h])
    have HZ := Lib.hid hz
    obtain ⟨n, hn⟩ : ∃ n, n = zs.length := ⟨_, rfl⟩
    obtain ⟨m, hm⟩ : ∃ m, m = ys.length := ⟨_, rfl⟩
    rw [← hn, ← hm] at hl ⊢
    have hne : ((n : Int) != (m : Int)) = true := by simp; omega
    clear hz hl hn hm
    go_enter Try.func15, Try.ntmps15
    go_wp2_with fail
    go_ret
    exact ⟨by rw [decide_eq_false HZ.out]; rfl, Below.refl _ _⟩

end Go.Proofs.Ytpilpkbblkhnaaa
end
/- Fields and kinds held against each other. -/
section
namespace Go.Proofs.Ytpilpkbblkhnaaa
open Go.ChangeShapes Go.WideShapes Go.ChangeAt Go.RowKit Go.Nm Go.Mem
set_option linter.unusedVariables false
def eqL {α : Type} (e : α → α → Bool) : List α → List α → Bool
  | [], [] => true
  | a :: l, b :: k => e a b && eqL e l k
  | _, _ => false
def feqB (a b : FieldV) : Bool := a.name.toList == b.name.toList && (decide (a.bits = b.bits) && decide (a.low = b.low))
def keqB (a b : KindV) : Bool := a.name.toList == b.name.toList && eqL feqB a.fields b.fields
end Go.Proofs.Ytpilpkbblkhnaaa
end
