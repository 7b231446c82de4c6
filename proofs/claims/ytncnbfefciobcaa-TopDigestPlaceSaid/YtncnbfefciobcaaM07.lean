/- Lemmas for the law TopDigestPlace: ApiWorld, KindCells, TmNext, TmP, RegInv. No conditions. -/
import Derived.Test.YtncnbfefciobcaaM06
import Derived.Test.YtncnbfefciobcaaM03
import Derived.Deep.DeepMust
import Derived.WalkKit
import Derived.ProofKit
import Derived.Orders
import Derived.StillTail
import Derived.Shelf.Abstract
import Derived.Laws.Rows
/- Worlds as they lie in memory. -/
section
namespace Go.Proofs.Ytncnbfefciobcaa
open Go.RowKit Go.ChangeShapes Go.WideShapes Go.Deep Go.Mem
set_option linter.unusedVariables false
structure WorldV where
  kinds : List KindV
  gens : List Int
  items : List ItemV
  deriving Inhabited
/-- a world, as a value -/
def WorldIn (w : World) (v : Value) (y : WorldV) : Prop := ∃ ak ck ag cg ai ci, v = .agg #[.slice ak y.kinds.length ck, .slice ag y.gens.length cg, .slice ai y.items.length ci] ∧ SlAt 2 KindAt w ak y.kinds ∧ IntsAt .i64 w ag y.gens ∧ SlAt 3 ItemAt w ai y.items ∧ y.kinds.length ≤ ck ∧ ck ≤ 9223372036854775807
theorem WorldIn.below {w w' : World} {v : Value} {y : WorldV} (h : WorldIn w v y) (hb : Below w.heap.size w w') : WorldIn w' v y := by
  obtain ⟨ak, ck, ag, cg, ai, ci, rfl, h1, h2, h3, h4⟩ := h
  exact ⟨ak, ck, ag, cg, ai, ci, rfl, h1.below KindAt.abides hb, h2.below hb, h3.below ItemAt.abides hb, h4⟩
def costWorld (y : WorldV) : Nat := (y.kinds.map costKind).sum + y.gens.length + (y.items.map costItem).sum
section
variable {H : Type} {enc : TypeId × Value → H} {w : World} {base : Nat} {spare : Nat → Bool} {held : Bool}
set_option maxRecDepth 100000 in
theorem read_world {fuel : Nat} {cs : List Value} {x : DataW H × List MemPlace} (hl : cs.length = 3) (ht : DataW.trod enc Try.prog w base spare held fuel 27 cs = some x) :
    ∃ (y : WorldV), (∃ v0 v1 v2, cs = [v0, v1, v2] ∧ WorldIn w (.agg #[v0, v1, v2]) y) ∧ costWorld y ≤ Rows.uptoBulk x.1 := by
  obtain ⟨xs, n, _, rfl, _, hxl, hf⟩ := DataW.trod_struct Try.underlying27 ht
  match cs, hl with
  | [v0, v1, v2], _ =>
    have g0 : DataW.trod enc Try.prog w base spare held n 24 (([v0, v1, v2].drop 0).take (Try.prog.cellsOf 24)) = xs[0]? := hf 0 _ rfl
    have g1 : DataW.trod enc Try.prog w base spare held n 22 (([v0, v1, v2].drop 1).take (Try.prog.cellsOf 22)) = xs[1]? := hf 1 _ rfl
    have g2 : DataW.trod enc Try.prog w base spare held n 25 (([v0, v1, v2].drop 2).take (Try.prog.cellsOf 25)) = xs[2]? := hf 2 _ rfl
    rw [show Try.prog.cellsOf 24 = 1 by kernel_rfl] at g0
    rw [show Try.prog.cellsOf 22 = 1 by kernel_rfl] at g1
    rw [show Try.prog.cellsOf 25 = 1 by kernel_rfl] at g2
    match xs, hxl with
    | [y0, y1, y2], _ =>
      obtain ⟨ak, lk, ck, e0, kc1, kc2, k1, k2⟩ := read_kinds (show DataW.trod enc Try.prog w base spare held n 24 [v0] = some y0 from g0)
      obtain ⟨ag, lg, cg, e1, _, _, m1, m2⟩ := read_ints (show DataW.trod enc Try.prog w base spare held n 22 [v1] = some y1 from g1)
      obtain ⟨ai, li, ci, e2, _, _, i1, i2⟩ := read_items (show DataW.trod enc Try.prog w base spare held n 25 [v2] = some y2 from g2)
      injection e0 with e0; injection e1 with e1; injection e2 with e2
      subst e0 e1 e2
      refine ⟨⟨lk, lg, li⟩, ⟨_, _, _, rfl, ak, ck, ag, cg, ai, ci, rfl, k1, m1, i1, kc1, by unfold maxLen at kc2; omega⟩, ?_⟩
      unfold costWorld
      simp only [List.map_cons, List.map_nil, Rows.uptoBulk, Rows.uptoBulkAll]
      omega
end
end Go.Proofs.Ytncnbfefciobcaa
end
/- A list of fields as the cells of a row. -/
section
namespace Go.Proofs.Ytncnbfefciobcaa
open Go.RowKit Go.ChangeShapes Go.WideShapes Go.Deep Go.Mem Go.Nm
set_option linter.unusedVariables false
def fval (l : List FieldV) (j : Nat) : Value := if j % 3 = 0 then .string (l.getD (j / 3) default).name else if j % 3 = 1 then .int .i64 (l.getD (j / 3) default).bits else .int .i64 (l.getD (j / 3) default).low
def fvals (l : List FieldV) : List Value := (List.range (l.length * 3)).map (fval l)
theorem fvals_len (l : List FieldV) : (fvals l).length = l.length * 3 := by unfold fvals; simp
theorem fvals_get (l : List FieldV) (j : Nat) (u : Value) : (fvals l)[j]? = some u ↔ j < l.length * 3 ∧ u = fval l j := by
  unfold fvals
  rw [List.getElem?_map]
  by_cases h : j < l.length * 3
  · rw [List.getElem?_range h]; simp [h, eq_comm]
  · rw [List.getElem?_eq_none (by simpa using h)]; simp [h]
theorem fvals_one (l : List FieldV) : ∀ u ∈ fvals l, u.oneCell' = true := by
  intro u hu
  unfold fvals at hu
  obtain ⟨j, _, rfl⟩ := List.mem_map.1 hu
  unfold fval
  split
  · rfl
  · split <;> rfl
theorem fval_parts (l : List FieldV) (q : Nat) (h : q < l.length) : fval l (q * 3) = .string l[q].name ∧ fval l (q * 3 + 1) = .int .i64 l[q].bits ∧ fval l (q * 3 + 2) = .int .i64 l[q].low := by
  have hd : l.getD q default = l[q] := by rw [List.getD_eq_getElem?_getD, List.getElem?_eq_getElem h]; rfl
  unfold fval
  refine ⟨?_, ?_, ?_⟩
  · rw [if_pos (by omega), show q * 3 / 3 = q by omega, hd]
  · rw [if_neg (by omega), if_pos (by omega), show (q * 3 + 1) / 3 = q by omega, hd]
  · rw [if_neg (by omega), if_neg (by omega), show (q * 3 + 2) / 3 = q by omega, hd]
theorem cells_flds {w : World} {a : Option Addr} {l : List FieldV} (h : SlAt 3 FieldAt w a l) : CellsAt w a (fvals l) := fun h0 => by
  rw [fvals_len] at h0
  obtain ⟨x, e, hx, hi⟩ := h (by omega)
  refine ⟨x, e, hx, fun j u hu => ?_⟩
  obtain ⟨hj, rfl⟩ := (fvals_get l j u).1 hu
  have hq : j / 3 < l.length := by omega
  obtain ⟨k0, k1, k2, _⟩ := hi (j / 3) hq
  obtain ⟨p0, p1, p2⟩ := fval_parts l (j / 3) hq
  rcases (show j = j / 3 * 3 ∨ j = j / 3 * 3 + 1 ∨ j = j / 3 * 3 + 2 by omega) with e | e | e
  · rw [show fval l j = fval l (j / 3 * 3) by rw [← e], p0, show x.add j = x.add (j / 3 * 3) by rw [← e]]; exact k0
  · rw [show fval l j = fval l (j / 3 * 3 + 1) by rw [← e], p1, show x.add j = x.add (j / 3 * 3 + 1) by rw [← e], add_nextN _ _ 1 (by decide)]; exact k1
  · rw [show fval l j = fval l (j / 3 * 3 + 2) by rw [← e], p2, show x.add j = x.add (j / 3 * 3 + 2) by rw [← e], add_nextN _ _ 2 (by decide)]; exact k2
theorem flds_own {w : World} {base e n : Nat} {v : Value} {l : List FieldV} (hn : l.length = n) (h : w.ownsRow base e 3 v n (fvals l)) (hs : ∀ y ∈ l, y.name.size ≤ 9223372036854775807) :
    ∃ a c, v = .slice a n c ∧ n ≤ c ∧ c ≤ 9223372036854775807 ∧ SlAt 3 FieldAt w a l ∧ (∀ x, a = some x → base ≤ x.block) := by
  subst hn
  obtain ⟨_, ⟨hv, h0⟩ | ⟨g, cap, cur, hv, hb, hg, hc1, hc2, hc3, hc4⟩⟩ := h
  · exact ⟨none, 0, by rw [hv, h0], by omega, by omega, fun h => by omega, fun x hx => by cases hx⟩
  · refine ⟨some ⟨g, 0, none⟩, cap, hv, hc1, by unfold maxLen at hc2; omega, fun _ => ⟨_, rfl, lt_of_heap hg, fun q hq => ?_⟩, fun x hx => by injection hx with hx; rw [← hx]; exact hb⟩
    have cell : ∀ j, j < l.length * 3 → w.cell? ⟨g, j, none⟩ = some (fval l j) := by
      intro j hj
      rw [cell_of_row _ _ _ _ _ _ hg]
      have := (fvals_get l j (fval l j)).2 ⟨hj, rfl⟩
      rw [← hc4, List.getElem?_take, if_pos hj] at this
      simpa using this
    obtain ⟨p0, p1, p2⟩ := fval_parts l q hq
    rw [add_zero_block]
    exact ⟨by rw [cell _ (by omega), p0], by show w.cell? ⟨g, q * 3 + 1, none⟩ = _; rw [cell _ (by omega), p1], by show w.cell? ⟨g, q * 3 + 2, none⟩ = _; rw [cell _ (by omega), p2], hs _ (List.getElem_mem _)⟩
theorem flds_names {w : World} {a : Option Addr} {l : List FieldV} (h : SlAt 3 FieldAt w a l) : ∀ y ∈ l, y.name.size ≤ 9223372036854775807 := by
  intro y hy
  obtain ⟨j, hj, rfl⟩ := List.mem_iff_getElem.1 hy
  obtain ⟨x, e, hx, hi⟩ := h (by omega)
  exact (hi j hj).2.2.2
end Go.Proofs.Ytncnbfefciobcaa
end
/- tourmake: Below, Stream.Next: which number comes is not told, only its bounds. -/
section
namespace Go.Proofs.Ytncnbfefciobcaa
open Go.ChangeShapes Go.WideShapes Go.ChangeAt Go.RowKit Go.Nm Go.Mem
set_option linter.unusedVariables false
theorem tm_Below (x n : Int) (h1 : 1 ≤ n) (h2 : n ≤ 9223372036854775807) (w : World) : Calls Try.prog 23 #[.int .i64 x, .int .i64 n] w fun e w' => (∃ r : Nat, e = .returned (.int .i64 r) ∧ (r : Int) < n) ∧ w' = w := by
  obtain ⟨t, ht⟩ : ∃ t, t = x.tmod n := ⟨_, rfl⟩
  have hb : -n < t ∧ t < n := by
    rw [ht]
    rcases Int.le_total 0 x with h | h
    · have := Int.tmod_nonneg n h; have := Int.tmod_lt_of_pos x (show 0 < n by omega); omega
    · have h3 := Int.lt_tmod_of_pos x (show 0 < n by omega); have := Int.tmod_lt_of_pos x (show 0 < n by omega); omega
  have ht' : x.tmod n = t := ht.symm
  have hn0 : n ≠ 0 := by omega
  have hnb : (n == 0) = false := by simp; omega
  by_cases hneg : t < 0
  · have wr : IntKind.i64.wrap (t + n) = t + n := by rw [IntKind.wrap_i64]; omega
    obtain ⟨r, hr⟩ : ∃ r : Nat, t + n = (r : Int) := ⟨(t + n).toNat, by omega⟩
    have hrn : (r : Int) < n := by omega
    rw [hr] at wr
    have wr2 : IntKind.i64.wrap (t + n) = (r : Int) := by rw [hr, wr]
    clear ht
    go_enter Try.func23, Try.ntmps23
    go_wp2_with fail
    go_ret
    exact ⟨⟨r, rfl, hrn⟩, rfl⟩
  · obtain ⟨r, hr⟩ : ∃ r : Nat, t = (r : Int) := ⟨t.toNat, by omega⟩
    subst hr
    have hrn : (r : Int) < n := by omega
    clear ht
    go_enter Try.func23, Try.ntmps23
    go_wp2_with fail
    go_ret
    exact ⟨⟨r, rfl, hrn⟩, rfl⟩
/-- a stream: the numbers that are left -/
def Strm (w : World) (g : Nat) : Prop := ∃ (a : Option Addr) (l : List Int) (c : Nat), w.heap[g]? = some (.cells #[.slice a l.length c] 65 (0, 0)) ∧ IntsAt .i64 w a l ∧ l.length ≤ c ∧ c ≤ 9223372036854775807 ∧ ∀ x, a = some x → x.block < g
theorem Strm.lt {w : World} {g : Nat} (h : Strm w g) : g < w.heap.size := by obtain ⟨a, l, c, h, _⟩ := h; exact lt_of_heap h
theorem Strm.below {w w' : World} {g : Nat} (h : Strm w g) (hb : Below w.heap.size w w') : Strm w' g := by
  obtain ⟨a, l, c, h1, h2, h3, h4, h5⟩ := h
  exact ⟨a, l, c, heap_below h1 hb, h2.below hb, h3, h4, h5⟩
/-- what a number of the stream has done -/
def NextPost (g : Nat) (n : Int) (w : World) (e : Ending) (w' : World) : Prop := (∃ r : Nat, e = .returned (.int .i64 r) ∧ (r : Int) < n) ∧ Strm w' g ∧ w.grownBy w' (some g) ∧ w'.heap.size = w.heap.size
theorem strm_cut {w : World} {g : Nat} {v0 : Value} (hr : w.heap[g]? = some (.cells #[v0] 65 (0, 0))) {a : Option Addr} {k c : Nat} {l : List Int} (hl : l.length = k) (hi : IntsAt .i64 w a l) (hc : k ≤ c) (hm : c ≤ 9223372036854775807) (hg : ∀ x, a = some x → x.block < g) :
    Strm (w.setCell ⟨g, 0, none⟩ (.slice a k c)) g ∧ w.grownBy (w.setCell ⟨g, 0, none⟩ (.slice a k c)) (some g) ∧ (w.setCell ⟨g, 0, none⟩ (.slice a k c)).heap.size = w.heap.size := by
  have hgb : w.grownBy (w.setCell ⟨g, 0, none⟩ (.slice a k c)) (some g) := ⟨rfl, rfl, rfl, by simp, fun q hq hne => Below.heap_setCell w ⟨g, 0, none⟩ _ q (fun e => hne (by rw [e]))⟩
  subst hl
  refine ⟨⟨a, l, c, heap_set hr 0 _, fun h0 => ?_, hc, hm, hg⟩, hgb, by simp⟩
  obtain ⟨y, hy, hb, hcell⟩ := hi h0
  exact ⟨y, hy, by simpa using hb, fun i hi' => World.grownBy.cell hgb (hcell i hi') (by
    rw [block_of_add]
    have := hg y hy
    intro e; injection e with e; omega)⟩
set_option maxHeartbeats 4000000 in
theorem tm_Next (g : Nat) (n : Int) (h1 : 1 ≤ n) (h2 : n ≤ 9223372036854775807) (w : World) (hs : Strm w g) : Calls Try.prog 21 #[.pointer (some ⟨g, 0, none⟩), .int .i64 n] w (NextPost g n w) := by
  have HS := Lib.hid hs
  obtain ⟨a, l, c, hr, hi, hc, hm, hg⟩ := hs
  have HR := Lib.hid hr
  have r0 := cell_of_row _ _ 0 _ _ _ hr
  obtain ⟨m, hml⟩ : ∃ m, m = l.length := ⟨_, rfl⟩
  rw [← hml] at r0 hc
  have hn1 : decide (n < 1) = false := by simp; omega
  have CB := Lib.hid (fun x w => tm_Below x n h1 h2 w)
  by_cases hm0 : m = 0
  · subst hm0
    clear hr hi hg hml
    go_enter Try.func21, Try.ntmps21
    go_wp2_with fail
    go_ret
    exact ⟨⟨0, rfl, by omega⟩, HS.out, World.grownBy.refl _ _, rfl⟩
  · obtain ⟨x, rfl, hx1, hx2⟩ := hi (by omega)
    have c0 := hx2 0 (by omega)
    rw [Addr.add_zero'] at c0
    have hcut := hi.cut 1 c (by omega)
    have hxg := hg x rfl
    have HC := Lib.hid hcut
    have HG := Lib.hid hxg
    have hb0 : ((m : Int) == 0) = false := by simp; omega
    have hmc : 1 ≤ m := by omega
    have hmc2 : 1 ≤ c := by omega
    obtain ⟨v, hv⟩ : ∃ v, v = l.getD 0 0 := ⟨_, rfl⟩
    rw [← hv] at c0
    have HML := Lib.hid hml
    have hz := Mem.frozen_of_row hr 0
    have HM := Lib.hid hm
    by_cases hc1 : c = 1
    · subst hc1
      obtain ⟨w1, hw1⟩ : ∃ w1, w1 = w.setCell ⟨g, 0, none⟩ (.slice (some x) 0 0) := ⟨_, rfl⟩
      have HE := Lib.hid (strm_cut hr (a := some x) (k := 0) (c := 0) (l := l.drop 1) (by rw [List.length_drop]; omega) (by rw [if_pos rfl] at hcut; exact hcut) (by omega) (by omega) (fun y hy => by injection hy with hy; rw [← hy]; exact hxg))
      rw [← hw1] at HE
      have HW := Lib.hid hw1
      clear hr hi hg hml hcut hx2 hv hm hw1
      go_enter Try.func21, Try.ntmps21
      go_wp2_with fail
      rw [← HW.out]
      refine (CB.out _ _).mono ?_
      rintro e w2 ⟨⟨r, rfl, hrn⟩, rfl⟩
      go_wp2_with fail
      go_ret
      exact ⟨⟨r, rfl, hrn⟩, HE.out⟩
    · obtain ⟨w1, hw1⟩ : ∃ w1, w1 = w.setCell ⟨g, 0, none⟩ (.slice (some ⟨x.block, x.off + 1, none⟩) (m - 1) (c - 1)) := ⟨_, rfl⟩
      have HE := Lib.hid (strm_cut hr (a := some ⟨x.block, x.off + 1, none⟩) (k := m - 1) (c := c - 1) (l := l.drop 1) (by rw [List.length_drop, hml]) (by rw [if_neg hc1] at hcut; simpa [Addr.add] using hcut) (by omega) (by omega) (fun y hy => by injection hy with hy; rw [← hy]; exact hxg))
      rw [← hw1] at HE
      have HW := Lib.hid hw1
      clear hr hi hg hml hcut hx2 hv hm hw1
      go_enter Try.func21, Try.ntmps21
      go_wp2_with fail
      rw [← HW.out]
      refine (CB.out _ _).mono ?_
      rintro e w2 ⟨⟨r, rfl, hrn⟩, rfl⟩
      go_wp2_with fail
      go_ret
      exact ⟨⟨r, rfl, hrn⟩, HE.out⟩
end Go.Proofs.Ytncnbfefciobcaa
end
/- What tourmake makes: plain. -/
section
namespace Go.Proofs.Ytncnbfefciobcaa
set_option linter.unusedVariables false
open Go.Nm
def kname : Nat → ByteArray
  | 0 => ⟨#[115, 112, 111, 116]⟩
  | 1 => ⟨#[108, 105, 102, 101]⟩
  | 2 => ⟨#[116, 101, 97, 109]⟩
  | _ => ⟨#[103, 111, 97, 108]⟩
def fname : Nat → ByteArray
  | 0 => ⟨#[120]⟩
  | 1 => ⟨#[121]⟩
  | _ => ⟨#[122]⟩
def FldOk (j : Nat) (f : FieldV) : Prop := f.name = fname j ∧ ((1 ≤ f.bits ∧ f.bits ≤ 9 ∧ -30 ≤ f.low ∧ f.low ≤ 9) ∨ (f.bits = 32 ∧ f.low = -2147483648))
def FldsOk (l : List FieldV) : Prop := l.length ≤ 3 ∧ ∀ j (h : j < l.length), FldOk j l[j]
def KndOk (i : Nat) (k : KindV) : Prop := k.name = kname i ∧ FldsOk k.fields
def KsOk (ks : List KindV) : Prop := ks.length ≤ 4 ∧ ∀ i (h : i < ks.length), KndOk i ks[i]
theorem kname_ne : ∀ i k : Fin 4, i.val < k.val → ((kname i.val).toList == (kname k.val).toList) = false := by decide +kernel
theorem fname_ne : ∀ i k : Fin 3, i.val < k.val → ((fname i.val).toList == (fname k.val).toList) = false := by decide +kernel
theorem kname_ok : ∀ i : Fin 4, nameB (kname i.val).data.toList = true := by decide +kernel
theorem fname_ok : ∀ i : Fin 3, nameB (fname i.val).data.toList = true := by decide +kernel
theorem kname_size : ∀ i : Fin 4, (kname i.val).size ≤ 9223372036854775807 := by decide +kernel
theorem fname_size : ∀ i : Fin 3, (fname i.val).size ≤ 9223372036854775807 := by decide +kernel
theorem FldOk.ok {j : Nat} {f : FieldV} (h : FldOk j f) (hj : j < 3) : okF f = true := by
  obtain ⟨h0, h1⟩ := h
  have hn := fname_ok ⟨j, hj⟩
  simp only at hn
  unfold okF
  rcases field_cases f.name f.bits f.low with ⟨h, _⟩ | ⟨_, h⟩
  · exact h
  · rw [h0, hn] at h
    exfalso
    simp only [Bool.true_eq_false, false_or, true_and] at h
    omega
theorem FldsOk.err {l : List FieldV} (h : FldsOk l) : ∀ m, m ≤ l.length → fldErr l m = 0 := by
  intro m
  induction m with
  | zero => intro _; rfl
  | succ m ih =>
    intro hm
    have hml : m < l.length := by omega
    have h3 := h.1
    have hok := (h.2 m hml).ok (by omega)
    have hd : dupAt (l.map (·.name)) m = false := by
      unfold dupAt
      rw [List.any_eq_false]
      intro s hs
      obtain ⟨i, hi, rfl⟩ := List.getElem_of_mem hs
      rw [List.length_take, List.length_map] at hi
      have hi2 : i < l.length := by omega
      rw [List.getElem_take, List.getElem_map, (h.2 i hi2).1, List.getD_eq_getElem?_getD, List.getElem?_map, List.getElem?_eq_getElem hml]
      show ¬ ((fname i).toList == (l[m].name).toList) = true
      rw [(h.2 m hml).1]
      have := fname_ne ⟨i, by omega⟩ ⟨m, by omega⟩ (by show i < m; omega)
      simp only at this
      rw [this]; simp
    have hg : l.getD m default = l[m] := by rw [List.getD_eq_getElem?_getD, List.getElem?_eq_getElem hml]; rfl
    unfold fldErr
    rw [if_neg (by rw [ih (by omega)]; simp), hg, hok, if_neg (by simp), hd, if_neg (by simp)]
theorem KndOk.err {i : Nat} {k : KindV} (h : KndOk i k) (hi : i < 4) : kindE k = 0 := by
  have hn := kname_ok ⟨i, hi⟩
  simp only at hn
  have h3 := h.2.1
  unfold kindE
  rw [h.1, hn, if_neg (by simp), if_neg (by omega)]
  exact h.2.err _ (Nat.le_refl _)
theorem KsOk.err {ks : List KindV} (h : KsOk ks) : kindsE ks = 0 := by
  have h4 := h.1
  have key : ∀ m, m ≤ ks.length → kndErr ks m = 0 := by
    intro m
    induction m with
    | zero => intro _; rfl
    | succ m ih =>
      intro hm
      have hml : m < ks.length := by omega
      have hk := (h.2 m hml).err (by omega)
      have hd : dupAt (ks.map (·.name)) m = false := by
        unfold dupAt
        rw [List.any_eq_false]
        intro s hs
        obtain ⟨i, hi, rfl⟩ := List.getElem_of_mem hs
        rw [List.length_take, List.length_map] at hi
        have hi2 : i < ks.length := by omega
        rw [List.getElem_take, List.getElem_map, (h.2 i hi2).1, List.getD_eq_getElem?_getD, List.getElem?_map, List.getElem?_eq_getElem hml]
        show ¬ ((kname i).toList == (ks[m].name).toList) = true
        rw [(h.2 m hml).1]
        have := kname_ne ⟨i, by omega⟩ ⟨m, by omega⟩ (by show i < m; omega)
        simp only at this
        rw [this]; simp
      have hg : ks.getD m default = ks[m] := by rw [List.getD_eq_getElem?_getD, List.getElem?_eq_getElem hml]; rfl
      unfold kndErr
      rw [if_neg (by rw [ih (by omega)]; simp), hg, hk, if_neg (by simp), hd, if_neg (by simp)]
  unfold kindsE
  rw [if_neg (by omega)]
  exact key _ (Nat.le_refl _)
theorem FldsOk.snoc {l : List FieldV} {f : FieldV} (h : FldsOk l) (hl : l.length < 3) (hf : FldOk l.length f) : FldsOk (l ++ [f]) := by
  refine ⟨by rw [List.length_append, List.length_singleton]; omega, fun j hj => ?_⟩
  by_cases hjl : j < l.length
  · rw [List.getElem_append_left hjl]; exact h.2 j hjl
  · have e : j = l.length := by rw [List.length_append, List.length_singleton] at hj; omega
    subst e
    rw [List.getElem_append_right (Nat.le_refl _)]
    simpa using hf
theorem KsOk.snoc {l : List KindV} {k : KindV} (h : KsOk l) (hl : l.length < 4) (hk : KndOk l.length k) : KsOk (l ++ [k]) := by
  refine ⟨by rw [List.length_append, List.length_singleton]; omega, fun j hj => ?_⟩
  by_cases hjl : j < l.length
  · rw [List.getElem_append_left hjl]; exact h.2 j hjl
  · have e : j = l.length := by rw [List.length_append, List.length_singleton] at hj; omega
    subst e
    rw [List.getElem_append_right (Nat.le_refl _)]
    simpa using hk
end Go.Proofs.Ytncnbfefciobcaa
end
/- A region that draws its order, walked by an invariant: one obligation for each operation, whatever was done before it. No program is named here. -/
section
namespace Go.Mem
open Go.Proofs

/-- The frame, with what the region's operations have left in their slots. -/
def fillAll (a0 : Act) : List Oper → List Value → Act
  | o :: os, v :: vs => (fillAll a0 os vs).put o.dst v
  | _, _ => a0

/-- What a slot holds in such a frame. -/
def look (a0 : Act) (t : Nat) : List Oper → List Value → Value
  | o :: os, v :: vs => if o.dst = some t ∧ t < a0.tmps.size then v else look a0 t os vs
  | _, _ => a0.eval (.tmp t)
theorem fillAll_size (a0 : Act) : ∀ (ops : List Oper) (vs : List Value), (fillAll a0 ops vs).tmps.size = a0.tmps.size
  | [], _ => rfl
  | _ :: _, [] => rfl
  | o :: os, v :: vs => by
    show ((fillAll a0 os vs).put o.dst v).tmps.size = _
    cases h : o.dst with
    | none => exact fillAll_size a0 os vs
    | some d => simp [Act.put, fillAll_size a0 os vs]
theorem fillAll_defers (a0 : Act) : ∀ (ops : List Oper) (vs : List Value), (fillAll a0 ops vs).defers = a0.defers
  | [], _ => rfl
  | _ :: _, [] => rfl
  | o :: os, v :: vs => by
    show ((fillAll a0 os vs).put o.dst v).defers = _
    cases h : o.dst with
    | none => exact fillAll_defers a0 os vs
    | some d => simp [Act.put, fillAll_defers a0 os vs]
theorem eval_fill (a0 : Act) (t : Nat) : ∀ (ops : List Oper) (vs : List Value), (fillAll a0 ops vs).eval (.tmp t) = look a0 t ops vs
  | [], _ => rfl
  | _ :: _, [] => rfl
  | o :: os, v :: vs => by
    show ((fillAll a0 os vs).put o.dst v).eval (.tmp t) = _
    unfold look
    rw [← eval_fill a0 t os vs]
    cases h : o.dst with
    | none => simp [Act.put]
    | some d =>
      have hs := fillAll_size a0 os vs
      by_cases e : d = t
      · subst e
        by_cases hlt : d < a0.tmps.size
        · simp [Act.put, Act.eval, Array.getD_eq_getD_getElem?, hlt, hs]
        · simp [Act.put, Act.eval, Array.getD_eq_getD_getElem?, hlt, hs]
      · simp [Act.put, Act.eval, Array.getD_eq_getD_getElem?, e]
theorem put_put_same (a : Act) (d : Option Tmp) (u v : Value) : (a.put d u).put d v = a.put d v := by
  cases d with
  | none => rfl
  | some d => simp [Act.put]
theorem put_put_comm (a : Act) (d e : Option Tmp) (u v : Value) (h : d = none ∨ e = none ∨ d ≠ e) : (a.put d u).put e v = (a.put e v).put d u := by
  cases d with
  | none => rfl
  | some d =>
    cases e with
    | none => rfl
    | some e =>
      have hne : d ≠ e := by rcases h with h | h | h; cases h; cases h; exact fun x => h (by rw [x])
      simp only [Act.put, Array.setIfInBounds_comm u v hne]
def distinctB : List Oper → Bool
  | [] => true
  | o :: r => r.all (fun x => x.dst == none || o.dst == none || x.dst != o.dst) && distinctB r
theorem fillAll_set (a0 : Act) : ∀ (ops : List Oper) (vs : List Value) (i : Nat) (o : Oper) (v : Value), distinctB ops = true → ops[i]? = some o → i < vs.length → (fillAll a0 ops vs).put o.dst v = fillAll a0 ops (vs.set i v)
  | [], _, i, o, v, _, h, _ => by simp at h
  | x :: os, [], i, o, v, _, _, h => by simp at h
  | x :: os, u :: vs, 0, o, v, _, h, _ => by
    simp at h; subst h
    exact put_put_same _ _ _ _
  | x :: os, u :: vs, i + 1, o, v, hd, h, hl => by
    simp only [distinctB, Bool.and_eq_true] at hd
    have ho : os[i]? = some o := by simpa using h
    have := List.all_eq_true.1 hd.1 o (List.mem_of_getElem? ho)
    show ((fillAll a0 os vs).put x.dst u).put o.dst v = (fillAll a0 os (vs.set i v)).put x.dst u
    rw [put_put_comm, fillAll_set a0 os vs i o v hd.2 ho (by simpa using hl)]
    simp only [Bool.or_eq_true, beq_iff_eq, bne_iff_ne] at this
    rcases this with (h' | h') | h'
    · exact Or.inr (Or.inl h')
    · exact Or.inl h'
    · exact Or.inr (Or.inr (fun e => h' e.symm))
/-- A region's values: what is known of operation j's value once it is done; it must last while memory grows. -/
structure Facts (Fact : Nat → Value → World → Prop) : Prop where
  mono : ∀ j v w w', Fact j v w → RowKit.Below w.heap.size w w' → Fact j v w'

section
variable (P : Program) (ops : List Oper) (Q : Exit → Act → World → Prop) (a0 : Act) (W0 : World) (Fact : Nat → Value → World → Prop)

/-- What stands behind operation i. -/
def QOne (w : World) (i : Nat) (o : Oper) (F : Act) : Exit → Act → World → Prop
  | .normal, a, w' => ∃ v : Value, a = F.put o.dst v ∧ RowKit.Below w.heap.size w w' ∧ Fact i v w'
  | e, a, w => Q e a w

/-- What is owed for operation i. -/
def OblOne (i : Nat) (o : Oper) : Prop := ∀ (vs : List Value) (w : World) (F : Act), RowKit.Below W0.heap.size W0 w → (∀ e ∈ o.after, Region.binds .any e = true → Fact e.on (vs.getD e.on undef) w) → (∀ t, F.eval (.tmp t) = look a0 t ops vs) → vs.length = ops.length → wpList P ops.toArray (QOne Q Fact w i o F) [o] F w
def Obl : List Oper → Nat → Prop
  | [], _ => True
  | o :: r, i => OblOne P ops Q a0 W0 Fact i o ∧ Obl r (i + 1)
end

theorem Obl.get {P : Program} {ops : List Oper} {Q : Exit → Act → World → Prop} {a0 : Act} {W0 : World} {Fact : Nat → Value → World → Prop} : ∀ {l : List Oper} {k : Nat}, Obl P ops Q a0 W0 Fact l k → ∀ {i : Nat} {o : Oper}, l[i]? = some o → OblOne P ops Q a0 W0 Fact (k + i) o
  | [], _, _, i, o, h => by simp at h
  | x :: r, k, H, 0, o, h => by simp at h; subst h; exact H.1
  | x :: r, k, H, i + 1, o, h => by
    have := H.2.get (i := i) (o := o) (by simpa using h)
    rwa [show k + 1 + i = k + (i + 1) by omega] at this

def acyclicB (ops : List Oper) : Bool := (ops.zipIdx).all fun x => x.1.after.all fun e => !Region.binds .any e || decide (e.on < x.2)

def unl (l : List Bool) : Nat := (l.filter (!·)).length
theorem unl_set : ∀ (l : List Bool) (i : Nat), l[i]? = some false → unl (l.set i true) + 1 = unl l
  | [], i, h => by simp at h
  | b :: r, 0, h => by simp at h; subst h; simp [unl]
  | b :: r, i + 1, h => by
    have := unl_set r i (by simpa using h)
    unfold unl at *
    cases b <;> simp at * <;> omega
theorem unl_zero {l : List Bool} (h : unl l = 0) : ∀ b ∈ l, b = true := by
  intro b hb
  unfold unl at h
  have := List.length_eq_zero_iff.1 h
  rw [List.filter_eq_nil_iff] at this
  have := this b hb
  simpa using this
theorem first_false : ∀ (l : List Bool), 0 < unl l → ∃ i : Nat, l[i]? = some false ∧ ∀ j : Nat, j < i → l[j]? = some true
  | [], h => by simp [unl] at h
  | false :: r, _ => ⟨0, rfl, fun j hj => by omega⟩
  | true :: r, h => by
    obtain ⟨i, h1, h2⟩ := first_false r (by simpa [unl] using h)
    refine ⟨i + 1, by simpa using h1, fun j hj => ?_⟩
    cases j with
    | zero => rfl
    | succ j => simpa using h2 j (by omega)

/-- What the slots hold before the region runs. -/
def origs (a0 : Act) (ops : List Oper) : List Value := ops.map fun o => match o.dst with | some d => a0.tmps.getD d undef | none => undef
theorem put_self (a : Act) (d : Tmp) : a.put (some d) (a.tmps.getD d undef) = a := by
  cases a with
  | mk tmps defers =>
    simp only [Act.put]
    congr 1
    apply Array.ext_getElem?
    intro i
    rw [Array.getElem?_setIfInBounds]
    by_cases e : d = i
    · subst e
      by_cases h : d < tmps.size <;> simp [h]
    · simp [e]
theorem fillAll_origs (a0 : Act) : ∀ ops : List Oper, fillAll a0 ops (origs a0 ops) = a0
  | [] => rfl
  | o :: os => by
    show (fillAll a0 os (origs a0 os)).put o.dst _ = a0
    rw [fillAll_origs a0 os]
    rcases o with ⟨dst, op, gd, af⟩
    cases dst with
    | none => rfl
    | some d => exact put_self a0 d

/-- Each operation from n on waits for all that stand before it. -/
def tailB (ops : List Oper) (n : Nat) : Bool := (ops.zipIdx).all fun x => decide (x.2 < n) || (List.range x.2).all fun i => x.1.after.any fun e => Region.binds .any e && e.on == i
def headTail (n m : Nat) : Array Bool := (List.replicate n true ++ List.replicate m false).toArray

theorem wp_region_facts {P : Program} {id : Nat} {ops : List Oper} {Q : Exit → Act → World → Prop} {a0 : Act} {w0 : World} (hm : P.follows .mixedOrders = true) (n : Nat)
    (hac : (acyclicB ops && distinctB ops && tailB ops n && Region.seqB .any ops.toArray (ops.drop n).length n (headTail n (ops.length - n)) && decide (n ≤ ops.length)) = true)
    (Fact : Nat → Value → World → Prop) (hF : Facts Fact)
    (hstep : Obl P ops Q a0 w0 Fact (ops.take n) 0)
    (hend : ∀ (vs : List Value) (w : World), vs.length = ops.length → RowKit.Below w0.heap.size w0 w → (∀ j, j < n → Fact j (vs.getD j undef) w) → wpList P ops.toArray Q (ops.drop n) (fillAll a0 ops vs) w) :
    (Code.region id ops.toArray true).wp P Q a0 w0 := by
  simp only [Bool.and_eq_true, decide_eq_true_eq] at hac
  obtain ⟨⟨⟨⟨hac, hdis⟩, htl⟩, hseq⟩, hn⟩ := hac
  refine wp_region_any hm ?_
  have key : ∀ (fuel : Nat) (listed : Array Bool) (vs : List Value) (w : World), listed.size = ops.length → vs.length = ops.length → unl listed.toList = fuel → (∀ t, n ≤ t → t < ops.length → listed.getD t true = false) →
      RowKit.Below w0.heap.size w0 w → (∀ j, j < ops.length → listed.getD j true = true → Fact j (vs.getD j undef) w) → wpAny P .any ops.toArray Q fuel listed (fillAll a0 ops vs) w := by
    intro fuel
    induction fuel with
    | zero =>
      intro listed vs w hs hvl hu ht hb hI
      have hall : ∀ j, listed.getD j true = true := by
        intro j
        by_cases hj : j < listed.size
        · exact unl_zero hu (listed.getD j true) (by simp [hj])
        · simp [hj]
      have hno : n = ops.length := by
        rcases Nat.lt_or_ge n ops.length with h | h
        · have h1 := ht n (Nat.le_refl _) h; rw [hall n] at h1; cases h1
        · omega
      have hd : ops.drop n = [] := by rw [hno]; simp
      have := hend vs w hvl hb (fun j hj => hI j (by omega) (hall j))
      rw [hd] at this
      refine ⟨?_, this⟩
      unfold Region.ready
      rw [List.filter_eq_nil_iff]
      intro i hi
      simp [hall i]
    | succ fuel ih =>
      intro listed vs w hs hvl hu ht hb hI
      by_cases hpre : ∀ j, j < n → listed.getD j true = true
      · -- the head is done: the tail, in its one order
        have hL : listed = headTail n (ops.length - n) := by
          unfold headTail
          apply Array.ext
          · simp; omega
          · intro i h1 h2
            have e : listed[i] = listed.getD i true := by simp [h1]
            rw [e]
            by_cases hi : i < n
            · rw [hpre i hi]; simp [hi]
            · rw [ht i (by omega) (by omega)]; simp [List.getElem_append, hi]
        have hf : fuel + 1 = (ops.drop n).length := by
          rw [← hu, hL]; simp [headTail, unl]
        rw [hf]
        refine wpAny_of_seq (ops.drop n) n listed _ w (fun j => by simp [List.getElem?_drop]) (by rw [hL]; exact hseq) ?_
        exact hend vs w hvl hb (fun j hj => hI j (by omega) (hpre j hj))
      · constructor
        · intro hr
          exfalso
          obtain ⟨i, h1, h2⟩ := first_false listed.toList (by omega)
          have hi : i < listed.size := by
            have := (List.getElem?_eq_some_iff.1 h1).1; simpa using this
          have hio : i < ops.length := by omega
          have hmem : i ∈ Region.ready .any ops.toArray listed := by
            unfold Region.ready
            rw [List.mem_filter]
            refine ⟨by simp; omega, ?_⟩
            have hl : listed.getD i true = false := by simp [Array.getD_eq_getD_getElem?, ← Array.getElem?_toList, h1]
            rw [hl]
            have ho : ops.toArray[i]? = some ops[i] := by simp [hio]
            rw [ho]
            simp only [Option.map_some, Option.getD_some, Bool.not_false, Bool.true_and, Array.all_eq_true_iff_forall_mem]
            intro e he
            unfold acyclicB at hac
            have := List.all_eq_true.1 hac (ops[i], i) (by rw [List.mem_zipIdx_iff_getElem?]; simp [hio])
            have := (Array.all_eq_true_iff_forall_mem.1 this) e he
            simp only [Bool.or_eq_true, Bool.not_eq_true', decide_eq_true_eq] at this ⊢
            rcases this with h | h
            · exact Or.inl h
            · right
              have := h2 e.on h
              simp [Array.getD_eq_getD_getElem?, ← Array.getElem?_toList, this]
          rw [hr] at hmem
          cases hmem
        · intro i hi
          unfold Region.ready at hi
          rw [List.mem_filter] at hi
          obtain ⟨hir, hi⟩ := hi
          have hio : i < ops.length := by simpa using hir
          have hoA : ops.toArray[i]? = some ops[i] := by simp [hio]
          rw [hoA] at hi
          simp only [Option.map_some, Option.getD_some, Bool.and_eq_true, Bool.not_eq_true', Array.all_eq_true_iff_forall_mem] at hi
          obtain ⟨hl, hdep⟩ := hi
          have hdep' : ∀ e ∈ (ops[i]).after, Region.binds .any e = true → e.on < listed.size ∧ listed.getD e.on true = true := by
            intro e he hbd
            have := hdep e he
            rw [hbd] at this
            simp only [Bool.not_true, Bool.false_or] at this
            by_cases hb : e.on < listed.size
            · exact ⟨hb, by simpa [hb] using this⟩
            · simp [hb] at this
          have hin : i < n := by
            rcases Nat.lt_or_ge i n with h | h
            · exact h
            · exfalso
              apply hpre
              intro j hj
              unfold tailB at htl
              have := List.all_eq_true.1 htl (ops[i], i) (by rw [List.mem_zipIdx_iff_getElem?]; simp [hio])
              simp only [Bool.or_eq_true, decide_eq_true_eq] at this
              rcases this with h' | h'
              · omega
              · have := List.all_eq_true.1 h' j (by simp; omega)
                obtain ⟨e, he, hbe⟩ := Array.any_eq_true'.1 this
                simp only [Bool.and_eq_true, beq_iff_eq] at hbe
                have := (hdep' e he hbe.1).2
                rwa [hbe.2] at this
          have ho : ops[i]? = some ops[i] := by simp [hio]
          have hot : (ops.take n)[i]? = some ops[i] := by rw [List.getElem?_take, if_pos hin]; exact ho
          have hl' : listed.toList[i]? = some false := by
            have hlt : i < listed.size := by omega
            have : listed.getD i true = listed[i] := by simp [hlt]
            rw [this] at hl
            rw [Array.getElem?_toList, Array.getElem?_eq_getElem hlt, hl]
          have hstep' := hstep.get hot
          rw [Nat.zero_add] at hstep'
          have H := hstep' vs w (fillAll a0 ops vs) hb (fun e he hbd => hI e.on (by have := (hdep' e he hbd).1; omega) (hdep' e he hbd).2) (fun t => eval_fill a0 t ops vs) hvl
          have hnext : ∀ (a' : Act) (w' : World), QOne Q Fact w i ops[i] (fillAll a0 ops vs) .normal a' w' → wpAny P .any ops.toArray Q fuel (listed.setIfInBounds i true) a' w' := by
            rintro a' w' ⟨v, rfl, hb', hv⟩
            rw [fillAll_set a0 ops vs i ops[i] v hdis ho (by omega)]
            refine ih _ (vs.set i v) w' (by simpa using hs) (by simpa using hvl) ?_ ?_ (hb.trans (hb'.mono hb.size)) ?_
            · have := unl_set listed.toList i hl'
              rw [Array.toList_setIfInBounds]; omega
            · intro t h1 h2
              rw [Array.getD_eq_getD_getElem?, Array.getElem?_setIfInBounds, if_neg (by omega), ← Array.getD_eq_getD_getElem?]
              exact ht t h1 h2
            · intro j hj hlj
              by_cases e : j = i
              · subst e
                rw [List.getD_eq_getElem?_getD, List.getElem?_set_self (by omega)]
                exact hv
              · rw [List.getD_eq_getElem?_getD, List.getElem?_set_ne (by omega), ← List.getD_eq_getElem?_getD]
                refine hF.mono _ _ _ _ (hI j hj ?_) hb'
                rwa [Array.getD_eq_getD_getElem?, Array.getElem?_setIfInBounds, if_neg (by omega), ← Array.getD_eq_getD_getElem?] at hlj
          unfold wpOp
          rw [hoA]
          simp only
          unfold wpList at H
          split
          · rename_i hw
            rw [if_pos hw] at H
            have conv : ∀ {K : Act → World → Prop}, (ops[i]).wp P (fillAll a0 ops vs) w K (QOne Q Fact w i ops[i] (fillAll a0 ops vs)) → (ops[i]).wp P (fillAll a0 ops vs) w K Q := by
              intro K hh
              unfold Oper.wp at *
              generalize (execOp (fillAll a0 ops vs).eval ops[i]).run P w = r at *
              cases r with
              | ok n w' =>
                cases n <;> simp only [Oper.upon] at hh ⊢ <;>
                  first
                    | exact hh
                    | (refine Calls.mono hh (fun e w'' he => ?_)
                       cases e with
                       | returned v => exact he
                       | panicked c => exact he
                       | outgrown =>
                         obtain ⟨a1, w1, hq⟩ := he
                         exact ⟨a1, w1, hq⟩)
              | halt x w' => cases x <;> simp only [Oper.upon] at hh ⊢ <;> exact hh
            rcases H with H | ⟨hasks, a1, w1, hq⟩
            · left
              refine conv (Oper.wp_mono (fun a w h => ?_) H)
              exact hnext _ _ h
            · right
              exact ⟨hasks, a1, w1, hq⟩
          · rename_i hw
            rw [if_neg hw] at H
            exact hnext _ _ H
  have hrep : unl (Array.replicate ops.toArray.size false).toList = ops.toArray.size := by
    simp [unl]
  have := key ops.toArray.size (Array.replicate ops.toArray.size false) (origs a0 ops) w0.drew (by simp) (by simp [origs]) hrep (fun t h1 h2 => by simp [h2]) (RowKit.Below.refl _ _).drew (fun j hj h => by simp [hj] at h)
  rwa [fillAll_origs] at this

/-- What an operation that this one waits for has left. -/
theorem dep_of {Fact : Nat → Value → World → Prop} {vs : List Value} {w : World} {o : Oper} (hd : ∀ e ∈ o.after, Region.binds .any e = true → Fact e.on (vs.getD e.on undef) w) (j : Nat)
    (h : (o.after.any fun e => Region.binds .any e && e.on == j) = true) : Fact j (vs.getD j undef) w := by
  obtain ⟨e, he, hb⟩ := Array.any_eq_true'.1 h
  simp only [Bool.and_eq_true, beq_iff_eq] at hb
  have := hd e he hb.1
  rwa [hb.2] at this
theorem look_out (a0 : Act) (t : Nat) : ∀ (ops : List Oper) (vs : List Value), (ops.all fun o => o.dst != some t) = true → look a0 t ops vs = a0.eval (.tmp t)
  | [], _, _ => rfl
  | _ :: _, [], _ => rfl
  | o :: os, v :: vs, h => by
    simp only [List.all_cons, Bool.and_eq_true, bne_iff_ne] at h
    unfold look
    rw [if_neg (fun hh => h.1 hh.1), look_out a0 t os vs h.2]
theorem look_at (a0 : Act) (t : Nat) : ∀ (j : Nat) (ops : List Oper) (vs : List Value), ((ops[j]?).map (·.dst) == some (some t) && decide (t < a0.tmps.size)) = true → ((ops.take j).all fun o => o.dst != some t) = true → vs.length = ops.length → look a0 t ops vs = vs.getD j undef
  | j, [], _, h, _, _ => by simp at h
  | j, _ :: _, [], _, _, h => by simp at h
  | 0, o :: os, v :: vs, h, _, _ => by
    simp only [List.getElem?_cons_zero, Option.map_some, Bool.and_eq_true, beq_iff_eq, decide_eq_true_eq, Option.some.injEq] at h
    unfold look
    rw [if_pos h]; rfl
  | j + 1, o :: os, v :: vs, h, h2, hl => by
    simp only [List.take_succ_cons, List.all_cons, Bool.and_eq_true, bne_iff_ne] at h2
    unfold look
    rw [if_neg (fun hh => h2.1 hh.1), look_at a0 t j os vs (by simpa using h) (by simpa using h2.2) (by simpa using hl)]
    simp
theorem list9 {vs : List Value} (h : vs.length = 9) : ∃ a b c d e f g i j, vs = [a, b, c, d, e, f, g, i, j] := by
  match vs, h with
  | [a, b, c, d, e, f, g, i, j], _ => exact ⟨a, b, c, d, e, f, g, i, j, rfl⟩
theorem eval2 {F : Act} {x y : Operand} {u v : Value} (hx : F.eval x = u) (hy : F.eval y = v) : #[x, y].map F.eval = #[u, v] := by simp [hx, hy]
theorem eval3 {F : Act} {x y z : Operand} {u v t : Value} (hx : F.eval x = u) (hy : F.eval y = v) (hz : F.eval z = t) : #[x, y, z].map F.eval = #[u, v, t] := by simp [hx, hy, hz]
theorem eval1 {F : Act} {x : Operand} {u : Value} (hx : F.eval x = u) : #[x].map F.eval = #[u] := by simp [hx]

/-! The operations, one by one, in whatever frame. -/
section
variable {P : Program} {ops : Array Oper} {o : Oper} {F : Act} {w : World} {Q : Exit → Act → World → Prop}
theorem one_call {f : FuncId} (args : Array Operand) (T : Array TypeId) (hgd : o.guard = none) (ho : o.op = .call { callee := .value (.func f), args := args, argTypes := T }) (hE : ∀ (args : Array Value) (w : World), (callFunc f args).run P w = .ok (.enter f args) w)
    (vals : Array Value) (hv : args.map F.eval = vals) (h : Calls P f vals w fun e w' => ∃ v, e = .returned v ∧ Q .normal (F.put o.dst v) w') : wpList P ops Q [o] F w := by
  refine wpList_plain hgd fun K hK => ?_
  unfold Oper.wp execOp
  simp [ho, resolve, Deferred.ofValue, invoke, hv, Act.eval, hE, Oper.upon]
  exact h.mono (fun e w' ⟨v, he, hq⟩ => by subst he; exact hK _ _ hq)

theorem one_load0 (ty : TypeId) (x : Operand) (hgd : o.guard = none) (ho : o.op = .load ty x) (ad : Addr) (v : Value) (hx : F.eval x = .pointer (some ad)) (hc : w.cell? ad = some v)
    (d : TypeDesc) (hu : P.underlying ty = some d) (hd : (match d with | .struct _ | .array _ _ => true | _ => false) = false) (h : Q .normal (F.put o.dst v) w) : wpList P ops Q [o] F w := by
  refine wpList_plain hgd fun K hK => ?_
  unfold Oper.wp execOp
  simp [ho, hx, Instr.loadAt, Instr.sureAddr, loadVar, run_isAgg_plain hu hd, hc, Oper.upon]
  exact hK _ _ h

theorem one_load (ty : TypeId) (x : Operand) (hgd : o.guard = none) (ho : o.op = .load ty x) (ad : Addr) (v : Value) (hx : F.eval x = .pointer (some ad)) (hc : w.cell? ad = some v)
    (hu : (P.underlying ty).map (fun d => match d with | .struct _ | .array _ _ => true | _ => false) = some false) (h : Q .normal (F.put o.dst v) w) : wpList P ops Q [o] F w := by
  obtain ⟨d, hd, he⟩ := Option.map_eq_some_iff.1 hu
  exact one_load0 ty x hgd ho ad v hx hc d hd (by cases d <;> first | rfl | simp at he) h

theorem one_alloc (e : TypeId) (hgd : o.guard = none) (ho : o.op = .alloc e) (z : Value) (hz : (P.info? e).map (fun i => (i.zero, i.size)) = some (some z, 1)) (hc : z.cells = #[z])
    (h : Q .normal (F.put o.dst (.pointer (some ⟨w.heap.size, 0, none⟩))) (w.alloc (.cells #[z] e))) : wpList P ops Q [o] F w := by
  refine wpList_plain hgd fun K hK => ?_
  obtain ⟨i, hi, hzz⟩ := Option.map_eq_some_iff.1 hz
  simp only [Prod.mk.injEq] at hzz
  unfold Oper.wp execOp
  simp [ho, Instr.alloc, zeroValue, typeInfo, hi, hzz.1, newVar, hc, Oper.upon]
  exact hK _ _ h

theorem one_field (ty : TypeId) (x : Operand) (k : Nat) (hgd : o.guard = none) (ho : o.op = .fieldAddr ty x k) (B i : Nat) (hx : F.eval x = .pointer (some ⟨B, i, none⟩)) (n : Nat)
    (hi : ∀ w : World, (Instr.fieldAt ty (.pointer (some ⟨B, i, none⟩)) k).run P w = .ok (.pointer (some ⟨B, n, none⟩)) w) (h : Q .normal (F.put o.dst (.pointer (some ⟨B, n, none⟩))) w) : wpList P ops Q [o] F w := by
  refine wpList_plain hgd fun K hK => ?_
  unfold Oper.wp execOp
  simp [ho, hx, hi, Oper.upon]
  exact hK _ _ h

theorem one_build (ty : TypeId) (parts : Array (Nat × Operand)) (hgd : o.guard = none) (ho : o.op = .build ty parts) (vals : Array (Nat × Value)) (hx : parts.map (fun p => (p.1, F.eval p.2)) = vals) (v : Value)
    (hi : ∀ w : World, (Instr.build ty vals).run P w = .ok v w) (h : Q .normal (F.put o.dst v) w) : wpList P ops Q [o] F w := by
  refine wpList_plain hgd fun K hK => ?_
  unfold Oper.wp execOp
  have hx' : parts.map (fun x => match x with | (i, x) => (i, F.eval x)) = vals := hx
  simp [ho, hx', hi, Oper.upon]
  exact hK _ _ h
theorem parts2 {F : Act} {i j : Nat} {x y : Operand} {u v : Value} (hx : F.eval x = u) (hy : F.eval y = v) : #[(i, x), (j, y)].map (fun p => (p.1, F.eval p.2)) = #[(i, u), (j, v)] := by simp [hx, hy]
theorem parts4 {F : Act} {i j k l : Nat} {x y z t : Operand} {u v p q : Value} (hx : F.eval x = u) (hy : F.eval y = v) (hz : F.eval z = p) (ht : F.eval t = q) : #[(i, x), (j, y), (k, z), (l, t)].map (fun p => (p.1, F.eval p.2)) = #[(i, u), (j, v), (k, p), (l, q)] := by simp [hx, hy, hz, ht]

theorem one_binop (b : BinOp) (ty : TypeId) (x y : Operand) (yt : TypeId) (hgd : o.guard = none) (ho : o.op = .binOp b ty x y yt) (u v : Value) (hx : F.eval x = u) (hy : F.eval y = v) (r : Value)
    (hr : (eqGuard b ty x y u v).run P w = .ok () w) (hi : (binOp b ty u v).run P w = .ok r w) (h : Q .normal (F.put o.dst r) w) : wpList P ops Q [o] F w := by
  refine wpList_plain hgd fun K hK => ?_
  unfold Oper.wp execOp
  simp [ho, hx, hy, hr, hi, Oper.upon]
  exact hK _ _ h
theorem one_load_row (ty : TypeId) (x : Operand) (hgd : o.guard = none) (ho : o.op = .load ty x) (g : Nat) (cs : Array Value) (t : TypeId) (fr : Nat × Nat) (hx : F.eval x = .pointer (some ⟨g, 0, none⟩)) (hg : w.heap[g]? = some (.cells cs t fr))
    (d : TypeDesc) (hu : P.underlying ty = some d) (hd : (match d with | .struct _ | .array _ _ => true | _ => false) = true) (hs : (P.info? ty).map (·.size) = some cs.size) (h : Q .normal (F.put o.dst (.agg cs)) w) : wpList P ops Q [o] F w := by
  refine wpList_plain hgd fun K hK => ?_
  unfold Oper.wp execOp
  simp [ho, hx, Instr.loadAt, Instr.sureAddr, run_loadVar_row w g t ty cs fr d hg hu hd hs, Oper.upon]
  exact hK _ _ h
theorem one_alloc_agg (e : TypeId) (hgd : o.guard = none) (ho : o.op = .alloc e) (z : Value) (cs : Array Value) (hz : (P.info? e).map (fun i => i.zero) = some (some z)) (hc : z.cells = cs)
    (h : Q .normal (F.put o.dst (.pointer (some ⟨w.heap.size, 0, none⟩))) (w.alloc (.cells cs e))) : wpList P ops Q [o] F w := by
  refine wpList_plain hgd fun K hK => ?_
  obtain ⟨i, hi, hzz⟩ := Option.map_eq_some_iff.1 hz
  unfold Oper.wp execOp
  simp [ho, Instr.alloc, zeroValue, typeInfo, hi, hzz, newVar, hc, Oper.upon]
  exact hK _ _ h
theorem one_move (x : Operand) (hgd : o.guard = none) (ho : o.op = .move x ∨ o.op = .assign x) (h : Q .normal (F.put o.dst (F.eval x)) w) : wpList P ops Q [o] F w := by
  refine wpList_plain hgd fun K hK => ?_
  unfold Oper.wp execOp
  rcases ho with ho | ho <;> (simp [ho, Oper.upon]; exact hK _ _ h)
end
/-- A variable of the region's own: a row of its own block. -/
def NewRow (B : Nat) (t : TypeId) (cs : Array Value) (v : Value) (w : World) : Prop := ∃ X, v = .pointer (some ⟨X, 0, none⟩) ∧ B ≤ X ∧ X < w.heap.size ∧ w.heap[X]? = some (.cells cs t (0, 0))
theorem NewRow.mono {B : Nat} {t : TypeId} {cs : Array Value} {w w' : World} {v : Value} (h : NewRow B t cs v w) (hb : RowKit.Below w.heap.size w w') : NewRow B t cs v w' := by
  obtain ⟨X, h1, h2, h3, h4⟩ := h
  exact ⟨X, h1, h2, Nat.lt_of_lt_of_le h3 hb.size, (hb.block X h3).trans h4⟩
end Go.Mem
end
