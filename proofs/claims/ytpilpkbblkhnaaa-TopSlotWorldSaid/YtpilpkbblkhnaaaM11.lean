/- Lemmas for the law TopSlotWorld: TmNext, TmP, WCells, GrowL, MapsW, Listed, FClone, RegGrow. No conditions. -/
import Derived.Test.YtpilpkbblkhnaaaM03
import Derived.Test.YtpilpkbblkhnaaaM10
import Derived.Deep.DeepMust
import Derived.Test.YtpilpkbblkhnaaaM06
import Derived.Deep.AppendLies
import Derived.Laws.OwnMore
import Derived.OwnWalk
import Derived.WideKeyArgs2
import Derived.Maps.OwnSet
import Derived.Maps.OwnOps
import Derived.Maps.Views
import Derived.Carry
import Derived.Test.YtpilpkbblkhnaaaM04
import Derived.Test.YtpilpkbblkhnaaaM09
/- tourmake: Below, Stream.Next: which number comes is not told, only its bounds. -/
section
namespace Go.Proofs.Ytpilpkbblkhnaaa
open Go.ChangeShapes Go.WideShapes Go.ChangeAt Go.RowKit Go.Nm Go.Mem
set_option linter.unusedVariables false
theorem tm_Below (x n : Int) (h1 : 1 ≤ n) (h2 : n ≤ 9223372036854775807) (w : World) : Calls Try.prog 10 #[.int .i64 x, .int .i64 n] w fun e w' => (∃ r : Nat, e = .returned (.int .i64 r) ∧ (r : Int) < n) ∧ w' = w := by
  obtain ⟨t, ht⟩ : ∃ t, t = x.tmod n := ⟨_, rfl⟩
  have hb : -n < t ∧ t < n := by
    rw [ht]
    rcases Int.le_total 0 x with h | h
    · have := Int.tmod_nonneg n h; have := Int.tmod_lt_of_pos x (show 0 < n by omega); omega
    · have h3 := Int.lt_tmod_of_pos x (show 0 < n by omega); have := Int.tmod_lt_of_pos x (show 0 < n by omega); omega
  have ht' : x.tmod n = t := ht.symm
  have hn0 : n ≠ 0 := by omega
  have hnb : (n == 0) = false := by simp; omega
  by_cases hneg : t < 0
  · have wr : IntKind.i64.wrap (t + n) = t + n := by rw [IntKind.wrap_i64]; omega
    obtain ⟨r, hr⟩ : ∃ r : Nat, t + n = (r : Int) := ⟨(t + n).toNat, by omega⟩
    have hrn : (r : Int) < n := by omega
    rw [hr] at wr
    have wr2 : IntKind.i64.wrap (t + n) = (r : Int) := by rw [hr, wr]
    clear ht
    go_enter Try.func10, Try.ntmps10
    go_wp2_with fail
    go_ret
    exact ⟨⟨r, rfl, hrn⟩, rfl⟩
  · obtain ⟨r, hr⟩ : ∃ r : Nat, t = (r : Int) := ⟨t.toNat, by omega⟩
    subst hr
    have hrn : (r : Int) < n := by omega
    clear ht
    go_enter Try.func10, Try.ntmps10
    go_wp2_with fail
    go_ret
    exact ⟨⟨r, rfl, hrn⟩, rfl⟩
/-- a stream: the numbers that are left -/
def Strm (w : World) (g : Nat) : Prop := ∃ (a : Option Addr) (l : List Int) (c : Nat), w.heap[g]? = some (.cells #[.slice a l.length c] 67 (0, 0)) ∧ IntsAt .i64 w a l ∧ l.length ≤ c ∧ c ≤ 9223372036854775807 ∧ ∀ x, a = some x → x.block < g
theorem Strm.lt {w : World} {g : Nat} (h : Strm w g) : g < w.heap.size := by obtain ⟨a, l, c, h, _⟩ := h; exact lt_of_heap h
theorem Strm.below {w w' : World} {g : Nat} (h : Strm w g) (hb : Below w.heap.size w w') : Strm w' g := by
  obtain ⟨a, l, c, h1, h2, h3, h4, h5⟩ := h
  exact ⟨a, l, c, heap_below h1 hb, h2.below hb, h3, h4, h5⟩
/-- what a number of the stream has done -/
def NextPost (g : Nat) (n : Int) (w : World) (e : Ending) (w' : World) : Prop := (∃ r : Nat, e = .returned (.int .i64 r) ∧ (r : Int) < n) ∧ Strm w' g ∧ w.grownBy w' (some g) ∧ w'.heap.size = w.heap.size
theorem strm_cut {w : World} {g : Nat} {v0 : Value} (hr : w.heap[g]? = some (.cells #[v0] 67 (0, 0))) {a : Option Addr} {k c : Nat} {l : List Int} (hl : l.length = k) (hi : IntsAt .i64 w a l) (hc : k ≤ c) (hm : c ≤ 9223372036854775807) (hg : ∀ x, a = some x → x.block < g) :
    Strm (w.setCell ⟨g, 0, none⟩ (.slice a k c)) g ∧ w.grownBy (w.setCell ⟨g, 0, none⟩ (.slice a k c)) (some g) ∧ (w.setCell ⟨g, 0, none⟩ (.slice a k c)).heap.size = w.heap.size := by
  have hgb : w.grownBy (w.setCell ⟨g, 0, none⟩ (.slice a k c)) (some g) := ⟨rfl, rfl, rfl, by simp, fun q hq hne => Below.heap_setCell w ⟨g, 0, none⟩ _ q (fun e => hne (by rw [e]))⟩
  subst hl
  refine ⟨⟨a, l, c, heap_set hr 0 _, fun h0 => ?_, hc, hm, hg⟩, hgb, by simp⟩
  obtain ⟨y, hy, hb, hcell⟩ := hi h0
  exact ⟨y, hy, by simpa using hb, fun i hi' => World.grownBy.cell hgb (hcell i hi') (by
    rw [block_of_add]
    have := hg y hy
    intro e; injection e with e; omega)⟩
set_option maxHeartbeats 4000000 in
theorem tm_Next (g : Nat) (n : Int) (h1 : 1 ≤ n) (h2 : n ≤ 9223372036854775807) (w : World) (hs : Strm w g) : Calls Try.prog 22 #[.pointer (some ⟨g, 0, none⟩), .int .i64 n] w (NextPost g n w) := by
  have HS := Lib.hid hs
  obtain ⟨a, l, c, hr, hi, hc, hm, hg⟩ := hs
  have HR := Lib.hid hr
  have r0 := cell_of_row _ _ 0 _ _ _ hr
  obtain ⟨m, hml⟩ : ∃ m, m = l.length := ⟨_, rfl⟩
  rw [← hml] at r0 hc
  have hn1 : decide (n < 1) = false := by simp; omega
  have CB := Lib.hid (fun x w => tm_Below x n h1 h2 w)
  by_cases hm0 : m = 0
  · subst hm0
    clear hr hi hg hml
    go_enter Try.func22, Try.ntmps22
    go_wp2_with fail
    go_ret
    exact ⟨⟨0, rfl, by omega⟩, HS.out, World.grownBy.refl _ _, rfl⟩
  · obtain ⟨x, rfl, hx1, hx2⟩ := hi (by omega)
    have c0 := hx2 0 (by omega)
    rw [Addr.add_zero'] at c0
    have hcut := hi.cut 1 c (by omega)
    have hxg := hg x rfl
    have HC := Lib.hid hcut
    have HG := Lib.hid hxg
    have hb0 : ((m : Int) == 0) = false := by simp; omega
    have hmc : 1 ≤ m := by omega
    have hmc2 : 1 ≤ c := by omega
    obtain ⟨v, hv⟩ : ∃ v, v = l.getD 0 0 := ⟨_, rfl⟩
    rw [← hv] at c0
    have HML := Lib.hid hml
    have hz := Mem.frozen_of_row hr 0
    have HM := Lib.hid hm
    by_cases hc1 : c = 1
    · subst hc1
      obtain ⟨w1, hw1⟩ : ∃ w1, w1 = w.setCell ⟨g, 0, none⟩ (.slice (some x) 0 0) := ⟨_, rfl⟩
      have HE := Lib.hid (strm_cut hr (a := some x) (k := 0) (c := 0) (l := l.drop 1) (by rw [List.length_drop]; omega) (by rw [if_pos rfl] at hcut; exact hcut) (by omega) (by omega) (fun y hy => by injection hy with hy; rw [← hy]; exact hxg))
      rw [← hw1] at HE
      have HW := Lib.hid hw1
      clear hr hi hg hml hcut hx2 hv hm hw1
      go_enter Try.func22, Try.ntmps22
      go_wp2_with fail
      rw [← HW.out]
      refine (CB.out _ _).mono ?_
      rintro e w2 ⟨⟨r, rfl, hrn⟩, rfl⟩
      go_wp2_with fail
      go_ret
      exact ⟨⟨r, rfl, hrn⟩, HE.out⟩
    · obtain ⟨w1, hw1⟩ : ∃ w1, w1 = w.setCell ⟨g, 0, none⟩ (.slice (some ⟨x.block, x.off + 1, none⟩) (m - 1) (c - 1)) := ⟨_, rfl⟩
      have HE := Lib.hid (strm_cut hr (a := some ⟨x.block, x.off + 1, none⟩) (k := m - 1) (c := c - 1) (l := l.drop 1) (by rw [List.length_drop, hml]) (by rw [if_neg hc1] at hcut; simpa [Addr.add] using hcut) (by omega) (by omega) (fun y hy => by injection hy with hy; rw [← hy]; exact hxg))
      rw [← hw1] at HE
      have HW := Lib.hid hw1
      clear hr hi hg hml hcut hx2 hv hm hw1
      go_enter Try.func22, Try.ntmps22
      go_wp2_with fail
      rw [← HW.out]
      refine (CB.out _ _).mono ?_
      rintro e w2 ⟨⟨r, rfl, hrn⟩, rfl⟩
      go_wp2_with fail
      go_ret
      exact ⟨⟨r, rfl, hrn⟩, HE.out⟩
end Go.Proofs.Ytpilpkbblkhnaaa
end
/- What tourmake makes: plain. -/
section
namespace Go.Proofs.Ytpilpkbblkhnaaa
set_option linter.unusedVariables false
open Go.Nm
def kname : Nat → ByteArray
  | 0 => ⟨#[115, 112, 111, 116]⟩
  | 1 => ⟨#[108, 105, 102, 101]⟩
  | 2 => ⟨#[116, 101, 97, 109]⟩
  | _ => ⟨#[103, 111, 97, 108]⟩
def fname : Nat → ByteArray
  | 0 => ⟨#[120]⟩
  | 1 => ⟨#[121]⟩
  | _ => ⟨#[122]⟩
def FldOk (j : Nat) (f : FieldV) : Prop := f.name = fname j ∧ ((1 ≤ f.bits ∧ f.bits ≤ 9 ∧ -30 ≤ f.low ∧ f.low ≤ 9) ∨ (f.bits = 32 ∧ f.low = -2147483648))
def FldsOk (l : List FieldV) : Prop := l.length ≤ 3 ∧ ∀ j (h : j < l.length), FldOk j l[j]
def KndOk (i : Nat) (k : KindV) : Prop := k.name = kname i ∧ FldsOk k.fields
def KsOk (ks : List KindV) : Prop := ks.length ≤ 4 ∧ ∀ i (h : i < ks.length), KndOk i ks[i]
theorem kname_ne : ∀ i k : Fin 4, i.val < k.val → ((kname i.val).toList == (kname k.val).toList) = false := by decide +kernel
theorem fname_ne : ∀ i k : Fin 3, i.val < k.val → ((fname i.val).toList == (fname k.val).toList) = false := by decide +kernel
theorem kname_ok : ∀ i : Fin 4, nameB (kname i.val).data.toList = true := by decide +kernel
theorem fname_ok : ∀ i : Fin 3, nameB (fname i.val).data.toList = true := by decide +kernel
theorem kname_size : ∀ i : Fin 4, (kname i.val).size ≤ 9223372036854775807 := by decide +kernel
theorem fname_size : ∀ i : Fin 3, (fname i.val).size ≤ 9223372036854775807 := by decide +kernel
theorem FldOk.ok {j : Nat} {f : FieldV} (h : FldOk j f) (hj : j < 3) : okF f = true := by
  obtain ⟨h0, h1⟩ := h
  have hn := fname_ok ⟨j, hj⟩
  simp only at hn
  unfold okF
  rcases field_cases f.name f.bits f.low with ⟨h, _⟩ | ⟨_, h⟩
  · exact h
  · rw [h0, hn] at h
    exfalso
    simp only [Bool.true_eq_false, false_or, true_and] at h
    omega
theorem FldsOk.err {l : List FieldV} (h : FldsOk l) : ∀ m, m ≤ l.length → fldErr l m = 0 := by
  intro m
  induction m with
  | zero => intro _; rfl
  | succ m ih =>
    intro hm
    have hml : m < l.length := by omega
    have h3 := h.1
    have hok := (h.2 m hml).ok (by omega)
    have hd : dupAt (l.map (·.name)) m = false := by
      unfold dupAt
      rw [List.any_eq_false]
      intro s hs
      obtain ⟨i, hi, rfl⟩ := List.getElem_of_mem hs
      rw [List.length_take, List.length_map] at hi
      have hi2 : i < l.length := by omega
      rw [List.getElem_take, List.getElem_map, (h.2 i hi2).1, List.getD_eq_getElem?_getD, List.getElem?_map, List.getElem?_eq_getElem hml]
      show ¬ ((fname i).toList == (l[m].name).toList) = true
      rw [(h.2 m hml).1]
      have := fname_ne ⟨i, by omega⟩ ⟨m, by omega⟩ (by show i < m; omega)
      simp only at this
      rw [this]; simp
    have hg : l.getD m default = l[m] := by rw [List.getD_eq_getElem?_getD, List.getElem?_eq_getElem hml]; rfl
    unfold fldErr
    rw [if_neg (by rw [ih (by omega)]; simp), hg, hok, if_neg (by simp), hd, if_neg (by simp)]
theorem KndOk.err {i : Nat} {k : KindV} (h : KndOk i k) (hi : i < 4) : kindE k = 0 := by
  have hn := kname_ok ⟨i, hi⟩
  simp only at hn
  have h3 := h.2.1
  unfold kindE
  rw [h.1, hn, if_neg (by simp), if_neg (by omega)]
  exact h.2.err _ (Nat.le_refl _)
theorem KsOk.err {ks : List KindV} (h : KsOk ks) : kindsE ks = 0 := by
  have h4 := h.1
  have key : ∀ m, m ≤ ks.length → kndErr ks m = 0 := by
    intro m
    induction m with
    | zero => intro _; rfl
    | succ m ih =>
      intro hm
      have hml : m < ks.length := by omega
      have hk := (h.2 m hml).err (by omega)
      have hd : dupAt (ks.map (·.name)) m = false := by
        unfold dupAt
        rw [List.any_eq_false]
        intro s hs
        obtain ⟨i, hi, rfl⟩ := List.getElem_of_mem hs
        rw [List.length_take, List.length_map] at hi
        have hi2 : i < ks.length := by omega
        rw [List.getElem_take, List.getElem_map, (h.2 i hi2).1, List.getD_eq_getElem?_getD, List.getElem?_map, List.getElem?_eq_getElem hml]
        show ¬ ((kname i).toList == (ks[m].name).toList) = true
        rw [(h.2 m hml).1]
        have := kname_ne ⟨i, by omega⟩ ⟨m, by omega⟩ (by show i < m; omega)
        simp only at this
        rw [this]; simp
      have hg : ks.getD m default = ks[m] := by rw [List.getD_eq_getElem?_getD, List.getElem?_eq_getElem hml]; rfl
      unfold kndErr
      rw [if_neg (by rw [ih (by omega)]; simp), hg, hk, if_neg (by simp), hd, if_neg (by simp)]
  unfold kindsE
  rw [if_neg (by omega)]
  exact key _ (Nat.le_refl _)
theorem FldsOk.snoc {l : List FieldV} {f : FieldV} (h : FldsOk l) (hl : l.length < 3) (hf : FldOk l.length f) : FldsOk (l ++ [f]) := by
  refine ⟨by rw [List.length_append, List.length_singleton]; omega, fun j hj => ?_⟩
  by_cases hjl : j < l.length
  · rw [List.getElem_append_left hjl]; exact h.2 j hjl
  · have e : j = l.length := by rw [List.length_append, List.length_singleton] at hj; omega
    subst e
    rw [List.getElem_append_right (Nat.le_refl _)]
    simpa using hf
theorem KsOk.snoc {l : List KindV} {k : KindV} (h : KsOk l) (hl : l.length < 4) (hk : KndOk l.length k) : KsOk (l ++ [k]) := by
  refine ⟨by rw [List.length_append, List.length_singleton]; omega, fun j hj => ?_⟩
  by_cases hjl : j < l.length
  · rw [List.getElem_append_left hjl]; exact h.2 j hjl
  · have e : j = l.length := by rw [List.length_append, List.length_singleton] at hj; omega
    subst e
    rw [List.getElem_append_right (Nat.le_refl _)]
    simpa using hk
end Go.Proofs.Ytpilpkbblkhnaaa
end
/- Components, kinds, items among others: their cells. -/
section
namespace Go.Proofs.Ytpilpkbblkhnaaa
open Go.RowKit Go.ChangeShapes Go.WideShapes Go.Mem
set_option linter.unusedVariables false
theorem comp_cells {w : World} {x : Addr} {l : List CompV} (h : SlAt 2 CompAt w (some x) l) (i : Nat) (hi : i < l.length) : ∃ xb xo, x = ⟨xb, xo, none⟩ ∧ ∃ a c, CellsK w xb (xo + i * 2) [.int .i64 l[i].kind, .slice a l[i].vals.length c] ∧ IntsAt .i64 w a l[i].vals := by
  obtain ⟨y, hy, hb, hc⟩ := h (by omega)
  injection hy with hy
  subst hy
  obtain ⟨xb, xo, sp⟩ := x
  have hsp : sp = none := by
    obtain ⟨f0, _⟩ := hc 0 (by omega)
    simpa [Addr.add] using World.cell?_spot f0
  obtain ⟨e0, a, c, e1, h2⟩ := hc i hi
  subst hsp
  rw [Addr.add_lit] at e0 e1
  refine ⟨xb, xo, rfl, a, c, fun j v hv => ?_, h2⟩
  match j with
  | 0 => cases hv; exact e0
  | 1 => cases hv; exact e1
  | j + 2 => simp at hv
theorem kind_cells {w : World} {x : Addr} {l : List KindV} (h : SlAt 2 KindAt w (some x) l) (i : Nat) (hi : i < l.length) : ∃ xb xo, x = ⟨xb, xo, none⟩ ∧ ∃ a c, CellsK w xb (xo + i * 2) [.string l[i].name, .slice a l[i].fields.length c] ∧ l[i].name.size ≤ 9223372036854775807 ∧ l[i].fields.length ≤ c ∧ c ≤ 9223372036854775807 ∧ SlAt 3 FieldAt w a l[i].fields := by
  obtain ⟨y, hy, hb, hc⟩ := h (by omega)
  injection hy with hy
  subst hy
  obtain ⟨xb, xo, sp⟩ := x
  have hsp : sp = none := by
    obtain ⟨f0, _⟩ := hc 0 (by omega)
    simpa [Addr.add] using World.cell?_spot f0
  obtain ⟨e0, hs, a, c, e1, h2, h3, h4⟩ := hc i hi
  subst hsp
  rw [Addr.add_lit] at e0 e1
  refine ⟨xb, xo, rfl, a, c, fun j v hv => ?_, hs, h2, h3, h4⟩
  match j with
  | 0 => cases hv; exact e0
  | 1 => cases hv; exact e1
  | j + 2 => simp at hv
theorem item_cells {w : World} {x : Addr} {l : List ItemV} (h : SlAt 3 ItemAt w (some x) l) (i : Nat) (hi : i < l.length) : ∃ xb xo, x = ⟨xb, xo, none⟩ ∧ ∃ a c, CellsK w xb (xo + i * 3) [.int .i64 l[i].n, .int .i64 l[i].gen, .slice a l[i].comps.length c] ∧ SlAt 2 CompAt w a l[i].comps := by
  obtain ⟨y, hy, hb, hc⟩ := h (by omega)
  injection hy with hy
  subst hy
  obtain ⟨xb, xo, sp⟩ := x
  have hsp : sp = none := by
    obtain ⟨f0, _⟩ := hc 0 (by omega)
    simpa [Addr.add] using World.cell?_spot f0
  obtain ⟨e0, e1, a, c, e2, h2⟩ := hc i hi
  subst hsp
  rw [Addr.add_lit] at e0 e1 e2
  refine ⟨xb, xo, rfl, a, c, fun j v hv => ?_, h2⟩
  match j with
  | 0 => cases hv; exact e0
  | 1 => cases hv; exact e1
  | 2 => cases hv; exact e2
  | j + 3 => simp at hv
theorem fld_cells {w : World} {x : Addr} {l : List FieldV} (h : SlAt 3 FieldAt w (some x) l) (i : Nat) (hi : i < l.length) : ∃ xb xo, x = ⟨xb, xo, none⟩ ∧ CellsK w xb (xo + i * 3) [.string l[i].name, .int .i64 l[i].bits, .int .i64 l[i].low] := by
  obtain ⟨y, hy, hb, hc⟩ := h (by omega)
  injection hy with hy
  subst hy
  obtain ⟨xb, xo, sp⟩ := x
  have hsp : sp = none := by
    obtain ⟨f0, _⟩ := hc 0 (by omega)
    simpa [Addr.add] using World.cell?_spot f0
  obtain ⟨e0, e1, e2, _⟩ := hc i hi
  subst hsp
  rw [Addr.add_lit] at e0 e1 e2
  refine ⟨xb, xo, rfl, fun j v hv => ?_⟩
  match j with
  | 0 => cases hv; exact e0
  | 1 => cases hv; exact e1
  | 2 => cases hv; exact e2
  | j + 3 => simp at hv
theorem ints_cell {k : IntKind} {w : World} {x : Addr} {l : List Int} (h : IntsAt k w (some x) l) (i : Nat) (hi : i < l.length) : ∃ xb xo, x = ⟨xb, xo, none⟩ ∧ w.cell? ⟨xb, xo + i * 1, none⟩ = some (.int k (l.getD i 0)) := by
  obtain ⟨y, hy, hb, hc⟩ := h (by omega)
  injection hy with hy
  subst hy
  obtain ⟨xb, xo, sp⟩ := x
  have hsp : sp = none := by
    have f0 := hc 0 (by omega)
    simpa [Addr.add] using World.cell?_spot f0
  have e0 := hc i hi
  subst hsp
  rw [Addr.add_lit] at e0
  exact ⟨xb, xo, rfl, by rw [Nat.mul_one]; exact e0⟩
theorem CellsK.at {w : World} {b q : Nat} {vs : List Value} (h : CellsK w b q vs) (j : Nat) (hj : j < vs.length) : w.cell? ⟨b, q + j, none⟩ = some vs[j] := h j _ (List.getElem?_eq_getElem hj)
theorem new_row (w : World) (cs : Array Value) (t : TypeId) : CellsK (w.alloc (.cells cs t (0, 0))) w.heap.size 0 cs.toList := CellsK.row (heap_alloc_new w _)
end Go.Proofs.Ytpilpkbblkhnaaa
end
/- A list of structs grown by append: the row, and each element's deep part, that leans only on blocks made in its own round. -/
section
namespace Go.Proofs.Ytpilpkbblkhnaaa
open Go.ChangeShapes Go.WideShapes Go.ChangeAt Go.RowKit Go.Nm Go.Mem
set_option linter.unusedVariables false
/-- Q holds, and leans on the blocks lo .. hi - 1 alone -/
def Win (lo hi : Nat) (Q : World → Prop) (w : World) : Prop := hi ≤ w.heap.size ∧ ∀ w2 : World, hi ≤ w2.heap.size → (∀ g, lo ≤ g → g < hi → w2.heap[g]? = w.heap[g]?) → Q w2
theorem Win.now {lo hi : Nat} {Q : World → Prop} {w : World} (h : Win lo hi Q w) : Q w := h.2 w h.1 (fun _ _ _ => rfl)
theorem Win.to {lo hi : Nat} {Q : World → Prop} {w w' : World} (h : Win lo hi Q w) (hs : hi ≤ w'.heap.size) (hb : ∀ g, lo ≤ g → g < hi → w'.heap[g]? = w.heap[g]?) : Win lo hi Q w' :=
  ⟨hs, fun w2 h1 h2 => h.2 w2 h1 (fun g g1 g2 => (h2 g g1 g2).trans (hb g g1 g2))⟩
theorem Win.ofUp {B : Nat} {Q : World → Prop} {w : World} (h : Up B Q w) : Win B w.heap.size Q w := ⟨Nat.le_refl _, fun w2 h1 h2 => h w2 ⟨h1, h2⟩⟩
theorem flat_len {α : Type} {sz : Nat} : ∀ (css : List (List α)), (∀ c ∈ css, c.length = sz) → css.flatten.length = css.length * sz
  | [], _ => by simp
  | c :: r, h => by
    rw [List.flatten_cons, List.length_append, flat_len r (fun x hx => h x (List.mem_cons_of_mem _ hx)), h c (List.mem_cons_self ..), List.length_cons, Nat.succ_mul]
    omega
theorem flat_get {α : Type} {sz : Nat} : ∀ (css : List (List α)), (∀ c ∈ css, c.length = sz) → ∀ j (h : j < css.length) i, i < sz → css.flatten[j * sz + i]? = css[j][i]?
  | [], _, j, h, _, _ => absurd h (by simp)
  | c :: r, hc, 0, h, i, hi => by
    rw [List.flatten_cons, Nat.zero_mul, Nat.zero_add, List.getElem?_append_left (by rw [hc c (List.mem_cons_self ..)]; exact hi)]
    rfl
  | c :: r, hc, j + 1, h, i, hi => by
    have hcl := hc c (List.mem_cons_self ..)
    rw [List.flatten_cons, List.getElem?_append_right (by rw [hcl, Nat.succ_mul]; omega), hcl, show (j + 1) * sz + i - sz = j * sz + i by rw [Nat.succ_mul]; omega]
    exact flat_get r (fun x hx => hc x (List.mem_cons_of_mem _ hx)) j (by simpa using h) i hi
def GrowL {α : Type} (E : World → List Value → α → Prop) (base : Nat) (T : TypeId) (sz : Nat) (w : World) (v : Value) (l : List α) : Prop :=
  ∃ css : List (List Value), css.length = l.length ∧ (∀ c ∈ css, c.length = sz) ∧ w.ownsRow base T sz v l.length css.flatten ∧
    ∀ j (h : j < l.length) (h2 : j < css.length), ∃ lo hi, base ≤ lo ∧ (∀ g, v.ownBlock = some g → ¬(lo ≤ g ∧ g < hi)) ∧ Win lo hi (fun w => E w css[j] l[j]) w
theorem GrowL.nil {α : Type} (E : World → List Value → α → Prop) (T : TypeId) (sz : Nat) (base : Nat) (w : World) : GrowL E base T sz w (.slice none 0 0) [] :=
  ⟨[], rfl, fun c h => absurd h (by simp), ⟨by simp, Or.inl ⟨rfl, rfl⟩⟩, fun j h => absurd h (by simp)⟩
theorem GrowL.below {α : Type} {E : World → List Value → α → Prop} {base : Nat} {T : TypeId} {sz : Nat} {w w' : World} {v : Value} {l : List α} (h : GrowL E base T sz w v l) (hb : Below w.heap.size w w') : GrowL E base T sz w' v l := by
  obtain ⟨css, h1, h2, h3, h4⟩ := h
  refine ⟨css, h1, h2, ?_, fun j hj hj2 => ?_⟩
  · refine ⟨h3.1, ?_⟩
    rcases h3.2 with h | ⟨g, cap, cur, k1, k2, k3, k4⟩
    · exact Or.inl h
    · exact Or.inr ⟨g, cap, cur, k1, k2, heap_below k3 hb, k4⟩
  · obtain ⟨lo, hi, p0, p1, p2⟩ := h4 j hj hj2
    exact ⟨lo, hi, p0, p1, p2.to (Nat.le_trans p2.1 hb.size) (fun g _ g2 => hb.block g (Nat.lt_of_lt_of_le g2 p2.1))⟩
theorem GrowL.frame {α : Type} {E : World → List Value → α → Prop} {base : Nat} {T : TypeId} {sz : Nat} {w w' : World} {v : Value} {l : List α} (h : GrowL E base T sz w v l) (hs : w.heap.size ≤ w'.heap.size) (hb : ∀ g, base ≤ g → g < w.heap.size → w'.heap[g]? = w.heap[g]?) : GrowL E base T sz w' v l := by
  obtain ⟨css, h1, h2, h3, h4⟩ := h
  refine ⟨css, h1, h2, ?_, fun j hj hj2 => ?_⟩
  · refine ⟨h3.1, ?_⟩
    rcases h3.2 with h | ⟨g, cap, cur, k1, k2, k3, k4⟩
    · exact Or.inl h
    · exact Or.inr ⟨g, cap, cur, k1, k2, (hb g k2 (lt_of_heap k3)).trans k3, k4⟩
  · obtain ⟨lo, hi, p0, p1, p2⟩ := h4 j hj hj2
    exact ⟨lo, hi, p0, p1, p2.to (Nat.le_trans p2.1 hs) (fun g g1 g2 => hb g (Nat.le_trans p0 g1) (Nat.lt_of_lt_of_le g2 p2.1))⟩
theorem GrowL.push {α : Type} {E : World → List Value → α → Prop} {base : Nat} {T : TypeId} {sz : Nat} {w w2 w3 : World} {v v' : Value} {l : List α} (h : GrowL E base T sz w v l) (hbase : base ≤ w.heap.size) (hb : Below w.heap.size w w2)
    (cs : List Value) (y : α) (hcs : cs.length = sz) (hy : Win w.heap.size w2.heap.size (fun w => E w cs y) w2)
    {css : List (List Value)} (hcss : css.length = l.length ∧ (∀ c ∈ css, c.length = sz) ∧ w.ownsRow base T sz v l.length css.flatten ∧ ∀ j (h : j < l.length) (h2 : j < css.length), ∃ lo hi, base ≤ lo ∧ (∀ g, v.ownBlock = some g → ¬(lo ≤ g ∧ g < hi)) ∧ Win lo hi (fun w => E w css[j] l[j]) w)
    (hown : w3.ownsRow base T sz v' (l.length + 1) (css.flatten ++ cs)) (hg : w2.grownBy w3 v.ownBlock) (g' : Nat) (hv' : v'.ownBlock = some g') (hlie : v.ownBlock = some g' ∨ g' = w2.heap.size) : GrowL E base T sz w3 v' (l ++ [y]) := by
  obtain ⟨h1, h2, h3, h4⟩ := hcss
  refine ⟨css ++ [cs], by simp [h1], ?_, ?_, fun j hj hj2 => ?_⟩
  · intro c hc
    rcases List.mem_append.1 hc with hc | hc
    · exact h2 c hc
    · rw [List.mem_singleton.1 hc]; exact hcs
  · rw [List.flatten_append, List.length_append]
    simpa using hown
  · by_cases hjl : j < l.length
    · obtain ⟨lo, hi, p0, p1, p2⟩ := h4 j hjl (by omega)
      have e1 : (css ++ [cs])[j]'hj2 = css[j]'(by omega) := List.getElem_append_left (by omega)
      have e2 : (l ++ [y])[j]'hj = l[j]'hjl := List.getElem_append_left hjl
      rw [e1, e2]
      refine ⟨lo, hi, p0, fun g hgg => ?_, p2.to (Nat.le_trans p2.1 (Nat.le_trans hb.size hg.size)) (fun g g1 g2 => ?_)⟩
      · rw [hv'] at hgg
        injection hgg with hgg
        subst hgg
        rcases hlie with hl | hl
        · exact p1 _ hl
        · have := hb.size
          have := p2.1
          omega
      · have hgw : g < w.heap.size := Nat.lt_of_lt_of_le g2 p2.1
        rw [hg.block g (Nat.lt_of_lt_of_le hgw hb.size) (fun e => p1 g e.symm ⟨g1, g2⟩)]
        exact hb.block g hgw
    · have hje : j = l.length := by simp at hj; omega
      subst hje
      have e1 : (css ++ [cs])[l.length]'hj2 = cs := by
        rw [List.getElem_append_right (by omega)]; simp [h1]
      have e2 : (l ++ [y])[l.length]'hj = y := by
        rw [List.getElem_append_right (by omega)]; simp
      rw [e1, e2]
      refine ⟨w.heap.size, w2.heap.size, hbase, fun g hgg => ?_, hy.to hg.size (fun g g1 g2 => ?_)⟩
      · rw [hv'] at hgg
        injection hgg with hgg
        subst hgg
        rcases hlie with hl | hl
        · have := (own_lt h3 _ hl).2
          omega
        · omega
      · exact hg.block g g2 (fun e => by have := (own_lt h3 _ e.symm).2; omega)
theorem GrowL.push2 {α : Type} {E : World → List Value → α → Prop} {base : Nat} {T : TypeId} {sz : Nat} {w w2 w3 : World} {v v' : Value} {l : List α} (h : GrowL E base T sz w v l) (hbase : base ≤ w.heap.size) (hb : Below w.heap.size w w2)
    (cs : List Value) (y : α) (hcs : cs.length = sz) (hy : Win w.heap.size w2.heap.size (fun w => E w cs y) w2)
    {css : List (List Value)} (hcss : css.length = l.length ∧ (∀ c ∈ css, c.length = sz) ∧ w.ownsRow base T sz v l.length css.flatten ∧ ∀ j (h : j < l.length) (h2 : j < css.length), ∃ lo hi, base ≤ lo ∧ (∀ g, v.ownBlock = some g → ¬(lo ≤ g ∧ g < hi)) ∧ Win lo hi (fun w => E w css[j] l[j]) w)
    (hown : w3.ownsRow base T sz v' (l.length + 1) (css.flatten ++ cs)) (hg : w2.grownBy w3 v.ownBlock) (hlie : v'.ownBlock = v.ownBlock ∨ v'.ownBlock = some w2.heap.size) : GrowL E base T sz w3 v' (l ++ [y]) := by
  obtain ⟨g', cap, hv', _, _⟩ := hown.form (by omega)
  have hv2 : v'.ownBlock = some g' := by rw [hv']; rfl
  refine h.push hbase hb cs y hcs hy hcss hown hg g' hv2 ?_
  rcases hlie with hl | hl
  · exact Or.inl (by rw [← hl]; exact hv2)
  · exact Or.inr (by rw [hv2] at hl; injection hl)
theorem GrowL.slice {α : Type} {E : World → List Value → α → Prop} {base : Nat} {T : TypeId} {sz : Nat} {w : World} {v : Value} {l : List α} (h : GrowL E base T sz w v l) : ∃ a c, v = .slice a l.length c ∧ l.length ≤ c ∧ c ≤ 9223372036854775807 := by
  obtain ⟨css, h1, h2, h3, h4⟩ := h
  rcases h3.2 with ⟨h, h0⟩ | ⟨g, cap, cur, k1, k2, k3, k4, k5, _⟩
  · exact ⟨none, 0, by rw [h, h0], by omega, by omega⟩
  · exact ⟨_, cap, k1, k4, k5⟩
theorem GrowL.up {α : Type} {E : World → List Value → α → Prop} {At : World → Addr → α → Prop} (hEA : ∀ w g q cs y, E w cs y → (∀ i u, cs[i]? = some u → w.cell? ⟨g, q + i, none⟩ = some u) → At w ⟨g, q, none⟩ y)
    {base : Nat} {T : TypeId} {sz : Nat} {w : World} {v : Value} {l : List α} (h : GrowL E base T sz w v l) (a : Option Addr) (c : Nat) (hv : v = .slice a l.length c) : Up base (fun w => SlAt sz At w a l) w := by
  obtain ⟨css, h1, h2, h3, h4⟩ := h
  intro w2 hs h0
  rcases h3.2 with ⟨h, h9⟩ | ⟨g, cap, cur, k1, k2, k3, k4, k5, k6, k7⟩
  · omega
  · rw [k1] at hv
    injection hv with e1 e2 e3
    subst e1
    have hlt : g < w.heap.size := lt_of_heap k3
    have h3' : w2.ownsRow base T sz (.slice (some ⟨g, 0, none⟩) l.length cap) l.length css.flatten := ⟨h3.1, Or.inr ⟨g, cap, cur, rfl, k2, (hs.2 g k2 hlt).trans k3, k4, k5, k6, k7⟩⟩
    refine ⟨_, rfl, Nat.lt_of_lt_of_le hlt hs.1, fun j hj => ?_⟩
    obtain ⟨lo, hi, p0, p1, p2⟩ := h4 j hj (by omega)
    have hE := p2.2 w2 (Nat.le_trans p2.1 hs.1) (fun g2 q1 q2 => hs.2 g2 (Nat.le_trans p0 q1) (Nat.lt_of_lt_of_le q2 p2.1))
    rw [add_zero_block]
    refine hEA w2 g (j * sz) _ _ hE (fun i u hu => ?_)
    have hc2 := h2 _ (List.getElem_mem (show j < css.length by omega))
    have hil : i < sz := by
      rcases Nat.lt_or_ge i sz with hlt2 | hge
      · exact hlt2
      · rw [List.getElem?_eq_none (by omega)] at hu; cases hu
    rw [h3'.cellAt (j * sz + i) (by
      have : (j + 1) * sz ≤ l.length * sz := Nat.mul_le_mul_right _ hj
      rw [Nat.succ_mul] at this
      omega), flat_get css h2 j (by omega) i hil]
    exact hu
end Go.Proofs.Ytpilpkbblkhnaaa
end
/- Maps of the call's own, told as functions of natural keys: map[int][]int (MapI), map[int]map[int][]int (MapO). -/
section
namespace Go.Proofs.Ytpilpkbblkhnaaa
open Go.ChangeShapes Go.WideShapes Go.ChangeAt Go.RowKit Go.Nm Go.Mem Go.Maps
set_option linter.unusedVariables false
abbrev RV (v : Value) : Option (DataW Value × List MemPlace) := some (.held v, [])
abbrev OwnV (w : World) (M n : Nat) (D : DataW Value) : Prop := w.ownsMap Try.prog 3 RV M n D
abbrev keyN (i : Nat) : Lit := .int .i64 (i : Int)
theorem keyN_ne {i j : Nat} (h : i ≠ j) : keyN i ≠ keyN j := by
  intro e
  injection e with _ e
  omega
theorem below_gn {w w' : World} (h : Below w.heap.size w w') (row : Option Nat) : w.grownBy w' row := ⟨h.os, h.tape, h.output, h.size, fun k hk _ => h.block k hk⟩
theorem own_block {w : World} {b n : Nat} {D : DataW Value} (h : OwnV w b n D) : ∃ es c, w.heap[b]? = some (.map es c) := by
  obtain ⟨es, c, h, _⟩ := h
  exact ⟨es, c, h⟩
theorem own_nocell {w : World} {b n : Nat} {D : DataW Value} (h : OwnV w b n D) (q : Nat) (s) : w.cell? ⟨b, q, s⟩ = none := by
  obtain ⟨es, c, h⟩ := own_block h
  simp [World.cell?, h]
theorem ints_own {w w' : World} {a : Option Addr} {L : List Int} {b n : Nat} {D : DataW Value} (h : IntsAt .i64 w a L) (hm : OwnV w b n D) (hg : w.grownBy w' (some b)) : IntsAt .i64 w' a L := by
  intro hn
  obtain ⟨x, rfl, hx, hc⟩ := h hn
  have hne : x.block ≠ b := by
    intro e
    have h0 := hc 0 hn
    obtain ⟨xb, xo, xs⟩ := x
    simp only at e
    subst e
    unfold Addr.add at h0
    split at h0
    · rw [own_nocell hm] at h0
      cases h0
    · rw [own_nocell hm] at h0
      cases h0
  refine ⟨x, rfl, Nat.lt_of_lt_of_le hx hg.size, fun i hi => ?_⟩
  rw [World.cell?_of_block (w := w) (hg.block _ (by rw [block_of_add]; exact hx) (fun e => hne (by rw [block_of_add] at e; injection e)))]
  exact hc i hi
abbrev Part := Nat → Option (List Int)
def updF {α : Type} (F : Nat → Option α) (k : Nat) (v : α) : Nat → Option α := fun i => if i = k then some v else F i
theorem updF_same {α : Type} (F : Nat → Option α) (k : Nat) (v : α) : updF F k v k = some v := if_pos rfl
theorem updF_other {α : Type} (F : Nat → Option α) {k i : Nat} (v : α) (h : i ≠ k) : updF F k v i = F i := if_neg h
/-- ints that lie in the blocks from lo on -/
structure IntsU (lo : Nat) (w : World) (a : Option Addr) (L : List Int) : Prop where
  ints : IntsAt .i64 w a L
  lo : ∀ x, a = some x → lo ≤ x.block
theorem IntsU.below {lo : Nat} {w w' : World} {a : Option Addr} {L : List Int} (h : IntsU lo w a L) (hb : Below w.heap.size w w') : IntsU lo w' a L := ⟨h.ints.below hb, h.lo⟩
theorem IntsU.own {lo : Nat} {w w' : World} {a : Option Addr} {L : List Int} {b n : Nat} {D : DataW Value} (h : IntsU lo w a L) (hm : OwnV w b n D) (hg : w.grownBy w' (some b)) : IntsU lo w' a L := ⟨ints_own h.ints hm hg, h.lo⟩
def MapI (w : World) (b n : Nat) (F : Part) : Prop := ∃ D, OwnV w b n D ∧ ∀ i : Nat, Maps.has D (keyN i) = (F i).isSome ∧ ∀ L, F i = some L → ∃ a c, D.atKey (keyN i) (.held (.slice none 0 0)) = .held (.slice a L.length c) ∧ IntsU b w a L
theorem MapI.lt {w : World} {b n : Nat} {F : Part} (h : MapI w b n F) : b < w.heap.size := by
  obtain ⟨D, h, _⟩ := h
  exact World.ownsMap.lt h
theorem MapI.new (w : World) : MapI (w.alloc (.map #[] 0)) w.heap.size 0 (fun _ => none) := ⟨_, World.ownsMap_made w Try.prog 3 RV, fun i => ⟨rfl, fun L h => by cases h⟩⟩
theorem MapI.below {w w' : World} {b n : Nat} {F : Part} (h : MapI w b n F) (hb : Below w.heap.size w w') : MapI w' b n F := by
  obtain ⟨D, h, hF⟩ := h
  refine ⟨D, h.kept (row := none) (below_gn hb _) (by simp), fun i => ⟨(hF i).1, fun L hL => ?_⟩⟩
  obtain ⟨a, c, h1, h2⟩ := (hF i).2 L hL
  exact ⟨a, c, h1, h2.below hb⟩
/-- another map is written -/
theorem MapI.beside {w w' : World} {b n b2 n2 : Nat} {F : Part} {D2 : DataW Value} (h : MapI w b n F) (h2 : OwnV w b2 n2 D2) (hne : b ≠ b2) (hg : w.grownBy w' (some b2)) : MapI w' b n F := by
  obtain ⟨D, h, hF⟩ := h
  refine ⟨D, h.kept hg (fun e => hne (by injection e)), fun i => ⟨(hF i).1, fun L hL => ?_⟩⟩
  obtain ⟨a, c, h3, h4⟩ := (hF i).2 L hL
  exact ⟨a, c, h3, h4.own h2 hg⟩
theorem MapI.put {w w' : World} {b n : Nat} {F : Part} {D : DataW Value} (hD : OwnV w b n D) (hF : ∀ i : Nat, Maps.has D (keyN i) = (F i).isSome ∧ ∀ L, F i = some L → ∃ a c, D.atKey (keyN i) (.held (.slice none 0 0)) = .held (.slice a L.length c) ∧ IntsU b w a L)
    (k : Nat) (L : List Int) (a : Option Addr) (c : Nat) (hL : IntsU b w a L) (h' : OwnV w' b (n + 1) (D.put (keyN k) (.held (.slice a L.length c)))) (hg : w.grownBy w' (some b)) : MapI w' b (n + 1) (updF F k L) := by
  refine ⟨_, h', fun i => ?_⟩
  by_cases e : i = k
  · subst e
    refine ⟨?_, fun L' hL' => ?_⟩
    · rw [updF_same, Maps.has_put_same (World.ownsMap.isMap hD) (show WideAt.IsKeyLit (keyN i) from trivial)]; rfl
    · rw [updF_same] at hL'
      injection hL' with hL'
      subst hL'
      exact ⟨a, c, Maps.atKey_put_same (World.ownsMap.isMap hD) (show WideAt.IsKeyLit (keyN i) from trivial) _ _, hL.own hD hg⟩
  · refine ⟨?_, fun L' hL' => ?_⟩
    · rw [updF_other F L e, Maps.has_put_other (keyN_ne e)]; exact (hF i).1
    · rw [updF_other F L e] at hL'
      obtain ⟨a2, c2, h1, h2⟩ := (hF i).2 L' hL'
      exact ⟨a2, c2, by rw [Maps.atKey_put_other (keyN_ne e)]; exact h1, h2.own hD hg⟩
def MapO (w : World) (base b n : Nat) (G : Nat → Option Part) : Prop := ∃ (D : DataW Value) (B : Nat → Nat), OwnV w b n D ∧ ∀ i : Nat, Maps.has D (keyN i) = (G i).isSome ∧ (G i = none → D.atKey (keyN i) (.held (.map none)) = .held (.map none)) ∧ ∀ F, G i = some F → D.atKey (keyN i) (.held (.map none)) = .held (.map (some (B i))) ∧ base ≤ B i ∧ B i ≠ b ∧ (∃ m, MapI w (B i) m F) ∧ ∀ j, (G j).isSome = true → B j = B i → j = i
theorem MapO.lt {w : World} {base b n : Nat} {G : Nat → Option Part} (h : MapO w base b n G) : b < w.heap.size := by
  obtain ⟨D, B, h, _⟩ := h
  exact World.ownsMap.lt h
theorem MapO.new (w : World) (base : Nat) : MapO (w.alloc (.map #[] 0)) base w.heap.size 0 (fun _ => none) := ⟨_, fun _ => 0, World.ownsMap_made w Try.prog 3 RV, fun i => ⟨rfl, fun _ => rfl, fun L h => by cases h⟩⟩
theorem MapO.below {w w' : World} {base b n : Nat} {G : Nat → Option Part} (h : MapO w base b n G) (hb : Below w.heap.size w w') : MapO w' base b n G := by
  obtain ⟨D, B, h, hG⟩ := h
  refine ⟨D, B, h.kept (row := none) (below_gn hb _) (by simp), fun i => ⟨(hG i).1, (hG i).2.1, fun F hF => ?_⟩⟩
  obtain ⟨h1, h0, h2, ⟨m, h3⟩, h4⟩ := (hG i).2.2 F hF
  exact ⟨h1, h0, h2, ⟨m, h3.below hb⟩, h4⟩
theorem MapO.put {w w' : World} {base b n : Nat} {G : Nat → Option Part} {D : DataW Value} {B : Nat → Nat} (hD : OwnV w b n D) (hG : ∀ i : Nat, Maps.has D (keyN i) = (G i).isSome ∧ (G i = none → D.atKey (keyN i) (.held (.map none)) = .held (.map none)) ∧ ∀ F, G i = some F → D.atKey (keyN i) (.held (.map none)) = .held (.map (some (B i))) ∧ base ≤ B i ∧ B i ≠ b ∧ (∃ m, MapI w (B i) m F) ∧ ∀ j, (G j).isSome = true → B j = B i → j = i)
    (k : Nat) (F : Part) (bi m : Nat) (hF : MapI w bi m F) (hbb : base ≤ bi) (hbi : bi ≠ b) (hfr : ∀ j F', G j = some F' → B j ≠ bi) (h' : OwnV w' b (n + 1) (D.put (keyN k) (.held (.map (some bi))))) (hg : w.grownBy w' (some b)) : MapO w' base b (n + 1) (updF G k F) := by
  refine ⟨_, fun i => if i = k then bi else B i, h', fun i => ?_⟩
  by_cases e : i = k
  · subst e
    refine ⟨?_, ?_, fun F' hF' => ?_⟩
    · rw [updF_same, Maps.has_put_same (World.ownsMap.isMap hD) (show WideAt.IsKeyLit (keyN i) from trivial)]; rfl
    · rw [updF_same]; intro h; cases h
    · rw [updF_same] at hF'
      injection hF' with hF'
      subst hF'
      simp only [if_pos]
      refine ⟨Maps.atKey_put_same (World.ownsMap.isMap hD) (show WideAt.IsKeyLit (keyN i) from trivial) _ _, hbb, hbi, ⟨m, hF.beside hD hbi hg⟩, fun j hj hB => ?_⟩
      by_cases ej : j = i
      · exact ej
      · rw [updF_other G F ej] at hj
        rw [if_neg ej] at hB
        obtain ⟨F2, hF2⟩ := Option.isSome_iff_exists.1 hj
        exact absurd hB (hfr j F2 hF2)
  · refine ⟨?_, ?_, fun F' hF' => ?_⟩
    · rw [updF_other G F e, Maps.has_put_other (keyN_ne e)]; exact (hG i).1
    · rw [updF_other G F e, Maps.atKey_put_other (keyN_ne e)]; exact (hG i).2.1
    · rw [updF_other G F e] at hF'
      obtain ⟨h1, h0, h2, ⟨m2, h3⟩, h4⟩ := (hG i).2.2 F' hF'
      simp only [if_neg e]
      refine ⟨by rw [Maps.atKey_put_other (keyN_ne e)]; exact h1, h0, h2, ⟨m2, h3.beside hD h2 hg⟩, fun j hj hB => ?_⟩
      by_cases ej : j = k
      · subst ej
        rw [if_pos rfl] at hB
        exact absurd hB.symm (hfr i F' hF')
      · rw [updF_other G F ej] at hj
        rw [if_neg ej] at hB
        exact h4 j hj hB
end Go.Proofs.Ytpilpkbblkhnaaa
end
/- The reference's Listed. -/
section
namespace Go.Proofs.Ytpilpkbblkhnaaa
open Go.ChangeShapes Go.WideShapes Go.ChangeAt Go.RowKit Go.Nm Go.Mem Go.Maps
set_option linter.unusedVariables false
def EComp (w : World) (cs : List Value) (c : CompV) : Prop := ∃ a cap, cs = [.int .i64 c.kind, .slice a c.vals.length cap] ∧ IntsAt .i64 w a c.vals
theorem EComp.at (w : World) (g q : Nat) (cs : List Value) (y : CompV) (h : EComp w cs y) (hc : ∀ i u, cs[i]? = some u → w.cell? ⟨g, q + i, none⟩ = some u) : CompAt w ⟨g, q, none⟩ y := by
  obtain ⟨a, cap, rfl, hi⟩ := h
  exact ⟨hc 0 _ rfl, a, cap, hc 1 _ rfl, hi⟩
theorem own_bel {w w' : World} {base e size n : Nat} {v : Value} {xs : List Value} (h : w.ownsRow base e size v n xs) (hb : Below w.heap.size w w') : w'.ownsRow base e size v n xs := by
  refine ⟨h.1, ?_⟩
  rcases h.2 with h | ⟨g, cap, cur, k1, k2, k3, k4⟩
  · exact Or.inl h
  · exact Or.inr ⟨g, cap, cur, k1, k2, heap_below k3 hb, k4⟩
def listedTo (F : Part) (k : Nat) : List CompV := (List.range k).filterMap (fun (i : Nat) => (F i).map (fun L => (⟨(i : Int), L⟩ : CompV)))
def listed (F : Part) : List CompV := listedTo F 16
theorem listedTo_succ (F : Part) (k : Nat) : listedTo F (k + 1) = listedTo F k ++ (match F k with | none => [] | some L => [⟨(k : Int), L⟩]) := by
  unfold listedTo
  rw [List.range_succ, List.filterMap_append]
  cases h : F k <;> simp [h]
end Go.Proofs.Ytpilpkbblkhnaaa
end
/- slices.Clone at []api.Field. -/
section
namespace Go.Proofs.Ytpilpkbblkhnaaa
open Go.ChangeShapes Go.WideShapes Go.ChangeAt Go.RowKit Go.Nm Go.Mem
set_option linter.unusedVariables false
end Go.Proofs.Ytpilpkbblkhnaaa
end
/- Drawn regions that append to a row of the call's own: the relations of worlds. -/
section
namespace Go.Proofs.Ytpilpkbblkhnaaa
open Go.ChangeShapes Go.WideShapes Go.ChangeAt Go.RowKit Go.Nm Go.Mem
set_option linter.unusedVariables false
/-- what operation i does: the append (q) writes its row, the others only lay blocks -/
def RG (q : Nat) (row : Option Nat) (i : Nat) (a b : World) : Prop := (i ≠ q → Below a.heap.size a b) ∧ (i = q → a.grownBy b row)
theorem RG.same (q : Nat) (row : Option Nat) (i : Nat) (w : World) : RG q row i w w := ⟨fun _ => Below.refl _ _, fun _ => World.grownBy.refl _ _⟩
theorem RG.below {q : Nat} {row : Option Nat} {i : Nat} {a b : World} (hi : i ≠ q) (hb : Below a.heap.size a b) : RG q row i a b := ⟨fun _ => hb, fun h => absurd h hi⟩
theorem RG.at_ {q : Nat} {row : Option Nat} {i : Nat} {a b : World} (hi : i = q) (hg : a.grownBy b row) : RG q row i a b := ⟨fun h => absurd hi h, fun _ => hg⟩
theorem RG.gb {q : Nat} {row : Option Nat} {i : Nat} {a b : World} (h : RG q row i a b) : a.grownBy b row := by
  by_cases hi : i = q
  · exact h.2 hi
  · have hb := h.1 hi
    exact ⟨hb.os, hb.tape, hb.output, hb.size, fun k hk _ => hb.block k hk⟩
theorem RG.sub {q : Nat} {row : Option Nat} : ∀ i a b, RG q row i a b → a.grownBy b row := fun _ _ _ h => h.gb
theorem gb_drew (row : Option Nat) (w : World) : w.grownBy w.drew row := ⟨rfl, rfl, rfl, Nat.le_refl _, fun k _ _ => rfl⟩
def EKind (w : World) (cs : List Value) (y : KindV) : Prop := ∃ a cap, cs = [.string y.name, .slice a y.fields.length cap] ∧ y.name.size ≤ 9223372036854775807 ∧ y.fields.length ≤ cap ∧ cap ≤ 9223372036854775807 ∧ SlAt 3 FieldAt w a y.fields
theorem EKind.at (w : World) (g q : Nat) (cs : List Value) (y : KindV) (h : EKind w cs y) (hc : ∀ i u, cs[i]? = some u → w.cell? ⟨g, q + i, none⟩ = some u) : KindAt w ⟨g, q, none⟩ y := by
  obtain ⟨a, cap, rfl, h1, h2, h3, hi⟩ := h
  exact ⟨hc 0 _ rfl, h1, a, cap, hc 1 _ rfl, h2, h3, hi⟩
def EItem (w : World) (cs : List Value) (y : ItemV) : Prop := ∃ a cap, cs = [.int .i64 y.n, .int .i64 y.gen, .slice a y.comps.length cap] ∧ SlAt 2 CompAt w a y.comps
theorem EItem.at (w : World) (g q : Nat) (cs : List Value) (y : ItemV) (h : EItem w cs y) (hc : ∀ i u, cs[i]? = some u → w.cell? ⟨g, q + i, none⟩ = some u) : ItemAt w ⟨g, q, none⟩ y := by
  obtain ⟨a, cap, rfl, hi⟩ := h
  exact ⟨hc 0 _ rfl, hc 1 _ rfl, a, cap, hc 2 _ rfl, hi⟩
section
variable {P : Program} {ops : Array Oper} {o : Oper} {F : Act} {w : World} {Q : Exit → Act → World → Prop}
theorem rg_slice_item (t e : TypeId) (x0 : Operand) (hgd : o.guard = none) (ho : o.op = .buildSlice t 1 #[(0, x0)]) (p g : Int) (a : Option Addr) (n c : Nat) (h0 : F.eval x0 = .agg #[.int .i64 p, .int .i64 g, .slice a n c])
    (hu : P.underlying t = some (.slice e)) (hi : (P.info? e).map (fun i => (i.zero, i.size)) = some (some (.agg #[.int .i64 0, .int .i64 0, .slice none 0 0]), 3)) (h : Q .normal (F.put o.dst (.slice (some ⟨w.heap.size, 0, none⟩) 1 1)) (w.alloc (.cells #[.int .i64 p, .int .i64 g, .slice a n c] e (0, 0)))) : wpList P ops Q [o] F w := by
  obtain ⟨i, hi2, hzz⟩ := Option.map_eq_some_iff.1 hi
  simp only [Prod.mk.injEq] at hzz
  refine wpList_plain hgd fun K hK => ?_
  refine wp_buildSlice t e 1 _ ho #[.int .i64 p, .int .i64 g, .slice a n c] i (.agg #[.int .i64 0, .int .i64 0, .slice none 0 0]) hu hi2 hzz.1 (by rw [hzz.2]; decide) (by rw [hzz.2]; decide) ?_ (hK _ _ h)
  rw [hzz.2]
  simp only [List.map_toArray, List.map_cons, List.map_nil, h0]
  have hr : Array.range 3 = #[0, 1, 2] := by decide
  simp [Instr.fill, Value.cells, hr]
end
end Go.Proofs.Ytpilpkbblkhnaaa
end
