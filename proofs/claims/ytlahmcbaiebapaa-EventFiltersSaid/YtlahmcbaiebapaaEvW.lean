/- EventFilters: the law's walk. By program (gen_evw.py). -/
import Derived.Test.YtlahmcbaiebapaaEvK
import Derived.Test.YtlahmcbaiebapaaEvH
import Derived.Test.YtlahmcbaiebapaaEvX
import Derived.Test.YtlahmcbaiebapaaEvS
import Derived.Test.YtlahmcbaiebapaaQFits
import Derived.Deep.CutRange
import Derived.BigQuiet
import Derived.Deep.QuietTactic
namespace Go.Proofs.Ytlahmcbaiebapaa
open Go.ChangeShapes Go.WideShapes Go.ChangeAt Go.RowKit Go.Mem Go.Slt Go.Maps
set_option linter.unusedVariables false
set_option linter.unusedSimpArgs false
abbrev zE : Value := .agg #[.int .i64 0, .int .i64 0, .int .i64 0, .int .i64 0]
abbrev OwnL (w : World) (M n : Nat) (D : DataW Value) : Prop := w.ownsMap Try.prog 99 RV M n D
theorem zero_ev (w : World) : (zeroValue 99).run Try.prog w = .ok zE w := by kernel_rfl
theorem zero_int (w : World) : (zeroValue 3).run Try.prog w = .ok (.int .i64 0) w := by kernel_rfl
theorem ct_look {D : DataW Value} {L : List (Int × Int)} (s : Int) (h : MRel D (.held (.int .i64 0)) (ctE L)) : ∃ c, D.atKey (.int .i64 s) (.held (.int .i64 0)) = .held (.int .i64 c) ∧ (c = 0 ∨ ∃ y ∈ L, y.1 = s ∧ y.2 = c) := by
  by_cases hh : ∃ y ∈ L, y.1 = s
  · obtain ⟨y, hy, rfl⟩ := hh
    exact ⟨y.2, h.at_ (.int .i64 y.1, .int .i64 y.2) (List.mem_map.2 ⟨y, hy, rfl⟩), .inr ⟨y, hy, rfl, rfl⟩⟩
  · refine ⟨0, h.no (fun ⟨p, hp, e⟩ => hh ?_), .inl rfl⟩
    unfold ctE at hp
    obtain ⟨y, hy, rfl⟩ := List.mem_map.1 hp
    injection e with _ e
    exact ⟨y, hy, e⟩
set_option maxRecDepth 100000 in
theorem run_look {w : World} {t k e : TypeId} {M n : Nat} {D : DataW Value} {z v key : Value} {kl : Lit} (h : w.ownsMap Try.prog k RV M n D) (K : Keyed Try.prog k) (ht : Try.prog.underlying t = some (.map k e)) (hz : (zeroValue e).run Try.prog w = .ok z w) (hk : keyOf Try.prog k key = some kl) (hv : D.atKey kl (.held z) = .held v) :
    (Instr.lookup t (.map (some M)) key false).run Try.prog w = .ok v w := by
  obtain ⟨v', ps, hrun, hv'⟩ := World.ownsMap.lookup (zd := .held z) (zp := []) h K ht hz rfl hk
  rw [hv] at hv'
  injection hv' with hv'
  injection hv' with hv' _
  injection hv' with hv'
  subst hv'
  exact hrun
/-- the two maps behind k rounds -/
structure Maps2 (M1 M2 k : Nat) (E : List EvV) (C : List (Int × Int)) (w : World) : Prop where
  l : ∃ D, OwnL w M1 k D ∧ MRel D (.held zE) (evE E)
  c : ∃ D, OwnV w M2 k D ∧ MRel D (.held (.int .i64 0)) (ctE C)
theorem Maps2.kept {M1 M2 k : Nat} {E : List EvV} {C : List (Int × Int)} {w w' : World} {row : Option Nat} (h : Maps2 M1 M2 k E C w) (hg : w.grownBy w' row) (h1 : some M1 ≠ row) (h2 : some M2 ≠ row) : Maps2 M1 M2 k E C w' := by
  obtain ⟨⟨D1, a1, b1⟩, ⟨D2, a2, b2⟩⟩ := h
  exact ⟨⟨D1, a1.kept hg h1, b1⟩, ⟨D2, a2.kept hg h2, b2⟩⟩
theorem Maps2.below {M1 M2 k : Nat} {E : List EvV} {C : List (Int × Int)} {w w' : World} (h : Maps2 M1 M2 k E C w) (hb : Below w.heap.size w w') : Maps2 M1 M2 k E C w' := h.kept (row := none) (below_gn hb _) (by simp) (by simp)
theorem Trio.kept {B : Nat} {F1 F2 F3 : List EvV} {v1 v2 v3 : Value} {w w' : World} {M : Nat} (h : Trio B F1 F2 F3 v1 v2 v3 w) (hg : w.grownBy w' (some M)) (hM : M < B) : Trio B F1 F2 F3 v1 v2 v3 w' := by
  have key : ∀ (v : Value) (F : List EvV), w.ownsRow B 99 4 v F.length (evC F) → w'.ownsRow B 99 4 v F.length (evC F) := fun v F hv => own_grown hv hg (fun g hgv e => by injection e with e; have := (own_lt hv g hgv).1; omega)
  exact ⟨key _ _ h.a, key _ _ h.b, key _ _ h.c, h.n12, h.n13, h.n23⟩
theorem any_succ {α : Type} (p : α → Bool) (l : List α) (k : Nat) (h : k < l.length) : (l.take (k + 1)).any p = ((l.take k).any p || p l[k]) := by
  rw [List.take_succ_eq_append_getElem h, List.any_append]; simp
theorem cts_two : (ctsOf [(⟨0, 0, 0, 0⟩ : EvV), ⟨0, 0, 0, 0⟩]).length = 1 := by decide
theorem two_evs {w : World} {b : Nat} (h : w.heap[b]? = some (.cells #[.int .i64 0, .int .i64 0, .int .i64 0, .int .i64 0, .int .i64 0, .int .i64 0, .int .i64 0, .int .i64 0] 99 (0, 0))) : SlAt 4 EvAt w (some ⟨b, 0, none⟩) [⟨0, 0, 0, 0⟩, ⟨0, 0, 0, 0⟩] := fun _ => by
  refine ⟨_, rfl, lt_of_heap h, fun i hi => ?_⟩
  have k : ∀ j, w.cell? ⟨b, j, none⟩ = (#[.int .i64 0, .int .i64 0, .int .i64 0, .int .i64 0, .int .i64 0, .int .i64 0, .int .i64 0, .int .i64 0] : Array Value)[j]? := fun j => cell_of_row _ _ j _ _ _ h
  rw [Addr.add_lit, Nat.zero_add]
  match i, hi with
  | 0, _ => exact ⟨k 0, k 1, k 2, k 3⟩
  | 1, _ => exact ⟨k 4, k 5, k 6, k 7⟩
theorem list23 {α : Type} {vs : List α} (h : vs.length = 23) : ∃ x0 x1 x2 x3 x4 x5 x6 x7 x8 x9 x10 x11 x12 x13 x14 x15 x16 x17 x18 x19 x20 x21 x22, vs = [x0, x1, x2, x3, x4, x5, x6, x7, x8, x9, x10, x11, x12, x13, x14, x15, x16, x17, x18, x19, x20, x21, x22] := by
  obtain ⟨x0, t0, rfl, h0⟩ := cons_of h
  obtain ⟨x1, t1, rfl, h1⟩ := cons_of h0
  obtain ⟨x2, t2, rfl, h2⟩ := cons_of h1
  obtain ⟨x3, t3, rfl, h3⟩ := cons_of h2
  obtain ⟨x4, t4, rfl, h4⟩ := cons_of h3
  obtain ⟨x5, t5, rfl, h5⟩ := cons_of h4
  obtain ⟨x6, t6, rfl, h6⟩ := cons_of h5
  obtain ⟨x7, t7, rfl, h7⟩ := cons_of h6
  obtain ⟨x8, t8, rfl, h8⟩ := cons_of h7
  obtain ⟨x9, t9, rfl, h9⟩ := cons_of h8
  obtain ⟨x10, t10, rfl, h10⟩ := cons_of h9
  obtain ⟨x11, t11, rfl, h11⟩ := cons_of h10
  obtain ⟨x12, t12, rfl, h12⟩ := cons_of h11
  obtain ⟨x13, t13, rfl, h13⟩ := cons_of h12
  obtain ⟨x14, t14, rfl, h14⟩ := cons_of h13
  obtain ⟨x15, t15, rfl, h15⟩ := cons_of h14
  obtain ⟨x16, t16, rfl, h16⟩ := cons_of h15
  obtain ⟨x17, t17, rfl, h17⟩ := cons_of h16
  obtain ⟨x18, t18, rfl, h18⟩ := cons_of h17
  obtain ⟨x19, t19, rfl, h19⟩ := cons_of h18
  obtain ⟨x20, t20, rfl, h20⟩ := cons_of h19
  obtain ⟨x21, t21, rfl, h21⟩ := cons_of h20
  obtain ⟨x22, t22, rfl, h22⟩ := cons_of h21
  exact ⟨x0, x1, x2, x3, x4, x5, x6, x7, x8, x9, x10, x11, x12, x13, x14, x15, x16, x17, x18, x19, x20, x21, x22, by rw [List.eq_nil_of_length_eq_zero h22]⟩
def F_w38b (M1 bt xb xo ne lc p : Nat) (ys yn yg yv zs zn zg zv : Int) (jq : Nat) (v : Value) (w : World) : Prop :=
  match jq with
  | 0 => v = .map (some M1)
  | 1 => v = .pointer (some ⟨bt, 0, none⟩)
  | 2 => v = .int .i64 ys
  | 3 => v = .pointer (some ⟨bt, 1, none⟩)
  | 4 => v = .agg #[.int .i64 yn, .int .i64 yg]
  | 5 => v = .agg #[.int .i64 ys, .int .i64 yn, .int .i64 yg, .int .i64 0]
  | 6 => v = .agg #[.int .i64 ys, .int .i64 yn, .int .i64 yg, .int .i64 yv]
  | 7 => v = .agg #[.int .i64 ys, .int .i64 yn, .int .i64 yg, .int .i64 yv]
  | 8 => v = .bool false
  | 9 => v = .bool false
  | 10 => v = .int .i64 ((p + 1 : Nat) : Int)
  | 11 => v = .bool true
  | 12 => v = .bool true
  | 13 => v = .slice (some ⟨xb, xo, none⟩) ne lc
  | 14 => v = .int .i64 ((p + 1 : Nat) : Int)
  | 15 => v = .int .i64 (p : Int)
  | 16 => v = .pointer (some ⟨xb, xo + p * 4, none⟩)
  | 17 => v = .agg #[.int .i64 zs, .int .i64 zn, .int .i64 zg, .int .i64 zv]
  | 18 => v = .agg #[.int .i64 ys, .int .i64 yn, .int .i64 yg, .int .i64 yv]
  | 19 => v = .bool true
  | 20 => v = .bool false
  | 21 => v = .bool false
  | 22 => v = .bool false
  | _ => True
theorem F_w38b_mono (M1 bt xb xo ne lc p : Nat) (ys yn yg yv zs zn zg zv : Int) : Facts (F_w38b M1 bt xb xo ne lc p  ys yn yg yv zs zn zg zv ) := ⟨by
  intro jq v w w' h hb
  unfold F_w38b at h ⊢
  split at h
  all_goals first
    | exact h
    | trivial⟩
def F_w38a (M1 bt xb xo ne lc : Nat) (ys yn yg yv : Int) (jq : Nat) (v : Value) (w : World) : Prop :=
  match jq with
  | 0 => v = .map (some M1)
  | 1 => v = .pointer (some ⟨bt, 0, none⟩)
  | 2 => v = .int .i64 ys
  | 3 => v = .pointer (some ⟨bt, 1, none⟩)
  | 4 => v = .agg #[.int .i64 yn, .int .i64 yg]
  | 5 => v = .agg #[.int .i64 ys, .int .i64 yn, .int .i64 yg, .int .i64 0]
  | 6 => v = .agg #[.int .i64 ys, .int .i64 yn, .int .i64 yg, .int .i64 yv]
  | 7 => v = .agg #[.int .i64 ys, .int .i64 yn, .int .i64 yg, .int .i64 yv]
  | 8 => v = .bool false
  | 9 => v = .bool false
  | 10 => v = .int .i64 ((0 : Nat) : Int)
  | 11 => v = .bool false
  | 12 => v = .bool false
  | 13 => v = undef
  | 14 => v = undef
  | 15 => v = undef
  | 16 => v = undef
  | 17 => v = undef
  | 18 => v = undef
  | 19 => v = undef
  | 20 => v = undef
  | 21 => v = .bool false
  | 22 => v = .bool false
  | _ => True
theorem F_w38a_mono (M1 bt xb xo ne lc : Nat) (ys yn yg yv : Int) : Facts (F_w38a M1 bt xb xo ne lc  ys yn yg yv ) := ⟨by
  intro jq v w w' h hb
  unfold F_w38a at h ⊢
  split at h
  all_goals first
    | exact h
    | trivial⟩
def F_w32b (M2 bt xb xo nc cc p : Nat) (ys yc zs : Int) (jq : Nat) (v : Value) (w : World) : Prop :=
  match jq with
  | 0 => v = .map (some M2)
  | 1 => v = .pointer (some ⟨bt, 0, none⟩)
  | 2 => v = .int .i64 ys
  | 3 => v = .int .i64 yc
  | 4 => v = .pointer (some ⟨bt, 1, none⟩)
  | 5 => v = .int .i64 yc
  | 6 => v = .bool false
  | 7 => v = .bool false
  | 8 => v = .int .i64 ((p + 1 : Nat) : Int)
  | 9 => v = .bool true
  | 10 => v = .bool true
  | 11 => v = .slice (some ⟨xb, xo, none⟩) nc cc
  | 12 => v = .int .i64 ((p + 1 : Nat) : Int)
  | 13 => v = .int .i64 (p : Int)
  | 14 => v = .pointer (some ⟨xb, xo + p * 2, none⟩)
  | 15 => v = .pointer (some ⟨xb, xo + p * 2, none⟩)
  | 16 => v = .int .i64 zs
  | 17 => v = .pointer (some ⟨bt, 0, none⟩)
  | 18 => v = .int .i64 ys
  | 19 => v = .bool false
  | 20 => v = .bool false
  | 21 => v = .bool false
  | _ => True
theorem F_w32b_mono (M2 bt xb xo nc cc p : Nat) (ys yc zs : Int) : Facts (F_w32b M2 bt xb xo nc cc p  ys yc zs ) := ⟨by
  intro jq v w w' h hb
  unfold F_w32b at h ⊢
  split at h
  all_goals first
    | exact h
    | trivial⟩
def F_w32a (M2 bt xb xo nc cc : Nat) (ys yc : Int) (jq : Nat) (v : Value) (w : World) : Prop :=
  match jq with
  | 0 => v = .map (some M2)
  | 1 => v = .pointer (some ⟨bt, 0, none⟩)
  | 2 => v = .int .i64 ys
  | 3 => v = .int .i64 yc
  | 4 => v = .pointer (some ⟨bt, 1, none⟩)
  | 5 => v = .int .i64 yc
  | 6 => v = .bool false
  | 7 => v = .bool false
  | 8 => v = .int .i64 ((0 : Nat) : Int)
  | 9 => v = .bool false
  | 10 => v = .bool false
  | 11 => v = undef
  | 12 => v = undef
  | 13 => v = undef
  | 14 => v = undef
  | 15 => v = undef
  | 16 => v = undef
  | 17 => v = undef
  | 18 => v = undef
  | 19 => v = undef
  | 20 => v = .bool false
  | 21 => v = .bool false
  | _ => True
theorem F_w32a_mono (M2 bt xb xo nc cc : Nat) (ys yc : Int) : Facts (F_w32a M2 bt xb xo nc cc  ys yc ) := ⟨by
  intro jq v w w' h hb
  unfold F_w32a at h ⊢
  split at h
  all_goals first
    | exact h
    | trivial⟩


set_option maxRecDepth 100000 in
set_option maxHeartbeats 32000000 in
theorem walk_EventFilters (its : List ItemV) (v : Value) (l : List EvV) (a : Option Addr) (n c : Nat) (s lo hi : Int) (hn : l.length = n) (h1 : n ≤ 4398046510976) (hm : its.length ≤ 17592186044000) (hw : ∀ y ∈ l, EvWf y) (W : World) (hv : WorldI W v its) (hz : SlAt 4 EvAt W a l) :
    Calls Try.prog 7 #[v, .slice a n c, .int .i64 s, .agg #[.int .i64 lo, .int .i64 hi]] W fun e w' => e = .returned (.bool true) ∧ Below W.heap.size W w' := by
  obtain ⟨ak, nk, ck, ag, ng, cg, ai, ci, rfl, hzi⟩ := hv
  obtain ⟨m, hmm⟩ : ∃ m, m = its.length := ⟨_, rfl⟩
  have HM := Lib.hid hmm
  have hm17 : m ≤ 17592186044000 := by rw [hmm]; exact hm
  have HN := Lib.hid hn
  have HZ := Lib.hid hz
  have HZI := Lib.hid hzi
  have HW := Lib.hid hw
  rw [← hmm]
  have hb0 := (Below.refl W.heap.size W).alloc (Nat.le_refl _) (.cells #[.slice ak nk ck, .slice ag ng cg, .slice ai m ci] 70)
  have hb1 := hb0.alloc (by simp) (.cells #[.int .i64 lo, .int .i64 hi] 95)
  have hb2 := hb1.alloc (by simp; omega) (.cells #[.int .i64 0, .int .i64 0, .int .i64 0, .int .i64 0, .int .i64 0, .int .i64 0, .int .i64 0, .int .i64 0] 99)
  have hx4 := heap_keep (row_first W (.cells #[.slice ak nk ck, .slice ag ng cg, .slice ai m ci] 70) (.cells #[.int .i64 lo, .int .i64 hi] 95)) (.cells #[.int .i64 0, .int .i64 0, .int .i64 0, .int .i64 0, .int .i64 0, .int .i64 0, .int .i64 0, .int .i64 0] 99)
  have hx7 := heap_keep (row_second W (.cells #[.slice ak nk ck, .slice ag ng cg, .slice ai m ci] 70) (.cells #[.int .i64 lo, .int .i64 hi] 95)) (.cells #[.int .i64 0, .int .i64 0, .int .i64 0, .int .i64 0, .int .i64 0, .int .i64 0, .int .i64 0, .int .i64 0] 99)
  have hx8 := heap_alloc_new ((W.alloc (.cells #[.slice ak nk ck, .slice ag ng cg, .slice ai m ci] 70)).alloc (.cells #[.int .i64 lo, .int .i64 hi] 95)) (.cells #[.int .i64 0, .int .i64 0, .int .i64 0, .int .i64 0, .int .i64 0, .int .i64 0, .int .i64 0, .int .i64 0] 99)
  simp only [World.size_alloc] at hx8
  have HX4 := Lib.hid hx4
  have HX7 := Lib.hid hx7
  have HX8 := Lib.hid hx8
  have HB2 := Lib.hid hb2
  clear hmm hm hn hz hzi hw hb0 hb1 hb2 hx4 hx7 hx8
  go_enter Try.func7, Try.ntmps7
  go_wp2_with fail
  obtain ⟨w0, hw0⟩ : ∃ w0, w0 = ((W.alloc (.cells #[.slice ak nk ck, .slice ag ng cg, .slice ai m ci] 70)).alloc (.cells #[.int .i64 lo, .int .i64 hi] 95)).alloc (.cells #[.int .i64 0, .int .i64 0, .int .i64 0, .int .i64 0, .int .i64 0, .int .i64 0, .int .i64 0, .int .i64 0] 99) := ⟨_, rfl⟩
  rw [← hw0] at HB2 HX4 HX7 HX8 ⊢
  clear hw0
  obtain ⟨b4, hb4⟩ : ∃ b, b = W.heap.size := ⟨_, rfl⟩
  obtain ⟨b7, hb7⟩ : ∃ b, b = W.heap.size + 1 := ⟨_, rfl⟩
  obtain ⟨b8, hb8⟩ : ∃ b, b = W.heap.size + 1 + 1 := ⟨_, rfl⟩
  rw [← hb8] at HX8 ⊢
  rw [← hb7] at HX7 ⊢
  rw [show (Value.pointer (some ⟨W.heap.size, 0, none⟩)) = .pointer (some ⟨b4, 0, none⟩) from by rw [hb4]]
  rw [← hb4] at HX4
  clear hb4 hb7 hb8
  have CC := ev_Counts [(⟨0, 0, 0, 0⟩ : EvV), ⟨0, 0, 0, 0⟩] (some ⟨b8, 0, none⟩) 2 2 rfl (by decide) w0 (two_evs HX8.out)
  unfold CtsPost at CC
  rw [cts_two] at CC
  have HCC := Lib.hid CC
  clear CC
  refine HCC.out.mono ?_
  rintro e w2 ⟨ax, cx, rfl, -, hb⟩
  have HX4a := Lib.hid (heap_below HX4.out hb)
  have HX7a := Lib.hid (heap_below HX7.out hb)
  have HBa := Lib.hid (HB2.out.trans (hb.mono HB2.out.size))
  clear hb HCC HX4 HX7 HX8 HB2
  have hmk := @run_makeMap Try.prog
  have hbm1 : Below w2.heap.size w2 (w2.alloc (.map #[] 0)) := (Below.refl _ _).alloc (Nat.le_refl _) _
  have hbm2 : Below (w2.alloc (.map #[] 0)).heap.size (w2.alloc (.map #[] 0)) ((w2.alloc (.map #[] 0)).alloc (.map #[] 0)) := (Below.refl _ _).alloc (Nat.le_refl _) _
  have hM1 : OwnL (w2.alloc (.map #[] 0)) w2.heap.size 0 (.map []) := World.ownsMap_made w2 Try.prog 99 RV
  have hM2 : OwnV ((w2.alloc (.map #[] 0)).alloc (.map #[] 0)) (w2.alloc (.map #[] 0)).heap.size 0 (.map []) := World.ownsMap_made (w2.alloc (.map #[] 0)) Try.prog 3 RV
  rw [World.size_alloc] at hM2
  have HMM := Lib.hid (show Maps2 w2.heap.size (w2.heap.size + 1) 0 [] [] ((w2.alloc (.map #[] 0)).alloc (.map #[] 0)) from ⟨⟨_, hM1.kept (row := none) (below_gn hbm2 _) (by simp), MRel.nil _⟩, ⟨_, hM2, MRel.nil _⟩⟩)
  have hbm := hbm1.trans (hbm2.mono (by simp))
  have HX4b := Lib.hid (heap_below HX4a.out hbm)
  have HX7b := Lib.hid (heap_below HX7a.out hbm)
  have HBb := Lib.hid (HBa.out.trans (hbm.mono HBa.out.size))
  have hWM := HBa.out.size
  have h4M := lt_of_heap HX4a.out
  have h7M := lt_of_heap HX7a.out
  clear hbm1 hbm2 hM1 hM2 hbm HX4a HX7a HBa
  go_wp2_with fail
  obtain ⟨Wm, hWm⟩ : ∃ q, q = (w2.alloc (.map #[] 0)).alloc (.map #[] 0) := ⟨_, rfl⟩
  have hms : w2.heap.size + 1 < Wm.heap.size := by rw [hWm]; simp
  rw [← hWm] at HMM HX4b HX7b HBb ⊢
  clear hWm hmk
  obtain ⟨M1, hM1⟩ : ∃ q, q = w2.heap.size := ⟨_, rfl⟩
  obtain ⟨M2, hM2⟩ : ∃ q, q = w2.heap.size + 1 := ⟨_, rfl⟩
  have hM12 : M1 < M2 := by omega
  have hMm : M2 < Wm.heap.size := by omega
  rw [← hM2] at HMM ⊢
  rw [← hM1] at h4M h7M hWM
  rw [show (Value.map (some w2.heap.size)) = .map (some M1) from by rw [hM1]]
  rw [show Maps2 w2.heap.size M2 0 [] [] Wm = Maps2 M1 M2 0 [] [] Wm from by rw [hM1]] at HMM
  clear hM1 hM2 hms
  go_loopg [9, 10, 11, 37] n (fun gk v9 v10 v11 vi wx => ∃ (k : Nat), k ≤ n ∧ gk = n - k ∧ vi = .int .i64 k ∧ Hid (Trio Wm.heap.size ((l.take k).filter (ofB s lo hi)) ((l.take k).filter (hereB its)) ((l.take k).filter (notB (hereB its))) v9 v10 v11 wx) ∧ Hid (Maps2 M1 M2 k (evsOf (l.take k)) (ctsOf (l.take k)) wx) ∧ Hid (Below M1 Wm wx))
  case atStart => exact ⟨0, Nat.zero_le _, rfl, rfl, Lib.hid (Trio.nil _ _), HMM, Lib.hid (Below.refl _ _)⟩
  case round =>
    clear HMM
    obtain ⟨k, hk, g2, rfl, HO, HMM, HB⟩ := hrel
    have G2 := Lib.hid g2
    clear g2
    have HBW := Lib.hid (HBb.out.trans (HB.out.mono hWM))
    by_cases hlt : k < n
    · obtain ⟨x, rfl, hx, hix⟩ := HZ.out.below EvAt.abides HBW.out (by rw [HN.out]; omega)
      obtain ⟨c0, c1, c2, c3⟩ := hix k (by rw [HN.out]; exact hlt)
      obtain ⟨y, hy⟩ : ∃ p : EvV, p = l[k]'(by rw [HN.out]; exact hlt) := ⟨_, rfl⟩
      rw [← hy] at c0 c1 c2 c3
      have HS1 := Lib.hid (by have h := filt_succ (ofB s lo hi) l k (by rw [HN.out]; exact hlt); rw [← hy] at h; exact h)
      have HS2 := Lib.hid (by have h := filt_succ (hereB its) l k (by rw [HN.out]; exact hlt); rw [← hy] at h; exact h)
      have HS3 := Lib.hid (by have h := filt_succ (notB (hereB its)) l k (by rw [HN.out]; exact hlt); rw [← hy] at h; exact h)
      have HS4 := Lib.hid (by have h := evsOf_succ l k (by rw [HN.out]; exact hlt); rw [← hy] at h; exact h)
      have HS5 := Lib.hid (by have h := ctsOf_succ l k (by rw [HN.out]; exact hlt); rw [← hy] at h; exact h)
      have HF := Lib.hid (And.intro (filt_len (ofB s lo hi) l k) (And.intro (filt_len (hereB its) l k) (filt_len (notB (hereB its)) l k)))
      have HOKE := Lib.hid (And.intro (evsOf_ok l k (by rw [HN.out]; omega)).1 (evsOf_wf l HW.out k (by rw [HN.out]; omega)))
      have HOKC := Lib.hid (ctsOf_ok l k (by rw [HN.out]; omega))
      have HYW := Lib.hid (show EvWf y from HW.out y (by rw [hy]; exact List.getElem_mem _))
      obtain ⟨F1, hF1⟩ : ∃ F, F = (l.take k).filter (ofB s lo hi) := ⟨_, rfl⟩
      obtain ⟨F2, hF2⟩ : ∃ F, F = (l.take k).filter (hereB its) := ⟨_, rfl⟩
      obtain ⟨F3, hF3⟩ : ∃ F, F = (l.take k).filter (notB (hereB its)) := ⟨_, rfl⟩
      obtain ⟨LE, hLE⟩ : ∃ F, F = evsOf (l.take k) := ⟨_, rfl⟩
      obtain ⟨LC, hLC⟩ : ∃ F, F = ctsOf (l.take k) := ⟨_, rfl⟩
      rw [← hF1] at HO HS1 HF
      rw [← hF2] at HO HS2 HF
      rw [← hF3] at HO HS3 HF
      rw [← hLE] at HMM HS4 HOKE
      rw [← hLC] at HMM HS5 HOKC
      obtain ⟨ps, pn, pg, pv⟩ := y
      obtain ⟨bo, hbo⟩ : ∃ b, b = ofB s lo hi ⟨ps, pn, pg, pv⟩ := ⟨_, rfl⟩
      have HBO := Lib.hid hbo
      have i1 : (0 : Int) ≤ (k : Int) := by omega
      have i2 : (k : Int) < (n : Int) := by omega
      have hbA : Below wr.heap.size wr (wr.alloc (.cells #[.int .i64 ps, .int .i64 pn, .int .i64 pg, .int .i64 pv] 99)) := (Below.refl _ _).alloc (Nat.le_refl _) _
      have hsr := HB.out.size
      have HNB := Lib.hid (And.intro (fun g hg => (own_lt HO.out.a g hg).2) (And.intro (fun g hg => (own_lt HO.out.b g hg).2) (fun g hg => (own_lt HO.out.c g hg).2)))
      have HOA := Lib.hid (HO.out.below hbA)
      have HMA := Lib.hid (HMM.out.below hbA)
      have HBA := Lib.hid (HB.out.trans (hbA.mono (by omega)))
      have HE := Lib.hid (heap_alloc_new wr (.cells #[.int .i64 ps, .int .i64 pn, .int .i64 pg, .int .i64 pv] 99))
      have HX7c := (HBA.out.block b7 h7M).trans HX7b.out
      have x0 := cell_of_row _ _ 0 _ _ _ HX7c
      have x1 := cell_of_row _ _ 1 _ _ _ HX7c
      have e0 := cell_of_row _ _ 0 _ _ _ HE.out
      have e1 := cell_of_row _ _ 1 _ _ _ HE.out
      have e2 := cell_of_row _ _ 2 _ _ _ HE.out
      have e3 := cell_of_row _ _ 3 _ _ _ HE.out
      simp only [List.getElem?_toArray, List.getElem?_cons_zero, List.getElem?_cons_succ] at x0 x1 e0 e1 e2 e3
      clear hix hy hF1 hF2 hF3 hLE hLC hbo hbA HO HMM HB HX7c HBW
      go_upto_region 9 with fail
      clear c0 c1 c2 c3
      obtain ⟨w5, hw5⟩ : ∃ q, q = wr.alloc (.cells #[.int .i64 ps, .int .i64 pn, .int .i64 pg, .int .i64 pv] 99) := ⟨_, rfl⟩
      rw [← hw5] at HOA HMA HBA HE x0 x1 e0 e1 e2 e3 ⊢
      obtain ⟨be, hbe⟩ : ∃ q, q = wr.heap.size := ⟨_, rfl⟩
      have hbeM : Wm.heap.size ≤ be := by omega
      rw [← hbe] at HE HNB e0 e1 e2 e3 ⊢
      clear hw5 hbe hsr
      go_cut [37, 63] from 37 to 105 (fun vi vc wx => vi = .int .i64 (k : Int) ∧ vc = .bool bo ∧ wx = w5)
      case first =>
        by_cases hA : s = -1
        · have t1 : (s == -1) = true := by rw [beq_iff_eq]; exact hA
          have a1 := decide_eq_true hA
          clear hA
          by_cases hB : pv < lo
          · have f1 := decide_eq_false (show ¬ lo ≤ pv by omega)
            have hv : bo = false := by rw [HBO.out]; simp only [ofB, a1, f1, Bool.true_or, Bool.or_true, Bool.false_or, Bool.or_false, Bool.true_and, Bool.and_true, Bool.false_and, Bool.and_false, Bool.and_self, Bool.or_self]
            clear HBO
            go_wp2_with fail
            go_meet
            exact ⟨rfl, by rw [hv], rfl⟩
          · have f1 := decide_eq_true (show lo ≤ pv by omega)
            by_cases hC : hi < pv
            · have f2 := decide_eq_false (show ¬ pv ≤ hi by omega)
              have hv : bo = false := by rw [HBO.out]; simp only [ofB, a1, f1, f2, Bool.true_or, Bool.or_true, Bool.false_or, Bool.or_false, Bool.true_and, Bool.and_true, Bool.false_and, Bool.and_false, Bool.and_self, Bool.or_self]
              clear HBO
              go_wp2_with fail
              go_meet
              exact ⟨rfl, by rw [hv], rfl⟩
            · have f2 := decide_eq_true (show pv ≤ hi by omega)
              have hv : bo = true := by rw [HBO.out]; simp only [ofB, a1, f1, f2, Bool.true_or, Bool.or_true, Bool.false_or, Bool.or_false, Bool.true_and, Bool.and_true, Bool.false_and, Bool.and_false, Bool.and_self, Bool.or_self]
              clear HBO
              go_wp2_with fail
              go_meet
              exact ⟨rfl, by rw [hv], rfl⟩
        · have t1 : (s == -1) = false := by rw [beq_eq_false_iff_ne]; exact hA
          have a1 := decide_eq_false hA
          clear hA
          by_cases hS : ps = s
          · have t2 : (s == ps) = true := by rw [beq_iff_eq]; exact hS.symm
            have a2 := decide_eq_true hS
            clear hS
            by_cases hB : pv < lo
            · have f1 := decide_eq_false (show ¬ lo ≤ pv by omega)
              have hv : bo = false := by rw [HBO.out]; simp only [ofB, a1, a2, f1, Bool.true_or, Bool.or_true, Bool.false_or, Bool.or_false, Bool.true_and, Bool.and_true, Bool.false_and, Bool.and_false, Bool.and_self, Bool.or_self]
              clear HBO
              go_wp2_with fail
              go_meet
              exact ⟨rfl, by rw [hv], rfl⟩
            · have f1 := decide_eq_true (show lo ≤ pv by omega)
              by_cases hC : hi < pv
              · have f2 := decide_eq_false (show ¬ pv ≤ hi by omega)
                have hv : bo = false := by rw [HBO.out]; simp only [ofB, a1, a2, f1, f2, Bool.true_or, Bool.or_true, Bool.false_or, Bool.or_false, Bool.true_and, Bool.and_true, Bool.false_and, Bool.and_false, Bool.and_self, Bool.or_self]
                clear HBO
                go_wp2_with fail
                go_meet
                exact ⟨rfl, by rw [hv], rfl⟩
              · have f2 := decide_eq_true (show pv ≤ hi by omega)
                have hv : bo = true := by rw [HBO.out]; simp only [ofB, a1, a2, f1, f2, Bool.true_or, Bool.or_true, Bool.false_or, Bool.or_false, Bool.true_and, Bool.and_true, Bool.false_and, Bool.and_false, Bool.and_self, Bool.or_self]
                clear HBO
                go_wp2_with fail
                go_meet
                exact ⟨rfl, by rw [hv], rfl⟩
          · have t2 : (s == ps) = false := by rw [beq_eq_false_iff_ne]; exact fun h => hS h.symm
            have a2 := decide_eq_false hS
            clear hS
            have hv : bo = false := by rw [HBO.out]; simp only [ofB, a1, a2, Bool.true_or, Bool.or_true, Bool.false_or, Bool.or_false, Bool.true_and, Bool.and_true, Bool.false_and, Bool.and_false, Bool.and_self, Bool.or_self]
            clear HBO
            go_wp2_with fail
            go_meet
            exact ⟨rfl, by rw [hv], rfl⟩
      case rest =>
        obtain ⟨rfl, rfl, hq⟩ := hcut
        rw [hq]
        clear x0 x1 hq
        cases bo with
        | true =>
          have hbT : Below w5.heap.size w5 (w5.alloc (.cells #[.int .i64 ps, .int .i64 pn, .int .i64 pg, .int .i64 pv] 99)) := (Below.refl _ _).alloc (Nat.le_refl _) _
          have HO6 := Lib.hid (HOA.out.below hbT)
          have HM6 := Lib.hid (HMA.out.below hbT)
          have HB6 := Lib.hid (HBA.out.trans (hbT.mono (by have := HBA.out.size; omega)))
          have HE6 := Lib.hid (heap_below HE.out hbT)
          have HW6 := Lib.hid HB6.out.size
          have HT6 := Lib.hid (heap_alloc_new w5 (.cells #[.int .i64 ps, .int .i64 pn, .int .i64 pg, .int .i64 pv] 99))
          clear hbT HOA HMA HBA HE
          go_wp2_with (at_builtin; go_must (refine wpList_append_blk rfl _ _ 93 rfl Wm.heap.size 99 (.agg #[.int .i64 0, .int .i64 0, .int .i64 0, .int .i64 0]) 4 32 Try.underlying93 (by kernel_rfl) rfl (by decide) _ _ _ rfl HO6.out.a w5.heap.size _ _ rfl HT6.out rfl rfl (by have := HF.out.1; omega) (by decide) HW6.out ?_))
          intro g' cap' w8 hown hg hor hlt'
          have HO8 := Lib.hid (HO6.out.p1 ⟨ps, pn, pg, pv⟩ hown hg (by rw [World.size_alloc]; exact hor))
          have HM8 := Lib.hid (HM6.out.kept hg (fun e => by have := (own_lt HO6.out.a M1 e.symm).1; omega) (fun e => by have := (own_lt HO6.out.a M2 e.symm).1; omega))
          have HB8 := Lib.hid (HB6.out.grown hg (by have := HW6.out; omega) (fun j hj => by have := (own_lt HO6.out.a j hj).1; omega))
          have HE8 := Lib.hid ((hg.block be (lt_of_heap HE6.out) (fun e => by have := HNB.out.1 be e.symm; omega)).trans HE6.out)
          have HS1b := Lib.hid (HS1.out.trans (by rw [if_pos HBO.out.symm]))
          clear hown hg hor hlt' e0 e1 e2 e3 HO6 HM6 HB6 HE6 HW6 HT6
          obtain ⟨t9, ht9⟩ : ∃ t, t = Value.slice (some ⟨g', 0, none⟩) (F1.length + 1) cap' := ⟨_, rfl⟩
          rw [← ht9] at HO8 ⊢
          clear ht9
          have e1 := cell_of_row _ _ 1 _ _ _ HE8.out
          have e2 := cell_of_row _ _ 2 _ _ _ HE8.out
          have x2 := cell_of_row _ _ 2 _ _ _ ((HB8.out.block b4 h4M).trans HX4b.out)
          simp only [List.getElem?_toArray, List.getElem?_cons_zero, List.getElem?_cons_succ] at e1 e2 x2
          have HBW8 := Lib.hid (HBb.out.trans (HB8.out.mono hWM))
          have hw8s := HB8.out.size
          go_wp2_with fail
          clear x2 e1 e2
          go_loopg [16, 71] m (fun gk vh vi wx => ∃ (j : Nat), j ≤ m ∧ gk = m - j ∧ vi = .int .i64 j ∧ vh = .bool ((its.take j).any (isEnt pn pg)) ∧ Hid (Below w8.heap.size w8 wx))
          case atStart => exact ⟨0, Nat.zero_le _, rfl, rfl, rfl, Lib.hid (Below.refl _ _)⟩
          case round =>
            obtain ⟨j, hj, g3, rfl, rfl, HBJ⟩ := hrel
            have G3 := Lib.hid g3
            clear g3
            by_cases hlj : j < m
            · obtain ⟨xi, rfl, hxi, hixi⟩ := (HZI.out.below ItemAt.abides (HBW8.out.trans (HBJ.out.mono (by have := HBW8.out.size; omega)))) (by rw [← HM.out]; omega)
              obtain ⟨c0, c1, ac, cc, c2, _⟩ := hixi j (by rw [← HM.out]; exact hlj)
              have hsu := any_succ (isEnt pn pg) its j (by rw [← HM.out]; exact hlj)
              obtain ⟨y, hy⟩ : ∃ y, y = its[j]'(by rw [← HM.out]; exact hlj) := ⟨_, rfl⟩
              rw [← hy] at c0 c1 c2 hsu
              obtain ⟨yn, yg, cs⟩ := y
              simp only at c0 c1 c2
              have he := eqEnt yn yg pn pg
              rw [show isEnt pn pg ⟨yn, yg, cs⟩ = (decide (yn = pn) && decide (yg = pg)) from rfl] at hsu
              obtain ⟨R, hR⟩ : ∃ R, R = (decide (yn = pn) && decide (yg = pg)) := ⟨_, rfl⟩
              rw [← hR] at he hsu
              obtain ⟨nc, hnc⟩ : ∃ q, q = cs.length := ⟨_, rfl⟩
              rw [← hnc] at c2
              obtain ⟨hb, hhb⟩ : ∃ b, b = (its.take j).any (isEnt pn pg) := ⟨_, rfl⟩
              rw [← hhb] at hsu ⊢
              have HSU := Lib.hid hsu
              have i3 : (0 : Int) ≤ (j : Int) := by omega
              have i4 : (j : Int) < (m : Int) := by omega
              have hbI : Below wr.heap.size wr (wr.alloc (.cells #[.int .i64 yn, .int .i64 yg, .slice ac nc cc] 80)) := (Below.refl _ _).alloc (Nat.le_refl _) _
              have HBJ2 := Lib.hid (HBJ.out.trans (hbI.mono HBJ.out.size))
              have HEJ := heap_below HE8.out HBJ2.out
              have e1 := cell_of_row _ _ 1 _ _ _ HEJ
              have e2 := cell_of_row _ _ 2 _ _ _ HEJ
              simp only [List.getElem?_toArray, List.getElem?_cons_zero, List.getElem?_cons_succ] at e1 e2
              clear hixi hy hR hnc hhb hsu hbI HEJ HBJ
              cases hb with
              | true =>
                go_wp2_with fail
                go_roundg (m - (j + 1))
                case measure => rw [G3.out]; omega
                case rel => exact ⟨j + 1, hlj, rfl, by go_num, by rw [HSU.out]; rfl, HBJ2⟩
              | false =>
                go_wp2_with fail
                go_roundg (m - (j + 1))
                case measure => rw [G3.out]; omega
                case rel => exact ⟨j + 1, hlj, rfl, by go_num, by rw [HSU.out, Bool.false_or], HBJ2⟩
            · have ht : its.take j = its := List.take_of_length_le (by rw [← HM.out]; omega)
              rw [ht]
              clear ht
              obtain ⟨hb, hhb⟩ : ∃ b, b = its.any (isEnt pn pg) := ⟨_, rfl⟩
              rw [← hhb]
              have HHB := Lib.hid (show hereB its ⟨ps, pn, pg, pv⟩ = hb from hhb.symm)
              clear hhb
              have HO9 := Lib.hid (HO8.out.below HBJ.out)
              have HM9 := Lib.hid (HM8.out.below HBJ.out)
              have HB9 := Lib.hid (HB8.out.trans (HBJ.out.mono (by omega)))
              have HE9 := Lib.hid (heap_below HE8.out HBJ.out)
              have e0 := cell_of_row _ _ 0 _ _ _ HE9.out
              have e1 := cell_of_row _ _ 1 _ _ _ HE9.out
              have e2 := cell_of_row _ _ 2 _ _ _ HE9.out
              have e3 := cell_of_row _ _ 3 _ _ _ HE9.out
              simp only [List.getElem?_toArray, List.getElem?_cons_zero, List.getElem?_cons_succ] at e0 e1 e2 e3
              clear HBJ HO8 HM8 HE8
              have hbT : Below wr.heap.size wr (wr.alloc (.cells #[.int .i64 ps, .int .i64 pn, .int .i64 pg, .int .i64 pv] 99)) := (Below.refl _ _).alloc (Nat.le_refl _) _
              have HO10 := Lib.hid (HO9.out.below hbT)
              have HM10 := Lib.hid (HM9.out.below hbT)
              have HB10 := Lib.hid (HB9.out.trans (hbT.mono (by have := HB9.out.size; omega)))
              have HE10 := Lib.hid (heap_below HE9.out hbT)
              have HW10 := Lib.hid HB10.out.size
              have HT10 := Lib.hid (heap_alloc_new wr (.cells #[.int .i64 ps, .int .i64 pn, .int .i64 pg, .int .i64 pv] 99))
              clear hbT HO9 HM9 HB9 HE9
              cases hb with
              | true =>
                go_wp2_with (at_builtin; go_must (refine wpList_append_blk rfl _ _ 93 rfl Wm.heap.size 99 (.agg #[.int .i64 0, .int .i64 0, .int .i64 0, .int .i64 0]) 4 32 Try.underlying93 (by kernel_rfl) rfl (by decide) _ _ _ rfl HO10.out.b wr.heap.size _ _ rfl HT10.out rfl rfl (by have := HF.out.2.1; omega) (by decide) HW10.out ?_))
                intro g' cap' w11 hown hg hor hlt'
                have HO11 := Lib.hid (HO10.out.swap12.p1 ⟨ps, pn, pg, pv⟩ hown hg (by rw [World.size_alloc]; exact hor)).swap12
                have HM11 := Lib.hid (HM10.out.kept hg (fun e => by have := (own_lt HO10.out.b M1 e.symm).1; omega) (fun e => by have := (own_lt HO10.out.b M2 e.symm).1; omega))
                have HB11 := Lib.hid (HB10.out.grown hg (by have := HW10.out; omega) (fun j hj => by have := (own_lt HO10.out.b j hj).1; omega))
                have HE11 := Lib.hid ((hg.block be (lt_of_heap HE10.out) (fun e => by have := HNB.out.2.1 be e.symm; omega)).trans HE10.out)
                have HS2b := Lib.hid (HS2.out.trans (by rw [if_pos HHB.out]))
                have HS3b := Lib.hid (HS3.out.trans (by rw [if_neg (by unfold notB; rw [HHB.out]; decide), List.append_nil]))
                clear hown hg hor hlt' e0 e1 e2 e3 HO10 HM10 HB10 HE10 HW10 HT10
                obtain ⟨t10, ht10⟩ : ∃ t, t = Value.slice (some ⟨g', 0, none⟩) (F2.length + 1) cap' := ⟨_, rfl⟩
                rw [← ht10] at HO11 ⊢
                clear ht10
                obtain ⟨t11, ht11⟩ : ∃ t, t = u11 := ⟨_, rfl⟩
                rw [← ht11] at HO11 ⊢
                clear ht11
                obtain ⟨⟨D1, a1, b1⟩, ⟨D2, a2, b2⟩⟩ := HM11.out
                have HR1 := Lib.hid (ev_put ⟨ps, pn, pg, pv⟩ HOKE.out.1 HOKE.out.2 HYW.out b1)
                have HR2 := Lib.hid b2
                have HA2 := Lib.hid a2
                have hk1 := key_lk HYW.out
                have HKI := Lib.hid (key_of HYW.out.1)
                have e0 := cell_of_row _ _ 0 _ _ _ HE11.out
                have e1 := cell_of_row _ _ 1 _ _ _ HE11.out
                have e2 := cell_of_row _ _ 2 _ _ _ HE11.out
                have e3 := cell_of_row _ _ 3 _ _ _ HE11.out
                simp only [List.getElem?_toArray, List.getElem?_cons_zero, List.getElem?_cons_succ] at e0 e1 e2 e3
                clear b1 b2 a2 HM11
                go_wp2_with (at_mapUpdate; go_must (refine wpList_mapUpdate_own _ rfl _ _ _ 100 rfl 99 99 keyEv Try.underlying100 RV M1 k D1 rfl a1 (by have : maxLen = 9223372036854775807 := rfl; omega) (kv ⟨ps, pn, pg, pv⟩) _ (lk ⟨ps, pn, pg, pv⟩) rfl rfl hk1 (.held _) [] rfl ?_))
                intro w12 hown12 hg12
                have HA1 := Lib.hid hown12
                have ha2 := HA2.out.kept hg12 (fun e => by injection e with e; omega)
                have HO12 := Lib.hid (HO11.out.kept hg12 (by omega))
                have HB12 := Lib.hid (HB11.out.grown hg12 (by have := HB11.out.size; omega) (fun j hj => by injection hj with hj; omega))
                have he12 := (hg12.block be (lt_of_heap HE11.out) (fun e => by injection e with e; omega)).trans HE11.out
                have e0 := cell_of_row _ _ 0 _ _ _ he12
                simp only [List.getElem?_toArray, List.getElem?_cons_zero] at e0
                obtain ⟨cv, hc1, hc2⟩ := ct_look ps HR2.out
                have hrun := run_look ha2 keyInt Try.underlying101 (zero_int w12) HKI.out hc1
                have hcb : 0 ≤ cv ∧ cv ≤ (k : Int) := by
                  rcases hc2 with h | ⟨y, hy, -, h⟩
                  · omega
                  · have := HOKC.out.2.1 y hy; omega
                have hwrap : IntKind.i64.wrap (cv + 1) = cv + 1 := by rw [IntKind.wrap_i64]; omega
                have HR3 := Lib.hid (ct_put ps cv HOKC.out.1 HR2.out hc1)
                clear hown12 hg12 he12 hc1 hc2 hk1 a1 HA2 HE11 HO11 HB11
                go_wp2_with (at_mapUpdate; go_must (refine wpList_mapUpdate_own _ rfl _ _ _ 101 rfl 3 3 keyInt Try.underlying101 RV M2 k D2 rfl ha2 (by have : maxLen = 9223372036854775807 := rfl; omega) (.int .i64 ps) _ (.int .i64 ps) rfl rfl HKI.out (.held _) [] rfl ?_))
                intro w13 hown13 hg13
                have HM13 := Lib.hid (show Maps2 M1 M2 (k + 1) (evAdd LE ⟨ps, pn, pg, pv⟩) (ctAdd LC ps) w13 from ⟨⟨_, HA1.out.kept hg13 (fun e => by injection e with e; omega), HR1.out⟩, ⟨_, hown13, HR3.out⟩⟩)
                have HO13 := Lib.hid (HO12.out.kept hg13 hMm)
                have HB13 := Lib.hid (HB12.out.grown hg13 (by have := HB12.out.size; omega) (fun j hj => by injection hj with hj; omega))
                clear hown13 hg13 hrun hwrap ha2 HO12 HB12 HA1 HR1 HR2 HR3
                go_wp2_with fail
                go_roundg (n - (k + 1))
                case measure => rw [G2.out]; omega
                case rel => exact ⟨k + 1, by omega, rfl, by go_num, by rw [HS1b.out, HS2b.out, HS3b.out]; exact HO13, by rw [HS4.out, HS5.out]; exact HM13, HB13⟩
              | false =>
                go_wp2_with (at_builtin; go_must (refine wpList_append_blk rfl _ _ 93 rfl Wm.heap.size 99 (.agg #[.int .i64 0, .int .i64 0, .int .i64 0, .int .i64 0]) 4 32 Try.underlying93 (by kernel_rfl) rfl (by decide) _ _ _ rfl HO10.out.c wr.heap.size _ _ rfl HT10.out rfl rfl (by have := HF.out.2.2; omega) (by decide) HW10.out ?_))
                intro g' cap' w11 hown hg hor hlt'
                have HO11 := Lib.hid (HO10.out.swap13.p1 ⟨ps, pn, pg, pv⟩ hown hg (by rw [World.size_alloc]; exact hor)).swap13
                have HM11 := Lib.hid (HM10.out.kept hg (fun e => by have := (own_lt HO10.out.c M1 e.symm).1; omega) (fun e => by have := (own_lt HO10.out.c M2 e.symm).1; omega))
                have HB11 := Lib.hid (HB10.out.grown hg (by have := HW10.out; omega) (fun j hj => by have := (own_lt HO10.out.c j hj).1; omega))
                have HE11 := Lib.hid ((hg.block be (lt_of_heap HE10.out) (fun e => by have := HNB.out.2.2 be e.symm; omega)).trans HE10.out)
                have HS2b := Lib.hid (HS2.out.trans (by rw [if_neg (by rw [HHB.out]; decide), List.append_nil]))
                have HS3b := Lib.hid (HS3.out.trans (by rw [if_pos (by unfold notB; rw [HHB.out]; rfl)]))
                clear hown hg hor hlt' e0 e1 e2 e3 HO10 HM10 HB10 HE10 HW10 HT10
                obtain ⟨t11, ht11⟩ : ∃ t, t = Value.slice (some ⟨g', 0, none⟩) (F3.length + 1) cap' := ⟨_, rfl⟩
                rw [← ht11] at HO11 ⊢
                clear ht11
                obtain ⟨t10, ht10⟩ : ∃ t, t = u10 := ⟨_, rfl⟩
                rw [← ht10] at HO11 ⊢
                clear ht10
                obtain ⟨⟨D1, a1, b1⟩, ⟨D2, a2, b2⟩⟩ := HM11.out
                have HR1 := Lib.hid (ev_put ⟨ps, pn, pg, pv⟩ HOKE.out.1 HOKE.out.2 HYW.out b1)
                have HR2 := Lib.hid b2
                have HA2 := Lib.hid a2
                have hk1 := key_lk HYW.out
                have HKI := Lib.hid (key_of HYW.out.1)
                have e0 := cell_of_row _ _ 0 _ _ _ HE11.out
                have e1 := cell_of_row _ _ 1 _ _ _ HE11.out
                have e2 := cell_of_row _ _ 2 _ _ _ HE11.out
                have e3 := cell_of_row _ _ 3 _ _ _ HE11.out
                simp only [List.getElem?_toArray, List.getElem?_cons_zero, List.getElem?_cons_succ] at e0 e1 e2 e3
                clear b1 b2 a2 HM11
                go_wp2_with (at_mapUpdate; go_must (refine wpList_mapUpdate_own _ rfl _ _ _ 100 rfl 99 99 keyEv Try.underlying100 RV M1 k D1 rfl a1 (by have : maxLen = 9223372036854775807 := rfl; omega) (kv ⟨ps, pn, pg, pv⟩) _ (lk ⟨ps, pn, pg, pv⟩) rfl rfl hk1 (.held _) [] rfl ?_))
                intro w12 hown12 hg12
                have HA1 := Lib.hid hown12
                have ha2 := HA2.out.kept hg12 (fun e => by injection e with e; omega)
                have HO12 := Lib.hid (HO11.out.kept hg12 (by omega))
                have HB12 := Lib.hid (HB11.out.grown hg12 (by have := HB11.out.size; omega) (fun j hj => by injection hj with hj; omega))
                have he12 := (hg12.block be (lt_of_heap HE11.out) (fun e => by injection e with e; omega)).trans HE11.out
                have e0 := cell_of_row _ _ 0 _ _ _ he12
                simp only [List.getElem?_toArray, List.getElem?_cons_zero] at e0
                obtain ⟨cv, hc1, hc2⟩ := ct_look ps HR2.out
                have hrun := run_look ha2 keyInt Try.underlying101 (zero_int w12) HKI.out hc1
                have hcb : 0 ≤ cv ∧ cv ≤ (k : Int) := by
                  rcases hc2 with h | ⟨y, hy, -, h⟩
                  · omega
                  · have := HOKC.out.2.1 y hy; omega
                have hwrap : IntKind.i64.wrap (cv + 1) = cv + 1 := by rw [IntKind.wrap_i64]; omega
                have HR3 := Lib.hid (ct_put ps cv HOKC.out.1 HR2.out hc1)
                clear hown12 hg12 he12 hc1 hc2 hk1 a1 HA2 HE11 HO11 HB11
                go_wp2_with (at_mapUpdate; go_must (refine wpList_mapUpdate_own _ rfl _ _ _ 101 rfl 3 3 keyInt Try.underlying101 RV M2 k D2 rfl ha2 (by have : maxLen = 9223372036854775807 := rfl; omega) (.int .i64 ps) _ (.int .i64 ps) rfl rfl HKI.out (.held _) [] rfl ?_))
                intro w13 hown13 hg13
                have HM13 := Lib.hid (show Maps2 M1 M2 (k + 1) (evAdd LE ⟨ps, pn, pg, pv⟩) (ctAdd LC ps) w13 from ⟨⟨_, HA1.out.kept hg13 (fun e => by injection e with e; omega), HR1.out⟩, ⟨_, hown13, HR3.out⟩⟩)
                have HO13 := Lib.hid (HO12.out.kept hg13 hMm)
                have HB13 := Lib.hid (HB12.out.grown hg13 (by have := HB12.out.size; omega) (fun j hj => by injection hj with hj; omega))
                clear hown13 hg13 hrun hwrap ha2 HO12 HB12 HA1 HR1 HR2 HR3
                go_wp2_with fail
                go_roundg (n - (k + 1))
                case measure => rw [G2.out]; omega
                case rel => exact ⟨k + 1, by omega, rfl, by go_num, by rw [HS1b.out, HS2b.out, HS3b.out]; exact HO13, by rw [HS4.out, HS5.out]; exact HM13, HB13⟩
        | false =>
          clear e0 e3
          obtain ⟨w8, hw8⟩ : ∃ q, q = w5 := ⟨_, rfl⟩
          obtain ⟨t9, ht9⟩ : ∃ t, t = u9 := ⟨_, rfl⟩
          rw [← hw8] at HOA HMA HBA HE ⊢
          rw [← ht9] at HOA ⊢
          clear e1 e2 hw8 ht9
          have HO8 := HOA
          have HM8 := HMA
          have HB8 := HBA
          have HE8 := HE
          have HS1b := Lib.hid (HS1.out.trans (by rw [if_neg (by rw [← HBO.out]; decide), List.append_nil]))
          clear HOA HMA HBA HE
          have e1 := cell_of_row _ _ 1 _ _ _ HE8.out
          have e2 := cell_of_row _ _ 2 _ _ _ HE8.out
          have x2 := cell_of_row _ _ 2 _ _ _ ((HB8.out.block b4 h4M).trans HX4b.out)
          simp only [List.getElem?_toArray, List.getElem?_cons_zero, List.getElem?_cons_succ] at e1 e2 x2
          have HBW8 := Lib.hid (HBb.out.trans (HB8.out.mono hWM))
          have hw8s := HB8.out.size
          go_wp2_with fail
          clear x2 e1 e2
          go_loopg [16, 71] m (fun gk vh vi wx => ∃ (j : Nat), j ≤ m ∧ gk = m - j ∧ vi = .int .i64 j ∧ vh = .bool ((its.take j).any (isEnt pn pg)) ∧ Hid (Below w8.heap.size w8 wx))
          case atStart => exact ⟨0, Nat.zero_le _, rfl, rfl, rfl, Lib.hid (Below.refl _ _)⟩
          case round =>
            obtain ⟨j, hj, g3, rfl, rfl, HBJ⟩ := hrel
            have G3 := Lib.hid g3
            clear g3
            by_cases hlj : j < m
            · obtain ⟨xi, rfl, hxi, hixi⟩ := (HZI.out.below ItemAt.abides (HBW8.out.trans (HBJ.out.mono (by have := HBW8.out.size; omega)))) (by rw [← HM.out]; omega)
              obtain ⟨c0, c1, ac, cc, c2, _⟩ := hixi j (by rw [← HM.out]; exact hlj)
              have hsu := any_succ (isEnt pn pg) its j (by rw [← HM.out]; exact hlj)
              obtain ⟨y, hy⟩ : ∃ y, y = its[j]'(by rw [← HM.out]; exact hlj) := ⟨_, rfl⟩
              rw [← hy] at c0 c1 c2 hsu
              obtain ⟨yn, yg, cs⟩ := y
              simp only at c0 c1 c2
              have he := eqEnt yn yg pn pg
              rw [show isEnt pn pg ⟨yn, yg, cs⟩ = (decide (yn = pn) && decide (yg = pg)) from rfl] at hsu
              obtain ⟨R, hR⟩ : ∃ R, R = (decide (yn = pn) && decide (yg = pg)) := ⟨_, rfl⟩
              rw [← hR] at he hsu
              obtain ⟨nc, hnc⟩ : ∃ q, q = cs.length := ⟨_, rfl⟩
              rw [← hnc] at c2
              obtain ⟨hb, hhb⟩ : ∃ b, b = (its.take j).any (isEnt pn pg) := ⟨_, rfl⟩
              rw [← hhb] at hsu ⊢
              have HSU := Lib.hid hsu
              have i3 : (0 : Int) ≤ (j : Int) := by omega
              have i4 : (j : Int) < (m : Int) := by omega
              have hbI : Below wr.heap.size wr (wr.alloc (.cells #[.int .i64 yn, .int .i64 yg, .slice ac nc cc] 80)) := (Below.refl _ _).alloc (Nat.le_refl _) _
              have HBJ2 := Lib.hid (HBJ.out.trans (hbI.mono HBJ.out.size))
              have HEJ := heap_below HE8.out HBJ2.out
              have e1 := cell_of_row _ _ 1 _ _ _ HEJ
              have e2 := cell_of_row _ _ 2 _ _ _ HEJ
              simp only [List.getElem?_toArray, List.getElem?_cons_zero, List.getElem?_cons_succ] at e1 e2
              clear hixi hy hR hnc hhb hsu hbI HEJ HBJ
              cases hb with
              | true =>
                go_wp2_with fail
                go_roundg (m - (j + 1))
                case measure => rw [G3.out]; omega
                case rel => exact ⟨j + 1, hlj, rfl, by go_num, by rw [HSU.out]; rfl, HBJ2⟩
              | false =>
                go_wp2_with fail
                go_roundg (m - (j + 1))
                case measure => rw [G3.out]; omega
                case rel => exact ⟨j + 1, hlj, rfl, by go_num, by rw [HSU.out, Bool.false_or], HBJ2⟩
            · have ht : its.take j = its := List.take_of_length_le (by rw [← HM.out]; omega)
              rw [ht]
              clear ht
              obtain ⟨hb, hhb⟩ : ∃ b, b = its.any (isEnt pn pg) := ⟨_, rfl⟩
              rw [← hhb]
              have HHB := Lib.hid (show hereB its ⟨ps, pn, pg, pv⟩ = hb from hhb.symm)
              clear hhb
              have HO9 := Lib.hid (HO8.out.below HBJ.out)
              have HM9 := Lib.hid (HM8.out.below HBJ.out)
              have HB9 := Lib.hid (HB8.out.trans (HBJ.out.mono (by omega)))
              have HE9 := Lib.hid (heap_below HE8.out HBJ.out)
              have e0 := cell_of_row _ _ 0 _ _ _ HE9.out
              have e1 := cell_of_row _ _ 1 _ _ _ HE9.out
              have e2 := cell_of_row _ _ 2 _ _ _ HE9.out
              have e3 := cell_of_row _ _ 3 _ _ _ HE9.out
              simp only [List.getElem?_toArray, List.getElem?_cons_zero, List.getElem?_cons_succ] at e0 e1 e2 e3
              clear HBJ HO8 HM8 HE8
              have hbT : Below wr.heap.size wr (wr.alloc (.cells #[.int .i64 ps, .int .i64 pn, .int .i64 pg, .int .i64 pv] 99)) := (Below.refl _ _).alloc (Nat.le_refl _) _
              have HO10 := Lib.hid (HO9.out.below hbT)
              have HM10 := Lib.hid (HM9.out.below hbT)
              have HB10 := Lib.hid (HB9.out.trans (hbT.mono (by have := HB9.out.size; omega)))
              have HE10 := Lib.hid (heap_below HE9.out hbT)
              have HW10 := Lib.hid HB10.out.size
              have HT10 := Lib.hid (heap_alloc_new wr (.cells #[.int .i64 ps, .int .i64 pn, .int .i64 pg, .int .i64 pv] 99))
              clear hbT HO9 HM9 HB9 HE9
              cases hb with
              | true =>
                go_wp2_with (at_builtin; go_must (refine wpList_append_blk rfl _ _ 93 rfl Wm.heap.size 99 (.agg #[.int .i64 0, .int .i64 0, .int .i64 0, .int .i64 0]) 4 32 Try.underlying93 (by kernel_rfl) rfl (by decide) _ _ _ rfl HO10.out.b wr.heap.size _ _ rfl HT10.out rfl rfl (by have := HF.out.2.1; omega) (by decide) HW10.out ?_))
                intro g' cap' w11 hown hg hor hlt'
                have HO11 := Lib.hid (HO10.out.swap12.p1 ⟨ps, pn, pg, pv⟩ hown hg (by rw [World.size_alloc]; exact hor)).swap12
                have HM11 := Lib.hid (HM10.out.kept hg (fun e => by have := (own_lt HO10.out.b M1 e.symm).1; omega) (fun e => by have := (own_lt HO10.out.b M2 e.symm).1; omega))
                have HB11 := Lib.hid (HB10.out.grown hg (by have := HW10.out; omega) (fun j hj => by have := (own_lt HO10.out.b j hj).1; omega))
                have HE11 := Lib.hid ((hg.block be (lt_of_heap HE10.out) (fun e => by have := HNB.out.2.1 be e.symm; omega)).trans HE10.out)
                have HS2b := Lib.hid (HS2.out.trans (by rw [if_pos HHB.out]))
                have HS3b := Lib.hid (HS3.out.trans (by rw [if_neg (by unfold notB; rw [HHB.out]; decide), List.append_nil]))
                clear hown hg hor hlt' e0 e1 e2 e3 HO10 HM10 HB10 HE10 HW10 HT10
                obtain ⟨t10, ht10⟩ : ∃ t, t = Value.slice (some ⟨g', 0, none⟩) (F2.length + 1) cap' := ⟨_, rfl⟩
                rw [← ht10] at HO11 ⊢
                clear ht10
                obtain ⟨t11, ht11⟩ : ∃ t, t = u11 := ⟨_, rfl⟩
                rw [← ht11] at HO11 ⊢
                clear ht11
                obtain ⟨⟨D1, a1, b1⟩, ⟨D2, a2, b2⟩⟩ := HM11.out
                have HR1 := Lib.hid (ev_put ⟨ps, pn, pg, pv⟩ HOKE.out.1 HOKE.out.2 HYW.out b1)
                have HR2 := Lib.hid b2
                have HA2 := Lib.hid a2
                have hk1 := key_lk HYW.out
                have HKI := Lib.hid (key_of HYW.out.1)
                have e0 := cell_of_row _ _ 0 _ _ _ HE11.out
                have e1 := cell_of_row _ _ 1 _ _ _ HE11.out
                have e2 := cell_of_row _ _ 2 _ _ _ HE11.out
                have e3 := cell_of_row _ _ 3 _ _ _ HE11.out
                simp only [List.getElem?_toArray, List.getElem?_cons_zero, List.getElem?_cons_succ] at e0 e1 e2 e3
                clear b1 b2 a2 HM11
                go_wp2_with (at_mapUpdate; go_must (refine wpList_mapUpdate_own _ rfl _ _ _ 100 rfl 99 99 keyEv Try.underlying100 RV M1 k D1 rfl a1 (by have : maxLen = 9223372036854775807 := rfl; omega) (kv ⟨ps, pn, pg, pv⟩) _ (lk ⟨ps, pn, pg, pv⟩) rfl rfl hk1 (.held _) [] rfl ?_))
                intro w12 hown12 hg12
                have HA1 := Lib.hid hown12
                have ha2 := HA2.out.kept hg12 (fun e => by injection e with e; omega)
                have HO12 := Lib.hid (HO11.out.kept hg12 (by omega))
                have HB12 := Lib.hid (HB11.out.grown hg12 (by have := HB11.out.size; omega) (fun j hj => by injection hj with hj; omega))
                have he12 := (hg12.block be (lt_of_heap HE11.out) (fun e => by injection e with e; omega)).trans HE11.out
                have e0 := cell_of_row _ _ 0 _ _ _ he12
                simp only [List.getElem?_toArray, List.getElem?_cons_zero] at e0
                obtain ⟨cv, hc1, hc2⟩ := ct_look ps HR2.out
                have hrun := run_look ha2 keyInt Try.underlying101 (zero_int w12) HKI.out hc1
                have hcb : 0 ≤ cv ∧ cv ≤ (k : Int) := by
                  rcases hc2 with h | ⟨y, hy, -, h⟩
                  · omega
                  · have := HOKC.out.2.1 y hy; omega
                have hwrap : IntKind.i64.wrap (cv + 1) = cv + 1 := by rw [IntKind.wrap_i64]; omega
                have HR3 := Lib.hid (ct_put ps cv HOKC.out.1 HR2.out hc1)
                clear hown12 hg12 he12 hc1 hc2 hk1 a1 HA2 HE11 HO11 HB11
                go_wp2_with (at_mapUpdate; go_must (refine wpList_mapUpdate_own _ rfl _ _ _ 101 rfl 3 3 keyInt Try.underlying101 RV M2 k D2 rfl ha2 (by have : maxLen = 9223372036854775807 := rfl; omega) (.int .i64 ps) _ (.int .i64 ps) rfl rfl HKI.out (.held _) [] rfl ?_))
                intro w13 hown13 hg13
                have HM13 := Lib.hid (show Maps2 M1 M2 (k + 1) (evAdd LE ⟨ps, pn, pg, pv⟩) (ctAdd LC ps) w13 from ⟨⟨_, HA1.out.kept hg13 (fun e => by injection e with e; omega), HR1.out⟩, ⟨_, hown13, HR3.out⟩⟩)
                have HO13 := Lib.hid (HO12.out.kept hg13 hMm)
                have HB13 := Lib.hid (HB12.out.grown hg13 (by have := HB12.out.size; omega) (fun j hj => by injection hj with hj; omega))
                clear hown13 hg13 hrun hwrap ha2 HO12 HB12 HA1 HR1 HR2 HR3
                go_wp2_with fail
                go_roundg (n - (k + 1))
                case measure => rw [G2.out]; omega
                case rel => exact ⟨k + 1, by omega, rfl, by go_num, by rw [HS1b.out, HS2b.out, HS3b.out]; exact HO13, by rw [HS4.out, HS5.out]; exact HM13, HB13⟩
              | false =>
                go_wp2_with (at_builtin; go_must (refine wpList_append_blk rfl _ _ 93 rfl Wm.heap.size 99 (.agg #[.int .i64 0, .int .i64 0, .int .i64 0, .int .i64 0]) 4 32 Try.underlying93 (by kernel_rfl) rfl (by decide) _ _ _ rfl HO10.out.c wr.heap.size _ _ rfl HT10.out rfl rfl (by have := HF.out.2.2; omega) (by decide) HW10.out ?_))
                intro g' cap' w11 hown hg hor hlt'
                have HO11 := Lib.hid (HO10.out.swap13.p1 ⟨ps, pn, pg, pv⟩ hown hg (by rw [World.size_alloc]; exact hor)).swap13
                have HM11 := Lib.hid (HM10.out.kept hg (fun e => by have := (own_lt HO10.out.c M1 e.symm).1; omega) (fun e => by have := (own_lt HO10.out.c M2 e.symm).1; omega))
                have HB11 := Lib.hid (HB10.out.grown hg (by have := HW10.out; omega) (fun j hj => by have := (own_lt HO10.out.c j hj).1; omega))
                have HE11 := Lib.hid ((hg.block be (lt_of_heap HE10.out) (fun e => by have := HNB.out.2.2 be e.symm; omega)).trans HE10.out)
                have HS2b := Lib.hid (HS2.out.trans (by rw [if_neg (by rw [HHB.out]; decide), List.append_nil]))
                have HS3b := Lib.hid (HS3.out.trans (by rw [if_pos (by unfold notB; rw [HHB.out]; rfl)]))
                clear hown hg hor hlt' e0 e1 e2 e3 HO10 HM10 HB10 HE10 HW10 HT10
                obtain ⟨t11, ht11⟩ : ∃ t, t = Value.slice (some ⟨g', 0, none⟩) (F3.length + 1) cap' := ⟨_, rfl⟩
                rw [← ht11] at HO11 ⊢
                clear ht11
                obtain ⟨t10, ht10⟩ : ∃ t, t = u10 := ⟨_, rfl⟩
                rw [← ht10] at HO11 ⊢
                clear ht10
                obtain ⟨⟨D1, a1, b1⟩, ⟨D2, a2, b2⟩⟩ := HM11.out
                have HR1 := Lib.hid (ev_put ⟨ps, pn, pg, pv⟩ HOKE.out.1 HOKE.out.2 HYW.out b1)
                have HR2 := Lib.hid b2
                have HA2 := Lib.hid a2
                have hk1 := key_lk HYW.out
                have HKI := Lib.hid (key_of HYW.out.1)
                have e0 := cell_of_row _ _ 0 _ _ _ HE11.out
                have e1 := cell_of_row _ _ 1 _ _ _ HE11.out
                have e2 := cell_of_row _ _ 2 _ _ _ HE11.out
                have e3 := cell_of_row _ _ 3 _ _ _ HE11.out
                simp only [List.getElem?_toArray, List.getElem?_cons_zero, List.getElem?_cons_succ] at e0 e1 e2 e3
                clear b1 b2 a2 HM11
                go_wp2_with (at_mapUpdate; go_must (refine wpList_mapUpdate_own _ rfl _ _ _ 100 rfl 99 99 keyEv Try.underlying100 RV M1 k D1 rfl a1 (by have : maxLen = 9223372036854775807 := rfl; omega) (kv ⟨ps, pn, pg, pv⟩) _ (lk ⟨ps, pn, pg, pv⟩) rfl rfl hk1 (.held _) [] rfl ?_))
                intro w12 hown12 hg12
                have HA1 := Lib.hid hown12
                have ha2 := HA2.out.kept hg12 (fun e => by injection e with e; omega)
                have HO12 := Lib.hid (HO11.out.kept hg12 (by omega))
                have HB12 := Lib.hid (HB11.out.grown hg12 (by have := HB11.out.size; omega) (fun j hj => by injection hj with hj; omega))
                have he12 := (hg12.block be (lt_of_heap HE11.out) (fun e => by injection e with e; omega)).trans HE11.out
                have e0 := cell_of_row _ _ 0 _ _ _ he12
                simp only [List.getElem?_toArray, List.getElem?_cons_zero] at e0
                obtain ⟨cv, hc1, hc2⟩ := ct_look ps HR2.out
                have hrun := run_look ha2 keyInt Try.underlying101 (zero_int w12) HKI.out hc1
                have hcb : 0 ≤ cv ∧ cv ≤ (k : Int) := by
                  rcases hc2 with h | ⟨y, hy, -, h⟩
                  · omega
                  · have := HOKC.out.2.1 y hy; omega
                have hwrap : IntKind.i64.wrap (cv + 1) = cv + 1 := by rw [IntKind.wrap_i64]; omega
                have HR3 := Lib.hid (ct_put ps cv HOKC.out.1 HR2.out hc1)
                clear hown12 hg12 he12 hc1 hc2 hk1 a1 HA2 HE11 HO11 HB11
                go_wp2_with (at_mapUpdate; go_must (refine wpList_mapUpdate_own _ rfl _ _ _ 101 rfl 3 3 keyInt Try.underlying101 RV M2 k D2 rfl ha2 (by have : maxLen = 9223372036854775807 := rfl; omega) (.int .i64 ps) _ (.int .i64 ps) rfl rfl HKI.out (.held _) [] rfl ?_))
                intro w13 hown13 hg13
                have HM13 := Lib.hid (show Maps2 M1 M2 (k + 1) (evAdd LE ⟨ps, pn, pg, pv⟩) (ctAdd LC ps) w13 from ⟨⟨_, HA1.out.kept hg13 (fun e => by injection e with e; omega), HR1.out⟩, ⟨_, hown13, HR3.out⟩⟩)
                have HO13 := Lib.hid (HO12.out.kept hg13 hMm)
                have HB13 := Lib.hid (HB12.out.grown hg13 (by have := HB12.out.size; omega) (fun j hj => by injection hj with hj; omega))
                clear hown13 hg13 hrun hwrap ha2 HO12 HB12 HA1 HR1 HR2 HR3
                go_wp2_with fail
                go_roundg (n - (k + 1))
                case measure => rw [G2.out]; omega
                case rel => exact ⟨k + 1, by omega, rfl, by go_num, by rw [HS1b.out, HS2b.out, HS3b.out]; exact HO13, by rw [HS4.out, HS5.out]; exact HM13, HB13⟩
    · obtain rfl : k = n := by omega
      rw [List.take_of_length_le (by rw [HN.out]; omega)] at HO HMM
      obtain ⟨a9, c9, rfl⟩ := own_slice HO.out.a
      obtain ⟨a10, c10, rfl⟩ := own_slice HO.out.b
      obtain ⟨a11, c11, rfl⟩ := own_slice HO.out.c
      have HR9 := Lib.hid (EvAt.of_own HO.out.a rfl)
      have HR10 := Lib.hid (EvAt.of_own HO.out.b rfl)
      have HR11 := Lib.hid (EvAt.of_own HO.out.c rfl)
      have HX4r := Lib.hid ((HB.out.block b4 h4M).trans HX4b.out)
      have HX7r := Lib.hid ((HB.out.block b7 h7M).trans HX7b.out)
      have CS := Lib.hid (ev_Split its (.agg #[.slice ak nk ck, .slice ag ng cg, .slice ai m ci]) l a k c HN.out (by omega) (by rw [← HM.out]; exact hm17) wr ⟨ak, nk, ck, ag, ng, cg, ai, ci, by rw [HM.out], HZI.out.below ItemAt.abides HBW.out⟩ (HZ.out.below EvAt.abides HBW.out))
      have y0 := cell_of_row _ _ 0 _ _ _ HX4r.out
      have y1 := cell_of_row _ _ 1 _ _ _ HX4r.out
      have y2 := cell_of_row _ _ 2 _ _ _ HX4r.out
      simp only [List.getElem?_toArray, List.getElem?_cons_zero, List.getElem?_cons_succ] at y0 y1 y2
      have hf1 := List.length_filter_le (ofB s lo hi) l
      have hf2 := List.length_filter_le (hereB its) l
      have hf3 := List.length_filter_le (notB (hereB its)) l
      obtain ⟨n1, hn1⟩ : ∃ q, q = (l.filter (ofB s lo hi)).length := ⟨_, rfl⟩
      obtain ⟨n2, hn2⟩ : ∃ q, q = (l.filter (hereB its)).length := ⟨_, rfl⟩
      obtain ⟨n3, hn3⟩ : ∃ q, q = (l.filter (notB (hereB its))).length := ⟨_, rfl⟩
      have HF := Lib.hid (show n1 ≤ k ∧ n2 ≤ k ∧ n3 ≤ k from ⟨by rw [hn1, ← HN.out]; exact hf1, by rw [hn2, ← HN.out]; exact hf2, by rw [hn3, ← HN.out]; exact hf3⟩)
      have HN1 := Lib.hid hn1
      have HN2 := Lib.hid hn2
      have HN3 := Lib.hid hn3
      rw [← hn1, ← hn2, ← hn3]
      clear HO hf1 hf2 hf3 hn1 hn2 hn3
      go_wp2_with fail
      clear y0 y1 y2
      refine CS.out.mono ?_
      rintro e w5 ⟨sa, sc, sb, sd, rfl, hs1, hs2, hb⟩
      rw [← HN2.out, ← HN3.out]
      have HS1 := Lib.hid hs1
      have HS2 := Lib.hid hs2
      have HBA := Lib.hid (HBW.out.trans (hb.mono HBW.out.size))
      have HMA := Lib.hid (HMM.out.below hb)
      have HA9 := Lib.hid (HR9.out.below EvAt.abides hb)
      have HA10 := Lib.hid (HR10.out.below EvAt.abides hb)
      have HA11 := Lib.hid (HR11.out.below EvAt.abides hb)
      have x7 := heap_below HX7r.out hb
      have x0 := cell_of_row _ _ 0 _ _ _ x7
      have x1 := cell_of_row _ _ 1 _ _ _ x7
      simp only [List.getElem?_toArray, List.getElem?_cons_zero, List.getElem?_cons_succ] at x0 x1
      have CO := Lib.hid (ev_Of l a k c s lo hi HN.out (by omega) w5 (HZ.out.below EvAt.abides HBA.out))
      clear hs1 hs2 hb x7 CS HMM HR9 HR10 HR11 HX4r HX7r HB HBW
      go_wp2_with fail
      clear x0 x1
      refine CO.out.mono ?_
      rintro e w6 ⟨oa, oc, rfl, ho, hb⟩
      rw [← HN1.out]
      have CE1 := Lib.hid (eq_evs oa a9 oc c9 n1 (l.filter (ofB s lo hi)) HN1.out.symm (by have := HF.out; omega) w6 ho (HA9.out.below EvAt.abides hb))
      have HS1b := Lib.hid (HS1.out.below EvAt.abides hb)
      have HS2b := Lib.hid (HS2.out.below EvAt.abides hb)
      have HBb2 := Lib.hid (HBA.out.trans (hb.mono HBA.out.size))
      have HMb := Lib.hid (HMA.out.below hb)
      have HA10b := Lib.hid (HA10.out.below EvAt.abides hb)
      have HA11b := Lib.hid (HA11.out.below EvAt.abides hb)
      clear ho hb CO HS1 HS2 HBA HMA HA9 HA10 HA11
      go_wp2_with fail
      refine CE1.out.mono ?_
      rintro e w7 ⟨rfl, hb⟩
      have CE2 := Lib.hid (eq_evs sa a10 sc c10 n2 (l.filter (hereB its)) HN2.out.symm (by have := HF.out; omega) w7 (HS1b.out.below EvAt.abides hb) (HA10b.out.below EvAt.abides hb))
      have HS2c := Lib.hid (HS2b.out.below EvAt.abides hb)
      have HBc := Lib.hid (HBb2.out.trans (hb.mono HBb2.out.size))
      have HMc := Lib.hid (HMb.out.below hb)
      have HA11c := Lib.hid (HA11b.out.below EvAt.abides hb)
      clear hb CE1 HS1b HS2b HBb2 HMb HA10b HA11b
      go_wp2_with fail
      refine CE2.out.mono ?_
      rintro e w8 ⟨rfl, hb⟩
      have CE3 := Lib.hid (eq_evs sb a11 sd c11 n3 (l.filter (notB (hereB its))) HN3.out.symm (by have := HF.out; omega) w8 (HS2c.out.below EvAt.abides hb) (HA11c.out.below EvAt.abides hb))
      have HBd := Lib.hid (HBc.out.trans (hb.mono HBc.out.size))
      have HMd := Lib.hid (HMc.out.below hb)
      clear hb CE2 HS2c HBc HMc HA11c
      go_wp2_with fail
      refine CE3.out.mono ?_
      rintro e w9 ⟨rfl, hb⟩
      have HBe := Lib.hid (HBd.out.trans (hb.mono HBd.out.size))
      have HMe := Lib.hid (HMd.out.below hb)
      have CN := Lib.hid (ev_Counts l a k c HN.out h1 w9 (HZ.out.below EvAt.abides HBe.out))
      clear hb CE3 HBd HMd
      go_wp2_with fail
      refine CN.out.mono ?_
      rintro e w10 ⟨ca, cc, rfl, hct, hb⟩
      have HCT := Lib.hid hct
      have HBf := Lib.hid (HBe.out.trans (hb.mono HBe.out.size))
      have HMf := Lib.hid (HMe.out.below hb)
      have CL := Lib.hid (ev_Last l a k c HN.out h1 w10 (HZ.out.below EvAt.abides HBf.out))
      clear hct hb CN HBe HMe
      go_wp2_with fail
      refine CL.out.mono ?_
      rintro e w11 ⟨la, lc, rfl, hla, hb⟩
      have HCTb := Lib.hid (HCT.out.below CtAt.abides hb)
      have HLA := Lib.hid hla
      have HBg := Lib.hid (HBf.out.trans (hb.mono HBf.out.size))
      obtain ⟨⟨D1, d1, r1⟩, ⟨D2, d2, r2⟩⟩ := HMf.out.below hb
      obtain ⟨nc, hnc⟩ : ∃ q, q = (ctsOf l).length := ⟨_, rfl⟩
      obtain ⟨ne, hne⟩ : ∃ q, q = (evsOf l).length := ⟨_, rfl⟩
      have hl1 := d1.len Try.underlying100 3
      have hl2 := d2.len Try.underlying101 3
      rw [r1.size, show (evE (evsOf l)).length = ne by unfold evE; rw [List.length_map, hne]] at hl1
      rw [r2.size, show (ctE (ctsOf l)).length = nc by unfold ctE; rw [List.length_map, hnc]] at hl2
      rw [← hnc, ← hne]
      have HD1 := Lib.hid d1
      have HD2 := Lib.hid d2
      have HR1 := Lib.hid r1
      have HR2 := Lib.hid r2
      have HNC := Lib.hid hnc
      have HNE := Lib.hid hne
      have t1 : ((nc : Int) != (nc : Int)) = false := bne_self_eq_false _
      have t2 : ((ne : Int) != (ne : Int)) = false := bne_self_eq_false _
      clear hla hb CL HCT HBf HMf d1 d2 r1 r2 hnc hne
      go_wp2_with fail
      have hneb : ne ≤ 4398046510976 := by have h := (evsOf_ok l l.length (Nat.le_refl _)).2; rw [List.take_length, ← HNE.out, HN.out] at h; omega
      have hncb : nc ≤ 4398046510976 := by have h := (ctsOf_ok l l.length (Nat.le_refl _)).2.2; rw [List.take_length, ← HNC.out, HN.out] at h; omega
      clear t1 t2 hl1 hl2
      go_loopg [149] nc (fun gk vi wx => ∃ i : Nat, i ≤ nc ∧ gk = nc - i ∧ vi = .int .i64 i ∧ Hid (Below w11.heap.size w11 wx))
      case atStart => exact ⟨0, Nat.zero_le _, rfl, rfl, Lib.hid (Below.refl _ _)⟩
      case round =>
        obtain ⟨i, hi, g3, rfl, HBI⟩ := hrel
        have G3 := Lib.hid g3
        clear g3
        by_cases hli : i < nc
        · have hlc : i < (ctsOf l).length := by rw [← HNC.out]; exact hli
          obtain ⟨xc, rfl, -, -⟩ := (HCTb.out.below CtAt.abides HBI.out) (by omega)
          obtain ⟨xb, xo, rfl, hcl⟩ := ct_cells (HCTb.out.below CtAt.abides HBI.out) i hlc
          have hat := ct_at HR2.out i hlc
          have hwf := ctsOf_wfA l HW.out _ (List.getElem_mem hlc)
          obtain ⟨ys, hys⟩ : ∃ q, q = ((ctsOf l)[i]).1 := ⟨_, rfl⟩
          obtain ⟨yc, hyc⟩ : ∃ q, q = ((ctsOf l)[i]).2 := ⟨_, rfl⟩
          rw [← hys, ← hyc] at hcl hat
          rw [← hys] at hwf
          have c0 := hcl 0 _ rfl
          have c1 := hcl 1 _ rfl
          rw [Nat.add_zero] at c0
          have HRUN := Lib.hid (fun w' (hb : Below w11.heap.size w11 w') => run_look (HD2.out.kept (row := none) (below_gn hb _) (by simp)) keyInt Try.underlying101 (zero_int w') (key_of hwf) hat)
          have i1 : (0 : Int) ≤ (i : Int) := by omega
          have i2 : (i : Int) < (nc : Int) := by omega
          have hbA : Below wr.heap.size wr (wr.alloc (.cells #[.int .i64 ys, .int .i64 yc] 108)) := (Below.refl _ _).alloc (Nat.le_refl _) _
          have HBJ := Lib.hid (HBI.out.trans (hbA.mono HBI.out.size))
          have HCB := Lib.hid (heap_alloc_new wr (.cells #[.int .i64 ys, .int .i64 yc] 108))
          have HYS := Lib.hid hys
          clear hcl hat hwf hyc hbA hys
          go_wp2_with fail
          clear c0 c1
          obtain ⟨w12, hw12⟩ : ∃ q, q = wr.alloc (.cells #[.int .i64 ys, .int .i64 yc] 108) := ⟨_, rfl⟩
          rw [← hw12] at HBJ HCB ⊢
          obtain ⟨bt, hbt⟩ : ∃ q, q = wr.heap.size := ⟨_, rfl⟩
          rw [← hbt] at HCB ⊢
          clear hw12 hbt HBI
          by_cases h0 : 0 < i
          · obtain ⟨p, rfl⟩ : ∃ p, i = p + 1 := ⟨i - 1, by omega⟩
            obtain ⟨xb', xo', hxx, hcp⟩ := ct_cells (HCTb.out.below CtAt.abides HBJ.out) p (by omega)
            injection hxx with q1 q2 _
            subst q1 q2
            have hlt2 := ctsOf_lt l p hlc
            obtain ⟨zs, hzs⟩ : ∃ q, q = ((ctsOf l)[p]'(by omega)).1 := ⟨_, rfl⟩
            obtain ⟨zc, hzc⟩ : ∃ q, q = ((ctsOf l)[p]'(by omega)).2 := ⟨_, rfl⟩
            rw [← hzs, ← hzc] at hcp
            rw [← hzs, ← HYS.out] at hlt2
            have HCP := Lib.hid hcp
            clear hcp hzs hzc
            refine wp_region_facts_t rfl 22 (by kernel_rfl) (F_w32b M2 bt xb xo nc cc p ys yc zs) (F_w32b_mono M2 bt xb xo nc cc p ys yc zs) ?_ ?_
            · refine ⟨?_, ?_, ?_, ?_, ?_, ?_, ?_, ?_, ?_, ?_, ?_, ?_, ?_, ?_, ?_, ?_, ?_, ?_, ?_, ?_, ?_, ?_, trivial⟩
              · intro vs w' F hb hd hF hl hT
                have e := (hF 13).trans (look_out _ 13 _ _ (by kernel_rfl))
                exact one_move _ rfl (by first | exact Or.inl rfl | exact Or.inr rfl) ⟨_, rfl, Below.refl _ _, e⟩
              · intro vs w' F hb hd hF hl hT
                have e := (hF 24).trans (look_out _ 24 _ _ (by kernel_rfl))
                exact one_field _ _ _ rfl rfl _ _ e (0) (fun w => by kernel_rfl) ⟨_, rfl, Below.refl _ _, rfl⟩
              · intro vs w' F hb hd hF hl hT
                have e := ((hF 155).trans (look_at _ 155 1 _ _ (by kernel_rfl) (by kernel_rfl) hl)).trans (dep_of (Fact := F_w32b M2 bt xb xo nc cc p ys yc zs) hd 1 (by kernel_rfl))
                exact one_load _ _ rfl rfl _ _ e (cell_abides (by rw [cell_of_row _ _ 0 _ _ _ HCB.out]; rfl) hb) (by kernel_rfl) ⟨_, rfl, Below.refl _ _, rfl⟩
              · intro vs w' F hb hd hF hl hT
                have e1 := (((hF 154).trans (look_at _ 154 0 _ _ (by kernel_rfl) (by kernel_rfl) hl)).trans (dep_of (Fact := F_w32b M2 bt xb xo nc cc p ys yc zs) hd 0 (by kernel_rfl)))
                have e2 := (((hF 156).trans (look_at _ 156 2 _ _ (by kernel_rfl) (by kernel_rfl) hl)).trans (dep_of (Fact := F_w32b M2 bt xb xo nc cc p ys yc zs) hd 2 (by kernel_rfl)))
                exact rg_lookup 101 _ _ rfl rfl (.map (some M2)) (.int .i64 ys) (.int .i64 yc) e1 e2 (HRUN.out w' (HBJ.out.trans (hb.mono HBJ.out.size))) ⟨_, rfl, Below.refl _ _, rfl⟩
              · intro vs w' F hb hd hF hl hT
                have e := (hF 24).trans (look_out _ 24 _ _ (by kernel_rfl))
                exact one_field _ _ _ rfl rfl _ _ e (1) (fun w => by kernel_rfl) ⟨_, rfl, Below.refl _ _, rfl⟩
              · intro vs w' F hb hd hF hl hT
                have e := ((hF 158).trans (look_at _ 158 4 _ _ (by kernel_rfl) (by kernel_rfl) hl)).trans (dep_of (Fact := F_w32b M2 bt xb xo nc cc p ys yc zs) hd 4 (by kernel_rfl))
                exact one_load _ _ rfl rfl _ _ e (cell_abides (by rw [cell_of_row _ _ 1 _ _ _ HCB.out]; rfl) hb) (by kernel_rfl) ⟨_, rfl, Below.refl _ _, rfl⟩
              · intro vs w' F hb hd hF hl hT
                have e1 := ((hF 157).trans (look_at _ 157 3 _ _ (by kernel_rfl) (by kernel_rfl) hl)).trans (dep_of (Fact := F_w32b M2 bt xb xo nc cc p ys yc zs) hd 3 (by kernel_rfl))
                have e2 := ((hF 159).trans (look_at _ 159 5 _ _ (by kernel_rfl) (by kernel_rfl) hl)).trans (dep_of (Fact := F_w32b M2 bt xb xo nc cc p ys yc zs) hd 5 (by kernel_rfl))
                exact rg_neq _ _ _ _ rfl rfl .i64 (yc) (yc) false e1 e2 (decide_eq_false (by simp)) ⟨_, rfl, Below.refl _ _, rfl⟩
              · intro vs w' F hb hd hF hl hT
                have e := ((hF 160).trans (look_at _ 160 6 _ _ (by kernel_rfl) (by kernel_rfl) hl)).trans (dep_of (Fact := F_w32b M2 bt xb xo nc cc p ys yc zs) hd 6 (by kernel_rfl))
                exact one_move _ rfl (by first | exact Or.inl rfl | exact Or.inr rfl) ⟨_, rfl, Below.refl _ _, e⟩
              · intro vs w' F hb hd hF hl hT
                have eg := ((hF 161).trans (look_at _ 161 7 _ _ (by kernel_rfl) (by kernel_rfl) hl)).trans (dep_of (Fact := F_w32b M2 bt xb xo nc cc p ys yc zs) hd 7 (by kernel_rfl))
                refine wpList_on rfl (t := 161) (by kernel_rfl) eg ?_
                have e := (hF 23).trans (look_out _ 23 _ _ (by kernel_rfl))
                exact one_move _ rfl (by first | exact Or.inl rfl | exact Or.inr rfl) ⟨_, rfl, Below.refl _ _, e⟩
              · intro vs w' F hb hd hF hl hT
                have eg := ((hF 161).trans (look_at _ 161 7 _ _ (by kernel_rfl) (by kernel_rfl) hl)).trans (dep_of (Fact := F_w32b M2 bt xb xo nc cc p ys yc zs) hd 7 (by kernel_rfl))
                refine wpList_on rfl (t := 161) (by kernel_rfl) eg ?_
                have e1 := ((hF 162).trans (look_at _ 162 8 _ _ (by kernel_rfl) (by kernel_rfl) hl)).trans (dep_of (Fact := F_w32b M2 bt xb xo nc cc p ys yc zs) hd 8 (by kernel_rfl))
                exact rg_gtr _ _ _ _ rfl rfl .i64 (((p + 1 : Nat) : Int)) (0) true e1 rfl (decide_eq_true (by omega)) ⟨_, rfl, Below.refl _ _, rfl⟩
              · intro vs w' F hb hd hF hl hT
                have eg := ((hF 161).trans (look_at _ 161 7 _ _ (by kernel_rfl) (by kernel_rfl) hl)).trans (dep_of (Fact := F_w32b M2 bt xb xo nc cc p ys yc zs) hd 7 (by kernel_rfl))
                refine wpList_on rfl (t := 161) (by kernel_rfl) eg ?_
                have e := ((hF 163).trans (look_at _ 163 9 _ _ (by kernel_rfl) (by kernel_rfl) hl)).trans (dep_of (Fact := F_w32b M2 bt xb xo nc cc p ys yc zs) hd 9 (by kernel_rfl))
                exact one_move _ rfl (by first | exact Or.inl rfl | exact Or.inr rfl) ⟨_, rfl, Below.refl _ _, e⟩
              · intro vs w' F hb hd hF hl hT
                have eg := ((hF 164).trans (look_at _ 164 10 _ _ (by kernel_rfl) (by kernel_rfl) hl)).trans (dep_of (Fact := F_w32b M2 bt xb xo nc cc p ys yc zs) hd 10 (by kernel_rfl))
                refine wpList_on rfl (t := 164) (by kernel_rfl) eg ?_
                have e := (hF 21).trans (look_out _ 21 _ _ (by kernel_rfl))
                exact one_move _ rfl (by first | exact Or.inl rfl | exact Or.inr rfl) ⟨_, rfl, Below.refl _ _, e⟩
              · intro vs w' F hb hd hF hl hT
                have eg := ((hF 164).trans (look_at _ 164 10 _ _ (by kernel_rfl) (by kernel_rfl) hl)).trans (dep_of (Fact := F_w32b M2 bt xb xo nc cc p ys yc zs) hd 10 (by kernel_rfl))
                refine wpList_on rfl (t := 164) (by kernel_rfl) eg ?_
                have e := (hF 23).trans (look_out _ 23 _ _ (by kernel_rfl))
                exact one_move _ rfl (by first | exact Or.inl rfl | exact Or.inr rfl) ⟨_, rfl, Below.refl _ _, e⟩
              · intro vs w' F hb hd hF hl hT
                have eg := ((hF 164).trans (look_at _ 164 10 _ _ (by kernel_rfl) (by kernel_rfl) hl)).trans (dep_of (Fact := F_w32b M2 bt xb xo nc cc p ys yc zs) hd 10 (by kernel_rfl))
                refine wpList_on rfl (t := 164) (by kernel_rfl) eg ?_
                have e1 := ((hF 166).trans (look_at _ 166 12 _ _ (by kernel_rfl) (by kernel_rfl) hl)).trans (dep_of (Fact := F_w32b M2 bt xb xo nc cc p ys yc zs) hd 12 (by kernel_rfl))
                exact rg_sub _ _ _ _ rfl rfl (((p + 1 : Nat) : Int)) (1) ((p : Int)) e1 rfl (by rw [IntKind.wrap_i64]; omega) ⟨_, rfl, Below.refl _ _, rfl⟩
              · intro vs w' F hb hd hF hl hT
                have eg := ((hF 164).trans (look_at _ 164 10 _ _ (by kernel_rfl) (by kernel_rfl) hl)).trans (dep_of (Fact := F_w32b M2 bt xb xo nc cc p ys yc zs) hd 10 (by kernel_rfl))
                refine wpList_on rfl (t := 164) (by kernel_rfl) eg ?_
                have ex := ((hF 165).trans (look_at _ 165 11 _ _ (by kernel_rfl) (by kernel_rfl) hl)).trans (dep_of (Fact := F_w32b M2 bt xb xo nc cc p ys yc zs) hd 11 (by kernel_rfl))
                have ey := ((hF 167).trans (look_at _ 167 13 _ _ (by kernel_rfl) (by kernel_rfl) hl)).trans (dep_of (Fact := F_w32b M2 bt xb xo nc cc p ys yc zs) hd 13 (by kernel_rfl))
                exact one_index 96 _ _ rfl rfl (.slice (some ⟨xb, xo, none⟩) nc cc) (.int .i64 (p : Int)) (.pointer (some ⟨xb, xo + p * 2, none⟩)) ex ey (fun w => rg_idx Try.underlying96 (show (Try.prog.info? 108).map (·.size) = some 2 by kernel_rfl) (xb) (xo) (nc) (cc) (p) (by omega) w) ⟨_, rfl, Below.refl _ _, rfl⟩
              · intro vs w' F hb hd hF hl hT
                have eg := ((hF 164).trans (look_at _ 164 10 _ _ (by kernel_rfl) (by kernel_rfl) hl)).trans (dep_of (Fact := F_w32b M2 bt xb xo nc cc p ys yc zs) hd 10 (by kernel_rfl))
                refine wpList_on rfl (t := 164) (by kernel_rfl) eg ?_
                have e := ((hF 168).trans (look_at _ 168 14 _ _ (by kernel_rfl) (by kernel_rfl) hl)).trans (dep_of (Fact := F_w32b M2 bt xb xo nc cc p ys yc zs) hd 14 (by kernel_rfl))
                exact one_field _ _ _ rfl rfl _ _ e (xo + p * 2) (fun w => by kernel_rfl) ⟨_, rfl, Below.refl _ _, rfl⟩
              · intro vs w' F hb hd hF hl hT
                have eg := ((hF 164).trans (look_at _ 164 10 _ _ (by kernel_rfl) (by kernel_rfl) hl)).trans (dep_of (Fact := F_w32b M2 bt xb xo nc cc p ys yc zs) hd 10 (by kernel_rfl))
                refine wpList_on rfl (t := 164) (by kernel_rfl) eg ?_
                have e := ((hF 169).trans (look_at _ 169 15 _ _ (by kernel_rfl) (by kernel_rfl) hl)).trans (dep_of (Fact := F_w32b M2 bt xb xo nc cc p ys yc zs) hd 15 (by kernel_rfl))
                exact one_load _ _ rfl rfl _ _ e ((by have h := HCP.out 0 _ rfl; rw [Nat.add_zero] at h; exact cell_abides h hb)) (by kernel_rfl) ⟨_, rfl, Below.refl _ _, rfl⟩
              · intro vs w' F hb hd hF hl hT
                have eg := ((hF 164).trans (look_at _ 164 10 _ _ (by kernel_rfl) (by kernel_rfl) hl)).trans (dep_of (Fact := F_w32b M2 bt xb xo nc cc p ys yc zs) hd 10 (by kernel_rfl))
                refine wpList_on rfl (t := 164) (by kernel_rfl) eg ?_
                have e := (hF 24).trans (look_out _ 24 _ _ (by kernel_rfl))
                exact one_field _ _ _ rfl rfl _ _ e (0) (fun w => by kernel_rfl) ⟨_, rfl, Below.refl _ _, rfl⟩
              · intro vs w' F hb hd hF hl hT
                have eg := ((hF 164).trans (look_at _ 164 10 _ _ (by kernel_rfl) (by kernel_rfl) hl)).trans (dep_of (Fact := F_w32b M2 bt xb xo nc cc p ys yc zs) hd 10 (by kernel_rfl))
                refine wpList_on rfl (t := 164) (by kernel_rfl) eg ?_
                have e := ((hF 171).trans (look_at _ 171 17 _ _ (by kernel_rfl) (by kernel_rfl) hl)).trans (dep_of (Fact := F_w32b M2 bt xb xo nc cc p ys yc zs) hd 17 (by kernel_rfl))
                exact one_load _ _ rfl rfl _ _ e (cell_abides (by rw [cell_of_row _ _ 0 _ _ _ HCB.out]; rfl) hb) (by kernel_rfl) ⟨_, rfl, Below.refl _ _, rfl⟩
              · intro vs w' F hb hd hF hl hT
                have eg := ((hF 164).trans (look_at _ 164 10 _ _ (by kernel_rfl) (by kernel_rfl) hl)).trans (dep_of (Fact := F_w32b M2 bt xb xo nc cc p ys yc zs) hd 10 (by kernel_rfl))
                refine wpList_on rfl (t := 164) (by kernel_rfl) eg ?_
                have e1 := ((hF 170).trans (look_at _ 170 16 _ _ (by kernel_rfl) (by kernel_rfl) hl)).trans (dep_of (Fact := F_w32b M2 bt xb xo nc cc p ys yc zs) hd 16 (by kernel_rfl))
                have e2 := ((hF 172).trans (look_at _ 172 18 _ _ (by kernel_rfl) (by kernel_rfl) hl)).trans (dep_of (Fact := F_w32b M2 bt xb xo nc cc p ys yc zs) hd 18 (by kernel_rfl))
                exact rg_geq _ _ _ _ rfl rfl .i64 (zs) (ys) false e1 e2 (decide_eq_false (by omega)) ⟨_, rfl, Below.refl _ _, rfl⟩
              · intro vs w' F hb hd hF hl hT
                have eg := ((hF 161).trans (look_at _ 161 7 _ _ (by kernel_rfl) (by kernel_rfl) hl)).trans (dep_of (Fact := F_w32b M2 bt xb xo nc cc p ys yc zs) hd 7 (by kernel_rfl))
                refine wpList_on rfl (t := 161) (by kernel_rfl) eg ?_
                have ec := ((hF 164).trans (look_at _ 164 10 _ _ (by kernel_rfl) (by kernel_rfl) hl)).trans (dep_of (Fact := F_w32b M2 bt xb xo nc cc p ys yc zs) hd 10 (by kernel_rfl))
                have e := ((hF 173).trans (look_at _ 173 19 _ _ (by kernel_rfl) (by kernel_rfl) hl)).trans (dep_of (Fact := F_w32b M2 bt xb xo nc cc p ys yc zs) hd 19 (by kernel_rfl))
                exact one_pick_t _ _ _ rfl rfl _ ec e ⟨_, rfl, Below.refl _ _, rfl⟩
              · intro vs w' F hb hd hF hl hT
                have ec := ((hF 161).trans (look_at _ 161 7 _ _ (by kernel_rfl) (by kernel_rfl) hl)).trans (dep_of (Fact := F_w32b M2 bt xb xo nc cc p ys yc zs) hd 7 (by kernel_rfl))
                have e := ((hF 174).trans (look_at _ 174 20 _ _ (by kernel_rfl) (by kernel_rfl) hl)).trans (dep_of (Fact := F_w32b M2 bt xb xo nc cc p ys yc zs) hd 20 (by kernel_rfl))
                exact one_pick_f _ _ _ rfl rfl _ ec e ⟨_, rfl, Below.refl _ _, rfl⟩
            · intro vs8 W8 hl hb hI
              have hv21 : vs8.getD 21 undef = .bool false := hI 21 (by omega)
              obtain ⟨z0, z1, z2, z3, z4, z5, z6, z7, z8, z9, z10, z11, z12, z13, z14, z15, z16, z17, z18, z19, z20, z21, hvs⟩ := list22 hl
              subst hvs
              replace hv21 : z21 = .bool false := hv21
              subst hv21
              have HBK := Lib.hid (HBJ.out.trans (hb.mono HBJ.out.size))
              clear hI hl hb HBJ HCB HRUN HCP
              simp only [fillAll, Act.put, List.setIfInBounds_toArray, List.set_cons_succ, List.set_cons_zero, List.drop_succ_cons, List.drop_zero]
              show wpList _ _ _ [] _ _
              go_wp2_with fail
              go_roundg (nc - (p + 1 + 1))
              case measure => rw [G3.out]; omega
              case rel => exact ⟨p + 1 + 1, hli, rfl, by go_num, HBK⟩
          · obtain rfl : i = 0 := by omega
            refine wp_region_facts_t rfl 22 (by kernel_rfl) (F_w32a M2 bt xb xo nc cc ys yc) (F_w32a_mono M2 bt xb xo nc cc ys yc) ?_ ?_
            · refine ⟨?_, ?_, ?_, ?_, ?_, ?_, ?_, ?_, ?_, ?_, ?_, ?_, ?_, ?_, ?_, ?_, ?_, ?_, ?_, ?_, ?_, ?_, trivial⟩
              · intro vs w' F hb hd hF hl hT
                have e := (hF 13).trans (look_out _ 13 _ _ (by kernel_rfl))
                exact one_move _ rfl (by first | exact Or.inl rfl | exact Or.inr rfl) ⟨_, rfl, Below.refl _ _, e⟩
              · intro vs w' F hb hd hF hl hT
                have e := (hF 24).trans (look_out _ 24 _ _ (by kernel_rfl))
                exact one_field _ _ _ rfl rfl _ _ e (0) (fun w => by kernel_rfl) ⟨_, rfl, Below.refl _ _, rfl⟩
              · intro vs w' F hb hd hF hl hT
                have e := ((hF 155).trans (look_at _ 155 1 _ _ (by kernel_rfl) (by kernel_rfl) hl)).trans (dep_of (Fact := F_w32a M2 bt xb xo nc cc ys yc) hd 1 (by kernel_rfl))
                exact one_load _ _ rfl rfl _ _ e (cell_abides (by rw [cell_of_row _ _ 0 _ _ _ HCB.out]; rfl) hb) (by kernel_rfl) ⟨_, rfl, Below.refl _ _, rfl⟩
              · intro vs w' F hb hd hF hl hT
                have e1 := (((hF 154).trans (look_at _ 154 0 _ _ (by kernel_rfl) (by kernel_rfl) hl)).trans (dep_of (Fact := F_w32a M2 bt xb xo nc cc ys yc) hd 0 (by kernel_rfl)))
                have e2 := (((hF 156).trans (look_at _ 156 2 _ _ (by kernel_rfl) (by kernel_rfl) hl)).trans (dep_of (Fact := F_w32a M2 bt xb xo nc cc ys yc) hd 2 (by kernel_rfl)))
                exact rg_lookup 101 _ _ rfl rfl (.map (some M2)) (.int .i64 ys) (.int .i64 yc) e1 e2 (HRUN.out w' (HBJ.out.trans (hb.mono HBJ.out.size))) ⟨_, rfl, Below.refl _ _, rfl⟩
              · intro vs w' F hb hd hF hl hT
                have e := (hF 24).trans (look_out _ 24 _ _ (by kernel_rfl))
                exact one_field _ _ _ rfl rfl _ _ e (1) (fun w => by kernel_rfl) ⟨_, rfl, Below.refl _ _, rfl⟩
              · intro vs w' F hb hd hF hl hT
                have e := ((hF 158).trans (look_at _ 158 4 _ _ (by kernel_rfl) (by kernel_rfl) hl)).trans (dep_of (Fact := F_w32a M2 bt xb xo nc cc ys yc) hd 4 (by kernel_rfl))
                exact one_load _ _ rfl rfl _ _ e (cell_abides (by rw [cell_of_row _ _ 1 _ _ _ HCB.out]; rfl) hb) (by kernel_rfl) ⟨_, rfl, Below.refl _ _, rfl⟩
              · intro vs w' F hb hd hF hl hT
                have e1 := ((hF 157).trans (look_at _ 157 3 _ _ (by kernel_rfl) (by kernel_rfl) hl)).trans (dep_of (Fact := F_w32a M2 bt xb xo nc cc ys yc) hd 3 (by kernel_rfl))
                have e2 := ((hF 159).trans (look_at _ 159 5 _ _ (by kernel_rfl) (by kernel_rfl) hl)).trans (dep_of (Fact := F_w32a M2 bt xb xo nc cc ys yc) hd 5 (by kernel_rfl))
                exact rg_neq _ _ _ _ rfl rfl .i64 (yc) (yc) false e1 e2 (decide_eq_false (by simp)) ⟨_, rfl, Below.refl _ _, rfl⟩
              · intro vs w' F hb hd hF hl hT
                have e := ((hF 160).trans (look_at _ 160 6 _ _ (by kernel_rfl) (by kernel_rfl) hl)).trans (dep_of (Fact := F_w32a M2 bt xb xo nc cc ys yc) hd 6 (by kernel_rfl))
                exact one_move _ rfl (by first | exact Or.inl rfl | exact Or.inr rfl) ⟨_, rfl, Below.refl _ _, e⟩
              · intro vs w' F hb hd hF hl hT
                have eg := ((hF 161).trans (look_at _ 161 7 _ _ (by kernel_rfl) (by kernel_rfl) hl)).trans (dep_of (Fact := F_w32a M2 bt xb xo nc cc ys yc) hd 7 (by kernel_rfl))
                refine wpList_on rfl (t := 161) (by kernel_rfl) eg ?_
                have e := (hF 23).trans (look_out _ 23 _ _ (by kernel_rfl))
                exact one_move _ rfl (by first | exact Or.inl rfl | exact Or.inr rfl) ⟨_, rfl, Below.refl _ _, e⟩
              · intro vs w' F hb hd hF hl hT
                have eg := ((hF 161).trans (look_at _ 161 7 _ _ (by kernel_rfl) (by kernel_rfl) hl)).trans (dep_of (Fact := F_w32a M2 bt xb xo nc cc ys yc) hd 7 (by kernel_rfl))
                refine wpList_on rfl (t := 161) (by kernel_rfl) eg ?_
                have e1 := ((hF 162).trans (look_at _ 162 8 _ _ (by kernel_rfl) (by kernel_rfl) hl)).trans (dep_of (Fact := F_w32a M2 bt xb xo nc cc ys yc) hd 8 (by kernel_rfl))
                exact rg_gtr _ _ _ _ rfl rfl .i64 (((0 : Nat) : Int)) (0) false e1 rfl (decide_eq_false (by omega)) ⟨_, rfl, Below.refl _ _, rfl⟩
              · intro vs w' F hb hd hF hl hT
                have eg := ((hF 161).trans (look_at _ 161 7 _ _ (by kernel_rfl) (by kernel_rfl) hl)).trans (dep_of (Fact := F_w32a M2 bt xb xo nc cc ys yc) hd 7 (by kernel_rfl))
                refine wpList_on rfl (t := 161) (by kernel_rfl) eg ?_
                have e := ((hF 163).trans (look_at _ 163 9 _ _ (by kernel_rfl) (by kernel_rfl) hl)).trans (dep_of (Fact := F_w32a M2 bt xb xo nc cc ys yc) hd 9 (by kernel_rfl))
                exact one_move _ rfl (by first | exact Or.inl rfl | exact Or.inr rfl) ⟨_, rfl, Below.refl _ _, e⟩
              · intro vs w' F hb hd hF hl hT
                have eg := ((hF 164).trans (look_at _ 164 10 _ _ (by kernel_rfl) (by kernel_rfl) hl)).trans (dep_of (Fact := F_w32a M2 bt xb xo nc cc ys yc) hd 10 (by kernel_rfl))
                exact wpList_off rfl (t := 164) (d := false) (by kernel_rfl) eg (by decide) ⟨_, rfl, Below.refl _ _, rfl⟩
              · intro vs w' F hb hd hF hl hT
                have eg := ((hF 164).trans (look_at _ 164 10 _ _ (by kernel_rfl) (by kernel_rfl) hl)).trans (dep_of (Fact := F_w32a M2 bt xb xo nc cc ys yc) hd 10 (by kernel_rfl))
                exact wpList_off rfl (t := 164) (d := false) (by kernel_rfl) eg (by decide) ⟨_, rfl, Below.refl _ _, rfl⟩
              · intro vs w' F hb hd hF hl hT
                have eg := ((hF 164).trans (look_at _ 164 10 _ _ (by kernel_rfl) (by kernel_rfl) hl)).trans (dep_of (Fact := F_w32a M2 bt xb xo nc cc ys yc) hd 10 (by kernel_rfl))
                exact wpList_off rfl (t := 164) (d := false) (by kernel_rfl) eg (by decide) ⟨_, rfl, Below.refl _ _, rfl⟩
              · intro vs w' F hb hd hF hl hT
                have eg := ((hF 164).trans (look_at _ 164 10 _ _ (by kernel_rfl) (by kernel_rfl) hl)).trans (dep_of (Fact := F_w32a M2 bt xb xo nc cc ys yc) hd 10 (by kernel_rfl))
                exact wpList_off rfl (t := 164) (d := false) (by kernel_rfl) eg (by decide) ⟨_, rfl, Below.refl _ _, rfl⟩
              · intro vs w' F hb hd hF hl hT
                have eg := ((hF 164).trans (look_at _ 164 10 _ _ (by kernel_rfl) (by kernel_rfl) hl)).trans (dep_of (Fact := F_w32a M2 bt xb xo nc cc ys yc) hd 10 (by kernel_rfl))
                exact wpList_off rfl (t := 164) (d := false) (by kernel_rfl) eg (by decide) ⟨_, rfl, Below.refl _ _, rfl⟩
              · intro vs w' F hb hd hF hl hT
                have eg := ((hF 164).trans (look_at _ 164 10 _ _ (by kernel_rfl) (by kernel_rfl) hl)).trans (dep_of (Fact := F_w32a M2 bt xb xo nc cc ys yc) hd 10 (by kernel_rfl))
                exact wpList_off rfl (t := 164) (d := false) (by kernel_rfl) eg (by decide) ⟨_, rfl, Below.refl _ _, rfl⟩
              · intro vs w' F hb hd hF hl hT
                have eg := ((hF 164).trans (look_at _ 164 10 _ _ (by kernel_rfl) (by kernel_rfl) hl)).trans (dep_of (Fact := F_w32a M2 bt xb xo nc cc ys yc) hd 10 (by kernel_rfl))
                exact wpList_off rfl (t := 164) (d := false) (by kernel_rfl) eg (by decide) ⟨_, rfl, Below.refl _ _, rfl⟩
              · intro vs w' F hb hd hF hl hT
                have eg := ((hF 164).trans (look_at _ 164 10 _ _ (by kernel_rfl) (by kernel_rfl) hl)).trans (dep_of (Fact := F_w32a M2 bt xb xo nc cc ys yc) hd 10 (by kernel_rfl))
                exact wpList_off rfl (t := 164) (d := false) (by kernel_rfl) eg (by decide) ⟨_, rfl, Below.refl _ _, rfl⟩
              · intro vs w' F hb hd hF hl hT
                have eg := ((hF 164).trans (look_at _ 164 10 _ _ (by kernel_rfl) (by kernel_rfl) hl)).trans (dep_of (Fact := F_w32a M2 bt xb xo nc cc ys yc) hd 10 (by kernel_rfl))
                exact wpList_off rfl (t := 164) (d := false) (by kernel_rfl) eg (by decide) ⟨_, rfl, Below.refl _ _, rfl⟩
              · intro vs w' F hb hd hF hl hT
                have eg := ((hF 161).trans (look_at _ 161 7 _ _ (by kernel_rfl) (by kernel_rfl) hl)).trans (dep_of (Fact := F_w32a M2 bt xb xo nc cc ys yc) hd 7 (by kernel_rfl))
                refine wpList_on rfl (t := 161) (by kernel_rfl) eg ?_
                have ec := ((hF 164).trans (look_at _ 164 10 _ _ (by kernel_rfl) (by kernel_rfl) hl)).trans (dep_of (Fact := F_w32a M2 bt xb xo nc cc ys yc) hd 10 (by kernel_rfl))
                exact one_pick_f _ _ _ rfl rfl _ ec rfl ⟨_, rfl, Below.refl _ _, rfl⟩
              · intro vs w' F hb hd hF hl hT
                have ec := ((hF 161).trans (look_at _ 161 7 _ _ (by kernel_rfl) (by kernel_rfl) hl)).trans (dep_of (Fact := F_w32a M2 bt xb xo nc cc ys yc) hd 7 (by kernel_rfl))
                have e := ((hF 174).trans (look_at _ 174 20 _ _ (by kernel_rfl) (by kernel_rfl) hl)).trans (dep_of (Fact := F_w32a M2 bt xb xo nc cc ys yc) hd 20 (by kernel_rfl))
                exact one_pick_f _ _ _ rfl rfl _ ec e ⟨_, rfl, Below.refl _ _, rfl⟩
            · intro vs8 W8 hl hb hI
              have hv21 : vs8.getD 21 undef = .bool false := hI 21 (by omega)
              obtain ⟨z0, z1, z2, z3, z4, z5, z6, z7, z8, z9, z10, z11, z12, z13, z14, z15, z16, z17, z18, z19, z20, z21, hvs⟩ := list22 hl
              subst hvs
              replace hv21 : z21 = .bool false := hv21
              subst hv21
              have HBK := Lib.hid (HBJ.out.trans (hb.mono HBJ.out.size))
              clear hI hl hb HBJ HCB HRUN
              simp only [fillAll, Act.put, List.setIfInBounds_toArray, List.set_cons_succ, List.set_cons_zero, List.drop_succ_cons, List.drop_zero]
              show wpList _ _ _ [] _ _
              go_wp2_with fail
              go_roundg (nc - (0 + 1))
              case measure => rw [G3.out]; omega
              case rel => exact ⟨0 + 1, hli, rfl, by go_num, HBK⟩
        · obtain rfl : i = nc := by omega
          clear HCTb HD2 HR2
          go_wp2_with fail
          go_loopg [179] ne (fun gk vi wx => ∃ j : Nat, j ≤ ne ∧ gk = ne - j ∧ vi = .int .i64 j ∧ Hid (Below w11.heap.size w11 wx))
          case atStart => exact ⟨0, Nat.zero_le _, rfl, rfl, HBI⟩
          case round =>
            clear HBI
            obtain ⟨j, hj, g4, rfl, HBI⟩ := hrel
            have G4 := Lib.hid g4
            clear g4
            by_cases hlj : j < ne
            · have hlc : j < (evsOf l).length := by rw [← HNE.out]; exact hlj
              obtain ⟨xc, rfl, -, -⟩ := (HLA.out.below EvAt.abides HBI.out) (by omega)
              obtain ⟨xb, xo, rfl, hcl⟩ := ev_cells (HLA.out.below EvAt.abides HBI.out) j hlc
              have hat := ev_at HR1.out j hlc
              have hwf := evsOf_wfA l HW.out _ (List.getElem_mem hlc)
              obtain ⟨y, hy⟩ : ∃ q, q = (evsOf l)[j] := ⟨_, rfl⟩
              rw [← hy] at hcl hat hwf
              have HY := Lib.hid hy
              obtain ⟨ys, yn, yg, yv⟩ := y
              have c0 := hcl 0 _ rfl
              have c1 := hcl 1 _ rfl
              have c2 := hcl 2 _ rfl
              have c3 := hcl 3 _ rfl
              rw [Nat.add_zero] at c0
              have HRUN := Lib.hid (fun w' (hb : Below w11.heap.size w11 w') => run_look (HD1.out.kept (row := none) (below_gn hb _) (by simp)) keyEv Try.underlying100 (zero_ev w') (key_lk hwf) hat)
              unfold kv evA at HRUN
              dsimp only at HRUN c0 c1 c2 c3
              have i1 : (0 : Int) ≤ (j : Int) := by omega
              have i2 : (j : Int) < (ne : Int) := by omega
              have hbA : Below wr.heap.size wr (wr.alloc (.cells #[.int .i64 ys, .int .i64 yn, .int .i64 yg, .int .i64 yv] 99)) := (Below.refl _ _).alloc (Nat.le_refl _) _
              have HBJ := Lib.hid (HBI.out.trans (hbA.mono HBI.out.size))
              have HCB := Lib.hid (heap_alloc_new wr (.cells #[.int .i64 ys, .int .i64 yn, .int .i64 yg, .int .i64 yv] 99))
              clear hcl hat hwf hbA hy
              go_wp2_with fail
              clear c0 c1 c2 c3
              obtain ⟨w12, hw12⟩ : ∃ q, q = wr.alloc (.cells #[.int .i64 ys, .int .i64 yn, .int .i64 yg, .int .i64 yv] 99) := ⟨_, rfl⟩
              rw [← hw12] at HBJ HCB ⊢
              obtain ⟨bt, hbt⟩ : ∃ q, q = wr.heap.size := ⟨_, rfl⟩
              rw [← hbt] at HCB ⊢
              clear hw12 hbt HBI
              by_cases h0 : 0 < j
              · obtain ⟨p, rfl⟩ : ∃ p, j = p + 1 := ⟨j - 1, by omega⟩
                obtain ⟨xb', xo', hxx, hcp⟩ := ev_cells (HLA.out.below EvAt.abides HBJ.out) p (by omega)
                injection hxx with q1 q2 _
                subst q1 q2
                have hlt2 := evsOf_lt l p hlc
                rw [← HY.out] at hlt2
                obtain ⟨zz, hzz⟩ : ∃ q, q = ((evsOf l)[p]'(by omega)) := ⟨_, rfl⟩
                rw [← hzz] at hcp hlt2
                obtain ⟨zs, zn, zg, zv⟩ := zz
                have HCP := Lib.hid hcp
                have CA := Lib.hid (fun w => l_ahead ⟨zs, zn, zg, zv⟩ ⟨ys, yn, yg, yv⟩ w)
                rw [decide_eq_true hlt2] at CA
                clear hcp hzz hlt2
                refine wp_region_facts_t rfl 23 (by kernel_rfl) (F_w38b M1 bt xb xo ne lc p ys yn yg yv zs zn zg zv) (F_w38b_mono M1 bt xb xo ne lc p ys yn yg yv zs zn zg zv) ?_ ?_
                · refine ⟨?_, ?_, ?_, ?_, ?_, ?_, ?_, ?_, ?_, ?_, ?_, ?_, ?_, ?_, ?_, ?_, ?_, ?_, ?_, ?_, ?_, ?_, ?_, trivial⟩
                  · intro vs w' F hb hd hF hl hT
                    have e := (hF 12).trans (look_out _ 12 _ _ (by kernel_rfl))
                    exact one_move _ rfl (by first | exact Or.inl rfl | exact Or.inr rfl) ⟨_, rfl, Below.refl _ _, e⟩
                  · intro vs w' F hb hd hF hl hT
                    have e := (hF 26).trans (look_out _ 26 _ _ (by kernel_rfl))
                    exact one_field _ _ _ rfl rfl _ _ e (0) (fun w => by kernel_rfl) ⟨_, rfl, Below.refl _ _, rfl⟩
                  · intro vs w' F hb hd hF hl hT
                    have e := ((hF 185).trans (look_at _ 185 1 _ _ (by kernel_rfl) (by kernel_rfl) hl)).trans (dep_of (Fact := F_w38b M1 bt xb xo ne lc p ys yn yg yv zs zn zg zv) hd 1 (by kernel_rfl))
                    exact one_load _ _ rfl rfl _ _ e (cell_abides (by rw [cell_of_row _ _ 0 _ _ _ HCB.out]; rfl) hb) (by kernel_rfl) ⟨_, rfl, Below.refl _ _, rfl⟩
                  · intro vs w' F hb hd hF hl hT
                    have e := (hF 26).trans (look_out _ 26 _ _ (by kernel_rfl))
                    exact one_field _ _ _ rfl rfl _ _ e (1) (fun w => by kernel_rfl) ⟨_, rfl, Below.refl _ _, rfl⟩
                  · intro vs w' F hb hd hF hl hT
                    have e := ((hF 187).trans (look_at _ 187 3 _ _ (by kernel_rfl) (by kernel_rfl) hl)).trans (dep_of (Fact := F_w38b M1 bt xb xo ne lc p ys yn yg yv zs zn zg zv) hd 3 (by kernel_rfl))
                    exact rg_load 55 _ rfl rfl (bt) (1) [.int .i64 yn, .int .i64 yg] e ((fun j u hu => by match j with | 0 => (simp at hu; subst hu; exact cell_abides (by rw [cell_of_row _ _ 1 _ _ _ HCB.out]; rfl) hb) | 1 => (simp at hu; subst hu; exact cell_abides (by rw [cell_of_row _ _ 2 _ _ _ HCB.out]; rfl) hb) | j + 2 => simp at hu)) _ Try.underlying55 rfl (by kernel_rfl) ⟨_, rfl, Below.refl _ _, rfl⟩
                  · intro vs w' F hb hd hF hl hT
                    have e1 := (((hF 186).trans (look_at _ 186 2 _ _ (by kernel_rfl) (by kernel_rfl) hl)).trans (dep_of (Fact := F_w38b M1 bt xb xo ne lc p ys yn yg yv zs zn zg zv) hd 2 (by kernel_rfl)))
                    have e2 := (((hF 188).trans (look_at _ 188 4 _ _ (by kernel_rfl) (by kernel_rfl) hl)).trans (dep_of (Fact := F_w38b M1 bt xb xo ne lc p ys yn yg yv zs zn zg zv) hd 4 (by kernel_rfl)))
                    exact one_build _ _ rfl rfl #[(0, .int .i64 ys), (1, .agg #[.int .i64 yn, .int .i64 yg])] (parts2 e1 e2) (.agg #[.int .i64 ys, .int .i64 yn, .int .i64 yg, .int .i64 0]) (fun w => by kernel_rfl) ⟨_, rfl, Below.refl _ _, rfl⟩
                  · intro vs w' F hb hd hF hl hT
                    have e1 := (((hF 184).trans (look_at _ 184 0 _ _ (by kernel_rfl) (by kernel_rfl) hl)).trans (dep_of (Fact := F_w38b M1 bt xb xo ne lc p ys yn yg yv zs zn zg zv) hd 0 (by kernel_rfl)))
                    have e2 := (((hF 189).trans (look_at _ 189 5 _ _ (by kernel_rfl) (by kernel_rfl) hl)).trans (dep_of (Fact := F_w38b M1 bt xb xo ne lc p ys yn yg yv zs zn zg zv) hd 5 (by kernel_rfl)))
                    exact rg_lookup 100 _ _ rfl rfl (.map (some M1)) (.agg #[.int .i64 ys, .int .i64 yn, .int .i64 yg, .int .i64 0]) (.agg #[.int .i64 ys, .int .i64 yn, .int .i64 yg, .int .i64 yv]) e1 e2 (HRUN.out w' (HBJ.out.trans (hb.mono HBJ.out.size))) ⟨_, rfl, Below.refl _ _, rfl⟩
                  · intro vs w' F hb hd hF hl hT
                    have e := (hF 26).trans (look_out _ 26 _ _ (by kernel_rfl))
                    exact rg_load 99 _ rfl rfl (bt) (0) [.int .i64 ys, .int .i64 yn, .int .i64 yg, .int .i64 yv] e ((CellsK.row HCB.out).below hb) _ Try.underlying99 rfl (by kernel_rfl) ⟨_, rfl, Below.refl _ _, rfl⟩
                  · intro vs w' F hb hd hF hl hT
                    have e1 := (((hF 190).trans (look_at _ 190 6 _ _ (by kernel_rfl) (by kernel_rfl) hl)).trans (dep_of (Fact := F_w38b M1 bt xb xo ne lc p ys yn yg yv zs zn zg zv) hd 6 (by kernel_rfl)))
                    have e2 := (((hF 191).trans (look_at _ 191 7 _ _ (by kernel_rfl) (by kernel_rfl) hl)).trans (dep_of (Fact := F_w38b M1 bt xb xo ne lc p ys yn yg yv zs zn zg zv) hd 7 (by kernel_rfl)))
                    exact rg_binrun .neq 99 _ _ _ rfl rfl (.agg #[.int .i64 ys, .int .i64 yn, .int .i64 yg, .int .i64 yv]) (.agg #[.int .i64 ys, .int .i64 yn, .int .i64 yg, .int .i64 yv]) (.bool false) e1 e2 (ev_guard _ _ _ _ _ _) (ev_neq _ _ _ _ _) ⟨_, rfl, Below.refl _ _, rfl⟩
                  · intro vs w' F hb hd hF hl hT
                    have e := ((hF 192).trans (look_at _ 192 8 _ _ (by kernel_rfl) (by kernel_rfl) hl)).trans (dep_of (Fact := F_w38b M1 bt xb xo ne lc p ys yn yg yv zs zn zg zv) hd 8 (by kernel_rfl))
                    exact one_move _ rfl (by first | exact Or.inl rfl | exact Or.inr rfl) ⟨_, rfl, Below.refl _ _, e⟩
                  · intro vs w' F hb hd hF hl hT
                    have eg := ((hF 193).trans (look_at _ 193 9 _ _ (by kernel_rfl) (by kernel_rfl) hl)).trans (dep_of (Fact := F_w38b M1 bt xb xo ne lc p ys yn yg yv zs zn zg zv) hd 9 (by kernel_rfl))
                    refine wpList_on rfl (t := 193) (by kernel_rfl) eg ?_
                    have e := (hF 25).trans (look_out _ 25 _ _ (by kernel_rfl))
                    exact one_move _ rfl (by first | exact Or.inl rfl | exact Or.inr rfl) ⟨_, rfl, Below.refl _ _, e⟩
                  · intro vs w' F hb hd hF hl hT
                    have eg := ((hF 193).trans (look_at _ 193 9 _ _ (by kernel_rfl) (by kernel_rfl) hl)).trans (dep_of (Fact := F_w38b M1 bt xb xo ne lc p ys yn yg yv zs zn zg zv) hd 9 (by kernel_rfl))
                    refine wpList_on rfl (t := 193) (by kernel_rfl) eg ?_
                    have e1 := ((hF 194).trans (look_at _ 194 10 _ _ (by kernel_rfl) (by kernel_rfl) hl)).trans (dep_of (Fact := F_w38b M1 bt xb xo ne lc p ys yn yg yv zs zn zg zv) hd 10 (by kernel_rfl))
                    exact rg_gtr _ _ _ _ rfl rfl .i64 (((p + 1 : Nat) : Int)) (0) true e1 rfl (decide_eq_true (by omega)) ⟨_, rfl, Below.refl _ _, rfl⟩
                  · intro vs w' F hb hd hF hl hT
                    have eg := ((hF 193).trans (look_at _ 193 9 _ _ (by kernel_rfl) (by kernel_rfl) hl)).trans (dep_of (Fact := F_w38b M1 bt xb xo ne lc p ys yn yg yv zs zn zg zv) hd 9 (by kernel_rfl))
                    refine wpList_on rfl (t := 193) (by kernel_rfl) eg ?_
                    have e := ((hF 195).trans (look_at _ 195 11 _ _ (by kernel_rfl) (by kernel_rfl) hl)).trans (dep_of (Fact := F_w38b M1 bt xb xo ne lc p ys yn yg yv zs zn zg zv) hd 11 (by kernel_rfl))
                    exact one_move _ rfl (by first | exact Or.inl rfl | exact Or.inr rfl) ⟨_, rfl, Below.refl _ _, e⟩
                  · intro vs w' F hb hd hF hl hT
                    have eg := ((hF 196).trans (look_at _ 196 12 _ _ (by kernel_rfl) (by kernel_rfl) hl)).trans (dep_of (Fact := F_w38b M1 bt xb xo ne lc p ys yn yg yv zs zn zg zv) hd 12 (by kernel_rfl))
                    refine wpList_on rfl (t := 196) (by kernel_rfl) eg ?_
                    have e := (hF 22).trans (look_out _ 22 _ _ (by kernel_rfl))
                    exact one_move _ rfl (by first | exact Or.inl rfl | exact Or.inr rfl) ⟨_, rfl, Below.refl _ _, e⟩
                  · intro vs w' F hb hd hF hl hT
                    have eg := ((hF 196).trans (look_at _ 196 12 _ _ (by kernel_rfl) (by kernel_rfl) hl)).trans (dep_of (Fact := F_w38b M1 bt xb xo ne lc p ys yn yg yv zs zn zg zv) hd 12 (by kernel_rfl))
                    refine wpList_on rfl (t := 196) (by kernel_rfl) eg ?_
                    have e := (hF 25).trans (look_out _ 25 _ _ (by kernel_rfl))
                    exact one_move _ rfl (by first | exact Or.inl rfl | exact Or.inr rfl) ⟨_, rfl, Below.refl _ _, e⟩
                  · intro vs w' F hb hd hF hl hT
                    have eg := ((hF 196).trans (look_at _ 196 12 _ _ (by kernel_rfl) (by kernel_rfl) hl)).trans (dep_of (Fact := F_w38b M1 bt xb xo ne lc p ys yn yg yv zs zn zg zv) hd 12 (by kernel_rfl))
                    refine wpList_on rfl (t := 196) (by kernel_rfl) eg ?_
                    have e1 := ((hF 198).trans (look_at _ 198 14 _ _ (by kernel_rfl) (by kernel_rfl) hl)).trans (dep_of (Fact := F_w38b M1 bt xb xo ne lc p ys yn yg yv zs zn zg zv) hd 14 (by kernel_rfl))
                    exact rg_sub _ _ _ _ rfl rfl (((p + 1 : Nat) : Int)) (1) ((p : Int)) e1 rfl (by rw [IntKind.wrap_i64]; omega) ⟨_, rfl, Below.refl _ _, rfl⟩
                  · intro vs w' F hb hd hF hl hT
                    have eg := ((hF 196).trans (look_at _ 196 12 _ _ (by kernel_rfl) (by kernel_rfl) hl)).trans (dep_of (Fact := F_w38b M1 bt xb xo ne lc p ys yn yg yv zs zn zg zv) hd 12 (by kernel_rfl))
                    refine wpList_on rfl (t := 196) (by kernel_rfl) eg ?_
                    have ex := ((hF 197).trans (look_at _ 197 13 _ _ (by kernel_rfl) (by kernel_rfl) hl)).trans (dep_of (Fact := F_w38b M1 bt xb xo ne lc p ys yn yg yv zs zn zg zv) hd 13 (by kernel_rfl))
                    have ey := ((hF 199).trans (look_at _ 199 15 _ _ (by kernel_rfl) (by kernel_rfl) hl)).trans (dep_of (Fact := F_w38b M1 bt xb xo ne lc p ys yn yg yv zs zn zg zv) hd 15 (by kernel_rfl))
                    exact one_index 93 _ _ rfl rfl (.slice (some ⟨xb, xo, none⟩) ne lc) (.int .i64 (p : Int)) (.pointer (some ⟨xb, xo + p * 4, none⟩)) ex ey (fun w => rg_idx Try.underlying93 (show (Try.prog.info? 99).map (·.size) = some 4 by kernel_rfl) (xb) (xo) (ne) (lc) (p) (by omega) w) ⟨_, rfl, Below.refl _ _, rfl⟩
                  · intro vs w' F hb hd hF hl hT
                    have eg := ((hF 196).trans (look_at _ 196 12 _ _ (by kernel_rfl) (by kernel_rfl) hl)).trans (dep_of (Fact := F_w38b M1 bt xb xo ne lc p ys yn yg yv zs zn zg zv) hd 12 (by kernel_rfl))
                    refine wpList_on rfl (t := 196) (by kernel_rfl) eg ?_
                    have e := ((hF 200).trans (look_at _ 200 16 _ _ (by kernel_rfl) (by kernel_rfl) hl)).trans (dep_of (Fact := F_w38b M1 bt xb xo ne lc p ys yn yg yv zs zn zg zv) hd 16 (by kernel_rfl))
                    exact rg_load 99 _ rfl rfl (xb) (xo + p * 4) [.int .i64 zs, .int .i64 zn, .int .i64 zg, .int .i64 zv] e (HCP.out.below hb) _ Try.underlying99 rfl (by kernel_rfl) ⟨_, rfl, Below.refl _ _, rfl⟩
                  · intro vs w' F hb hd hF hl hT
                    have eg := ((hF 196).trans (look_at _ 196 12 _ _ (by kernel_rfl) (by kernel_rfl) hl)).trans (dep_of (Fact := F_w38b M1 bt xb xo ne lc p ys yn yg yv zs zn zg zv) hd 12 (by kernel_rfl))
                    refine wpList_on rfl (t := 196) (by kernel_rfl) eg ?_
                    have e := (hF 26).trans (look_out _ 26 _ _ (by kernel_rfl))
                    exact rg_load 99 _ rfl rfl (bt) (0) [.int .i64 ys, .int .i64 yn, .int .i64 yg, .int .i64 yv] e ((CellsK.row HCB.out).below hb) _ Try.underlying99 rfl (by kernel_rfl) ⟨_, rfl, Below.refl _ _, rfl⟩
                  · intro vs w' F hb hd hF hl hT
                    have eg := ((hF 196).trans (look_at _ 196 12 _ _ (by kernel_rfl) (by kernel_rfl) hl)).trans (dep_of (Fact := F_w38b M1 bt xb xo ne lc p ys yn yg yv zs zn zg zv) hd 12 (by kernel_rfl))
                    refine wpList_on rfl (t := 196) (by kernel_rfl) eg ?_
                    have ea0 := ((hF 201).trans (look_at _ 201 17 _ _ (by kernel_rfl) (by kernel_rfl) hl)).trans (dep_of (Fact := F_w38b M1 bt xb xo ne lc p ys yn yg yv zs zn zg zv) hd 17 (by kernel_rfl))
                    have ea1 := ((hF 202).trans (look_at _ 202 18 _ _ (by kernel_rfl) (by kernel_rfl) hl)).trans (dep_of (Fact := F_w38b M1 bt xb xo ne lc p ys yn yg yv zs zn zg zv) hd 18 (by kernel_rfl))
                    refine one_call _ _ rfl rfl (enters_of Try.func60 (by kernel_rfl) rfl) #[.agg #[.int .i64 zs, .int .i64 zn, .int .i64 zg, .int .i64 zv], .agg #[.int .i64 ys, .int .i64 yn, .int .i64 yg, .int .i64 yv]] (eval2 ea0 ea1) ?_
                    refine (CA.out w').mono ?_
                    rintro e2 w2 ⟨rfl, hb2⟩
                    exact ⟨_, rfl, _, rfl, hb2, rfl⟩
                  · intro vs w' F hb hd hF hl hT
                    have eg := ((hF 196).trans (look_at _ 196 12 _ _ (by kernel_rfl) (by kernel_rfl) hl)).trans (dep_of (Fact := F_w38b M1 bt xb xo ne lc p ys yn yg yv zs zn zg zv) hd 12 (by kernel_rfl))
                    refine wpList_on rfl (t := 196) (by kernel_rfl) eg ?_
                    have e := ((hF 203).trans (look_at _ 203 19 _ _ (by kernel_rfl) (by kernel_rfl) hl)).trans (dep_of (Fact := F_w38b M1 bt xb xo ne lc p ys yn yg yv zs zn zg zv) hd 19 (by kernel_rfl))
                    exact one_not _ _ rfl rfl _ false e rfl ⟨_, rfl, Below.refl _ _, rfl⟩
                  · intro vs w' F hb hd hF hl hT
                    have eg := ((hF 193).trans (look_at _ 193 9 _ _ (by kernel_rfl) (by kernel_rfl) hl)).trans (dep_of (Fact := F_w38b M1 bt xb xo ne lc p ys yn yg yv zs zn zg zv) hd 9 (by kernel_rfl))
                    refine wpList_on rfl (t := 193) (by kernel_rfl) eg ?_
                    have ec := ((hF 196).trans (look_at _ 196 12 _ _ (by kernel_rfl) (by kernel_rfl) hl)).trans (dep_of (Fact := F_w38b M1 bt xb xo ne lc p ys yn yg yv zs zn zg zv) hd 12 (by kernel_rfl))
                    have e := ((hF 204).trans (look_at _ 204 20 _ _ (by kernel_rfl) (by kernel_rfl) hl)).trans (dep_of (Fact := F_w38b M1 bt xb xo ne lc p ys yn yg yv zs zn zg zv) hd 20 (by kernel_rfl))
                    exact one_pick_t _ _ _ rfl rfl _ ec e ⟨_, rfl, Below.refl _ _, rfl⟩
                  · intro vs w' F hb hd hF hl hT
                    have ec := ((hF 193).trans (look_at _ 193 9 _ _ (by kernel_rfl) (by kernel_rfl) hl)).trans (dep_of (Fact := F_w38b M1 bt xb xo ne lc p ys yn yg yv zs zn zg zv) hd 9 (by kernel_rfl))
                    have e := ((hF 205).trans (look_at _ 205 21 _ _ (by kernel_rfl) (by kernel_rfl) hl)).trans (dep_of (Fact := F_w38b M1 bt xb xo ne lc p ys yn yg yv zs zn zg zv) hd 21 (by kernel_rfl))
                    exact one_pick_f _ _ _ rfl rfl _ ec e ⟨_, rfl, Below.refl _ _, rfl⟩
                · intro vs8 W8 hl hb hI
                  have hv22 : vs8.getD 22 undef = .bool false := hI 22 (by omega)
                  obtain ⟨z0, z1, z2, z3, z4, z5, z6, z7, z8, z9, z10, z11, z12, z13, z14, z15, z16, z17, z18, z19, z20, z21, z22, hvs⟩ := list23 hl
                  subst hvs
                  replace hv22 : z22 = .bool false := hv22
                  subst hv22
                  have HBK := Lib.hid (HBJ.out.trans (hb.mono HBJ.out.size))
                  clear hI hl hb HBJ HCB HRUN
                  simp only [fillAll, Act.put, List.setIfInBounds_toArray, List.set_cons_succ, List.set_cons_zero, List.drop_succ_cons, List.drop_zero]
                  show wpList _ _ _ [] _ _
                  go_wp2_with fail
                  go_roundg (ne - ((p + 1) + 1))
                  case measure => rw [G4.out]; omega
                  case rel => exact ⟨(p + 1) + 1, hlj, rfl, by go_num, HBK⟩
              · obtain rfl : j = 0 := by omega
                refine wp_region_facts_t rfl 23 (by kernel_rfl) (F_w38a M1 bt xb xo ne lc ys yn yg yv) (F_w38a_mono M1 bt xb xo ne lc ys yn yg yv) ?_ ?_
                · refine ⟨?_, ?_, ?_, ?_, ?_, ?_, ?_, ?_, ?_, ?_, ?_, ?_, ?_, ?_, ?_, ?_, ?_, ?_, ?_, ?_, ?_, ?_, ?_, trivial⟩
                  · intro vs w' F hb hd hF hl hT
                    have e := (hF 12).trans (look_out _ 12 _ _ (by kernel_rfl))
                    exact one_move _ rfl (by first | exact Or.inl rfl | exact Or.inr rfl) ⟨_, rfl, Below.refl _ _, e⟩
                  · intro vs w' F hb hd hF hl hT
                    have e := (hF 26).trans (look_out _ 26 _ _ (by kernel_rfl))
                    exact one_field _ _ _ rfl rfl _ _ e (0) (fun w => by kernel_rfl) ⟨_, rfl, Below.refl _ _, rfl⟩
                  · intro vs w' F hb hd hF hl hT
                    have e := ((hF 185).trans (look_at _ 185 1 _ _ (by kernel_rfl) (by kernel_rfl) hl)).trans (dep_of (Fact := F_w38a M1 bt xb xo ne lc ys yn yg yv) hd 1 (by kernel_rfl))
                    exact one_load _ _ rfl rfl _ _ e (cell_abides (by rw [cell_of_row _ _ 0 _ _ _ HCB.out]; rfl) hb) (by kernel_rfl) ⟨_, rfl, Below.refl _ _, rfl⟩
                  · intro vs w' F hb hd hF hl hT
                    have e := (hF 26).trans (look_out _ 26 _ _ (by kernel_rfl))
                    exact one_field _ _ _ rfl rfl _ _ e (1) (fun w => by kernel_rfl) ⟨_, rfl, Below.refl _ _, rfl⟩
                  · intro vs w' F hb hd hF hl hT
                    have e := ((hF 187).trans (look_at _ 187 3 _ _ (by kernel_rfl) (by kernel_rfl) hl)).trans (dep_of (Fact := F_w38a M1 bt xb xo ne lc ys yn yg yv) hd 3 (by kernel_rfl))
                    exact rg_load 55 _ rfl rfl (bt) (1) [.int .i64 yn, .int .i64 yg] e ((fun j u hu => by match j with | 0 => (simp at hu; subst hu; exact cell_abides (by rw [cell_of_row _ _ 1 _ _ _ HCB.out]; rfl) hb) | 1 => (simp at hu; subst hu; exact cell_abides (by rw [cell_of_row _ _ 2 _ _ _ HCB.out]; rfl) hb) | j + 2 => simp at hu)) _ Try.underlying55 rfl (by kernel_rfl) ⟨_, rfl, Below.refl _ _, rfl⟩
                  · intro vs w' F hb hd hF hl hT
                    have e1 := (((hF 186).trans (look_at _ 186 2 _ _ (by kernel_rfl) (by kernel_rfl) hl)).trans (dep_of (Fact := F_w38a M1 bt xb xo ne lc ys yn yg yv) hd 2 (by kernel_rfl)))
                    have e2 := (((hF 188).trans (look_at _ 188 4 _ _ (by kernel_rfl) (by kernel_rfl) hl)).trans (dep_of (Fact := F_w38a M1 bt xb xo ne lc ys yn yg yv) hd 4 (by kernel_rfl)))
                    exact one_build _ _ rfl rfl #[(0, .int .i64 ys), (1, .agg #[.int .i64 yn, .int .i64 yg])] (parts2 e1 e2) (.agg #[.int .i64 ys, .int .i64 yn, .int .i64 yg, .int .i64 0]) (fun w => by kernel_rfl) ⟨_, rfl, Below.refl _ _, rfl⟩
                  · intro vs w' F hb hd hF hl hT
                    have e1 := (((hF 184).trans (look_at _ 184 0 _ _ (by kernel_rfl) (by kernel_rfl) hl)).trans (dep_of (Fact := F_w38a M1 bt xb xo ne lc ys yn yg yv) hd 0 (by kernel_rfl)))
                    have e2 := (((hF 189).trans (look_at _ 189 5 _ _ (by kernel_rfl) (by kernel_rfl) hl)).trans (dep_of (Fact := F_w38a M1 bt xb xo ne lc ys yn yg yv) hd 5 (by kernel_rfl)))
                    exact rg_lookup 100 _ _ rfl rfl (.map (some M1)) (.agg #[.int .i64 ys, .int .i64 yn, .int .i64 yg, .int .i64 0]) (.agg #[.int .i64 ys, .int .i64 yn, .int .i64 yg, .int .i64 yv]) e1 e2 (HRUN.out w' (HBJ.out.trans (hb.mono HBJ.out.size))) ⟨_, rfl, Below.refl _ _, rfl⟩
                  · intro vs w' F hb hd hF hl hT
                    have e := (hF 26).trans (look_out _ 26 _ _ (by kernel_rfl))
                    exact rg_load 99 _ rfl rfl (bt) (0) [.int .i64 ys, .int .i64 yn, .int .i64 yg, .int .i64 yv] e ((CellsK.row HCB.out).below hb) _ Try.underlying99 rfl (by kernel_rfl) ⟨_, rfl, Below.refl _ _, rfl⟩
                  · intro vs w' F hb hd hF hl hT
                    have e1 := (((hF 190).trans (look_at _ 190 6 _ _ (by kernel_rfl) (by kernel_rfl) hl)).trans (dep_of (Fact := F_w38a M1 bt xb xo ne lc ys yn yg yv) hd 6 (by kernel_rfl)))
                    have e2 := (((hF 191).trans (look_at _ 191 7 _ _ (by kernel_rfl) (by kernel_rfl) hl)).trans (dep_of (Fact := F_w38a M1 bt xb xo ne lc ys yn yg yv) hd 7 (by kernel_rfl)))
                    exact rg_binrun .neq 99 _ _ _ rfl rfl (.agg #[.int .i64 ys, .int .i64 yn, .int .i64 yg, .int .i64 yv]) (.agg #[.int .i64 ys, .int .i64 yn, .int .i64 yg, .int .i64 yv]) (.bool false) e1 e2 (ev_guard _ _ _ _ _ _) (ev_neq _ _ _ _ _) ⟨_, rfl, Below.refl _ _, rfl⟩
                  · intro vs w' F hb hd hF hl hT
                    have e := ((hF 192).trans (look_at _ 192 8 _ _ (by kernel_rfl) (by kernel_rfl) hl)).trans (dep_of (Fact := F_w38a M1 bt xb xo ne lc ys yn yg yv) hd 8 (by kernel_rfl))
                    exact one_move _ rfl (by first | exact Or.inl rfl | exact Or.inr rfl) ⟨_, rfl, Below.refl _ _, e⟩
                  · intro vs w' F hb hd hF hl hT
                    have eg := ((hF 193).trans (look_at _ 193 9 _ _ (by kernel_rfl) (by kernel_rfl) hl)).trans (dep_of (Fact := F_w38a M1 bt xb xo ne lc ys yn yg yv) hd 9 (by kernel_rfl))
                    refine wpList_on rfl (t := 193) (by kernel_rfl) eg ?_
                    have e := (hF 25).trans (look_out _ 25 _ _ (by kernel_rfl))
                    exact one_move _ rfl (by first | exact Or.inl rfl | exact Or.inr rfl) ⟨_, rfl, Below.refl _ _, e⟩
                  · intro vs w' F hb hd hF hl hT
                    have eg := ((hF 193).trans (look_at _ 193 9 _ _ (by kernel_rfl) (by kernel_rfl) hl)).trans (dep_of (Fact := F_w38a M1 bt xb xo ne lc ys yn yg yv) hd 9 (by kernel_rfl))
                    refine wpList_on rfl (t := 193) (by kernel_rfl) eg ?_
                    have e1 := ((hF 194).trans (look_at _ 194 10 _ _ (by kernel_rfl) (by kernel_rfl) hl)).trans (dep_of (Fact := F_w38a M1 bt xb xo ne lc ys yn yg yv) hd 10 (by kernel_rfl))
                    exact rg_gtr _ _ _ _ rfl rfl .i64 (((0 : Nat) : Int)) (0) false e1 rfl (decide_eq_false (by omega)) ⟨_, rfl, Below.refl _ _, rfl⟩
                  · intro vs w' F hb hd hF hl hT
                    have eg := ((hF 193).trans (look_at _ 193 9 _ _ (by kernel_rfl) (by kernel_rfl) hl)).trans (dep_of (Fact := F_w38a M1 bt xb xo ne lc ys yn yg yv) hd 9 (by kernel_rfl))
                    refine wpList_on rfl (t := 193) (by kernel_rfl) eg ?_
                    have e := ((hF 195).trans (look_at _ 195 11 _ _ (by kernel_rfl) (by kernel_rfl) hl)).trans (dep_of (Fact := F_w38a M1 bt xb xo ne lc ys yn yg yv) hd 11 (by kernel_rfl))
                    exact one_move _ rfl (by first | exact Or.inl rfl | exact Or.inr rfl) ⟨_, rfl, Below.refl _ _, e⟩
                  · intro vs w' F hb hd hF hl hT
                    have eg := ((hF 196).trans (look_at _ 196 12 _ _ (by kernel_rfl) (by kernel_rfl) hl)).trans (dep_of (Fact := F_w38a M1 bt xb xo ne lc ys yn yg yv) hd 12 (by kernel_rfl))
                    exact wpList_off rfl (t := 196) (d := false) (by kernel_rfl) eg (by decide) ⟨_, rfl, Below.refl _ _, rfl⟩
                  · intro vs w' F hb hd hF hl hT
                    have eg := ((hF 196).trans (look_at _ 196 12 _ _ (by kernel_rfl) (by kernel_rfl) hl)).trans (dep_of (Fact := F_w38a M1 bt xb xo ne lc ys yn yg yv) hd 12 (by kernel_rfl))
                    exact wpList_off rfl (t := 196) (d := false) (by kernel_rfl) eg (by decide) ⟨_, rfl, Below.refl _ _, rfl⟩
                  · intro vs w' F hb hd hF hl hT
                    have eg := ((hF 196).trans (look_at _ 196 12 _ _ (by kernel_rfl) (by kernel_rfl) hl)).trans (dep_of (Fact := F_w38a M1 bt xb xo ne lc ys yn yg yv) hd 12 (by kernel_rfl))
                    exact wpList_off rfl (t := 196) (d := false) (by kernel_rfl) eg (by decide) ⟨_, rfl, Below.refl _ _, rfl⟩
                  · intro vs w' F hb hd hF hl hT
                    have eg := ((hF 196).trans (look_at _ 196 12 _ _ (by kernel_rfl) (by kernel_rfl) hl)).trans (dep_of (Fact := F_w38a M1 bt xb xo ne lc ys yn yg yv) hd 12 (by kernel_rfl))
                    exact wpList_off rfl (t := 196) (d := false) (by kernel_rfl) eg (by decide) ⟨_, rfl, Below.refl _ _, rfl⟩
                  · intro vs w' F hb hd hF hl hT
                    have eg := ((hF 196).trans (look_at _ 196 12 _ _ (by kernel_rfl) (by kernel_rfl) hl)).trans (dep_of (Fact := F_w38a M1 bt xb xo ne lc ys yn yg yv) hd 12 (by kernel_rfl))
                    exact wpList_off rfl (t := 196) (d := false) (by kernel_rfl) eg (by decide) ⟨_, rfl, Below.refl _ _, rfl⟩
                  · intro vs w' F hb hd hF hl hT
                    have eg := ((hF 196).trans (look_at _ 196 12 _ _ (by kernel_rfl) (by kernel_rfl) hl)).trans (dep_of (Fact := F_w38a M1 bt xb xo ne lc ys yn yg yv) hd 12 (by kernel_rfl))
                    exact wpList_off rfl (t := 196) (d := false) (by kernel_rfl) eg (by decide) ⟨_, rfl, Below.refl _ _, rfl⟩
                  · intro vs w' F hb hd hF hl hT
                    have eg := ((hF 196).trans (look_at _ 196 12 _ _ (by kernel_rfl) (by kernel_rfl) hl)).trans (dep_of (Fact := F_w38a M1 bt xb xo ne lc ys yn yg yv) hd 12 (by kernel_rfl))
                    exact wpList_off rfl (t := 196) (d := false) (by kernel_rfl) eg (by decide) ⟨_, rfl, Below.refl _ _, rfl⟩
                  · intro vs w' F hb hd hF hl hT
                    have eg := ((hF 196).trans (look_at _ 196 12 _ _ (by kernel_rfl) (by kernel_rfl) hl)).trans (dep_of (Fact := F_w38a M1 bt xb xo ne lc ys yn yg yv) hd 12 (by kernel_rfl))
                    exact wpList_off rfl (t := 196) (d := false) (by kernel_rfl) eg (by decide) ⟨_, rfl, Below.refl _ _, rfl⟩
                  · intro vs w' F hb hd hF hl hT
                    have eg := ((hF 193).trans (look_at _ 193 9 _ _ (by kernel_rfl) (by kernel_rfl) hl)).trans (dep_of (Fact := F_w38a M1 bt xb xo ne lc ys yn yg yv) hd 9 (by kernel_rfl))
                    refine wpList_on rfl (t := 193) (by kernel_rfl) eg ?_
                    have ec := ((hF 196).trans (look_at _ 196 12 _ _ (by kernel_rfl) (by kernel_rfl) hl)).trans (dep_of (Fact := F_w38a M1 bt xb xo ne lc ys yn yg yv) hd 12 (by kernel_rfl))
                    exact one_pick_f _ _ _ rfl rfl _ ec rfl ⟨_, rfl, Below.refl _ _, rfl⟩
                  · intro vs w' F hb hd hF hl hT
                    have ec := ((hF 193).trans (look_at _ 193 9 _ _ (by kernel_rfl) (by kernel_rfl) hl)).trans (dep_of (Fact := F_w38a M1 bt xb xo ne lc ys yn yg yv) hd 9 (by kernel_rfl))
                    have e := ((hF 205).trans (look_at _ 205 21 _ _ (by kernel_rfl) (by kernel_rfl) hl)).trans (dep_of (Fact := F_w38a M1 bt xb xo ne lc ys yn yg yv) hd 21 (by kernel_rfl))
                    exact one_pick_f _ _ _ rfl rfl _ ec e ⟨_, rfl, Below.refl _ _, rfl⟩
                · intro vs8 W8 hl hb hI
                  have hv22 : vs8.getD 22 undef = .bool false := hI 22 (by omega)
                  obtain ⟨z0, z1, z2, z3, z4, z5, z6, z7, z8, z9, z10, z11, z12, z13, z14, z15, z16, z17, z18, z19, z20, z21, z22, hvs⟩ := list23 hl
                  subst hvs
                  replace hv22 : z22 = .bool false := hv22
                  subst hv22
                  have HBK := Lib.hid (HBJ.out.trans (hb.mono HBJ.out.size))
                  clear hI hl hb HBJ HCB HRUN
                  simp only [fillAll, Act.put, List.setIfInBounds_toArray, List.set_cons_succ, List.set_cons_zero, List.drop_succ_cons, List.drop_zero]
                  show wpList _ _ _ [] _ _
                  go_wp2_with fail
                  go_roundg (ne - (0 + 1))
                  case measure => rw [G4.out]; omega
                  case rel => exact ⟨0 + 1, hlj, rfl, by go_num, HBK⟩
            · obtain rfl : j = ne := by omega
              have HBZ := Lib.hid (HBg.out.trans (HBI.out.mono HBg.out.size))
              go_wp2_with fail
              go_ret
              exact ⟨rfl, HBZ.out⟩
end Go.Proofs.Ytlahmcbaiebapaa
