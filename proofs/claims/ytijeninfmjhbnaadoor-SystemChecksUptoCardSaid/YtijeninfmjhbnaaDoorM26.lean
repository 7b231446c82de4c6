/- Lemmas for the law SystemChecks: WCheck, WSame, GrowL. No conditions. -/
import Derived.Test.YtijeninfmjhbnaaDoorM25
import Derived.Test.YtijeninfmjhbnaaDoorM07
import Derived.Test.YtijeninfmjhbnaaDoorM06
import Derived.Test.YtijeninfmjhbnaaDoorM09
import Derived.Deep.AppendLies
import Derived.Laws.OwnMore
/- world.Check. -/
section
namespace Go.Proofs.YtijeninfmjhbnaaDoor
open Go.ChangeShapes Go.WideShapes Go.ChangeAt Go.RowKit Go.Nm Go.Mem
set_option linter.unusedVariables false
/-- the first i generations are within their bounds -/
def gensAt (l : List Int) : Nat → Bool
  | 0 => true
  | i + 1 => gensAt l i && (decide (0 ≤ l.getD i 0) && decide (l.getD i 0 ≤ 1073741824))
theorem gensAt_succ (l : List Int) (i : Nat) : gensAt l (i + 1) = (gensAt l i && (decide (0 ≤ l.getD i 0) && decide (l.getD i 0 ≤ 1073741824))) := rfl
theorem gensAt_stays (l : List Int) (i : Nat) (h : gensAt l i = false) : ∀ n, i ≤ n → gensAt l n = false := by
  intro n
  induction n with
  | zero => intro hn; obtain rfl : i = 0 := by omega
            exact h
  | succ n ih =>
    intro hn
    by_cases e : i = n + 1
    · rw [← e]; exact h
    · rw [gensAt_succ, ih (by omega), Bool.false_and]
def lastN (l : List ItemV) (i : Nat) : Int := if i = 0 then -1 else (l.getD (i - 1) default).n
theorem lastN_succ (l : List ItemV) (i : Nat) : lastN l (i + 1) = (l.getD i default).n := by unfold lastN; rw [if_neg (by omega), Nat.add_sub_cancel]
/-- the first i items are fit -/
def itemsAt (w : WorldV) : Nat → Bool
  | 0 => true
  | i + 1 => itemsAt w i && (decide (lastN w.items i < (w.items.getD i default).n) && (decide ((w.items.getD i default).n < w.gens.length) && (decide ((w.items.getD i default).gen = w.gens.getD (w.items.getD i default).n.toNat 0) && (decide ((w.items.getD i default).gen ≠ 1073741824) && heldB w.kinds (w.items.getD i default).comps))))
theorem itemsAt_succ (w : WorldV) (i : Nat) : itemsAt w (i + 1) = (itemsAt w i && (decide (lastN w.items i < (w.items.getD i default).n) && (decide ((w.items.getD i default).n < w.gens.length) && (decide ((w.items.getD i default).gen = w.gens.getD (w.items.getD i default).n.toNat 0) && (decide ((w.items.getD i default).gen ≠ 1073741824) && heldB w.kinds (w.items.getD i default).comps))))) := rfl
theorem itemsAt_stays (w : WorldV) (i : Nat) (h : itemsAt w i = false) : ∀ n, i ≤ n → itemsAt w n = false := by
  intro n
  induction n with
  | zero => intro hn; obtain rfl : i = 0 := by omega
            exact h
  | succ n ih =>
    intro hn
    by_cases e : i = n + 1
    · rw [← e]; exact h
    · rw [itemsAt_succ, ih (by omega), Bool.false_and]
theorem itemsAt_low (w : WorldV) (i : Nat) (h : itemsAt w i = true) : -1 ≤ lastN w.items i := by
  induction i with
  | zero => exact Int.le_refl _
  | succ i ih =>
    rw [itemsAt_succ, Bool.and_eq_true, Bool.and_eq_true] at h
    have h1 := ih h.1
    have h2 := of_decide_eq_true h.2.1
    rw [lastN_succ]
    omega
/-- the error of a world -/
def checkE (w : WorldV) : Int := if kindsE w.kinds ≠ 0 then kindsE w.kinds else if 256 < w.gens.length ∨ w.gens.length < w.items.length then 2 else if gensAt w.gens w.gens.length = true ∧ itemsAt w w.items.length = true then 0 else 3
theorem checkE_form {w : WorldV} (h1 : kindsE w.kinds = 0) (h2 : ¬ (256 < w.gens.length ∨ w.gens.length < w.items.length)) (h3 : ¬ (gensAt w.gens w.gens.length = true ∧ itemsAt w w.items.length = true)) : checkE w = 3 := by
  unfold checkE; rw [if_neg (by rw [h1]; simp), if_neg h2, if_neg h3]
/-- a world whose numbers of values are small -/
def SmallW (w : WorldV) : Prop := w.kinds.length ≤ 1048576 ∧ w.gens.length ≤ 1048576 ∧ w.items.length ≤ 1048576 ∧ ∀ y ∈ w.items, y.comps.length ≤ 1048576 ∧ ∀ c ∈ y.comps, c.vals.length ≤ 1048576
theorem list41 {α : Type} {vs : List α} (h : vs.length = 41) : ∃ x0 x1 x2 x3 x4 x5 x6 x7 x8 x9 x10 x11 x12 x13 x14 x15 x16 x17 x18 x19 x20 x21 x22 x23 x24 x25 x26 x27 x28 x29 x30 x31 x32 x33 x34 x35 x36 x37 x38 x39 x40, vs = [x0, x1, x2, x3, x4, x5, x6, x7, x8, x9, x10, x11, x12, x13, x14, x15, x16, x17, x18, x19, x20, x21, x22, x23, x24, x25, x26, x27, x28, x29, x30, x31, x32, x33, x34, x35, x36, x37, x38, x39, x40] := by
  obtain ⟨x0, t0, rfl, h0⟩ := cons_of h
  obtain ⟨x1, t1, rfl, h1⟩ := cons_of h0
  obtain ⟨x2, t2, rfl, h2⟩ := cons_of h1
  obtain ⟨x3, t3, rfl, h3⟩ := cons_of h2
  obtain ⟨x4, t4, rfl, h4⟩ := cons_of h3
  obtain ⟨x5, t5, rfl, h5⟩ := cons_of h4
  obtain ⟨x6, t6, rfl, h6⟩ := cons_of h5
  obtain ⟨x7, t7, rfl, h7⟩ := cons_of h6
  obtain ⟨x8, t8, rfl, h8⟩ := cons_of h7
  obtain ⟨x9, t9, rfl, h9⟩ := cons_of h8
  obtain ⟨x10, t10, rfl, h10⟩ := cons_of h9
  obtain ⟨x11, t11, rfl, h11⟩ := cons_of h10
  obtain ⟨x12, t12, rfl, h12⟩ := cons_of h11
  obtain ⟨x13, t13, rfl, h13⟩ := cons_of h12
  obtain ⟨x14, t14, rfl, h14⟩ := cons_of h13
  obtain ⟨x15, t15, rfl, h15⟩ := cons_of h14
  obtain ⟨x16, t16, rfl, h16⟩ := cons_of h15
  obtain ⟨x17, t17, rfl, h17⟩ := cons_of h16
  obtain ⟨x18, t18, rfl, h18⟩ := cons_of h17
  obtain ⟨x19, t19, rfl, h19⟩ := cons_of h18
  obtain ⟨x20, t20, rfl, h20⟩ := cons_of h19
  obtain ⟨x21, t21, rfl, h21⟩ := cons_of h20
  obtain ⟨x22, t22, rfl, h22⟩ := cons_of h21
  obtain ⟨x23, t23, rfl, h23⟩ := cons_of h22
  obtain ⟨x24, t24, rfl, h24⟩ := cons_of h23
  obtain ⟨x25, t25, rfl, h25⟩ := cons_of h24
  obtain ⟨x26, t26, rfl, h26⟩ := cons_of h25
  obtain ⟨x27, t27, rfl, h27⟩ := cons_of h26
  obtain ⟨x28, t28, rfl, h28⟩ := cons_of h27
  obtain ⟨x29, t29, rfl, h29⟩ := cons_of h28
  obtain ⟨x30, t30, rfl, h30⟩ := cons_of h29
  obtain ⟨x31, t31, rfl, h31⟩ := cons_of h30
  obtain ⟨x32, t32, rfl, h32⟩ := cons_of h31
  obtain ⟨x33, t33, rfl, h33⟩ := cons_of h32
  obtain ⟨x34, t34, rfl, h34⟩ := cons_of h33
  obtain ⟨x35, t35, rfl, h35⟩ := cons_of h34
  obtain ⟨x36, t36, rfl, h36⟩ := cons_of h35
  obtain ⟨x37, t37, rfl, h37⟩ := cons_of h36
  obtain ⟨x38, t38, rfl, h38⟩ := cons_of h37
  obtain ⟨x39, t39, rfl, h39⟩ := cons_of h38
  obtain ⟨x40, t40, rfl, h40⟩ := cons_of h39
  exact ⟨x0, x1, x2, x3, x4, x5, x6, x7, x8, x9, x10, x11, x12, x13, x14, x15, x16, x17, x18, x19, x20, x21, x22, x23, x24, x25, x26, x27, x28, x29, x30, x31, x32, x33, x34, x35, x36, x37, x38, x39, x40, by rw [List.eq_nil_of_length_eq_zero h40]⟩
def F_wchka (BB WW : Nat) (kn kg la : Int) (ak : Option Addr) (nk ck : Nat) (ag : Option Addr) (ng cg : Nat) (av : Option Addr) (nv cv : Nat) (jq : Nat) (v : Value) (w : World) : Prop :=
  match jq with
  | 0 => v = .pointer (some ⟨BB, 0, none⟩)
  | 1 => v = .pointer (some ⟨BB, 0, none⟩)
  | 2 => v = .int .i64 kn
  | 3 => v = .int .i64 la
  | 4 => v = .bool true
  | 5 => v = .bool true
  | 6 => v = undef
  | 7 => v = undef
  | 8 => v = undef
  | 9 => v = undef
  | 10 => v = undef
  | 11 => v = undef
  | 12 => v = undef
  | 13 => v = .bool true
  | 14 => v = .bool true
  | 15 => v = undef
  | 16 => v = undef
  | 17 => v = undef
  | 18 => v = undef
  | 19 => v = undef
  | 20 => v = undef
  | 21 => v = undef
  | 22 => v = undef
  | 23 => v = undef
  | 24 => v = undef
  | 25 => v = undef
  | 26 => v = .bool true
  | 27 => v = .bool true
  | 28 => v = undef
  | 29 => v = undef
  | 30 => v = undef
  | 31 => v = undef
  | 32 => v = .bool true
  | 33 => v = .bool true
  | 34 => v = undef
  | 35 => v = undef
  | 36 => v = undef
  | 37 => v = undef
  | 38 => v = undef
  | 39 => v = undef
  | 40 => v = .bool true
  | _ => True
theorem F_wchka_mono (BB WW : Nat) (kn kg la : Int) (ak : Option Addr) (nk ck : Nat) (ag : Option Addr) (ng cg : Nat) (av : Option Addr) (nv cv : Nat) : Facts (F_wchka BB WW  kn kg la  ak  nk ck  ag  ng cg  av  nv cv ) := ⟨by
  intro jq v w w' h hb
  unfold F_wchka at h ⊢
  split at h
  all_goals first
    | exact h
    | trivial⟩
def F_wchkb (BB WW : Nat) (kn kg la : Int) (ak : Option Addr) (nk ck : Nat) (ag : Option Addr) (ng cg : Nat) (av : Option Addr) (nv cv : Nat) (jq : Nat) (v : Value) (w : World) : Prop :=
  match jq with
  | 0 => v = .pointer (some ⟨BB, 0, none⟩)
  | 1 => v = .pointer (some ⟨BB, 0, none⟩)
  | 2 => v = .int .i64 kn
  | 3 => v = .int .i64 la
  | 4 => v = .bool false
  | 5 => v = .bool false
  | 6 => v = .pointer (some ⟨BB, 0, none⟩)
  | 7 => v = .pointer (some ⟨BB, 0, none⟩)
  | 8 => v = .int .i64 kn
  | 9 => v = .pointer (some ⟨WW, 1, none⟩)
  | 10 => v = .slice ag ng cg
  | 11 => v = .int .i64 (ng : Int)
  | 12 => v = .bool true
  | 13 => v = .bool true
  | 14 => v = .bool true
  | 15 => v = undef
  | 16 => v = undef
  | 17 => v = undef
  | 18 => v = undef
  | 19 => v = undef
  | 20 => v = undef
  | 21 => v = undef
  | 22 => v = undef
  | 23 => v = undef
  | 24 => v = undef
  | 25 => v = undef
  | 26 => v = .bool true
  | 27 => v = .bool true
  | 28 => v = undef
  | 29 => v = undef
  | 30 => v = undef
  | 31 => v = undef
  | 32 => v = .bool true
  | 33 => v = .bool true
  | 34 => v = undef
  | 35 => v = undef
  | 36 => v = undef
  | 37 => v = undef
  | 38 => v = undef
  | 39 => v = undef
  | 40 => v = .bool true
  | _ => True
theorem F_wchkb_mono (BB WW : Nat) (kn kg la : Int) (ak : Option Addr) (nk ck : Nat) (ag : Option Addr) (ng cg : Nat) (av : Option Addr) (nv cv : Nat) : Facts (F_wchkb BB WW  kn kg la  ak  nk ck  ag  ng cg  av  nv cv ) := ⟨by
  intro jq v w w' h hb
  unfold F_wchkb at h ⊢
  split at h
  all_goals first
    | exact h
    | trivial⟩
def F_wchkc (BB WW q gb go : Nat) (kg gq la : Int) (ak : Option Addr) (nk ck ng cg : Nat) (av : Option Addr) (nv cv : Nat) (jq : Nat) (v : Value) (w : World) : Prop :=
  match jq with
  | 0 => v = .pointer (some ⟨BB, 0, none⟩)
  | 1 => v = .pointer (some ⟨BB, 0, none⟩)
  | 2 => v = .int .i64 (q : Int)
  | 3 => v = .int .i64 la
  | 4 => v = .bool false
  | 5 => v = .bool false
  | 6 => v = .pointer (some ⟨BB, 0, none⟩)
  | 7 => v = .pointer (some ⟨BB, 0, none⟩)
  | 8 => v = .int .i64 (q : Int)
  | 9 => v = .pointer (some ⟨WW, 1, none⟩)
  | 10 => v = .slice (some ⟨gb, go, none⟩) ng cg
  | 11 => v = .int .i64 (ng : Int)
  | 12 => v = .bool false
  | 13 => v = .bool false
  | 14 => v = .bool false
  | 15 => v = .pointer (some ⟨BB, 0, none⟩)
  | 16 => v = .pointer (some ⟨BB, 1, none⟩)
  | 17 => v = .int .i64 kg
  | 18 => v = .pointer (some ⟨WW, 1, none⟩)
  | 19 => v = .slice (some ⟨gb, go, none⟩) ng cg
  | 20 => v = .pointer (some ⟨BB, 0, none⟩)
  | 21 => v = .pointer (some ⟨BB, 0, none⟩)
  | 22 => v = .int .i64 (q : Int)
  | 23 => v = .pointer (some ⟨gb, go + q * 1, none⟩)
  | 24 => v = .int .i64 gq
  | 25 => v = .bool true
  | 26 => v = .bool true
  | 27 => v = .bool true
  | 28 => v = undef
  | 29 => v = undef
  | 30 => v = undef
  | 31 => v = undef
  | 32 => v = .bool true
  | 33 => v = .bool true
  | 34 => v = undef
  | 35 => v = undef
  | 36 => v = undef
  | 37 => v = undef
  | 38 => v = undef
  | 39 => v = undef
  | 40 => v = .bool true
  | _ => True
theorem F_wchkc_mono (BB WW q gb go : Nat) (kg gq la : Int) (ak : Option Addr) (nk ck ng cg : Nat) (av : Option Addr) (nv cv : Nat) : Facts (F_wchkc BB WW q gb go  kg gq la  ak  nk ck ng cg  av  nv cv ) := ⟨by
  intro jq v w w' h hb
  unfold F_wchkc at h ⊢
  split at h
  all_goals first
    | exact h
    | trivial⟩
def F_wchkd (BB WW q gb go : Nat) (kg la : Int) (ak : Option Addr) (nk ck ng cg : Nat) (av : Option Addr) (nv cv : Nat) (jq : Nat) (v : Value) (w : World) : Prop :=
  match jq with
  | 0 => v = .pointer (some ⟨BB, 0, none⟩)
  | 1 => v = .pointer (some ⟨BB, 0, none⟩)
  | 2 => v = .int .i64 (q : Int)
  | 3 => v = .int .i64 la
  | 4 => v = .bool false
  | 5 => v = .bool false
  | 6 => v = .pointer (some ⟨BB, 0, none⟩)
  | 7 => v = .pointer (some ⟨BB, 0, none⟩)
  | 8 => v = .int .i64 (q : Int)
  | 9 => v = .pointer (some ⟨WW, 1, none⟩)
  | 10 => v = .slice (some ⟨gb, go, none⟩) ng cg
  | 11 => v = .int .i64 (ng : Int)
  | 12 => v = .bool false
  | 13 => v = .bool false
  | 14 => v = .bool false
  | 15 => v = .pointer (some ⟨BB, 0, none⟩)
  | 16 => v = .pointer (some ⟨BB, 1, none⟩)
  | 17 => v = .int .i64 kg
  | 18 => v = .pointer (some ⟨WW, 1, none⟩)
  | 19 => v = .slice (some ⟨gb, go, none⟩) ng cg
  | 20 => v = .pointer (some ⟨BB, 0, none⟩)
  | 21 => v = .pointer (some ⟨BB, 0, none⟩)
  | 22 => v = .int .i64 (q : Int)
  | 23 => v = .pointer (some ⟨gb, go + q * 1, none⟩)
  | 24 => v = .int .i64 kg
  | 25 => v = .bool false
  | 26 => v = .bool false
  | 27 => v = .bool false
  | 28 => v = .pointer (some ⟨BB, 0, none⟩)
  | 29 => v = .pointer (some ⟨BB, 1, none⟩)
  | 30 => v = .int .i64 kg
  | 31 => v = .bool true
  | 32 => v = .bool true
  | 33 => v = .bool true
  | 34 => v = undef
  | 35 => v = undef
  | 36 => v = undef
  | 37 => v = undef
  | 38 => v = undef
  | 39 => v = undef
  | 40 => v = .bool true
  | _ => True
theorem F_wchkd_mono (BB WW q gb go : Nat) (kg la : Int) (ak : Option Addr) (nk ck ng cg : Nat) (av : Option Addr) (nv cv : Nat) : Facts (F_wchkd BB WW q gb go  kg la  ak  nk ck ng cg  av  nv cv ) := ⟨by
  intro jq v w w' h hb
  unfold F_wchkd at h ⊢
  split at h
  all_goals first
    | exact h
    | trivial⟩
def F_wchke (BB WW q gb go : Nat) (kg la : Int) (ak : Option Addr) (nk ck ng cg : Nat) (av : Option Addr) (nv cv : Nat) (jq : Nat) (v : Value) (w : World) : Prop :=
  match jq with
  | 0 => v = .pointer (some ⟨BB, 0, none⟩)
  | 1 => v = .pointer (some ⟨BB, 0, none⟩)
  | 2 => v = .int .i64 (q : Int)
  | 3 => v = .int .i64 la
  | 4 => v = .bool false
  | 5 => v = .bool false
  | 6 => v = .pointer (some ⟨BB, 0, none⟩)
  | 7 => v = .pointer (some ⟨BB, 0, none⟩)
  | 8 => v = .int .i64 (q : Int)
  | 9 => v = .pointer (some ⟨WW, 1, none⟩)
  | 10 => v = .slice (some ⟨gb, go, none⟩) ng cg
  | 11 => v = .int .i64 (ng : Int)
  | 12 => v = .bool false
  | 13 => v = .bool false
  | 14 => v = .bool false
  | 15 => v = .pointer (some ⟨BB, 0, none⟩)
  | 16 => v = .pointer (some ⟨BB, 1, none⟩)
  | 17 => v = .int .i64 kg
  | 18 => v = .pointer (some ⟨WW, 1, none⟩)
  | 19 => v = .slice (some ⟨gb, go, none⟩) ng cg
  | 20 => v = .pointer (some ⟨BB, 0, none⟩)
  | 21 => v = .pointer (some ⟨BB, 0, none⟩)
  | 22 => v = .int .i64 (q : Int)
  | 23 => v = .pointer (some ⟨gb, go + q * 1, none⟩)
  | 24 => v = .int .i64 kg
  | 25 => v = .bool false
  | 26 => v = .bool false
  | 27 => v = .bool false
  | 28 => v = .pointer (some ⟨BB, 0, none⟩)
  | 29 => v = .pointer (some ⟨BB, 1, none⟩)
  | 30 => v = .int .i64 kg
  | 31 => v = .bool false
  | 32 => v = .bool false
  | 33 => v = .bool false
  | 34 => v = .pointer (some ⟨WW, 0, none⟩)
  | 35 => v = .slice ak nk ck
  | 36 => v = .pointer (some ⟨BB, 2, none⟩)
  | 37 => v = .slice av nv cv
  | 38 => v = .bool false
  | 39 => v = .bool true
  | 40 => v = .bool true
  | _ => True
theorem F_wchke_mono (BB WW q gb go : Nat) (kg la : Int) (ak : Option Addr) (nk ck ng cg : Nat) (av : Option Addr) (nv cv : Nat) : Facts (F_wchke BB WW q gb go  kg la  ak  nk ck ng cg  av  nv cv ) := ⟨by
  intro jq v w w' h hb
  unfold F_wchke at h ⊢
  split at h
  all_goals first
    | exact h
    | trivial⟩
def F_wchkf (BB WW q gb go : Nat) (kg la : Int) (ak : Option Addr) (nk ck ng cg : Nat) (av : Option Addr) (nv cv : Nat) (jq : Nat) (v : Value) (w : World) : Prop :=
  match jq with
  | 0 => v = .pointer (some ⟨BB, 0, none⟩)
  | 1 => v = .pointer (some ⟨BB, 0, none⟩)
  | 2 => v = .int .i64 (q : Int)
  | 3 => v = .int .i64 la
  | 4 => v = .bool false
  | 5 => v = .bool false
  | 6 => v = .pointer (some ⟨BB, 0, none⟩)
  | 7 => v = .pointer (some ⟨BB, 0, none⟩)
  | 8 => v = .int .i64 (q : Int)
  | 9 => v = .pointer (some ⟨WW, 1, none⟩)
  | 10 => v = .slice (some ⟨gb, go, none⟩) ng cg
  | 11 => v = .int .i64 (ng : Int)
  | 12 => v = .bool false
  | 13 => v = .bool false
  | 14 => v = .bool false
  | 15 => v = .pointer (some ⟨BB, 0, none⟩)
  | 16 => v = .pointer (some ⟨BB, 1, none⟩)
  | 17 => v = .int .i64 kg
  | 18 => v = .pointer (some ⟨WW, 1, none⟩)
  | 19 => v = .slice (some ⟨gb, go, none⟩) ng cg
  | 20 => v = .pointer (some ⟨BB, 0, none⟩)
  | 21 => v = .pointer (some ⟨BB, 0, none⟩)
  | 22 => v = .int .i64 (q : Int)
  | 23 => v = .pointer (some ⟨gb, go + q * 1, none⟩)
  | 24 => v = .int .i64 kg
  | 25 => v = .bool false
  | 26 => v = .bool false
  | 27 => v = .bool false
  | 28 => v = .pointer (some ⟨BB, 0, none⟩)
  | 29 => v = .pointer (some ⟨BB, 1, none⟩)
  | 30 => v = .int .i64 kg
  | 31 => v = .bool false
  | 32 => v = .bool false
  | 33 => v = .bool false
  | 34 => v = .pointer (some ⟨WW, 0, none⟩)
  | 35 => v = .slice ak nk ck
  | 36 => v = .pointer (some ⟨BB, 2, none⟩)
  | 37 => v = .slice av nv cv
  | 38 => v = .bool true
  | 39 => v = .bool false
  | 40 => v = .bool false
  | _ => True
theorem F_wchkf_mono (BB WW q gb go : Nat) (kg la : Int) (ak : Option Addr) (nk ck ng cg : Nat) (av : Option Addr) (nv cv : Nat) : Facts (F_wchkf BB WW q gb go  kg la  ak  nk ck ng cg  av  nv cv ) := ⟨by
  intro jq v w w' h hb
  unfold F_wchkf at h ⊢
  split at h
  all_goals first
    | exact h
    | trivial⟩

end Go.Proofs.YtijeninfmjhbnaaDoor
end
/- Worlds held against each other: ref SameWorld, world.Same. -/
section
namespace Go.Proofs.YtijeninfmjhbnaaDoor
open Go.ChangeShapes Go.WideShapes Go.ChangeAt Go.RowKit Go.Nm Go.Mem
set_option linter.unusedVariables false
def sameB (y z : WorldV) : Bool := eqL keqB y.kinds z.kinds && (decide (y.gens = z.gens) && decide (y.items = z.items))
theorem box2w {w w2 : World} {o1 o2 : Array Value} {t : TypeId} (h : Below ((w.alloc (.cells o1 t)).alloc (.cells o2 t)).heap.size ((w.alloc (.cells o1 t)).alloc (.cells o2 t)) w2) :
    w2.heap[w.heap.size]? = some (.cells o1 t) ∧ w2.heap[w.heap.size + 1]? = some (.cells o2 t) := by
  refine ⟨heap_below (heap_alloc2_old _ _ _) h, heap_below ?_ h⟩
  have := heap_alloc_new (w.alloc (.cells o1 t)) (.cells o2 t)
  rw [World.size_alloc] at this
  exact this
theorem sameB_refl (y : WorldV) : sameB y y = true := by unfold sameB; rw [eqL_refl keqB_refl]; simp
end Go.Proofs.YtijeninfmjhbnaaDoor
end
/- A list of structs grown by append: the row, and each element's deep part, that leans only on blocks made in its own round. -/
section
namespace Go.Proofs.YtijeninfmjhbnaaDoor
open Go.ChangeShapes Go.WideShapes Go.ChangeAt Go.RowKit Go.Nm Go.Mem
set_option linter.unusedVariables false
/-- Q holds, and leans on the blocks lo .. hi - 1 alone -/
def Win (lo hi : Nat) (Q : World → Prop) (w : World) : Prop := hi ≤ w.heap.size ∧ ∀ w2 : World, hi ≤ w2.heap.size → (∀ g, lo ≤ g → g < hi → w2.heap[g]? = w.heap[g]?) → Q w2
theorem Win.now {lo hi : Nat} {Q : World → Prop} {w : World} (h : Win lo hi Q w) : Q w := h.2 w h.1 (fun _ _ _ => rfl)
theorem Win.to {lo hi : Nat} {Q : World → Prop} {w w' : World} (h : Win lo hi Q w) (hs : hi ≤ w'.heap.size) (hb : ∀ g, lo ≤ g → g < hi → w'.heap[g]? = w.heap[g]?) : Win lo hi Q w' :=
  ⟨hs, fun w2 h1 h2 => h.2 w2 h1 (fun g g1 g2 => (h2 g g1 g2).trans (hb g g1 g2))⟩
theorem Win.ofUp {B : Nat} {Q : World → Prop} {w : World} (h : Up B Q w) : Win B w.heap.size Q w := ⟨Nat.le_refl _, fun w2 h1 h2 => h w2 ⟨h1, h2⟩⟩
theorem flat_len {α : Type} {sz : Nat} : ∀ (css : List (List α)), (∀ c ∈ css, c.length = sz) → css.flatten.length = css.length * sz
  | [], _ => by simp
  | c :: r, h => by
    rw [List.flatten_cons, List.length_append, flat_len r (fun x hx => h x (List.mem_cons_of_mem _ hx)), h c (List.mem_cons_self ..), List.length_cons, Nat.succ_mul]
    omega
theorem flat_get {α : Type} {sz : Nat} : ∀ (css : List (List α)), (∀ c ∈ css, c.length = sz) → ∀ j (h : j < css.length) i, i < sz → css.flatten[j * sz + i]? = css[j][i]?
  | [], _, j, h, _, _ => absurd h (by simp)
  | c :: r, hc, 0, h, i, hi => by
    rw [List.flatten_cons, Nat.zero_mul, Nat.zero_add, List.getElem?_append_left (by rw [hc c (List.mem_cons_self ..)]; exact hi)]
    rfl
  | c :: r, hc, j + 1, h, i, hi => by
    have hcl := hc c (List.mem_cons_self ..)
    rw [List.flatten_cons, List.getElem?_append_right (by rw [hcl, Nat.succ_mul]; omega), hcl, show (j + 1) * sz + i - sz = j * sz + i by rw [Nat.succ_mul]; omega]
    exact flat_get r (fun x hx => hc x (List.mem_cons_of_mem _ hx)) j (by simpa using h) i hi
def GrowL {α : Type} (E : World → List Value → α → Prop) (base : Nat) (T : TypeId) (sz : Nat) (w : World) (v : Value) (l : List α) : Prop :=
  ∃ css : List (List Value), css.length = l.length ∧ (∀ c ∈ css, c.length = sz) ∧ w.ownsRow base T sz v l.length css.flatten ∧
    ∀ j (h : j < l.length) (h2 : j < css.length), ∃ lo hi, base ≤ lo ∧ (∀ g, v.ownBlock = some g → ¬(lo ≤ g ∧ g < hi)) ∧ Win lo hi (fun w => E w css[j] l[j]) w
theorem GrowL.nil {α : Type} (E : World → List Value → α → Prop) (T : TypeId) (sz : Nat) (base : Nat) (w : World) : GrowL E base T sz w (.slice none 0 0) [] :=
  ⟨[], rfl, fun c h => absurd h (by simp), ⟨by simp, Or.inl ⟨rfl, rfl⟩⟩, fun j h => absurd h (by simp)⟩
theorem GrowL.below {α : Type} {E : World → List Value → α → Prop} {base : Nat} {T : TypeId} {sz : Nat} {w w' : World} {v : Value} {l : List α} (h : GrowL E base T sz w v l) (hb : Below w.heap.size w w') : GrowL E base T sz w' v l := by
  obtain ⟨css, h1, h2, h3, h4⟩ := h
  refine ⟨css, h1, h2, ?_, fun j hj hj2 => ?_⟩
  · refine ⟨h3.1, ?_⟩
    rcases h3.2 with h | ⟨g, cap, cur, k1, k2, k3, k4⟩
    · exact Or.inl h
    · exact Or.inr ⟨g, cap, cur, k1, k2, heap_below k3 hb, k4⟩
  · obtain ⟨lo, hi, p0, p1, p2⟩ := h4 j hj hj2
    exact ⟨lo, hi, p0, p1, p2.to (Nat.le_trans p2.1 hb.size) (fun g _ g2 => hb.block g (Nat.lt_of_lt_of_le g2 p2.1))⟩
theorem GrowL.frame {α : Type} {E : World → List Value → α → Prop} {base : Nat} {T : TypeId} {sz : Nat} {w w' : World} {v : Value} {l : List α} (h : GrowL E base T sz w v l) (hs : w.heap.size ≤ w'.heap.size) (hb : ∀ g, base ≤ g → g < w.heap.size → w'.heap[g]? = w.heap[g]?) : GrowL E base T sz w' v l := by
  obtain ⟨css, h1, h2, h3, h4⟩ := h
  refine ⟨css, h1, h2, ?_, fun j hj hj2 => ?_⟩
  · refine ⟨h3.1, ?_⟩
    rcases h3.2 with h | ⟨g, cap, cur, k1, k2, k3, k4⟩
    · exact Or.inl h
    · exact Or.inr ⟨g, cap, cur, k1, k2, (hb g k2 (lt_of_heap k3)).trans k3, k4⟩
  · obtain ⟨lo, hi, p0, p1, p2⟩ := h4 j hj hj2
    exact ⟨lo, hi, p0, p1, p2.to (Nat.le_trans p2.1 hs) (fun g g1 g2 => hb g (Nat.le_trans p0 g1) (Nat.lt_of_lt_of_le g2 p2.1))⟩
theorem GrowL.push {α : Type} {E : World → List Value → α → Prop} {base : Nat} {T : TypeId} {sz : Nat} {w w2 w3 : World} {v v' : Value} {l : List α} (h : GrowL E base T sz w v l) (hbase : base ≤ w.heap.size) (hb : Below w.heap.size w w2)
    (cs : List Value) (y : α) (hcs : cs.length = sz) (hy : Win w.heap.size w2.heap.size (fun w => E w cs y) w2)
    {css : List (List Value)} (hcss : css.length = l.length ∧ (∀ c ∈ css, c.length = sz) ∧ w.ownsRow base T sz v l.length css.flatten ∧ ∀ j (h : j < l.length) (h2 : j < css.length), ∃ lo hi, base ≤ lo ∧ (∀ g, v.ownBlock = some g → ¬(lo ≤ g ∧ g < hi)) ∧ Win lo hi (fun w => E w css[j] l[j]) w)
    (hown : w3.ownsRow base T sz v' (l.length + 1) (css.flatten ++ cs)) (hg : w2.grownBy w3 v.ownBlock) (g' : Nat) (hv' : v'.ownBlock = some g') (hlie : v.ownBlock = some g' ∨ g' = w2.heap.size) : GrowL E base T sz w3 v' (l ++ [y]) := by
  obtain ⟨h1, h2, h3, h4⟩ := hcss
  refine ⟨css ++ [cs], by simp [h1], ?_, ?_, fun j hj hj2 => ?_⟩
  · intro c hc
    rcases List.mem_append.1 hc with hc | hc
    · exact h2 c hc
    · rw [List.mem_singleton.1 hc]; exact hcs
  · rw [List.flatten_append, List.length_append]
    simpa using hown
  · by_cases hjl : j < l.length
    · obtain ⟨lo, hi, p0, p1, p2⟩ := h4 j hjl (by omega)
      have e1 : (css ++ [cs])[j]'hj2 = css[j]'(by omega) := List.getElem_append_left (by omega)
      have e2 : (l ++ [y])[j]'hj = l[j]'hjl := List.getElem_append_left hjl
      rw [e1, e2]
      refine ⟨lo, hi, p0, fun g hgg => ?_, p2.to (Nat.le_trans p2.1 (Nat.le_trans hb.size hg.size)) (fun g g1 g2 => ?_)⟩
      · rw [hv'] at hgg
        injection hgg with hgg
        subst hgg
        rcases hlie with hl | hl
        · exact p1 _ hl
        · have := hb.size
          have := p2.1
          omega
      · have hgw : g < w.heap.size := Nat.lt_of_lt_of_le g2 p2.1
        rw [hg.block g (Nat.lt_of_lt_of_le hgw hb.size) (fun e => p1 g e.symm ⟨g1, g2⟩)]
        exact hb.block g hgw
    · have hje : j = l.length := by simp at hj; omega
      subst hje
      have e1 : (css ++ [cs])[l.length]'hj2 = cs := by
        rw [List.getElem_append_right (by omega)]; simp [h1]
      have e2 : (l ++ [y])[l.length]'hj = y := by
        rw [List.getElem_append_right (by omega)]; simp
      rw [e1, e2]
      refine ⟨w.heap.size, w2.heap.size, hbase, fun g hgg => ?_, hy.to hg.size (fun g g1 g2 => ?_)⟩
      · rw [hv'] at hgg
        injection hgg with hgg
        subst hgg
        rcases hlie with hl | hl
        · have := (own_lt h3 _ hl).2
          omega
        · omega
      · exact hg.block g g2 (fun e => by have := (own_lt h3 _ e.symm).2; omega)
theorem GrowL.push2 {α : Type} {E : World → List Value → α → Prop} {base : Nat} {T : TypeId} {sz : Nat} {w w2 w3 : World} {v v' : Value} {l : List α} (h : GrowL E base T sz w v l) (hbase : base ≤ w.heap.size) (hb : Below w.heap.size w w2)
    (cs : List Value) (y : α) (hcs : cs.length = sz) (hy : Win w.heap.size w2.heap.size (fun w => E w cs y) w2)
    {css : List (List Value)} (hcss : css.length = l.length ∧ (∀ c ∈ css, c.length = sz) ∧ w.ownsRow base T sz v l.length css.flatten ∧ ∀ j (h : j < l.length) (h2 : j < css.length), ∃ lo hi, base ≤ lo ∧ (∀ g, v.ownBlock = some g → ¬(lo ≤ g ∧ g < hi)) ∧ Win lo hi (fun w => E w css[j] l[j]) w)
    (hown : w3.ownsRow base T sz v' (l.length + 1) (css.flatten ++ cs)) (hg : w2.grownBy w3 v.ownBlock) (hlie : v'.ownBlock = v.ownBlock ∨ v'.ownBlock = some w2.heap.size) : GrowL E base T sz w3 v' (l ++ [y]) := by
  obtain ⟨g', cap, hv', _, _⟩ := hown.form (by omega)
  have hv2 : v'.ownBlock = some g' := by rw [hv']; rfl
  refine h.push hbase hb cs y hcs hy hcss hown hg g' hv2 ?_
  rcases hlie with hl | hl
  · exact Or.inl (by rw [← hl]; exact hv2)
  · exact Or.inr (by rw [hv2] at hl; injection hl)
theorem GrowL.slice {α : Type} {E : World → List Value → α → Prop} {base : Nat} {T : TypeId} {sz : Nat} {w : World} {v : Value} {l : List α} (h : GrowL E base T sz w v l) : ∃ a c, v = .slice a l.length c ∧ l.length ≤ c ∧ c ≤ 9223372036854775807 := by
  obtain ⟨css, h1, h2, h3, h4⟩ := h
  rcases h3.2 with ⟨h, h0⟩ | ⟨g, cap, cur, k1, k2, k3, k4, k5, _⟩
  · exact ⟨none, 0, by rw [h, h0], by omega, by omega⟩
  · exact ⟨_, cap, k1, k4, k5⟩
theorem GrowL.up {α : Type} {E : World → List Value → α → Prop} {At : World → Addr → α → Prop} (hEA : ∀ w g q cs y, E w cs y → (∀ i u, cs[i]? = some u → w.cell? ⟨g, q + i, none⟩ = some u) → At w ⟨g, q, none⟩ y)
    {base : Nat} {T : TypeId} {sz : Nat} {w : World} {v : Value} {l : List α} (h : GrowL E base T sz w v l) (a : Option Addr) (c : Nat) (hv : v = .slice a l.length c) : Up base (fun w => SlAt sz At w a l) w := by
  obtain ⟨css, h1, h2, h3, h4⟩ := h
  intro w2 hs h0
  rcases h3.2 with ⟨h, h9⟩ | ⟨g, cap, cur, k1, k2, k3, k4, k5, k6, k7⟩
  · omega
  · rw [k1] at hv
    injection hv with e1 e2 e3
    subst e1
    have hlt : g < w.heap.size := lt_of_heap k3
    have h3' : w2.ownsRow base T sz (.slice (some ⟨g, 0, none⟩) l.length cap) l.length css.flatten := ⟨h3.1, Or.inr ⟨g, cap, cur, rfl, k2, (hs.2 g k2 hlt).trans k3, k4, k5, k6, k7⟩⟩
    refine ⟨_, rfl, Nat.lt_of_lt_of_le hlt hs.1, fun j hj => ?_⟩
    obtain ⟨lo, hi, p0, p1, p2⟩ := h4 j hj (by omega)
    have hE := p2.2 w2 (Nat.le_trans p2.1 hs.1) (fun g2 q1 q2 => hs.2 g2 (Nat.le_trans p0 q1) (Nat.lt_of_lt_of_le q2 p2.1))
    rw [add_zero_block]
    refine hEA w2 g (j * sz) _ _ hE (fun i u hu => ?_)
    have hc2 := h2 _ (List.getElem_mem (show j < css.length by omega))
    have hil : i < sz := by
      rcases Nat.lt_or_ge i sz with hlt2 | hge
      · exact hlt2
      · rw [List.getElem?_eq_none (by omega)] at hu; cases hu
    rw [h3'.cellAt (j * sz + i) (by
      have : (j + 1) * sz ≤ l.length * sz := Nat.mul_le_mul_right _ hj
      rw [Nat.succ_mul] at this
      omega), flat_get css h2 j (by omega) i hil]
    exact hu
end Go.Proofs.YtijeninfmjhbnaaDoor
end
