/- Lemmas for the law TopSlotWorld: WCheck. No conditions. -/
import Derived.Test.YtpilpkbblkhnaaaM16
import Derived.Test.YtpilpkbblkhnaaaM15
/- world.Check. -/
section
namespace Go.Proofs.Ytpilpkbblkhnaaa
open Go.ChangeShapes Go.WideShapes Go.ChangeAt Go.RowKit Go.Nm Go.Mem
set_option linter.unusedVariables false
/-- the first i generations are within their bounds -/
def gensAt (l : List Int) : Nat → Bool
  | 0 => true
  | i + 1 => gensAt l i && (decide (0 ≤ l.getD i 0) && decide (l.getD i 0 ≤ 1073741824))
theorem gensAt_succ (l : List Int) (i : Nat) : gensAt l (i + 1) = (gensAt l i && (decide (0 ≤ l.getD i 0) && decide (l.getD i 0 ≤ 1073741824))) := rfl
theorem gensAt_stays (l : List Int) (i : Nat) (h : gensAt l i = false) : ∀ n, i ≤ n → gensAt l n = false := by
  intro n
  induction n with
  | zero => intro hn; obtain rfl : i = 0 := by omega
            exact h
  | succ n ih =>
    intro hn
    by_cases e : i = n + 1
    · rw [← e]; exact h
    · rw [gensAt_succ, ih (by omega), Bool.false_and]
def lastN (l : List ItemV) (i : Nat) : Int := if i = 0 then -1 else (l.getD (i - 1) default).n
theorem lastN_succ (l : List ItemV) (i : Nat) : lastN l (i + 1) = (l.getD i default).n := by unfold lastN; rw [if_neg (by omega), Nat.add_sub_cancel]
/-- the first i items are fit -/
def itemsAt (w : WorldV) : Nat → Bool
  | 0 => true
  | i + 1 => itemsAt w i && (decide (lastN w.items i < (w.items.getD i default).n) && (decide ((w.items.getD i default).n < w.gens.length) && (decide ((w.items.getD i default).gen = w.gens.getD (w.items.getD i default).n.toNat 0) && (decide ((w.items.getD i default).gen ≠ 1073741824) && heldB w.kinds (w.items.getD i default).comps))))
theorem itemsAt_succ (w : WorldV) (i : Nat) : itemsAt w (i + 1) = (itemsAt w i && (decide (lastN w.items i < (w.items.getD i default).n) && (decide ((w.items.getD i default).n < w.gens.length) && (decide ((w.items.getD i default).gen = w.gens.getD (w.items.getD i default).n.toNat 0) && (decide ((w.items.getD i default).gen ≠ 1073741824) && heldB w.kinds (w.items.getD i default).comps))))) := rfl
theorem itemsAt_stays (w : WorldV) (i : Nat) (h : itemsAt w i = false) : ∀ n, i ≤ n → itemsAt w n = false := by
  intro n
  induction n with
  | zero => intro hn; obtain rfl : i = 0 := by omega
            exact h
  | succ n ih =>
    intro hn
    by_cases e : i = n + 1
    · rw [← e]; exact h
    · rw [itemsAt_succ, ih (by omega), Bool.false_and]
theorem itemsAt_low (w : WorldV) (i : Nat) (h : itemsAt w i = true) : -1 ≤ lastN w.items i := by
  induction i with
  | zero => exact Int.le_refl _
  | succ i ih =>
    rw [itemsAt_succ, Bool.and_eq_true, Bool.and_eq_true] at h
    have h1 := ih h.1
    have h2 := of_decide_eq_true h.2.1
    rw [lastN_succ]
    omega
/-- the error of a world -/
def checkE (w : WorldV) : Int := if kindsE w.kinds ≠ 0 then kindsE w.kinds else if 256 < w.gens.length ∨ w.gens.length < w.items.length then 2 else if gensAt w.gens w.gens.length = true ∧ itemsAt w w.items.length = true then 0 else 3
theorem checkE_form {w : WorldV} (h1 : kindsE w.kinds = 0) (h2 : ¬ (256 < w.gens.length ∨ w.gens.length < w.items.length)) (h3 : ¬ (gensAt w.gens w.gens.length = true ∧ itemsAt w w.items.length = true)) : checkE w = 3 := by
  unfold checkE; rw [if_neg (by rw [h1]; simp), if_neg h2, if_neg h3]
/-- a world whose numbers of values are small -/
def SmallW (w : WorldV) : Prop := w.kinds.length ≤ 1048576 ∧ w.gens.length ≤ 1048576 ∧ w.items.length ≤ 1048576 ∧ ∀ y ∈ w.items, y.comps.length ≤ 1048576 ∧ ∀ c ∈ y.comps, c.vals.length ≤ 1048576
theorem list41 {α : Type} {vs : List α} (h : vs.length = 41) : ∃ x0 x1 x2 x3 x4 x5 x6 x7 x8 x9 x10 x11 x12 x13 x14 x15 x16 x17 x18 x19 x20 x21 x22 x23 x24 x25 x26 x27 x28 x29 x30 x31 x32 x33 x34 x35 x36 x37 x38 x39 x40, vs = [x0, x1, x2, x3, x4, x5, x6, x7, x8, x9, x10, x11, x12, x13, x14, x15, x16, x17, x18, x19, x20, x21, x22, x23, x24, x25, x26, x27, x28, x29, x30, x31, x32, x33, x34, x35, x36, x37, x38, x39, x40] := by
  obtain ⟨x0, t0, rfl, h0⟩ := cons_of h
  obtain ⟨x1, t1, rfl, h1⟩ := cons_of h0
  obtain ⟨x2, t2, rfl, h2⟩ := cons_of h1
  obtain ⟨x3, t3, rfl, h3⟩ := cons_of h2
  obtain ⟨x4, t4, rfl, h4⟩ := cons_of h3
  obtain ⟨x5, t5, rfl, h5⟩ := cons_of h4
  obtain ⟨x6, t6, rfl, h6⟩ := cons_of h5
  obtain ⟨x7, t7, rfl, h7⟩ := cons_of h6
  obtain ⟨x8, t8, rfl, h8⟩ := cons_of h7
  obtain ⟨x9, t9, rfl, h9⟩ := cons_of h8
  obtain ⟨x10, t10, rfl, h10⟩ := cons_of h9
  obtain ⟨x11, t11, rfl, h11⟩ := cons_of h10
  obtain ⟨x12, t12, rfl, h12⟩ := cons_of h11
  obtain ⟨x13, t13, rfl, h13⟩ := cons_of h12
  obtain ⟨x14, t14, rfl, h14⟩ := cons_of h13
  obtain ⟨x15, t15, rfl, h15⟩ := cons_of h14
  obtain ⟨x16, t16, rfl, h16⟩ := cons_of h15
  obtain ⟨x17, t17, rfl, h17⟩ := cons_of h16
  obtain ⟨x18, t18, rfl, h18⟩ := cons_of h17
  obtain ⟨x19, t19, rfl, h19⟩ := cons_of h18
  obtain ⟨x20, t20, rfl, h20⟩ := cons_of h19
  obtain ⟨x21, t21, rfl, h21⟩ := cons_of h20
  obtain ⟨x22, t22, rfl, h22⟩ := cons_of h21
  obtain ⟨x23, t23, rfl, h23⟩ := cons_of h22
  obtain ⟨x24, t24, rfl, h24⟩ := cons_of h23
  obtain ⟨x25, t25, rfl, h25⟩ := cons_of h24
  obtain ⟨x26, t26, rfl, h26⟩ := cons_of h25
  obtain ⟨x27, t27, rfl, h27⟩ := cons_of h26
  obtain ⟨x28, t28, rfl, h28⟩ := cons_of h27
  obtain ⟨x29, t29, rfl, h29⟩ := cons_of h28
  obtain ⟨x30, t30, rfl, h30⟩ := cons_of h29
  obtain ⟨x31, t31, rfl, h31⟩ := cons_of h30
  obtain ⟨x32, t32, rfl, h32⟩ := cons_of h31
  obtain ⟨x33, t33, rfl, h33⟩ := cons_of h32
  obtain ⟨x34, t34, rfl, h34⟩ := cons_of h33
  obtain ⟨x35, t35, rfl, h35⟩ := cons_of h34
  obtain ⟨x36, t36, rfl, h36⟩ := cons_of h35
  obtain ⟨x37, t37, rfl, h37⟩ := cons_of h36
  obtain ⟨x38, t38, rfl, h38⟩ := cons_of h37
  obtain ⟨x39, t39, rfl, h39⟩ := cons_of h38
  obtain ⟨x40, t40, rfl, h40⟩ := cons_of h39
  exact ⟨x0, x1, x2, x3, x4, x5, x6, x7, x8, x9, x10, x11, x12, x13, x14, x15, x16, x17, x18, x19, x20, x21, x22, x23, x24, x25, x26, x27, x28, x29, x30, x31, x32, x33, x34, x35, x36, x37, x38, x39, x40, by rw [List.eq_nil_of_length_eq_zero h40]⟩
def F_wchka (BB WW : Nat) (kn kg la : Int) (ak : Option Addr) (nk ck : Nat) (ag : Option Addr) (ng cg : Nat) (av : Option Addr) (nv cv : Nat) (jq : Nat) (v : Value) (w : World) : Prop :=
  match jq with
  | 0 => v = .pointer (some ⟨BB, 0, none⟩)
  | 1 => v = .pointer (some ⟨BB, 0, none⟩)
  | 2 => v = .int .i64 kn
  | 3 => v = .int .i64 la
  | 4 => v = .bool true
  | 5 => v = .bool true
  | 6 => v = undef
  | 7 => v = undef
  | 8 => v = undef
  | 9 => v = undef
  | 10 => v = undef
  | 11 => v = undef
  | 12 => v = undef
  | 13 => v = .bool true
  | 14 => v = .bool true
  | 15 => v = undef
  | 16 => v = undef
  | 17 => v = undef
  | 18 => v = undef
  | 19 => v = undef
  | 20 => v = undef
  | 21 => v = undef
  | 22 => v = undef
  | 23 => v = undef
  | 24 => v = undef
  | 25 => v = undef
  | 26 => v = .bool true
  | 27 => v = .bool true
  | 28 => v = undef
  | 29 => v = undef
  | 30 => v = undef
  | 31 => v = undef
  | 32 => v = .bool true
  | 33 => v = .bool true
  | 34 => v = undef
  | 35 => v = undef
  | 36 => v = undef
  | 37 => v = undef
  | 38 => v = undef
  | 39 => v = undef
  | 40 => v = .bool true
  | _ => True
theorem F_wchka_mono (BB WW : Nat) (kn kg la : Int) (ak : Option Addr) (nk ck : Nat) (ag : Option Addr) (ng cg : Nat) (av : Option Addr) (nv cv : Nat) : Facts (F_wchka BB WW  kn kg la  ak  nk ck  ag  ng cg  av  nv cv ) := ⟨by
  intro jq v w w' h hb
  unfold F_wchka at h ⊢
  split at h
  all_goals first
    | exact h
    | trivial⟩
def F_wchkb (BB WW : Nat) (kn kg la : Int) (ak : Option Addr) (nk ck : Nat) (ag : Option Addr) (ng cg : Nat) (av : Option Addr) (nv cv : Nat) (jq : Nat) (v : Value) (w : World) : Prop :=
  match jq with
  | 0 => v = .pointer (some ⟨BB, 0, none⟩)
  | 1 => v = .pointer (some ⟨BB, 0, none⟩)
  | 2 => v = .int .i64 kn
  | 3 => v = .int .i64 la
  | 4 => v = .bool false
  | 5 => v = .bool false
  | 6 => v = .pointer (some ⟨BB, 0, none⟩)
  | 7 => v = .pointer (some ⟨BB, 0, none⟩)
  | 8 => v = .int .i64 kn
  | 9 => v = .pointer (some ⟨WW, 1, none⟩)
  | 10 => v = .slice ag ng cg
  | 11 => v = .int .i64 (ng : Int)
  | 12 => v = .bool true
  | 13 => v = .bool true
  | 14 => v = .bool true
  | 15 => v = undef
  | 16 => v = undef
  | 17 => v = undef
  | 18 => v = undef
  | 19 => v = undef
  | 20 => v = undef
  | 21 => v = undef
  | 22 => v = undef
  | 23 => v = undef
  | 24 => v = undef
  | 25 => v = undef
  | 26 => v = .bool true
  | 27 => v = .bool true
  | 28 => v = undef
  | 29 => v = undef
  | 30 => v = undef
  | 31 => v = undef
  | 32 => v = .bool true
  | 33 => v = .bool true
  | 34 => v = undef
  | 35 => v = undef
  | 36 => v = undef
  | 37 => v = undef
  | 38 => v = undef
  | 39 => v = undef
  | 40 => v = .bool true
  | _ => True
theorem F_wchkb_mono (BB WW : Nat) (kn kg la : Int) (ak : Option Addr) (nk ck : Nat) (ag : Option Addr) (ng cg : Nat) (av : Option Addr) (nv cv : Nat) : Facts (F_wchkb BB WW  kn kg la  ak  nk ck  ag  ng cg  av  nv cv ) := ⟨by
  intro jq v w w' h hb
  unfold F_wchkb at h ⊢
  split at h
  all_goals first
    | exact h
    | trivial⟩
def F_wchkc (BB WW q gb go : Nat) (kg gq la : Int) (ak : Option Addr) (nk ck ng cg : Nat) (av : Option Addr) (nv cv : Nat) (jq : Nat) (v : Value) (w : World) : Prop :=
  match jq with
  | 0 => v = .pointer (some ⟨BB, 0, none⟩)
  | 1 => v = .pointer (some ⟨BB, 0, none⟩)
  | 2 => v = .int .i64 (q : Int)
  | 3 => v = .int .i64 la
  | 4 => v = .bool false
  | 5 => v = .bool false
  | 6 => v = .pointer (some ⟨BB, 0, none⟩)
  | 7 => v = .pointer (some ⟨BB, 0, none⟩)
  | 8 => v = .int .i64 (q : Int)
  | 9 => v = .pointer (some ⟨WW, 1, none⟩)
  | 10 => v = .slice (some ⟨gb, go, none⟩) ng cg
  | 11 => v = .int .i64 (ng : Int)
  | 12 => v = .bool false
  | 13 => v = .bool false
  | 14 => v = .bool false
  | 15 => v = .pointer (some ⟨BB, 0, none⟩)
  | 16 => v = .pointer (some ⟨BB, 1, none⟩)
  | 17 => v = .int .i64 kg
  | 18 => v = .pointer (some ⟨WW, 1, none⟩)
  | 19 => v = .slice (some ⟨gb, go, none⟩) ng cg
  | 20 => v = .pointer (some ⟨BB, 0, none⟩)
  | 21 => v = .pointer (some ⟨BB, 0, none⟩)
  | 22 => v = .int .i64 (q : Int)
  | 23 => v = .pointer (some ⟨gb, go + q * 1, none⟩)
  | 24 => v = .int .i64 gq
  | 25 => v = .bool true
  | 26 => v = .bool true
  | 27 => v = .bool true
  | 28 => v = undef
  | 29 => v = undef
  | 30 => v = undef
  | 31 => v = undef
  | 32 => v = .bool true
  | 33 => v = .bool true
  | 34 => v = undef
  | 35 => v = undef
  | 36 => v = undef
  | 37 => v = undef
  | 38 => v = undef
  | 39 => v = undef
  | 40 => v = .bool true
  | _ => True
theorem F_wchkc_mono (BB WW q gb go : Nat) (kg gq la : Int) (ak : Option Addr) (nk ck ng cg : Nat) (av : Option Addr) (nv cv : Nat) : Facts (F_wchkc BB WW q gb go  kg gq la  ak  nk ck ng cg  av  nv cv ) := ⟨by
  intro jq v w w' h hb
  unfold F_wchkc at h ⊢
  split at h
  all_goals first
    | exact h
    | trivial⟩
def F_wchkd (BB WW q gb go : Nat) (kg la : Int) (ak : Option Addr) (nk ck ng cg : Nat) (av : Option Addr) (nv cv : Nat) (jq : Nat) (v : Value) (w : World) : Prop :=
  match jq with
  | 0 => v = .pointer (some ⟨BB, 0, none⟩)
  | 1 => v = .pointer (some ⟨BB, 0, none⟩)
  | 2 => v = .int .i64 (q : Int)
  | 3 => v = .int .i64 la
  | 4 => v = .bool false
  | 5 => v = .bool false
  | 6 => v = .pointer (some ⟨BB, 0, none⟩)
  | 7 => v = .pointer (some ⟨BB, 0, none⟩)
  | 8 => v = .int .i64 (q : Int)
  | 9 => v = .pointer (some ⟨WW, 1, none⟩)
  | 10 => v = .slice (some ⟨gb, go, none⟩) ng cg
  | 11 => v = .int .i64 (ng : Int)
  | 12 => v = .bool false
  | 13 => v = .bool false
  | 14 => v = .bool false
  | 15 => v = .pointer (some ⟨BB, 0, none⟩)
  | 16 => v = .pointer (some ⟨BB, 1, none⟩)
  | 17 => v = .int .i64 kg
  | 18 => v = .pointer (some ⟨WW, 1, none⟩)
  | 19 => v = .slice (some ⟨gb, go, none⟩) ng cg
  | 20 => v = .pointer (some ⟨BB, 0, none⟩)
  | 21 => v = .pointer (some ⟨BB, 0, none⟩)
  | 22 => v = .int .i64 (q : Int)
  | 23 => v = .pointer (some ⟨gb, go + q * 1, none⟩)
  | 24 => v = .int .i64 kg
  | 25 => v = .bool false
  | 26 => v = .bool false
  | 27 => v = .bool false
  | 28 => v = .pointer (some ⟨BB, 0, none⟩)
  | 29 => v = .pointer (some ⟨BB, 1, none⟩)
  | 30 => v = .int .i64 kg
  | 31 => v = .bool true
  | 32 => v = .bool true
  | 33 => v = .bool true
  | 34 => v = undef
  | 35 => v = undef
  | 36 => v = undef
  | 37 => v = undef
  | 38 => v = undef
  | 39 => v = undef
  | 40 => v = .bool true
  | _ => True
theorem F_wchkd_mono (BB WW q gb go : Nat) (kg la : Int) (ak : Option Addr) (nk ck ng cg : Nat) (av : Option Addr) (nv cv : Nat) : Facts (F_wchkd BB WW q gb go  kg la  ak  nk ck ng cg  av  nv cv ) := ⟨by
  intro jq v w w' h hb
  unfold F_wchkd at h ⊢
  split at h
  all_goals first
    | exact h
    | trivial⟩
def F_wchke (BB WW q gb go : Nat) (kg la : Int) (ak : Option Addr) (nk ck ng cg : Nat) (av : Option Addr) (nv cv : Nat) (jq : Nat) (v : Value) (w : World) : Prop :=
  match jq with
  | 0 => v = .pointer (some ⟨BB, 0, none⟩)
  | 1 => v = .pointer (some ⟨BB, 0, none⟩)
  | 2 => v = .int .i64 (q : Int)
  | 3 => v = .int .i64 la
  | 4 => v = .bool false
  | 5 => v = .bool false
  | 6 => v = .pointer (some ⟨BB, 0, none⟩)
  | 7 => v = .pointer (some ⟨BB, 0, none⟩)
  | 8 => v = .int .i64 (q : Int)
  | 9 => v = .pointer (some ⟨WW, 1, none⟩)
  | 10 => v = .slice (some ⟨gb, go, none⟩) ng cg
  | 11 => v = .int .i64 (ng : Int)
  | 12 => v = .bool false
  | 13 => v = .bool false
  | 14 => v = .bool false
  | 15 => v = .pointer (some ⟨BB, 0, none⟩)
  | 16 => v = .pointer (some ⟨BB, 1, none⟩)
  | 17 => v = .int .i64 kg
  | 18 => v = .pointer (some ⟨WW, 1, none⟩)
  | 19 => v = .slice (some ⟨gb, go, none⟩) ng cg
  | 20 => v = .pointer (some ⟨BB, 0, none⟩)
  | 21 => v = .pointer (some ⟨BB, 0, none⟩)
  | 22 => v = .int .i64 (q : Int)
  | 23 => v = .pointer (some ⟨gb, go + q * 1, none⟩)
  | 24 => v = .int .i64 kg
  | 25 => v = .bool false
  | 26 => v = .bool false
  | 27 => v = .bool false
  | 28 => v = .pointer (some ⟨BB, 0, none⟩)
  | 29 => v = .pointer (some ⟨BB, 1, none⟩)
  | 30 => v = .int .i64 kg
  | 31 => v = .bool false
  | 32 => v = .bool false
  | 33 => v = .bool false
  | 34 => v = .pointer (some ⟨WW, 0, none⟩)
  | 35 => v = .slice ak nk ck
  | 36 => v = .pointer (some ⟨BB, 2, none⟩)
  | 37 => v = .slice av nv cv
  | 38 => v = .bool false
  | 39 => v = .bool true
  | 40 => v = .bool true
  | _ => True
theorem F_wchke_mono (BB WW q gb go : Nat) (kg la : Int) (ak : Option Addr) (nk ck ng cg : Nat) (av : Option Addr) (nv cv : Nat) : Facts (F_wchke BB WW q gb go  kg la  ak  nk ck ng cg  av  nv cv ) := ⟨by
  intro jq v w w' h hb
  unfold F_wchke at h ⊢
  split at h
  all_goals first
    | exact h
    | trivial⟩
def F_wchkf (BB WW q gb go : Nat) (kg la : Int) (ak : Option Addr) (nk ck ng cg : Nat) (av : Option Addr) (nv cv : Nat) (jq : Nat) (v : Value) (w : World) : Prop :=
  match jq with
  | 0 => v = .pointer (some ⟨BB, 0, none⟩)
  | 1 => v = .pointer (some ⟨BB, 0, none⟩)
  | 2 => v = .int .i64 (q : Int)
  | 3 => v = .int .i64 la
  | 4 => v = .bool false
  | 5 => v = .bool false
  | 6 => v = .pointer (some ⟨BB, 0, none⟩)
  | 7 => v = .pointer (some ⟨BB, 0, none⟩)
  | 8 => v = .int .i64 (q : Int)
  | 9 => v = .pointer (some ⟨WW, 1, none⟩)
  | 10 => v = .slice (some ⟨gb, go, none⟩) ng cg
  | 11 => v = .int .i64 (ng : Int)
  | 12 => v = .bool false
  | 13 => v = .bool false
  | 14 => v = .bool false
  | 15 => v = .pointer (some ⟨BB, 0, none⟩)
  | 16 => v = .pointer (some ⟨BB, 1, none⟩)
  | 17 => v = .int .i64 kg
  | 18 => v = .pointer (some ⟨WW, 1, none⟩)
  | 19 => v = .slice (some ⟨gb, go, none⟩) ng cg
  | 20 => v = .pointer (some ⟨BB, 0, none⟩)
  | 21 => v = .pointer (some ⟨BB, 0, none⟩)
  | 22 => v = .int .i64 (q : Int)
  | 23 => v = .pointer (some ⟨gb, go + q * 1, none⟩)
  | 24 => v = .int .i64 kg
  | 25 => v = .bool false
  | 26 => v = .bool false
  | 27 => v = .bool false
  | 28 => v = .pointer (some ⟨BB, 0, none⟩)
  | 29 => v = .pointer (some ⟨BB, 1, none⟩)
  | 30 => v = .int .i64 kg
  | 31 => v = .bool false
  | 32 => v = .bool false
  | 33 => v = .bool false
  | 34 => v = .pointer (some ⟨WW, 0, none⟩)
  | 35 => v = .slice ak nk ck
  | 36 => v = .pointer (some ⟨BB, 2, none⟩)
  | 37 => v = .slice av nv cv
  | 38 => v = .bool true
  | 39 => v = .bool false
  | 40 => v = .bool false
  | _ => True
theorem F_wchkf_mono (BB WW q gb go : Nat) (kg la : Int) (ak : Option Addr) (nk ck ng cg : Nat) (av : Option Addr) (nv cv : Nat) : Facts (F_wchkf BB WW q gb go  kg la  ak  nk ck ng cg  av  nv cv ) := ⟨by
  intro jq v w w' h hb
  unfold F_wchkf at h ⊢
  split at h
  all_goals first
    | exact h
    | trivial⟩

set_option maxHeartbeats 16000000 in
set_option maxRecDepth 20000 in
theorem world_Check (y : WorldV) (v : Value) (W : World) (hv : WorldIn W v y) (hsm : SmallW y) :
    Calls Try.prog 28 #[v] W fun e w' => e = .returned (.int .i64 (checkE y)) ∧ Below W.heap.size W w' := by
  obtain ⟨ak, ck, ag, cg, ai, ci, rfl, hzk, hzg, hzi, hk1, hk2⟩ := hv
  obtain ⟨s1, s2, s3, s4⟩ := hsm
  obtain ⟨nk, hnk⟩ : ∃ nk, nk = y.kinds.length := ⟨_, rfl⟩
  obtain ⟨ng, hng⟩ : ∃ ng, ng = y.gens.length := ⟨_, rfl⟩
  obtain ⟨ni, hni⟩ : ∃ ni, ni = y.items.length := ⟨_, rfl⟩
  rw [← hnk] at hk1 s1
  rw [← hng] at s2
  rw [← hni] at s3
  rw [← hnk, ← hng, ← hni]
  obtain ⟨o1, ho1⟩ : ∃ o : Obj, o = .cells #[.slice ak nk ck, .slice ag ng cg, .slice ai ni ci] 27 (0, 0) := ⟨_, rfl⟩
  have hbA := (Below.refl W.heap.size W).alloc (Nat.le_refl _) o1
  have hbx := heap_alloc_new W o1
  rw [ho1] at hbA hbx
  have HBA := Lib.hid hbA
  have HBX := Lib.hid hbx
  have CK := Lib.hid (fun w' (hb : Below W.heap.size W w') => kind_Check y.kinds ak nk ck hnk.symm (by omega) hk1 hk2 w' (hzk.below KindAt.abides hb))
  obtain ⟨KE, hKE⟩ : ∃ KE, KE = kindsE y.kinds := ⟨_, rfl⟩
  obtain ⟨CE, hCE⟩ : ∃ CE, CE = checkE y := ⟨_, rfl⟩
  have f1 : KE ≠ 0 → CE = KE := fun h => by rw [hCE, hKE]; unfold checkE; rw [if_pos (by rw [← hKE]; exact h)]
  have f2 : KE = 0 → (256 < ng ∨ ng < ni) → CE = 2 := fun h h2 => by rw [hCE]; unfold checkE; rw [if_neg (by rw [← hKE, h]; simp), if_pos (by rw [← hng, ← hni]; exact h2)]
  have f3 : KE = 0 → ¬ (256 < ng ∨ ng < ni) → gensAt y.gens ng = false → CE = 3 := fun h h2 h3 => by rw [hCE]; exact checkE_form (by rw [← hKE, h]) (by rw [← hng, ← hni]; exact h2) (by rw [← hng, h3]; simp)
  have f4 : KE = 0 → ¬ (256 < ng ∨ ng < ni) → itemsAt y ni = false → CE = 3 := fun h h2 h3 => by rw [hCE]; exact checkE_form (by rw [← hKE, h]) (by rw [← hng, ← hni]; exact h2) (by rw [← hni, h3]; simp)
  have f5 : KE = 0 → ¬ (256 < ng ∨ ng < ni) → gensAt y.gens ng = true → itemsAt y ni = true → CE = 0 := fun h h2 h3 h4 => by rw [hCE]; unfold checkE; rw [if_neg (by rw [← hKE, h]; simp), if_neg (by rw [← hng, ← hni]; exact h2), if_pos (by rw [← hng, ← hni]; exact ⟨h3, h4⟩)]
  rw [← hKE] at CK
  rw [← hCE]
  have F1 := Lib.hid f1
  have F2 := Lib.hid f2
  have F3 := Lib.hid f3
  have F4 := Lib.hid f4
  have F5 := Lib.hid f5
  have NK := Lib.hid hnk
  have NG := Lib.hid hng
  have NI := Lib.hid hni
  have ZK := Lib.hid hzk
  have ZG := Lib.hid hzg
  have ZI := Lib.hid hzi
  have S4 := Lib.hid s4
  clear f1 f2 f3 f4 f5 hnk hng hni hzk hzg hzi s4 hKE hCE hbA hbx ho1 o1
  go_enter Try.func28, Try.ntmps28
  have e0 := cell_of_row _ _ 0 _ _ _ HBX.out
  have e1 := cell_of_row _ _ 1 _ _ _ HBX.out
  have e2 := cell_of_row _ _ 2 _ _ _ HBX.out
  go_wp2_with fail
  refine (CK.out _ HBA.out).mono ?_
  rintro e w1 ⟨rfl, hb1⟩
  have hbx := heap_below HBX.out hb1
  have hb := HBA.out.trans (hb1.mono HBA.out.size)
  clear e0 e1 e2 HBX HBA hb1
  have HBX := Lib.hid hbx
  have HB := Lib.hid hb
  have e0 := cell_of_row _ _ 0 _ _ _ hbx
  have e1 := cell_of_row _ _ 1 _ _ _ hbx
  have e2 := cell_of_row _ _ 2 _ _ _ hbx
  clear hbx hb CK
  by_cases hke : KE = 0
  · subst hke
    replace F2 := Lib.hid (F2.out rfl)
    replace F3 := Lib.hid (F3.out rfl)
    replace F4 := Lib.hid (F4.out rfl)
    replace F5 := Lib.hid (F5.out rfl)
    clear F1
    by_cases hlg : 256 < ng ∨ ng < ni
    · have hr := F2.out hlg
      have HR := Lib.hid hr
      clear hr
      rcases hlg with h | h
      · go_wp2
        go_ret
        exact ⟨by rw [HR.out]; rfl, HB.out⟩
      · by_cases h' : 256 < ng
        · go_wp2
          go_ret
          exact ⟨by rw [HR.out]; rfl, HB.out⟩
        · go_wp2
          go_ret
          exact ⟨by rw [HR.out]; rfl, HB.out⟩
    · have HLG := Lib.hid hlg
      replace F3 := Lib.hid (F3.out hlg)
      replace F4 := Lib.hid (F4.out hlg)
      replace F5 := Lib.hid (F5.out hlg)
      clear F2
      have l1 : ng ≤ 256 := by omega
      have l2 : ni ≤ ng := by omega
      have b1 : decide ((256 : Int) < (ng : Int)) = false := decide_eq_false (by omega)
      have b2 : decide ((ng : Int) < (ni : Int)) = false := decide_eq_false (by omega)
      have b3 : decide (ng < ni) = false := decide_eq_false (by omega)
      clear hlg
      go_wp2_with fail
      go_loopg [31, 5] ng (fun gk v31 _ wx => ∃ i : Nat, i ≤ ng ∧ gk = ng - i ∧ v31 = .int .i64 i ∧ gensAt y.gens i = true ∧ wx = w1)
      case atStart => exact ⟨0, Nat.zero_le _, rfl, rfl, rfl, rfl⟩
      case round =>
        obtain ⟨i, i1, i2, rfl, hg, rfl⟩ := hrel
        have I2 := Lib.hid i2
        have HG := Lib.hid hg
        clear i2 hg
        by_cases hi : i < ng
        · obtain ⟨x, rfl, _, _⟩ := ZG.out (by rw [← NG.out]; omega)
          obtain ⟨xb, xo, rfl, hcl⟩ := ints_cell (ZG.out.below HB.out) i (by rw [← NG.out]; exact hi)
          have hs := gensAt_succ y.gens i
          have hst := fun h => gensAt_stays y.gens (i + 1) h ng hi
          rw [HG.out, Bool.true_and] at hs
          obtain ⟨g, hgv⟩ : ∃ g, g = y.gens.getD i 0 := ⟨_, rfl⟩
          rw [← hgv] at hs hcl
          rw [Nat.mul_one] at hcl
          have HS := Lib.hid hs
          have HST := Lib.hid hst
          clear hs hst hgv
          by_cases g1 : g < 0
          · have hr := F3.out (HST.out (by rw [HS.out, decide_eq_false (by omega), Bool.false_and]))
            have HR := Lib.hid hr
            clear hr
            go_wp2
            go_ret
            exact ⟨by rw [HR.out]; rfl, HB.out⟩
          · by_cases g2 : 1073741824 < g
            · have hr := F3.out (HST.out (by rw [HS.out, decide_eq_false (p := g ≤ 1073741824) (by omega), Bool.and_false]))
              have HR := Lib.hid hr
              clear hr
              go_wp2
              go_ret
              exact ⟨by rw [HR.out]; rfl, HB.out⟩
            · have hr := HS.out
              rw [decide_eq_true (by omega), decide_eq_true (by omega), Bool.true_and] at hr
              have HR := Lib.hid hr
              clear hr
              go_wp2
              go_roundg (ng - (i + 1))
              case measure => rw [I2.out]; omega
              case rel => exact ⟨i + 1, hi, rfl, by go_num, HR.out, rfl⟩
        · obtain rfl : ng = i := by omega
          have HGE := Lib.hid HG.out
          clear HG I2
          go_wp2_with fail
          go_loopg [45, 6, 8] ni (fun gk v45 v6 _ wx => ∃ i : Nat, i ≤ ni ∧ gk = ni - i ∧ v45 = .int .i64 i ∧ v6 = .int .i64 (lastN y.items i) ∧ itemsAt y i = true ∧ wx.heap[W.heap.size]? = some (.cells #[.slice ak nk ck, .slice ag ng cg, .slice ai ni ci] 27 (0, 0)) ∧ Below W.heap.size W wx)
          case atStart => exact ⟨0, Nat.zero_le _, rfl, rfl, rfl, rfl, HBX.out, HB.out⟩
          case round =>
            clear HBX HB e0 e1 e2
            obtain ⟨i, i1, i2, rfl, rfl, hit, hbx, hb⟩ := hrel
            have I2 := Lib.hid i2
            have HIT := Lib.hid hit
            have HBX := Lib.hid hbx
            have HB0 := Lib.hid hb
            clear i2 hit hbx hb
            by_cases hi : i < ni
            · obtain ⟨x, rfl, _, _⟩ := ZI.out (by rw [← NI.out]; omega)
              obtain ⟨xb, xo, rfl, av, cv, hcl, hco⟩ := item_cells (ZI.out.below ItemAt.abides HB0.out) i (by rw [← NI.out]; exact hi)
              have hgd : y.items.getD i default = y.items[i]'(by rw [← NI.out]; exact hi) := by rw [List.getD_eq_getElem?_getD, List.getElem?_eq_getElem (by rw [← NI.out]; exact hi)]; rfl
              have hs := itemsAt_succ y i
              have hls := lastN_succ y.items i
              have hst := fun h => itemsAt_stays y (i + 1) h ni hi
              have hlow := itemsAt_low y i HIT.out
              have hsm := S4.out _ (List.getElem_mem (by rw [← NI.out]; exact hi) : y.items[i]'(by rw [← NI.out]; exact hi) ∈ y.items)
              rw [hgd] at hs hls
              obtain ⟨it, hitd⟩ : ∃ it, it = y.items[i]'(by rw [← NI.out]; exact hi) := ⟨_, rfl⟩
              rw [← hitd] at hcl hco hs hls hsm
              obtain ⟨nv, hnv⟩ : ∃ nv, nv = it.comps.length := ⟨_, rfl⟩
              rw [← hnv] at hcl hsm
              obtain ⟨kn, hkn⟩ : ∃ kn, kn = it.n := ⟨_, rfl⟩
              obtain ⟨kg, hkg⟩ : ∃ kg, kg = it.gen := ⟨_, rfl⟩
              rw [← hkn] at hcl hs hls
              rw [← hkg] at hcl hs
              obtain ⟨la, hla⟩ : ∃ la, la = lastN y.items i := ⟨_, rfl⟩
              rw [← hla] at hs hlow ⊢
              rw [HIT.out, Bool.true_and, ← NG.out] at hs
              have x0 := hcl.at 0 (by simp)
              have x1 := hcl.at 1 (by simp)
              have x2 := hcl.at 2 (by simp)
              simp only [List.getElem_cons_zero, List.getElem_cons_succ, Nat.add_zero] at x0 x1 x2
              have e0 := cell_of_row _ _ 0 _ _ _ HBX.out
              have e1 := cell_of_row _ _ 1 _ _ _ HBX.out
              have e2 := cell_of_row _ _ 2 _ _ _ HBX.out
              have hro := new_row wr #[.int .i64 kn, .int .i64 kg, .slice av nv cv] 33
              have q0 := hro.at 0 (by simp)
              have q1 := hro.at 1 (by simp)
              have q2 := hro.at 2 (by simp)
              simp only [List.getElem_cons_zero, List.getElem_cons_succ, Nat.zero_add] at q0 q1 q2
              have hbA : Below wr.heap.size wr (wr.alloc (.cells #[.int .i64 kn, .int .i64 kg, .slice av nv cv] 33 (0, 0))) := (Below.refl _ _).alloc (Nat.le_refl _) _
              have hbx2 := heap_below HBX.out hbA
              have z0 := cell_of_row _ _ 0 _ _ _ hbx2
              have z1 := cell_of_row _ _ 1 _ _ _ hbx2
              have HBX2 := Lib.hid hbx2
              have Q0 := Lib.hid q0
              have Q1 := Lib.hid q1
              have Q2 := Lib.hid q2
              have Z0 := Lib.hid z0
              have Z1 := Lib.hid z1
              have HS := Lib.hid hs
              have HLS := Lib.hid hls
              have HNV := Lib.hid hnv
              have HCO := Lib.hid (hco.below CompAt.abides hbA)
              have HB := Lib.hid (bt HB0.out hbA)
              have HSM := Lib.hid hsm
              have HRT := Lib.hid (fun (b : Bool) (h1 : itemsAt y (i + 1) = b) (h2 : b = false) => F4.out (hst (by rw [h1, h2])))
              clear hgd hitd hkn hkg hla hnv hs hls hst hcl hco hro q0 q1 q2 z0 z1 hbx2 hbA hsm
              by_cases hA : kn ≤ la
              · have hr := HRT.out _ (by rw [HS.out, decide_eq_false (by omega), Bool.false_and]) rfl
                have HR := Lib.hid hr
                clear hr
                go_wp2_with fail
                refine wp_region_facts_t rfl 41 (by kernel_rfl) (F_wchka wr.heap.size W.heap.size kn kg la ak nk ck ag ng cg av nv cv) (F_wchka_mono wr.heap.size W.heap.size kn kg la ak nk ck ag ng cg av nv cv) ?_ ?_
                · refine ⟨?_, ?_, ?_, ?_, ?_, ?_, ?_, ?_, ?_, ?_, ?_, ?_, ?_, ?_, ?_, ?_, ?_, ?_, ?_, ?_, ?_, ?_, ?_, ?_, ?_, ?_, ?_, ?_, ?_, ?_, ?_, ?_, ?_, ?_, ?_, ?_, ?_, ?_, ?_, ?_, ?_, trivial⟩
                  · intro vs w' F hb hd hF hl hT
                    have e := (hF 8).trans (look_out _ 8 _ _ (by kernel_rfl))
                    exact one_field _ _ _ rfl rfl _ _ e (0) (fun w => by kernel_rfl) ⟨_, rfl, Below.refl _ _, rfl⟩
                  · intro vs w' F hb hd hF hl hT
                    have e := ((hF 49).trans (look_at _ 49 0 _ _ (by kernel_rfl) (by kernel_rfl) hl)).trans (dep_of (Fact := F_wchka wr.heap.size W.heap.size kn kg la ak nk ck ag ng cg av nv cv) hd 0 (by kernel_rfl))
                    exact one_field _ _ _ rfl rfl _ _ e (0) (fun w => by kernel_rfl) ⟨_, rfl, Below.refl _ _, rfl⟩
                  · intro vs w' F hb hd hF hl hT
                    have e := ((hF 50).trans (look_at _ 50 1 _ _ (by kernel_rfl) (by kernel_rfl) hl)).trans (dep_of (Fact := F_wchka wr.heap.size W.heap.size kn kg la ak nk ck ag ng cg av nv cv) hd 1 (by kernel_rfl))
                    exact one_load _ _ rfl rfl _ _ e (cell_abides Q0.out hb) (by kernel_rfl) ⟨_, rfl, Below.refl _ _, rfl⟩
                  · intro vs w' F hb hd hF hl hT
                    have e := (hF 6).trans (look_out _ 6 _ _ (by kernel_rfl))
                    exact one_move _ rfl (by first | exact Or.inl rfl | exact Or.inr rfl) ⟨_, rfl, Below.refl _ _, e⟩
                  · intro vs w' F hb hd hF hl hT
                    have e1 := ((hF 51).trans (look_at _ 51 2 _ _ (by kernel_rfl) (by kernel_rfl) hl)).trans (dep_of (Fact := F_wchka wr.heap.size W.heap.size kn kg la ak nk ck ag ng cg av nv cv) hd 2 (by kernel_rfl))
                    have e2 := ((hF 52).trans (look_at _ 52 3 _ _ (by kernel_rfl) (by kernel_rfl) hl)).trans (dep_of (Fact := F_wchka wr.heap.size W.heap.size kn kg la ak nk ck ag ng cg av nv cv) hd 3 (by kernel_rfl))
                    exact rg_leq _ _ _ _ rfl rfl .i64 (kn) (la) true e1 e2 (decide_eq_true (by omega)) ⟨_, rfl, Below.refl _ _, rfl⟩
                  · intro vs w' F hb hd hF hl hT
                    have e := ((hF 53).trans (look_at _ 53 4 _ _ (by kernel_rfl) (by kernel_rfl) hl)).trans (dep_of (Fact := F_wchka wr.heap.size W.heap.size kn kg la ak nk ck ag ng cg av nv cv) hd 4 (by kernel_rfl))
                    exact one_move _ rfl (by first | exact Or.inl rfl | exact Or.inr rfl) ⟨_, rfl, Below.refl _ _, e⟩
                  · intro vs w' F hb hd hF hl hT
                    have eg := ((hF 54).trans (look_at _ 54 5 _ _ (by kernel_rfl) (by kernel_rfl) hl)).trans (dep_of (Fact := F_wchka wr.heap.size W.heap.size kn kg la ak nk ck ag ng cg av nv cv) hd 5 (by kernel_rfl))
                    exact wpList_off rfl (t := 54) (d := true) (by kernel_rfl) eg (by decide) ⟨_, rfl, Below.refl _ _, rfl⟩
                  · intro vs w' F hb hd hF hl hT
                    have eg := ((hF 54).trans (look_at _ 54 5 _ _ (by kernel_rfl) (by kernel_rfl) hl)).trans (dep_of (Fact := F_wchka wr.heap.size W.heap.size kn kg la ak nk ck ag ng cg av nv cv) hd 5 (by kernel_rfl))
                    exact wpList_off rfl (t := 54) (d := true) (by kernel_rfl) eg (by decide) ⟨_, rfl, Below.refl _ _, rfl⟩
                  · intro vs w' F hb hd hF hl hT
                    have eg := ((hF 54).trans (look_at _ 54 5 _ _ (by kernel_rfl) (by kernel_rfl) hl)).trans (dep_of (Fact := F_wchka wr.heap.size W.heap.size kn kg la ak nk ck ag ng cg av nv cv) hd 5 (by kernel_rfl))
                    exact wpList_off rfl (t := 54) (d := true) (by kernel_rfl) eg (by decide) ⟨_, rfl, Below.refl _ _, rfl⟩
                  · intro vs w' F hb hd hF hl hT
                    have eg := ((hF 54).trans (look_at _ 54 5 _ _ (by kernel_rfl) (by kernel_rfl) hl)).trans (dep_of (Fact := F_wchka wr.heap.size W.heap.size kn kg la ak nk ck ag ng cg av nv cv) hd 5 (by kernel_rfl))
                    exact wpList_off rfl (t := 54) (d := true) (by kernel_rfl) eg (by decide) ⟨_, rfl, Below.refl _ _, rfl⟩
                  · intro vs w' F hb hd hF hl hT
                    have eg := ((hF 54).trans (look_at _ 54 5 _ _ (by kernel_rfl) (by kernel_rfl) hl)).trans (dep_of (Fact := F_wchka wr.heap.size W.heap.size kn kg la ak nk ck ag ng cg av nv cv) hd 5 (by kernel_rfl))
                    exact wpList_off rfl (t := 54) (d := true) (by kernel_rfl) eg (by decide) ⟨_, rfl, Below.refl _ _, rfl⟩
                  · intro vs w' F hb hd hF hl hT
                    have eg := ((hF 54).trans (look_at _ 54 5 _ _ (by kernel_rfl) (by kernel_rfl) hl)).trans (dep_of (Fact := F_wchka wr.heap.size W.heap.size kn kg la ak nk ck ag ng cg av nv cv) hd 5 (by kernel_rfl))
                    exact wpList_off rfl (t := 54) (d := true) (by kernel_rfl) eg (by decide) ⟨_, rfl, Below.refl _ _, rfl⟩
                  · intro vs w' F hb hd hF hl hT
                    have eg := ((hF 54).trans (look_at _ 54 5 _ _ (by kernel_rfl) (by kernel_rfl) hl)).trans (dep_of (Fact := F_wchka wr.heap.size W.heap.size kn kg la ak nk ck ag ng cg av nv cv) hd 5 (by kernel_rfl))
                    exact wpList_off rfl (t := 54) (d := true) (by kernel_rfl) eg (by decide) ⟨_, rfl, Below.refl _ _, rfl⟩
                  · intro vs w' F hb hd hF hl hT
                    have ec := ((hF 54).trans (look_at _ 54 5 _ _ (by kernel_rfl) (by kernel_rfl) hl)).trans (dep_of (Fact := F_wchka wr.heap.size W.heap.size kn kg la ak nk ck ag ng cg av nv cv) hd 5 (by kernel_rfl))
                    exact one_pick_t _ _ _ rfl rfl _ ec rfl ⟨_, rfl, Below.refl _ _, rfl⟩
                  · intro vs w' F hb hd hF hl hT
                    have e := ((hF 62).trans (look_at _ 62 13 _ _ (by kernel_rfl) (by kernel_rfl) hl)).trans (dep_of (Fact := F_wchka wr.heap.size W.heap.size kn kg la ak nk ck ag ng cg av nv cv) hd 13 (by kernel_rfl))
                    exact one_move _ rfl (by first | exact Or.inl rfl | exact Or.inr rfl) ⟨_, rfl, Below.refl _ _, e⟩
                  · intro vs w' F hb hd hF hl hT
                    have eg := ((hF 63).trans (look_at _ 63 14 _ _ (by kernel_rfl) (by kernel_rfl) hl)).trans (dep_of (Fact := F_wchka wr.heap.size W.heap.size kn kg la ak nk ck ag ng cg av nv cv) hd 14 (by kernel_rfl))
                    exact wpList_off rfl (t := 63) (d := true) (by kernel_rfl) eg (by decide) ⟨_, rfl, Below.refl _ _, rfl⟩
                  · intro vs w' F hb hd hF hl hT
                    have eg := ((hF 63).trans (look_at _ 63 14 _ _ (by kernel_rfl) (by kernel_rfl) hl)).trans (dep_of (Fact := F_wchka wr.heap.size W.heap.size kn kg la ak nk ck ag ng cg av nv cv) hd 14 (by kernel_rfl))
                    exact wpList_off rfl (t := 63) (d := true) (by kernel_rfl) eg (by decide) ⟨_, rfl, Below.refl _ _, rfl⟩
                  · intro vs w' F hb hd hF hl hT
                    have eg := ((hF 63).trans (look_at _ 63 14 _ _ (by kernel_rfl) (by kernel_rfl) hl)).trans (dep_of (Fact := F_wchka wr.heap.size W.heap.size kn kg la ak nk ck ag ng cg av nv cv) hd 14 (by kernel_rfl))
                    exact wpList_off rfl (t := 63) (d := true) (by kernel_rfl) eg (by decide) ⟨_, rfl, Below.refl _ _, rfl⟩
                  · intro vs w' F hb hd hF hl hT
                    have eg := ((hF 63).trans (look_at _ 63 14 _ _ (by kernel_rfl) (by kernel_rfl) hl)).trans (dep_of (Fact := F_wchka wr.heap.size W.heap.size kn kg la ak nk ck ag ng cg av nv cv) hd 14 (by kernel_rfl))
                    exact wpList_off rfl (t := 63) (d := true) (by kernel_rfl) eg (by decide) ⟨_, rfl, Below.refl _ _, rfl⟩
                  · intro vs w' F hb hd hF hl hT
                    have eg := ((hF 63).trans (look_at _ 63 14 _ _ (by kernel_rfl) (by kernel_rfl) hl)).trans (dep_of (Fact := F_wchka wr.heap.size W.heap.size kn kg la ak nk ck ag ng cg av nv cv) hd 14 (by kernel_rfl))
                    exact wpList_off rfl (t := 63) (d := true) (by kernel_rfl) eg (by decide) ⟨_, rfl, Below.refl _ _, rfl⟩
                  · intro vs w' F hb hd hF hl hT
                    have eg := ((hF 63).trans (look_at _ 63 14 _ _ (by kernel_rfl) (by kernel_rfl) hl)).trans (dep_of (Fact := F_wchka wr.heap.size W.heap.size kn kg la ak nk ck ag ng cg av nv cv) hd 14 (by kernel_rfl))
                    exact wpList_off rfl (t := 63) (d := true) (by kernel_rfl) eg (by decide) ⟨_, rfl, Below.refl _ _, rfl⟩
                  · intro vs w' F hb hd hF hl hT
                    have eg := ((hF 63).trans (look_at _ 63 14 _ _ (by kernel_rfl) (by kernel_rfl) hl)).trans (dep_of (Fact := F_wchka wr.heap.size W.heap.size kn kg la ak nk ck ag ng cg av nv cv) hd 14 (by kernel_rfl))
                    exact wpList_off rfl (t := 63) (d := true) (by kernel_rfl) eg (by decide) ⟨_, rfl, Below.refl _ _, rfl⟩
                  · intro vs w' F hb hd hF hl hT
                    have eg := ((hF 63).trans (look_at _ 63 14 _ _ (by kernel_rfl) (by kernel_rfl) hl)).trans (dep_of (Fact := F_wchka wr.heap.size W.heap.size kn kg la ak nk ck ag ng cg av nv cv) hd 14 (by kernel_rfl))
                    exact wpList_off rfl (t := 63) (d := true) (by kernel_rfl) eg (by decide) ⟨_, rfl, Below.refl _ _, rfl⟩
                  · intro vs w' F hb hd hF hl hT
                    have eg := ((hF 63).trans (look_at _ 63 14 _ _ (by kernel_rfl) (by kernel_rfl) hl)).trans (dep_of (Fact := F_wchka wr.heap.size W.heap.size kn kg la ak nk ck ag ng cg av nv cv) hd 14 (by kernel_rfl))
                    exact wpList_off rfl (t := 63) (d := true) (by kernel_rfl) eg (by decide) ⟨_, rfl, Below.refl _ _, rfl⟩
                  · intro vs w' F hb hd hF hl hT
                    have eg := ((hF 63).trans (look_at _ 63 14 _ _ (by kernel_rfl) (by kernel_rfl) hl)).trans (dep_of (Fact := F_wchka wr.heap.size W.heap.size kn kg la ak nk ck ag ng cg av nv cv) hd 14 (by kernel_rfl))
                    exact wpList_off rfl (t := 63) (d := true) (by kernel_rfl) eg (by decide) ⟨_, rfl, Below.refl _ _, rfl⟩
                  · intro vs w' F hb hd hF hl hT
                    have eg := ((hF 63).trans (look_at _ 63 14 _ _ (by kernel_rfl) (by kernel_rfl) hl)).trans (dep_of (Fact := F_wchka wr.heap.size W.heap.size kn kg la ak nk ck ag ng cg av nv cv) hd 14 (by kernel_rfl))
                    exact wpList_off rfl (t := 63) (d := true) (by kernel_rfl) eg (by decide) ⟨_, rfl, Below.refl _ _, rfl⟩
                  · intro vs w' F hb hd hF hl hT
                    have ec := ((hF 63).trans (look_at _ 63 14 _ _ (by kernel_rfl) (by kernel_rfl) hl)).trans (dep_of (Fact := F_wchka wr.heap.size W.heap.size kn kg la ak nk ck ag ng cg av nv cv) hd 14 (by kernel_rfl))
                    exact one_pick_t _ _ _ rfl rfl _ ec rfl ⟨_, rfl, Below.refl _ _, rfl⟩
                  · intro vs w' F hb hd hF hl hT
                    have e := ((hF 75).trans (look_at _ 75 26 _ _ (by kernel_rfl) (by kernel_rfl) hl)).trans (dep_of (Fact := F_wchka wr.heap.size W.heap.size kn kg la ak nk ck ag ng cg av nv cv) hd 26 (by kernel_rfl))
                    exact one_move _ rfl (by first | exact Or.inl rfl | exact Or.inr rfl) ⟨_, rfl, Below.refl _ _, e⟩
                  · intro vs w' F hb hd hF hl hT
                    have eg := ((hF 76).trans (look_at _ 76 27 _ _ (by kernel_rfl) (by kernel_rfl) hl)).trans (dep_of (Fact := F_wchka wr.heap.size W.heap.size kn kg la ak nk ck ag ng cg av nv cv) hd 27 (by kernel_rfl))
                    exact wpList_off rfl (t := 76) (d := true) (by kernel_rfl) eg (by decide) ⟨_, rfl, Below.refl _ _, rfl⟩
                  · intro vs w' F hb hd hF hl hT
                    have eg := ((hF 76).trans (look_at _ 76 27 _ _ (by kernel_rfl) (by kernel_rfl) hl)).trans (dep_of (Fact := F_wchka wr.heap.size W.heap.size kn kg la ak nk ck ag ng cg av nv cv) hd 27 (by kernel_rfl))
                    exact wpList_off rfl (t := 76) (d := true) (by kernel_rfl) eg (by decide) ⟨_, rfl, Below.refl _ _, rfl⟩
                  · intro vs w' F hb hd hF hl hT
                    have eg := ((hF 76).trans (look_at _ 76 27 _ _ (by kernel_rfl) (by kernel_rfl) hl)).trans (dep_of (Fact := F_wchka wr.heap.size W.heap.size kn kg la ak nk ck ag ng cg av nv cv) hd 27 (by kernel_rfl))
                    exact wpList_off rfl (t := 76) (d := true) (by kernel_rfl) eg (by decide) ⟨_, rfl, Below.refl _ _, rfl⟩
                  · intro vs w' F hb hd hF hl hT
                    have eg := ((hF 76).trans (look_at _ 76 27 _ _ (by kernel_rfl) (by kernel_rfl) hl)).trans (dep_of (Fact := F_wchka wr.heap.size W.heap.size kn kg la ak nk ck ag ng cg av nv cv) hd 27 (by kernel_rfl))
                    exact wpList_off rfl (t := 76) (d := true) (by kernel_rfl) eg (by decide) ⟨_, rfl, Below.refl _ _, rfl⟩
                  · intro vs w' F hb hd hF hl hT
                    have ec := ((hF 76).trans (look_at _ 76 27 _ _ (by kernel_rfl) (by kernel_rfl) hl)).trans (dep_of (Fact := F_wchka wr.heap.size W.heap.size kn kg la ak nk ck ag ng cg av nv cv) hd 27 (by kernel_rfl))
                    exact one_pick_t _ _ _ rfl rfl _ ec rfl ⟨_, rfl, Below.refl _ _, rfl⟩
                  · intro vs w' F hb hd hF hl hT
                    have e := ((hF 81).trans (look_at _ 81 32 _ _ (by kernel_rfl) (by kernel_rfl) hl)).trans (dep_of (Fact := F_wchka wr.heap.size W.heap.size kn kg la ak nk ck ag ng cg av nv cv) hd 32 (by kernel_rfl))
                    exact one_move _ rfl (by first | exact Or.inl rfl | exact Or.inr rfl) ⟨_, rfl, Below.refl _ _, e⟩
                  · intro vs w' F hb hd hF hl hT
                    have eg := ((hF 82).trans (look_at _ 82 33 _ _ (by kernel_rfl) (by kernel_rfl) hl)).trans (dep_of (Fact := F_wchka wr.heap.size W.heap.size kn kg la ak nk ck ag ng cg av nv cv) hd 33 (by kernel_rfl))
                    exact wpList_off rfl (t := 82) (d := true) (by kernel_rfl) eg (by decide) ⟨_, rfl, Below.refl _ _, rfl⟩
                  · intro vs w' F hb hd hF hl hT
                    have eg := ((hF 82).trans (look_at _ 82 33 _ _ (by kernel_rfl) (by kernel_rfl) hl)).trans (dep_of (Fact := F_wchka wr.heap.size W.heap.size kn kg la ak nk ck ag ng cg av nv cv) hd 33 (by kernel_rfl))
                    exact wpList_off rfl (t := 82) (d := true) (by kernel_rfl) eg (by decide) ⟨_, rfl, Below.refl _ _, rfl⟩
                  · intro vs w' F hb hd hF hl hT
                    have eg := ((hF 82).trans (look_at _ 82 33 _ _ (by kernel_rfl) (by kernel_rfl) hl)).trans (dep_of (Fact := F_wchka wr.heap.size W.heap.size kn kg la ak nk ck ag ng cg av nv cv) hd 33 (by kernel_rfl))
                    exact wpList_off rfl (t := 82) (d := true) (by kernel_rfl) eg (by decide) ⟨_, rfl, Below.refl _ _, rfl⟩
                  · intro vs w' F hb hd hF hl hT
                    have eg := ((hF 82).trans (look_at _ 82 33 _ _ (by kernel_rfl) (by kernel_rfl) hl)).trans (dep_of (Fact := F_wchka wr.heap.size W.heap.size kn kg la ak nk ck ag ng cg av nv cv) hd 33 (by kernel_rfl))
                    exact wpList_off rfl (t := 82) (d := true) (by kernel_rfl) eg (by decide) ⟨_, rfl, Below.refl _ _, rfl⟩
                  · intro vs w' F hb hd hF hl hT
                    have eg := ((hF 82).trans (look_at _ 82 33 _ _ (by kernel_rfl) (by kernel_rfl) hl)).trans (dep_of (Fact := F_wchka wr.heap.size W.heap.size kn kg la ak nk ck ag ng cg av nv cv) hd 33 (by kernel_rfl))
                    exact wpList_off rfl (t := 82) (d := true) (by kernel_rfl) eg (by decide) ⟨_, rfl, Below.refl _ _, rfl⟩
                  · intro vs w' F hb hd hF hl hT
                    have eg := ((hF 82).trans (look_at _ 82 33 _ _ (by kernel_rfl) (by kernel_rfl) hl)).trans (dep_of (Fact := F_wchka wr.heap.size W.heap.size kn kg la ak nk ck ag ng cg av nv cv) hd 33 (by kernel_rfl))
                    exact wpList_off rfl (t := 82) (d := true) (by kernel_rfl) eg (by decide) ⟨_, rfl, Below.refl _ _, rfl⟩
                  · intro vs w' F hb hd hF hl hT
                    have ec := ((hF 82).trans (look_at _ 82 33 _ _ (by kernel_rfl) (by kernel_rfl) hl)).trans (dep_of (Fact := F_wchka wr.heap.size W.heap.size kn kg la ak nk ck ag ng cg av nv cv) hd 33 (by kernel_rfl))
                    exact one_pick_t _ _ _ rfl rfl _ ec rfl ⟨_, rfl, Below.refl _ _, rfl⟩
                · intro vs8 W8 hl hb hI
                  have hv : vs8.getD 40 undef = .bool true := hI 40 (by omega)
                  obtain ⟨x0, x1, x2, x3, x4, x5, x6, x7, x8, x9, x10, x11, x12, x13, x14, x15, x16, x17, x18, x19, x20, x21, x22, x23, x24, x25, x26, x27, x28, x29, x30, x31, x32, x33, x34, x35, x36, x37, x38, x39, x40, hvs⟩ := list41 hl
                  subst hvs
                  replace hv : x40 = .bool true := hv
                  subst hv
                  clear hI hl
                  simp only [fillAll, Act.put, List.setIfInBounds_toArray, List.set_cons_succ, List.set_cons_zero]
                  show wpList _ _ _ [] _ _
                  go_wp2
                  go_ret
                  exact ⟨by rw [HR.out]; rfl, bt HB.out hb⟩
              · by_cases hB : (ng : Int) ≤ kn
                · have hr := HRT.out _ (by rw [HS.out, decide_eq_false (p := kn < (ng : Int)) (by omega), Bool.false_and, Bool.and_false]) rfl
                  have HR := Lib.hid hr
                  clear hr
                  go_wp2_with fail
                  refine wp_region_facts_t rfl 41 (by kernel_rfl) (F_wchkb wr.heap.size W.heap.size kn kg la ak nk ck ag ng cg av nv cv) (F_wchkb_mono wr.heap.size W.heap.size kn kg la ak nk ck ag ng cg av nv cv) ?_ ?_
                  · refine ⟨?_, ?_, ?_, ?_, ?_, ?_, ?_, ?_, ?_, ?_, ?_, ?_, ?_, ?_, ?_, ?_, ?_, ?_, ?_, ?_, ?_, ?_, ?_, ?_, ?_, ?_, ?_, ?_, ?_, ?_, ?_, ?_, ?_, ?_, ?_, ?_, ?_, ?_, ?_, ?_, ?_, trivial⟩
                    · intro vs w' F hb hd hF hl hT
                      have e := (hF 8).trans (look_out _ 8 _ _ (by kernel_rfl))
                      exact one_field _ _ _ rfl rfl _ _ e (0) (fun w => by kernel_rfl) ⟨_, rfl, Below.refl _ _, rfl⟩
                    · intro vs w' F hb hd hF hl hT
                      have e := ((hF 49).trans (look_at _ 49 0 _ _ (by kernel_rfl) (by kernel_rfl) hl)).trans (dep_of (Fact := F_wchkb wr.heap.size W.heap.size kn kg la ak nk ck ag ng cg av nv cv) hd 0 (by kernel_rfl))
                      exact one_field _ _ _ rfl rfl _ _ e (0) (fun w => by kernel_rfl) ⟨_, rfl, Below.refl _ _, rfl⟩
                    · intro vs w' F hb hd hF hl hT
                      have e := ((hF 50).trans (look_at _ 50 1 _ _ (by kernel_rfl) (by kernel_rfl) hl)).trans (dep_of (Fact := F_wchkb wr.heap.size W.heap.size kn kg la ak nk ck ag ng cg av nv cv) hd 1 (by kernel_rfl))
                      exact one_load _ _ rfl rfl _ _ e (cell_abides Q0.out hb) (by kernel_rfl) ⟨_, rfl, Below.refl _ _, rfl⟩
                    · intro vs w' F hb hd hF hl hT
                      have e := (hF 6).trans (look_out _ 6 _ _ (by kernel_rfl))
                      exact one_move _ rfl (by first | exact Or.inl rfl | exact Or.inr rfl) ⟨_, rfl, Below.refl _ _, e⟩
                    · intro vs w' F hb hd hF hl hT
                      have e1 := ((hF 51).trans (look_at _ 51 2 _ _ (by kernel_rfl) (by kernel_rfl) hl)).trans (dep_of (Fact := F_wchkb wr.heap.size W.heap.size kn kg la ak nk ck ag ng cg av nv cv) hd 2 (by kernel_rfl))
                      have e2 := ((hF 52).trans (look_at _ 52 3 _ _ (by kernel_rfl) (by kernel_rfl) hl)).trans (dep_of (Fact := F_wchkb wr.heap.size W.heap.size kn kg la ak nk ck ag ng cg av nv cv) hd 3 (by kernel_rfl))
                      exact rg_leq _ _ _ _ rfl rfl .i64 (kn) (la) false e1 e2 (decide_eq_false (by omega)) ⟨_, rfl, Below.refl _ _, rfl⟩
                    · intro vs w' F hb hd hF hl hT
                      have e := ((hF 53).trans (look_at _ 53 4 _ _ (by kernel_rfl) (by kernel_rfl) hl)).trans (dep_of (Fact := F_wchkb wr.heap.size W.heap.size kn kg la ak nk ck ag ng cg av nv cv) hd 4 (by kernel_rfl))
                      exact one_move _ rfl (by first | exact Or.inl rfl | exact Or.inr rfl) ⟨_, rfl, Below.refl _ _, e⟩
                    · intro vs w' F hb hd hF hl hT
                      have eg := ((hF 54).trans (look_at _ 54 5 _ _ (by kernel_rfl) (by kernel_rfl) hl)).trans (dep_of (Fact := F_wchkb wr.heap.size W.heap.size kn kg la ak nk ck ag ng cg av nv cv) hd 5 (by kernel_rfl))
                      refine wpList_on rfl (t := 54) (by kernel_rfl) eg ?_
                      have e := (hF 8).trans (look_out _ 8 _ _ (by kernel_rfl))
                      exact one_field _ _ _ rfl rfl _ _ e (0) (fun w => by kernel_rfl) ⟨_, rfl, Below.refl _ _, rfl⟩
                    · intro vs w' F hb hd hF hl hT
                      have eg := ((hF 54).trans (look_at _ 54 5 _ _ (by kernel_rfl) (by kernel_rfl) hl)).trans (dep_of (Fact := F_wchkb wr.heap.size W.heap.size kn kg la ak nk ck ag ng cg av nv cv) hd 5 (by kernel_rfl))
                      refine wpList_on rfl (t := 54) (by kernel_rfl) eg ?_
                      have e := ((hF 55).trans (look_at _ 55 6 _ _ (by kernel_rfl) (by kernel_rfl) hl)).trans (dep_of (Fact := F_wchkb wr.heap.size W.heap.size kn kg la ak nk ck ag ng cg av nv cv) hd 6 (by kernel_rfl))
                      exact one_field _ _ _ rfl rfl _ _ e (0) (fun w => by kernel_rfl) ⟨_, rfl, Below.refl _ _, rfl⟩
                    · intro vs w' F hb hd hF hl hT
                      have eg := ((hF 54).trans (look_at _ 54 5 _ _ (by kernel_rfl) (by kernel_rfl) hl)).trans (dep_of (Fact := F_wchkb wr.heap.size W.heap.size kn kg la ak nk ck ag ng cg av nv cv) hd 5 (by kernel_rfl))
                      refine wpList_on rfl (t := 54) (by kernel_rfl) eg ?_
                      have e := ((hF 56).trans (look_at _ 56 7 _ _ (by kernel_rfl) (by kernel_rfl) hl)).trans (dep_of (Fact := F_wchkb wr.heap.size W.heap.size kn kg la ak nk ck ag ng cg av nv cv) hd 7 (by kernel_rfl))
                      exact one_load _ _ rfl rfl _ _ e (cell_abides Q0.out hb) (by kernel_rfl) ⟨_, rfl, Below.refl _ _, rfl⟩
                    · intro vs w' F hb hd hF hl hT
                      have eg := ((hF 54).trans (look_at _ 54 5 _ _ (by kernel_rfl) (by kernel_rfl) hl)).trans (dep_of (Fact := F_wchkb wr.heap.size W.heap.size kn kg la ak nk ck ag ng cg av nv cv) hd 5 (by kernel_rfl))
                      refine wpList_on rfl (t := 54) (by kernel_rfl) eg ?_
                      have e := (hF 1).trans (look_out _ 1 _ _ (by kernel_rfl))
                      exact one_field _ _ _ rfl rfl _ _ e (1) (fun w => by kernel_rfl) ⟨_, rfl, Below.refl _ _, rfl⟩
                    · intro vs w' F hb hd hF hl hT
                      have eg := ((hF 54).trans (look_at _ 54 5 _ _ (by kernel_rfl) (by kernel_rfl) hl)).trans (dep_of (Fact := F_wchkb wr.heap.size W.heap.size kn kg la ak nk ck ag ng cg av nv cv) hd 5 (by kernel_rfl))
                      refine wpList_on rfl (t := 54) (by kernel_rfl) eg ?_
                      have e := ((hF 58).trans (look_at _ 58 9 _ _ (by kernel_rfl) (by kernel_rfl) hl)).trans (dep_of (Fact := F_wchkb wr.heap.size W.heap.size kn kg la ak nk ck ag ng cg av nv cv) hd 9 (by kernel_rfl))
                      exact one_load _ _ rfl rfl _ _ e (cell_abides Z1.out hb) (by kernel_rfl) ⟨_, rfl, Below.refl _ _, rfl⟩
                    · intro vs w' F hb hd hF hl hT
                      have eg := ((hF 54).trans (look_at _ 54 5 _ _ (by kernel_rfl) (by kernel_rfl) hl)).trans (dep_of (Fact := F_wchkb wr.heap.size W.heap.size kn kg la ak nk ck ag ng cg av nv cv) hd 5 (by kernel_rfl))
                      refine wpList_on rfl (t := 54) (by kernel_rfl) eg ?_
                      have e := ((hF 59).trans (look_at _ 59 10 _ _ (by kernel_rfl) (by kernel_rfl) hl)).trans (dep_of (Fact := F_wchkb wr.heap.size W.heap.size kn kg la ak nk ck ag ng cg av nv cv) hd 10 (by kernel_rfl))
                      exact rg_len _ 22 3 rfl rfl Try.underlying22 ag (ng) (cg) e ⟨_, rfl, Below.refl _ _, rfl⟩
                    · intro vs w' F hb hd hF hl hT
                      have eg := ((hF 54).trans (look_at _ 54 5 _ _ (by kernel_rfl) (by kernel_rfl) hl)).trans (dep_of (Fact := F_wchkb wr.heap.size W.heap.size kn kg la ak nk ck ag ng cg av nv cv) hd 5 (by kernel_rfl))
                      refine wpList_on rfl (t := 54) (by kernel_rfl) eg ?_
                      have e1 := ((hF 57).trans (look_at _ 57 8 _ _ (by kernel_rfl) (by kernel_rfl) hl)).trans (dep_of (Fact := F_wchkb wr.heap.size W.heap.size kn kg la ak nk ck ag ng cg av nv cv) hd 8 (by kernel_rfl))
                      have e2 := ((hF 60).trans (look_at _ 60 11 _ _ (by kernel_rfl) (by kernel_rfl) hl)).trans (dep_of (Fact := F_wchkb wr.heap.size W.heap.size kn kg la ak nk ck ag ng cg av nv cv) hd 11 (by kernel_rfl))
                      exact rg_geq _ _ _ _ rfl rfl .i64 (kn) ((ng : Int)) true e1 e2 (decide_eq_true (by omega)) ⟨_, rfl, Below.refl _ _, rfl⟩
                    · intro vs w' F hb hd hF hl hT
                      have ec := ((hF 54).trans (look_at _ 54 5 _ _ (by kernel_rfl) (by kernel_rfl) hl)).trans (dep_of (Fact := F_wchkb wr.heap.size W.heap.size kn kg la ak nk ck ag ng cg av nv cv) hd 5 (by kernel_rfl))
                      have e := ((hF 61).trans (look_at _ 61 12 _ _ (by kernel_rfl) (by kernel_rfl) hl)).trans (dep_of (Fact := F_wchkb wr.heap.size W.heap.size kn kg la ak nk ck ag ng cg av nv cv) hd 12 (by kernel_rfl))
                      exact one_pick_f _ _ _ rfl rfl _ ec e ⟨_, rfl, Below.refl _ _, rfl⟩
                    · intro vs w' F hb hd hF hl hT
                      have e := ((hF 62).trans (look_at _ 62 13 _ _ (by kernel_rfl) (by kernel_rfl) hl)).trans (dep_of (Fact := F_wchkb wr.heap.size W.heap.size kn kg la ak nk ck ag ng cg av nv cv) hd 13 (by kernel_rfl))
                      exact one_move _ rfl (by first | exact Or.inl rfl | exact Or.inr rfl) ⟨_, rfl, Below.refl _ _, e⟩
                    · intro vs w' F hb hd hF hl hT
                      have eg := ((hF 63).trans (look_at _ 63 14 _ _ (by kernel_rfl) (by kernel_rfl) hl)).trans (dep_of (Fact := F_wchkb wr.heap.size W.heap.size kn kg la ak nk ck ag ng cg av nv cv) hd 14 (by kernel_rfl))
                      exact wpList_off rfl (t := 63) (d := true) (by kernel_rfl) eg (by decide) ⟨_, rfl, Below.refl _ _, rfl⟩
                    · intro vs w' F hb hd hF hl hT
                      have eg := ((hF 63).trans (look_at _ 63 14 _ _ (by kernel_rfl) (by kernel_rfl) hl)).trans (dep_of (Fact := F_wchkb wr.heap.size W.heap.size kn kg la ak nk ck ag ng cg av nv cv) hd 14 (by kernel_rfl))
                      exact wpList_off rfl (t := 63) (d := true) (by kernel_rfl) eg (by decide) ⟨_, rfl, Below.refl _ _, rfl⟩
                    · intro vs w' F hb hd hF hl hT
                      have eg := ((hF 63).trans (look_at _ 63 14 _ _ (by kernel_rfl) (by kernel_rfl) hl)).trans (dep_of (Fact := F_wchkb wr.heap.size W.heap.size kn kg la ak nk ck ag ng cg av nv cv) hd 14 (by kernel_rfl))
                      exact wpList_off rfl (t := 63) (d := true) (by kernel_rfl) eg (by decide) ⟨_, rfl, Below.refl _ _, rfl⟩
                    · intro vs w' F hb hd hF hl hT
                      have eg := ((hF 63).trans (look_at _ 63 14 _ _ (by kernel_rfl) (by kernel_rfl) hl)).trans (dep_of (Fact := F_wchkb wr.heap.size W.heap.size kn kg la ak nk ck ag ng cg av nv cv) hd 14 (by kernel_rfl))
                      exact wpList_off rfl (t := 63) (d := true) (by kernel_rfl) eg (by decide) ⟨_, rfl, Below.refl _ _, rfl⟩
                    · intro vs w' F hb hd hF hl hT
                      have eg := ((hF 63).trans (look_at _ 63 14 _ _ (by kernel_rfl) (by kernel_rfl) hl)).trans (dep_of (Fact := F_wchkb wr.heap.size W.heap.size kn kg la ak nk ck ag ng cg av nv cv) hd 14 (by kernel_rfl))
                      exact wpList_off rfl (t := 63) (d := true) (by kernel_rfl) eg (by decide) ⟨_, rfl, Below.refl _ _, rfl⟩
                    · intro vs w' F hb hd hF hl hT
                      have eg := ((hF 63).trans (look_at _ 63 14 _ _ (by kernel_rfl) (by kernel_rfl) hl)).trans (dep_of (Fact := F_wchkb wr.heap.size W.heap.size kn kg la ak nk ck ag ng cg av nv cv) hd 14 (by kernel_rfl))
                      exact wpList_off rfl (t := 63) (d := true) (by kernel_rfl) eg (by decide) ⟨_, rfl, Below.refl _ _, rfl⟩
                    · intro vs w' F hb hd hF hl hT
                      have eg := ((hF 63).trans (look_at _ 63 14 _ _ (by kernel_rfl) (by kernel_rfl) hl)).trans (dep_of (Fact := F_wchkb wr.heap.size W.heap.size kn kg la ak nk ck ag ng cg av nv cv) hd 14 (by kernel_rfl))
                      exact wpList_off rfl (t := 63) (d := true) (by kernel_rfl) eg (by decide) ⟨_, rfl, Below.refl _ _, rfl⟩
                    · intro vs w' F hb hd hF hl hT
                      have eg := ((hF 63).trans (look_at _ 63 14 _ _ (by kernel_rfl) (by kernel_rfl) hl)).trans (dep_of (Fact := F_wchkb wr.heap.size W.heap.size kn kg la ak nk ck ag ng cg av nv cv) hd 14 (by kernel_rfl))
                      exact wpList_off rfl (t := 63) (d := true) (by kernel_rfl) eg (by decide) ⟨_, rfl, Below.refl _ _, rfl⟩
                    · intro vs w' F hb hd hF hl hT
                      have eg := ((hF 63).trans (look_at _ 63 14 _ _ (by kernel_rfl) (by kernel_rfl) hl)).trans (dep_of (Fact := F_wchkb wr.heap.size W.heap.size kn kg la ak nk ck ag ng cg av nv cv) hd 14 (by kernel_rfl))
                      exact wpList_off rfl (t := 63) (d := true) (by kernel_rfl) eg (by decide) ⟨_, rfl, Below.refl _ _, rfl⟩
                    · intro vs w' F hb hd hF hl hT
                      have eg := ((hF 63).trans (look_at _ 63 14 _ _ (by kernel_rfl) (by kernel_rfl) hl)).trans (dep_of (Fact := F_wchkb wr.heap.size W.heap.size kn kg la ak nk ck ag ng cg av nv cv) hd 14 (by kernel_rfl))
                      exact wpList_off rfl (t := 63) (d := true) (by kernel_rfl) eg (by decide) ⟨_, rfl, Below.refl _ _, rfl⟩
                    · intro vs w' F hb hd hF hl hT
                      have eg := ((hF 63).trans (look_at _ 63 14 _ _ (by kernel_rfl) (by kernel_rfl) hl)).trans (dep_of (Fact := F_wchkb wr.heap.size W.heap.size kn kg la ak nk ck ag ng cg av nv cv) hd 14 (by kernel_rfl))
                      exact wpList_off rfl (t := 63) (d := true) (by kernel_rfl) eg (by decide) ⟨_, rfl, Below.refl _ _, rfl⟩
                    · intro vs w' F hb hd hF hl hT
                      have ec := ((hF 63).trans (look_at _ 63 14 _ _ (by kernel_rfl) (by kernel_rfl) hl)).trans (dep_of (Fact := F_wchkb wr.heap.size W.heap.size kn kg la ak nk ck ag ng cg av nv cv) hd 14 (by kernel_rfl))
                      exact one_pick_t _ _ _ rfl rfl _ ec rfl ⟨_, rfl, Below.refl _ _, rfl⟩
                    · intro vs w' F hb hd hF hl hT
                      have e := ((hF 75).trans (look_at _ 75 26 _ _ (by kernel_rfl) (by kernel_rfl) hl)).trans (dep_of (Fact := F_wchkb wr.heap.size W.heap.size kn kg la ak nk ck ag ng cg av nv cv) hd 26 (by kernel_rfl))
                      exact one_move _ rfl (by first | exact Or.inl rfl | exact Or.inr rfl) ⟨_, rfl, Below.refl _ _, e⟩
                    · intro vs w' F hb hd hF hl hT
                      have eg := ((hF 76).trans (look_at _ 76 27 _ _ (by kernel_rfl) (by kernel_rfl) hl)).trans (dep_of (Fact := F_wchkb wr.heap.size W.heap.size kn kg la ak nk ck ag ng cg av nv cv) hd 27 (by kernel_rfl))
                      exact wpList_off rfl (t := 76) (d := true) (by kernel_rfl) eg (by decide) ⟨_, rfl, Below.refl _ _, rfl⟩
                    · intro vs w' F hb hd hF hl hT
                      have eg := ((hF 76).trans (look_at _ 76 27 _ _ (by kernel_rfl) (by kernel_rfl) hl)).trans (dep_of (Fact := F_wchkb wr.heap.size W.heap.size kn kg la ak nk ck ag ng cg av nv cv) hd 27 (by kernel_rfl))
                      exact wpList_off rfl (t := 76) (d := true) (by kernel_rfl) eg (by decide) ⟨_, rfl, Below.refl _ _, rfl⟩
                    · intro vs w' F hb hd hF hl hT
                      have eg := ((hF 76).trans (look_at _ 76 27 _ _ (by kernel_rfl) (by kernel_rfl) hl)).trans (dep_of (Fact := F_wchkb wr.heap.size W.heap.size kn kg la ak nk ck ag ng cg av nv cv) hd 27 (by kernel_rfl))
                      exact wpList_off rfl (t := 76) (d := true) (by kernel_rfl) eg (by decide) ⟨_, rfl, Below.refl _ _, rfl⟩
                    · intro vs w' F hb hd hF hl hT
                      have eg := ((hF 76).trans (look_at _ 76 27 _ _ (by kernel_rfl) (by kernel_rfl) hl)).trans (dep_of (Fact := F_wchkb wr.heap.size W.heap.size kn kg la ak nk ck ag ng cg av nv cv) hd 27 (by kernel_rfl))
                      exact wpList_off rfl (t := 76) (d := true) (by kernel_rfl) eg (by decide) ⟨_, rfl, Below.refl _ _, rfl⟩
                    · intro vs w' F hb hd hF hl hT
                      have ec := ((hF 76).trans (look_at _ 76 27 _ _ (by kernel_rfl) (by kernel_rfl) hl)).trans (dep_of (Fact := F_wchkb wr.heap.size W.heap.size kn kg la ak nk ck ag ng cg av nv cv) hd 27 (by kernel_rfl))
                      exact one_pick_t _ _ _ rfl rfl _ ec rfl ⟨_, rfl, Below.refl _ _, rfl⟩
                    · intro vs w' F hb hd hF hl hT
                      have e := ((hF 81).trans (look_at _ 81 32 _ _ (by kernel_rfl) (by kernel_rfl) hl)).trans (dep_of (Fact := F_wchkb wr.heap.size W.heap.size kn kg la ak nk ck ag ng cg av nv cv) hd 32 (by kernel_rfl))
                      exact one_move _ rfl (by first | exact Or.inl rfl | exact Or.inr rfl) ⟨_, rfl, Below.refl _ _, e⟩
                    · intro vs w' F hb hd hF hl hT
                      have eg := ((hF 82).trans (look_at _ 82 33 _ _ (by kernel_rfl) (by kernel_rfl) hl)).trans (dep_of (Fact := F_wchkb wr.heap.size W.heap.size kn kg la ak nk ck ag ng cg av nv cv) hd 33 (by kernel_rfl))
                      exact wpList_off rfl (t := 82) (d := true) (by kernel_rfl) eg (by decide) ⟨_, rfl, Below.refl _ _, rfl⟩
                    · intro vs w' F hb hd hF hl hT
                      have eg := ((hF 82).trans (look_at _ 82 33 _ _ (by kernel_rfl) (by kernel_rfl) hl)).trans (dep_of (Fact := F_wchkb wr.heap.size W.heap.size kn kg la ak nk ck ag ng cg av nv cv) hd 33 (by kernel_rfl))
                      exact wpList_off rfl (t := 82) (d := true) (by kernel_rfl) eg (by decide) ⟨_, rfl, Below.refl _ _, rfl⟩
                    · intro vs w' F hb hd hF hl hT
                      have eg := ((hF 82).trans (look_at _ 82 33 _ _ (by kernel_rfl) (by kernel_rfl) hl)).trans (dep_of (Fact := F_wchkb wr.heap.size W.heap.size kn kg la ak nk ck ag ng cg av nv cv) hd 33 (by kernel_rfl))
                      exact wpList_off rfl (t := 82) (d := true) (by kernel_rfl) eg (by decide) ⟨_, rfl, Below.refl _ _, rfl⟩
                    · intro vs w' F hb hd hF hl hT
                      have eg := ((hF 82).trans (look_at _ 82 33 _ _ (by kernel_rfl) (by kernel_rfl) hl)).trans (dep_of (Fact := F_wchkb wr.heap.size W.heap.size kn kg la ak nk ck ag ng cg av nv cv) hd 33 (by kernel_rfl))
                      exact wpList_off rfl (t := 82) (d := true) (by kernel_rfl) eg (by decide) ⟨_, rfl, Below.refl _ _, rfl⟩
                    · intro vs w' F hb hd hF hl hT
                      have eg := ((hF 82).trans (look_at _ 82 33 _ _ (by kernel_rfl) (by kernel_rfl) hl)).trans (dep_of (Fact := F_wchkb wr.heap.size W.heap.size kn kg la ak nk ck ag ng cg av nv cv) hd 33 (by kernel_rfl))
                      exact wpList_off rfl (t := 82) (d := true) (by kernel_rfl) eg (by decide) ⟨_, rfl, Below.refl _ _, rfl⟩
                    · intro vs w' F hb hd hF hl hT
                      have eg := ((hF 82).trans (look_at _ 82 33 _ _ (by kernel_rfl) (by kernel_rfl) hl)).trans (dep_of (Fact := F_wchkb wr.heap.size W.heap.size kn kg la ak nk ck ag ng cg av nv cv) hd 33 (by kernel_rfl))
                      exact wpList_off rfl (t := 82) (d := true) (by kernel_rfl) eg (by decide) ⟨_, rfl, Below.refl _ _, rfl⟩
                    · intro vs w' F hb hd hF hl hT
                      have ec := ((hF 82).trans (look_at _ 82 33 _ _ (by kernel_rfl) (by kernel_rfl) hl)).trans (dep_of (Fact := F_wchkb wr.heap.size W.heap.size kn kg la ak nk ck ag ng cg av nv cv) hd 33 (by kernel_rfl))
                      exact one_pick_t _ _ _ rfl rfl _ ec rfl ⟨_, rfl, Below.refl _ _, rfl⟩
                  · intro vs8 W8 hl hb hI
                    have hv : vs8.getD 40 undef = .bool true := hI 40 (by omega)
                    obtain ⟨x0, x1, x2, x3, x4, x5, x6, x7, x8, x9, x10, x11, x12, x13, x14, x15, x16, x17, x18, x19, x20, x21, x22, x23, x24, x25, x26, x27, x28, x29, x30, x31, x32, x33, x34, x35, x36, x37, x38, x39, x40, hvs⟩ := list41 hl
                    subst hvs
                    replace hv : x40 = .bool true := hv
                    subst hv
                    clear hI hl
                    simp only [fillAll, Act.put, List.setIfInBounds_toArray, List.set_cons_succ, List.set_cons_zero]
                    show wpList _ _ _ [] _ _
                    go_wp2
                    go_ret
                    exact ⟨by rw [HR.out]; rfl, bt HB.out hb⟩
                · obtain ⟨q, rfl⟩ : ∃ q : Nat, kn = (q : Int) := ⟨kn.toNat, by omega⟩
                  have hqn : q < ng := by omega
                  obtain ⟨z, rfl, _, _⟩ := ZG.out (by rw [← NG.out]; omega)
                  obtain ⟨gb, go, rfl, hcg⟩ := ints_cell (ZG.out.below HB.out) q (by rw [← NG.out]; exact hqn)
                  have hs := HS.out
                  rw [Int.toNat_natCast, decide_eq_true (show la < (q : Int) by omega), decide_eq_true (show (q : Int) < (ng : Int) by omega), Bool.true_and, Bool.true_and] at hs
                  obtain ⟨gq, hgq⟩ : ∃ gq, gq = y.gens.getD q 0 := ⟨_, rfl⟩
                  rw [← hgq] at hs hcg
                  have HCG := Lib.hid hcg
                  have HS2 := Lib.hid hs
                  clear hs hcg hgq HS
                  by_cases hC : kg = gq
                  · subst hC
                    have hs := HS2.out
                    rw [decide_eq_true rfl, Bool.true_and] at hs
                    have HS3 := Lib.hid hs
                    clear hs HS2
                    by_cases hD : kg = 1073741824
                    · have hr := HRT.out _ (by rw [HS3.out, decide_eq_false (by simp [hD]), Bool.false_and]) rfl
                      have HR := Lib.hid hr
                      have HD1 : 1073741824 ≤ kg := by omega
                      have HD2 : kg ≤ 1073741824 := by omega
                      clear hr hD
                      go_wp2_with fail
                      refine wp_region_facts_t rfl 41 (by kernel_rfl) (F_wchkd wr.heap.size W.heap.size q gb go kg la ak nk ck ng cg av nv cv) (F_wchkd_mono wr.heap.size W.heap.size q gb go kg la ak nk ck ng cg av nv cv) ?_ ?_
                      · refine ⟨?_, ?_, ?_, ?_, ?_, ?_, ?_, ?_, ?_, ?_, ?_, ?_, ?_, ?_, ?_, ?_, ?_, ?_, ?_, ?_, ?_, ?_, ?_, ?_, ?_, ?_, ?_, ?_, ?_, ?_, ?_, ?_, ?_, ?_, ?_, ?_, ?_, ?_, ?_, ?_, ?_, trivial⟩
                        · intro vs w' F hb hd hF hl hT
                          have e := (hF 8).trans (look_out _ 8 _ _ (by kernel_rfl))
                          exact one_field _ _ _ rfl rfl _ _ e (0) (fun w => by kernel_rfl) ⟨_, rfl, Below.refl _ _, rfl⟩
                        · intro vs w' F hb hd hF hl hT
                          have e := ((hF 49).trans (look_at _ 49 0 _ _ (by kernel_rfl) (by kernel_rfl) hl)).trans (dep_of (Fact := F_wchkd wr.heap.size W.heap.size q gb go kg la ak nk ck ng cg av nv cv) hd 0 (by kernel_rfl))
                          exact one_field _ _ _ rfl rfl _ _ e (0) (fun w => by kernel_rfl) ⟨_, rfl, Below.refl _ _, rfl⟩
                        · intro vs w' F hb hd hF hl hT
                          have e := ((hF 50).trans (look_at _ 50 1 _ _ (by kernel_rfl) (by kernel_rfl) hl)).trans (dep_of (Fact := F_wchkd wr.heap.size W.heap.size q gb go kg la ak nk ck ng cg av nv cv) hd 1 (by kernel_rfl))
                          exact one_load _ _ rfl rfl _ _ e (cell_abides Q0.out hb) (by kernel_rfl) ⟨_, rfl, Below.refl _ _, rfl⟩
                        · intro vs w' F hb hd hF hl hT
                          have e := (hF 6).trans (look_out _ 6 _ _ (by kernel_rfl))
                          exact one_move _ rfl (by first | exact Or.inl rfl | exact Or.inr rfl) ⟨_, rfl, Below.refl _ _, e⟩
                        · intro vs w' F hb hd hF hl hT
                          have e1 := ((hF 51).trans (look_at _ 51 2 _ _ (by kernel_rfl) (by kernel_rfl) hl)).trans (dep_of (Fact := F_wchkd wr.heap.size W.heap.size q gb go kg la ak nk ck ng cg av nv cv) hd 2 (by kernel_rfl))
                          have e2 := ((hF 52).trans (look_at _ 52 3 _ _ (by kernel_rfl) (by kernel_rfl) hl)).trans (dep_of (Fact := F_wchkd wr.heap.size W.heap.size q gb go kg la ak nk ck ng cg av nv cv) hd 3 (by kernel_rfl))
                          exact rg_leq _ _ _ _ rfl rfl .i64 ((q : Int)) (la) false e1 e2 (decide_eq_false (by omega)) ⟨_, rfl, Below.refl _ _, rfl⟩
                        · intro vs w' F hb hd hF hl hT
                          have e := ((hF 53).trans (look_at _ 53 4 _ _ (by kernel_rfl) (by kernel_rfl) hl)).trans (dep_of (Fact := F_wchkd wr.heap.size W.heap.size q gb go kg la ak nk ck ng cg av nv cv) hd 4 (by kernel_rfl))
                          exact one_move _ rfl (by first | exact Or.inl rfl | exact Or.inr rfl) ⟨_, rfl, Below.refl _ _, e⟩
                        · intro vs w' F hb hd hF hl hT
                          have eg := ((hF 54).trans (look_at _ 54 5 _ _ (by kernel_rfl) (by kernel_rfl) hl)).trans (dep_of (Fact := F_wchkd wr.heap.size W.heap.size q gb go kg la ak nk ck ng cg av nv cv) hd 5 (by kernel_rfl))
                          refine wpList_on rfl (t := 54) (by kernel_rfl) eg ?_
                          have e := (hF 8).trans (look_out _ 8 _ _ (by kernel_rfl))
                          exact one_field _ _ _ rfl rfl _ _ e (0) (fun w => by kernel_rfl) ⟨_, rfl, Below.refl _ _, rfl⟩
                        · intro vs w' F hb hd hF hl hT
                          have eg := ((hF 54).trans (look_at _ 54 5 _ _ (by kernel_rfl) (by kernel_rfl) hl)).trans (dep_of (Fact := F_wchkd wr.heap.size W.heap.size q gb go kg la ak nk ck ng cg av nv cv) hd 5 (by kernel_rfl))
                          refine wpList_on rfl (t := 54) (by kernel_rfl) eg ?_
                          have e := ((hF 55).trans (look_at _ 55 6 _ _ (by kernel_rfl) (by kernel_rfl) hl)).trans (dep_of (Fact := F_wchkd wr.heap.size W.heap.size q gb go kg la ak nk ck ng cg av nv cv) hd 6 (by kernel_rfl))
                          exact one_field _ _ _ rfl rfl _ _ e (0) (fun w => by kernel_rfl) ⟨_, rfl, Below.refl _ _, rfl⟩
                        · intro vs w' F hb hd hF hl hT
                          have eg := ((hF 54).trans (look_at _ 54 5 _ _ (by kernel_rfl) (by kernel_rfl) hl)).trans (dep_of (Fact := F_wchkd wr.heap.size W.heap.size q gb go kg la ak nk ck ng cg av nv cv) hd 5 (by kernel_rfl))
                          refine wpList_on rfl (t := 54) (by kernel_rfl) eg ?_
                          have e := ((hF 56).trans (look_at _ 56 7 _ _ (by kernel_rfl) (by kernel_rfl) hl)).trans (dep_of (Fact := F_wchkd wr.heap.size W.heap.size q gb go kg la ak nk ck ng cg av nv cv) hd 7 (by kernel_rfl))
                          exact one_load _ _ rfl rfl _ _ e (cell_abides Q0.out hb) (by kernel_rfl) ⟨_, rfl, Below.refl _ _, rfl⟩
                        · intro vs w' F hb hd hF hl hT
                          have eg := ((hF 54).trans (look_at _ 54 5 _ _ (by kernel_rfl) (by kernel_rfl) hl)).trans (dep_of (Fact := F_wchkd wr.heap.size W.heap.size q gb go kg la ak nk ck ng cg av nv cv) hd 5 (by kernel_rfl))
                          refine wpList_on rfl (t := 54) (by kernel_rfl) eg ?_
                          have e := (hF 1).trans (look_out _ 1 _ _ (by kernel_rfl))
                          exact one_field _ _ _ rfl rfl _ _ e (1) (fun w => by kernel_rfl) ⟨_, rfl, Below.refl _ _, rfl⟩
                        · intro vs w' F hb hd hF hl hT
                          have eg := ((hF 54).trans (look_at _ 54 5 _ _ (by kernel_rfl) (by kernel_rfl) hl)).trans (dep_of (Fact := F_wchkd wr.heap.size W.heap.size q gb go kg la ak nk ck ng cg av nv cv) hd 5 (by kernel_rfl))
                          refine wpList_on rfl (t := 54) (by kernel_rfl) eg ?_
                          have e := ((hF 58).trans (look_at _ 58 9 _ _ (by kernel_rfl) (by kernel_rfl) hl)).trans (dep_of (Fact := F_wchkd wr.heap.size W.heap.size q gb go kg la ak nk ck ng cg av nv cv) hd 9 (by kernel_rfl))
                          exact one_load _ _ rfl rfl _ _ e (cell_abides Z1.out hb) (by kernel_rfl) ⟨_, rfl, Below.refl _ _, rfl⟩
                        · intro vs w' F hb hd hF hl hT
                          have eg := ((hF 54).trans (look_at _ 54 5 _ _ (by kernel_rfl) (by kernel_rfl) hl)).trans (dep_of (Fact := F_wchkd wr.heap.size W.heap.size q gb go kg la ak nk ck ng cg av nv cv) hd 5 (by kernel_rfl))
                          refine wpList_on rfl (t := 54) (by kernel_rfl) eg ?_
                          have e := ((hF 59).trans (look_at _ 59 10 _ _ (by kernel_rfl) (by kernel_rfl) hl)).trans (dep_of (Fact := F_wchkd wr.heap.size W.heap.size q gb go kg la ak nk ck ng cg av nv cv) hd 10 (by kernel_rfl))
                          exact rg_len _ 22 3 rfl rfl Try.underlying22 (some ⟨gb, go, none⟩) (ng) (cg) e ⟨_, rfl, Below.refl _ _, rfl⟩
                        · intro vs w' F hb hd hF hl hT
                          have eg := ((hF 54).trans (look_at _ 54 5 _ _ (by kernel_rfl) (by kernel_rfl) hl)).trans (dep_of (Fact := F_wchkd wr.heap.size W.heap.size q gb go kg la ak nk ck ng cg av nv cv) hd 5 (by kernel_rfl))
                          refine wpList_on rfl (t := 54) (by kernel_rfl) eg ?_
                          have e1 := ((hF 57).trans (look_at _ 57 8 _ _ (by kernel_rfl) (by kernel_rfl) hl)).trans (dep_of (Fact := F_wchkd wr.heap.size W.heap.size q gb go kg la ak nk ck ng cg av nv cv) hd 8 (by kernel_rfl))
                          have e2 := ((hF 60).trans (look_at _ 60 11 _ _ (by kernel_rfl) (by kernel_rfl) hl)).trans (dep_of (Fact := F_wchkd wr.heap.size W.heap.size q gb go kg la ak nk ck ng cg av nv cv) hd 11 (by kernel_rfl))
                          exact rg_geq _ _ _ _ rfl rfl .i64 ((q : Int)) ((ng : Int)) false e1 e2 (decide_eq_false (by omega)) ⟨_, rfl, Below.refl _ _, rfl⟩
                        · intro vs w' F hb hd hF hl hT
                          have ec := ((hF 54).trans (look_at _ 54 5 _ _ (by kernel_rfl) (by kernel_rfl) hl)).trans (dep_of (Fact := F_wchkd wr.heap.size W.heap.size q gb go kg la ak nk ck ng cg av nv cv) hd 5 (by kernel_rfl))
                          have e := ((hF 61).trans (look_at _ 61 12 _ _ (by kernel_rfl) (by kernel_rfl) hl)).trans (dep_of (Fact := F_wchkd wr.heap.size W.heap.size q gb go kg la ak nk ck ng cg av nv cv) hd 12 (by kernel_rfl))
                          exact one_pick_f _ _ _ rfl rfl _ ec e ⟨_, rfl, Below.refl _ _, rfl⟩
                        · intro vs w' F hb hd hF hl hT
                          have e := ((hF 62).trans (look_at _ 62 13 _ _ (by kernel_rfl) (by kernel_rfl) hl)).trans (dep_of (Fact := F_wchkd wr.heap.size W.heap.size q gb go kg la ak nk ck ng cg av nv cv) hd 13 (by kernel_rfl))
                          exact one_move _ rfl (by first | exact Or.inl rfl | exact Or.inr rfl) ⟨_, rfl, Below.refl _ _, e⟩
                        · intro vs w' F hb hd hF hl hT
                          have eg := ((hF 63).trans (look_at _ 63 14 _ _ (by kernel_rfl) (by kernel_rfl) hl)).trans (dep_of (Fact := F_wchkd wr.heap.size W.heap.size q gb go kg la ak nk ck ng cg av nv cv) hd 14 (by kernel_rfl))
                          refine wpList_on rfl (t := 63) (by kernel_rfl) eg ?_
                          have e := (hF 8).trans (look_out _ 8 _ _ (by kernel_rfl))
                          exact one_field _ _ _ rfl rfl _ _ e (0) (fun w => by kernel_rfl) ⟨_, rfl, Below.refl _ _, rfl⟩
                        · intro vs w' F hb hd hF hl hT
                          have eg := ((hF 63).trans (look_at _ 63 14 _ _ (by kernel_rfl) (by kernel_rfl) hl)).trans (dep_of (Fact := F_wchkd wr.heap.size W.heap.size q gb go kg la ak nk ck ng cg av nv cv) hd 14 (by kernel_rfl))
                          refine wpList_on rfl (t := 63) (by kernel_rfl) eg ?_
                          have e := ((hF 64).trans (look_at _ 64 15 _ _ (by kernel_rfl) (by kernel_rfl) hl)).trans (dep_of (Fact := F_wchkd wr.heap.size W.heap.size q gb go kg la ak nk ck ng cg av nv cv) hd 15 (by kernel_rfl))
                          exact one_field _ _ _ rfl rfl _ _ e (1) (fun w => by kernel_rfl) ⟨_, rfl, Below.refl _ _, rfl⟩
                        · intro vs w' F hb hd hF hl hT
                          have eg := ((hF 63).trans (look_at _ 63 14 _ _ (by kernel_rfl) (by kernel_rfl) hl)).trans (dep_of (Fact := F_wchkd wr.heap.size W.heap.size q gb go kg la ak nk ck ng cg av nv cv) hd 14 (by kernel_rfl))
                          refine wpList_on rfl (t := 63) (by kernel_rfl) eg ?_
                          have e := ((hF 65).trans (look_at _ 65 16 _ _ (by kernel_rfl) (by kernel_rfl) hl)).trans (dep_of (Fact := F_wchkd wr.heap.size W.heap.size q gb go kg la ak nk ck ng cg av nv cv) hd 16 (by kernel_rfl))
                          exact one_load _ _ rfl rfl _ _ e (cell_abides Q1.out hb) (by kernel_rfl) ⟨_, rfl, Below.refl _ _, rfl⟩
                        · intro vs w' F hb hd hF hl hT
                          have eg := ((hF 63).trans (look_at _ 63 14 _ _ (by kernel_rfl) (by kernel_rfl) hl)).trans (dep_of (Fact := F_wchkd wr.heap.size W.heap.size q gb go kg la ak nk ck ng cg av nv cv) hd 14 (by kernel_rfl))
                          refine wpList_on rfl (t := 63) (by kernel_rfl) eg ?_
                          have e := (hF 1).trans (look_out _ 1 _ _ (by kernel_rfl))
                          exact one_field _ _ _ rfl rfl _ _ e (1) (fun w => by kernel_rfl) ⟨_, rfl, Below.refl _ _, rfl⟩
                        · intro vs w' F hb hd hF hl hT
                          have eg := ((hF 63).trans (look_at _ 63 14 _ _ (by kernel_rfl) (by kernel_rfl) hl)).trans (dep_of (Fact := F_wchkd wr.heap.size W.heap.size q gb go kg la ak nk ck ng cg av nv cv) hd 14 (by kernel_rfl))
                          refine wpList_on rfl (t := 63) (by kernel_rfl) eg ?_
                          have e := ((hF 67).trans (look_at _ 67 18 _ _ (by kernel_rfl) (by kernel_rfl) hl)).trans (dep_of (Fact := F_wchkd wr.heap.size W.heap.size q gb go kg la ak nk ck ng cg av nv cv) hd 18 (by kernel_rfl))
                          exact one_load _ _ rfl rfl _ _ e (cell_abides Z1.out hb) (by kernel_rfl) ⟨_, rfl, Below.refl _ _, rfl⟩
                        · intro vs w' F hb hd hF hl hT
                          have eg := ((hF 63).trans (look_at _ 63 14 _ _ (by kernel_rfl) (by kernel_rfl) hl)).trans (dep_of (Fact := F_wchkd wr.heap.size W.heap.size q gb go kg la ak nk ck ng cg av nv cv) hd 14 (by kernel_rfl))
                          refine wpList_on rfl (t := 63) (by kernel_rfl) eg ?_
                          have e := (hF 8).trans (look_out _ 8 _ _ (by kernel_rfl))
                          exact one_field _ _ _ rfl rfl _ _ e (0) (fun w => by kernel_rfl) ⟨_, rfl, Below.refl _ _, rfl⟩
                        · intro vs w' F hb hd hF hl hT
                          have eg := ((hF 63).trans (look_at _ 63 14 _ _ (by kernel_rfl) (by kernel_rfl) hl)).trans (dep_of (Fact := F_wchkd wr.heap.size W.heap.size q gb go kg la ak nk ck ng cg av nv cv) hd 14 (by kernel_rfl))
                          refine wpList_on rfl (t := 63) (by kernel_rfl) eg ?_
                          have e := ((hF 69).trans (look_at _ 69 20 _ _ (by kernel_rfl) (by kernel_rfl) hl)).trans (dep_of (Fact := F_wchkd wr.heap.size W.heap.size q gb go kg la ak nk ck ng cg av nv cv) hd 20 (by kernel_rfl))
                          exact one_field _ _ _ rfl rfl _ _ e (0) (fun w => by kernel_rfl) ⟨_, rfl, Below.refl _ _, rfl⟩
                        · intro vs w' F hb hd hF hl hT
                          have eg := ((hF 63).trans (look_at _ 63 14 _ _ (by kernel_rfl) (by kernel_rfl) hl)).trans (dep_of (Fact := F_wchkd wr.heap.size W.heap.size q gb go kg la ak nk ck ng cg av nv cv) hd 14 (by kernel_rfl))
                          refine wpList_on rfl (t := 63) (by kernel_rfl) eg ?_
                          have e := ((hF 70).trans (look_at _ 70 21 _ _ (by kernel_rfl) (by kernel_rfl) hl)).trans (dep_of (Fact := F_wchkd wr.heap.size W.heap.size q gb go kg la ak nk ck ng cg av nv cv) hd 21 (by kernel_rfl))
                          exact one_load _ _ rfl rfl _ _ e (cell_abides Q0.out hb) (by kernel_rfl) ⟨_, rfl, Below.refl _ _, rfl⟩
                        · intro vs w' F hb hd hF hl hT
                          have eg := ((hF 63).trans (look_at _ 63 14 _ _ (by kernel_rfl) (by kernel_rfl) hl)).trans (dep_of (Fact := F_wchkd wr.heap.size W.heap.size q gb go kg la ak nk ck ng cg av nv cv) hd 14 (by kernel_rfl))
                          refine wpList_on rfl (t := 63) (by kernel_rfl) eg ?_
                          have ex := ((hF 68).trans (look_at _ 68 19 _ _ (by kernel_rfl) (by kernel_rfl) hl)).trans (dep_of (Fact := F_wchkd wr.heap.size W.heap.size q gb go kg la ak nk ck ng cg av nv cv) hd 19 (by kernel_rfl))
                          have ey := ((hF 71).trans (look_at _ 71 22 _ _ (by kernel_rfl) (by kernel_rfl) hl)).trans (dep_of (Fact := F_wchkd wr.heap.size W.heap.size q gb go kg la ak nk ck ng cg av nv cv) hd 22 (by kernel_rfl))
                          exact one_index 22 _ _ rfl rfl (.slice (some ⟨gb, go, none⟩) ng cg) (.int .i64 (q : Int)) (.pointer (some ⟨gb, go + q * 1, none⟩)) ex ey (fun w => rg_idx Try.underlying22 (show (Try.prog.info? 3).map (·.size) = some 1 by kernel_rfl) (gb) (go) (ng) (cg) (q) (by omega) w) ⟨_, rfl, Below.refl _ _, rfl⟩
                        · intro vs w' F hb hd hF hl hT
                          have eg := ((hF 63).trans (look_at _ 63 14 _ _ (by kernel_rfl) (by kernel_rfl) hl)).trans (dep_of (Fact := F_wchkd wr.heap.size W.heap.size q gb go kg la ak nk ck ng cg av nv cv) hd 14 (by kernel_rfl))
                          refine wpList_on rfl (t := 63) (by kernel_rfl) eg ?_
                          have e := ((hF 72).trans (look_at _ 72 23 _ _ (by kernel_rfl) (by kernel_rfl) hl)).trans (dep_of (Fact := F_wchkd wr.heap.size W.heap.size q gb go kg la ak nk ck ng cg av nv cv) hd 23 (by kernel_rfl))
                          exact one_load _ _ rfl rfl _ _ e (cell_abides HCG.out hb) (by kernel_rfl) ⟨_, rfl, Below.refl _ _, rfl⟩
                        · intro vs w' F hb hd hF hl hT
                          have eg := ((hF 63).trans (look_at _ 63 14 _ _ (by kernel_rfl) (by kernel_rfl) hl)).trans (dep_of (Fact := F_wchkd wr.heap.size W.heap.size q gb go kg la ak nk ck ng cg av nv cv) hd 14 (by kernel_rfl))
                          refine wpList_on rfl (t := 63) (by kernel_rfl) eg ?_
                          have e1 := ((hF 66).trans (look_at _ 66 17 _ _ (by kernel_rfl) (by kernel_rfl) hl)).trans (dep_of (Fact := F_wchkd wr.heap.size W.heap.size q gb go kg la ak nk ck ng cg av nv cv) hd 17 (by kernel_rfl))
                          have e2 := ((hF 73).trans (look_at _ 73 24 _ _ (by kernel_rfl) (by kernel_rfl) hl)).trans (dep_of (Fact := F_wchkd wr.heap.size W.heap.size q gb go kg la ak nk ck ng cg av nv cv) hd 24 (by kernel_rfl))
                          exact rg_neq _ _ _ _ rfl rfl .i64 (kg) (kg) false e1 e2 (decide_eq_false (by omega)) ⟨_, rfl, Below.refl _ _, rfl⟩
                        · intro vs w' F hb hd hF hl hT
                          have ec := ((hF 63).trans (look_at _ 63 14 _ _ (by kernel_rfl) (by kernel_rfl) hl)).trans (dep_of (Fact := F_wchkd wr.heap.size W.heap.size q gb go kg la ak nk ck ng cg av nv cv) hd 14 (by kernel_rfl))
                          have e := ((hF 74).trans (look_at _ 74 25 _ _ (by kernel_rfl) (by kernel_rfl) hl)).trans (dep_of (Fact := F_wchkd wr.heap.size W.heap.size q gb go kg la ak nk ck ng cg av nv cv) hd 25 (by kernel_rfl))
                          exact one_pick_f _ _ _ rfl rfl _ ec e ⟨_, rfl, Below.refl _ _, rfl⟩
                        · intro vs w' F hb hd hF hl hT
                          have e := ((hF 75).trans (look_at _ 75 26 _ _ (by kernel_rfl) (by kernel_rfl) hl)).trans (dep_of (Fact := F_wchkd wr.heap.size W.heap.size q gb go kg la ak nk ck ng cg av nv cv) hd 26 (by kernel_rfl))
                          exact one_move _ rfl (by first | exact Or.inl rfl | exact Or.inr rfl) ⟨_, rfl, Below.refl _ _, e⟩
                        · intro vs w' F hb hd hF hl hT
                          have eg := ((hF 76).trans (look_at _ 76 27 _ _ (by kernel_rfl) (by kernel_rfl) hl)).trans (dep_of (Fact := F_wchkd wr.heap.size W.heap.size q gb go kg la ak nk ck ng cg av nv cv) hd 27 (by kernel_rfl))
                          refine wpList_on rfl (t := 76) (by kernel_rfl) eg ?_
                          have e := (hF 8).trans (look_out _ 8 _ _ (by kernel_rfl))
                          exact one_field _ _ _ rfl rfl _ _ e (0) (fun w => by kernel_rfl) ⟨_, rfl, Below.refl _ _, rfl⟩
                        · intro vs w' F hb hd hF hl hT
                          have eg := ((hF 76).trans (look_at _ 76 27 _ _ (by kernel_rfl) (by kernel_rfl) hl)).trans (dep_of (Fact := F_wchkd wr.heap.size W.heap.size q gb go kg la ak nk ck ng cg av nv cv) hd 27 (by kernel_rfl))
                          refine wpList_on rfl (t := 76) (by kernel_rfl) eg ?_
                          have e := ((hF 77).trans (look_at _ 77 28 _ _ (by kernel_rfl) (by kernel_rfl) hl)).trans (dep_of (Fact := F_wchkd wr.heap.size W.heap.size q gb go kg la ak nk ck ng cg av nv cv) hd 28 (by kernel_rfl))
                          exact one_field _ _ _ rfl rfl _ _ e (1) (fun w => by kernel_rfl) ⟨_, rfl, Below.refl _ _, rfl⟩
                        · intro vs w' F hb hd hF hl hT
                          have eg := ((hF 76).trans (look_at _ 76 27 _ _ (by kernel_rfl) (by kernel_rfl) hl)).trans (dep_of (Fact := F_wchkd wr.heap.size W.heap.size q gb go kg la ak nk ck ng cg av nv cv) hd 27 (by kernel_rfl))
                          refine wpList_on rfl (t := 76) (by kernel_rfl) eg ?_
                          have e := ((hF 78).trans (look_at _ 78 29 _ _ (by kernel_rfl) (by kernel_rfl) hl)).trans (dep_of (Fact := F_wchkd wr.heap.size W.heap.size q gb go kg la ak nk ck ng cg av nv cv) hd 29 (by kernel_rfl))
                          exact one_load _ _ rfl rfl _ _ e (cell_abides Q1.out hb) (by kernel_rfl) ⟨_, rfl, Below.refl _ _, rfl⟩
                        · intro vs w' F hb hd hF hl hT
                          have eg := ((hF 76).trans (look_at _ 76 27 _ _ (by kernel_rfl) (by kernel_rfl) hl)).trans (dep_of (Fact := F_wchkd wr.heap.size W.heap.size q gb go kg la ak nk ck ng cg av nv cv) hd 27 (by kernel_rfl))
                          refine wpList_on rfl (t := 76) (by kernel_rfl) eg ?_
                          have e1 := ((hF 79).trans (look_at _ 79 30 _ _ (by kernel_rfl) (by kernel_rfl) hl)).trans (dep_of (Fact := F_wchkd wr.heap.size W.heap.size q gb go kg la ak nk ck ng cg av nv cv) hd 30 (by kernel_rfl))
                          exact rg_eql _ _ _ _ rfl rfl .i64 (kg) (1073741824) true e1 rfl (decide_eq_true (by omega)) ⟨_, rfl, Below.refl _ _, rfl⟩
                        · intro vs w' F hb hd hF hl hT
                          have ec := ((hF 76).trans (look_at _ 76 27 _ _ (by kernel_rfl) (by kernel_rfl) hl)).trans (dep_of (Fact := F_wchkd wr.heap.size W.heap.size q gb go kg la ak nk ck ng cg av nv cv) hd 27 (by kernel_rfl))
                          have e := ((hF 80).trans (look_at _ 80 31 _ _ (by kernel_rfl) (by kernel_rfl) hl)).trans (dep_of (Fact := F_wchkd wr.heap.size W.heap.size q gb go kg la ak nk ck ng cg av nv cv) hd 31 (by kernel_rfl))
                          exact one_pick_f _ _ _ rfl rfl _ ec e ⟨_, rfl, Below.refl _ _, rfl⟩
                        · intro vs w' F hb hd hF hl hT
                          have e := ((hF 81).trans (look_at _ 81 32 _ _ (by kernel_rfl) (by kernel_rfl) hl)).trans (dep_of (Fact := F_wchkd wr.heap.size W.heap.size q gb go kg la ak nk ck ng cg av nv cv) hd 32 (by kernel_rfl))
                          exact one_move _ rfl (by first | exact Or.inl rfl | exact Or.inr rfl) ⟨_, rfl, Below.refl _ _, e⟩
                        · intro vs w' F hb hd hF hl hT
                          have eg := ((hF 82).trans (look_at _ 82 33 _ _ (by kernel_rfl) (by kernel_rfl) hl)).trans (dep_of (Fact := F_wchkd wr.heap.size W.heap.size q gb go kg la ak nk ck ng cg av nv cv) hd 33 (by kernel_rfl))
                          exact wpList_off rfl (t := 82) (d := true) (by kernel_rfl) eg (by decide) ⟨_, rfl, Below.refl _ _, rfl⟩
                        · intro vs w' F hb hd hF hl hT
                          have eg := ((hF 82).trans (look_at _ 82 33 _ _ (by kernel_rfl) (by kernel_rfl) hl)).trans (dep_of (Fact := F_wchkd wr.heap.size W.heap.size q gb go kg la ak nk ck ng cg av nv cv) hd 33 (by kernel_rfl))
                          exact wpList_off rfl (t := 82) (d := true) (by kernel_rfl) eg (by decide) ⟨_, rfl, Below.refl _ _, rfl⟩
                        · intro vs w' F hb hd hF hl hT
                          have eg := ((hF 82).trans (look_at _ 82 33 _ _ (by kernel_rfl) (by kernel_rfl) hl)).trans (dep_of (Fact := F_wchkd wr.heap.size W.heap.size q gb go kg la ak nk ck ng cg av nv cv) hd 33 (by kernel_rfl))
                          exact wpList_off rfl (t := 82) (d := true) (by kernel_rfl) eg (by decide) ⟨_, rfl, Below.refl _ _, rfl⟩
                        · intro vs w' F hb hd hF hl hT
                          have eg := ((hF 82).trans (look_at _ 82 33 _ _ (by kernel_rfl) (by kernel_rfl) hl)).trans (dep_of (Fact := F_wchkd wr.heap.size W.heap.size q gb go kg la ak nk ck ng cg av nv cv) hd 33 (by kernel_rfl))
                          exact wpList_off rfl (t := 82) (d := true) (by kernel_rfl) eg (by decide) ⟨_, rfl, Below.refl _ _, rfl⟩
                        · intro vs w' F hb hd hF hl hT
                          have eg := ((hF 82).trans (look_at _ 82 33 _ _ (by kernel_rfl) (by kernel_rfl) hl)).trans (dep_of (Fact := F_wchkd wr.heap.size W.heap.size q gb go kg la ak nk ck ng cg av nv cv) hd 33 (by kernel_rfl))
                          exact wpList_off rfl (t := 82) (d := true) (by kernel_rfl) eg (by decide) ⟨_, rfl, Below.refl _ _, rfl⟩
                        · intro vs w' F hb hd hF hl hT
                          have eg := ((hF 82).trans (look_at _ 82 33 _ _ (by kernel_rfl) (by kernel_rfl) hl)).trans (dep_of (Fact := F_wchkd wr.heap.size W.heap.size q gb go kg la ak nk ck ng cg av nv cv) hd 33 (by kernel_rfl))
                          exact wpList_off rfl (t := 82) (d := true) (by kernel_rfl) eg (by decide) ⟨_, rfl, Below.refl _ _, rfl⟩
                        · intro vs w' F hb hd hF hl hT
                          have ec := ((hF 82).trans (look_at _ 82 33 _ _ (by kernel_rfl) (by kernel_rfl) hl)).trans (dep_of (Fact := F_wchkd wr.heap.size W.heap.size q gb go kg la ak nk ck ng cg av nv cv) hd 33 (by kernel_rfl))
                          exact one_pick_t _ _ _ rfl rfl _ ec rfl ⟨_, rfl, Below.refl _ _, rfl⟩
                      · intro vs8 W8 hl hb hI
                        have hv : vs8.getD 40 undef = .bool true := hI 40 (by omega)
                        obtain ⟨x0, x1, x2, x3, x4, x5, x6, x7, x8, x9, x10, x11, x12, x13, x14, x15, x16, x17, x18, x19, x20, x21, x22, x23, x24, x25, x26, x27, x28, x29, x30, x31, x32, x33, x34, x35, x36, x37, x38, x39, x40, hvs⟩ := list41 hl
                        subst hvs
                        replace hv : x40 = .bool true := hv
                        subst hv
                        clear hI hl
                        simp only [fillAll, Act.put, List.setIfInBounds_toArray, List.set_cons_succ, List.set_cons_zero]
                        show wpList _ _ _ [] _ _
                        go_wp2
                        go_ret
                        exact ⟨by rw [HR.out]; rfl, bt HB.out hb⟩
                    · have hs := HS3.out
                      rw [decide_eq_true hD, Bool.true_and] at hs
                      have HDD := Lib.hid hD
                      clear hD
                      have CC := Lib.hid (fun w' hb => world_held y.kinds ak nk ck it.comps av nv cv NK.out.symm HNV.out.symm (by have := HSM.out.1; omega) (fun c hc => by have := HSM.out.2 c hc; omega) w' ((ZK.out.below KindAt.abides HB.out).below KindAt.abides hb) (SlAt.below CompAt.abides HCO.out hb))
                      obtain ⟨hd, hhd⟩ : ∃ hd, hd = heldB y.kinds it.comps := ⟨_, rfl⟩
                      rw [← hhd] at hs CC
                      have HS4 := Lib.hid hs
                      clear hs hhd HS3
                      cases hd with
                      | false =>
                        have hr := HRT.out _ HS4.out rfl
                        have HR := Lib.hid hr
                        clear hr
                        go_wp2_with fail
                        have hD := HDD.out
                        refine wp_region_facts_t rfl 41 (by kernel_rfl) (F_wchke wr.heap.size W.heap.size q gb go kg la ak nk ck ng cg av nv cv) (F_wchke_mono wr.heap.size W.heap.size q gb go kg la ak nk ck ng cg av nv cv) ?_ ?_
                        · refine ⟨?_, ?_, ?_, ?_, ?_, ?_, ?_, ?_, ?_, ?_, ?_, ?_, ?_, ?_, ?_, ?_, ?_, ?_, ?_, ?_, ?_, ?_, ?_, ?_, ?_, ?_, ?_, ?_, ?_, ?_, ?_, ?_, ?_, ?_, ?_, ?_, ?_, ?_, ?_, ?_, ?_, trivial⟩
                          · intro vs w' F hb hd hF hl hT
                            have e := (hF 8).trans (look_out _ 8 _ _ (by kernel_rfl))
                            exact one_field _ _ _ rfl rfl _ _ e (0) (fun w => by kernel_rfl) ⟨_, rfl, Below.refl _ _, rfl⟩
                          · intro vs w' F hb hd hF hl hT
                            have e := ((hF 49).trans (look_at _ 49 0 _ _ (by kernel_rfl) (by kernel_rfl) hl)).trans (dep_of (Fact := F_wchke wr.heap.size W.heap.size q gb go kg la ak nk ck ng cg av nv cv) hd 0 (by kernel_rfl))
                            exact one_field _ _ _ rfl rfl _ _ e (0) (fun w => by kernel_rfl) ⟨_, rfl, Below.refl _ _, rfl⟩
                          · intro vs w' F hb hd hF hl hT
                            have e := ((hF 50).trans (look_at _ 50 1 _ _ (by kernel_rfl) (by kernel_rfl) hl)).trans (dep_of (Fact := F_wchke wr.heap.size W.heap.size q gb go kg la ak nk ck ng cg av nv cv) hd 1 (by kernel_rfl))
                            exact one_load _ _ rfl rfl _ _ e (cell_abides Q0.out hb) (by kernel_rfl) ⟨_, rfl, Below.refl _ _, rfl⟩
                          · intro vs w' F hb hd hF hl hT
                            have e := (hF 6).trans (look_out _ 6 _ _ (by kernel_rfl))
                            exact one_move _ rfl (by first | exact Or.inl rfl | exact Or.inr rfl) ⟨_, rfl, Below.refl _ _, e⟩
                          · intro vs w' F hb hd hF hl hT
                            have e1 := ((hF 51).trans (look_at _ 51 2 _ _ (by kernel_rfl) (by kernel_rfl) hl)).trans (dep_of (Fact := F_wchke wr.heap.size W.heap.size q gb go kg la ak nk ck ng cg av nv cv) hd 2 (by kernel_rfl))
                            have e2 := ((hF 52).trans (look_at _ 52 3 _ _ (by kernel_rfl) (by kernel_rfl) hl)).trans (dep_of (Fact := F_wchke wr.heap.size W.heap.size q gb go kg la ak nk ck ng cg av nv cv) hd 3 (by kernel_rfl))
                            exact rg_leq _ _ _ _ rfl rfl .i64 ((q : Int)) (la) false e1 e2 (decide_eq_false (by omega)) ⟨_, rfl, Below.refl _ _, rfl⟩
                          · intro vs w' F hb hd hF hl hT
                            have e := ((hF 53).trans (look_at _ 53 4 _ _ (by kernel_rfl) (by kernel_rfl) hl)).trans (dep_of (Fact := F_wchke wr.heap.size W.heap.size q gb go kg la ak nk ck ng cg av nv cv) hd 4 (by kernel_rfl))
                            exact one_move _ rfl (by first | exact Or.inl rfl | exact Or.inr rfl) ⟨_, rfl, Below.refl _ _, e⟩
                          · intro vs w' F hb hd hF hl hT
                            have eg := ((hF 54).trans (look_at _ 54 5 _ _ (by kernel_rfl) (by kernel_rfl) hl)).trans (dep_of (Fact := F_wchke wr.heap.size W.heap.size q gb go kg la ak nk ck ng cg av nv cv) hd 5 (by kernel_rfl))
                            refine wpList_on rfl (t := 54) (by kernel_rfl) eg ?_
                            have e := (hF 8).trans (look_out _ 8 _ _ (by kernel_rfl))
                            exact one_field _ _ _ rfl rfl _ _ e (0) (fun w => by kernel_rfl) ⟨_, rfl, Below.refl _ _, rfl⟩
                          · intro vs w' F hb hd hF hl hT
                            have eg := ((hF 54).trans (look_at _ 54 5 _ _ (by kernel_rfl) (by kernel_rfl) hl)).trans (dep_of (Fact := F_wchke wr.heap.size W.heap.size q gb go kg la ak nk ck ng cg av nv cv) hd 5 (by kernel_rfl))
                            refine wpList_on rfl (t := 54) (by kernel_rfl) eg ?_
                            have e := ((hF 55).trans (look_at _ 55 6 _ _ (by kernel_rfl) (by kernel_rfl) hl)).trans (dep_of (Fact := F_wchke wr.heap.size W.heap.size q gb go kg la ak nk ck ng cg av nv cv) hd 6 (by kernel_rfl))
                            exact one_field _ _ _ rfl rfl _ _ e (0) (fun w => by kernel_rfl) ⟨_, rfl, Below.refl _ _, rfl⟩
                          · intro vs w' F hb hd hF hl hT
                            have eg := ((hF 54).trans (look_at _ 54 5 _ _ (by kernel_rfl) (by kernel_rfl) hl)).trans (dep_of (Fact := F_wchke wr.heap.size W.heap.size q gb go kg la ak nk ck ng cg av nv cv) hd 5 (by kernel_rfl))
                            refine wpList_on rfl (t := 54) (by kernel_rfl) eg ?_
                            have e := ((hF 56).trans (look_at _ 56 7 _ _ (by kernel_rfl) (by kernel_rfl) hl)).trans (dep_of (Fact := F_wchke wr.heap.size W.heap.size q gb go kg la ak nk ck ng cg av nv cv) hd 7 (by kernel_rfl))
                            exact one_load _ _ rfl rfl _ _ e (cell_abides Q0.out hb) (by kernel_rfl) ⟨_, rfl, Below.refl _ _, rfl⟩
                          · intro vs w' F hb hd hF hl hT
                            have eg := ((hF 54).trans (look_at _ 54 5 _ _ (by kernel_rfl) (by kernel_rfl) hl)).trans (dep_of (Fact := F_wchke wr.heap.size W.heap.size q gb go kg la ak nk ck ng cg av nv cv) hd 5 (by kernel_rfl))
                            refine wpList_on rfl (t := 54) (by kernel_rfl) eg ?_
                            have e := (hF 1).trans (look_out _ 1 _ _ (by kernel_rfl))
                            exact one_field _ _ _ rfl rfl _ _ e (1) (fun w => by kernel_rfl) ⟨_, rfl, Below.refl _ _, rfl⟩
                          · intro vs w' F hb hd hF hl hT
                            have eg := ((hF 54).trans (look_at _ 54 5 _ _ (by kernel_rfl) (by kernel_rfl) hl)).trans (dep_of (Fact := F_wchke wr.heap.size W.heap.size q gb go kg la ak nk ck ng cg av nv cv) hd 5 (by kernel_rfl))
                            refine wpList_on rfl (t := 54) (by kernel_rfl) eg ?_
                            have e := ((hF 58).trans (look_at _ 58 9 _ _ (by kernel_rfl) (by kernel_rfl) hl)).trans (dep_of (Fact := F_wchke wr.heap.size W.heap.size q gb go kg la ak nk ck ng cg av nv cv) hd 9 (by kernel_rfl))
                            exact one_load _ _ rfl rfl _ _ e (cell_abides Z1.out hb) (by kernel_rfl) ⟨_, rfl, Below.refl _ _, rfl⟩
                          · intro vs w' F hb hd hF hl hT
                            have eg := ((hF 54).trans (look_at _ 54 5 _ _ (by kernel_rfl) (by kernel_rfl) hl)).trans (dep_of (Fact := F_wchke wr.heap.size W.heap.size q gb go kg la ak nk ck ng cg av nv cv) hd 5 (by kernel_rfl))
                            refine wpList_on rfl (t := 54) (by kernel_rfl) eg ?_
                            have e := ((hF 59).trans (look_at _ 59 10 _ _ (by kernel_rfl) (by kernel_rfl) hl)).trans (dep_of (Fact := F_wchke wr.heap.size W.heap.size q gb go kg la ak nk ck ng cg av nv cv) hd 10 (by kernel_rfl))
                            exact rg_len _ 22 3 rfl rfl Try.underlying22 (some ⟨gb, go, none⟩) (ng) (cg) e ⟨_, rfl, Below.refl _ _, rfl⟩
                          · intro vs w' F hb hd hF hl hT
                            have eg := ((hF 54).trans (look_at _ 54 5 _ _ (by kernel_rfl) (by kernel_rfl) hl)).trans (dep_of (Fact := F_wchke wr.heap.size W.heap.size q gb go kg la ak nk ck ng cg av nv cv) hd 5 (by kernel_rfl))
                            refine wpList_on rfl (t := 54) (by kernel_rfl) eg ?_
                            have e1 := ((hF 57).trans (look_at _ 57 8 _ _ (by kernel_rfl) (by kernel_rfl) hl)).trans (dep_of (Fact := F_wchke wr.heap.size W.heap.size q gb go kg la ak nk ck ng cg av nv cv) hd 8 (by kernel_rfl))
                            have e2 := ((hF 60).trans (look_at _ 60 11 _ _ (by kernel_rfl) (by kernel_rfl) hl)).trans (dep_of (Fact := F_wchke wr.heap.size W.heap.size q gb go kg la ak nk ck ng cg av nv cv) hd 11 (by kernel_rfl))
                            exact rg_geq _ _ _ _ rfl rfl .i64 ((q : Int)) ((ng : Int)) false e1 e2 (decide_eq_false (by omega)) ⟨_, rfl, Below.refl _ _, rfl⟩
                          · intro vs w' F hb hd hF hl hT
                            have ec := ((hF 54).trans (look_at _ 54 5 _ _ (by kernel_rfl) (by kernel_rfl) hl)).trans (dep_of (Fact := F_wchke wr.heap.size W.heap.size q gb go kg la ak nk ck ng cg av nv cv) hd 5 (by kernel_rfl))
                            have e := ((hF 61).trans (look_at _ 61 12 _ _ (by kernel_rfl) (by kernel_rfl) hl)).trans (dep_of (Fact := F_wchke wr.heap.size W.heap.size q gb go kg la ak nk ck ng cg av nv cv) hd 12 (by kernel_rfl))
                            exact one_pick_f _ _ _ rfl rfl _ ec e ⟨_, rfl, Below.refl _ _, rfl⟩
                          · intro vs w' F hb hd hF hl hT
                            have e := ((hF 62).trans (look_at _ 62 13 _ _ (by kernel_rfl) (by kernel_rfl) hl)).trans (dep_of (Fact := F_wchke wr.heap.size W.heap.size q gb go kg la ak nk ck ng cg av nv cv) hd 13 (by kernel_rfl))
                            exact one_move _ rfl (by first | exact Or.inl rfl | exact Or.inr rfl) ⟨_, rfl, Below.refl _ _, e⟩
                          · intro vs w' F hb hd hF hl hT
                            have eg := ((hF 63).trans (look_at _ 63 14 _ _ (by kernel_rfl) (by kernel_rfl) hl)).trans (dep_of (Fact := F_wchke wr.heap.size W.heap.size q gb go kg la ak nk ck ng cg av nv cv) hd 14 (by kernel_rfl))
                            refine wpList_on rfl (t := 63) (by kernel_rfl) eg ?_
                            have e := (hF 8).trans (look_out _ 8 _ _ (by kernel_rfl))
                            exact one_field _ _ _ rfl rfl _ _ e (0) (fun w => by kernel_rfl) ⟨_, rfl, Below.refl _ _, rfl⟩
                          · intro vs w' F hb hd hF hl hT
                            have eg := ((hF 63).trans (look_at _ 63 14 _ _ (by kernel_rfl) (by kernel_rfl) hl)).trans (dep_of (Fact := F_wchke wr.heap.size W.heap.size q gb go kg la ak nk ck ng cg av nv cv) hd 14 (by kernel_rfl))
                            refine wpList_on rfl (t := 63) (by kernel_rfl) eg ?_
                            have e := ((hF 64).trans (look_at _ 64 15 _ _ (by kernel_rfl) (by kernel_rfl) hl)).trans (dep_of (Fact := F_wchke wr.heap.size W.heap.size q gb go kg la ak nk ck ng cg av nv cv) hd 15 (by kernel_rfl))
                            exact one_field _ _ _ rfl rfl _ _ e (1) (fun w => by kernel_rfl) ⟨_, rfl, Below.refl _ _, rfl⟩
                          · intro vs w' F hb hd hF hl hT
                            have eg := ((hF 63).trans (look_at _ 63 14 _ _ (by kernel_rfl) (by kernel_rfl) hl)).trans (dep_of (Fact := F_wchke wr.heap.size W.heap.size q gb go kg la ak nk ck ng cg av nv cv) hd 14 (by kernel_rfl))
                            refine wpList_on rfl (t := 63) (by kernel_rfl) eg ?_
                            have e := ((hF 65).trans (look_at _ 65 16 _ _ (by kernel_rfl) (by kernel_rfl) hl)).trans (dep_of (Fact := F_wchke wr.heap.size W.heap.size q gb go kg la ak nk ck ng cg av nv cv) hd 16 (by kernel_rfl))
                            exact one_load _ _ rfl rfl _ _ e (cell_abides Q1.out hb) (by kernel_rfl) ⟨_, rfl, Below.refl _ _, rfl⟩
                          · intro vs w' F hb hd hF hl hT
                            have eg := ((hF 63).trans (look_at _ 63 14 _ _ (by kernel_rfl) (by kernel_rfl) hl)).trans (dep_of (Fact := F_wchke wr.heap.size W.heap.size q gb go kg la ak nk ck ng cg av nv cv) hd 14 (by kernel_rfl))
                            refine wpList_on rfl (t := 63) (by kernel_rfl) eg ?_
                            have e := (hF 1).trans (look_out _ 1 _ _ (by kernel_rfl))
                            exact one_field _ _ _ rfl rfl _ _ e (1) (fun w => by kernel_rfl) ⟨_, rfl, Below.refl _ _, rfl⟩
                          · intro vs w' F hb hd hF hl hT
                            have eg := ((hF 63).trans (look_at _ 63 14 _ _ (by kernel_rfl) (by kernel_rfl) hl)).trans (dep_of (Fact := F_wchke wr.heap.size W.heap.size q gb go kg la ak nk ck ng cg av nv cv) hd 14 (by kernel_rfl))
                            refine wpList_on rfl (t := 63) (by kernel_rfl) eg ?_
                            have e := ((hF 67).trans (look_at _ 67 18 _ _ (by kernel_rfl) (by kernel_rfl) hl)).trans (dep_of (Fact := F_wchke wr.heap.size W.heap.size q gb go kg la ak nk ck ng cg av nv cv) hd 18 (by kernel_rfl))
                            exact one_load _ _ rfl rfl _ _ e (cell_abides Z1.out hb) (by kernel_rfl) ⟨_, rfl, Below.refl _ _, rfl⟩
                          · intro vs w' F hb hd hF hl hT
                            have eg := ((hF 63).trans (look_at _ 63 14 _ _ (by kernel_rfl) (by kernel_rfl) hl)).trans (dep_of (Fact := F_wchke wr.heap.size W.heap.size q gb go kg la ak nk ck ng cg av nv cv) hd 14 (by kernel_rfl))
                            refine wpList_on rfl (t := 63) (by kernel_rfl) eg ?_
                            have e := (hF 8).trans (look_out _ 8 _ _ (by kernel_rfl))
                            exact one_field _ _ _ rfl rfl _ _ e (0) (fun w => by kernel_rfl) ⟨_, rfl, Below.refl _ _, rfl⟩
                          · intro vs w' F hb hd hF hl hT
                            have eg := ((hF 63).trans (look_at _ 63 14 _ _ (by kernel_rfl) (by kernel_rfl) hl)).trans (dep_of (Fact := F_wchke wr.heap.size W.heap.size q gb go kg la ak nk ck ng cg av nv cv) hd 14 (by kernel_rfl))
                            refine wpList_on rfl (t := 63) (by kernel_rfl) eg ?_
                            have e := ((hF 69).trans (look_at _ 69 20 _ _ (by kernel_rfl) (by kernel_rfl) hl)).trans (dep_of (Fact := F_wchke wr.heap.size W.heap.size q gb go kg la ak nk ck ng cg av nv cv) hd 20 (by kernel_rfl))
                            exact one_field _ _ _ rfl rfl _ _ e (0) (fun w => by kernel_rfl) ⟨_, rfl, Below.refl _ _, rfl⟩
                          · intro vs w' F hb hd hF hl hT
                            have eg := ((hF 63).trans (look_at _ 63 14 _ _ (by kernel_rfl) (by kernel_rfl) hl)).trans (dep_of (Fact := F_wchke wr.heap.size W.heap.size q gb go kg la ak nk ck ng cg av nv cv) hd 14 (by kernel_rfl))
                            refine wpList_on rfl (t := 63) (by kernel_rfl) eg ?_
                            have e := ((hF 70).trans (look_at _ 70 21 _ _ (by kernel_rfl) (by kernel_rfl) hl)).trans (dep_of (Fact := F_wchke wr.heap.size W.heap.size q gb go kg la ak nk ck ng cg av nv cv) hd 21 (by kernel_rfl))
                            exact one_load _ _ rfl rfl _ _ e (cell_abides Q0.out hb) (by kernel_rfl) ⟨_, rfl, Below.refl _ _, rfl⟩
                          · intro vs w' F hb hd hF hl hT
                            have eg := ((hF 63).trans (look_at _ 63 14 _ _ (by kernel_rfl) (by kernel_rfl) hl)).trans (dep_of (Fact := F_wchke wr.heap.size W.heap.size q gb go kg la ak nk ck ng cg av nv cv) hd 14 (by kernel_rfl))
                            refine wpList_on rfl (t := 63) (by kernel_rfl) eg ?_
                            have ex := ((hF 68).trans (look_at _ 68 19 _ _ (by kernel_rfl) (by kernel_rfl) hl)).trans (dep_of (Fact := F_wchke wr.heap.size W.heap.size q gb go kg la ak nk ck ng cg av nv cv) hd 19 (by kernel_rfl))
                            have ey := ((hF 71).trans (look_at _ 71 22 _ _ (by kernel_rfl) (by kernel_rfl) hl)).trans (dep_of (Fact := F_wchke wr.heap.size W.heap.size q gb go kg la ak nk ck ng cg av nv cv) hd 22 (by kernel_rfl))
                            exact one_index 22 _ _ rfl rfl (.slice (some ⟨gb, go, none⟩) ng cg) (.int .i64 (q : Int)) (.pointer (some ⟨gb, go + q * 1, none⟩)) ex ey (fun w => rg_idx Try.underlying22 (show (Try.prog.info? 3).map (·.size) = some 1 by kernel_rfl) (gb) (go) (ng) (cg) (q) (by omega) w) ⟨_, rfl, Below.refl _ _, rfl⟩
                          · intro vs w' F hb hd hF hl hT
                            have eg := ((hF 63).trans (look_at _ 63 14 _ _ (by kernel_rfl) (by kernel_rfl) hl)).trans (dep_of (Fact := F_wchke wr.heap.size W.heap.size q gb go kg la ak nk ck ng cg av nv cv) hd 14 (by kernel_rfl))
                            refine wpList_on rfl (t := 63) (by kernel_rfl) eg ?_
                            have e := ((hF 72).trans (look_at _ 72 23 _ _ (by kernel_rfl) (by kernel_rfl) hl)).trans (dep_of (Fact := F_wchke wr.heap.size W.heap.size q gb go kg la ak nk ck ng cg av nv cv) hd 23 (by kernel_rfl))
                            exact one_load _ _ rfl rfl _ _ e (cell_abides HCG.out hb) (by kernel_rfl) ⟨_, rfl, Below.refl _ _, rfl⟩
                          · intro vs w' F hb hd hF hl hT
                            have eg := ((hF 63).trans (look_at _ 63 14 _ _ (by kernel_rfl) (by kernel_rfl) hl)).trans (dep_of (Fact := F_wchke wr.heap.size W.heap.size q gb go kg la ak nk ck ng cg av nv cv) hd 14 (by kernel_rfl))
                            refine wpList_on rfl (t := 63) (by kernel_rfl) eg ?_
                            have e1 := ((hF 66).trans (look_at _ 66 17 _ _ (by kernel_rfl) (by kernel_rfl) hl)).trans (dep_of (Fact := F_wchke wr.heap.size W.heap.size q gb go kg la ak nk ck ng cg av nv cv) hd 17 (by kernel_rfl))
                            have e2 := ((hF 73).trans (look_at _ 73 24 _ _ (by kernel_rfl) (by kernel_rfl) hl)).trans (dep_of (Fact := F_wchke wr.heap.size W.heap.size q gb go kg la ak nk ck ng cg av nv cv) hd 24 (by kernel_rfl))
                            exact rg_neq _ _ _ _ rfl rfl .i64 (kg) (kg) false e1 e2 (decide_eq_false (by omega)) ⟨_, rfl, Below.refl _ _, rfl⟩
                          · intro vs w' F hb hd hF hl hT
                            have ec := ((hF 63).trans (look_at _ 63 14 _ _ (by kernel_rfl) (by kernel_rfl) hl)).trans (dep_of (Fact := F_wchke wr.heap.size W.heap.size q gb go kg la ak nk ck ng cg av nv cv) hd 14 (by kernel_rfl))
                            have e := ((hF 74).trans (look_at _ 74 25 _ _ (by kernel_rfl) (by kernel_rfl) hl)).trans (dep_of (Fact := F_wchke wr.heap.size W.heap.size q gb go kg la ak nk ck ng cg av nv cv) hd 25 (by kernel_rfl))
                            exact one_pick_f _ _ _ rfl rfl _ ec e ⟨_, rfl, Below.refl _ _, rfl⟩
                          · intro vs w' F hb hd hF hl hT
                            have e := ((hF 75).trans (look_at _ 75 26 _ _ (by kernel_rfl) (by kernel_rfl) hl)).trans (dep_of (Fact := F_wchke wr.heap.size W.heap.size q gb go kg la ak nk ck ng cg av nv cv) hd 26 (by kernel_rfl))
                            exact one_move _ rfl (by first | exact Or.inl rfl | exact Or.inr rfl) ⟨_, rfl, Below.refl _ _, e⟩
                          · intro vs w' F hb hd hF hl hT
                            have eg := ((hF 76).trans (look_at _ 76 27 _ _ (by kernel_rfl) (by kernel_rfl) hl)).trans (dep_of (Fact := F_wchke wr.heap.size W.heap.size q gb go kg la ak nk ck ng cg av nv cv) hd 27 (by kernel_rfl))
                            refine wpList_on rfl (t := 76) (by kernel_rfl) eg ?_
                            have e := (hF 8).trans (look_out _ 8 _ _ (by kernel_rfl))
                            exact one_field _ _ _ rfl rfl _ _ e (0) (fun w => by kernel_rfl) ⟨_, rfl, Below.refl _ _, rfl⟩
                          · intro vs w' F hb hd hF hl hT
                            have eg := ((hF 76).trans (look_at _ 76 27 _ _ (by kernel_rfl) (by kernel_rfl) hl)).trans (dep_of (Fact := F_wchke wr.heap.size W.heap.size q gb go kg la ak nk ck ng cg av nv cv) hd 27 (by kernel_rfl))
                            refine wpList_on rfl (t := 76) (by kernel_rfl) eg ?_
                            have e := ((hF 77).trans (look_at _ 77 28 _ _ (by kernel_rfl) (by kernel_rfl) hl)).trans (dep_of (Fact := F_wchke wr.heap.size W.heap.size q gb go kg la ak nk ck ng cg av nv cv) hd 28 (by kernel_rfl))
                            exact one_field _ _ _ rfl rfl _ _ e (1) (fun w => by kernel_rfl) ⟨_, rfl, Below.refl _ _, rfl⟩
                          · intro vs w' F hb hd hF hl hT
                            have eg := ((hF 76).trans (look_at _ 76 27 _ _ (by kernel_rfl) (by kernel_rfl) hl)).trans (dep_of (Fact := F_wchke wr.heap.size W.heap.size q gb go kg la ak nk ck ng cg av nv cv) hd 27 (by kernel_rfl))
                            refine wpList_on rfl (t := 76) (by kernel_rfl) eg ?_
                            have e := ((hF 78).trans (look_at _ 78 29 _ _ (by kernel_rfl) (by kernel_rfl) hl)).trans (dep_of (Fact := F_wchke wr.heap.size W.heap.size q gb go kg la ak nk ck ng cg av nv cv) hd 29 (by kernel_rfl))
                            exact one_load _ _ rfl rfl _ _ e (cell_abides Q1.out hb) (by kernel_rfl) ⟨_, rfl, Below.refl _ _, rfl⟩
                          · intro vs w' F hb hd hF hl hT
                            have eg := ((hF 76).trans (look_at _ 76 27 _ _ (by kernel_rfl) (by kernel_rfl) hl)).trans (dep_of (Fact := F_wchke wr.heap.size W.heap.size q gb go kg la ak nk ck ng cg av nv cv) hd 27 (by kernel_rfl))
                            refine wpList_on rfl (t := 76) (by kernel_rfl) eg ?_
                            have e1 := ((hF 79).trans (look_at _ 79 30 _ _ (by kernel_rfl) (by kernel_rfl) hl)).trans (dep_of (Fact := F_wchke wr.heap.size W.heap.size q gb go kg la ak nk ck ng cg av nv cv) hd 30 (by kernel_rfl))
                            exact rg_eql _ _ _ _ rfl rfl .i64 (kg) (1073741824) false e1 rfl (decide_eq_false (by omega)) ⟨_, rfl, Below.refl _ _, rfl⟩
                          · intro vs w' F hb hd hF hl hT
                            have ec := ((hF 76).trans (look_at _ 76 27 _ _ (by kernel_rfl) (by kernel_rfl) hl)).trans (dep_of (Fact := F_wchke wr.heap.size W.heap.size q gb go kg la ak nk ck ng cg av nv cv) hd 27 (by kernel_rfl))
                            have e := ((hF 80).trans (look_at _ 80 31 _ _ (by kernel_rfl) (by kernel_rfl) hl)).trans (dep_of (Fact := F_wchke wr.heap.size W.heap.size q gb go kg la ak nk ck ng cg av nv cv) hd 31 (by kernel_rfl))
                            exact one_pick_f _ _ _ rfl rfl _ ec e ⟨_, rfl, Below.refl _ _, rfl⟩
                          · intro vs w' F hb hd hF hl hT
                            have e := ((hF 81).trans (look_at _ 81 32 _ _ (by kernel_rfl) (by kernel_rfl) hl)).trans (dep_of (Fact := F_wchke wr.heap.size W.heap.size q gb go kg la ak nk ck ng cg av nv cv) hd 32 (by kernel_rfl))
                            exact one_move _ rfl (by first | exact Or.inl rfl | exact Or.inr rfl) ⟨_, rfl, Below.refl _ _, e⟩
                          · intro vs w' F hb hd hF hl hT
                            have eg := ((hF 82).trans (look_at _ 82 33 _ _ (by kernel_rfl) (by kernel_rfl) hl)).trans (dep_of (Fact := F_wchke wr.heap.size W.heap.size q gb go kg la ak nk ck ng cg av nv cv) hd 33 (by kernel_rfl))
                            refine wpList_on rfl (t := 82) (by kernel_rfl) eg ?_
                            have e := (hF 1).trans (look_out _ 1 _ _ (by kernel_rfl))
                            exact one_field _ _ _ rfl rfl _ _ e (0) (fun w => by kernel_rfl) ⟨_, rfl, Below.refl _ _, rfl⟩
                          · intro vs w' F hb hd hF hl hT
                            have eg := ((hF 82).trans (look_at _ 82 33 _ _ (by kernel_rfl) (by kernel_rfl) hl)).trans (dep_of (Fact := F_wchke wr.heap.size W.heap.size q gb go kg la ak nk ck ng cg av nv cv) hd 33 (by kernel_rfl))
                            refine wpList_on rfl (t := 82) (by kernel_rfl) eg ?_
                            have e := ((hF 83).trans (look_at _ 83 34 _ _ (by kernel_rfl) (by kernel_rfl) hl)).trans (dep_of (Fact := F_wchke wr.heap.size W.heap.size q gb go kg la ak nk ck ng cg av nv cv) hd 34 (by kernel_rfl))
                            exact one_load _ _ rfl rfl _ _ e (cell_abides Z0.out hb) (by kernel_rfl) ⟨_, rfl, Below.refl _ _, rfl⟩
                          · intro vs w' F hb hd hF hl hT
                            have eg := ((hF 82).trans (look_at _ 82 33 _ _ (by kernel_rfl) (by kernel_rfl) hl)).trans (dep_of (Fact := F_wchke wr.heap.size W.heap.size q gb go kg la ak nk ck ng cg av nv cv) hd 33 (by kernel_rfl))
                            refine wpList_on rfl (t := 82) (by kernel_rfl) eg ?_
                            have e := (hF 8).trans (look_out _ 8 _ _ (by kernel_rfl))
                            exact one_field _ _ _ rfl rfl _ _ e (2) (fun w => by kernel_rfl) ⟨_, rfl, Below.refl _ _, rfl⟩
                          · intro vs w' F hb hd hF hl hT
                            have eg := ((hF 82).trans (look_at _ 82 33 _ _ (by kernel_rfl) (by kernel_rfl) hl)).trans (dep_of (Fact := F_wchke wr.heap.size W.heap.size q gb go kg la ak nk ck ng cg av nv cv) hd 33 (by kernel_rfl))
                            refine wpList_on rfl (t := 82) (by kernel_rfl) eg ?_
                            have e := ((hF 85).trans (look_at _ 85 36 _ _ (by kernel_rfl) (by kernel_rfl) hl)).trans (dep_of (Fact := F_wchke wr.heap.size W.heap.size q gb go kg la ak nk ck ng cg av nv cv) hd 36 (by kernel_rfl))
                            exact one_load _ _ rfl rfl _ _ e (cell_abides Q2.out hb) (by kernel_rfl) ⟨_, rfl, Below.refl _ _, rfl⟩
                          · intro vs w' F hb hd hF hl hT
                            have eg := ((hF 82).trans (look_at _ 82 33 _ _ (by kernel_rfl) (by kernel_rfl) hl)).trans (dep_of (Fact := F_wchke wr.heap.size W.heap.size q gb go kg la ak nk ck ng cg av nv cv) hd 33 (by kernel_rfl))
                            refine wpList_on rfl (t := 82) (by kernel_rfl) eg ?_
                            have ea0 := ((hF 84).trans (look_at _ 84 35 _ _ (by kernel_rfl) (by kernel_rfl) hl)).trans (dep_of (Fact := F_wchke wr.heap.size W.heap.size q gb go kg la ak nk ck ng cg av nv cv) hd 35 (by kernel_rfl))
                            have ea1 := ((hF 86).trans (look_at _ 86 37 _ _ (by kernel_rfl) (by kernel_rfl) hl)).trans (dep_of (Fact := F_wchke wr.heap.size W.heap.size q gb go kg la ak nk ck ng cg av nv cv) hd 37 (by kernel_rfl))
                            refine one_call _ _ rfl rfl (enters_of Try.func52 (by kernel_rfl) rfl) #[.slice ak nk ck, .slice av nv cv] (eval2 ea0 ea1) ?_
                            refine (CC.out w' hb).mono ?_
                            rintro e2 w2 ⟨rfl, hb2⟩
                            exact ⟨_, rfl, _, rfl, hb2, rfl⟩
                          · intro vs w' F hb hd hF hl hT
                            have eg := ((hF 82).trans (look_at _ 82 33 _ _ (by kernel_rfl) (by kernel_rfl) hl)).trans (dep_of (Fact := F_wchke wr.heap.size W.heap.size q gb go kg la ak nk ck ng cg av nv cv) hd 33 (by kernel_rfl))
                            refine wpList_on rfl (t := 82) (by kernel_rfl) eg ?_
                            have e := ((hF 87).trans (look_at _ 87 38 _ _ (by kernel_rfl) (by kernel_rfl) hl)).trans (dep_of (Fact := F_wchke wr.heap.size W.heap.size q gb go kg la ak nk ck ng cg av nv cv) hd 38 (by kernel_rfl))
                            exact one_not _ _ rfl rfl _ true e rfl ⟨_, rfl, Below.refl _ _, rfl⟩
                          · intro vs w' F hb hd hF hl hT
                            have ec := ((hF 82).trans (look_at _ 82 33 _ _ (by kernel_rfl) (by kernel_rfl) hl)).trans (dep_of (Fact := F_wchke wr.heap.size W.heap.size q gb go kg la ak nk ck ng cg av nv cv) hd 33 (by kernel_rfl))
                            have e := ((hF 88).trans (look_at _ 88 39 _ _ (by kernel_rfl) (by kernel_rfl) hl)).trans (dep_of (Fact := F_wchke wr.heap.size W.heap.size q gb go kg la ak nk ck ng cg av nv cv) hd 39 (by kernel_rfl))
                            exact one_pick_f _ _ _ rfl rfl _ ec e ⟨_, rfl, Below.refl _ _, rfl⟩
                        · intro vs8 W8 hl hb hI
                          have hv : vs8.getD 40 undef = .bool true := hI 40 (by omega)
                          obtain ⟨x0, x1, x2, x3, x4, x5, x6, x7, x8, x9, x10, x11, x12, x13, x14, x15, x16, x17, x18, x19, x20, x21, x22, x23, x24, x25, x26, x27, x28, x29, x30, x31, x32, x33, x34, x35, x36, x37, x38, x39, x40, hvs⟩ := list41 hl
                          subst hvs
                          replace hv : x40 = .bool true := hv
                          subst hv
                          clear hI hl
                          simp only [fillAll, Act.put, List.setIfInBounds_toArray, List.set_cons_succ, List.set_cons_zero]
                          show wpList _ _ _ [] _ _
                          go_wp2
                          go_ret
                          exact ⟨by rw [HR.out]; rfl, bt HB.out hb⟩
                      | true =>
                        go_wp2_with fail
                        have hD := HDD.out
                        refine wp_region_facts_t rfl 41 (by kernel_rfl) (F_wchkf wr.heap.size W.heap.size q gb go kg la ak nk ck ng cg av nv cv) (F_wchkf_mono wr.heap.size W.heap.size q gb go kg la ak nk ck ng cg av nv cv) ?_ ?_
                        · refine ⟨?_, ?_, ?_, ?_, ?_, ?_, ?_, ?_, ?_, ?_, ?_, ?_, ?_, ?_, ?_, ?_, ?_, ?_, ?_, ?_, ?_, ?_, ?_, ?_, ?_, ?_, ?_, ?_, ?_, ?_, ?_, ?_, ?_, ?_, ?_, ?_, ?_, ?_, ?_, ?_, ?_, trivial⟩
                          · intro vs w' F hb hd hF hl hT
                            have e := (hF 8).trans (look_out _ 8 _ _ (by kernel_rfl))
                            exact one_field _ _ _ rfl rfl _ _ e (0) (fun w => by kernel_rfl) ⟨_, rfl, Below.refl _ _, rfl⟩
                          · intro vs w' F hb hd hF hl hT
                            have e := ((hF 49).trans (look_at _ 49 0 _ _ (by kernel_rfl) (by kernel_rfl) hl)).trans (dep_of (Fact := F_wchkf wr.heap.size W.heap.size q gb go kg la ak nk ck ng cg av nv cv) hd 0 (by kernel_rfl))
                            exact one_field _ _ _ rfl rfl _ _ e (0) (fun w => by kernel_rfl) ⟨_, rfl, Below.refl _ _, rfl⟩
                          · intro vs w' F hb hd hF hl hT
                            have e := ((hF 50).trans (look_at _ 50 1 _ _ (by kernel_rfl) (by kernel_rfl) hl)).trans (dep_of (Fact := F_wchkf wr.heap.size W.heap.size q gb go kg la ak nk ck ng cg av nv cv) hd 1 (by kernel_rfl))
                            exact one_load _ _ rfl rfl _ _ e (cell_abides Q0.out hb) (by kernel_rfl) ⟨_, rfl, Below.refl _ _, rfl⟩
                          · intro vs w' F hb hd hF hl hT
                            have e := (hF 6).trans (look_out _ 6 _ _ (by kernel_rfl))
                            exact one_move _ rfl (by first | exact Or.inl rfl | exact Or.inr rfl) ⟨_, rfl, Below.refl _ _, e⟩
                          · intro vs w' F hb hd hF hl hT
                            have e1 := ((hF 51).trans (look_at _ 51 2 _ _ (by kernel_rfl) (by kernel_rfl) hl)).trans (dep_of (Fact := F_wchkf wr.heap.size W.heap.size q gb go kg la ak nk ck ng cg av nv cv) hd 2 (by kernel_rfl))
                            have e2 := ((hF 52).trans (look_at _ 52 3 _ _ (by kernel_rfl) (by kernel_rfl) hl)).trans (dep_of (Fact := F_wchkf wr.heap.size W.heap.size q gb go kg la ak nk ck ng cg av nv cv) hd 3 (by kernel_rfl))
                            exact rg_leq _ _ _ _ rfl rfl .i64 ((q : Int)) (la) false e1 e2 (decide_eq_false (by omega)) ⟨_, rfl, Below.refl _ _, rfl⟩
                          · intro vs w' F hb hd hF hl hT
                            have e := ((hF 53).trans (look_at _ 53 4 _ _ (by kernel_rfl) (by kernel_rfl) hl)).trans (dep_of (Fact := F_wchkf wr.heap.size W.heap.size q gb go kg la ak nk ck ng cg av nv cv) hd 4 (by kernel_rfl))
                            exact one_move _ rfl (by first | exact Or.inl rfl | exact Or.inr rfl) ⟨_, rfl, Below.refl _ _, e⟩
                          · intro vs w' F hb hd hF hl hT
                            have eg := ((hF 54).trans (look_at _ 54 5 _ _ (by kernel_rfl) (by kernel_rfl) hl)).trans (dep_of (Fact := F_wchkf wr.heap.size W.heap.size q gb go kg la ak nk ck ng cg av nv cv) hd 5 (by kernel_rfl))
                            refine wpList_on rfl (t := 54) (by kernel_rfl) eg ?_
                            have e := (hF 8).trans (look_out _ 8 _ _ (by kernel_rfl))
                            exact one_field _ _ _ rfl rfl _ _ e (0) (fun w => by kernel_rfl) ⟨_, rfl, Below.refl _ _, rfl⟩
                          · intro vs w' F hb hd hF hl hT
                            have eg := ((hF 54).trans (look_at _ 54 5 _ _ (by kernel_rfl) (by kernel_rfl) hl)).trans (dep_of (Fact := F_wchkf wr.heap.size W.heap.size q gb go kg la ak nk ck ng cg av nv cv) hd 5 (by kernel_rfl))
                            refine wpList_on rfl (t := 54) (by kernel_rfl) eg ?_
                            have e := ((hF 55).trans (look_at _ 55 6 _ _ (by kernel_rfl) (by kernel_rfl) hl)).trans (dep_of (Fact := F_wchkf wr.heap.size W.heap.size q gb go kg la ak nk ck ng cg av nv cv) hd 6 (by kernel_rfl))
                            exact one_field _ _ _ rfl rfl _ _ e (0) (fun w => by kernel_rfl) ⟨_, rfl, Below.refl _ _, rfl⟩
                          · intro vs w' F hb hd hF hl hT
                            have eg := ((hF 54).trans (look_at _ 54 5 _ _ (by kernel_rfl) (by kernel_rfl) hl)).trans (dep_of (Fact := F_wchkf wr.heap.size W.heap.size q gb go kg la ak nk ck ng cg av nv cv) hd 5 (by kernel_rfl))
                            refine wpList_on rfl (t := 54) (by kernel_rfl) eg ?_
                            have e := ((hF 56).trans (look_at _ 56 7 _ _ (by kernel_rfl) (by kernel_rfl) hl)).trans (dep_of (Fact := F_wchkf wr.heap.size W.heap.size q gb go kg la ak nk ck ng cg av nv cv) hd 7 (by kernel_rfl))
                            exact one_load _ _ rfl rfl _ _ e (cell_abides Q0.out hb) (by kernel_rfl) ⟨_, rfl, Below.refl _ _, rfl⟩
                          · intro vs w' F hb hd hF hl hT
                            have eg := ((hF 54).trans (look_at _ 54 5 _ _ (by kernel_rfl) (by kernel_rfl) hl)).trans (dep_of (Fact := F_wchkf wr.heap.size W.heap.size q gb go kg la ak nk ck ng cg av nv cv) hd 5 (by kernel_rfl))
                            refine wpList_on rfl (t := 54) (by kernel_rfl) eg ?_
                            have e := (hF 1).trans (look_out _ 1 _ _ (by kernel_rfl))
                            exact one_field _ _ _ rfl rfl _ _ e (1) (fun w => by kernel_rfl) ⟨_, rfl, Below.refl _ _, rfl⟩
                          · intro vs w' F hb hd hF hl hT
                            have eg := ((hF 54).trans (look_at _ 54 5 _ _ (by kernel_rfl) (by kernel_rfl) hl)).trans (dep_of (Fact := F_wchkf wr.heap.size W.heap.size q gb go kg la ak nk ck ng cg av nv cv) hd 5 (by kernel_rfl))
                            refine wpList_on rfl (t := 54) (by kernel_rfl) eg ?_
                            have e := ((hF 58).trans (look_at _ 58 9 _ _ (by kernel_rfl) (by kernel_rfl) hl)).trans (dep_of (Fact := F_wchkf wr.heap.size W.heap.size q gb go kg la ak nk ck ng cg av nv cv) hd 9 (by kernel_rfl))
                            exact one_load _ _ rfl rfl _ _ e (cell_abides Z1.out hb) (by kernel_rfl) ⟨_, rfl, Below.refl _ _, rfl⟩
                          · intro vs w' F hb hd hF hl hT
                            have eg := ((hF 54).trans (look_at _ 54 5 _ _ (by kernel_rfl) (by kernel_rfl) hl)).trans (dep_of (Fact := F_wchkf wr.heap.size W.heap.size q gb go kg la ak nk ck ng cg av nv cv) hd 5 (by kernel_rfl))
                            refine wpList_on rfl (t := 54) (by kernel_rfl) eg ?_
                            have e := ((hF 59).trans (look_at _ 59 10 _ _ (by kernel_rfl) (by kernel_rfl) hl)).trans (dep_of (Fact := F_wchkf wr.heap.size W.heap.size q gb go kg la ak nk ck ng cg av nv cv) hd 10 (by kernel_rfl))
                            exact rg_len _ 22 3 rfl rfl Try.underlying22 (some ⟨gb, go, none⟩) (ng) (cg) e ⟨_, rfl, Below.refl _ _, rfl⟩
                          · intro vs w' F hb hd hF hl hT
                            have eg := ((hF 54).trans (look_at _ 54 5 _ _ (by kernel_rfl) (by kernel_rfl) hl)).trans (dep_of (Fact := F_wchkf wr.heap.size W.heap.size q gb go kg la ak nk ck ng cg av nv cv) hd 5 (by kernel_rfl))
                            refine wpList_on rfl (t := 54) (by kernel_rfl) eg ?_
                            have e1 := ((hF 57).trans (look_at _ 57 8 _ _ (by kernel_rfl) (by kernel_rfl) hl)).trans (dep_of (Fact := F_wchkf wr.heap.size W.heap.size q gb go kg la ak nk ck ng cg av nv cv) hd 8 (by kernel_rfl))
                            have e2 := ((hF 60).trans (look_at _ 60 11 _ _ (by kernel_rfl) (by kernel_rfl) hl)).trans (dep_of (Fact := F_wchkf wr.heap.size W.heap.size q gb go kg la ak nk ck ng cg av nv cv) hd 11 (by kernel_rfl))
                            exact rg_geq _ _ _ _ rfl rfl .i64 ((q : Int)) ((ng : Int)) false e1 e2 (decide_eq_false (by omega)) ⟨_, rfl, Below.refl _ _, rfl⟩
                          · intro vs w' F hb hd hF hl hT
                            have ec := ((hF 54).trans (look_at _ 54 5 _ _ (by kernel_rfl) (by kernel_rfl) hl)).trans (dep_of (Fact := F_wchkf wr.heap.size W.heap.size q gb go kg la ak nk ck ng cg av nv cv) hd 5 (by kernel_rfl))
                            have e := ((hF 61).trans (look_at _ 61 12 _ _ (by kernel_rfl) (by kernel_rfl) hl)).trans (dep_of (Fact := F_wchkf wr.heap.size W.heap.size q gb go kg la ak nk ck ng cg av nv cv) hd 12 (by kernel_rfl))
                            exact one_pick_f _ _ _ rfl rfl _ ec e ⟨_, rfl, Below.refl _ _, rfl⟩
                          · intro vs w' F hb hd hF hl hT
                            have e := ((hF 62).trans (look_at _ 62 13 _ _ (by kernel_rfl) (by kernel_rfl) hl)).trans (dep_of (Fact := F_wchkf wr.heap.size W.heap.size q gb go kg la ak nk ck ng cg av nv cv) hd 13 (by kernel_rfl))
                            exact one_move _ rfl (by first | exact Or.inl rfl | exact Or.inr rfl) ⟨_, rfl, Below.refl _ _, e⟩
                          · intro vs w' F hb hd hF hl hT
                            have eg := ((hF 63).trans (look_at _ 63 14 _ _ (by kernel_rfl) (by kernel_rfl) hl)).trans (dep_of (Fact := F_wchkf wr.heap.size W.heap.size q gb go kg la ak nk ck ng cg av nv cv) hd 14 (by kernel_rfl))
                            refine wpList_on rfl (t := 63) (by kernel_rfl) eg ?_
                            have e := (hF 8).trans (look_out _ 8 _ _ (by kernel_rfl))
                            exact one_field _ _ _ rfl rfl _ _ e (0) (fun w => by kernel_rfl) ⟨_, rfl, Below.refl _ _, rfl⟩
                          · intro vs w' F hb hd hF hl hT
                            have eg := ((hF 63).trans (look_at _ 63 14 _ _ (by kernel_rfl) (by kernel_rfl) hl)).trans (dep_of (Fact := F_wchkf wr.heap.size W.heap.size q gb go kg la ak nk ck ng cg av nv cv) hd 14 (by kernel_rfl))
                            refine wpList_on rfl (t := 63) (by kernel_rfl) eg ?_
                            have e := ((hF 64).trans (look_at _ 64 15 _ _ (by kernel_rfl) (by kernel_rfl) hl)).trans (dep_of (Fact := F_wchkf wr.heap.size W.heap.size q gb go kg la ak nk ck ng cg av nv cv) hd 15 (by kernel_rfl))
                            exact one_field _ _ _ rfl rfl _ _ e (1) (fun w => by kernel_rfl) ⟨_, rfl, Below.refl _ _, rfl⟩
                          · intro vs w' F hb hd hF hl hT
                            have eg := ((hF 63).trans (look_at _ 63 14 _ _ (by kernel_rfl) (by kernel_rfl) hl)).trans (dep_of (Fact := F_wchkf wr.heap.size W.heap.size q gb go kg la ak nk ck ng cg av nv cv) hd 14 (by kernel_rfl))
                            refine wpList_on rfl (t := 63) (by kernel_rfl) eg ?_
                            have e := ((hF 65).trans (look_at _ 65 16 _ _ (by kernel_rfl) (by kernel_rfl) hl)).trans (dep_of (Fact := F_wchkf wr.heap.size W.heap.size q gb go kg la ak nk ck ng cg av nv cv) hd 16 (by kernel_rfl))
                            exact one_load _ _ rfl rfl _ _ e (cell_abides Q1.out hb) (by kernel_rfl) ⟨_, rfl, Below.refl _ _, rfl⟩
                          · intro vs w' F hb hd hF hl hT
                            have eg := ((hF 63).trans (look_at _ 63 14 _ _ (by kernel_rfl) (by kernel_rfl) hl)).trans (dep_of (Fact := F_wchkf wr.heap.size W.heap.size q gb go kg la ak nk ck ng cg av nv cv) hd 14 (by kernel_rfl))
                            refine wpList_on rfl (t := 63) (by kernel_rfl) eg ?_
                            have e := (hF 1).trans (look_out _ 1 _ _ (by kernel_rfl))
                            exact one_field _ _ _ rfl rfl _ _ e (1) (fun w => by kernel_rfl) ⟨_, rfl, Below.refl _ _, rfl⟩
                          · intro vs w' F hb hd hF hl hT
                            have eg := ((hF 63).trans (look_at _ 63 14 _ _ (by kernel_rfl) (by kernel_rfl) hl)).trans (dep_of (Fact := F_wchkf wr.heap.size W.heap.size q gb go kg la ak nk ck ng cg av nv cv) hd 14 (by kernel_rfl))
                            refine wpList_on rfl (t := 63) (by kernel_rfl) eg ?_
                            have e := ((hF 67).trans (look_at _ 67 18 _ _ (by kernel_rfl) (by kernel_rfl) hl)).trans (dep_of (Fact := F_wchkf wr.heap.size W.heap.size q gb go kg la ak nk ck ng cg av nv cv) hd 18 (by kernel_rfl))
                            exact one_load _ _ rfl rfl _ _ e (cell_abides Z1.out hb) (by kernel_rfl) ⟨_, rfl, Below.refl _ _, rfl⟩
                          · intro vs w' F hb hd hF hl hT
                            have eg := ((hF 63).trans (look_at _ 63 14 _ _ (by kernel_rfl) (by kernel_rfl) hl)).trans (dep_of (Fact := F_wchkf wr.heap.size W.heap.size q gb go kg la ak nk ck ng cg av nv cv) hd 14 (by kernel_rfl))
                            refine wpList_on rfl (t := 63) (by kernel_rfl) eg ?_
                            have e := (hF 8).trans (look_out _ 8 _ _ (by kernel_rfl))
                            exact one_field _ _ _ rfl rfl _ _ e (0) (fun w => by kernel_rfl) ⟨_, rfl, Below.refl _ _, rfl⟩
                          · intro vs w' F hb hd hF hl hT
                            have eg := ((hF 63).trans (look_at _ 63 14 _ _ (by kernel_rfl) (by kernel_rfl) hl)).trans (dep_of (Fact := F_wchkf wr.heap.size W.heap.size q gb go kg la ak nk ck ng cg av nv cv) hd 14 (by kernel_rfl))
                            refine wpList_on rfl (t := 63) (by kernel_rfl) eg ?_
                            have e := ((hF 69).trans (look_at _ 69 20 _ _ (by kernel_rfl) (by kernel_rfl) hl)).trans (dep_of (Fact := F_wchkf wr.heap.size W.heap.size q gb go kg la ak nk ck ng cg av nv cv) hd 20 (by kernel_rfl))
                            exact one_field _ _ _ rfl rfl _ _ e (0) (fun w => by kernel_rfl) ⟨_, rfl, Below.refl _ _, rfl⟩
                          · intro vs w' F hb hd hF hl hT
                            have eg := ((hF 63).trans (look_at _ 63 14 _ _ (by kernel_rfl) (by kernel_rfl) hl)).trans (dep_of (Fact := F_wchkf wr.heap.size W.heap.size q gb go kg la ak nk ck ng cg av nv cv) hd 14 (by kernel_rfl))
                            refine wpList_on rfl (t := 63) (by kernel_rfl) eg ?_
                            have e := ((hF 70).trans (look_at _ 70 21 _ _ (by kernel_rfl) (by kernel_rfl) hl)).trans (dep_of (Fact := F_wchkf wr.heap.size W.heap.size q gb go kg la ak nk ck ng cg av nv cv) hd 21 (by kernel_rfl))
                            exact one_load _ _ rfl rfl _ _ e (cell_abides Q0.out hb) (by kernel_rfl) ⟨_, rfl, Below.refl _ _, rfl⟩
                          · intro vs w' F hb hd hF hl hT
                            have eg := ((hF 63).trans (look_at _ 63 14 _ _ (by kernel_rfl) (by kernel_rfl) hl)).trans (dep_of (Fact := F_wchkf wr.heap.size W.heap.size q gb go kg la ak nk ck ng cg av nv cv) hd 14 (by kernel_rfl))
                            refine wpList_on rfl (t := 63) (by kernel_rfl) eg ?_
                            have ex := ((hF 68).trans (look_at _ 68 19 _ _ (by kernel_rfl) (by kernel_rfl) hl)).trans (dep_of (Fact := F_wchkf wr.heap.size W.heap.size q gb go kg la ak nk ck ng cg av nv cv) hd 19 (by kernel_rfl))
                            have ey := ((hF 71).trans (look_at _ 71 22 _ _ (by kernel_rfl) (by kernel_rfl) hl)).trans (dep_of (Fact := F_wchkf wr.heap.size W.heap.size q gb go kg la ak nk ck ng cg av nv cv) hd 22 (by kernel_rfl))
                            exact one_index 22 _ _ rfl rfl (.slice (some ⟨gb, go, none⟩) ng cg) (.int .i64 (q : Int)) (.pointer (some ⟨gb, go + q * 1, none⟩)) ex ey (fun w => rg_idx Try.underlying22 (show (Try.prog.info? 3).map (·.size) = some 1 by kernel_rfl) (gb) (go) (ng) (cg) (q) (by omega) w) ⟨_, rfl, Below.refl _ _, rfl⟩
                          · intro vs w' F hb hd hF hl hT
                            have eg := ((hF 63).trans (look_at _ 63 14 _ _ (by kernel_rfl) (by kernel_rfl) hl)).trans (dep_of (Fact := F_wchkf wr.heap.size W.heap.size q gb go kg la ak nk ck ng cg av nv cv) hd 14 (by kernel_rfl))
                            refine wpList_on rfl (t := 63) (by kernel_rfl) eg ?_
                            have e := ((hF 72).trans (look_at _ 72 23 _ _ (by kernel_rfl) (by kernel_rfl) hl)).trans (dep_of (Fact := F_wchkf wr.heap.size W.heap.size q gb go kg la ak nk ck ng cg av nv cv) hd 23 (by kernel_rfl))
                            exact one_load _ _ rfl rfl _ _ e (cell_abides HCG.out hb) (by kernel_rfl) ⟨_, rfl, Below.refl _ _, rfl⟩
                          · intro vs w' F hb hd hF hl hT
                            have eg := ((hF 63).trans (look_at _ 63 14 _ _ (by kernel_rfl) (by kernel_rfl) hl)).trans (dep_of (Fact := F_wchkf wr.heap.size W.heap.size q gb go kg la ak nk ck ng cg av nv cv) hd 14 (by kernel_rfl))
                            refine wpList_on rfl (t := 63) (by kernel_rfl) eg ?_
                            have e1 := ((hF 66).trans (look_at _ 66 17 _ _ (by kernel_rfl) (by kernel_rfl) hl)).trans (dep_of (Fact := F_wchkf wr.heap.size W.heap.size q gb go kg la ak nk ck ng cg av nv cv) hd 17 (by kernel_rfl))
                            have e2 := ((hF 73).trans (look_at _ 73 24 _ _ (by kernel_rfl) (by kernel_rfl) hl)).trans (dep_of (Fact := F_wchkf wr.heap.size W.heap.size q gb go kg la ak nk ck ng cg av nv cv) hd 24 (by kernel_rfl))
                            exact rg_neq _ _ _ _ rfl rfl .i64 (kg) (kg) false e1 e2 (decide_eq_false (by omega)) ⟨_, rfl, Below.refl _ _, rfl⟩
                          · intro vs w' F hb hd hF hl hT
                            have ec := ((hF 63).trans (look_at _ 63 14 _ _ (by kernel_rfl) (by kernel_rfl) hl)).trans (dep_of (Fact := F_wchkf wr.heap.size W.heap.size q gb go kg la ak nk ck ng cg av nv cv) hd 14 (by kernel_rfl))
                            have e := ((hF 74).trans (look_at _ 74 25 _ _ (by kernel_rfl) (by kernel_rfl) hl)).trans (dep_of (Fact := F_wchkf wr.heap.size W.heap.size q gb go kg la ak nk ck ng cg av nv cv) hd 25 (by kernel_rfl))
                            exact one_pick_f _ _ _ rfl rfl _ ec e ⟨_, rfl, Below.refl _ _, rfl⟩
                          · intro vs w' F hb hd hF hl hT
                            have e := ((hF 75).trans (look_at _ 75 26 _ _ (by kernel_rfl) (by kernel_rfl) hl)).trans (dep_of (Fact := F_wchkf wr.heap.size W.heap.size q gb go kg la ak nk ck ng cg av nv cv) hd 26 (by kernel_rfl))
                            exact one_move _ rfl (by first | exact Or.inl rfl | exact Or.inr rfl) ⟨_, rfl, Below.refl _ _, e⟩
                          · intro vs w' F hb hd hF hl hT
                            have eg := ((hF 76).trans (look_at _ 76 27 _ _ (by kernel_rfl) (by kernel_rfl) hl)).trans (dep_of (Fact := F_wchkf wr.heap.size W.heap.size q gb go kg la ak nk ck ng cg av nv cv) hd 27 (by kernel_rfl))
                            refine wpList_on rfl (t := 76) (by kernel_rfl) eg ?_
                            have e := (hF 8).trans (look_out _ 8 _ _ (by kernel_rfl))
                            exact one_field _ _ _ rfl rfl _ _ e (0) (fun w => by kernel_rfl) ⟨_, rfl, Below.refl _ _, rfl⟩
                          · intro vs w' F hb hd hF hl hT
                            have eg := ((hF 76).trans (look_at _ 76 27 _ _ (by kernel_rfl) (by kernel_rfl) hl)).trans (dep_of (Fact := F_wchkf wr.heap.size W.heap.size q gb go kg la ak nk ck ng cg av nv cv) hd 27 (by kernel_rfl))
                            refine wpList_on rfl (t := 76) (by kernel_rfl) eg ?_
                            have e := ((hF 77).trans (look_at _ 77 28 _ _ (by kernel_rfl) (by kernel_rfl) hl)).trans (dep_of (Fact := F_wchkf wr.heap.size W.heap.size q gb go kg la ak nk ck ng cg av nv cv) hd 28 (by kernel_rfl))
                            exact one_field _ _ _ rfl rfl _ _ e (1) (fun w => by kernel_rfl) ⟨_, rfl, Below.refl _ _, rfl⟩
                          · intro vs w' F hb hd hF hl hT
                            have eg := ((hF 76).trans (look_at _ 76 27 _ _ (by kernel_rfl) (by kernel_rfl) hl)).trans (dep_of (Fact := F_wchkf wr.heap.size W.heap.size q gb go kg la ak nk ck ng cg av nv cv) hd 27 (by kernel_rfl))
                            refine wpList_on rfl (t := 76) (by kernel_rfl) eg ?_
                            have e := ((hF 78).trans (look_at _ 78 29 _ _ (by kernel_rfl) (by kernel_rfl) hl)).trans (dep_of (Fact := F_wchkf wr.heap.size W.heap.size q gb go kg la ak nk ck ng cg av nv cv) hd 29 (by kernel_rfl))
                            exact one_load _ _ rfl rfl _ _ e (cell_abides Q1.out hb) (by kernel_rfl) ⟨_, rfl, Below.refl _ _, rfl⟩
                          · intro vs w' F hb hd hF hl hT
                            have eg := ((hF 76).trans (look_at _ 76 27 _ _ (by kernel_rfl) (by kernel_rfl) hl)).trans (dep_of (Fact := F_wchkf wr.heap.size W.heap.size q gb go kg la ak nk ck ng cg av nv cv) hd 27 (by kernel_rfl))
                            refine wpList_on rfl (t := 76) (by kernel_rfl) eg ?_
                            have e1 := ((hF 79).trans (look_at _ 79 30 _ _ (by kernel_rfl) (by kernel_rfl) hl)).trans (dep_of (Fact := F_wchkf wr.heap.size W.heap.size q gb go kg la ak nk ck ng cg av nv cv) hd 30 (by kernel_rfl))
                            exact rg_eql _ _ _ _ rfl rfl .i64 (kg) (1073741824) false e1 rfl (decide_eq_false (by omega)) ⟨_, rfl, Below.refl _ _, rfl⟩
                          · intro vs w' F hb hd hF hl hT
                            have ec := ((hF 76).trans (look_at _ 76 27 _ _ (by kernel_rfl) (by kernel_rfl) hl)).trans (dep_of (Fact := F_wchkf wr.heap.size W.heap.size q gb go kg la ak nk ck ng cg av nv cv) hd 27 (by kernel_rfl))
                            have e := ((hF 80).trans (look_at _ 80 31 _ _ (by kernel_rfl) (by kernel_rfl) hl)).trans (dep_of (Fact := F_wchkf wr.heap.size W.heap.size q gb go kg la ak nk ck ng cg av nv cv) hd 31 (by kernel_rfl))
                            exact one_pick_f _ _ _ rfl rfl _ ec e ⟨_, rfl, Below.refl _ _, rfl⟩
                          · intro vs w' F hb hd hF hl hT
                            have e := ((hF 81).trans (look_at _ 81 32 _ _ (by kernel_rfl) (by kernel_rfl) hl)).trans (dep_of (Fact := F_wchkf wr.heap.size W.heap.size q gb go kg la ak nk ck ng cg av nv cv) hd 32 (by kernel_rfl))
                            exact one_move _ rfl (by first | exact Or.inl rfl | exact Or.inr rfl) ⟨_, rfl, Below.refl _ _, e⟩
                          · intro vs w' F hb hd hF hl hT
                            have eg := ((hF 82).trans (look_at _ 82 33 _ _ (by kernel_rfl) (by kernel_rfl) hl)).trans (dep_of (Fact := F_wchkf wr.heap.size W.heap.size q gb go kg la ak nk ck ng cg av nv cv) hd 33 (by kernel_rfl))
                            refine wpList_on rfl (t := 82) (by kernel_rfl) eg ?_
                            have e := (hF 1).trans (look_out _ 1 _ _ (by kernel_rfl))
                            exact one_field _ _ _ rfl rfl _ _ e (0) (fun w => by kernel_rfl) ⟨_, rfl, Below.refl _ _, rfl⟩
                          · intro vs w' F hb hd hF hl hT
                            have eg := ((hF 82).trans (look_at _ 82 33 _ _ (by kernel_rfl) (by kernel_rfl) hl)).trans (dep_of (Fact := F_wchkf wr.heap.size W.heap.size q gb go kg la ak nk ck ng cg av nv cv) hd 33 (by kernel_rfl))
                            refine wpList_on rfl (t := 82) (by kernel_rfl) eg ?_
                            have e := ((hF 83).trans (look_at _ 83 34 _ _ (by kernel_rfl) (by kernel_rfl) hl)).trans (dep_of (Fact := F_wchkf wr.heap.size W.heap.size q gb go kg la ak nk ck ng cg av nv cv) hd 34 (by kernel_rfl))
                            exact one_load _ _ rfl rfl _ _ e (cell_abides Z0.out hb) (by kernel_rfl) ⟨_, rfl, Below.refl _ _, rfl⟩
                          · intro vs w' F hb hd hF hl hT
                            have eg := ((hF 82).trans (look_at _ 82 33 _ _ (by kernel_rfl) (by kernel_rfl) hl)).trans (dep_of (Fact := F_wchkf wr.heap.size W.heap.size q gb go kg la ak nk ck ng cg av nv cv) hd 33 (by kernel_rfl))
                            refine wpList_on rfl (t := 82) (by kernel_rfl) eg ?_
                            have e := (hF 8).trans (look_out _ 8 _ _ (by kernel_rfl))
                            exact one_field _ _ _ rfl rfl _ _ e (2) (fun w => by kernel_rfl) ⟨_, rfl, Below.refl _ _, rfl⟩
                          · intro vs w' F hb hd hF hl hT
                            have eg := ((hF 82).trans (look_at _ 82 33 _ _ (by kernel_rfl) (by kernel_rfl) hl)).trans (dep_of (Fact := F_wchkf wr.heap.size W.heap.size q gb go kg la ak nk ck ng cg av nv cv) hd 33 (by kernel_rfl))
                            refine wpList_on rfl (t := 82) (by kernel_rfl) eg ?_
                            have e := ((hF 85).trans (look_at _ 85 36 _ _ (by kernel_rfl) (by kernel_rfl) hl)).trans (dep_of (Fact := F_wchkf wr.heap.size W.heap.size q gb go kg la ak nk ck ng cg av nv cv) hd 36 (by kernel_rfl))
                            exact one_load _ _ rfl rfl _ _ e (cell_abides Q2.out hb) (by kernel_rfl) ⟨_, rfl, Below.refl _ _, rfl⟩
                          · intro vs w' F hb hd hF hl hT
                            have eg := ((hF 82).trans (look_at _ 82 33 _ _ (by kernel_rfl) (by kernel_rfl) hl)).trans (dep_of (Fact := F_wchkf wr.heap.size W.heap.size q gb go kg la ak nk ck ng cg av nv cv) hd 33 (by kernel_rfl))
                            refine wpList_on rfl (t := 82) (by kernel_rfl) eg ?_
                            have ea0 := ((hF 84).trans (look_at _ 84 35 _ _ (by kernel_rfl) (by kernel_rfl) hl)).trans (dep_of (Fact := F_wchkf wr.heap.size W.heap.size q gb go kg la ak nk ck ng cg av nv cv) hd 35 (by kernel_rfl))
                            have ea1 := ((hF 86).trans (look_at _ 86 37 _ _ (by kernel_rfl) (by kernel_rfl) hl)).trans (dep_of (Fact := F_wchkf wr.heap.size W.heap.size q gb go kg la ak nk ck ng cg av nv cv) hd 37 (by kernel_rfl))
                            refine one_call _ _ rfl rfl (enters_of Try.func52 (by kernel_rfl) rfl) #[.slice ak nk ck, .slice av nv cv] (eval2 ea0 ea1) ?_
                            refine (CC.out w' hb).mono ?_
                            rintro e2 w2 ⟨rfl, hb2⟩
                            exact ⟨_, rfl, _, rfl, hb2, rfl⟩
                          · intro vs w' F hb hd hF hl hT
                            have eg := ((hF 82).trans (look_at _ 82 33 _ _ (by kernel_rfl) (by kernel_rfl) hl)).trans (dep_of (Fact := F_wchkf wr.heap.size W.heap.size q gb go kg la ak nk ck ng cg av nv cv) hd 33 (by kernel_rfl))
                            refine wpList_on rfl (t := 82) (by kernel_rfl) eg ?_
                            have e := ((hF 87).trans (look_at _ 87 38 _ _ (by kernel_rfl) (by kernel_rfl) hl)).trans (dep_of (Fact := F_wchkf wr.heap.size W.heap.size q gb go kg la ak nk ck ng cg av nv cv) hd 38 (by kernel_rfl))
                            exact one_not _ _ rfl rfl _ false e rfl ⟨_, rfl, Below.refl _ _, rfl⟩
                          · intro vs w' F hb hd hF hl hT
                            have ec := ((hF 82).trans (look_at _ 82 33 _ _ (by kernel_rfl) (by kernel_rfl) hl)).trans (dep_of (Fact := F_wchkf wr.heap.size W.heap.size q gb go kg la ak nk ck ng cg av nv cv) hd 33 (by kernel_rfl))
                            have e := ((hF 88).trans (look_at _ 88 39 _ _ (by kernel_rfl) (by kernel_rfl) hl)).trans (dep_of (Fact := F_wchkf wr.heap.size W.heap.size q gb go kg la ak nk ck ng cg av nv cv) hd 39 (by kernel_rfl))
                            exact one_pick_f _ _ _ rfl rfl _ ec e ⟨_, rfl, Below.refl _ _, rfl⟩
                        · intro vs8 W8 hl hb hI
                          have hv : vs8.getD 40 undef = .bool false := hI 40 (by omega)
                          obtain ⟨x0, x1, x2, x3, x4, x5, x6, x7, x8, x9, x10, x11, x12, x13, x14, x15, x16, x17, x18, x19, x20, x21, x22, x23, x24, x25, x26, x27, x28, x29, x30, x31, x32, x33, x34, x35, x36, x37, x38, x39, x40, hvs⟩ := list41 hl
                          subst hvs
                          replace hv : x40 = .bool false := hv
                          subst hv
                          clear hI hl
                          simp only [fillAll, Act.put, List.setIfInBounds_toArray, List.set_cons_succ, List.set_cons_zero]
                          show wpList _ _ _ [] _ _
                          have c0 := cell_abides Q0.out hb
                          have HB8 := bt HB.out hb
                          have HBX8 := heap_below HBX2.out hb
                          clear hb
                          go_wp2
                          go_roundg (ni - (i + 1))
                          case measure => rw [I2.out]; omega
                          case rel => exact ⟨i + 1, hi, rfl, by go_num, by rw [HLS.out], HS4.out, HBX8, HB8⟩
                  · have hr := HRT.out _ (by rw [HS2.out, decide_eq_false hC, Bool.false_and]) rfl
                    have HR := Lib.hid hr
                    clear hr
                    go_wp2_with fail
                    refine wp_region_facts_t rfl 41 (by kernel_rfl) (F_wchkc wr.heap.size W.heap.size q gb go kg gq la ak nk ck ng cg av nv cv) (F_wchkc_mono wr.heap.size W.heap.size q gb go kg gq la ak nk ck ng cg av nv cv) ?_ ?_
                    · refine ⟨?_, ?_, ?_, ?_, ?_, ?_, ?_, ?_, ?_, ?_, ?_, ?_, ?_, ?_, ?_, ?_, ?_, ?_, ?_, ?_, ?_, ?_, ?_, ?_, ?_, ?_, ?_, ?_, ?_, ?_, ?_, ?_, ?_, ?_, ?_, ?_, ?_, ?_, ?_, ?_, ?_, trivial⟩
                      · intro vs w' F hb hd hF hl hT
                        have e := (hF 8).trans (look_out _ 8 _ _ (by kernel_rfl))
                        exact one_field _ _ _ rfl rfl _ _ e (0) (fun w => by kernel_rfl) ⟨_, rfl, Below.refl _ _, rfl⟩
                      · intro vs w' F hb hd hF hl hT
                        have e := ((hF 49).trans (look_at _ 49 0 _ _ (by kernel_rfl) (by kernel_rfl) hl)).trans (dep_of (Fact := F_wchkc wr.heap.size W.heap.size q gb go kg gq la ak nk ck ng cg av nv cv) hd 0 (by kernel_rfl))
                        exact one_field _ _ _ rfl rfl _ _ e (0) (fun w => by kernel_rfl) ⟨_, rfl, Below.refl _ _, rfl⟩
                      · intro vs w' F hb hd hF hl hT
                        have e := ((hF 50).trans (look_at _ 50 1 _ _ (by kernel_rfl) (by kernel_rfl) hl)).trans (dep_of (Fact := F_wchkc wr.heap.size W.heap.size q gb go kg gq la ak nk ck ng cg av nv cv) hd 1 (by kernel_rfl))
                        exact one_load _ _ rfl rfl _ _ e (cell_abides Q0.out hb) (by kernel_rfl) ⟨_, rfl, Below.refl _ _, rfl⟩
                      · intro vs w' F hb hd hF hl hT
                        have e := (hF 6).trans (look_out _ 6 _ _ (by kernel_rfl))
                        exact one_move _ rfl (by first | exact Or.inl rfl | exact Or.inr rfl) ⟨_, rfl, Below.refl _ _, e⟩
                      · intro vs w' F hb hd hF hl hT
                        have e1 := ((hF 51).trans (look_at _ 51 2 _ _ (by kernel_rfl) (by kernel_rfl) hl)).trans (dep_of (Fact := F_wchkc wr.heap.size W.heap.size q gb go kg gq la ak nk ck ng cg av nv cv) hd 2 (by kernel_rfl))
                        have e2 := ((hF 52).trans (look_at _ 52 3 _ _ (by kernel_rfl) (by kernel_rfl) hl)).trans (dep_of (Fact := F_wchkc wr.heap.size W.heap.size q gb go kg gq la ak nk ck ng cg av nv cv) hd 3 (by kernel_rfl))
                        exact rg_leq _ _ _ _ rfl rfl .i64 ((q : Int)) (la) false e1 e2 (decide_eq_false (by omega)) ⟨_, rfl, Below.refl _ _, rfl⟩
                      · intro vs w' F hb hd hF hl hT
                        have e := ((hF 53).trans (look_at _ 53 4 _ _ (by kernel_rfl) (by kernel_rfl) hl)).trans (dep_of (Fact := F_wchkc wr.heap.size W.heap.size q gb go kg gq la ak nk ck ng cg av nv cv) hd 4 (by kernel_rfl))
                        exact one_move _ rfl (by first | exact Or.inl rfl | exact Or.inr rfl) ⟨_, rfl, Below.refl _ _, e⟩
                      · intro vs w' F hb hd hF hl hT
                        have eg := ((hF 54).trans (look_at _ 54 5 _ _ (by kernel_rfl) (by kernel_rfl) hl)).trans (dep_of (Fact := F_wchkc wr.heap.size W.heap.size q gb go kg gq la ak nk ck ng cg av nv cv) hd 5 (by kernel_rfl))
                        refine wpList_on rfl (t := 54) (by kernel_rfl) eg ?_
                        have e := (hF 8).trans (look_out _ 8 _ _ (by kernel_rfl))
                        exact one_field _ _ _ rfl rfl _ _ e (0) (fun w => by kernel_rfl) ⟨_, rfl, Below.refl _ _, rfl⟩
                      · intro vs w' F hb hd hF hl hT
                        have eg := ((hF 54).trans (look_at _ 54 5 _ _ (by kernel_rfl) (by kernel_rfl) hl)).trans (dep_of (Fact := F_wchkc wr.heap.size W.heap.size q gb go kg gq la ak nk ck ng cg av nv cv) hd 5 (by kernel_rfl))
                        refine wpList_on rfl (t := 54) (by kernel_rfl) eg ?_
                        have e := ((hF 55).trans (look_at _ 55 6 _ _ (by kernel_rfl) (by kernel_rfl) hl)).trans (dep_of (Fact := F_wchkc wr.heap.size W.heap.size q gb go kg gq la ak nk ck ng cg av nv cv) hd 6 (by kernel_rfl))
                        exact one_field _ _ _ rfl rfl _ _ e (0) (fun w => by kernel_rfl) ⟨_, rfl, Below.refl _ _, rfl⟩
                      · intro vs w' F hb hd hF hl hT
                        have eg := ((hF 54).trans (look_at _ 54 5 _ _ (by kernel_rfl) (by kernel_rfl) hl)).trans (dep_of (Fact := F_wchkc wr.heap.size W.heap.size q gb go kg gq la ak nk ck ng cg av nv cv) hd 5 (by kernel_rfl))
                        refine wpList_on rfl (t := 54) (by kernel_rfl) eg ?_
                        have e := ((hF 56).trans (look_at _ 56 7 _ _ (by kernel_rfl) (by kernel_rfl) hl)).trans (dep_of (Fact := F_wchkc wr.heap.size W.heap.size q gb go kg gq la ak nk ck ng cg av nv cv) hd 7 (by kernel_rfl))
                        exact one_load _ _ rfl rfl _ _ e (cell_abides Q0.out hb) (by kernel_rfl) ⟨_, rfl, Below.refl _ _, rfl⟩
                      · intro vs w' F hb hd hF hl hT
                        have eg := ((hF 54).trans (look_at _ 54 5 _ _ (by kernel_rfl) (by kernel_rfl) hl)).trans (dep_of (Fact := F_wchkc wr.heap.size W.heap.size q gb go kg gq la ak nk ck ng cg av nv cv) hd 5 (by kernel_rfl))
                        refine wpList_on rfl (t := 54) (by kernel_rfl) eg ?_
                        have e := (hF 1).trans (look_out _ 1 _ _ (by kernel_rfl))
                        exact one_field _ _ _ rfl rfl _ _ e (1) (fun w => by kernel_rfl) ⟨_, rfl, Below.refl _ _, rfl⟩
                      · intro vs w' F hb hd hF hl hT
                        have eg := ((hF 54).trans (look_at _ 54 5 _ _ (by kernel_rfl) (by kernel_rfl) hl)).trans (dep_of (Fact := F_wchkc wr.heap.size W.heap.size q gb go kg gq la ak nk ck ng cg av nv cv) hd 5 (by kernel_rfl))
                        refine wpList_on rfl (t := 54) (by kernel_rfl) eg ?_
                        have e := ((hF 58).trans (look_at _ 58 9 _ _ (by kernel_rfl) (by kernel_rfl) hl)).trans (dep_of (Fact := F_wchkc wr.heap.size W.heap.size q gb go kg gq la ak nk ck ng cg av nv cv) hd 9 (by kernel_rfl))
                        exact one_load _ _ rfl rfl _ _ e (cell_abides Z1.out hb) (by kernel_rfl) ⟨_, rfl, Below.refl _ _, rfl⟩
                      · intro vs w' F hb hd hF hl hT
                        have eg := ((hF 54).trans (look_at _ 54 5 _ _ (by kernel_rfl) (by kernel_rfl) hl)).trans (dep_of (Fact := F_wchkc wr.heap.size W.heap.size q gb go kg gq la ak nk ck ng cg av nv cv) hd 5 (by kernel_rfl))
                        refine wpList_on rfl (t := 54) (by kernel_rfl) eg ?_
                        have e := ((hF 59).trans (look_at _ 59 10 _ _ (by kernel_rfl) (by kernel_rfl) hl)).trans (dep_of (Fact := F_wchkc wr.heap.size W.heap.size q gb go kg gq la ak nk ck ng cg av nv cv) hd 10 (by kernel_rfl))
                        exact rg_len _ 22 3 rfl rfl Try.underlying22 (some ⟨gb, go, none⟩) (ng) (cg) e ⟨_, rfl, Below.refl _ _, rfl⟩
                      · intro vs w' F hb hd hF hl hT
                        have eg := ((hF 54).trans (look_at _ 54 5 _ _ (by kernel_rfl) (by kernel_rfl) hl)).trans (dep_of (Fact := F_wchkc wr.heap.size W.heap.size q gb go kg gq la ak nk ck ng cg av nv cv) hd 5 (by kernel_rfl))
                        refine wpList_on rfl (t := 54) (by kernel_rfl) eg ?_
                        have e1 := ((hF 57).trans (look_at _ 57 8 _ _ (by kernel_rfl) (by kernel_rfl) hl)).trans (dep_of (Fact := F_wchkc wr.heap.size W.heap.size q gb go kg gq la ak nk ck ng cg av nv cv) hd 8 (by kernel_rfl))
                        have e2 := ((hF 60).trans (look_at _ 60 11 _ _ (by kernel_rfl) (by kernel_rfl) hl)).trans (dep_of (Fact := F_wchkc wr.heap.size W.heap.size q gb go kg gq la ak nk ck ng cg av nv cv) hd 11 (by kernel_rfl))
                        exact rg_geq _ _ _ _ rfl rfl .i64 ((q : Int)) ((ng : Int)) false e1 e2 (decide_eq_false (by omega)) ⟨_, rfl, Below.refl _ _, rfl⟩
                      · intro vs w' F hb hd hF hl hT
                        have ec := ((hF 54).trans (look_at _ 54 5 _ _ (by kernel_rfl) (by kernel_rfl) hl)).trans (dep_of (Fact := F_wchkc wr.heap.size W.heap.size q gb go kg gq la ak nk ck ng cg av nv cv) hd 5 (by kernel_rfl))
                        have e := ((hF 61).trans (look_at _ 61 12 _ _ (by kernel_rfl) (by kernel_rfl) hl)).trans (dep_of (Fact := F_wchkc wr.heap.size W.heap.size q gb go kg gq la ak nk ck ng cg av nv cv) hd 12 (by kernel_rfl))
                        exact one_pick_f _ _ _ rfl rfl _ ec e ⟨_, rfl, Below.refl _ _, rfl⟩
                      · intro vs w' F hb hd hF hl hT
                        have e := ((hF 62).trans (look_at _ 62 13 _ _ (by kernel_rfl) (by kernel_rfl) hl)).trans (dep_of (Fact := F_wchkc wr.heap.size W.heap.size q gb go kg gq la ak nk ck ng cg av nv cv) hd 13 (by kernel_rfl))
                        exact one_move _ rfl (by first | exact Or.inl rfl | exact Or.inr rfl) ⟨_, rfl, Below.refl _ _, e⟩
                      · intro vs w' F hb hd hF hl hT
                        have eg := ((hF 63).trans (look_at _ 63 14 _ _ (by kernel_rfl) (by kernel_rfl) hl)).trans (dep_of (Fact := F_wchkc wr.heap.size W.heap.size q gb go kg gq la ak nk ck ng cg av nv cv) hd 14 (by kernel_rfl))
                        refine wpList_on rfl (t := 63) (by kernel_rfl) eg ?_
                        have e := (hF 8).trans (look_out _ 8 _ _ (by kernel_rfl))
                        exact one_field _ _ _ rfl rfl _ _ e (0) (fun w => by kernel_rfl) ⟨_, rfl, Below.refl _ _, rfl⟩
                      · intro vs w' F hb hd hF hl hT
                        have eg := ((hF 63).trans (look_at _ 63 14 _ _ (by kernel_rfl) (by kernel_rfl) hl)).trans (dep_of (Fact := F_wchkc wr.heap.size W.heap.size q gb go kg gq la ak nk ck ng cg av nv cv) hd 14 (by kernel_rfl))
                        refine wpList_on rfl (t := 63) (by kernel_rfl) eg ?_
                        have e := ((hF 64).trans (look_at _ 64 15 _ _ (by kernel_rfl) (by kernel_rfl) hl)).trans (dep_of (Fact := F_wchkc wr.heap.size W.heap.size q gb go kg gq la ak nk ck ng cg av nv cv) hd 15 (by kernel_rfl))
                        exact one_field _ _ _ rfl rfl _ _ e (1) (fun w => by kernel_rfl) ⟨_, rfl, Below.refl _ _, rfl⟩
                      · intro vs w' F hb hd hF hl hT
                        have eg := ((hF 63).trans (look_at _ 63 14 _ _ (by kernel_rfl) (by kernel_rfl) hl)).trans (dep_of (Fact := F_wchkc wr.heap.size W.heap.size q gb go kg gq la ak nk ck ng cg av nv cv) hd 14 (by kernel_rfl))
                        refine wpList_on rfl (t := 63) (by kernel_rfl) eg ?_
                        have e := ((hF 65).trans (look_at _ 65 16 _ _ (by kernel_rfl) (by kernel_rfl) hl)).trans (dep_of (Fact := F_wchkc wr.heap.size W.heap.size q gb go kg gq la ak nk ck ng cg av nv cv) hd 16 (by kernel_rfl))
                        exact one_load _ _ rfl rfl _ _ e (cell_abides Q1.out hb) (by kernel_rfl) ⟨_, rfl, Below.refl _ _, rfl⟩
                      · intro vs w' F hb hd hF hl hT
                        have eg := ((hF 63).trans (look_at _ 63 14 _ _ (by kernel_rfl) (by kernel_rfl) hl)).trans (dep_of (Fact := F_wchkc wr.heap.size W.heap.size q gb go kg gq la ak nk ck ng cg av nv cv) hd 14 (by kernel_rfl))
                        refine wpList_on rfl (t := 63) (by kernel_rfl) eg ?_
                        have e := (hF 1).trans (look_out _ 1 _ _ (by kernel_rfl))
                        exact one_field _ _ _ rfl rfl _ _ e (1) (fun w => by kernel_rfl) ⟨_, rfl, Below.refl _ _, rfl⟩
                      · intro vs w' F hb hd hF hl hT
                        have eg := ((hF 63).trans (look_at _ 63 14 _ _ (by kernel_rfl) (by kernel_rfl) hl)).trans (dep_of (Fact := F_wchkc wr.heap.size W.heap.size q gb go kg gq la ak nk ck ng cg av nv cv) hd 14 (by kernel_rfl))
                        refine wpList_on rfl (t := 63) (by kernel_rfl) eg ?_
                        have e := ((hF 67).trans (look_at _ 67 18 _ _ (by kernel_rfl) (by kernel_rfl) hl)).trans (dep_of (Fact := F_wchkc wr.heap.size W.heap.size q gb go kg gq la ak nk ck ng cg av nv cv) hd 18 (by kernel_rfl))
                        exact one_load _ _ rfl rfl _ _ e (cell_abides Z1.out hb) (by kernel_rfl) ⟨_, rfl, Below.refl _ _, rfl⟩
                      · intro vs w' F hb hd hF hl hT
                        have eg := ((hF 63).trans (look_at _ 63 14 _ _ (by kernel_rfl) (by kernel_rfl) hl)).trans (dep_of (Fact := F_wchkc wr.heap.size W.heap.size q gb go kg gq la ak nk ck ng cg av nv cv) hd 14 (by kernel_rfl))
                        refine wpList_on rfl (t := 63) (by kernel_rfl) eg ?_
                        have e := (hF 8).trans (look_out _ 8 _ _ (by kernel_rfl))
                        exact one_field _ _ _ rfl rfl _ _ e (0) (fun w => by kernel_rfl) ⟨_, rfl, Below.refl _ _, rfl⟩
                      · intro vs w' F hb hd hF hl hT
                        have eg := ((hF 63).trans (look_at _ 63 14 _ _ (by kernel_rfl) (by kernel_rfl) hl)).trans (dep_of (Fact := F_wchkc wr.heap.size W.heap.size q gb go kg gq la ak nk ck ng cg av nv cv) hd 14 (by kernel_rfl))
                        refine wpList_on rfl (t := 63) (by kernel_rfl) eg ?_
                        have e := ((hF 69).trans (look_at _ 69 20 _ _ (by kernel_rfl) (by kernel_rfl) hl)).trans (dep_of (Fact := F_wchkc wr.heap.size W.heap.size q gb go kg gq la ak nk ck ng cg av nv cv) hd 20 (by kernel_rfl))
                        exact one_field _ _ _ rfl rfl _ _ e (0) (fun w => by kernel_rfl) ⟨_, rfl, Below.refl _ _, rfl⟩
                      · intro vs w' F hb hd hF hl hT
                        have eg := ((hF 63).trans (look_at _ 63 14 _ _ (by kernel_rfl) (by kernel_rfl) hl)).trans (dep_of (Fact := F_wchkc wr.heap.size W.heap.size q gb go kg gq la ak nk ck ng cg av nv cv) hd 14 (by kernel_rfl))
                        refine wpList_on rfl (t := 63) (by kernel_rfl) eg ?_
                        have e := ((hF 70).trans (look_at _ 70 21 _ _ (by kernel_rfl) (by kernel_rfl) hl)).trans (dep_of (Fact := F_wchkc wr.heap.size W.heap.size q gb go kg gq la ak nk ck ng cg av nv cv) hd 21 (by kernel_rfl))
                        exact one_load _ _ rfl rfl _ _ e (cell_abides Q0.out hb) (by kernel_rfl) ⟨_, rfl, Below.refl _ _, rfl⟩
                      · intro vs w' F hb hd hF hl hT
                        have eg := ((hF 63).trans (look_at _ 63 14 _ _ (by kernel_rfl) (by kernel_rfl) hl)).trans (dep_of (Fact := F_wchkc wr.heap.size W.heap.size q gb go kg gq la ak nk ck ng cg av nv cv) hd 14 (by kernel_rfl))
                        refine wpList_on rfl (t := 63) (by kernel_rfl) eg ?_
                        have ex := ((hF 68).trans (look_at _ 68 19 _ _ (by kernel_rfl) (by kernel_rfl) hl)).trans (dep_of (Fact := F_wchkc wr.heap.size W.heap.size q gb go kg gq la ak nk ck ng cg av nv cv) hd 19 (by kernel_rfl))
                        have ey := ((hF 71).trans (look_at _ 71 22 _ _ (by kernel_rfl) (by kernel_rfl) hl)).trans (dep_of (Fact := F_wchkc wr.heap.size W.heap.size q gb go kg gq la ak nk ck ng cg av nv cv) hd 22 (by kernel_rfl))
                        exact one_index 22 _ _ rfl rfl (.slice (some ⟨gb, go, none⟩) ng cg) (.int .i64 (q : Int)) (.pointer (some ⟨gb, go + q * 1, none⟩)) ex ey (fun w => rg_idx Try.underlying22 (show (Try.prog.info? 3).map (·.size) = some 1 by kernel_rfl) (gb) (go) (ng) (cg) (q) (by omega) w) ⟨_, rfl, Below.refl _ _, rfl⟩
                      · intro vs w' F hb hd hF hl hT
                        have eg := ((hF 63).trans (look_at _ 63 14 _ _ (by kernel_rfl) (by kernel_rfl) hl)).trans (dep_of (Fact := F_wchkc wr.heap.size W.heap.size q gb go kg gq la ak nk ck ng cg av nv cv) hd 14 (by kernel_rfl))
                        refine wpList_on rfl (t := 63) (by kernel_rfl) eg ?_
                        have e := ((hF 72).trans (look_at _ 72 23 _ _ (by kernel_rfl) (by kernel_rfl) hl)).trans (dep_of (Fact := F_wchkc wr.heap.size W.heap.size q gb go kg gq la ak nk ck ng cg av nv cv) hd 23 (by kernel_rfl))
                        exact one_load _ _ rfl rfl _ _ e (cell_abides HCG.out hb) (by kernel_rfl) ⟨_, rfl, Below.refl _ _, rfl⟩
                      · intro vs w' F hb hd hF hl hT
                        have eg := ((hF 63).trans (look_at _ 63 14 _ _ (by kernel_rfl) (by kernel_rfl) hl)).trans (dep_of (Fact := F_wchkc wr.heap.size W.heap.size q gb go kg gq la ak nk ck ng cg av nv cv) hd 14 (by kernel_rfl))
                        refine wpList_on rfl (t := 63) (by kernel_rfl) eg ?_
                        have e1 := ((hF 66).trans (look_at _ 66 17 _ _ (by kernel_rfl) (by kernel_rfl) hl)).trans (dep_of (Fact := F_wchkc wr.heap.size W.heap.size q gb go kg gq la ak nk ck ng cg av nv cv) hd 17 (by kernel_rfl))
                        have e2 := ((hF 73).trans (look_at _ 73 24 _ _ (by kernel_rfl) (by kernel_rfl) hl)).trans (dep_of (Fact := F_wchkc wr.heap.size W.heap.size q gb go kg gq la ak nk ck ng cg av nv cv) hd 24 (by kernel_rfl))
                        exact rg_neq _ _ _ _ rfl rfl .i64 (kg) (gq) true e1 e2 (decide_eq_true (by omega)) ⟨_, rfl, Below.refl _ _, rfl⟩
                      · intro vs w' F hb hd hF hl hT
                        have ec := ((hF 63).trans (look_at _ 63 14 _ _ (by kernel_rfl) (by kernel_rfl) hl)).trans (dep_of (Fact := F_wchkc wr.heap.size W.heap.size q gb go kg gq la ak nk ck ng cg av nv cv) hd 14 (by kernel_rfl))
                        have e := ((hF 74).trans (look_at _ 74 25 _ _ (by kernel_rfl) (by kernel_rfl) hl)).trans (dep_of (Fact := F_wchkc wr.heap.size W.heap.size q gb go kg gq la ak nk ck ng cg av nv cv) hd 25 (by kernel_rfl))
                        exact one_pick_f _ _ _ rfl rfl _ ec e ⟨_, rfl, Below.refl _ _, rfl⟩
                      · intro vs w' F hb hd hF hl hT
                        have e := ((hF 75).trans (look_at _ 75 26 _ _ (by kernel_rfl) (by kernel_rfl) hl)).trans (dep_of (Fact := F_wchkc wr.heap.size W.heap.size q gb go kg gq la ak nk ck ng cg av nv cv) hd 26 (by kernel_rfl))
                        exact one_move _ rfl (by first | exact Or.inl rfl | exact Or.inr rfl) ⟨_, rfl, Below.refl _ _, e⟩
                      · intro vs w' F hb hd hF hl hT
                        have eg := ((hF 76).trans (look_at _ 76 27 _ _ (by kernel_rfl) (by kernel_rfl) hl)).trans (dep_of (Fact := F_wchkc wr.heap.size W.heap.size q gb go kg gq la ak nk ck ng cg av nv cv) hd 27 (by kernel_rfl))
                        exact wpList_off rfl (t := 76) (d := true) (by kernel_rfl) eg (by decide) ⟨_, rfl, Below.refl _ _, rfl⟩
                      · intro vs w' F hb hd hF hl hT
                        have eg := ((hF 76).trans (look_at _ 76 27 _ _ (by kernel_rfl) (by kernel_rfl) hl)).trans (dep_of (Fact := F_wchkc wr.heap.size W.heap.size q gb go kg gq la ak nk ck ng cg av nv cv) hd 27 (by kernel_rfl))
                        exact wpList_off rfl (t := 76) (d := true) (by kernel_rfl) eg (by decide) ⟨_, rfl, Below.refl _ _, rfl⟩
                      · intro vs w' F hb hd hF hl hT
                        have eg := ((hF 76).trans (look_at _ 76 27 _ _ (by kernel_rfl) (by kernel_rfl) hl)).trans (dep_of (Fact := F_wchkc wr.heap.size W.heap.size q gb go kg gq la ak nk ck ng cg av nv cv) hd 27 (by kernel_rfl))
                        exact wpList_off rfl (t := 76) (d := true) (by kernel_rfl) eg (by decide) ⟨_, rfl, Below.refl _ _, rfl⟩
                      · intro vs w' F hb hd hF hl hT
                        have eg := ((hF 76).trans (look_at _ 76 27 _ _ (by kernel_rfl) (by kernel_rfl) hl)).trans (dep_of (Fact := F_wchkc wr.heap.size W.heap.size q gb go kg gq la ak nk ck ng cg av nv cv) hd 27 (by kernel_rfl))
                        exact wpList_off rfl (t := 76) (d := true) (by kernel_rfl) eg (by decide) ⟨_, rfl, Below.refl _ _, rfl⟩
                      · intro vs w' F hb hd hF hl hT
                        have ec := ((hF 76).trans (look_at _ 76 27 _ _ (by kernel_rfl) (by kernel_rfl) hl)).trans (dep_of (Fact := F_wchkc wr.heap.size W.heap.size q gb go kg gq la ak nk ck ng cg av nv cv) hd 27 (by kernel_rfl))
                        exact one_pick_t _ _ _ rfl rfl _ ec rfl ⟨_, rfl, Below.refl _ _, rfl⟩
                      · intro vs w' F hb hd hF hl hT
                        have e := ((hF 81).trans (look_at _ 81 32 _ _ (by kernel_rfl) (by kernel_rfl) hl)).trans (dep_of (Fact := F_wchkc wr.heap.size W.heap.size q gb go kg gq la ak nk ck ng cg av nv cv) hd 32 (by kernel_rfl))
                        exact one_move _ rfl (by first | exact Or.inl rfl | exact Or.inr rfl) ⟨_, rfl, Below.refl _ _, e⟩
                      · intro vs w' F hb hd hF hl hT
                        have eg := ((hF 82).trans (look_at _ 82 33 _ _ (by kernel_rfl) (by kernel_rfl) hl)).trans (dep_of (Fact := F_wchkc wr.heap.size W.heap.size q gb go kg gq la ak nk ck ng cg av nv cv) hd 33 (by kernel_rfl))
                        exact wpList_off rfl (t := 82) (d := true) (by kernel_rfl) eg (by decide) ⟨_, rfl, Below.refl _ _, rfl⟩
                      · intro vs w' F hb hd hF hl hT
                        have eg := ((hF 82).trans (look_at _ 82 33 _ _ (by kernel_rfl) (by kernel_rfl) hl)).trans (dep_of (Fact := F_wchkc wr.heap.size W.heap.size q gb go kg gq la ak nk ck ng cg av nv cv) hd 33 (by kernel_rfl))
                        exact wpList_off rfl (t := 82) (d := true) (by kernel_rfl) eg (by decide) ⟨_, rfl, Below.refl _ _, rfl⟩
                      · intro vs w' F hb hd hF hl hT
                        have eg := ((hF 82).trans (look_at _ 82 33 _ _ (by kernel_rfl) (by kernel_rfl) hl)).trans (dep_of (Fact := F_wchkc wr.heap.size W.heap.size q gb go kg gq la ak nk ck ng cg av nv cv) hd 33 (by kernel_rfl))
                        exact wpList_off rfl (t := 82) (d := true) (by kernel_rfl) eg (by decide) ⟨_, rfl, Below.refl _ _, rfl⟩
                      · intro vs w' F hb hd hF hl hT
                        have eg := ((hF 82).trans (look_at _ 82 33 _ _ (by kernel_rfl) (by kernel_rfl) hl)).trans (dep_of (Fact := F_wchkc wr.heap.size W.heap.size q gb go kg gq la ak nk ck ng cg av nv cv) hd 33 (by kernel_rfl))
                        exact wpList_off rfl (t := 82) (d := true) (by kernel_rfl) eg (by decide) ⟨_, rfl, Below.refl _ _, rfl⟩
                      · intro vs w' F hb hd hF hl hT
                        have eg := ((hF 82).trans (look_at _ 82 33 _ _ (by kernel_rfl) (by kernel_rfl) hl)).trans (dep_of (Fact := F_wchkc wr.heap.size W.heap.size q gb go kg gq la ak nk ck ng cg av nv cv) hd 33 (by kernel_rfl))
                        exact wpList_off rfl (t := 82) (d := true) (by kernel_rfl) eg (by decide) ⟨_, rfl, Below.refl _ _, rfl⟩
                      · intro vs w' F hb hd hF hl hT
                        have eg := ((hF 82).trans (look_at _ 82 33 _ _ (by kernel_rfl) (by kernel_rfl) hl)).trans (dep_of (Fact := F_wchkc wr.heap.size W.heap.size q gb go kg gq la ak nk ck ng cg av nv cv) hd 33 (by kernel_rfl))
                        exact wpList_off rfl (t := 82) (d := true) (by kernel_rfl) eg (by decide) ⟨_, rfl, Below.refl _ _, rfl⟩
                      · intro vs w' F hb hd hF hl hT
                        have ec := ((hF 82).trans (look_at _ 82 33 _ _ (by kernel_rfl) (by kernel_rfl) hl)).trans (dep_of (Fact := F_wchkc wr.heap.size W.heap.size q gb go kg gq la ak nk ck ng cg av nv cv) hd 33 (by kernel_rfl))
                        exact one_pick_t _ _ _ rfl rfl _ ec rfl ⟨_, rfl, Below.refl _ _, rfl⟩
                    · intro vs8 W8 hl hb hI
                      have hv : vs8.getD 40 undef = .bool true := hI 40 (by omega)
                      obtain ⟨x0, x1, x2, x3, x4, x5, x6, x7, x8, x9, x10, x11, x12, x13, x14, x15, x16, x17, x18, x19, x20, x21, x22, x23, x24, x25, x26, x27, x28, x29, x30, x31, x32, x33, x34, x35, x36, x37, x38, x39, x40, hvs⟩ := list41 hl
                      subst hvs
                      replace hv : x40 = .bool true := hv
                      subst hv
                      clear hI hl
                      simp only [fillAll, Act.put, List.setIfInBounds_toArray, List.set_cons_succ, List.set_cons_zero]
                      show wpList _ _ _ [] _ _
                      go_wp2
                      go_ret
                      exact ⟨by rw [HR.out]; rfl, bt HB.out hb⟩
            · obtain rfl : ni = i := by omega
              have hr := F5.out HGE.out HIT.out
              have HR := Lib.hid hr
              clear hr
              go_wp2
              go_ret
              exact ⟨by rw [HR.out]; rfl, HB0.out⟩
  · have hr := F1.out hke
    have HR := Lib.hid hr
    clear hr
    go_wp2
    go_ret
    exact ⟨by rw [HR.out]; rfl, HB.out⟩
end Go.Proofs.Ytpilpkbblkhnaaa
end
