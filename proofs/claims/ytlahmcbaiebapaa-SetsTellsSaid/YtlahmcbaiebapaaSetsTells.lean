/- The law SetsTells. -/
import Derived.Test.YtlahmcbaiebapaaCollect
import Derived.Test.YtlahmcbaiebapaaSetCl
import Derived.Test.YtlahmcbaiebapaaConcatI
import Derived.Test.YtlahmcbaiebapaaEqI
import Derived.Deep.RegionHeld3
import Derived.Test.YtlahmcbaiebapaaRegSet
namespace Go.Proofs.Ytlahmcbaiebapaa
open Go.ChangeShapes Go.WideShapes Go.ChangeAt Go.RowKit Go.Mem Go.Sp
set_option linter.unusedVariables false
attribute [local go_sem] Oper.semAt_some

theorem mem_V {A : List Nat} {j : Nat} : ((j : Int) ∈ V A) ↔ j ∈ A := by
  unfold V
  constructor
  · intro h
    obtain ⟨x, hx, he⟩ := List.mem_map.1 h
    have : x = j := by omega
    rwa [← this]
  · intro h
    exact List.mem_map_of_mem h
theorem contains_V (A : List Nat) (j : Nat) : (V (els A)).contains (j : Int) = bit A j := by
  rw [Bool.eq_iff_iff, List.contains_iff_mem, mem_V, els_mem]
theorem set_with {A : List Nat} (h : Words A) (i : Int) : withN A i = setN (V (els A) ++ [i]) :=
  set_eq (with_canon h i) _ fun j hj => by
    rw [bit_with h i j hj, Bool.eq_iff_iff]
    simp [mem_V, els_mem]
theorem set_without {A : List Nat} (h : Words A) (i : Int) : joinN minus A (oneN i) = setN ((V (els A)).filter (fun n => n != i)) :=
  set_eq (joinN_canon bw_minus h (one_canon i).2.1) _ fun j hj => by
    rw [bit_join bw_minus h (one_canon i).2.1, bit_one i j hj, Bool.eq_iff_iff]
    simp [mem_V, els_mem, List.mem_filter]
theorem set_either {A B : List Nat} (h : Words A) (h2 : Words B) : joinN (· ||| ·) A B = setN ([V (els A), V (els B)].flatten) :=
  set_eq (joinN_canon bw_or h h2) _ fun j hj => by
    rw [bit_join bw_or h h2, Bool.eq_iff_iff]
    simp [mem_V, els_mem]
theorem set_both {A B : List Nat} (h : Words A) (h2 : Words B) : joinN (· &&& ·) A B = setN ((V (els A)).filter (fun k => decide (k ∈ V (els B)))) :=
  set_eq (joinN_canon bw_and h h2) _ fun j hj => by
    rw [bit_join bw_and h h2, Bool.eq_iff_iff]
    simp [mem_V, els_mem, List.mem_filter]
theorem set_minus {A B : List Nat} (h : Words A) (h2 : Words B) : joinN minus A B = setN ((V (els A)).filter (fun k => !decide (k ∈ V (els B)))) :=
  set_eq (joinN_canon bw_minus h h2) _ fun j hj => by
    rw [bit_join bw_minus h h2, Bool.eq_iff_iff]
    simp [mem_V, els_mem, List.mem_filter]
theorem has_contains (A : List Nat) (i : Int) : (decide (0 ≤ i) && bit A i.toNat) = decide (i ∈ V (els A)) := by
  by_cases h : 0 ≤ i
  · obtain ⟨j, rfl⟩ := Int.eq_ofNat_of_zero_le h
    rw [Bool.eq_iff_iff]
    simp [mem_V, els_mem]
  · rw [decide_eq_false h, Bool.false_and]
    refine (decide_eq_false fun h2 => ?_).symm
    obtain ⟨x, _, he⟩ := List.mem_map.1 h2
    omega
theorem of_begun : ofN [64, 1] = [2, 1] := by rw [of_eq]; decide +kernel
/-- What the walk carries: the box of i, the arguments, the members of both. -/
structure StT (w : World) (ib : Nat) (i : Int) (A B : List Nat) (L X Y : List Int) (ra rb rl rx ry : Option Addr) : Prop where
  box : w.heap[ib]? = some (.cells #[.int .i64 i] 3 (0, 0))
  sa : SetAt w ra A
  sb : SetAt w rb B
  l : IntsAt .i64 w rl L
  x : IntsAt .i64 w rx X
  y : IntsAt .i64 w ry Y
theorem StT.below {w w2 : World} {ib : Nat} {i : Int} {A B : List Nat} {L X Y : List Int} {ra rb rl rx ry : Option Addr} (h : StT w ib i A B L X Y ra rb rl rx ry) (hb : Below w.heap.size w w2) : StT w2 ib i A B L X Y ra rb rl rx ry :=
  ⟨heap_below h.box hb, h.sa.below hb, h.sb.below hb, h.l.below hb, h.x.below hb, h.y.below hb⟩
theorem StT.cell {w : World} {ib : Nat} {i : Int} {A B : List Nat} {L X Y : List Int} {ra rb rl rx ry : Option Addr} (h : StT w ib i A B L X Y ra rb rl rx ry) : w.cell? ⟨ib, 0, none⟩ = some (.int .i64 i) := cell_of_row _ _ 0 _ _ _ h.box

/-- A set in memory of the region's own. -/
def SetF (B : Nat) (A : List Nat) (v : Value) (w : World) : Prop := ∃ a n c, A.length = n ∧ v = .slice a n c ∧ w.ownsRow B 26 1 (.slice a n c) n (vints .u64 (V A))
def IntF (Z : List Int) (v : Value) (w : World) : Prop := ∃ a n c, Z.length = n ∧ v = .slice a n c ∧ IntsAt .i64 w a Z
def OwnF (B : Nat) (Z : List Int) (v : Value) (w : World) : Prop := ∃ a n c, Z.length = n ∧ v = .slice a n c ∧ w.ownsRow B 3 1 (.slice a n c) n (vints .i64 Z)
def CloF (f : Nat) (l : Value) (v : Value) (w : World) : Prop := ∃ X, v = .func (.func f) #[] #[.pointer (some ⟨X, 0, none⟩)] ∧ w.cell? ⟨X, 0, none⟩ = some l
def OneF (i : Int) (v : Value) (w : World) : Prop := ∃ X, v = .slice (some ⟨X, 0, none⟩) 1 1 ∧ w.heap[X]? = some (.cells #[.int .i64 i] 3 (0, 0))
def TwoF (u v' : Value) (v : Value) (w : World) : Prop := ∃ X, v = .slice (some ⟨X, 0, none⟩) 2 2 ∧ w.heap[X]? = some (.cells #[u, v'] 23 (0, 0))
section
variable {B : Nat} {A : List Nat} {Z : List Int} {f : Nat} {l u v' v : Value} {i : Int} {w w2 : World}
theorem SetF.below (h : SetF B A v w) (hb : Below w.heap.size w w2) : SetF B A v w2 := by obtain ⟨a, n, c, h1, h2, h3⟩ := h; exact ⟨a, n, c, h1, h2, own_below h3 hb⟩
theorem IntF.below (h : IntF Z v w) (hb : Below w.heap.size w w2) : IntF Z v w2 := by obtain ⟨a, n, c, h1, h2, h3⟩ := h; exact ⟨a, n, c, h1, h2, h3.below hb⟩
theorem OwnF.below (h : OwnF B Z v w) (hb : Below w.heap.size w w2) : OwnF B Z v w2 := by obtain ⟨a, n, c, h1, h2, h3⟩ := h; exact ⟨a, n, c, h1, h2, own_below h3 hb⟩
theorem CloF.below (h : CloF f l v w) (hb : Below w.heap.size w w2) : CloF f l v w2 := by obtain ⟨X, h1, h2⟩ := h; exact ⟨X, h1, cell_abides h2 hb⟩
theorem OneF.below (h : OneF i v w) (hb : Below w.heap.size w w2) : OneF i v w2 := by obtain ⟨X, h1, h2⟩ := h; exact ⟨X, h1, heap_below h2 hb⟩
theorem TwoF.below (h : TwoF u v' v w) (hb : Below w.heap.size w w2) : TwoF u v' v w2 := by obtain ⟨X, h1, h2⟩ := h; exact ⟨X, h1, heap_below h2 hb⟩
theorem SetF.rapp {x : Int} (h : SetF B A v w) (hr : RApp B 3 Z x w w2) : SetF B A v w2 := by
  obtain ⟨a, n, c, h1, h2, h3⟩ := h
  exact ⟨a, n, c, h1, h2, own_keep h3 fun g hg => hr.oth g (own_lt h3 g hg).2 fun cs hcs => by
    rcases h3.2 with ⟨h4, _⟩ | ⟨g2, cap, cur, h4, _, h5, _⟩
    · injection h4 with h4; subst h4; cases hg
    · injection h4 with h4; subst h4
      have : g2 = g := by simpa [Value.ownBlock] using hg
      subst this
      rw [h5] at hcs
      injection hcs with hcs
      injection hcs with _ hcs
      exact absurd hcs (by decide)⟩
theorem OwnF.rapp {x : Int} (h : OwnF B Z v w) (hr : RApp B 3 Z x w w2) : OwnF B Z v w2 := by
  obtain ⟨a, n, c, h1, h2, h3⟩ := h
  subst h1
  exact ⟨a, _, c, rfl, h2, hr.row _ h3⟩
theorem OneF.rapp {x : Int} (h : OneF x v w) (hr : RApp B 3 Z x w w2) : OneF x v w2 := by
  obtain ⟨X, h1, h2⟩ := h
  exact ⟨X, h1, hr.one _ h2⟩
theorem SetF.at_ (h : SetF B A v w) : ∃ a n c, A.length = n ∧ v = .slice a n c ∧ SetAt w a A := by
  obtain ⟨a, n, c, h1, h2, h3⟩ := h
  exact ⟨a, n, c, h1, h2, IntsAt.of_own h3 (by rw [V_length]; exact h1.symm)⟩
end
def RelB (B : Nat) (a b : World) : Prop := B ≤ a.heap.size → Below B a b
theorem RelB.trans {B : Nat} {a b c : World} (h : RelB B a b) (h2 : RelB B b c) : RelB B a c := fun hB => (h hB).trans (h2 (Nat.le_trans hB (h hB).size))
def RelIB (B : Nat) (Z : List Int) (x : Int) (i : Nat) (a b : World) : Prop := match i with
  | 14 => RApp B 3 Z x a b
  | _ => Below a.heap.size a b
theorem RelIB.sub {B : Nat} {Z : List Int} {x : Int} (i : Nat) (a b : World) (h : RelIB B Z x i a b) : RelB B a b := by
  unfold RelIB at h
  split at h
  · exact h.sub
  · exact fun hB => h.mono hB
theorem same_true (A : List Nat) (L : List Int) (a b : Option Addr) (n m ca cb : Nat) (hn : A.length = n) (hm : L.length = m) (h1 : n ≤ 64) (h2 : m ≤ 17592186044416) (w : World) (hz : SetAt w a A) (hl : IntsAt .i64 w b L) (he : A = setN L) :
    Calls Try.prog 22 #[.slice a n ca, .slice b m cb] w fun e w' => e = .returned (.bool true) ∧ Below w.heap.size w w' := by
  have := same_cl A L a b n m ca cb hn hm (by omega) h2 w hz hl
  rwa [decide_eq_true he] at this
def F_st (B ib : Nat) (A A2 : List Nat) (L X Y : List Int) (i : Int) (ra rb rl rx ry : Option Addr) (n m p nx ny ca cb cl cx cy : Nat) (j : Nat) (v : Value) (w : World) : Prop :=
  match j with
  | 0 => v = .func (.func 22) #[] #[]
  | 1 => v = .slice rl p cl
  | 2 => SetF B (setN L) v w
  | 3 => v = .slice rl p cl
  | 4 => v = .bool true
  | 5 => v = .bool true
  | 6 => v = .func (.func 22) #[] #[]
  | 7 => v = .slice ra n ca
  | 8 => v = .int .i64 i
  | 9 => SetF B (setN (X ++ [i])) v w
  | 10 => v = .slice rx nx cx
  | 11 => OwnF B X v w
  | 12 => v = .int .i64 i
  | 13 => OneF i v w
  | 14 => IntF (X ++ [i]) v w
  | 15 => v = .bool true
  | 16 => v = .bool true
  | 17 => v = .bool true
  | 18 => v = .func (.func 22) #[] #[]
  | 19 => v = .slice ra n ca
  | 20 => v = .int .i64 i
  | 21 => SetF B (setN (X.filter (fun n => n != i))) v w
  | 22 => v = .func (.func 17) #[] #[]
  | 23 => v = .slice rx nx cx
  | 24 => v = .func (.func 27) #[] #[.pointer (some ⟨ib, 0, none⟩)]
  | 25 => IntF (X.filter (fun n => n != i)) v w
  | 26 => v = .bool true
  | 27 => v = .bool true
  | 28 => v = .bool true
  | 29 => v = .func (.func 22) #[] #[]
  | 30 => v = .slice ra n ca
  | 31 => v = .slice rb m cb
  | 32 => SetF B (setN ([X, Y].flatten)) v w
  | 33 => v = .slice rx nx cx
  | 34 => v = .slice ry ny cy
  | 35 => TwoF (.slice rx nx cx) (.slice ry ny cy) v w
  | 36 => IntF ([X, Y].flatten) v w
  | 37 => v = .bool true
  | 38 => v = .bool true
  | 39 => v = .bool true
  | 40 => v = .func (.func 22) #[] #[]
  | 41 => v = .slice ra n ca
  | 42 => v = .slice rb m cb
  | 43 => SetF B (setN (X.filter (fun k => decide (k ∈ Y)))) v w
  | 44 => v = .func (.func 17) #[] #[]
  | 45 => v = .slice rx nx cx
  | 46 => v = .func (.func 12) #[] #[]
  | 47 => v = .slice ry ny cy
  | 48 => CloF 13 (.slice ry ny cy) v w
  | 49 => IntF (X.filter (fun k => decide (k ∈ Y))) v w
  | 50 => v = .bool true
  | 51 => v = .bool true
  | 52 => v = .bool true
  | 53 => v = .func (.func 22) #[] #[]
  | 54 => v = .slice ra n ca
  | 55 => v = .slice rb m cb
  | 56 => SetF B (setN (X.filter (fun k => !decide (k ∈ Y)))) v w
  | 57 => v = .func (.func 17) #[] #[]
  | 58 => v = .slice rx nx cx
  | 59 => v = .func (.func 15) #[] #[]
  | 60 => v = .slice ry ny cy
  | 61 => CloF 16 (.slice ry ny cy) v w
  | 62 => IntF (X.filter (fun k => !decide (k ∈ Y))) v w
  | 63 => v = .bool true
  | 64 => v = .bool true
  | 65 => v = .bool true
  | _ => True
theorem F_st_mono (B ib : Nat) (A A2 : List Nat) (L X Y : List Int) (i : Int) (ra rb rl rx ry : Option Addr) (n m p nx ny ca cb cl cx cy : Nat) : FactsA (List.replicate 15 0 ++ List.replicate 51 16384) (RelIB B X i) (F_st B ib A A2 L X Y i ra rb rl rx ry n m p nx ny ca cb cl cx cy) := ⟨by
  intro k j v w w' hne hbit h hr
  by_cases hk : k = 14
  · subst hk
    have hr' : RApp B 3 X i w w' := hr
    unfold F_st at h ⊢
    split at h
    all_goals first
      | exact h
      | exact h.rapp hr'
      | (exfalso; revert hbit; decide)
      | (exfalso; exact hne rfl)
      | trivial
  · have hr' : Below w.heap.size w w' := by
      unfold RelIB at hr
      split at hr
      · exact absurd rfl hk
      · exact hr
    unfold F_st at h ⊢
    split at h
    all_goals first
      | exact h
      | exact h.below hr'
      | trivial⟩
theorem list66 {α : Type} {vs : List α} (h : vs.length = 66) : ∃ x0 x1 x2 x3 x4 x5 x6 x7 x8 x9 x10 x11 x12 x13 x14 x15 x16 x17 x18 x19 x20 x21 x22 x23 x24 x25 x26 x27 x28 x29 x30 x31 x32 x33 x34 x35 x36 x37 x38 x39 x40 x41 x42 x43 x44 x45 x46 x47 x48 x49 x50 x51 x52 x53 x54 x55 x56 x57 x58 x59 x60 x61 x62 x63 x64 x65, vs = [x0, x1, x2, x3, x4, x5, x6, x7, x8, x9, x10, x11, x12, x13, x14, x15, x16, x17, x18, x19, x20, x21, x22, x23, x24, x25, x26, x27, x28, x29, x30, x31, x32, x33, x34, x35, x36, x37, x38, x39, x40, x41, x42, x43, x44, x45, x46, x47, x48, x49, x50, x51, x52, x53, x54, x55, x56, x57, x58, x59, x60, x61, x62, x63, x64, x65] := by
  obtain ⟨x0, t0, rfl, h0⟩ := cons_of h
  obtain ⟨x1, t1, rfl, h1⟩ := cons_of h0
  obtain ⟨x2, t2, rfl, h2⟩ := cons_of h1
  obtain ⟨x3, t3, rfl, h3⟩ := cons_of h2
  obtain ⟨x4, t4, rfl, h4⟩ := cons_of h3
  obtain ⟨x5, t5, rfl, h5⟩ := cons_of h4
  obtain ⟨x6, t6, rfl, h6⟩ := cons_of h5
  obtain ⟨x7, t7, rfl, h7⟩ := cons_of h6
  obtain ⟨x8, t8, rfl, h8⟩ := cons_of h7
  obtain ⟨x9, t9, rfl, h9⟩ := cons_of h8
  obtain ⟨x10, t10, rfl, h10⟩ := cons_of h9
  obtain ⟨x11, t11, rfl, h11⟩ := cons_of h10
  obtain ⟨x12, t12, rfl, h12⟩ := cons_of h11
  obtain ⟨x13, t13, rfl, h13⟩ := cons_of h12
  obtain ⟨x14, t14, rfl, h14⟩ := cons_of h13
  obtain ⟨x15, t15, rfl, h15⟩ := cons_of h14
  obtain ⟨x16, t16, rfl, h16⟩ := cons_of h15
  obtain ⟨x17, t17, rfl, h17⟩ := cons_of h16
  obtain ⟨x18, t18, rfl, h18⟩ := cons_of h17
  obtain ⟨x19, t19, rfl, h19⟩ := cons_of h18
  obtain ⟨x20, t20, rfl, h20⟩ := cons_of h19
  obtain ⟨x21, t21, rfl, h21⟩ := cons_of h20
  obtain ⟨x22, t22, rfl, h22⟩ := cons_of h21
  obtain ⟨x23, t23, rfl, h23⟩ := cons_of h22
  obtain ⟨x24, t24, rfl, h24⟩ := cons_of h23
  obtain ⟨x25, t25, rfl, h25⟩ := cons_of h24
  obtain ⟨x26, t26, rfl, h26⟩ := cons_of h25
  obtain ⟨x27, t27, rfl, h27⟩ := cons_of h26
  obtain ⟨x28, t28, rfl, h28⟩ := cons_of h27
  obtain ⟨x29, t29, rfl, h29⟩ := cons_of h28
  obtain ⟨x30, t30, rfl, h30⟩ := cons_of h29
  obtain ⟨x31, t31, rfl, h31⟩ := cons_of h30
  obtain ⟨x32, t32, rfl, h32⟩ := cons_of h31
  obtain ⟨x33, t33, rfl, h33⟩ := cons_of h32
  obtain ⟨x34, t34, rfl, h34⟩ := cons_of h33
  obtain ⟨x35, t35, rfl, h35⟩ := cons_of h34
  obtain ⟨x36, t36, rfl, h36⟩ := cons_of h35
  obtain ⟨x37, t37, rfl, h37⟩ := cons_of h36
  obtain ⟨x38, t38, rfl, h38⟩ := cons_of h37
  obtain ⟨x39, t39, rfl, h39⟩ := cons_of h38
  obtain ⟨x40, t40, rfl, h40⟩ := cons_of h39
  obtain ⟨x41, t41, rfl, h41⟩ := cons_of h40
  obtain ⟨x42, t42, rfl, h42⟩ := cons_of h41
  obtain ⟨x43, t43, rfl, h43⟩ := cons_of h42
  obtain ⟨x44, t44, rfl, h44⟩ := cons_of h43
  obtain ⟨x45, t45, rfl, h45⟩ := cons_of h44
  obtain ⟨x46, t46, rfl, h46⟩ := cons_of h45
  obtain ⟨x47, t47, rfl, h47⟩ := cons_of h46
  obtain ⟨x48, t48, rfl, h48⟩ := cons_of h47
  obtain ⟨x49, t49, rfl, h49⟩ := cons_of h48
  obtain ⟨x50, t50, rfl, h50⟩ := cons_of h49
  obtain ⟨x51, t51, rfl, h51⟩ := cons_of h50
  obtain ⟨x52, t52, rfl, h52⟩ := cons_of h51
  obtain ⟨x53, t53, rfl, h53⟩ := cons_of h52
  obtain ⟨x54, t54, rfl, h54⟩ := cons_of h53
  obtain ⟨x55, t55, rfl, h55⟩ := cons_of h54
  obtain ⟨x56, t56, rfl, h56⟩ := cons_of h55
  obtain ⟨x57, t57, rfl, h57⟩ := cons_of h56
  obtain ⟨x58, t58, rfl, h58⟩ := cons_of h57
  obtain ⟨x59, t59, rfl, h59⟩ := cons_of h58
  obtain ⟨x60, t60, rfl, h60⟩ := cons_of h59
  obtain ⟨x61, t61, rfl, h61⟩ := cons_of h60
  obtain ⟨x62, t62, rfl, h62⟩ := cons_of h61
  obtain ⟨x63, t63, rfl, h63⟩ := cons_of h62
  obtain ⟨x64, t64, rfl, h64⟩ := cons_of h63
  obtain ⟨x65, t65, rfl, h65⟩ := cons_of h64
  exact ⟨x0, x1, x2, x3, x4, x5, x6, x7, x8, x9, x10, x11, x12, x13, x14, x15, x16, x17, x18, x19, x20, x21, x22, x23, x24, x25, x26, x27, x28, x29, x30, x31, x32, x33, x34, x35, x36, x37, x38, x39, x40, x41, x42, x43, x44, x45, x46, x47, x48, x49, x50, x51, x52, x53, x54, x55, x56, x57, x58, x59, x60, x61, x62, x63, x64, x65, by rw [List.eq_nil_of_length_eq_zero h65]⟩
theorem two_rows {w : World} {Xb : Nat} {X Y : List Int} {rx ry : Option Addr} {nx ny cx cy : Nat} (h : w.heap[Xb]? = some (.cells #[.slice rx nx cx, .slice ry ny cy] 23 (0, 0))) (hx : X.length = nx) (hy : Y.length = ny) (h1 : IntsAt .i64 w rx X) (h2 : IntsAt .i64 w ry Y) : SlAt 1 IRowAt w (some ⟨Xb, 0, none⟩) [X, Y] := fun _ => by
  subst hx; subst hy
  refine ⟨_, rfl, lt_of_heap h, fun j hj => ?_⟩
  have hj2 : j < 2 := hj
  rw [Addr.add_lit, Nat.zero_add, Nat.mul_one]
  match j, hj2 with
  | 0, _ => exact ⟨rx, cx, cell_of_row _ _ 0 _ _ _ h, h1⟩
  | 1, _ => exact ⟨ry, cy, cell_of_row _ _ 1 _ _ _ h, h2⟩
def KT (q : Nat) (zv : Value) (ib : Nat) (i : Int) (A B : List Nat) (L X Y : List Int) (ra rb rl rx ry rz : Option Addr) (W w' : World) : Prop :=
  w'.cell? ⟨q, 0, none⟩ = some zv ∧ w'.cell? ⟨ib, 0, none⟩ = some (.int .i64 i) ∧ StT w' ib i A B L X Y ra rb rl rx ry ∧ IntsAt .i64 w' rz X ∧ Below W.heap.size W w'
theorem KT.keep {q : Nat} {zv : Value} {ib : Nat} {i : Int} {A B : List Nat} {L X Y : List Int} {ra rb rl rx ry rz : Option Addr} {W w1 w2 : World} (h : KT q zv ib i A B L X Y ra rb rl rx ry rz W w1) (hb : Below w1.heap.size w1 w2) : KT q zv ib i A B L X Y ra rb rl rx ry rz W w2 :=
  ⟨cell_abides h.1 hb, cell_abides h.2.1 hb, h.2.2.1.below hb, h.2.2.2.1.below hb, h.2.2.2.2.trans (hb.mono h.2.2.2.2.size)⟩
theorem has_true {A : List Nat} {X : List Int} (hX : X = V (els A)) (i : Int) : (decide (0 ≤ i) && bit A i.toNat) = decide (i ∈ X) := by rw [has_contains, hX]
set_option maxRecDepth 100000 in
set_option maxHeartbeats 16000000 in
theorem walk_SetsTells (A B : List Nat) (L : List Int) (i : Int) (ra rb rl : Option Addr) (n m p ca cb cl : Nat) (hn : A.length = n) (hm : B.length = m) (hp : L.length = p) (h1 : n ≤ 17592186044416) (h2 : m ≤ 17592186044416) (h3 : p ≤ 17592186044416)
    (hwa : Words A) (hwb : Words B) (hi : i ≤ 9223372036854775807) (w : World) (hza : SetAt w ra A) (hzb : SetAt w rb B) (hl : IntsAt .i64 w rl L) :
    Calls Try.prog 3 #[.slice ra n ca, .slice rb m cb, .int .i64 i, .slice rl p cl] w fun e w' => e = .returned (.bool true) ∧ Below w.heap.size w w' := by
  have HN := Lib.hid hn
  have HM := Lib.hid hm
  have HP := Lib.hid hp
  have HWA := Lib.hid hwa
  have HWB := Lib.hid hwb
  have HI := Lib.hid hi
  have hb0 : Below w.heap.size w (w.alloc (.cells #[.int .i64 i] 3)) := (Below.refl _ _).alloc (Nat.le_refl _) _
  have hs0 : StT (w.alloc (.cells #[.int .i64 i] 3)) w.heap.size i A B L [] [] ra rb rl none none := ⟨heap_alloc_new w _, hza.below hb0, hzb.below hb0, hl.below hb0, fun h => absurd h (by simp), fun h => absurd h (by simp)⟩
  have HS0 := Lib.hid hs0
  have HB0 := Lib.hid hb0
  obtain ⟨X, hX⟩ : ∃ X, X = V (els A) := ⟨_, rfl⟩
  obtain ⟨Y, hY⟩ : ∃ Y, Y = V (els B) := ⟨_, rfl⟩
  have hXl : X.length ≤ 4096 := by rw [hX, V_length]; exact els_length A
  have hYl : Y.length ≤ 4096 := by rw [hY, V_length]; exact els_length B
  have HX := Lib.hid hX
  have HY := Lib.hid hY
  have HXL := Lib.hid hXl
  have HYL := Lib.hid hYl
  clear hn hm hp hwa hwb hi hza hzb hl hs0 hb0 hX hY hXl hYl
  refine (callsIn_wide (n := 3)).1 (callsIn_of_wp_marks Try.func3 rfl trivial ?_ rfl)
  refine wpIn_wide.2 ?_
  simp only [Try.ntmps3, List.size_toArray, List.length_cons, List.length_nil, Nat.reduceAdd, Nat.reduceSub, Array.replicate_succ, Array.replicate_zero, List.push_toArray, List.append_toArray, List.nil_append, List.cons_append]
  go_wp2_with fail
  have hba : Below w.heap.size w ((w.alloc (.cells #[.int .i64 i] 3)).alloc (.cells #[.int .i64 64, .int .i64 1] 3)) := HB0.out.alloc (by simp) _
  have hs1 : StT ((w.alloc (.cells #[.int .i64 i] 3)).alloc (.cells #[.int .i64 64, .int .i64 1] 3)) w.heap.size i A B L [] [] ra rb rl none none := HS0.out.below ((Below.refl _ _).alloc (Nat.le_refl _) _)
  have hr1 : RowB ((w.alloc (.cells #[.int .i64 i] 3)).alloc (.cells #[.int .i64 64, .int .i64 1] 3)) (w.heap.size + 1) 3 .i64 [64, 1] := row_second w _ _
  have HBA := Lib.hid hba
  have HS1 := Lib.hid hs1
  have HR1 := Lib.hid hr1
  clear hba hs1 hr1 HS0 HB0
  refine (sets_Of [64, 1] _ 2 2 rfl (by omega) _ HR1.out.ints).mono ?_
  rintro e w1 ⟨r0, k0, c0, hk0, rfl, h4, h5, _⟩
  rw [of_begun] at hk0 h4
  obtain rfl : k0 = 2 := hk0.symm
  have HS2 := Lib.hid (HS1.out.below h5)
  have HB2 := Lib.hid (HBA.out.trans (h5.mono HBA.out.size))
  have H4 := Lib.hid h4
  clear h4 h5 HS1 HBA HR1 hk0
  have hba : Below w1.heap.size w1 (w1.alloc (.cells #[.int .u64 2, .int .u64 1] 26)) := (Below.refl _ _).alloc (Nat.le_refl _) _
  have hr2 : RowB (w1.alloc (.cells #[.int .u64 2, .int .u64 1] 26)) w1.heap.size 26 .u64 [2, 1] := heap_alloc_new w1 _
  have CE := eq_sets r0 (some ⟨w1.heap.size, 0, none⟩) c0 2 (V [2, 1]) [2, 1] (by decide) (by decide) _ (H4.out.below hba) hr2.ints
  rw [show decide (V [2, 1] = [2, 1]) = true from rfl] at CE
  have HCE := Lib.hid CE
  have HS3 := Lib.hid (HS2.out.below hba)
  have HB3 := Lib.hid (HB2.out.alloc HB2.out.size (.cells #[.int .u64 2, .int .u64 1] 26))
  clear CE hba hr2 HS2 HB2 H4
  go_wp2_with fail
  refine HCE.out.mono ?_
  rintro e w2 ⟨rfl, hb⟩
  have HS4 := Lib.hid (HS3.out.below hb)
  have HB4 := Lib.hid (HB3.out.trans (hb.mono HB3.out.size))
  clear hb HCE HS3 HB3
  go_wp2_with fail
  refine (ref_Members A ra n ca HN.out h1 HWA.out w2 HS4.out.sa).mono ?_
  rintro e w3 ⟨vx, nx, hnx, rfl, hox, hb⟩
  obtain ⟨rx, cx, rfl⟩ := own_slice hox
  have HAX := Lib.hid (IntsAt.of_own hox hnx.symm)
  rw [← HX.out] at hnx HAX
  have HS5 := Lib.hid (HS4.out.below hb)
  have HB5 := Lib.hid (HB4.out.trans (hb.mono HB4.out.size))
  have HNX := Lib.hid hnx
  clear hb hnx hox HS4 HB4
  go_wp2_with fail
  refine (ref_Members B rb m cb HM.out h2 HWB.out w3 HS5.out.sb).mono ?_
  rintro e w4 ⟨vy, ny, hny, rfl, hoy, hb⟩
  obtain ⟨ry, cy, rfl⟩ := own_slice hoy
  have HAY := Lib.hid (IntsAt.of_own hoy hny.symm)
  rw [← HY.out] at hny HAY
  have HS6 := Lib.hid (show StT w4 w.heap.size i A B L X Y ra rb rl rx ry from ⟨heap_below HS5.out.box hb, HS5.out.sa.below hb, HS5.out.sb.below hb, HS5.out.l.below hb, HAX.out.below hb, HAY.out⟩)
  have HB6 := Lib.hid (HB5.out.trans (hb.mono HB5.out.size))
  have HNY := Lib.hid hny
  clear hb hny hoy HS5 HB5 HAX HAY
  have hba : Below w4.heap.size w4 (w4.alloc (.cells #[.slice none 0 0] 23)) := (Below.refl _ _).alloc (Nat.le_refl _) _
  have HS7 := Lib.hid (HS6.out.below hba)
  have HBX7 := Lib.hid (Boxed.new w4 23 (.slice none 0 0))
  have CA := Lib.hid (sets_All A ra n ca HN.out h1 HWA.out _ HS7.out.sa)
  have HE := Lib.hid (join_nil_els HWA.out)
  have HC := Lib.hid (joinN_canon bw_fst HWA.out canon_nil.2.1)
  obtain ⟨J, hJ⟩ : ∃ J, J = joinN (fun x _ => x) A [] := ⟨_, rfl⟩
  rw [← hJ] at HE HC CA
  clear hba hJ
  go_wp2_with fail
  refine CA.out.mono ?_
  rintro e w5 ⟨rfl, ⟨r, k, cr, g2, g3, g4, g5⟩, g6, g7⟩
  rw [World.size_alloc] at g3 g5 g6
  have HB8 := Lib.hid (show Below w4.heap.size w4 w5 from ((Below.refl _ w4).alloc (Nat.le_refl _) _).trans (g7.mono (by simp)))
  have HBX8 := Lib.hid (show Boxed w5 w4.heap.size 23 (.slice none 0 0) from (g7.block _ (by rw [World.size_alloc]; omega)).trans HBX7.out)
  clear g7 CA HBX7 HS7
  go_wp2_with fail
  refine (wpIn_wide (n := 3)).1 (wpIn_rangeFunc_ownF rfl (by omega) (gf := 77) (lb := #[.pointer (some ⟨w4.heap.size + 1, 0, none⟩)]) rfl trivial (enters_of Try.func77 (by kernel_rfl) rfl)
    (all_stops (3 - 1) (by omega) (w4.heap.size + 1) (w4.heap.size + 1) w5.heap.size r k cr J g2 (by have := HC.out.1; omega) HC.out.2.1 w5 g6 g3 g5 g4) KeepB.trans (KeepB.put (Nat.le_refl _)) (Below.refl _ _) (fun _ => rfl)
    (fun pre W => (∃ v, Boxed W w4.heap.size 23 v ∧ W.ownsRow w5.heap.size 3 1 v pre.length (vints .i64 (V pre)) ∧ True) ∧ Below w4.heap.size w5 W)
    (fun _ _ _ => False)
    (OwnFrom.and (Own.from (holdsRow_own w5.heap.size w4.heap.size 23 3 1 (fun pre : List Nat => pre.length) (fun pre => vints .i64 (V pre)) (fun _ _ => True)) _) (ownFrom_below (by omega) (by omega)))
    (fun _ _ _ _ _ hs _ _ => hs)
    ⟨⟨_, HBX8.out, World.ownsRow_nil _ _ _ _, trivial⟩, Below.refl _ _⟩
    (fun x => { tmps := #[Value.slice ra n ca, Value.slice rb m cb, Value.int IntKind.i64 i, Value.slice rl p cl, undef, undef, Value.pointer (some ⟨w.heap.size, 0, none⟩), undef, Value.bool false, Value.slice rx nx cx, Value.slice ry ny cy, Value.slice ra n ca, Value.slice rb m cb, Value.func (Fn.func 12) #[] #[], Value.func (Fn.func 15) #[] #[], Value.func (Fn.func 17) #[] #[], Value.pointer (some ⟨w4.heap.size, 0, none⟩), .int .i64 (x : Int), undef, Value.slice (some ⟨w.heap.size + 1, 0, none⟩) 2 2, Value.slice r0 2 c0, Value.slice (some ⟨w1.heap.size, 0, none⟩) 2 2, Value.bool true, Value.bool false, Value.slice ra n ca, Value.slice rx nx cx, Value.slice rb m cb, Value.slice ry ny cy, Value.slice ra n ca, Value.slice rb m cb, Value.slice ra n ca, Value.func (Fn.func 77) #[] #[Value.pointer (some ⟨w4.heap.size + 1, 0, none⟩)], .int .i64 (x : Int), undef, undef, undef, undef, undef, undef, undef, undef, undef, undef, undef, undef, undef, undef, undef, undef, undef, undef, undef, undef, undef, undef, undef, undef, undef, undef, undef, undef, undef, undef, undef, undef, undef, undef, undef, undef, undef, undef, undef, undef, undef, undef, undef, undef, undef, undef, undef, undef, undef, undef, undef, undef, undef, undef, undef, undef, undef, undef, undef, undef, undef, undef, undef, undef, undef, undef, undef, undef, undef, undef, undef, undef, undef, undef, undef, undef, undef, undef, undef, undef, undef, undef, undef, undef, undef, undef, undef, undef, undef], defers := [] }) ?assign ?body ?done ?stop)
  case assign =>
    intro l x W K hK
    gi_wp2
    exact hK
  case body =>
    rintro l pre x W ⟨⟨v, hv, hrow, _⟩, hB⟩ hlt
    obtain ⟨i0, hi, hz0, hz1, hz2⟩ := info_parts (show (Try.prog.info? 3).map (fun i => (i.zero, i.size, i.bytes)) = some (some (.int .i64 0), 1, 8) by kernel_rfl)
    have hc := hv.cell
    have hE := hB.size
    have hq5 : w4.heap.size < w5.heap.size := by omega
    have hlen : (((pre ++ [x]).length : Nat)) = pre.length + 1 := by simp
    have HLEN := Lib.hid hlen
    have HSN := Lib.hid (show vints .i64 (V pre) ++ [Value.int .i64 (x : Int)] = vints .i64 (V (pre ++ [x])) by simp [vints, V])
    clear hlen g2 g3 g4 g5
    dsimp only
    gi_wp2_with (gi_at_builtin; refine wpListIn_append_own _ rfl _ _ 23 rfl w5.heap.size 3 i0 (.int .i64 0) 1 8 Try.underlying23 hi hz0 hz1 hz2 rfl (by decide) _ _ _ rfl (hrow.alloc _) ⟨W.heap.size, 0, none⟩ 1 1 [.int .i64 (x : Int)] rfl rfl (cell_one_new _ _ _) (by simp [Value.oneCell']) (by unfold maxLen; omega) (by omega) (by simp; omega) ?_; intro v' w1 hown' hgrow _; obtain ⟨g', cap', rfl⟩ := ownsRow_succ hown'; obtain ⟨hv1, hv2, hr2, hk2, hb2, hs2⟩ := collect hv (by decide) hrow hE hq5 hown' hgrow; have hc1 := hv1.cell; have hf1 := hv1.frozen)
    exact ⟨hk2, ⟨by rw [World.size_setCell]; have := hgrow.size; rw [World.size_alloc] at this; omega, fun k k1 k2 => hs2 k k2 (by omega)⟩, ⟨_, hv2, by rw [HLEN.out, ← HSN.out]; exact hr2, trivial⟩, hB.trans hb2⟩
  case done =>
    rintro D ys W hD rfl ⟨⟨v, hv, hrow, _⟩, hB⟩ hK
    obtain ⟨rz, cz, rfl⟩ := own_slice hrow
    rw [HE.out] at hrow
    have HD := Lib.hid hD
    have HDL := Lib.hid (show w.heap.size ≤ D by have := HB6.out.size; omega)
    have HKD := Lib.hid hK
    have HZ := Lib.hid (IntsAt.of_own hrow (V_length _).symm)
    rw [← HX.out] at HZ
    have hnl : (els A).length = nx := by rw [← HNX.out, HX.out, V_length]
    rw [HE.out, hnl] at hv
    have HV := Lib.hid hv
    have HBW := Lib.hid (HB8.out.trans (show Below w4.heap.size w5 W from hB))
    have HS9 := Lib.hid (HS6.out.below HBW.out)
    have HB9 := Lib.hid (HB6.out.trans (HBW.out.mono HB6.out.size))
    have HDW := Lib.hid (show w5.heap.size ≤ W.heap.size from hB.size)
    clear hK hD hv hrow hnl HB8 HBX8 HC HE g2 g3 g4 g5 HS6 HB6 hB
    dsimp only
    obtain ⟨hb, hhb⟩ : ∃ hb, hb = decide (i ∈ X) := ⟨_, rfl⟩
    have CH := fun w' h => sets_Has A ra n ca HN.out h1 HWA.out i HI.out w' h
    rw [has_true HX.out, ← hhb] at CH
    have HCH := Lib.hid CH
    have CC := fun w' h => contains_ints rx cx nx X i HNX.out (by have := HXL.out; rw [HNX.out] at this; omega) w' h
    rw [← hhb] at CC
    have HCC := Lib.hid CC
    have CL := fun w' h => sets_Len A ra n ca HN.out h1 HWA.out w' h
    rw [show (els A).length = nx by rw [← HNX.out, HX.out, V_length]] at CL
    have HCL := Lib.hid CL
    have CE := fun w' h h2 => eq_ints rz rx cz cx X X (by have := HXL.out; omega) (by have := HXL.out; omega) w' h h2
    rw [HNX.out, decide_eq_true rfl] at CE
    have HCE := Lib.hid CE
    have hk0 : KT w4.heap.size (.slice rz nx cz) w.heap.size i A B L X Y ra rb rl rx ry rz W W := ⟨HV.out.cell, HS9.out.cell, HS9.out, HZ.out, Below.refl _ _⟩
    have HK0 := Lib.hid hk0
    have hc1 : W.cell? ⟨w4.heap.size, 0, none⟩ = some (.slice rz nx cz) := hk0.1
    have hc2 : W.cell? ⟨w.heap.size, 0, none⟩ = some (.int .i64 i) := hk0.2.1
    have hnx : nx ≤ 4096 := by have := HXL.out; rw [HNX.out] at this; exact this
    clear CH CC CL CE hk0 hhb
    go_wp2_with fail
    go_region_held3 (fun w' => w'.cell? ⟨w4.heap.size, 0, none⟩ = some (.slice rz nx cz) ∧ w'.cell? ⟨w.heap.size, 0, none⟩ = some (.int .i64 i) ∧ StT w' w.heap.size i A B L X Y ra rb rl rx ry ∧ IntsAt .i64 w' rz X ∧ Below W.heap.size W w')
      (first | exact HK0.out.keep (Below.refl _ _).drew | assumption | exact KT.keep (by assumption) (by assumption))
      ((first
        | (go_at_call 19; (with_reducible refine (HCE.out _ (And.left (And.right (And.right (And.right (by assumption))))) (StT.x (And.left (And.right (And.right (by assumption)))))).mono ?_); rintro e w8 ⟨rfl, hb8⟩)
        | (go_at_call 20; (with_reducible refine (HCL.out _ (StT.sa (And.left (And.right (And.right (by assumption)))))).mono ?_); rintro e w8 ⟨rfl, hb8⟩)
        | (go_at_call 21; (with_reducible refine (HCH.out _ (StT.sa (And.left (And.right (And.right (by assumption)))))).mono ?_); rintro e w8 ⟨rfl, rfl⟩)
        | (go_at_call 14; (with_reducible refine (HCC.out _ (StT.x (And.left (And.right (And.right (by assumption)))))).mono ?_); rintro e w8 ⟨rfl, hb8⟩)))
    rename_i hHeld
    have HS10 := Lib.hid hHeld.2.2.1
    have HB10 := Lib.hid (HB9.out.trans (hHeld.2.2.2.2.mono HB9.out.size))
    have HKD2 := Lib.hid (heap_below HKD.out hHeld.2.2.2.2)
    clear hHeld hb8 hc1 hc2 HCH HCC HCL HCE HK0 HV HZ HS9 HBW HB9 HKD
    obtain ⟨wR, hwR⟩ : ∃ wR, wR = w8 := ⟨_, rfl⟩
    rw [← hwR] at HS10 HB10 HKD2 ⊢
    clear hwR
    have hp3 : p ≤ 17592186044416 := h3
    go_wp2_with fail
    have COF := Lib.hid (fun w' (hb : Below wR.heap.size wR w') => sets_Of L rl p cl HP.out h3 w' (HS10.out.l.below hb))
    have CWI := Lib.hid (fun w' (hb : Below wR.heap.size wR w') => sets_With A ra n ca HN.out h1 HWA.out i w' (HS10.out.sa.below hb))
    have CWO := Lib.hid (fun w' (hb : Below wR.heap.size wR w') => sets_Without A ra n ca HN.out h1 HWA.out i w' (HS10.out.sa.below hb))
    have CEI := Lib.hid (fun w' (hb : Below wR.heap.size wR w') => sets_Either A B ra rb n m ca cb HN.out HM.out h1 h2 HWA.out HWB.out w' (HS10.out.sa.below hb) (HS10.out.sb.below hb))
    have CBO := Lib.hid (fun w' (hb : Below wR.heap.size wR w') => sets_Both A B ra rb n m ca cb HN.out HM.out h1 h2 HWA.out HWB.out w' (HS10.out.sa.below hb) (HS10.out.sb.below hb))
    have CMI := Lib.hid (fun w' (hb : Below wR.heap.size wR w') => sets_Minus A B ra rb n m ca cb HN.out HM.out h1 h2 HWA.out HWB.out w' (HS10.out.sa.below hb) (HS10.out.sb.below hb))
    have CCL := Lib.hid (fun w' (hb : Below wR.heap.size wR w') => clone_ints X rx nx cx HNX.out (by omega) w' (HS10.out.x.below hb))
    have hny : ny ≤ 4096 := by have := HYL.out; rw [HNY.out] at this; exact this
    rw [of_eq] at COF
    rw [set_with HWA.out i, ← HX.out] at CWI
    rw [set_without HWA.out i, ← HX.out] at CWO
    rw [set_either HWA.out HWB.out, ← HX.out, ← HY.out] at CEI
    rw [set_both HWA.out HWB.out, ← HX.out, ← HY.out] at CBO
    rw [set_minus HWA.out HWB.out, ← HX.out, ← HY.out] at CMI
    refine wp_region_facts_a rfl 66 (by kernel_rfl) (RelB wR.heap.size) (fun _ => (Below.refl _ _).drew) (fun _ _ _ h h2 => h.trans h2) (RelIB wR.heap.size X i) RelIB.sub (F_st wR.heap.size w.heap.size A B L X Y i ra rb rl rx ry n m p nx ny ca cb cl cx cy) (List.replicate 15 0 ++ List.replicate 51 16384) (by kernel_rfl) (F_st_mono wR.heap.size w.heap.size A B L X Y i ra rb rl rx ry n m p nx ny ca cb cl cx cy) 1000 (fun _ => True) trivial (fun _ _ _ _ _ _ => trivial) ?_ ?_
    · refine ⟨?_, ?_, ?_, ?_, ?_, ?_, ?_, ?_, ?_, ?_, ?_, ?_, ?_, ?_, ?_, ?_, ?_, ?_, ?_, ?_, ?_, ?_, ?_, ?_, ?_, ?_, ?_, ?_, ?_, ?_, ?_, ?_, ?_, ?_, ?_, ?_, ?_, ?_, ?_, ?_, ?_, ?_, ?_, ?_, ?_, ?_, ?_, ?_, ?_, ?_, ?_, ?_, ?_, ?_, ?_, ?_, ?_, ?_, ?_, ?_, ?_, ?_, ?_, ?_, ?_, ?_, trivial⟩
      · intro vs w' F hb0 hd hF hl hT hQ
        have hb := hb0 (Nat.le_refl _)
        have hsz := hb.size
        have e := (hF 18).trans (look_out _ 18 _ _ (by kernel_rfl))
        exact one_move _ rfl (by first | exact Or.inl rfl | exact Or.inr rfl) ⟨_, rfl, Below.refl _ _, e⟩
      · intro vs w' F hb0 hd hF hl hT hQ
        have hb := hb0 (Nat.le_refl _)
        have hsz := hb.size
        have e := (hF 3).trans (look_out _ 3 _ _ (by kernel_rfl))
        exact one_move _ rfl (by first | exact Or.inl rfl | exact Or.inr rfl) ⟨_, rfl, Below.refl _ _, e⟩
      · intro vs w' F hb0 hd hF hl hT hQ
        have hb := hb0 (Nat.le_refl _)
        have hsz := hb.size
        refine one_call _ _ rfl rfl (enters_of Try.func10 (by kernel_rfl) rfl) #[.slice rl p cl] (eval1 (((hF 58).trans (look_at _ 58 1 _ _ (by kernel_rfl) (by kernel_rfl) hl)).trans (dep_of (Fact := F_st wR.heap.size w.heap.size A B L X Y i ra rb rl rx ry n m p nx ny ca cb cl cx cy) hd 1 (by kernel_rfl)))) ?_
        refine (COF.out w' hb).mono ?_
        rintro e2 w2 ⟨a9, n9, c9, hn9, rfl, _, hb2, ho9⟩
        exact ⟨_, rfl, _, rfl, hb2, a9, n9, c9, hn9, rfl, own_lower ho9 hsz⟩
      · intro vs w' F hb0 hd hF hl hT hQ
        have hb := hb0 (Nat.le_refl _)
        have hsz := hb.size
        have e := (hF 3).trans (look_out _ 3 _ _ (by kernel_rfl))
        exact one_move _ rfl (by first | exact Or.inl rfl | exact Or.inr rfl) ⟨_, rfl, Below.refl _ _, e⟩
      · intro vs w' F hb0 hd hF hl hT hQ
        have hb := hb0 (Nat.le_refl _)
        have hsz := hb.size
        have ef := (((hF 57).trans (look_at _ 57 0 _ _ (by kernel_rfl) (by kernel_rfl) hl)).trans (dep_of (Fact := F_st wR.heap.size w.heap.size A B L X Y i ra rb rl rx ry n m p nx ny ca cb cl cx cy) hd 0 (by kernel_rfl)))
        obtain ⟨a1, n1, c1, hn1, hv1, hs1⟩ := SetF.at_ ((dep_of (Fact := F_st wR.heap.size w.heap.size A B L X Y i ra rb rl rx ry n m p nx ny ca cb cl cx cy) hd 2 (by kernel_rfl)))
        have ex2 := (((hF 60).trans (look_at _ 60 3 _ _ (by kernel_rfl) (by kernel_rfl) hl)).trans (dep_of (Fact := F_st wR.heap.size w.heap.size A B L X Y i ra rb rl rx ry n m p nx ny ca cb cl cx cy) hd 3 (by kernel_rfl)))
        have ex1 := ((hF 59).trans (look_at _ 59 2 _ _ (by kernel_rfl) (by kernel_rfl) hl)).trans hv1
        refine one_callv _ _ _ rfl rfl ef (enters_of Try.func22 (by kernel_rfl) rfl) #[.slice a1 n1 c1, .slice rl p cl] (eval2 ex1 ex2) ?_
        refine (same_true _ _ a1 rl n1 p c1 cl hn1 HP.out (by have := (set_canon (L)).1; omega) (h3) w' hs1 (HS10.out.l.below hb) rfl).mono ?_
        rintro e2 w2 ⟨rfl, hb2⟩
        exact ⟨_, rfl, _, rfl, hb2, rfl⟩
      · intro vs w' F hb0 hd hF hl hT hQ
        have hb := hb0 (Nat.le_refl _)
        have hsz := hb.size
        have e := ((hF 61).trans (look_at _ 61 4 _ _ (by kernel_rfl) (by kernel_rfl) hl)).trans (dep_of (Fact := F_st wR.heap.size w.heap.size A B L X Y i ra rb rl rx ry n m p nx ny ca cb cl cx cy) hd 4 (by kernel_rfl))
        exact one_move _ rfl (by first | exact Or.inl rfl | exact Or.inr rfl) ⟨_, rfl, Below.refl _ _, e⟩
      · intro vs w' F hb0 hd hF hl hT hQ
        have hb := hb0 (Nat.le_refl _)
        have hsz := hb.size
        have eg := ((hF 62).trans (look_at _ 62 5 _ _ (by kernel_rfl) (by kernel_rfl) hl)).trans (dep_of (Fact := F_st wR.heap.size w.heap.size A B L X Y i ra rb rl rx ry n m p nx ny ca cb cl cx cy) hd 5 (by kernel_rfl))
        refine wpList_on rfl (t := 62) (by kernel_rfl) eg ?_
        have e := (hF 18).trans (look_out _ 18 _ _ (by kernel_rfl))
        exact one_move _ rfl (by first | exact Or.inl rfl | exact Or.inr rfl) ⟨_, rfl, Below.refl _ _, e⟩
      · intro vs w' F hb0 hd hF hl hT hQ
        have hb := hb0 (Nat.le_refl _)
        have hsz := hb.size
        have eg := ((hF 62).trans (look_at _ 62 5 _ _ (by kernel_rfl) (by kernel_rfl) hl)).trans (dep_of (Fact := F_st wR.heap.size w.heap.size A B L X Y i ra rb rl rx ry n m p nx ny ca cb cl cx cy) hd 5 (by kernel_rfl))
        refine wpList_on rfl (t := 62) (by kernel_rfl) eg ?_
        have e := (hF 11).trans (look_out _ 11 _ _ (by kernel_rfl))
        exact one_move _ rfl (by first | exact Or.inl rfl | exact Or.inr rfl) ⟨_, rfl, Below.refl _ _, e⟩
      · intro vs w' F hb0 hd hF hl hT hQ
        have hb := hb0 (Nat.le_refl _)
        have hsz := hb.size
        have eg := ((hF 62).trans (look_at _ 62 5 _ _ (by kernel_rfl) (by kernel_rfl) hl)).trans (dep_of (Fact := F_st wR.heap.size w.heap.size A B L X Y i ra rb rl rx ry n m p nx ny ca cb cl cx cy) hd 5 (by kernel_rfl))
        refine wpList_on rfl (t := 62) (by kernel_rfl) eg ?_
        have e := (hF 6).trans (look_out _ 6 _ _ (by kernel_rfl))
        exact one_load _ _ rfl rfl _ _ e ((HS10.out.below hb).cell) (by kernel_rfl) ⟨_, rfl, Below.refl _ _, rfl⟩
      · intro vs w' F hb0 hd hF hl hT hQ
        have hb := hb0 (Nat.le_refl _)
        have hsz := hb.size
        have eg := ((hF 62).trans (look_at _ 62 5 _ _ (by kernel_rfl) (by kernel_rfl) hl)).trans (dep_of (Fact := F_st wR.heap.size w.heap.size A B L X Y i ra rb rl rx ry n m p nx ny ca cb cl cx cy) hd 5 (by kernel_rfl))
        refine wpList_on rfl (t := 62) (by kernel_rfl) eg ?_
        refine one_call _ _ rfl rfl (enters_of Try.func24 (by kernel_rfl) rfl) #[.slice ra n ca, .int .i64 i] (eval2 (((hF 64).trans (look_at _ 64 7 _ _ (by kernel_rfl) (by kernel_rfl) hl)).trans (dep_of (Fact := F_st wR.heap.size w.heap.size A B L X Y i ra rb rl rx ry n m p nx ny ca cb cl cx cy) hd 7 (by kernel_rfl))) (((hF 65).trans (look_at _ 65 8 _ _ (by kernel_rfl) (by kernel_rfl) hl)).trans (dep_of (Fact := F_st wR.heap.size w.heap.size A B L X Y i ra rb rl rx ry n m p nx ny ca cb cl cx cy) hd 8 (by kernel_rfl)))) ?_
        refine (CWI.out w' hb).mono ?_
        rintro e2 w2 ⟨a9, n9, c9, hn9, rfl, _, hb2, ho9⟩
        exact ⟨_, rfl, _, rfl, hb2, a9, n9, c9, hn9, rfl, own_lower ho9 hsz⟩
      · intro vs w' F hb0 hd hF hl hT hQ
        have hb := hb0 (Nat.le_refl _)
        have hsz := hb.size
        have eg := ((hF 62).trans (look_at _ 62 5 _ _ (by kernel_rfl) (by kernel_rfl) hl)).trans (dep_of (Fact := F_st wR.heap.size w.heap.size A B L X Y i ra rb rl rx ry n m p nx ny ca cb cl cx cy) hd 5 (by kernel_rfl))
        refine wpList_on rfl (t := 62) (by kernel_rfl) eg ?_
        have e := (hF 9).trans (look_out _ 9 _ _ (by kernel_rfl))
        exact one_move _ rfl (by first | exact Or.inl rfl | exact Or.inr rfl) ⟨_, rfl, Below.refl _ _, e⟩
      · intro vs w' F hb0 hd hF hl hT hQ
        have hb := hb0 (Nat.le_refl _)
        have hsz := hb.size
        have eg := ((hF 62).trans (look_at _ 62 5 _ _ (by kernel_rfl) (by kernel_rfl) hl)).trans (dep_of (Fact := F_st wR.heap.size w.heap.size A B L X Y i ra rb rl rx ry n m p nx ny ca cb cl cx cy) hd 5 (by kernel_rfl))
        refine wpList_on rfl (t := 62) (by kernel_rfl) eg ?_
        have e1 := (((hF 67).trans (look_at _ 67 10 _ _ (by kernel_rfl) (by kernel_rfl) hl)).trans (dep_of (Fact := F_st wR.heap.size w.heap.size A B L X Y i ra rb rl rx ry n m p nx ny ca cb cl cx cy) hd 10 (by kernel_rfl)))
        refine one_call _ _ rfl rfl (enters_of Try.func25 (by kernel_rfl) rfl) #[.slice rx nx cx] (eval1 e1) ?_
        refine (CCL.out w' hb).mono ?_
        rintro e2 w2 ⟨v9, rfl, ho9, hb2⟩
        obtain ⟨a9, c9, rfl⟩ := own_slice ho9
        exact ⟨_, rfl, _, rfl, hb2, a9, nx, c9, HNX.out, rfl, own_lower ho9 hsz⟩
      · intro vs w' F hb0 hd hF hl hT hQ
        have hb := hb0 (Nat.le_refl _)
        have hsz := hb.size
        have eg := ((hF 62).trans (look_at _ 62 5 _ _ (by kernel_rfl) (by kernel_rfl) hl)).trans (dep_of (Fact := F_st wR.heap.size w.heap.size A B L X Y i ra rb rl rx ry n m p nx ny ca cb cl cx cy) hd 5 (by kernel_rfl))
        refine wpList_on rfl (t := 62) (by kernel_rfl) eg ?_
        have e := (hF 6).trans (look_out _ 6 _ _ (by kernel_rfl))
        exact one_load _ _ rfl rfl _ _ e ((HS10.out.below hb).cell) (by kernel_rfl) ⟨_, rfl, Below.refl _ _, rfl⟩
      · intro vs w' F hb0 hd hF hl hT hQ
        have hb := hb0 (Nat.le_refl _)
        have hsz := hb.size
        have eg := ((hF 62).trans (look_at _ 62 5 _ _ (by kernel_rfl) (by kernel_rfl) hl)).trans (dep_of (Fact := F_st wR.heap.size w.heap.size A B L X Y i ra rb rl rx ry n m p nx ny ca cb cl cx cy) hd 5 (by kernel_rfl))
        refine wpList_on rfl (t := 62) (by kernel_rfl) eg ?_
        have e := (((hF 69).trans (look_at _ 69 12 _ _ (by kernel_rfl) (by kernel_rfl) hl)).trans (dep_of (Fact := F_st wR.heap.size w.heap.size A B L X Y i ra rb rl rx ry n m p nx ny ca cb cl cx cy) hd 12 (by kernel_rfl)))
        refine one_slice1i 23 3 _ rfl rfl i e Try.underlying23 (by kernel_rfl) ?_
        exact ⟨_, rfl, (Below.refl _ _).alloc (Nat.le_refl _) _, _, rfl, heap_alloc_new w' _⟩
      · intro vs w' F hb0 hd hF hl hT hQ
        have hb := hb0 (Nat.le_refl _)
        have hsz := hb.size
        have eg := ((hF 62).trans (look_at _ 62 5 _ _ (by kernel_rfl) (by kernel_rfl) hl)).trans (dep_of (Fact := F_st wR.heap.size w.heap.size A B L X Y i ra rb rl rx ry n m p nx ny ca cb cl cx cy) hd 5 (by kernel_rfl))
        refine wpList_on rfl (t := 62) (by kernel_rfl) eg ?_
        obtain ⟨a1, n1, c1, hn1, hv1, ho1⟩ := (dep_of (Fact := F_st wR.heap.size w.heap.size A B L X Y i ra rb rl rx ry n m p nx ny ca cb cl cx cy) hd 11 (by kernel_rfl))
        obtain ⟨Xb, hvb, hcb⟩ := (dep_of (Fact := F_st wR.heap.size w.heap.size A B L X Y i ra rb rl rx ry n m p nx ny ca cb cl cx cy) hd 13 (by kernel_rfl))
        have e1 := ((hF 68).trans (look_at _ 68 11 _ _ (by kernel_rfl) (by kernel_rfl) hl)).trans hv1
        have e2 := ((hF 70).trans (look_at _ 70 13 _ _ (by kernel_rfl) (by kernel_rfl) hl)).trans hvb
        refine one_append_row _ _ 23 3 rfl rfl Try.underlying23 (by kernel_rfl) wR.heap.size a1 n1 c1 X hn1 e1 ho1 Xb i e2 hcb (by have := HXL.out; omega) ?_
        intro a9 c9 w9 hi9 hr9
        exact ⟨_, rfl, hr9, a9, n1 + 1, c9, by simp [hn1], rfl, hi9⟩
      · intro vs w' F hb0 hd hF hl hT hQ
        have hb := hb0 (Nat.le_refl _)
        have hsz := hb.size
        have eg := ((hF 62).trans (look_at _ 62 5 _ _ (by kernel_rfl) (by kernel_rfl) hl)).trans (dep_of (Fact := F_st wR.heap.size w.heap.size A B L X Y i ra rb rl rx ry n m p nx ny ca cb cl cx cy) hd 5 (by kernel_rfl))
        refine wpList_on rfl (t := 62) (by kernel_rfl) eg ?_
        have ef := (((hF 63).trans (look_at _ 63 6 _ _ (by kernel_rfl) (by kernel_rfl) hl)).trans (dep_of (Fact := F_st wR.heap.size w.heap.size A B L X Y i ra rb rl rx ry n m p nx ny ca cb cl cx cy) hd 6 (by kernel_rfl)))
        obtain ⟨a1, n1, c1, hn1, hv1, hs1⟩ := SetF.at_ ((dep_of (Fact := F_st wR.heap.size w.heap.size A B L X Y i ra rb rl rx ry n m p nx ny ca cb cl cx cy) hd 9 (by kernel_rfl)))
        obtain ⟨a2, n2, c2, hn2, hv2, hs2⟩ := (dep_of (Fact := F_st wR.heap.size w.heap.size A B L X Y i ra rb rl rx ry n m p nx ny ca cb cl cx cy) hd 14 (by kernel_rfl))
        have ex1 := ((hF 66).trans (look_at _ 66 9 _ _ (by kernel_rfl) (by kernel_rfl) hl)).trans hv1
        have ex2 := ((hF 71).trans (look_at _ 71 14 _ _ (by kernel_rfl) (by kernel_rfl) hl)).trans hv2
        refine one_callv _ _ _ rfl rfl ef (enters_of Try.func22 (by kernel_rfl) rfl) #[.slice a1 n1 c1, .slice a2 n2 c2] (eval2 ex1 ex2) ?_
        refine (same_true _ _ a1 a2 n1 n2 c1 c2 hn1 hn2 (by have := (set_canon (X ++ [i])).1; omega) (by rw [← hn2, List.length_append]; have := HXL.out; simp; omega) w' hs1 hs2 rfl).mono ?_
        rintro e2 w2 ⟨rfl, hb2⟩
        exact ⟨_, rfl, _, rfl, hb2, rfl⟩
      · intro vs w' F hb0 hd hF hl hT hQ
        have hb := hb0 (Nat.le_refl _)
        have hsz := hb.size
        have ec := ((hF 62).trans (look_at _ 62 5 _ _ (by kernel_rfl) (by kernel_rfl) hl)).trans (dep_of (Fact := F_st wR.heap.size w.heap.size A B L X Y i ra rb rl rx ry n m p nx ny ca cb cl cx cy) hd 5 (by kernel_rfl))
        have e := ((hF 72).trans (look_at _ 72 15 _ _ (by kernel_rfl) (by kernel_rfl) hl)).trans (dep_of (Fact := F_st wR.heap.size w.heap.size A B L X Y i ra rb rl rx ry n m p nx ny ca cb cl cx cy) hd 15 (by kernel_rfl))
        exact one_pick_t _ _ _ rfl rfl _ ec e ⟨_, rfl, Below.refl _ _, rfl⟩
      · intro vs w' F hb0 hd hF hl hT hQ
        have hb := hb0 (Nat.le_refl _)
        have hsz := hb.size
        have e := ((hF 73).trans (look_at _ 73 16 _ _ (by kernel_rfl) (by kernel_rfl) hl)).trans (dep_of (Fact := F_st wR.heap.size w.heap.size A B L X Y i ra rb rl rx ry n m p nx ny ca cb cl cx cy) hd 16 (by kernel_rfl))
        exact one_move _ rfl (by first | exact Or.inl rfl | exact Or.inr rfl) ⟨_, rfl, Below.refl _ _, e⟩
      · intro vs w' F hb0 hd hF hl hT hQ
        have hb := hb0 (Nat.le_refl _)
        have hsz := hb.size
        have eg := ((hF 74).trans (look_at _ 74 17 _ _ (by kernel_rfl) (by kernel_rfl) hl)).trans (dep_of (Fact := F_st wR.heap.size w.heap.size A B L X Y i ra rb rl rx ry n m p nx ny ca cb cl cx cy) hd 17 (by kernel_rfl))
        refine wpList_on rfl (t := 74) (by kernel_rfl) eg ?_
        have e := (hF 18).trans (look_out _ 18 _ _ (by kernel_rfl))
        exact one_move _ rfl (by first | exact Or.inl rfl | exact Or.inr rfl) ⟨_, rfl, Below.refl _ _, e⟩
      · intro vs w' F hb0 hd hF hl hT hQ
        have hb := hb0 (Nat.le_refl _)
        have hsz := hb.size
        have eg := ((hF 74).trans (look_at _ 74 17 _ _ (by kernel_rfl) (by kernel_rfl) hl)).trans (dep_of (Fact := F_st wR.heap.size w.heap.size A B L X Y i ra rb rl rx ry n m p nx ny ca cb cl cx cy) hd 17 (by kernel_rfl))
        refine wpList_on rfl (t := 74) (by kernel_rfl) eg ?_
        have e := (hF 11).trans (look_out _ 11 _ _ (by kernel_rfl))
        exact one_move _ rfl (by first | exact Or.inl rfl | exact Or.inr rfl) ⟨_, rfl, Below.refl _ _, e⟩
      · intro vs w' F hb0 hd hF hl hT hQ
        have hb := hb0 (Nat.le_refl _)
        have hsz := hb.size
        have eg := ((hF 74).trans (look_at _ 74 17 _ _ (by kernel_rfl) (by kernel_rfl) hl)).trans (dep_of (Fact := F_st wR.heap.size w.heap.size A B L X Y i ra rb rl rx ry n m p nx ny ca cb cl cx cy) hd 17 (by kernel_rfl))
        refine wpList_on rfl (t := 74) (by kernel_rfl) eg ?_
        have e := (hF 6).trans (look_out _ 6 _ _ (by kernel_rfl))
        exact one_load _ _ rfl rfl _ _ e ((HS10.out.below hb).cell) (by kernel_rfl) ⟨_, rfl, Below.refl _ _, rfl⟩
      · intro vs w' F hb0 hd hF hl hT hQ
        have hb := hb0 (Nat.le_refl _)
        have hsz := hb.size
        have eg := ((hF 74).trans (look_at _ 74 17 _ _ (by kernel_rfl) (by kernel_rfl) hl)).trans (dep_of (Fact := F_st wR.heap.size w.heap.size A B L X Y i ra rb rl rx ry n m p nx ny ca cb cl cx cy) hd 17 (by kernel_rfl))
        refine wpList_on rfl (t := 74) (by kernel_rfl) eg ?_
        refine one_call _ _ rfl rfl (enters_of Try.func26 (by kernel_rfl) rfl) #[.slice ra n ca, .int .i64 i] (eval2 (((hF 76).trans (look_at _ 76 19 _ _ (by kernel_rfl) (by kernel_rfl) hl)).trans (dep_of (Fact := F_st wR.heap.size w.heap.size A B L X Y i ra rb rl rx ry n m p nx ny ca cb cl cx cy) hd 19 (by kernel_rfl))) (((hF 77).trans (look_at _ 77 20 _ _ (by kernel_rfl) (by kernel_rfl) hl)).trans (dep_of (Fact := F_st wR.heap.size w.heap.size A B L X Y i ra rb rl rx ry n m p nx ny ca cb cl cx cy) hd 20 (by kernel_rfl)))) ?_
        refine (CWO.out w' hb).mono ?_
        rintro e2 w2 ⟨a9, n9, c9, hn9, rfl, _, hb2, ho9⟩
        exact ⟨_, rfl, _, rfl, hb2, a9, n9, c9, hn9, rfl, own_lower ho9 hsz⟩
      · intro vs w' F hb0 hd hF hl hT hQ
        have hb := hb0 (Nat.le_refl _)
        have hsz := hb.size
        have eg := ((hF 74).trans (look_at _ 74 17 _ _ (by kernel_rfl) (by kernel_rfl) hl)).trans (dep_of (Fact := F_st wR.heap.size w.heap.size A B L X Y i ra rb rl rx ry n m p nx ny ca cb cl cx cy) hd 17 (by kernel_rfl))
        refine wpList_on rfl (t := 74) (by kernel_rfl) eg ?_
        have e := (hF 15).trans (look_out _ 15 _ _ (by kernel_rfl))
        exact one_move _ rfl (by first | exact Or.inl rfl | exact Or.inr rfl) ⟨_, rfl, Below.refl _ _, e⟩
      · intro vs w' F hb0 hd hF hl hT hQ
        have hb := hb0 (Nat.le_refl _)
        have hsz := hb.size
        have eg := ((hF 74).trans (look_at _ 74 17 _ _ (by kernel_rfl) (by kernel_rfl) hl)).trans (dep_of (Fact := F_st wR.heap.size w.heap.size A B L X Y i ra rb rl rx ry n m p nx ny ca cb cl cx cy) hd 17 (by kernel_rfl))
        refine wpList_on rfl (t := 74) (by kernel_rfl) eg ?_
        have e := (hF 9).trans (look_out _ 9 _ _ (by kernel_rfl))
        exact one_move _ rfl (by first | exact Or.inl rfl | exact Or.inr rfl) ⟨_, rfl, Below.refl _ _, e⟩
      · intro vs w' F hb0 hd hF hl hT hQ
        have hb := hb0 (Nat.le_refl _)
        have hsz := hb.size
        have eg := ((hF 74).trans (look_at _ 74 17 _ _ (by kernel_rfl) (by kernel_rfl) hl)).trans (dep_of (Fact := F_st wR.heap.size w.heap.size A B L X Y i ra rb rl rx ry n m p nx ny ca cb cl cx cy) hd 17 (by kernel_rfl))
        refine wpList_on rfl (t := 74) (by kernel_rfl) eg ?_
        have e := ((hF 6).trans (look_out _ 6 _ _ (by kernel_rfl)))
        exact one_makeFunc _ _ _ rfl rfl (eval1 e) ⟨_, rfl, Below.refl _ _, rfl⟩
      · intro vs w' F hb0 hd hF hl hT hQ
        have hb := hb0 (Nat.le_refl _)
        have hsz := hb.size
        have eg := ((hF 74).trans (look_at _ 74 17 _ _ (by kernel_rfl) (by kernel_rfl) hl)).trans (dep_of (Fact := F_st wR.heap.size w.heap.size A B L X Y i ra rb rl rx ry n m p nx ny ca cb cl cx cy) hd 17 (by kernel_rfl))
        refine wpList_on rfl (t := 74) (by kernel_rfl) eg ?_
        have ef := (((hF 79).trans (look_at _ 79 22 _ _ (by kernel_rfl) (by kernel_rfl) hl)).trans (dep_of (Fact := F_st wR.heap.size w.heap.size A B L X Y i ra rb rl rx ry n m p nx ny ca cb cl cx cy) hd 22 (by kernel_rfl)))
        have e1 := (((hF 80).trans (look_at _ 80 23 _ _ (by kernel_rfl) (by kernel_rfl) hl)).trans (dep_of (Fact := F_st wR.heap.size w.heap.size A B L X Y i ra rb rl rx ry n m p nx ny ca cb cl cx cy) hd 23 (by kernel_rfl)))
        have e2 := (((hF 81).trans (look_at _ 81 24 _ _ (by kernel_rfl) (by kernel_rfl) hl)).trans (dep_of (Fact := F_st wR.heap.size w.heap.size A B L X Y i ra rb rl rx ry n m p nx ny ca cb cl cx cy) hd 24 (by kernel_rfl)))
        refine one_callv _ _ _ rfl rfl ef (enters_of Try.func17 (by kernel_rfl) rfl) #[.slice rx nx cx, .func (.func 27) #[] #[.pointer (some ⟨w.heap.size, 0, none⟩)]] (eval2 e1 e2) ?_
        refine (pick_cl 27 #[.pointer (some ⟨w.heap.size, 0, none⟩)] (fun n => n != i) X rx nx cx HNX.out (by omega) w' (HS10.out.x.below hb) (enters_of Try.func27 (by kernel_rfl) rfl) (fun k w1 h1 => ne_at w.heap.size i k w1 ((HS10.out.below (hb.trans (h1.mono hb.size))).cell))).mono ?_
        rintro e3 w2 ⟨a9, n9, c9, hn9, rfl, hs9, hb2⟩
        exact ⟨_, rfl, _, rfl, hb2, a9, n9, c9, hn9, rfl, hs9⟩
      · intro vs w' F hb0 hd hF hl hT hQ
        have hb := hb0 (Nat.le_refl _)
        have hsz := hb.size
        have eg := ((hF 74).trans (look_at _ 74 17 _ _ (by kernel_rfl) (by kernel_rfl) hl)).trans (dep_of (Fact := F_st wR.heap.size w.heap.size A B L X Y i ra rb rl rx ry n m p nx ny ca cb cl cx cy) hd 17 (by kernel_rfl))
        refine wpList_on rfl (t := 74) (by kernel_rfl) eg ?_
        have ef := (((hF 75).trans (look_at _ 75 18 _ _ (by kernel_rfl) (by kernel_rfl) hl)).trans (dep_of (Fact := F_st wR.heap.size w.heap.size A B L X Y i ra rb rl rx ry n m p nx ny ca cb cl cx cy) hd 18 (by kernel_rfl)))
        obtain ⟨a1, n1, c1, hn1, hv1, hs1⟩ := SetF.at_ ((dep_of (Fact := F_st wR.heap.size w.heap.size A B L X Y i ra rb rl rx ry n m p nx ny ca cb cl cx cy) hd 21 (by kernel_rfl)))
        obtain ⟨a2, n2, c2, hn2, hv2, hs2⟩ := (dep_of (Fact := F_st wR.heap.size w.heap.size A B L X Y i ra rb rl rx ry n m p nx ny ca cb cl cx cy) hd 25 (by kernel_rfl))
        have ex1 := ((hF 78).trans (look_at _ 78 21 _ _ (by kernel_rfl) (by kernel_rfl) hl)).trans hv1
        have ex2 := ((hF 82).trans (look_at _ 82 25 _ _ (by kernel_rfl) (by kernel_rfl) hl)).trans hv2
        refine one_callv _ _ _ rfl rfl ef (enters_of Try.func22 (by kernel_rfl) rfl) #[.slice a1 n1 c1, .slice a2 n2 c2] (eval2 ex1 ex2) ?_
        refine (same_true _ _ a1 a2 n1 n2 c1 c2 hn1 hn2 (by have := (set_canon (X.filter (fun n => n != i))).1; omega) (by rw [← hn2]; have := List.length_filter_le (fun n => n != i) X; have := HXL.out; omega) w' hs1 hs2 rfl).mono ?_
        rintro e2 w2 ⟨rfl, hb2⟩
        exact ⟨_, rfl, _, rfl, hb2, rfl⟩
      · intro vs w' F hb0 hd hF hl hT hQ
        have hb := hb0 (Nat.le_refl _)
        have hsz := hb.size
        have ec := ((hF 74).trans (look_at _ 74 17 _ _ (by kernel_rfl) (by kernel_rfl) hl)).trans (dep_of (Fact := F_st wR.heap.size w.heap.size A B L X Y i ra rb rl rx ry n m p nx ny ca cb cl cx cy) hd 17 (by kernel_rfl))
        have e := ((hF 83).trans (look_at _ 83 26 _ _ (by kernel_rfl) (by kernel_rfl) hl)).trans (dep_of (Fact := F_st wR.heap.size w.heap.size A B L X Y i ra rb rl rx ry n m p nx ny ca cb cl cx cy) hd 26 (by kernel_rfl))
        exact one_pick_t _ _ _ rfl rfl _ ec e ⟨_, rfl, Below.refl _ _, rfl⟩
      · intro vs w' F hb0 hd hF hl hT hQ
        have hb := hb0 (Nat.le_refl _)
        have hsz := hb.size
        have e := ((hF 84).trans (look_at _ 84 27 _ _ (by kernel_rfl) (by kernel_rfl) hl)).trans (dep_of (Fact := F_st wR.heap.size w.heap.size A B L X Y i ra rb rl rx ry n m p nx ny ca cb cl cx cy) hd 27 (by kernel_rfl))
        exact one_move _ rfl (by first | exact Or.inl rfl | exact Or.inr rfl) ⟨_, rfl, Below.refl _ _, e⟩
      · intro vs w' F hb0 hd hF hl hT hQ
        have hb := hb0 (Nat.le_refl _)
        have hsz := hb.size
        have eg := ((hF 85).trans (look_at _ 85 28 _ _ (by kernel_rfl) (by kernel_rfl) hl)).trans (dep_of (Fact := F_st wR.heap.size w.heap.size A B L X Y i ra rb rl rx ry n m p nx ny ca cb cl cx cy) hd 28 (by kernel_rfl))
        refine wpList_on rfl (t := 85) (by kernel_rfl) eg ?_
        have e := (hF 18).trans (look_out _ 18 _ _ (by kernel_rfl))
        exact one_move _ rfl (by first | exact Or.inl rfl | exact Or.inr rfl) ⟨_, rfl, Below.refl _ _, e⟩
      · intro vs w' F hb0 hd hF hl hT hQ
        have hb := hb0 (Nat.le_refl _)
        have hsz := hb.size
        have eg := ((hF 85).trans (look_at _ 85 28 _ _ (by kernel_rfl) (by kernel_rfl) hl)).trans (dep_of (Fact := F_st wR.heap.size w.heap.size A B L X Y i ra rb rl rx ry n m p nx ny ca cb cl cx cy) hd 28 (by kernel_rfl))
        refine wpList_on rfl (t := 85) (by kernel_rfl) eg ?_
        have e := (hF 11).trans (look_out _ 11 _ _ (by kernel_rfl))
        exact one_move _ rfl (by first | exact Or.inl rfl | exact Or.inr rfl) ⟨_, rfl, Below.refl _ _, e⟩
      · intro vs w' F hb0 hd hF hl hT hQ
        have hb := hb0 (Nat.le_refl _)
        have hsz := hb.size
        have eg := ((hF 85).trans (look_at _ 85 28 _ _ (by kernel_rfl) (by kernel_rfl) hl)).trans (dep_of (Fact := F_st wR.heap.size w.heap.size A B L X Y i ra rb rl rx ry n m p nx ny ca cb cl cx cy) hd 28 (by kernel_rfl))
        refine wpList_on rfl (t := 85) (by kernel_rfl) eg ?_
        have e := (hF 12).trans (look_out _ 12 _ _ (by kernel_rfl))
        exact one_move _ rfl (by first | exact Or.inl rfl | exact Or.inr rfl) ⟨_, rfl, Below.refl _ _, e⟩
      · intro vs w' F hb0 hd hF hl hT hQ
        have hb := hb0 (Nat.le_refl _)
        have hsz := hb.size
        have eg := ((hF 85).trans (look_at _ 85 28 _ _ (by kernel_rfl) (by kernel_rfl) hl)).trans (dep_of (Fact := F_st wR.heap.size w.heap.size A B L X Y i ra rb rl rx ry n m p nx ny ca cb cl cx cy) hd 28 (by kernel_rfl))
        refine wpList_on rfl (t := 85) (by kernel_rfl) eg ?_
        refine one_call _ _ rfl rfl (enters_of Try.func28 (by kernel_rfl) rfl) #[.slice ra n ca, .slice rb m cb] (eval2 (((hF 87).trans (look_at _ 87 30 _ _ (by kernel_rfl) (by kernel_rfl) hl)).trans (dep_of (Fact := F_st wR.heap.size w.heap.size A B L X Y i ra rb rl rx ry n m p nx ny ca cb cl cx cy) hd 30 (by kernel_rfl))) (((hF 88).trans (look_at _ 88 31 _ _ (by kernel_rfl) (by kernel_rfl) hl)).trans (dep_of (Fact := F_st wR.heap.size w.heap.size A B L X Y i ra rb rl rx ry n m p nx ny ca cb cl cx cy) hd 31 (by kernel_rfl)))) ?_
        refine (CEI.out w' hb).mono ?_
        rintro e2 w2 ⟨a9, n9, c9, hn9, rfl, _, hb2, ho9⟩
        exact ⟨_, rfl, _, rfl, hb2, a9, n9, c9, hn9, rfl, own_lower ho9 hsz⟩
      · intro vs w' F hb0 hd hF hl hT hQ
        have hb := hb0 (Nat.le_refl _)
        have hsz := hb.size
        have eg := ((hF 85).trans (look_at _ 85 28 _ _ (by kernel_rfl) (by kernel_rfl) hl)).trans (dep_of (Fact := F_st wR.heap.size w.heap.size A B L X Y i ra rb rl rx ry n m p nx ny ca cb cl cx cy) hd 28 (by kernel_rfl))
        refine wpList_on rfl (t := 85) (by kernel_rfl) eg ?_
        have e := (hF 9).trans (look_out _ 9 _ _ (by kernel_rfl))
        exact one_move _ rfl (by first | exact Or.inl rfl | exact Or.inr rfl) ⟨_, rfl, Below.refl _ _, e⟩
      · intro vs w' F hb0 hd hF hl hT hQ
        have hb := hb0 (Nat.le_refl _)
        have hsz := hb.size
        have eg := ((hF 85).trans (look_at _ 85 28 _ _ (by kernel_rfl) (by kernel_rfl) hl)).trans (dep_of (Fact := F_st wR.heap.size w.heap.size A B L X Y i ra rb rl rx ry n m p nx ny ca cb cl cx cy) hd 28 (by kernel_rfl))
        refine wpList_on rfl (t := 85) (by kernel_rfl) eg ?_
        have e := (hF 10).trans (look_out _ 10 _ _ (by kernel_rfl))
        exact one_move _ rfl (by first | exact Or.inl rfl | exact Or.inr rfl) ⟨_, rfl, Below.refl _ _, e⟩
      · intro vs w' F hb0 hd hF hl hT hQ
        have hb := hb0 (Nat.le_refl _)
        have hsz := hb.size
        have eg := ((hF 85).trans (look_at _ 85 28 _ _ (by kernel_rfl) (by kernel_rfl) hl)).trans (dep_of (Fact := F_st wR.heap.size w.heap.size A B L X Y i ra rb rl rx ry n m p nx ny ca cb cl cx cy) hd 28 (by kernel_rfl))
        refine wpList_on rfl (t := 85) (by kernel_rfl) eg ?_
        have e1 := (((hF 90).trans (look_at _ 90 33 _ _ (by kernel_rfl) (by kernel_rfl) hl)).trans (dep_of (Fact := F_st wR.heap.size w.heap.size A B L X Y i ra rb rl rx ry n m p nx ny ca cb cl cx cy) hd 33 (by kernel_rfl)))
        have e2 := (((hF 91).trans (look_at _ 91 34 _ _ (by kernel_rfl) (by kernel_rfl) hl)).trans (dep_of (Fact := F_st wR.heap.size w.heap.size A B L X Y i ra rb rl rx ry n m p nx ny ca cb cl cx cy) hd 34 (by kernel_rfl)))
        refine one_slice2v 130 23 _ _ rfl rfl rx ry nx ny cx cy e1 e2 Try.underlying130 (by kernel_rfl) ?_
        exact ⟨_, rfl, (Below.refl _ _).alloc (Nat.le_refl _) _, _, rfl, heap_alloc_new w' _⟩
      · intro vs w' F hb0 hd hF hl hT hQ
        have hb := hb0 (Nat.le_refl _)
        have hsz := hb.size
        have eg := ((hF 85).trans (look_at _ 85 28 _ _ (by kernel_rfl) (by kernel_rfl) hl)).trans (dep_of (Fact := F_st wR.heap.size w.heap.size A B L X Y i ra rb rl rx ry n m p nx ny ca cb cl cx cy) hd 28 (by kernel_rfl))
        refine wpList_on rfl (t := 85) (by kernel_rfl) eg ?_
        obtain ⟨Xb, hvb, hcb⟩ := (dep_of (Fact := F_st wR.heap.size w.heap.size A B L X Y i ra rb rl rx ry n m p nx ny ca cb cl cx cy) hd 35 (by kernel_rfl))
        have e1 := ((hF 92).trans (look_at _ 92 35 _ _ (by kernel_rfl) (by kernel_rfl) hl)).trans hvb
        refine one_call _ _ rfl rfl (enters_of Try.func29 (by kernel_rfl) rfl) #[.slice (some ⟨Xb, 0, none⟩) 2 2] (eval1 e1) ?_
        refine (concat_ints [X, Y] (some ⟨Xb, 0, none⟩) 2 2 rfl (by omega) (by have := HXL.out; have := HYL.out; simp [toti]; omega) w' (two_rows hcb HNX.out HNY.out (HS10.out.x.below hb) (HS10.out.y.below hb))).mono ?_
        rintro e3 w2 ⟨a9, c9, rfl, hs9, hb2⟩
        exact ⟨_, rfl, _, rfl, hb2, a9, _, c9, flati_length _, rfl, hs9⟩
      · intro vs w' F hb0 hd hF hl hT hQ
        have hb := hb0 (Nat.le_refl _)
        have hsz := hb.size
        have eg := ((hF 85).trans (look_at _ 85 28 _ _ (by kernel_rfl) (by kernel_rfl) hl)).trans (dep_of (Fact := F_st wR.heap.size w.heap.size A B L X Y i ra rb rl rx ry n m p nx ny ca cb cl cx cy) hd 28 (by kernel_rfl))
        refine wpList_on rfl (t := 85) (by kernel_rfl) eg ?_
        have ef := (((hF 86).trans (look_at _ 86 29 _ _ (by kernel_rfl) (by kernel_rfl) hl)).trans (dep_of (Fact := F_st wR.heap.size w.heap.size A B L X Y i ra rb rl rx ry n m p nx ny ca cb cl cx cy) hd 29 (by kernel_rfl)))
        obtain ⟨a1, n1, c1, hn1, hv1, hs1⟩ := SetF.at_ ((dep_of (Fact := F_st wR.heap.size w.heap.size A B L X Y i ra rb rl rx ry n m p nx ny ca cb cl cx cy) hd 32 (by kernel_rfl)))
        obtain ⟨a2, n2, c2, hn2, hv2, hs2⟩ := (dep_of (Fact := F_st wR.heap.size w.heap.size A B L X Y i ra rb rl rx ry n m p nx ny ca cb cl cx cy) hd 36 (by kernel_rfl))
        have ex1 := ((hF 89).trans (look_at _ 89 32 _ _ (by kernel_rfl) (by kernel_rfl) hl)).trans hv1
        have ex2 := ((hF 93).trans (look_at _ 93 36 _ _ (by kernel_rfl) (by kernel_rfl) hl)).trans hv2
        refine one_callv _ _ _ rfl rfl ef (enters_of Try.func22 (by kernel_rfl) rfl) #[.slice a1 n1 c1, .slice a2 n2 c2] (eval2 ex1 ex2) ?_
        refine (same_true _ _ a1 a2 n1 n2 c1 c2 hn1 hn2 (by have := (set_canon ([X, Y].flatten)).1; omega) (by rw [← hn2, flati_length]; have := HXL.out; have := HYL.out; simp [toti]; omega) w' hs1 hs2 rfl).mono ?_
        rintro e2 w2 ⟨rfl, hb2⟩
        exact ⟨_, rfl, _, rfl, hb2, rfl⟩
      · intro vs w' F hb0 hd hF hl hT hQ
        have hb := hb0 (Nat.le_refl _)
        have hsz := hb.size
        have ec := ((hF 85).trans (look_at _ 85 28 _ _ (by kernel_rfl) (by kernel_rfl) hl)).trans (dep_of (Fact := F_st wR.heap.size w.heap.size A B L X Y i ra rb rl rx ry n m p nx ny ca cb cl cx cy) hd 28 (by kernel_rfl))
        have e := ((hF 94).trans (look_at _ 94 37 _ _ (by kernel_rfl) (by kernel_rfl) hl)).trans (dep_of (Fact := F_st wR.heap.size w.heap.size A B L X Y i ra rb rl rx ry n m p nx ny ca cb cl cx cy) hd 37 (by kernel_rfl))
        exact one_pick_t _ _ _ rfl rfl _ ec e ⟨_, rfl, Below.refl _ _, rfl⟩
      · intro vs w' F hb0 hd hF hl hT hQ
        have hb := hb0 (Nat.le_refl _)
        have hsz := hb.size
        have e := ((hF 95).trans (look_at _ 95 38 _ _ (by kernel_rfl) (by kernel_rfl) hl)).trans (dep_of (Fact := F_st wR.heap.size w.heap.size A B L X Y i ra rb rl rx ry n m p nx ny ca cb cl cx cy) hd 38 (by kernel_rfl))
        exact one_move _ rfl (by first | exact Or.inl rfl | exact Or.inr rfl) ⟨_, rfl, Below.refl _ _, e⟩
      · intro vs w' F hb0 hd hF hl hT hQ
        have hb := hb0 (Nat.le_refl _)
        have hsz := hb.size
        have eg := ((hF 96).trans (look_at _ 96 39 _ _ (by kernel_rfl) (by kernel_rfl) hl)).trans (dep_of (Fact := F_st wR.heap.size w.heap.size A B L X Y i ra rb rl rx ry n m p nx ny ca cb cl cx cy) hd 39 (by kernel_rfl))
        refine wpList_on rfl (t := 96) (by kernel_rfl) eg ?_
        have e := (hF 18).trans (look_out _ 18 _ _ (by kernel_rfl))
        exact one_move _ rfl (by first | exact Or.inl rfl | exact Or.inr rfl) ⟨_, rfl, Below.refl _ _, e⟩
      · intro vs w' F hb0 hd hF hl hT hQ
        have hb := hb0 (Nat.le_refl _)
        have hsz := hb.size
        have eg := ((hF 96).trans (look_at _ 96 39 _ _ (by kernel_rfl) (by kernel_rfl) hl)).trans (dep_of (Fact := F_st wR.heap.size w.heap.size A B L X Y i ra rb rl rx ry n m p nx ny ca cb cl cx cy) hd 39 (by kernel_rfl))
        refine wpList_on rfl (t := 96) (by kernel_rfl) eg ?_
        have e := (hF 11).trans (look_out _ 11 _ _ (by kernel_rfl))
        exact one_move _ rfl (by first | exact Or.inl rfl | exact Or.inr rfl) ⟨_, rfl, Below.refl _ _, e⟩
      · intro vs w' F hb0 hd hF hl hT hQ
        have hb := hb0 (Nat.le_refl _)
        have hsz := hb.size
        have eg := ((hF 96).trans (look_at _ 96 39 _ _ (by kernel_rfl) (by kernel_rfl) hl)).trans (dep_of (Fact := F_st wR.heap.size w.heap.size A B L X Y i ra rb rl rx ry n m p nx ny ca cb cl cx cy) hd 39 (by kernel_rfl))
        refine wpList_on rfl (t := 96) (by kernel_rfl) eg ?_
        have e := (hF 12).trans (look_out _ 12 _ _ (by kernel_rfl))
        exact one_move _ rfl (by first | exact Or.inl rfl | exact Or.inr rfl) ⟨_, rfl, Below.refl _ _, e⟩
      · intro vs w' F hb0 hd hF hl hT hQ
        have hb := hb0 (Nat.le_refl _)
        have hsz := hb.size
        have eg := ((hF 96).trans (look_at _ 96 39 _ _ (by kernel_rfl) (by kernel_rfl) hl)).trans (dep_of (Fact := F_st wR.heap.size w.heap.size A B L X Y i ra rb rl rx ry n m p nx ny ca cb cl cx cy) hd 39 (by kernel_rfl))
        refine wpList_on rfl (t := 96) (by kernel_rfl) eg ?_
        refine one_call _ _ rfl rfl (enters_of Try.func30 (by kernel_rfl) rfl) #[.slice ra n ca, .slice rb m cb] (eval2 (((hF 98).trans (look_at _ 98 41 _ _ (by kernel_rfl) (by kernel_rfl) hl)).trans (dep_of (Fact := F_st wR.heap.size w.heap.size A B L X Y i ra rb rl rx ry n m p nx ny ca cb cl cx cy) hd 41 (by kernel_rfl))) (((hF 99).trans (look_at _ 99 42 _ _ (by kernel_rfl) (by kernel_rfl) hl)).trans (dep_of (Fact := F_st wR.heap.size w.heap.size A B L X Y i ra rb rl rx ry n m p nx ny ca cb cl cx cy) hd 42 (by kernel_rfl)))) ?_
        refine (CBO.out w' hb).mono ?_
        rintro e2 w2 ⟨a9, n9, c9, hn9, rfl, _, hb2, ho9⟩
        exact ⟨_, rfl, _, rfl, hb2, a9, n9, c9, hn9, rfl, own_lower ho9 hsz⟩
      · intro vs w' F hb0 hd hF hl hT hQ
        have hb := hb0 (Nat.le_refl _)
        have hsz := hb.size
        have eg := ((hF 96).trans (look_at _ 96 39 _ _ (by kernel_rfl) (by kernel_rfl) hl)).trans (dep_of (Fact := F_st wR.heap.size w.heap.size A B L X Y i ra rb rl rx ry n m p nx ny ca cb cl cx cy) hd 39 (by kernel_rfl))
        refine wpList_on rfl (t := 96) (by kernel_rfl) eg ?_
        have e := (hF 15).trans (look_out _ 15 _ _ (by kernel_rfl))
        exact one_move _ rfl (by first | exact Or.inl rfl | exact Or.inr rfl) ⟨_, rfl, Below.refl _ _, e⟩
      · intro vs w' F hb0 hd hF hl hT hQ
        have hb := hb0 (Nat.le_refl _)
        have hsz := hb.size
        have eg := ((hF 96).trans (look_at _ 96 39 _ _ (by kernel_rfl) (by kernel_rfl) hl)).trans (dep_of (Fact := F_st wR.heap.size w.heap.size A B L X Y i ra rb rl rx ry n m p nx ny ca cb cl cx cy) hd 39 (by kernel_rfl))
        refine wpList_on rfl (t := 96) (by kernel_rfl) eg ?_
        have e := (hF 9).trans (look_out _ 9 _ _ (by kernel_rfl))
        exact one_move _ rfl (by first | exact Or.inl rfl | exact Or.inr rfl) ⟨_, rfl, Below.refl _ _, e⟩
      · intro vs w' F hb0 hd hF hl hT hQ
        have hb := hb0 (Nat.le_refl _)
        have hsz := hb.size
        have eg := ((hF 96).trans (look_at _ 96 39 _ _ (by kernel_rfl) (by kernel_rfl) hl)).trans (dep_of (Fact := F_st wR.heap.size w.heap.size A B L X Y i ra rb rl rx ry n m p nx ny ca cb cl cx cy) hd 39 (by kernel_rfl))
        refine wpList_on rfl (t := 96) (by kernel_rfl) eg ?_
        have e := (hF 13).trans (look_out _ 13 _ _ (by kernel_rfl))
        exact one_move _ rfl (by first | exact Or.inl rfl | exact Or.inr rfl) ⟨_, rfl, Below.refl _ _, e⟩
      · intro vs w' F hb0 hd hF hl hT hQ
        have hb := hb0 (Nat.le_refl _)
        have hsz := hb.size
        have eg := ((hF 96).trans (look_at _ 96 39 _ _ (by kernel_rfl) (by kernel_rfl) hl)).trans (dep_of (Fact := F_st wR.heap.size w.heap.size A B L X Y i ra rb rl rx ry n m p nx ny ca cb cl cx cy) hd 39 (by kernel_rfl))
        refine wpList_on rfl (t := 96) (by kernel_rfl) eg ?_
        have e := (hF 10).trans (look_out _ 10 _ _ (by kernel_rfl))
        exact one_move _ rfl (by first | exact Or.inl rfl | exact Or.inr rfl) ⟨_, rfl, Below.refl _ _, e⟩
      · intro vs w' F hb0 hd hF hl hT hQ
        have hb := hb0 (Nat.le_refl _)
        have hsz := hb.size
        have eg := ((hF 96).trans (look_at _ 96 39 _ _ (by kernel_rfl) (by kernel_rfl) hl)).trans (dep_of (Fact := F_st wR.heap.size w.heap.size A B L X Y i ra rb rl rx ry n m p nx ny ca cb cl cx cy) hd 39 (by kernel_rfl))
        refine wpList_on rfl (t := 96) (by kernel_rfl) eg ?_
        have ef := (((hF 103).trans (look_at _ 103 46 _ _ (by kernel_rfl) (by kernel_rfl) hl)).trans (dep_of (Fact := F_st wR.heap.size w.heap.size A B L X Y i ra rb rl rx ry n m p nx ny ca cb cl cx cy) hd 46 (by kernel_rfl)))
        have e1 := (((hF 104).trans (look_at _ 104 47 _ _ (by kernel_rfl) (by kernel_rfl) hl)).trans (dep_of (Fact := F_st wR.heap.size w.heap.size A B L X Y i ra rb rl rx ry n m p nx ny ca cb cl cx cy) hd 47 (by kernel_rfl)))
        refine one_callv _ _ _ rfl rfl ef (enters_of Try.func12 (by kernel_rfl) rfl) #[.slice ry ny cy] (eval1 e1) ?_
        refine (in_cl ry ny cy w').mono ?_
        rintro e2 w2 ⟨rfl, rfl⟩
        exact ⟨_, rfl, _, rfl, (Below.refl _ _).alloc (Nat.le_refl _) _, _, rfl, cell_of_row _ _ 0 _ _ _ (heap_alloc_new w' _)⟩
      · intro vs w' F hb0 hd hF hl hT hQ
        have hb := hb0 (Nat.le_refl _)
        have hsz := hb.size
        have eg := ((hF 96).trans (look_at _ 96 39 _ _ (by kernel_rfl) (by kernel_rfl) hl)).trans (dep_of (Fact := F_st wR.heap.size w.heap.size A B L X Y i ra rb rl rx ry n m p nx ny ca cb cl cx cy) hd 39 (by kernel_rfl))
        refine wpList_on rfl (t := 96) (by kernel_rfl) eg ?_
        have ef := (((hF 101).trans (look_at _ 101 44 _ _ (by kernel_rfl) (by kernel_rfl) hl)).trans (dep_of (Fact := F_st wR.heap.size w.heap.size A B L X Y i ra rb rl rx ry n m p nx ny ca cb cl cx cy) hd 44 (by kernel_rfl)))
        have e1 := (((hF 102).trans (look_at _ 102 45 _ _ (by kernel_rfl) (by kernel_rfl) hl)).trans (dep_of (Fact := F_st wR.heap.size w.heap.size A B L X Y i ra rb rl rx ry n m p nx ny ca cb cl cx cy) hd 45 (by kernel_rfl)))
        obtain ⟨Xc, hvc, hcc⟩ := (dep_of (Fact := F_st wR.heap.size w.heap.size A B L X Y i ra rb rl rx ry n m p nx ny ca cb cl cx cy) hd 48 (by kernel_rfl))
        have e2 := ((hF 105).trans (look_at _ 105 48 _ _ (by kernel_rfl) (by kernel_rfl) hl)).trans hvc
        refine one_callv _ _ _ rfl rfl ef (enters_of Try.func17 (by kernel_rfl) rfl) #[.slice rx nx cx, .func (.func 13) #[] #[.pointer (some ⟨Xc, 0, none⟩)]] (eval2 e1 e2) ?_
        refine (pick_cl 13 #[.pointer (some ⟨Xc, 0, none⟩)] (fun k => decide (k ∈ Y)) X rx nx cx HNX.out (by omega) w' (HS10.out.x.below hb) (enters_of Try.func13 (by kernel_rfl) rfl) (fun k w1 h1 => in_at Xc Y ry ny cy HNY.out (by omega) k w1 (cell_abides hcc h1) (HS10.out.y.below (hb.trans (h1.mono hb.size))))).mono ?_
        rintro e3 w2 ⟨a9, n9, c9, hn9, rfl, hs9, hb2⟩
        exact ⟨_, rfl, _, rfl, hb2, a9, n9, c9, hn9, rfl, hs9⟩
      · intro vs w' F hb0 hd hF hl hT hQ
        have hb := hb0 (Nat.le_refl _)
        have hsz := hb.size
        have eg := ((hF 96).trans (look_at _ 96 39 _ _ (by kernel_rfl) (by kernel_rfl) hl)).trans (dep_of (Fact := F_st wR.heap.size w.heap.size A B L X Y i ra rb rl rx ry n m p nx ny ca cb cl cx cy) hd 39 (by kernel_rfl))
        refine wpList_on rfl (t := 96) (by kernel_rfl) eg ?_
        have ef := (((hF 97).trans (look_at _ 97 40 _ _ (by kernel_rfl) (by kernel_rfl) hl)).trans (dep_of (Fact := F_st wR.heap.size w.heap.size A B L X Y i ra rb rl rx ry n m p nx ny ca cb cl cx cy) hd 40 (by kernel_rfl)))
        obtain ⟨a1, n1, c1, hn1, hv1, hs1⟩ := SetF.at_ ((dep_of (Fact := F_st wR.heap.size w.heap.size A B L X Y i ra rb rl rx ry n m p nx ny ca cb cl cx cy) hd 43 (by kernel_rfl)))
        obtain ⟨a2, n2, c2, hn2, hv2, hs2⟩ := (dep_of (Fact := F_st wR.heap.size w.heap.size A B L X Y i ra rb rl rx ry n m p nx ny ca cb cl cx cy) hd 49 (by kernel_rfl))
        have ex1 := ((hF 100).trans (look_at _ 100 43 _ _ (by kernel_rfl) (by kernel_rfl) hl)).trans hv1
        have ex2 := ((hF 106).trans (look_at _ 106 49 _ _ (by kernel_rfl) (by kernel_rfl) hl)).trans hv2
        refine one_callv _ _ _ rfl rfl ef (enters_of Try.func22 (by kernel_rfl) rfl) #[.slice a1 n1 c1, .slice a2 n2 c2] (eval2 ex1 ex2) ?_
        refine (same_true _ _ a1 a2 n1 n2 c1 c2 hn1 hn2 (by have := (set_canon (X.filter (fun k => decide (k ∈ Y)))).1; omega) (by rw [← hn2]; have := List.length_filter_le (fun k => decide (k ∈ Y)) X; have := HXL.out; omega) w' hs1 hs2 rfl).mono ?_
        rintro e2 w2 ⟨rfl, hb2⟩
        exact ⟨_, rfl, _, rfl, hb2, rfl⟩
      · intro vs w' F hb0 hd hF hl hT hQ
        have hb := hb0 (Nat.le_refl _)
        have hsz := hb.size
        have ec := ((hF 96).trans (look_at _ 96 39 _ _ (by kernel_rfl) (by kernel_rfl) hl)).trans (dep_of (Fact := F_st wR.heap.size w.heap.size A B L X Y i ra rb rl rx ry n m p nx ny ca cb cl cx cy) hd 39 (by kernel_rfl))
        have e := ((hF 107).trans (look_at _ 107 50 _ _ (by kernel_rfl) (by kernel_rfl) hl)).trans (dep_of (Fact := F_st wR.heap.size w.heap.size A B L X Y i ra rb rl rx ry n m p nx ny ca cb cl cx cy) hd 50 (by kernel_rfl))
        exact one_pick_t _ _ _ rfl rfl _ ec e ⟨_, rfl, Below.refl _ _, rfl⟩
      · intro vs w' F hb0 hd hF hl hT hQ
        have hb := hb0 (Nat.le_refl _)
        have hsz := hb.size
        have e := ((hF 108).trans (look_at _ 108 51 _ _ (by kernel_rfl) (by kernel_rfl) hl)).trans (dep_of (Fact := F_st wR.heap.size w.heap.size A B L X Y i ra rb rl rx ry n m p nx ny ca cb cl cx cy) hd 51 (by kernel_rfl))
        exact one_move _ rfl (by first | exact Or.inl rfl | exact Or.inr rfl) ⟨_, rfl, Below.refl _ _, e⟩
      · intro vs w' F hb0 hd hF hl hT hQ
        have hb := hb0 (Nat.le_refl _)
        have hsz := hb.size
        have eg := ((hF 109).trans (look_at _ 109 52 _ _ (by kernel_rfl) (by kernel_rfl) hl)).trans (dep_of (Fact := F_st wR.heap.size w.heap.size A B L X Y i ra rb rl rx ry n m p nx ny ca cb cl cx cy) hd 52 (by kernel_rfl))
        refine wpList_on rfl (t := 109) (by kernel_rfl) eg ?_
        have e := (hF 18).trans (look_out _ 18 _ _ (by kernel_rfl))
        exact one_move _ rfl (by first | exact Or.inl rfl | exact Or.inr rfl) ⟨_, rfl, Below.refl _ _, e⟩
      · intro vs w' F hb0 hd hF hl hT hQ
        have hb := hb0 (Nat.le_refl _)
        have hsz := hb.size
        have eg := ((hF 109).trans (look_at _ 109 52 _ _ (by kernel_rfl) (by kernel_rfl) hl)).trans (dep_of (Fact := F_st wR.heap.size w.heap.size A B L X Y i ra rb rl rx ry n m p nx ny ca cb cl cx cy) hd 52 (by kernel_rfl))
        refine wpList_on rfl (t := 109) (by kernel_rfl) eg ?_
        have e := (hF 11).trans (look_out _ 11 _ _ (by kernel_rfl))
        exact one_move _ rfl (by first | exact Or.inl rfl | exact Or.inr rfl) ⟨_, rfl, Below.refl _ _, e⟩
      · intro vs w' F hb0 hd hF hl hT hQ
        have hb := hb0 (Nat.le_refl _)
        have hsz := hb.size
        have eg := ((hF 109).trans (look_at _ 109 52 _ _ (by kernel_rfl) (by kernel_rfl) hl)).trans (dep_of (Fact := F_st wR.heap.size w.heap.size A B L X Y i ra rb rl rx ry n m p nx ny ca cb cl cx cy) hd 52 (by kernel_rfl))
        refine wpList_on rfl (t := 109) (by kernel_rfl) eg ?_
        have e := (hF 12).trans (look_out _ 12 _ _ (by kernel_rfl))
        exact one_move _ rfl (by first | exact Or.inl rfl | exact Or.inr rfl) ⟨_, rfl, Below.refl _ _, e⟩
      · intro vs w' F hb0 hd hF hl hT hQ
        have hb := hb0 (Nat.le_refl _)
        have hsz := hb.size
        have eg := ((hF 109).trans (look_at _ 109 52 _ _ (by kernel_rfl) (by kernel_rfl) hl)).trans (dep_of (Fact := F_st wR.heap.size w.heap.size A B L X Y i ra rb rl rx ry n m p nx ny ca cb cl cx cy) hd 52 (by kernel_rfl))
        refine wpList_on rfl (t := 109) (by kernel_rfl) eg ?_
        refine one_call _ _ rfl rfl (enters_of Try.func31 (by kernel_rfl) rfl) #[.slice ra n ca, .slice rb m cb] (eval2 (((hF 111).trans (look_at _ 111 54 _ _ (by kernel_rfl) (by kernel_rfl) hl)).trans (dep_of (Fact := F_st wR.heap.size w.heap.size A B L X Y i ra rb rl rx ry n m p nx ny ca cb cl cx cy) hd 54 (by kernel_rfl))) (((hF 112).trans (look_at _ 112 55 _ _ (by kernel_rfl) (by kernel_rfl) hl)).trans (dep_of (Fact := F_st wR.heap.size w.heap.size A B L X Y i ra rb rl rx ry n m p nx ny ca cb cl cx cy) hd 55 (by kernel_rfl)))) ?_
        refine (CMI.out w' hb).mono ?_
        rintro e2 w2 ⟨a9, n9, c9, hn9, rfl, _, hb2, ho9⟩
        exact ⟨_, rfl, _, rfl, hb2, a9, n9, c9, hn9, rfl, own_lower ho9 hsz⟩
      · intro vs w' F hb0 hd hF hl hT hQ
        have hb := hb0 (Nat.le_refl _)
        have hsz := hb.size
        have eg := ((hF 109).trans (look_at _ 109 52 _ _ (by kernel_rfl) (by kernel_rfl) hl)).trans (dep_of (Fact := F_st wR.heap.size w.heap.size A B L X Y i ra rb rl rx ry n m p nx ny ca cb cl cx cy) hd 52 (by kernel_rfl))
        refine wpList_on rfl (t := 109) (by kernel_rfl) eg ?_
        have e := (hF 15).trans (look_out _ 15 _ _ (by kernel_rfl))
        exact one_move _ rfl (by first | exact Or.inl rfl | exact Or.inr rfl) ⟨_, rfl, Below.refl _ _, e⟩
      · intro vs w' F hb0 hd hF hl hT hQ
        have hb := hb0 (Nat.le_refl _)
        have hsz := hb.size
        have eg := ((hF 109).trans (look_at _ 109 52 _ _ (by kernel_rfl) (by kernel_rfl) hl)).trans (dep_of (Fact := F_st wR.heap.size w.heap.size A B L X Y i ra rb rl rx ry n m p nx ny ca cb cl cx cy) hd 52 (by kernel_rfl))
        refine wpList_on rfl (t := 109) (by kernel_rfl) eg ?_
        have e := (hF 9).trans (look_out _ 9 _ _ (by kernel_rfl))
        exact one_move _ rfl (by first | exact Or.inl rfl | exact Or.inr rfl) ⟨_, rfl, Below.refl _ _, e⟩
      · intro vs w' F hb0 hd hF hl hT hQ
        have hb := hb0 (Nat.le_refl _)
        have hsz := hb.size
        have eg := ((hF 109).trans (look_at _ 109 52 _ _ (by kernel_rfl) (by kernel_rfl) hl)).trans (dep_of (Fact := F_st wR.heap.size w.heap.size A B L X Y i ra rb rl rx ry n m p nx ny ca cb cl cx cy) hd 52 (by kernel_rfl))
        refine wpList_on rfl (t := 109) (by kernel_rfl) eg ?_
        have e := (hF 14).trans (look_out _ 14 _ _ (by kernel_rfl))
        exact one_move _ rfl (by first | exact Or.inl rfl | exact Or.inr rfl) ⟨_, rfl, Below.refl _ _, e⟩
      · intro vs w' F hb0 hd hF hl hT hQ
        have hb := hb0 (Nat.le_refl _)
        have hsz := hb.size
        have eg := ((hF 109).trans (look_at _ 109 52 _ _ (by kernel_rfl) (by kernel_rfl) hl)).trans (dep_of (Fact := F_st wR.heap.size w.heap.size A B L X Y i ra rb rl rx ry n m p nx ny ca cb cl cx cy) hd 52 (by kernel_rfl))
        refine wpList_on rfl (t := 109) (by kernel_rfl) eg ?_
        have e := (hF 10).trans (look_out _ 10 _ _ (by kernel_rfl))
        exact one_move _ rfl (by first | exact Or.inl rfl | exact Or.inr rfl) ⟨_, rfl, Below.refl _ _, e⟩
      · intro vs w' F hb0 hd hF hl hT hQ
        have hb := hb0 (Nat.le_refl _)
        have hsz := hb.size
        have eg := ((hF 109).trans (look_at _ 109 52 _ _ (by kernel_rfl) (by kernel_rfl) hl)).trans (dep_of (Fact := F_st wR.heap.size w.heap.size A B L X Y i ra rb rl rx ry n m p nx ny ca cb cl cx cy) hd 52 (by kernel_rfl))
        refine wpList_on rfl (t := 109) (by kernel_rfl) eg ?_
        have ef := (((hF 116).trans (look_at _ 116 59 _ _ (by kernel_rfl) (by kernel_rfl) hl)).trans (dep_of (Fact := F_st wR.heap.size w.heap.size A B L X Y i ra rb rl rx ry n m p nx ny ca cb cl cx cy) hd 59 (by kernel_rfl)))
        have e1 := (((hF 117).trans (look_at _ 117 60 _ _ (by kernel_rfl) (by kernel_rfl) hl)).trans (dep_of (Fact := F_st wR.heap.size w.heap.size A B L X Y i ra rb rl rx ry n m p nx ny ca cb cl cx cy) hd 60 (by kernel_rfl)))
        refine one_callv _ _ _ rfl rfl ef (enters_of Try.func15 (by kernel_rfl) rfl) #[.slice ry ny cy] (eval1 e1) ?_
        refine (not_cl ry ny cy w').mono ?_
        rintro e2 w2 ⟨rfl, rfl⟩
        exact ⟨_, rfl, _, rfl, (Below.refl _ _).alloc (Nat.le_refl _) _, _, rfl, cell_of_row _ _ 0 _ _ _ (heap_alloc_new w' _)⟩
      · intro vs w' F hb0 hd hF hl hT hQ
        have hb := hb0 (Nat.le_refl _)
        have hsz := hb.size
        have eg := ((hF 109).trans (look_at _ 109 52 _ _ (by kernel_rfl) (by kernel_rfl) hl)).trans (dep_of (Fact := F_st wR.heap.size w.heap.size A B L X Y i ra rb rl rx ry n m p nx ny ca cb cl cx cy) hd 52 (by kernel_rfl))
        refine wpList_on rfl (t := 109) (by kernel_rfl) eg ?_
        have ef := (((hF 114).trans (look_at _ 114 57 _ _ (by kernel_rfl) (by kernel_rfl) hl)).trans (dep_of (Fact := F_st wR.heap.size w.heap.size A B L X Y i ra rb rl rx ry n m p nx ny ca cb cl cx cy) hd 57 (by kernel_rfl)))
        have e1 := (((hF 115).trans (look_at _ 115 58 _ _ (by kernel_rfl) (by kernel_rfl) hl)).trans (dep_of (Fact := F_st wR.heap.size w.heap.size A B L X Y i ra rb rl rx ry n m p nx ny ca cb cl cx cy) hd 58 (by kernel_rfl)))
        obtain ⟨Xc, hvc, hcc⟩ := (dep_of (Fact := F_st wR.heap.size w.heap.size A B L X Y i ra rb rl rx ry n m p nx ny ca cb cl cx cy) hd 61 (by kernel_rfl))
        have e2 := ((hF 118).trans (look_at _ 118 61 _ _ (by kernel_rfl) (by kernel_rfl) hl)).trans hvc
        refine one_callv _ _ _ rfl rfl ef (enters_of Try.func17 (by kernel_rfl) rfl) #[.slice rx nx cx, .func (.func 16) #[] #[.pointer (some ⟨Xc, 0, none⟩)]] (eval2 e1 e2) ?_
        refine (pick_cl 16 #[.pointer (some ⟨Xc, 0, none⟩)] (fun k => !decide (k ∈ Y)) X rx nx cx HNX.out (by omega) w' (HS10.out.x.below hb) (enters_of Try.func16 (by kernel_rfl) rfl) (fun k w1 h1 => not_at Xc Y ry ny cy HNY.out (by omega) k w1 (cell_abides hcc h1) (HS10.out.y.below (hb.trans (h1.mono hb.size))))).mono ?_
        rintro e3 w2 ⟨a9, n9, c9, hn9, rfl, hs9, hb2⟩
        exact ⟨_, rfl, _, rfl, hb2, a9, n9, c9, hn9, rfl, hs9⟩
      · intro vs w' F hb0 hd hF hl hT hQ
        have hb := hb0 (Nat.le_refl _)
        have hsz := hb.size
        have eg := ((hF 109).trans (look_at _ 109 52 _ _ (by kernel_rfl) (by kernel_rfl) hl)).trans (dep_of (Fact := F_st wR.heap.size w.heap.size A B L X Y i ra rb rl rx ry n m p nx ny ca cb cl cx cy) hd 52 (by kernel_rfl))
        refine wpList_on rfl (t := 109) (by kernel_rfl) eg ?_
        have ef := (((hF 110).trans (look_at _ 110 53 _ _ (by kernel_rfl) (by kernel_rfl) hl)).trans (dep_of (Fact := F_st wR.heap.size w.heap.size A B L X Y i ra rb rl rx ry n m p nx ny ca cb cl cx cy) hd 53 (by kernel_rfl)))
        obtain ⟨a1, n1, c1, hn1, hv1, hs1⟩ := SetF.at_ ((dep_of (Fact := F_st wR.heap.size w.heap.size A B L X Y i ra rb rl rx ry n m p nx ny ca cb cl cx cy) hd 56 (by kernel_rfl)))
        obtain ⟨a2, n2, c2, hn2, hv2, hs2⟩ := (dep_of (Fact := F_st wR.heap.size w.heap.size A B L X Y i ra rb rl rx ry n m p nx ny ca cb cl cx cy) hd 62 (by kernel_rfl))
        have ex1 := ((hF 113).trans (look_at _ 113 56 _ _ (by kernel_rfl) (by kernel_rfl) hl)).trans hv1
        have ex2 := ((hF 119).trans (look_at _ 119 62 _ _ (by kernel_rfl) (by kernel_rfl) hl)).trans hv2
        refine one_callv _ _ _ rfl rfl ef (enters_of Try.func22 (by kernel_rfl) rfl) #[.slice a1 n1 c1, .slice a2 n2 c2] (eval2 ex1 ex2) ?_
        refine (same_true _ _ a1 a2 n1 n2 c1 c2 hn1 hn2 (by have := (set_canon (X.filter (fun k => !decide (k ∈ Y)))).1; omega) (by rw [← hn2]; have := List.length_filter_le (fun k => !decide (k ∈ Y)) X; have := HXL.out; omega) w' hs1 hs2 rfl).mono ?_
        rintro e2 w2 ⟨rfl, hb2⟩
        exact ⟨_, rfl, _, rfl, hb2, rfl⟩
      · intro vs w' F hb0 hd hF hl hT hQ
        have hb := hb0 (Nat.le_refl _)
        have hsz := hb.size
        have ec := ((hF 109).trans (look_at _ 109 52 _ _ (by kernel_rfl) (by kernel_rfl) hl)).trans (dep_of (Fact := F_st wR.heap.size w.heap.size A B L X Y i ra rb rl rx ry n m p nx ny ca cb cl cx cy) hd 52 (by kernel_rfl))
        have e := ((hF 120).trans (look_at _ 120 63 _ _ (by kernel_rfl) (by kernel_rfl) hl)).trans (dep_of (Fact := F_st wR.heap.size w.heap.size A B L X Y i ra rb rl rx ry n m p nx ny ca cb cl cx cy) hd 63 (by kernel_rfl))
        exact one_pick_t _ _ _ rfl rfl _ ec e ⟨_, rfl, Below.refl _ _, rfl⟩
      · intro vs w' F hb0 hd hF hl hT hQ
        have hb := hb0 (Nat.le_refl _)
        have hsz := hb.size
        have e := ((hF 121).trans (look_at _ 121 64 _ _ (by kernel_rfl) (by kernel_rfl) hl)).trans (dep_of (Fact := F_st wR.heap.size w.heap.size A B L X Y i ra rb rl rx ry n m p nx ny ca cb cl cx cy) hd 64 (by kernel_rfl))
        exact one_move _ rfl (by first | exact Or.inl rfl | exact Or.inr rfl) ⟨_, rfl, Below.refl _ _, e⟩
    · intro vs W1 hl hb hI
      have hb := hb (Nat.le_refl _)
      have i65 : vs.getD 65 undef = .bool true := hI 65 (by omega)
      generalize hA : fillAll _ _ vs = aR
      have e8 : aR.eval (.tmp 8) = .bool true := by
        rw [← hA]
        exact (eval_fill _ 8 _ _).trans ((look_at _ 8 65 _ _ (by kernel_rfl) (by kernel_rfl) hl).trans i65)
      have ed : aR.defers = [{ target := .collected D, args := #[] }] := by
        rw [← hA]
        exact fillAll_defers _ _ _
      clear hA
      have HB11 := Lib.hid (HB10.out.trans (hb.mono HB10.out.size))
      have HKD3 := heap_below HKD2.out hb
      clear hI hl hb i65 COF CWI CWO CEI CBO CMI CCL vs
      obtain ⟨T, ds⟩ := aR
      obtain rfl : ds = _ := ed
      have HT8 := Lib.hid (show T.getD 8 undef = .bool true from e8)
      clear e8
      show wpList _ _ _ [] _ _
      go_wp2_with fail
      refine ⟨by simp, .inl ⟨_, _, rfl, run_takeDeferred HKD3, ?_⟩⟩
      exact ⟨_, results_tmp rfl _ _ _, by rw [HT8.out], HB11.out.trans (belowK_b (w := w) (Nat.le_refl _) W1 D _ _ HDL.out HKD3 rfl rfl)⟩
  case stop =>
    rintro D c pre W _ _ h _
    exact h.elim
end Go.Proofs.Ytlahmcbaiebapaa
