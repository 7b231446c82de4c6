/- The reference's Longest. -/
import Derived.Test.YtembjokbhbdoeaaPlanLoP
import Derived.Test.YtembjokbhbdoeaaPlanClash
import Derived.Test.YtembjokbhbdoeaaPlanRe
import Derived.Test.YtembjokbhbdoeaaPlanCh
import Derived.Deep.DeepMust
import Derived.OwnWalk
import Derived.WideKeyArgs2
import Derived.Maps.OwnSet
import Derived.Maps.OwnOps
import Derived.Maps.Views
import Derived.Maps.Range
import Derived.Maps.RangeWalk
import Derived.Carry
import Derived.OneCell
namespace Go.Proofs.Ytembjokbhbdoeaa
open Go.ChangeShapes Go.WideShapes Go.ChangeAt Go.RowKit Go.Mem Go.Maps
set_option linter.unusedVariables false
theorem ints_gb {k : IntKind} {w w' : World} {a : Option Addr} {zs : List Int} {g : Nat} (h : IntsAt k w a zs) (hg : w.grownBy w' (some g)) (ha : ∀ x, a = some x → x.block ≠ g) : IntsAt k w' a zs := by
  intro hn
  obtain ⟨x, rfl, hx, hc⟩ := h hn
  refine ⟨x, rfl, Nat.lt_of_lt_of_le hx hg.size, fun i hi => ?_⟩
  rw [World.cell?_of_block (w := w) (hg.block _ (by rw [block_of_add]; exact hx) (fun e => ha x rfl (by rw [block_of_add] at e; injection e)))]
  exact hc i hi
theorem keyInt : Keyed Try.prog 3 := int_keyed Try.underlying3
theorem zeroRow (w : World) : (zeroValue 26).run Try.prog w = .ok (.slice none 0 0) w := by kernel_rfl
abbrev RV (v : Value) : Option (DataW Value × List MemPlace) := some (.held v, [])
abbrev OwnV (w : World) (M n : Nat) (D : DataW Value) : Prop := w.ownsMap Try.prog 3 RV M n D
/-- a slice of these numbers, that does not lie in block M -/
def RowN (w : World) (M : Nat) (v : Value) (L : List Nat) : Prop := ∃ a c, v = .slice a L.length c ∧ IntsAt .i64 w a (ints L) ∧ ∀ x, a = some x → x.block ≠ M
theorem RowN.gb {w w' : World} {M : Nat} {v : Value} {L : List Nat} (h : RowN w M v L) (hg : w.grownBy w' (some M)) : RowN w' M v L := by
  obtain ⟨a, c, h1, h2, h3⟩ := h
  exact ⟨a, c, h1, ints_gb h2 hg h3, h3⟩
theorem RowN.none (w : World) (M : Nat) : RowN w M (.slice none 0 0) [] := ⟨_, _, rfl, fun h => by simp [ints] at h, fun x h => by cases h⟩
abbrev keyI (I : Nat) : Lit := .int .i64 ((I : Int) - 1)
def MemoIs (w : World) (M m : Nat) (l : List SysV) (D : DataW Value) : Prop := ∀ I, I ≤ m → Maps.has D (keyI I) = true → ∀ v, D.atKey (keyI I) (.held (.slice none 0 0)) = .held v → RowN w M v (froC l m I)
theorem MemoIs.gb {w w' : World} {M m : Nat} {l : List SysV} {D : DataW Value} (h : MemoIs w M m l D) (hg : w.grownBy w' (some M)) : MemoIs w' M m l D := fun I hI hh v hv => (h I hI hh v hv).gb hg
theorem MemoIs.put {w : World} {M m : Nat} {l : List SysV} {D : DataW Value} (h : MemoIs w M m l D) (hD : IsMap D) (J : Nat) (u : Value) (hu : RowN w M u (froC l m J)) : MemoIs w M m l (D.put (keyI J) (.held u)) := by
  intro I hI hh v hv
  by_cases e : I = J
  · subst e
    rw [Maps.atKey_put_same hD (by trivial)] at hv
    injection hv with hv
    subst hv
    exact hu
  · have hne : keyI I ≠ keyI J := by
      intro h
      injection h with _ h
      omega
    rw [Maps.has_put_other hne] at hh
    rw [Maps.atKey_put_other hne] at hv
    exact h I hI hh v hv
abbrev pt (b : Nat) : Value := .pointer (some ⟨b, 0, none⟩)
abbrev froV (bm bx bf : Nat) : Value := .func (.func 23) #[] #[pt bm, pt bx, pt bf]
def Hold3 (w : World) (bm bx bf M : Nat) (sv : Value) : Prop :=
  (w.heap[bx]? = some (.cells #[sv] 22 (0, 0)) ∧ w.heap[bm]? = some (.cells #[.map (some M)] 56 (0, 0)) ∧ w.heap[bf]? = some (.cells #[froV bm bx bf] 57 (0, 0))) ∧ bx ≠ M ∧ bm ≠ M ∧ bf ≠ M
theorem Hold3.gb {w w' : World} {bm bx bf M : Nat} {sv : Value} (h : Hold3 w bm bx bf M sv) (hg : w.grownBy w' (some M)) : Hold3 w' bm bx bf M sv := by
  obtain ⟨⟨h1, h2, h3⟩, e1, e2, e3⟩ := h
  refine ⟨⟨(hg.block _ (lt_of_block h1) ?_).trans h1, (hg.block _ (lt_of_block h2) ?_).trans h2, (hg.block _ (lt_of_block h3) ?_).trans h3⟩, e1, e2, e3⟩ <;> (intro e; injection e with e; omega)
theorem own_one (w : World) (e : TypeId) (v : Value) : (w.alloc (.cells #[v] e (0, 0))).ownsRow w.heap.size e 1 (.slice (some ⟨w.heap.size, 0, none⟩) 1 1) 1 [v] :=
  ⟨rfl, Or.inr ⟨_, 1, #[v], rfl, Nat.le_refl _, heap_alloc_new w _, by decide, by decide, rfl, rfl⟩⟩
theorem gb_of_row {w w1 w2 : World} {v : Value} (hb : Below w.heap.size w w1) (hg : w1.grownBy w2 v.ownBlock) (hv : ∀ g, v.ownBlock = some g → w.heap.size ≤ g := by intro g h; simp [Value.ownBlock] at h; omega) : w.grownBy w2 none :=
  ⟨hg.os.trans hb.os, hg.tape.trans hb.tape, hg.output.trans hb.output, Nat.le_trans hb.size hg.size, fun k hk _ => (hg.block k (Nat.lt_of_lt_of_le hk hb.size) (fun e => by have := hv k e.symm; omega)).trans (hb.block k hk)⟩
theorem gn_some {w w' : World} (h : w.grownBy w' none) (M : Nat) : w.grownBy w' (some M) := ⟨h.os, h.tape, h.output, h.size, fun k hk _ => h.block k hk (by simp)⟩
theorem cell_gb {w w' : World} {p : Addr} {v : Value} (h : w.grownBy w' none) (hc : w.cell? p = some v) : w'.cell? p = some v := by
  rw [World.cell?_of_block (w := w) (h.block _ ?_ (by simp))]
  · exact hc
  · rcases Nat.lt_or_ge p.block w.heap.size with h' | h'
    · exact h'
    · simp [World.cell?, Array.getElem?_eq_none h'] at hc
theorem below_gn {w w' : World} (h : Below w.heap.size w w') : w.grownBy w' none := ⟨h.os, h.tape, h.output, h.size, fun k hk _ => h.block k hk⟩
theorem below_gb {w w' : World} (M : Nat) (h : Below w.heap.size w w') : w.grownBy w' (some M) := ⟨h.os, h.tape, h.output, h.size, fun k hk _ => h.block k hk⟩
def FroPost (w : World) (M m : Nat) (l : List SysV) (L : List Nat) (lim : Nat) (e : Ending) (w' : World) : Prop :=
  ∃ v D n, e = .returned v ∧ RowN w' M v L ∧ OwnV w' M n D ∧ n ≤ lim ∧ MemoIs w' M m l D ∧ w.grownBy w' (some M)
theorem pow_pos2 (n : Nat) : 1 ≤ 2 ^ n := Nat.one_le_two_pow
theorem list13 {α : Type} {vs : List α} (h : vs.length = 13) : ∃ x0 x1 x2 x3 x4 x5 x6 x7 x8 x9 x10 x11 x12, vs = [x0, x1, x2, x3, x4, x5, x6, x7, x8, x9, x10, x11, x12] := by
  obtain ⟨x0, t0, rfl, h0⟩ := cons_of h
  obtain ⟨x1, t1, rfl, h1⟩ := cons_of h0
  obtain ⟨x2, t2, rfl, h2⟩ := cons_of h1
  obtain ⟨x3, t3, rfl, h3⟩ := cons_of h2
  obtain ⟨x4, t4, rfl, h4⟩ := cons_of h3
  obtain ⟨x5, t5, rfl, h5⟩ := cons_of h4
  obtain ⟨x6, t6, rfl, h6⟩ := cons_of h5
  obtain ⟨x7, t7, rfl, h7⟩ := cons_of h6
  obtain ⟨x8, t8, rfl, h8⟩ := cons_of h7
  obtain ⟨x9, t9, rfl, h9⟩ := cons_of h8
  obtain ⟨x10, t10, rfl, h10⟩ := cons_of h9
  obtain ⟨x11, t11, rfl, h11⟩ := cons_of h10
  obtain ⟨x12, t12, rfl, h12⟩ := cons_of h11
  exact ⟨x0, x1, x2, x3, x4, x5, x6, x7, x8, x9, x10, x11, x12, by rw [List.eq_nil_of_length_eq_zero h12]⟩
def F_loa (iv : Int) (bx j : Nat) (jq : Nat) (v : Value) (w : World) : Prop :=
  match jq with
  | 0 => v = .int .i64 iv
  | 1 => v = .bool true
  | 2 => v = .bool true
  | 3 => v = undef
  | 4 => v = undef
  | 5 => v = undef
  | 6 => v = undef
  | 7 => v = undef
  | 8 => v = undef
  | 9 => v = undef
  | 10 => v = undef
  | 11 => v = undef
  | 12 => v = .bool true
  | _ => True
theorem F_loa_mono (iv : Int) (bx j : Nat) : Facts (F_loa iv bx j) := ⟨by
  intro jq v w w' h hb
  unfold F_loa at h ⊢
  split at h
  all_goals first
    | exact h
    | trivial⟩
def F_lox (bx m i j xb xo c : Nat) (s0 : ByteArray) (a1 : Option Addr) (n1 p1 : Nat) (a2 : Option Addr) (n2 p2 : Nat) (a3 : Option Addr) (n3 p3 : Nat) (a4 : Option Addr) (n4 p4 : Nat) (a5 : Option Addr) (n5 p5 : Nat) (a6 : Option Addr) (n6 p6 : Nat) (t0 : ByteArray) (b1 : Option Addr) (m1 q1 : Nat) (b2 : Option Addr) (m2 q2 : Nat) (b3 : Option Addr) (m3 q3 : Nat) (b4 : Option Addr) (m4 q4 : Nat) (b5 : Option Addr) (m5 q5 : Nat) (b6 : Option Addr) (m6 q6 : Nat) (jq : Nat) (v : Value) (w : World) : Prop :=
  match jq with
  | 0 => v = .int .i64 i
  | 1 => v = .bool false
  | 2 => v = .bool false
  | 3 => v = .slice (some ⟨xb, xo, none⟩) m c
  | 4 => v = .int .i64 i
  | 5 => v = .pointer (some ⟨xb, xo + i * 7, none⟩)
  | 6 => v = .agg #[.string s0, .slice a1 n1 p1, .slice a2 n2 p2, .slice a3 n3 p3, .slice a4 n4 p4, .slice a5 n5 p5, .slice a6 n6 p6]
  | 7 => v = .slice (some ⟨xb, xo, none⟩) m c
  | 8 => v = .int .i64 j
  | 9 => v = .pointer (some ⟨xb, xo + j * 7, none⟩)
  | 10 => v = .agg #[.string t0, .slice b1 m1 q1, .slice b2 m2 q2, .slice b3 m3 q3, .slice b4 m4 q4, .slice b5 m5 q5, .slice b6 m6 q6]
  | 11 => v = .bool true
  | 12 => v = .bool true
  | _ => True
theorem F_lox_mono (bx m i j xb xo c : Nat) (s0 : ByteArray) (a1 : Option Addr) (n1 p1 : Nat) (a2 : Option Addr) (n2 p2 : Nat) (a3 : Option Addr) (n3 p3 : Nat) (a4 : Option Addr) (n4 p4 : Nat) (a5 : Option Addr) (n5 p5 : Nat) (a6 : Option Addr) (n6 p6 : Nat) (t0 : ByteArray) (b1 : Option Addr) (m1 q1 : Nat) (b2 : Option Addr) (m2 q2 : Nat) (b3 : Option Addr) (m3 q3 : Nat) (b4 : Option Addr) (m4 q4 : Nat) (b5 : Option Addr) (m5 q5 : Nat) (b6 : Option Addr) (m6 q6 : Nat) : Facts (F_lox bx m i j xb xo c s0 a1 n1 p1 a2 n2 p2 a3 n3 p3 a4 n4 p4 a5 n5 p5 a6 n6 p6 t0 b1 m1 q1 b2 m2 q2 b3 m3 q3 b4 m4 q4 b5 m5 q5 b6 m6 q6) := ⟨by
  intro jq v w w' h hb
  unfold F_lox at h ⊢
  split at h
  all_goals first
    | exact h
    | trivial⟩
def F_loy (bx m i j xb xo c : Nat) (s0 : ByteArray) (a1 : Option Addr) (n1 p1 : Nat) (a2 : Option Addr) (n2 p2 : Nat) (a3 : Option Addr) (n3 p3 : Nat) (a4 : Option Addr) (n4 p4 : Nat) (a5 : Option Addr) (n5 p5 : Nat) (a6 : Option Addr) (n6 p6 : Nat) (t0 : ByteArray) (b1 : Option Addr) (m1 q1 : Nat) (b2 : Option Addr) (m2 q2 : Nat) (b3 : Option Addr) (m3 q3 : Nat) (b4 : Option Addr) (m4 q4 : Nat) (b5 : Option Addr) (m5 q5 : Nat) (b6 : Option Addr) (m6 q6 : Nat) (jq : Nat) (v : Value) (w : World) : Prop :=
  match jq with
  | 0 => v = .int .i64 i
  | 1 => v = .bool false
  | 2 => v = .bool false
  | 3 => v = .slice (some ⟨xb, xo, none⟩) m c
  | 4 => v = .int .i64 i
  | 5 => v = .pointer (some ⟨xb, xo + i * 7, none⟩)
  | 6 => v = .agg #[.string s0, .slice a1 n1 p1, .slice a2 n2 p2, .slice a3 n3 p3, .slice a4 n4 p4, .slice a5 n5 p5, .slice a6 n6 p6]
  | 7 => v = .slice (some ⟨xb, xo, none⟩) m c
  | 8 => v = .int .i64 j
  | 9 => v = .pointer (some ⟨xb, xo + j * 7, none⟩)
  | 10 => v = .agg #[.string t0, .slice b1 m1 q1, .slice b2 m2 q2, .slice b3 m3 q3, .slice b4 m4 q4, .slice b5 m5 q5, .slice b6 m6 q6]
  | 11 => v = .bool false
  | 12 => v = .bool false
  | _ => True
theorem F_loy_mono (bx m i j xb xo c : Nat) (s0 : ByteArray) (a1 : Option Addr) (n1 p1 : Nat) (a2 : Option Addr) (n2 p2 : Nat) (a3 : Option Addr) (n3 p3 : Nat) (a4 : Option Addr) (n4 p4 : Nat) (a5 : Option Addr) (n5 p5 : Nat) (a6 : Option Addr) (n6 p6 : Nat) (t0 : ByteArray) (b1 : Option Addr) (m1 q1 : Nat) (b2 : Option Addr) (m2 q2 : Nat) (b3 : Option Addr) (m3 q3 : Nat) (b4 : Option Addr) (m4 q4 : Nat) (b5 : Option Addr) (m5 q5 : Nat) (b6 : Option Addr) (m6 q6 : Nat) : Facts (F_loy bx m i j xb xo c s0 a1 n1 p1 a2 n2 p2 a3 n3 p3 a4 n4 p4 a5 n5 p5 a6 n6 p6 t0 b1 m1 q1 b2 m2 q2 b3 m3 q3 b4 m4 q4 b5 m5 q5 b6 m6 q6) := ⟨by
  intro jq v w w' h hb
  unfold F_loy at h ⊢
  split at h
  all_goals first
    | exact h
    | trivial⟩

theorem idx_sys2 (xb xo m c i : Nat) (hj : i < m) (w : World) : (Instr.indexAt 22 (.slice (some ⟨xb, xo, none⟩) m c) (.int .i64 (i : Int))).run Try.prog w = .ok (.pointer (some ⟨xb, xo + i * 7, none⟩)) w := idx_sys xb xo m c i hj w
set_option maxHeartbeats 16000000 in
set_option maxRecDepth 20000 in
theorem from_clos (a : Option Addr) (c m : Nat) (l : List SysV) (hm : l.length = m) (h24 : m ≤ 24) (w0 : World) (ha : SlAt 7 SysAt w0 a l) (bm bx bf M : Nat) (hM : w0.heap.size ≤ M) :
    ∀ p I, m - I = p → I ≤ m → ∀ (iv : Int), iv = (I : Int) - 1 → ∀ (w : World) (D : DataW Value) (en : Nat), Below w0.heap.size w0 w → Hold3 w bm bx bf M (.slice a m c) → OwnV w M en D → MemoIs w M m l D → en + 2 ^ (m - I) ≤ 2 ^ 26 →
    Calls Try.prog 23 #[.int .i64 iv, pt bm, pt bx, pt bf] w fun e w' => FroPost w M m l (froC l m I) (en + 2 ^ (m - I)) e w' := by
  intro p
  induction p using Nat.strongRecOn with
  | _ p ih =>
  intro I hp hI iv hiv w D en hb0 hh3 hown hmemo hen
  have IH := Lib.hid (show ∀ j, I ≤ j → j < m → ∀ (w : World) (D : DataW Value) (en : Nat), Below w0.heap.size w0 w → Hold3 w bm bx bf M (.slice a m c) → OwnV w M en D → MemoIs w M m l D → en + 2 ^ (m - (j + 1)) ≤ 2 ^ 26 → Calls Try.prog 23 #[.int .i64 (j : Int), pt bm, pt bx, pt bf] w fun e w' => FroPost w M m l (chC l m j) (en + 2 ^ (m - (j + 1))) e w' from fun j h1 h2 w D en k1 k2 k3 k4 k5 => by
    have := ih (m - (j + 1)) (by omega) (j + 1) rfl h2 (j : Int) (by omega) w D en k1 k2 k3 k4 k5
    rw [froC_succ l m j h2] at this
    exact this)
  obtain ⟨P0, hP0⟩ : ∃ P0, P0 = 2 ^ (m - I) := ⟨_, rfl⟩
  rw [← hP0] at hen ⊢
  have hP1 : 1 ≤ P0 := by rw [hP0]; exact pow_pos2 _
  have HP0 := Lib.hid hP0
  clear ih hp hP0
  have hM1 := World.ownsMap.lt hown
  have hen2 : en + P0 ≤ 67108864 := hen
  have HM := Lib.hid hm
  have HA := Lib.hid ha
  have HB0 := Lib.hid hb0
  have HH3 := Lib.hid hh3
  have HMEMO := Lib.hid hmemo
  have HI := Lib.hid hiv
  have hkwf : (Lit.int .i64 iv).wf = true := by simp [Lit.wf, IntKind.min, IntKind.max, IntKind.bits, IntKind.signed]; omega
  have hkey := keyOf_int_mk Try.underlying3 hkwf
  have HKEY := Lib.hid hkey
  have hkI : Lit.int .i64 iv = keyI I := by rw [hiv]
  obtain ⟨hs, hhs⟩ : ∃ hs, hs = Maps.has D (.int .i64 iv) := ⟨_, rfl⟩
  have hhas := hhs.symm
  have HKI := Lib.hid hkI
  obtain ⟨⟨c1, c2, c3⟩, e1, e2, e3⟩ := hh3
  have d1 := cell_of_one c1
  have d2 := cell_of_one c2
  have hi1 : (I : Int) - 1 ≤ iv := by omega
  have hi2 : iv ≤ (I : Int) - 1 := by omega
  have hw1 : IntKind.i64.wrap (iv + 1) = (I : Int) := by rw [IntKind.wrap_i64]; omega
  have HW1 := Lib.hid hw1
  clear hm ha hb0 hmemo hen hhs hkI hiv hkwf c1 c2 c3 hw1
  cases hs with
  | true =>
    go_enter Try.func23, Try.ntmps23
    go_wp2_with (at_lookup; refine wpList_lookup_own_ok _ rfl _ _ 56 rfl 3 26 keyInt Try.underlying56 RV (zeroRow _) (.held (.slice none 0 0)) [] rfl M en D rfl hown (.int .i64 iv) (.int .i64 iv) rfl hkey ?_; intro cv ps hat; rw [hhas])
    have HAT := (show D.atKey (keyI I) (.held (.slice none 0 0)) = .held cv by
      rw [← HKI.out]
      injection hat with hat
      exact (congrArg Prod.fst hat).symm)
    go_ret
    exact ⟨cv, D, en, rfl, HMEMO.out I hI (by rw [← HKI.out]; exact hhas) cv HAT, hown, by omega, HMEMO.out, World.grownBy.refl _ _⟩
  | false =>
    go_enter Try.func23, Try.ntmps23
    go_wp2_with (at_lookup; refine wpList_lookup_own_ok _ rfl _ _ 56 rfl 3 26 keyInt Try.underlying56 RV (zeroRow _) (.held (.slice none 0 0)) [] rfl M en D rfl hown (.int .i64 iv) (.int .i64 iv) rfl hkey ?_; intro cv ps hat; rw [hhas]; clear hat)
    have HOWN := Lib.hid hown
    clear hhas hown hkey
    go_loopg [8, 9, 10] (m - I) (fun gk v8 v9 _ wx => ∃ (j : Nat) (u : Value) (D : DataW Value) (en2 : Nat), I ≤ j ∧ j ≤ m ∧ gk = m - j ∧ v8 = u ∧ v9 = .int .i64 j ∧ RowN wx M u (bodC l m I (j - I)) ∧ OwnV wx M en2 D ∧ en2 + 2 ^ (m - j) ≤ en + P0 ∧ MemoIs wx M m l D ∧ w.grownBy wx (some M))
    case atStart => exact ⟨I, _, D, en, Nat.le_refl _, hI, rfl, rfl, by rw [show iv + 1 = (I : Int) by omega], by rw [Nat.sub_self]; exact RowN.none _ _, HOWN.out, by rw [HP0.out]; exact Nat.le_refl _, HMEMO.out, World.grownBy.refl _ _⟩
    case round =>
      clear HOWN HMEMO D d1 d2
      obtain ⟨j, u, D, en2, hj1, hj2, g2, hu, rfl, hrow, hown, hen3, hmemo, hgr⟩ := hrel
      have G2 := Lib.hid g2
      obtain ⟨ua, uc, hua, hui, hub⟩ := hrow
      subst hua
      subst hu
      have hh3 := HH3.out.gb hgr
      have HH := Lib.hid hh3
      have hb := HB0.out.grown hgr HB0.out.size (fun r h => by injection h with h; omega)
      have HB := Lib.hid hb
      have HOWN := Lib.hid hown
      have HMEMO := Lib.hid hmemo
      have HGR := Lib.hid hgr
      have hnl := bodC_len l m I (j - I) (by omega)
      have hst := bodC_succ l m I (j - I)
      rw [show I + (j - I) = j by omega, show j - I + 1 = j + 1 - I by omega] at hst
      obtain ⟨⟨c1, c2, c3⟩, _, _, _⟩ := hh3
      have d1 := cell_of_one c1
      have d2 := cell_of_one c2
      have d3 := cell_of_one c3
      by_cases hlt : j < m
      · have hp2 : 2 ^ (m - j) = 2 ^ (m - (j + 1)) * 2 := by rw [← Nat.pow_succ]; congr 1; omega
        obtain ⟨Q0, hQ0⟩ : ∃ Q0, Q0 = 2 ^ (m - (j + 1)) := ⟨_, rfl⟩
        rw [hp2] at hen3
        have HC := Lib.hid (fun W8 (hb8 : Below wr.heap.size wr W8) => IH.out j hj1 hlt W8 D en2 (hb.trans (hb8.mono hb.size)) (HH.out.gb (below_gb M hb8)) (hown.kept (below_gn hb8) (by simp)) (hmemo.gb (below_gb M hb8)) (by
          have e : (2:Nat) ^ 26 = 67108864 := rfl
          rw [e]; omega))
        rw [← hQ0] at hen3 HC
        have HEN3 := Lib.hid hen3
        have HQ0 := Lib.hid hQ0
        obtain ⟨X, hX⟩ : ∃ X, X = chC l m j := ⟨_, rfl⟩
        rw [← hX] at hst HC
        obtain ⟨U, hU⟩ : ∃ U, U = bodC l m I (j - I) := ⟨_, rfl⟩
        rw [← hU] at hst hui hnl ⊢
        have HU := Lib.hid (show RowN wr M (.slice ua U.length uc) U from ⟨_, _, rfl, hui, hub⟩)
        obtain ⟨nU, hnU⟩ : ∃ nU, nU = U.length := ⟨_, rfl⟩
        have HST := Lib.hid hst
        have HNU := Lib.hid hnU
        rw [← hnU] at hnl HU ⊢
        have HHU := Lib.hid hU
        clear hU hX hQ0 hnU hst hen3 hp2 hown hmemo hgr hui hub c1 c2 c3
        have E1 := Lib.hid d1
        have E3 := Lib.hid d3
        have hal := HA.out.below SysAt.abides hb
        by_cases hI0 : I = 0
        · have hgo : goC l I (j - I) = true := by unfold goC; simp [hI0]
          rw [hgo] at HST
          have i0 : iv < 0 := by omega
          clear hgo hal d2 d3
          go_wp2_with fail
          refine wp_region_facts_t rfl 13 (by kernel_rfl) (F_loa iv bx j) (F_loa_mono iv bx j) ?_ ?_
          · refine ⟨?_, ?_, ?_, ?_, ?_, ?_, ?_, ?_, ?_, ?_, ?_, ?_, ?_, trivial⟩
            · intro vs w' F hb hd hF hl hT
              have e := (hF 0).trans (look_out _ 0 _ _ (by kernel_rfl))
              exact one_move _ rfl (by first | exact Or.inl rfl | exact Or.inr rfl) ⟨_, rfl, Below.refl _ _, e⟩
            · intro vs w' F hb hd hF hl hT
              have e := (((hF 27).trans (look_at _ 27 0 _ _ (by kernel_rfl) (by kernel_rfl) hl)).trans (dep_of (Fact := F_loa iv bx j) hd 0 (by kernel_rfl)))
              exact one_int_lt _ _ _ _ rfl rfl .i64 iv 0 true e rfl (decide_eq_true (by omega)) ⟨_, rfl, Below.refl _ _, rfl⟩
            · intro vs w' F hb hd hF hl hT
              have e := ((hF 28).trans (look_at _ 28 1 _ _ (by kernel_rfl) (by kernel_rfl) hl)).trans (dep_of (Fact := F_loa iv bx j) hd 1 (by kernel_rfl))
              exact one_move _ rfl (by first | exact Or.inl rfl | exact Or.inr rfl) ⟨_, rfl, Below.refl _ _, e⟩
            · intro vs w' F hb hd hF hl hT
              have eg := ((hF 29).trans (look_at _ 29 2 _ _ (by kernel_rfl) (by kernel_rfl) hl)).trans (dep_of (Fact := F_loa iv bx j) hd 2 (by kernel_rfl))
              exact wpList_off rfl (t := 29) (d := true) (by kernel_rfl) eg (by decide) ⟨_, rfl, Below.refl _ _, rfl⟩
            · intro vs w' F hb hd hF hl hT
              have eg := ((hF 29).trans (look_at _ 29 2 _ _ (by kernel_rfl) (by kernel_rfl) hl)).trans (dep_of (Fact := F_loa iv bx j) hd 2 (by kernel_rfl))
              exact wpList_off rfl (t := 29) (d := true) (by kernel_rfl) eg (by decide) ⟨_, rfl, Below.refl _ _, rfl⟩
            · intro vs w' F hb hd hF hl hT
              have eg := ((hF 29).trans (look_at _ 29 2 _ _ (by kernel_rfl) (by kernel_rfl) hl)).trans (dep_of (Fact := F_loa iv bx j) hd 2 (by kernel_rfl))
              exact wpList_off rfl (t := 29) (d := true) (by kernel_rfl) eg (by decide) ⟨_, rfl, Below.refl _ _, rfl⟩
            · intro vs w' F hb hd hF hl hT
              have eg := ((hF 29).trans (look_at _ 29 2 _ _ (by kernel_rfl) (by kernel_rfl) hl)).trans (dep_of (Fact := F_loa iv bx j) hd 2 (by kernel_rfl))
              exact wpList_off rfl (t := 29) (d := true) (by kernel_rfl) eg (by decide) ⟨_, rfl, Below.refl _ _, rfl⟩
            · intro vs w' F hb hd hF hl hT
              have eg := ((hF 29).trans (look_at _ 29 2 _ _ (by kernel_rfl) (by kernel_rfl) hl)).trans (dep_of (Fact := F_loa iv bx j) hd 2 (by kernel_rfl))
              exact wpList_off rfl (t := 29) (d := true) (by kernel_rfl) eg (by decide) ⟨_, rfl, Below.refl _ _, rfl⟩
            · intro vs w' F hb hd hF hl hT
              have eg := ((hF 29).trans (look_at _ 29 2 _ _ (by kernel_rfl) (by kernel_rfl) hl)).trans (dep_of (Fact := F_loa iv bx j) hd 2 (by kernel_rfl))
              exact wpList_off rfl (t := 29) (d := true) (by kernel_rfl) eg (by decide) ⟨_, rfl, Below.refl _ _, rfl⟩
            · intro vs w' F hb hd hF hl hT
              have eg := ((hF 29).trans (look_at _ 29 2 _ _ (by kernel_rfl) (by kernel_rfl) hl)).trans (dep_of (Fact := F_loa iv bx j) hd 2 (by kernel_rfl))
              exact wpList_off rfl (t := 29) (d := true) (by kernel_rfl) eg (by decide) ⟨_, rfl, Below.refl _ _, rfl⟩
            · intro vs w' F hb hd hF hl hT
              have eg := ((hF 29).trans (look_at _ 29 2 _ _ (by kernel_rfl) (by kernel_rfl) hl)).trans (dep_of (Fact := F_loa iv bx j) hd 2 (by kernel_rfl))
              exact wpList_off rfl (t := 29) (d := true) (by kernel_rfl) eg (by decide) ⟨_, rfl, Below.refl _ _, rfl⟩
            · intro vs w' F hb hd hF hl hT
              have eg := ((hF 29).trans (look_at _ 29 2 _ _ (by kernel_rfl) (by kernel_rfl) hl)).trans (dep_of (Fact := F_loa iv bx j) hd 2 (by kernel_rfl))
              exact wpList_off rfl (t := 29) (d := true) (by kernel_rfl) eg (by decide) ⟨_, rfl, Below.refl _ _, rfl⟩
            · intro vs w' F hb hd hF hl hT
              have ec := ((hF 29).trans (look_at _ 29 2 _ _ (by kernel_rfl) (by kernel_rfl) hl)).trans (dep_of (Fact := F_loa iv bx j) hd 2 (by kernel_rfl))
              exact one_pick_t _ _ _ rfl rfl _ ec rfl ⟨_, rfl, Below.refl _ _, rfl⟩
          · intro vs8 W8 hl hb hI
            have hv : vs8.getD 12 undef = .bool true := hI 12 (by omega)
            obtain ⟨x0, x1, x2, x3, x4, x5, x6, x7, x8, x9, x10, x11, x12, hvs⟩ := list13 hl
            subst hvs
            replace hv : x12 = .bool true := hv
            subst hv
            have hc := HC.out W8 hb
            have hu8 := HU.out.gb (below_gb M hb)
            have e3 := cell_abides E3.out hb
            clear hI hl E1 E3
            simp only [fillAll, Act.put, List.setIfInBounds_toArray, List.set_cons_succ, List.set_cons_zero]
            show wpList _ _ _ [] _ _
            go_wp2_with (go_at_call 23; refine hc.mono ?_)
            rintro e9 w9 ⟨v9, D9, n9, rfl, hr9, ho9, hn9, hm9, hg9⟩
            obtain ⟨xa, xc, rfl, hxi, hxb⟩ := hr9
            have hu9 := hu8.gb hg9
            have hgg := HGR.out.trans (below_gb M hb) |>.trans hg9
            have HX := Lib.hid (show RowN w9 M (.slice xa X.length xc) X from ⟨_, _, rfl, hxi, hxb⟩)
            obtain ⟨nX, hnX⟩ : ∃ nX, nX = X.length := ⟨_, rfl⟩
            rw [← hnX] at HX ⊢
            have HNX := Lib.hid hnX
            clear hc hu8 hxi hxb hnX HU hb e3
            by_cases hlx : nU < nX
            · have hsu := HST.out
              rw [← HNU.out, ← HNX.out, if_pos ⟨(by first | exact rfl | trivial), hlx⟩] at hsu
              go_wp2
              go_roundg (m - (j + 1))
              case measure => rw [G2.out]; omega
              case rel => exact ⟨j + 1, _, D9, n9, by omega, hlt, rfl, rfl, by go_num, by rw [hsu]; exact HX.out, ho9, by rw [← HQ0.out]; have := HEN3.out; omega, hm9, hgg⟩
            · have hsu := HST.out
              rw [← HNU.out, ← HNX.out, if_neg (fun h => hlx h.2)] at hsu
              go_wp2
              go_roundg (m - (j + 1))
              case measure => rw [G2.out]; omega
              case rel => exact ⟨j + 1, _, D9, n9, by omega, hlt, rfl, rfl, by go_num, by rw [hsu]; exact hu9, ho9, by rw [← HQ0.out]; have := HEN3.out; omega, hm9, hgg⟩
        · obtain ⟨i, hIi⟩ : ∃ i, I = i + 1 := ⟨I - 1, by omega⟩
          have hivi : iv = (i : Int) := by omega
          subst hivi
          obtain ⟨x, rfl, hx, _⟩ := HA.out (by rw [HM.out]; omega)
          obtain ⟨xb, xo, rfl, s0, a1, n1, p1, a2, n2, p2, a3, n3, p3, a4, n4, p4, a5, n5, p5, a6, n6, p6, hci, hyi⟩ := sys_cells hal i (by rw [HM.out]; omega)
          obtain ⟨xb2, xo2, hxx, t0, b1, m1, q1, b2, m2, q2, b3, m3, q3, b4, m4, q4, b5, m5, q5, b6, m6, q6, hcj, hyj⟩ := sys_cells hal j (by rw [HM.out]; exact hlt)
          injection hxx with hx1 hx2
          subst hx1 hx2
          have CC := Lib.hid (fun w' => ref_Clash (.agg #[.string s0, .slice a1 n1 p1, .slice a2 n2 p2, .slice a3 n3 p3, .slice a4 n4 p4, .slice a5 n5 p5, .slice a6 n6 p6]) (.agg #[.string t0, .slice b1 m1 q1, .slice b2 m2 q2, .slice b3 m3 q3, .slice b4 m4 q4, .slice b5 m5 q5, .slice b6 m6 q6]) (sysN l i) (sysN l j) w')
          obtain ⟨cf, hcf⟩ : ∃ cf, cf = confB (sysN l i) (sysN l j) := ⟨_, rfl⟩
          have hgo : goC l I (j - I) = cf := by
            unfold goC
            rw [decide_eq_false hI0, Bool.false_or, show I - 1 = i by omega, show I + (j - I) = j by omega, ← hcf]
          rw [hgo] at HST
          rw [← hcf] at CC
          have C7i := Lib.hid (show Cells7 wr xb (xo + i * 7) _ _ _ _ _ _ _ from hci)
          have C7j := Lib.hid (show Cells7 wr xb (xo + j * 7) _ _ _ _ _ _ _ from hcj)
          have HYI := Lib.hid hyi
          have HYJ := Lib.hid hyj
          clear hal hx hci hcj hyi hyj hcf hgo d2 d3
          cases cf with
          | true =>
            go_wp2_with fail
            refine wp_region_facts_t rfl 13 (by kernel_rfl) (F_lox bx m i j xb xo c s0 a1 n1 p1 a2 n2 p2 a3 n3 p3 a4 n4 p4 a5 n5 p5 a6 n6 p6 t0 b1 m1 q1 b2 m2 q2 b3 m3 q3 b4 m4 q4 b5 m5 q5 b6 m6 q6) (F_lox_mono bx m i j xb xo c s0 a1 n1 p1 a2 n2 p2 a3 n3 p3 a4 n4 p4 a5 n5 p5 a6 n6 p6 t0 b1 m1 q1 b2 m2 q2 b3 m3 q3 b4 m4 q4 b5 m5 q5 b6 m6 q6) ?_ ?_
            · refine ⟨?_, ?_, ?_, ?_, ?_, ?_, ?_, ?_, ?_, ?_, ?_, ?_, ?_, trivial⟩
              · intro vs w' F hb hd hF hl hT
                have e := (hF 0).trans (look_out _ 0 _ _ (by kernel_rfl))
                exact one_move _ rfl (by first | exact Or.inl rfl | exact Or.inr rfl) ⟨_, rfl, Below.refl _ _, e⟩
              · intro vs w' F hb hd hF hl hT
                have e := (((hF 27).trans (look_at _ 27 0 _ _ (by kernel_rfl) (by kernel_rfl) hl)).trans (dep_of (Fact := F_lox bx m i j xb xo c s0 a1 n1 p1 a2 n2 p2 a3 n3 p3 a4 n4 p4 a5 n5 p5 a6 n6 p6 t0 b1 m1 q1 b2 m2 q2 b3 m3 q3 b4 m4 q4 b5 m5 q5 b6 m6 q6) hd 0 (by kernel_rfl)))
                exact one_int_lt _ _ _ _ rfl rfl .i64 (i : Int) 0 false e rfl (decide_eq_false (by omega)) ⟨_, rfl, Below.refl _ _, rfl⟩
              · intro vs w' F hb hd hF hl hT
                have e := ((hF 28).trans (look_at _ 28 1 _ _ (by kernel_rfl) (by kernel_rfl) hl)).trans (dep_of (Fact := F_lox bx m i j xb xo c s0 a1 n1 p1 a2 n2 p2 a3 n3 p3 a4 n4 p4 a5 n5 p5 a6 n6 p6 t0 b1 m1 q1 b2 m2 q2 b3 m3 q3 b4 m4 q4 b5 m5 q5 b6 m6 q6) hd 1 (by kernel_rfl))
                exact one_move _ rfl (by first | exact Or.inl rfl | exact Or.inr rfl) ⟨_, rfl, Below.refl _ _, e⟩
              · intro vs w' F hb hd hF hl hT
                have eg := ((hF 29).trans (look_at _ 29 2 _ _ (by kernel_rfl) (by kernel_rfl) hl)).trans (dep_of (Fact := F_lox bx m i j xb xo c s0 a1 n1 p1 a2 n2 p2 a3 n3 p3 a4 n4 p4 a5 n5 p5 a6 n6 p6 t0 b1 m1 q1 b2 m2 q2 b3 m3 q3 b4 m4 q4 b5 m5 q5 b6 m6 q6) hd 2 (by kernel_rfl))
                refine wpList_on rfl (t := 29) (by kernel_rfl) eg ?_
                have e := (hF 2).trans (look_out _ 2 _ _ (by kernel_rfl))
                exact one_load _ _ rfl rfl _ _ e (cell_abides E1.out hb) (by kernel_rfl) ⟨_, rfl, Below.refl _ _, rfl⟩
              · intro vs w' F hb hd hF hl hT
                have eg := ((hF 29).trans (look_at _ 29 2 _ _ (by kernel_rfl) (by kernel_rfl) hl)).trans (dep_of (Fact := F_lox bx m i j xb xo c s0 a1 n1 p1 a2 n2 p2 a3 n3 p3 a4 n4 p4 a5 n5 p5 a6 n6 p6 t0 b1 m1 q1 b2 m2 q2 b3 m3 q3 b4 m4 q4 b5 m5 q5 b6 m6 q6) hd 2 (by kernel_rfl))
                refine wpList_on rfl (t := 29) (by kernel_rfl) eg ?_
                have e := (hF 0).trans (look_out _ 0 _ _ (by kernel_rfl))
                exact one_move _ rfl (by first | exact Or.inl rfl | exact Or.inr rfl) ⟨_, rfl, Below.refl _ _, e⟩
              · intro vs w' F hb hd hF hl hT
                have eg := ((hF 29).trans (look_at _ 29 2 _ _ (by kernel_rfl) (by kernel_rfl) hl)).trans (dep_of (Fact := F_lox bx m i j xb xo c s0 a1 n1 p1 a2 n2 p2 a3 n3 p3 a4 n4 p4 a5 n5 p5 a6 n6 p6 t0 b1 m1 q1 b2 m2 q2 b3 m3 q3 b4 m4 q4 b5 m5 q5 b6 m6 q6) hd 2 (by kernel_rfl))
                refine wpList_on rfl (t := 29) (by kernel_rfl) eg ?_
                have ex := (((hF 30).trans (look_at _ 30 3 _ _ (by kernel_rfl) (by kernel_rfl) hl)).trans (dep_of (Fact := F_lox bx m i j xb xo c s0 a1 n1 p1 a2 n2 p2 a3 n3 p3 a4 n4 p4 a5 n5 p5 a6 n6 p6 t0 b1 m1 q1 b2 m2 q2 b3 m3 q3 b4 m4 q4 b5 m5 q5 b6 m6 q6) hd 3 (by kernel_rfl)))
                have ey := (((hF 31).trans (look_at _ 31 4 _ _ (by kernel_rfl) (by kernel_rfl) hl)).trans (dep_of (Fact := F_lox bx m i j xb xo c s0 a1 n1 p1 a2 n2 p2 a3 n3 p3 a4 n4 p4 a5 n5 p5 a6 n6 p6 t0 b1 m1 q1 b2 m2 q2 b3 m3 q3 b4 m4 q4 b5 m5 q5 b6 m6 q6) hd 4 (by kernel_rfl)))
                exact one_index 22 _ _ rfl rfl (.slice (some ⟨xb, xo, none⟩) m c) (.int .i64 i) (.pointer (some ⟨xb, xo + i * 7, none⟩)) ex ey (fun w => idx_sys xb xo m c i (by omega) w) ⟨_, rfl, Below.refl _ _, rfl⟩
              · intro vs w' F hb hd hF hl hT
                have eg := ((hF 29).trans (look_at _ 29 2 _ _ (by kernel_rfl) (by kernel_rfl) hl)).trans (dep_of (Fact := F_lox bx m i j xb xo c s0 a1 n1 p1 a2 n2 p2 a3 n3 p3 a4 n4 p4 a5 n5 p5 a6 n6 p6 t0 b1 m1 q1 b2 m2 q2 b3 m3 q3 b4 m4 q4 b5 m5 q5 b6 m6 q6) hd 2 (by kernel_rfl))
                refine wpList_on rfl (t := 29) (by kernel_rfl) eg ?_
                have e := (((hF 32).trans (look_at _ 32 5 _ _ (by kernel_rfl) (by kernel_rfl) hl)).trans (dep_of (Fact := F_lox bx m i j xb xo c s0 a1 n1 p1 a2 n2 p2 a3 n3 p3 a4 n4 p4 a5 n5 p5 a6 n6 p6 t0 b1 m1 q1 b2 m2 q2 b3 m3 q3 b4 m4 q4 b5 m5 q5 b6 m6 q6) hd 5 (by kernel_rfl)))
                exact one_load7 30 _ rfl rfl xb (xo + i * 7) _ _ _ _ _ _ _ e (C7i.out.below hb) _ Try.underlying30 rfl (by kernel_rfl) ⟨_, rfl, Below.refl _ _, rfl⟩
              · intro vs w' F hb hd hF hl hT
                have eg := ((hF 29).trans (look_at _ 29 2 _ _ (by kernel_rfl) (by kernel_rfl) hl)).trans (dep_of (Fact := F_lox bx m i j xb xo c s0 a1 n1 p1 a2 n2 p2 a3 n3 p3 a4 n4 p4 a5 n5 p5 a6 n6 p6 t0 b1 m1 q1 b2 m2 q2 b3 m3 q3 b4 m4 q4 b5 m5 q5 b6 m6 q6) hd 2 (by kernel_rfl))
                refine wpList_on rfl (t := 29) (by kernel_rfl) eg ?_
                have e := (hF 2).trans (look_out _ 2 _ _ (by kernel_rfl))
                exact one_load _ _ rfl rfl _ _ e (cell_abides E1.out hb) (by kernel_rfl) ⟨_, rfl, Below.refl _ _, rfl⟩
              · intro vs w' F hb hd hF hl hT
                have eg := ((hF 29).trans (look_at _ 29 2 _ _ (by kernel_rfl) (by kernel_rfl) hl)).trans (dep_of (Fact := F_lox bx m i j xb xo c s0 a1 n1 p1 a2 n2 p2 a3 n3 p3 a4 n4 p4 a5 n5 p5 a6 n6 p6 t0 b1 m1 q1 b2 m2 q2 b3 m3 q3 b4 m4 q4 b5 m5 q5 b6 m6 q6) hd 2 (by kernel_rfl))
                refine wpList_on rfl (t := 29) (by kernel_rfl) eg ?_
                have e := (hF 9).trans (look_out _ 9 _ _ (by kernel_rfl))
                exact one_move _ rfl (by first | exact Or.inl rfl | exact Or.inr rfl) ⟨_, rfl, Below.refl _ _, e⟩
              · intro vs w' F hb hd hF hl hT
                have eg := ((hF 29).trans (look_at _ 29 2 _ _ (by kernel_rfl) (by kernel_rfl) hl)).trans (dep_of (Fact := F_lox bx m i j xb xo c s0 a1 n1 p1 a2 n2 p2 a3 n3 p3 a4 n4 p4 a5 n5 p5 a6 n6 p6 t0 b1 m1 q1 b2 m2 q2 b3 m3 q3 b4 m4 q4 b5 m5 q5 b6 m6 q6) hd 2 (by kernel_rfl))
                refine wpList_on rfl (t := 29) (by kernel_rfl) eg ?_
                have ex := (((hF 34).trans (look_at _ 34 7 _ _ (by kernel_rfl) (by kernel_rfl) hl)).trans (dep_of (Fact := F_lox bx m i j xb xo c s0 a1 n1 p1 a2 n2 p2 a3 n3 p3 a4 n4 p4 a5 n5 p5 a6 n6 p6 t0 b1 m1 q1 b2 m2 q2 b3 m3 q3 b4 m4 q4 b5 m5 q5 b6 m6 q6) hd 7 (by kernel_rfl)))
                have ey := (((hF 35).trans (look_at _ 35 8 _ _ (by kernel_rfl) (by kernel_rfl) hl)).trans (dep_of (Fact := F_lox bx m i j xb xo c s0 a1 n1 p1 a2 n2 p2 a3 n3 p3 a4 n4 p4 a5 n5 p5 a6 n6 p6 t0 b1 m1 q1 b2 m2 q2 b3 m3 q3 b4 m4 q4 b5 m5 q5 b6 m6 q6) hd 8 (by kernel_rfl)))
                exact one_index 22 _ _ rfl rfl (.slice (some ⟨xb, xo, none⟩) m c) (.int .i64 j) (.pointer (some ⟨xb, xo + j * 7, none⟩)) ex ey (fun w => idx_sys xb xo m c j (by omega) w) ⟨_, rfl, Below.refl _ _, rfl⟩
              · intro vs w' F hb hd hF hl hT
                have eg := ((hF 29).trans (look_at _ 29 2 _ _ (by kernel_rfl) (by kernel_rfl) hl)).trans (dep_of (Fact := F_lox bx m i j xb xo c s0 a1 n1 p1 a2 n2 p2 a3 n3 p3 a4 n4 p4 a5 n5 p5 a6 n6 p6 t0 b1 m1 q1 b2 m2 q2 b3 m3 q3 b4 m4 q4 b5 m5 q5 b6 m6 q6) hd 2 (by kernel_rfl))
                refine wpList_on rfl (t := 29) (by kernel_rfl) eg ?_
                have e := (((hF 36).trans (look_at _ 36 9 _ _ (by kernel_rfl) (by kernel_rfl) hl)).trans (dep_of (Fact := F_lox bx m i j xb xo c s0 a1 n1 p1 a2 n2 p2 a3 n3 p3 a4 n4 p4 a5 n5 p5 a6 n6 p6 t0 b1 m1 q1 b2 m2 q2 b3 m3 q3 b4 m4 q4 b5 m5 q5 b6 m6 q6) hd 9 (by kernel_rfl)))
                exact one_load7 30 _ rfl rfl xb (xo + j * 7) _ _ _ _ _ _ _ e (C7j.out.below hb) _ Try.underlying30 rfl (by kernel_rfl) ⟨_, rfl, Below.refl _ _, rfl⟩
              · intro vs w' F hb hd hF hl hT
                have eg := ((hF 29).trans (look_at _ 29 2 _ _ (by kernel_rfl) (by kernel_rfl) hl)).trans (dep_of (Fact := F_lox bx m i j xb xo c s0 a1 n1 p1 a2 n2 p2 a3 n3 p3 a4 n4 p4 a5 n5 p5 a6 n6 p6 t0 b1 m1 q1 b2 m2 q2 b3 m3 q3 b4 m4 q4 b5 m5 q5 b6 m6 q6) hd 2 (by kernel_rfl))
                refine wpList_on rfl (t := 29) (by kernel_rfl) eg ?_
                refine one_call _ _ rfl rfl (enters_of Try.func12 (by kernel_rfl) rfl) #[.agg #[.string s0, .slice a1 n1 p1, .slice a2 n2 p2, .slice a3 n3 p3, .slice a4 n4 p4, .slice a5 n5 p5, .slice a6 n6 p6], .agg #[.string t0, .slice b1 m1 q1, .slice b2 m2 q2, .slice b3 m3 q3, .slice b4 m4 q4, .slice b5 m5 q5, .slice b6 m6 q6]] (eval2 (((hF 33).trans (look_at _ 33 6 _ _ (by kernel_rfl) (by kernel_rfl) hl)).trans (dep_of (Fact := F_lox bx m i j xb xo c s0 a1 n1 p1 a2 n2 p2 a3 n3 p3 a4 n4 p4 a5 n5 p5 a6 n6 p6 t0 b1 m1 q1 b2 m2 q2 b3 m3 q3 b4 m4 q4 b5 m5 q5 b6 m6 q6) hd 6 (by kernel_rfl))) (((hF 37).trans (look_at _ 37 10 _ _ (by kernel_rfl) (by kernel_rfl) hl)).trans (dep_of (Fact := F_lox bx m i j xb xo c s0 a1 n1 p1 a2 n2 p2 a3 n3 p3 a4 n4 p4 a5 n5 p5 a6 n6 p6 t0 b1 m1 q1 b2 m2 q2 b3 m3 q3 b4 m4 q4 b5 m5 q5 b6 m6 q6) hd 10 (by kernel_rfl)))) ?_
                refine (CC.out w' (HYI.out.below hb) (HYJ.out.below hb)).mono ?_
                rintro e2 w2 ⟨rfl, hb2⟩
                exact ⟨_, rfl, _, rfl, hb2, rfl⟩
              · intro vs w' F hb hd hF hl hT
                have ec := ((hF 29).trans (look_at _ 29 2 _ _ (by kernel_rfl) (by kernel_rfl) hl)).trans (dep_of (Fact := F_lox bx m i j xb xo c s0 a1 n1 p1 a2 n2 p2 a3 n3 p3 a4 n4 p4 a5 n5 p5 a6 n6 p6 t0 b1 m1 q1 b2 m2 q2 b3 m3 q3 b4 m4 q4 b5 m5 q5 b6 m6 q6) hd 2 (by kernel_rfl))
                have e := ((hF 38).trans (look_at _ 38 11 _ _ (by kernel_rfl) (by kernel_rfl) hl)).trans (dep_of (Fact := F_lox bx m i j xb xo c s0 a1 n1 p1 a2 n2 p2 a3 n3 p3 a4 n4 p4 a5 n5 p5 a6 n6 p6 t0 b1 m1 q1 b2 m2 q2 b3 m3 q3 b4 m4 q4 b5 m5 q5 b6 m6 q6) hd 11 (by kernel_rfl))
                exact one_pick_f _ _ _ rfl rfl _ ec e ⟨_, rfl, Below.refl _ _, rfl⟩
            · intro vs8 W8 hl hb hI
              have hv : vs8.getD 12 undef = .bool true := hI 12 (by omega)
              clear CC C7i C7j HYI HYJ
              obtain ⟨x0, x1, x2, x3, x4, x5, x6, x7, x8, x9, x10, x11, x12, hvs⟩ := list13 hl
              subst hvs
              replace hv : x12 = .bool true := hv
              subst hv
              have hc := HC.out W8 hb
              have hu8 := HU.out.gb (below_gb M hb)
              have e3 := cell_abides E3.out hb
              clear hI hl E1 E3
              simp only [fillAll, Act.put, List.setIfInBounds_toArray, List.set_cons_succ, List.set_cons_zero]
              show wpList _ _ _ [] _ _
              go_wp2_with (go_at_call 23; refine hc.mono ?_)
              rintro e9 w9 ⟨v9, D9, n9, rfl, hr9, ho9, hn9, hm9, hg9⟩
              obtain ⟨xa, xc, rfl, hxi, hxb⟩ := hr9
              have hu9 := hu8.gb hg9
              have hgg := HGR.out.trans (below_gb M hb) |>.trans hg9
              have HX := Lib.hid (show RowN w9 M (.slice xa X.length xc) X from ⟨_, _, rfl, hxi, hxb⟩)
              obtain ⟨nX, hnX⟩ : ∃ nX, nX = X.length := ⟨_, rfl⟩
              rw [← hnX] at HX ⊢
              have HNX := Lib.hid hnX
              clear hc hu8 hxi hxb hnX HU hb e3
              by_cases hlx : nU < nX
              · have hsu := HST.out
                rw [← HNU.out, ← HNX.out, if_pos ⟨(by first | exact rfl | trivial), hlx⟩] at hsu
                go_wp2
                go_roundg (m - (j + 1))
                case measure => rw [G2.out]; omega
                case rel => exact ⟨j + 1, _, D9, n9, by omega, hlt, rfl, rfl, by go_num, by rw [hsu]; exact HX.out, ho9, by rw [← HQ0.out]; have := HEN3.out; omega, hm9, hgg⟩
              · have hsu := HST.out
                rw [← HNU.out, ← HNX.out, if_neg (fun h => hlx h.2)] at hsu
                go_wp2
                go_roundg (m - (j + 1))
                case measure => rw [G2.out]; omega
                case rel => exact ⟨j + 1, _, D9, n9, by omega, hlt, rfl, rfl, by go_num, by rw [hsu]; exact hu9, ho9, by rw [← HQ0.out]; have := HEN3.out; omega, hm9, hgg⟩
          | false =>
            go_wp2_with fail
            refine wp_region_facts_t rfl 13 (by kernel_rfl) (F_loy bx m i j xb xo c s0 a1 n1 p1 a2 n2 p2 a3 n3 p3 a4 n4 p4 a5 n5 p5 a6 n6 p6 t0 b1 m1 q1 b2 m2 q2 b3 m3 q3 b4 m4 q4 b5 m5 q5 b6 m6 q6) (F_loy_mono bx m i j xb xo c s0 a1 n1 p1 a2 n2 p2 a3 n3 p3 a4 n4 p4 a5 n5 p5 a6 n6 p6 t0 b1 m1 q1 b2 m2 q2 b3 m3 q3 b4 m4 q4 b5 m5 q5 b6 m6 q6) ?_ ?_
            · refine ⟨?_, ?_, ?_, ?_, ?_, ?_, ?_, ?_, ?_, ?_, ?_, ?_, ?_, trivial⟩
              · intro vs w' F hb hd hF hl hT
                have e := (hF 0).trans (look_out _ 0 _ _ (by kernel_rfl))
                exact one_move _ rfl (by first | exact Or.inl rfl | exact Or.inr rfl) ⟨_, rfl, Below.refl _ _, e⟩
              · intro vs w' F hb hd hF hl hT
                have e := (((hF 27).trans (look_at _ 27 0 _ _ (by kernel_rfl) (by kernel_rfl) hl)).trans (dep_of (Fact := F_loy bx m i j xb xo c s0 a1 n1 p1 a2 n2 p2 a3 n3 p3 a4 n4 p4 a5 n5 p5 a6 n6 p6 t0 b1 m1 q1 b2 m2 q2 b3 m3 q3 b4 m4 q4 b5 m5 q5 b6 m6 q6) hd 0 (by kernel_rfl)))
                exact one_int_lt _ _ _ _ rfl rfl .i64 (i : Int) 0 false e rfl (decide_eq_false (by omega)) ⟨_, rfl, Below.refl _ _, rfl⟩
              · intro vs w' F hb hd hF hl hT
                have e := ((hF 28).trans (look_at _ 28 1 _ _ (by kernel_rfl) (by kernel_rfl) hl)).trans (dep_of (Fact := F_loy bx m i j xb xo c s0 a1 n1 p1 a2 n2 p2 a3 n3 p3 a4 n4 p4 a5 n5 p5 a6 n6 p6 t0 b1 m1 q1 b2 m2 q2 b3 m3 q3 b4 m4 q4 b5 m5 q5 b6 m6 q6) hd 1 (by kernel_rfl))
                exact one_move _ rfl (by first | exact Or.inl rfl | exact Or.inr rfl) ⟨_, rfl, Below.refl _ _, e⟩
              · intro vs w' F hb hd hF hl hT
                have eg := ((hF 29).trans (look_at _ 29 2 _ _ (by kernel_rfl) (by kernel_rfl) hl)).trans (dep_of (Fact := F_loy bx m i j xb xo c s0 a1 n1 p1 a2 n2 p2 a3 n3 p3 a4 n4 p4 a5 n5 p5 a6 n6 p6 t0 b1 m1 q1 b2 m2 q2 b3 m3 q3 b4 m4 q4 b5 m5 q5 b6 m6 q6) hd 2 (by kernel_rfl))
                refine wpList_on rfl (t := 29) (by kernel_rfl) eg ?_
                have e := (hF 2).trans (look_out _ 2 _ _ (by kernel_rfl))
                exact one_load _ _ rfl rfl _ _ e (cell_abides E1.out hb) (by kernel_rfl) ⟨_, rfl, Below.refl _ _, rfl⟩
              · intro vs w' F hb hd hF hl hT
                have eg := ((hF 29).trans (look_at _ 29 2 _ _ (by kernel_rfl) (by kernel_rfl) hl)).trans (dep_of (Fact := F_loy bx m i j xb xo c s0 a1 n1 p1 a2 n2 p2 a3 n3 p3 a4 n4 p4 a5 n5 p5 a6 n6 p6 t0 b1 m1 q1 b2 m2 q2 b3 m3 q3 b4 m4 q4 b5 m5 q5 b6 m6 q6) hd 2 (by kernel_rfl))
                refine wpList_on rfl (t := 29) (by kernel_rfl) eg ?_
                have e := (hF 0).trans (look_out _ 0 _ _ (by kernel_rfl))
                exact one_move _ rfl (by first | exact Or.inl rfl | exact Or.inr rfl) ⟨_, rfl, Below.refl _ _, e⟩
              · intro vs w' F hb hd hF hl hT
                have eg := ((hF 29).trans (look_at _ 29 2 _ _ (by kernel_rfl) (by kernel_rfl) hl)).trans (dep_of (Fact := F_loy bx m i j xb xo c s0 a1 n1 p1 a2 n2 p2 a3 n3 p3 a4 n4 p4 a5 n5 p5 a6 n6 p6 t0 b1 m1 q1 b2 m2 q2 b3 m3 q3 b4 m4 q4 b5 m5 q5 b6 m6 q6) hd 2 (by kernel_rfl))
                refine wpList_on rfl (t := 29) (by kernel_rfl) eg ?_
                have ex := (((hF 30).trans (look_at _ 30 3 _ _ (by kernel_rfl) (by kernel_rfl) hl)).trans (dep_of (Fact := F_loy bx m i j xb xo c s0 a1 n1 p1 a2 n2 p2 a3 n3 p3 a4 n4 p4 a5 n5 p5 a6 n6 p6 t0 b1 m1 q1 b2 m2 q2 b3 m3 q3 b4 m4 q4 b5 m5 q5 b6 m6 q6) hd 3 (by kernel_rfl)))
                have ey := (((hF 31).trans (look_at _ 31 4 _ _ (by kernel_rfl) (by kernel_rfl) hl)).trans (dep_of (Fact := F_loy bx m i j xb xo c s0 a1 n1 p1 a2 n2 p2 a3 n3 p3 a4 n4 p4 a5 n5 p5 a6 n6 p6 t0 b1 m1 q1 b2 m2 q2 b3 m3 q3 b4 m4 q4 b5 m5 q5 b6 m6 q6) hd 4 (by kernel_rfl)))
                exact one_index 22 _ _ rfl rfl (.slice (some ⟨xb, xo, none⟩) m c) (.int .i64 i) (.pointer (some ⟨xb, xo + i * 7, none⟩)) ex ey (fun w => idx_sys xb xo m c i (by omega) w) ⟨_, rfl, Below.refl _ _, rfl⟩
              · intro vs w' F hb hd hF hl hT
                have eg := ((hF 29).trans (look_at _ 29 2 _ _ (by kernel_rfl) (by kernel_rfl) hl)).trans (dep_of (Fact := F_loy bx m i j xb xo c s0 a1 n1 p1 a2 n2 p2 a3 n3 p3 a4 n4 p4 a5 n5 p5 a6 n6 p6 t0 b1 m1 q1 b2 m2 q2 b3 m3 q3 b4 m4 q4 b5 m5 q5 b6 m6 q6) hd 2 (by kernel_rfl))
                refine wpList_on rfl (t := 29) (by kernel_rfl) eg ?_
                have e := (((hF 32).trans (look_at _ 32 5 _ _ (by kernel_rfl) (by kernel_rfl) hl)).trans (dep_of (Fact := F_loy bx m i j xb xo c s0 a1 n1 p1 a2 n2 p2 a3 n3 p3 a4 n4 p4 a5 n5 p5 a6 n6 p6 t0 b1 m1 q1 b2 m2 q2 b3 m3 q3 b4 m4 q4 b5 m5 q5 b6 m6 q6) hd 5 (by kernel_rfl)))
                exact one_load7 30 _ rfl rfl xb (xo + i * 7) _ _ _ _ _ _ _ e (C7i.out.below hb) _ Try.underlying30 rfl (by kernel_rfl) ⟨_, rfl, Below.refl _ _, rfl⟩
              · intro vs w' F hb hd hF hl hT
                have eg := ((hF 29).trans (look_at _ 29 2 _ _ (by kernel_rfl) (by kernel_rfl) hl)).trans (dep_of (Fact := F_loy bx m i j xb xo c s0 a1 n1 p1 a2 n2 p2 a3 n3 p3 a4 n4 p4 a5 n5 p5 a6 n6 p6 t0 b1 m1 q1 b2 m2 q2 b3 m3 q3 b4 m4 q4 b5 m5 q5 b6 m6 q6) hd 2 (by kernel_rfl))
                refine wpList_on rfl (t := 29) (by kernel_rfl) eg ?_
                have e := (hF 2).trans (look_out _ 2 _ _ (by kernel_rfl))
                exact one_load _ _ rfl rfl _ _ e (cell_abides E1.out hb) (by kernel_rfl) ⟨_, rfl, Below.refl _ _, rfl⟩
              · intro vs w' F hb hd hF hl hT
                have eg := ((hF 29).trans (look_at _ 29 2 _ _ (by kernel_rfl) (by kernel_rfl) hl)).trans (dep_of (Fact := F_loy bx m i j xb xo c s0 a1 n1 p1 a2 n2 p2 a3 n3 p3 a4 n4 p4 a5 n5 p5 a6 n6 p6 t0 b1 m1 q1 b2 m2 q2 b3 m3 q3 b4 m4 q4 b5 m5 q5 b6 m6 q6) hd 2 (by kernel_rfl))
                refine wpList_on rfl (t := 29) (by kernel_rfl) eg ?_
                have e := (hF 9).trans (look_out _ 9 _ _ (by kernel_rfl))
                exact one_move _ rfl (by first | exact Or.inl rfl | exact Or.inr rfl) ⟨_, rfl, Below.refl _ _, e⟩
              · intro vs w' F hb hd hF hl hT
                have eg := ((hF 29).trans (look_at _ 29 2 _ _ (by kernel_rfl) (by kernel_rfl) hl)).trans (dep_of (Fact := F_loy bx m i j xb xo c s0 a1 n1 p1 a2 n2 p2 a3 n3 p3 a4 n4 p4 a5 n5 p5 a6 n6 p6 t0 b1 m1 q1 b2 m2 q2 b3 m3 q3 b4 m4 q4 b5 m5 q5 b6 m6 q6) hd 2 (by kernel_rfl))
                refine wpList_on rfl (t := 29) (by kernel_rfl) eg ?_
                have ex := (((hF 34).trans (look_at _ 34 7 _ _ (by kernel_rfl) (by kernel_rfl) hl)).trans (dep_of (Fact := F_loy bx m i j xb xo c s0 a1 n1 p1 a2 n2 p2 a3 n3 p3 a4 n4 p4 a5 n5 p5 a6 n6 p6 t0 b1 m1 q1 b2 m2 q2 b3 m3 q3 b4 m4 q4 b5 m5 q5 b6 m6 q6) hd 7 (by kernel_rfl)))
                have ey := (((hF 35).trans (look_at _ 35 8 _ _ (by kernel_rfl) (by kernel_rfl) hl)).trans (dep_of (Fact := F_loy bx m i j xb xo c s0 a1 n1 p1 a2 n2 p2 a3 n3 p3 a4 n4 p4 a5 n5 p5 a6 n6 p6 t0 b1 m1 q1 b2 m2 q2 b3 m3 q3 b4 m4 q4 b5 m5 q5 b6 m6 q6) hd 8 (by kernel_rfl)))
                exact one_index 22 _ _ rfl rfl (.slice (some ⟨xb, xo, none⟩) m c) (.int .i64 j) (.pointer (some ⟨xb, xo + j * 7, none⟩)) ex ey (fun w => idx_sys xb xo m c j (by omega) w) ⟨_, rfl, Below.refl _ _, rfl⟩
              · intro vs w' F hb hd hF hl hT
                have eg := ((hF 29).trans (look_at _ 29 2 _ _ (by kernel_rfl) (by kernel_rfl) hl)).trans (dep_of (Fact := F_loy bx m i j xb xo c s0 a1 n1 p1 a2 n2 p2 a3 n3 p3 a4 n4 p4 a5 n5 p5 a6 n6 p6 t0 b1 m1 q1 b2 m2 q2 b3 m3 q3 b4 m4 q4 b5 m5 q5 b6 m6 q6) hd 2 (by kernel_rfl))
                refine wpList_on rfl (t := 29) (by kernel_rfl) eg ?_
                have e := (((hF 36).trans (look_at _ 36 9 _ _ (by kernel_rfl) (by kernel_rfl) hl)).trans (dep_of (Fact := F_loy bx m i j xb xo c s0 a1 n1 p1 a2 n2 p2 a3 n3 p3 a4 n4 p4 a5 n5 p5 a6 n6 p6 t0 b1 m1 q1 b2 m2 q2 b3 m3 q3 b4 m4 q4 b5 m5 q5 b6 m6 q6) hd 9 (by kernel_rfl)))
                exact one_load7 30 _ rfl rfl xb (xo + j * 7) _ _ _ _ _ _ _ e (C7j.out.below hb) _ Try.underlying30 rfl (by kernel_rfl) ⟨_, rfl, Below.refl _ _, rfl⟩
              · intro vs w' F hb hd hF hl hT
                have eg := ((hF 29).trans (look_at _ 29 2 _ _ (by kernel_rfl) (by kernel_rfl) hl)).trans (dep_of (Fact := F_loy bx m i j xb xo c s0 a1 n1 p1 a2 n2 p2 a3 n3 p3 a4 n4 p4 a5 n5 p5 a6 n6 p6 t0 b1 m1 q1 b2 m2 q2 b3 m3 q3 b4 m4 q4 b5 m5 q5 b6 m6 q6) hd 2 (by kernel_rfl))
                refine wpList_on rfl (t := 29) (by kernel_rfl) eg ?_
                refine one_call _ _ rfl rfl (enters_of Try.func12 (by kernel_rfl) rfl) #[.agg #[.string s0, .slice a1 n1 p1, .slice a2 n2 p2, .slice a3 n3 p3, .slice a4 n4 p4, .slice a5 n5 p5, .slice a6 n6 p6], .agg #[.string t0, .slice b1 m1 q1, .slice b2 m2 q2, .slice b3 m3 q3, .slice b4 m4 q4, .slice b5 m5 q5, .slice b6 m6 q6]] (eval2 (((hF 33).trans (look_at _ 33 6 _ _ (by kernel_rfl) (by kernel_rfl) hl)).trans (dep_of (Fact := F_loy bx m i j xb xo c s0 a1 n1 p1 a2 n2 p2 a3 n3 p3 a4 n4 p4 a5 n5 p5 a6 n6 p6 t0 b1 m1 q1 b2 m2 q2 b3 m3 q3 b4 m4 q4 b5 m5 q5 b6 m6 q6) hd 6 (by kernel_rfl))) (((hF 37).trans (look_at _ 37 10 _ _ (by kernel_rfl) (by kernel_rfl) hl)).trans (dep_of (Fact := F_loy bx m i j xb xo c s0 a1 n1 p1 a2 n2 p2 a3 n3 p3 a4 n4 p4 a5 n5 p5 a6 n6 p6 t0 b1 m1 q1 b2 m2 q2 b3 m3 q3 b4 m4 q4 b5 m5 q5 b6 m6 q6) hd 10 (by kernel_rfl)))) ?_
                refine (CC.out w' (HYI.out.below hb) (HYJ.out.below hb)).mono ?_
                rintro e2 w2 ⟨rfl, hb2⟩
                exact ⟨_, rfl, _, rfl, hb2, rfl⟩
              · intro vs w' F hb hd hF hl hT
                have ec := ((hF 29).trans (look_at _ 29 2 _ _ (by kernel_rfl) (by kernel_rfl) hl)).trans (dep_of (Fact := F_loy bx m i j xb xo c s0 a1 n1 p1 a2 n2 p2 a3 n3 p3 a4 n4 p4 a5 n5 p5 a6 n6 p6 t0 b1 m1 q1 b2 m2 q2 b3 m3 q3 b4 m4 q4 b5 m5 q5 b6 m6 q6) hd 2 (by kernel_rfl))
                have e := ((hF 38).trans (look_at _ 38 11 _ _ (by kernel_rfl) (by kernel_rfl) hl)).trans (dep_of (Fact := F_loy bx m i j xb xo c s0 a1 n1 p1 a2 n2 p2 a3 n3 p3 a4 n4 p4 a5 n5 p5 a6 n6 p6 t0 b1 m1 q1 b2 m2 q2 b3 m3 q3 b4 m4 q4 b5 m5 q5 b6 m6 q6) hd 11 (by kernel_rfl))
                exact one_pick_f _ _ _ rfl rfl _ ec e ⟨_, rfl, Below.refl _ _, rfl⟩
            · intro vs8 W8 hl hb hI
              have hv : vs8.getD 12 undef = .bool false := hI 12 (by omega)
              clear CC C7i C7j HYI HYJ
              obtain ⟨x0, x1, x2, x3, x4, x5, x6, x7, x8, x9, x10, x11, x12, hvs⟩ := list13 hl
              subst hvs
              replace hv : x12 = .bool false := hv
              subst hv
              have hu8 := HU.out.gb (below_gb M hb)
              have ho8 := HOWN.out.kept (below_gn hb) (by simp)
              have hm8 := HMEMO.out.gb (below_gb M hb)
              have hgg := HGR.out.trans (below_gb M hb)
              have hsu := HST.out
              rw [if_neg (fun h => Bool.noConfusion h.1)] at hsu
              clear hI hl E1 E3 hb
              simp only [fillAll, Act.put, List.setIfInBounds_toArray, List.set_cons_succ, List.set_cons_zero]
              show wpList _ _ _ [] _ _
              go_wp2
              go_roundg (m - (j + 1))
              case measure => rw [G2.out]; omega
              case rel => exact ⟨j + 1, _, D, en2, by omega, hlt, rfl, rfl, by go_num, by rw [hsu]; exact hu8, ho8, by rw [← HQ0.out]; have := HEN3.out; omega, hm8, hgg⟩
      · have hje : j = m := by omega
        subst hje
        clear c1 c2 c3 d3 hown hmemo hgr hst
        obtain ⟨U, hU⟩ : ∃ U, U = bodC l j I (j - I) := ⟨_, rfl⟩
        rw [← hU] at hui hnl ⊢
        obtain ⟨nU, hnU⟩ : ∃ nU, nU = U.length := ⟨_, rfl⟩
        rw [← hnU] at hnl ⊢
        by_cases hI0 : I = 0
        · have i0 : iv < 0 := by omega
          have hfro : froC l j I = U := by unfold froC; rw [if_pos hI0, hU, hI0, Nat.sub_zero]
          have hrow := (show RowN wr M (.slice ua nU uc) (froC l j I) from ⟨ua, uc, by rw [hfro, hnU], by rw [hfro]; exact hui, hub⟩)
          have HROW := Lib.hid hrow
          clear hU hnU hfro hui hub hrow
          have hkey := HKEY.out
          have hown := HOWN.out
          have e : (2:Nat) ^ (j - j) = 1 := by rw [Nat.sub_self]
          rw [e] at hen3
          clear e
          go_wp2_with (at_mapUpdate; go_must (refine wpList_mapUpdate_own _ rfl _ _ _ 56 rfl 3 26 keyInt Try.underlying56 RV M en2 D rfl hown (by have : maxLen = 9223372036854775807 := rfl; omega) (.int .i64 iv) _ (.int .i64 iv) rfl rfl hkey (.held _) [] rfl ?_); intro w9 hown9 hg9)
          go_ret
          rw [HKI.out] at hown9
          refine ⟨_, _, en2 + 1, rfl, HROW.out.gb hg9, hown9, hen3, (HMEMO.out.put (World.ownsMap.isMap HOWN.out) I _ HROW.out).gb hg9, HGR.out.trans hg9⟩
        · obtain ⟨i, hIi⟩ : ∃ i, I = i + 1 := ⟨I - 1, by omega⟩
          have i0 : 0 ≤ iv := by omega
          have hivi : iv = (i : Int) := by omega
          have hfro : froC l j I = i :: U := by
            unfold froC
            rw [if_neg hI0, hU, show I - 1 = i by omega]
          have HFRO := Lib.hid hfro
          have HNU := Lib.hid hnU
          have HML := World.ownsMap.lt HOWN.out
          have e : (2:Nat) ^ (j - j) = 1 := by rw [Nat.sub_self]
          rw [e] at hen3
          obtain ⟨o1, ho1⟩ : ∃ o : Obj, o = .cells #[.int .i64 iv] 3 (0, 0) := ⟨_, rfl⟩
          have hb1 := (Below.refl wr.heap.size wr).alloc (Nat.le_refl _) o1
          have hui1 := hui.below hb1
          have hul : (ints U).length = nU := by rw [ints_len, hnU]
          rw [ho1] at hb1 hui1
          have hown1 := own_one wr 3 (.int .i64 iv)
          have HB1 := Lib.hid hb1
          clear e hU hnU hfro ho1 o1 hb1 hivi
          go_wp2_with (at_builtin; go_must (refine wpList_append_ints rfl _ _ 26 rfl wr.heap.size 3 .i64 8 Try.underlying26 (by kernel_rfl) (.slice (some ⟨wr.heap.size, 0, none⟩) 1 1) 1 [iv] rfl hown1 ua nU uc (ints U) rfl hul hui1 (by have : maxLen = 9223372036854775807 := rfl; omega) (by omega) (by simp) ?_))
          intro v8 w8 hown8 hg8 hor8
          have hgr8 := gb_of_row HB1.out hg8
          have hownM := HOWN.out.kept hgr8 (by simp)
          have hm8 := HMEMO.out.gb (gn_some hgr8 M)
          obtain ⟨g8, c8, hform, hg81, hg82⟩ := hown8.form (by omega)
          subst hform
          have hrow := (show RowN w8 M (.slice (some ⟨g8, 0, none⟩) (1 + nU) c8) (froC l j I) from ⟨_, c8, by rw [HFRO.out, List.length_cons, ← HNU.out, Nat.add_comm], by
            rw [HFRO.out]
            have := IntsAt.of_own hown8 (by rw [List.length_cons, hul, Nat.add_comm])
            rw [show ints (i :: U) = iv :: ints U by rw [show iv = (i : Int) by omega]; rfl]
            exact this, fun x hx => by injection hx with hx; subst hx; show g8 ≠ M; omega⟩)
          have HROW := Lib.hid hrow
          have HOWN8 := Lib.hid hownM
          have HM8 := Lib.hid hm8
          have HG8 := Lib.hid (HGR.out.trans (gn_some hgr8 M))
          have hc2 := cell_gb hgr8 d2
          have hkey := HKEY.out
          clear hown1 hul hui1 hown8 hg8 hor8 hgr8 hm8 hrow hui hub d1 d2 HB1
          go_wp2_with (at_mapUpdate; go_must (refine wpList_mapUpdate_own _ rfl _ _ _ 56 rfl 3 26 keyInt Try.underlying56 RV M en2 D rfl hownM (by have : maxLen = 9223372036854775807 := rfl; omega) (.int .i64 iv) _ (.int .i64 iv) rfl rfl hkey (.held _) [] rfl ?_); intro w9 hown9 hg9)
          go_ret
          rw [HKI.out] at hown9
          refine ⟨_, _, en2 + 1, rfl, HROW.out.gb hg9, hown9, hen3, (HM8.out.put (World.ownsMap.isMap HOWN8.out) I _ HROW.out).gb hg9, HG8.out.trans hg9⟩
theorem rows4 (w : World) (o1 o2 o3 o4 : Obj) : ((((w.alloc o1).alloc o2).alloc o3).alloc o4).heap[w.heap.size]? = some o1 ∧ ((((w.alloc o1).alloc o2).alloc o3).alloc o4).heap[w.heap.size + 1]? = some o2 ∧ ((((w.alloc o1).alloc o2).alloc o3).alloc o4).heap[w.heap.size + 1 + 1]? = some o3 ∧ ((((w.alloc o1).alloc o2).alloc o3).alloc o4).heap[w.heap.size + 1 + 1 + 1]? = some o4 := by
  have h1 := heap_alloc_new w o1
  have h2 := heap_alloc_new (w.alloc o1) o2
  have h3 := heap_alloc_new ((w.alloc o1).alloc o2) o3
  have h4 := heap_alloc_new (((w.alloc o1).alloc o2).alloc o3) o4
  simp only [World.size_alloc] at h2 h3 h4
  exact ⟨heap_keep (heap_keep (heap_keep h1 _) _) _, heap_keep (heap_keep h2 _) _, heap_keep h3 _, h4⟩
theorem size4 (w : World) (o1 o2 o3 o4 : Obj) : ((((w.alloc o1).alloc o2).alloc o3).alloc o4).heap.size = w.heap.size + 1 + 1 + 1 + 1 := by simp only [World.size_alloc]
theorem below4 (w : World) (o1 o2 o3 o4 : Obj) : Below w.heap.size w ((((w.alloc o1).alloc o2).alloc o3).alloc o4) := (((((Below.refl w.heap.size w).alloc (Nat.le_refl _) o1).alloc (by simp) o2).alloc (by simp; omega) o3).alloc (by simp; omega) o4)
theorem map4 (w : World) (o1 o3 o4 : Obj) : OwnV ((((w.alloc o1).alloc (.map #[] 0)).alloc o3).alloc o4) (w.heap.size + 1) 0 (.map []) := by
  have h := World.ownsMap_made (w.alloc o1) Try.prog 3 RV
  rw [World.size_alloc] at h
  exact (h.alloc o3).alloc o4
set_option maxHeartbeats 4000000 in
theorem ref_Longest (a : Option Addr) (c m : Nat) (l : List SysV) (hm : l.length = m) (h24 : m ≤ 24) (w : World) (ha : SlAt 7 SysAt w a l) :
    Calls Try.prog 16 #[.slice a m c] w fun e w' => ∃ a2 c2, e = .returned (.slice a2 (froC l m 0).length c2) ∧ IntsAt .i64 w' a2 (ints (froC l m 0)) ∧ Below w.heap.size w w' := by
  have HM := Lib.hid hm
  have HA := Lib.hid ha
  clear hm ha
  have hmm := @run_makeMap Try.prog
  have hg4 := (rows4 w (.cells #[.slice a m c] 22 (0, 0)) (.map #[] 0) (.cells #[.map (some (w.heap.size + 1))] 56 (0, 0)) (.cells #[.nilFunc] 57 (0, 0)))
  have HG4 := Lib.hid hg4
  clear hg4
  go_enter Try.func16, Try.ntmps16
  go_wp2_with (refine wpList_store_var rfl 57 _ _ rfl (w.heap.size + 1 + 1 + 1) _ rfl rfl rfl rfl 57 .nilFunc HG4.out.2.2.2 (by kernel_rfl) ?_; intro w5 hput; have c3 : w5.cell? ⟨w.heap.size + 1 + 1 + 1, 0, none⟩ = some (froV (w.heap.size + 1 + 1) w.heap.size (w.heap.size + 1 + 1 + 1)) := cell_of_one hput.here; have HPUT := Lib.hid hput; clear hput)
  have hput := HPUT.out
  have h0 : w5.heap[w.heap.size]? = some (.cells #[.slice a m c] 22 (0, 0)) := (hput.else_ _ (by omega)).trans HG4.out.1
  have h2 : w5.heap[w.heap.size + 1 + 1]? = some (.cells #[.map (some (w.heap.size + 1))] 56 (0, 0)) := (hput.else_ _ (by omega)).trans HG4.out.2.2.1
  have h3 : w5.heap[w.heap.size + 1 + 1 + 1]? = some (.cells #[froV (w.heap.size + 1 + 1) w.heap.size (w.heap.size + 1 + 1 + 1)] 57 (0, 0)) := hput.here
  have hb5 := (below4 w _ _ _ _).trans (hput.below (show w.heap.size ≤ w.heap.size + 1 + 1 + 1 by omega))
  have hown : OwnV w5 (w.heap.size + 1) 0 (.map []) := (map4 w _ _ _).kept ⟨hput.os, hput.tape, hput.output, by rw [hput.size]; exact Nat.le_refl _, fun k hk hne => hput.else_ k (fun e => hne (by rw [e]))⟩ (show some (w.heap.size + 1) ≠ some (w.heap.size + 1 + 1 + 1) from fun e => by injection e with e; omega)
  have hc := from_clos a c m l HM.out h24 w HA.out (w.heap.size + 1 + 1) w.heap.size (w.heap.size + 1 + 1 + 1) (w.heap.size + 1) (by omega) (m - 0) 0 rfl (Nat.zero_le _) (-1) (by simp) w5 (.map []) 0 hb5 ⟨⟨h0, h2, h3⟩, by omega, by omega, by omega⟩ hown (fun I _ hh => by cases hh) (by
    rw [Nat.zero_add]
    exact Nat.pow_le_pow_right (by decide) (by omega))
  have HB5 := Lib.hid hb5
  clear hown hb5 h0 h2 h3 hput HPUT HG4 hmm
  go_wp2_with (go_at_call 23; refine hc.mono ?_)
  rintro e9 w9 ⟨v9, D9, n9, rfl, ⟨a2, c2, rfl, hi, hb⟩, _, _, _, hg⟩
  go_wp2
  go_ret
  exact ⟨a2, c2, rfl, hi, HB5.out.grown hg HB5.out.size (fun r h => by injection h with h; omega)⟩
end Go.Proofs.Ytembjokbhbdoeaa
