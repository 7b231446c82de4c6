/- The reference's Times: the product of two quaternions by a table. -/
import Derived.Test.YtehpfkmaikbjkaaQuatMul
import Derived.Test.YtehpfkmaikbjkaaRegNew
import Derived.Test.YtehpfkmaikbjkaaGrown
import Derived.Deep.LoopGhost
namespace Go.Proofs.Ytehpfkmaikbjkaa
open Go.ChangeShapes Go.WideShapes Go.ChangeAt Go.RowKit Go.Mem Go.Nb
set_option linter.unusedVariables false
/-- Two rows made by one statement: what its operations yield. -/
def FTwo (B : Nat) (a b c d p q r s : Int) (j : Nat) (v : Value) (w : World) : Prop :=
  if j = 0 ∨ j = 1 then v = .agg #[.int .i64 a, .int .i64 b, .int .i64 c, .int .i64 d]
  else if j = 2 ∨ j = 3 then v = .agg #[.int .i64 p, .int .i64 q, .int .i64 r, .int .i64 s]
  else NewRow B 89 #[.int .i64 0, .int .i64 0, .int .i64 0, .int .i64 0] v w
theorem FTwo_mono (B : Nat) (a b c d p q r s : Int) : Facts (FTwo B a b c d p q r s) := ⟨by
  intro j v w w' h hb
  unfold FTwo at *
  split at h
  · rename_i c; rw [if_pos c]; exact h
  · rename_i c; rw [if_neg c]
    split at h
    · rename_i c2; rw [if_pos c2]; exact h
    · rename_i c2; rw [if_neg c2]; exact h.mono hb⟩
def nTwo (j : Nat) : Bool := decide (4 ≤ j)
theorem new_ne {B : Nat} {t : TypeId} {cs : Array Value} {u : Value} {w : World} (h : NewRow B t cs u w) : Value.pointer (some ⟨w.heap.size, 0, none⟩) ≠ u := by
  obtain ⟨X, rfl, _, h3, _⟩ := h
  intro e
  injection e with e
  injection e with e
  injection e with e
  omega
theorem two_ne {B : Nat} {a b c d p q r s : Int} {w : World} (k : Nat) (u : Value) (hn : nTwo k = true) (h : FTwo B a b c d p q r s k u w) : Value.pointer (some ⟨w.heap.size, 0, none⟩) ≠ u := by
  have hk : 4 ≤ k := by simpa [nTwo] using hn
  unfold FTwo at h
  rw [if_neg (by omega), if_neg (by omega)] at h
  exact new_ne h
def plT : List Nat := [0, 1, 2, 3, 1, 0, 3, 2, 2, 3, 0, 1, 3, 2, 1, 0]
def sgT : List Int := [1, -1, -1, -1, 1, 1, 1, -1, 1, -1, 1, 1, 1, 1, -1, 1]
theorem pl_lt (i : Nat) : plT.getD i 0 < 4 := by
  rcases Nat.lt_or_ge i 16 with h | h
  · have : i = 0 ∨ i = 1 ∨ i = 2 ∨ i = 3 ∨ i = 4 ∨ i = 5 ∨ i = 6 ∨ i = 7 ∨ i = 8 ∨ i = 9 ∨ i = 10 ∨ i = 11 ∨ i = 12 ∨ i = 13 ∨ i = 14 ∨ i = 15 := by omega
    rcases this with h | h | h | h | h | h | h | h | h | h | h | h | h | h | h | h <;> subst h <;> decide
  · simp [plT, List.getD_eq_getElem?_getD, h]
theorem four_of {i : Nat} (h : i < 4) : i = 0 ∨ i = 1 ∨ i = 2 ∨ i = 3 := by omega
theorem mul_term (a b c d p q r s : Int) (i k : Nat) (hi : i < 4) (hk : k < 4) : sgT.getD (i * 4 + k) 0 * qm ([a, b, c, d].getD k 0) ([p, q, r, s].getD (plT.getD (i * 4 + k) 0) 0) = (mulL a b c d p q r s i).getD k 0 := by
  rcases four_of hi with h | h | h | h <;> subst h <;> rcases four_of hk with h | h | h | h <;> subst h <;> simp [plT, sgT, mulL]
theorem mulL_len (a b c d p q r s : Int) (i : Nat) : (mulL a b c d p q r s i).length = 4 := by
  unfold mulL; split <;> rfl
theorem mulL_bd (a b c d p q r s : Int) (i k : Nat) (hi : i < 4) (hk : k < 4) : -1099511627776 ≤ (mulL a b c d p q r s i).getD k 0 ∧ (mulL a b c d p q r s i).getD k 0 ≤ 1099511627776 := by
  have h : ∀ x y, (-1099511627776 ≤ qm x y ∧ qm x y ≤ 1099511627776) ∧ (-1099511627776 ≤ -qm x y ∧ -qm x y ≤ 1099511627776) := fun x y => by have := qm_bd x y; omega
  rcases four_of hi with e | e | e | e <;> subst e <;> rcases four_of hk with e | e | e | e <;> subst e <;> first | exact (h _ _).1 | exact (h _ _).2
theorem wpList_store_put {P : Program} {ops : Array Oper} {rest : List Oper} {o : Oper} {a : Act} {w : World} {Q : Exit → Act → World → Prop} (hgd : o.guard = none) (ty : TypeId) (x y : Operand) (ho : o.op = .store ty x y)
    (g : Nat) (cells : Array Value) (hx : a.eval x = .pointer (some ⟨g, 0, none⟩)) (hy : a.eval y = .agg cells)
    (t : TypeId) (old : Array Value) (hg : w.heap[g]? = some (.cells old t (0, 0))) (hi : (P.info? ty).map (·.size) = some cells.size)
    (hold : old.size = cells.size) (h1 : cells.all (·.oneCell') = true)
    (h : ∀ w2 : World, w2.heap[g]? = some (.cells cells t (0, 0)) → RowKit.Below g w w2 → w2.heap.size = w.heap.size → (∀ k, k ≠ g → w2.heap[k]? = w.heap[k]?) → wpList P ops Q rest (a.put o.dst undef) w2) : wpList P ops Q (o :: rest) a w :=
  wpList_store_row hgd ty x y ho g cells hx hy t old hg hi hold h1
    (h _ (setRow_heap w g old cells t _ hg) ⟨rfl, rfl, rfl, by simp, fun k hk => setRow_other w g k cells (by omega)⟩ (by simp) (fun k hk => setRow_other w g k cells hk))
def F_times (N0 X Y i k pl : Nat) (x y sg S Q tm : Int) (j : Nat) (v : Value) (w : World) : Prop := v = ([.slice (some ⟨N0 + 1 + 1, 0, none⟩) 4 4, .int .i64 i, .slice (some ⟨N0 + 1 + 1, 0, none⟩) 4 4, .int .i64 i, .pointer (some ⟨N0 + 1 + 1, i, none⟩), .int .i64 S, .int .i64 i, .int .i64 k, .pointer (some ⟨N0 + 1, i * 4, none⟩), .pointer (some ⟨N0 + 1, i * 4 + k, none⟩), .int .i64 sg, .int .i64 k, .pointer (some ⟨X, k, none⟩), .int .i64 x, .int .i64 i, .int .i64 k, .pointer (some ⟨N0, i * 4, none⟩), .pointer (some ⟨N0, i * 4 + k, none⟩), .int .i64 pl, .pointer (some ⟨Y, pl, none⟩), .int .i64 y, .int .i64 Q, .int .i64 tm, .int .i64 (lim (lim S + lim tm)), .pointer (some ⟨N0 + 1 + 1, i, none⟩)] : List Value).getD j undef
theorem F_times_mono (N0 X Y i k pl : Nat) (x y sg S Q tm : Int) : Facts (F_times N0 X Y i k pl x y sg S Q tm) := ⟨fun _ _ _ _ h _ => h⟩
theorem list26 {vs : List Value} (h : vs.length = 26) : ∃ a0 a1 a2 a3 a4 a5 a6 a7 a8 a9 a10 a11 a12 a13 a14 a15 a16 a17 a18 a19 a20 a21 a22 a23 a24 a25, vs = [a0, a1, a2, a3, a4, a5, a6, a7, a8, a9, a10, a11, a12, a13, a14, a15, a16, a17, a18, a19, a20, a21, a22, a23, a24, a25] := by
  match vs, h with
  | [a0, a1, a2, a3, a4, a5, a6, a7, a8, a9, a10, a11, a12, a13, a14, a15, a16, a17, a18, a19, a20, a21, a22, a23, a24, a25], _ => exact ⟨a0, a1, a2, a3, a4, a5, a6, a7, a8, a9, a10, a11, a12, a13, a14, a15, a16, a17, a18, a19, a20, a21, a22, a23, a24, a25, rfl⟩
set_option maxHeartbeats 16000000 in
set_option maxRecDepth 100000 in
theorem ref_Times (a b c d p q r s : Int) (w : World) : Calls Try.prog 54 #[.agg #[.int .i64 a, .int .i64 b, .int .i64 c, .int .i64 d], .agg #[.int .i64 p, .int .i64 q, .int .i64 r, .int .i64 s]] w fun e w' => e = .returned (.agg #[.int .i64 (mulq a b c d p q r s 0), .int .i64 (mulq a b c d p q r s 1), .int .i64 (mulq a b c d p q r s 2), .int .i64 (mulq a b c d p q r s 3)]) ∧ Below w.heap.size w w' := by
  go_enter Try.func54, Try.ntmps54
  go_wp2_with fail
  have t1 := ((four_new 62 w a b c d).alloc (.cells #[.int .i64 p, .int .i64 q, .int .i64 r, .int .i64 s] 62)).alloc (.cells #[.int .i64 0, .int .i64 0, .int .i64 0, .int .i64 0] 62)
  have t2 := (four_new2 62 w (.cells #[.int .i64 a, .int .i64 b, .int .i64 c, .int .i64 d] 62) p q r s).alloc (.cells #[.int .i64 0, .int .i64 0, .int .i64 0, .int .i64 0] 62)
  have t3 := four_new2 62 (w.alloc (.cells #[.int .i64 a, .int .i64 b, .int .i64 c, .int .i64 d] 62)) (.cells #[.int .i64 p, .int .i64 q, .int .i64 r, .int .i64 s] 62) 0 0 0 0
  have hB := ((((Below.refl w.heap.size w).alloc (Nat.le_refl _) (.cells #[.int .i64 a, .int .i64 b, .int .i64 c, .int .i64 d] 62)).alloc (by simp) (.cells #[.int .i64 p, .int .i64 q, .int .i64 r, .int .i64 s] 62)).alloc (by simp; omega) (.cells #[.int .i64 0, .int .i64 0, .int .i64 0, .int .i64 0] 62))
  rw [World.size_alloc] at t3
  generalize ((w.alloc (.cells #[.int .i64 a, .int .i64 b, .int .i64 c, .int .i64 d] 62)).alloc (.cells #[.int .i64 p, .int .i64 q, .int .i64 r, .int .i64 s] 62)).alloc (.cells #[.int .i64 0, .int .i64 0, .int .i64 0, .int .i64 0] 62) = W0 at *
  have l3 := t3.lt
  refine wp_region_facts_new rfl 6 (by kernel_rfl) (FTwo W0.heap.size a b c d p q r s) nTwo (FTwo_mono _ _ _ _ _ _ _ _ _) ?_ ?_
  · refine ⟨?_, ?_, ?_, ?_, ?_, ?_, trivial⟩
    · intro vs w' F hb hd hF hl
      exact one_load_row _ _ rfl rfl w.heap.size #[.int .i64 a, .int .i64 b, .int .i64 c, .int .i64 d] 62 (0, 0) ((hF 2).trans (look_out _ 2 _ _ (by kernel_rfl))) (t1.mono hb) _ Try.underlying62 rfl (by kernel_rfl) ⟨_, rfl, Below.refl _ _, rfl, fun h => absurd h (by decide)⟩
    · intro vs w' F hb hd hF hl
      have e := (hF 12).trans ((look_at _ 12 0 _ _ (by kernel_rfl) (by kernel_rfl) hl).trans (dep_of (Fact := FTwo W0.heap.size a b c d p q r s) hd 0 (by kernel_rfl)))
      refine one_call _ _ rfl rfl (enters_of Try.func89 (by kernel_rfl) rfl) #[.agg #[.int .i64 a, .int .i64 b, .int .i64 c, .int .i64 d]] (eval1 e) ?_
      refine (ref_four a b c d _).mono ?_
      rintro e w2 ⟨rfl, hb2⟩
      exact ⟨_, rfl, _, rfl, hb2, rfl, fun h => absurd h (by decide)⟩
    · intro vs w' F hb hd hF hl
      exact one_load_row _ _ rfl rfl (w.heap.size + 1) #[.int .i64 p, .int .i64 q, .int .i64 r, .int .i64 s] 62 (0, 0) ((hF 3).trans (look_out _ 3 _ _ (by kernel_rfl))) (t2.mono hb) _ Try.underlying62 rfl (by kernel_rfl) ⟨_, rfl, Below.refl _ _, rfl, fun h => absurd h (by decide)⟩
    · intro vs w' F hb hd hF hl
      have e := (hF 14).trans ((look_at _ 14 2 _ _ (by kernel_rfl) (by kernel_rfl) hl).trans (dep_of (Fact := FTwo W0.heap.size a b c d p q r s) hd 2 (by kernel_rfl)))
      refine one_call _ _ rfl rfl (enters_of Try.func89 (by kernel_rfl) rfl) #[.agg #[.int .i64 p, .int .i64 q, .int .i64 r, .int .i64 s]] (eval1 e) ?_
      refine (ref_four p q r s _).mono ?_
      rintro e w2 ⟨rfl, hb2⟩
      exact ⟨_, rfl, _, rfl, hb2, rfl, fun h => absurd h (by decide)⟩
    · intro vs w' F hb hd hF hl
      exact one_alloc_agg _ rfl rfl (.agg #[.int .i64 0, .int .i64 0, .int .i64 0, .int .i64 0]) _ (by kernel_rfl) rfl ⟨_, rfl, (Below.refl _ _).alloc (Nat.le_refl _) _, ⟨_, rfl, hb.size, by simp, heap_alloc_new _ _⟩, fun _ k u hn hu => two_ne k u hn hu⟩
    · intro vs w' F hb hd hF hl
      exact one_alloc_agg _ rfl rfl (.agg #[.int .i64 0, .int .i64 0, .int .i64 0, .int .i64 0]) _ (by kernel_rfl) rfl ⟨_, rfl, (Below.refl _ _).alloc (Nat.le_refl _) _, ⟨_, rfl, hb.size, by simp, heap_alloc_new _ _⟩, fun _ k u hn hu => two_ne k u hn hu⟩
  · intro vs W1 hl hb hI hN
    obtain ⟨v0, v1, v2, v3, v4, v5, v6, v7, rfl⟩ := l_8 hl
    have i0 : v0 = .agg #[.int .i64 a, .int .i64 b, .int .i64 c, .int .i64 d] := hI 0 (by omega)
    have i1 : v1 = .agg #[.int .i64 a, .int .i64 b, .int .i64 c, .int .i64 d] := hI 1 (by omega)
    have i2 : v2 = .agg #[.int .i64 p, .int .i64 q, .int .i64 r, .int .i64 s] := hI 2 (by omega)
    have i3 : v3 = .agg #[.int .i64 p, .int .i64 q, .int .i64 r, .int .i64 s] := hI 3 (by omega)
    obtain ⟨X, i4, x1, x2, x3⟩ : NewRow W0.heap.size 89 #[.int .i64 0, .int .i64 0, .int .i64 0, .int .i64 0] v4 W1 := hI 4 (by omega)
    obtain ⟨Y, i5, y1, y2, y3⟩ : NewRow W0.heap.size 89 #[.int .i64 0, .int .i64 0, .int .i64 0, .int .i64 0] v5 W1 := hI 5 (by omega)
    have hne : v4 ≠ v5 := hN 4 5 (by omega) (by omega) (by omega) rfl rfl
    subst i0 i1 i2 i3 i4 i5
    have hXY : X ≠ Y := fun e => hne (by rw [e])
    have f3 := t3.mono hb
    have hB1 := hB.trans (hb.mono hB.size)
    clear hI hN hl hne hb t1 t2 t3 hB
    generalize hFF : fillAll _ _ _ = F
    have e1 : F.eval (.tmp 5) = .pointer (some ⟨X, 0, none⟩) := by rw [← hFF]; exact (eval_fill _ 5 _ _).trans rfl
    have e2 : F.eval (.tmp 13) = .agg #[.int .i64 a, .int .i64 b, .int .i64 c, .int .i64 d] := by rw [← hFF]; exact (eval_fill _ 13 _ _).trans rfl
    have e3 : F.eval (.tmp 6) = .pointer (some ⟨Y, 0, none⟩) := by rw [← hFF]; exact (eval_fill _ 6 _ _).trans rfl
    have e4 : F.eval (.tmp 15) = .agg #[.int .i64 p, .int .i64 q, .int .i64 r, .int .i64 s] := by rw [← hFF]; exact (eval_fill _ 15 _ _).trans rfl
    refine wpList_store_put rfl 89 (.tmp 5) (.tmp 13) rfl X #[.int .i64 a, .int .i64 b, .int .i64 c, .int .i64 d] e1 e2 _ _ x3 (by kernel_rfl) rfl (ones4 _ _ _ _) ?_
    intro W2 g1 p1 z1 o1
    have y4 := (o1 Y hXY.symm).trans y3
    have f4 : Four 62 W2 (w.heap.size + 1 + 1) 0 0 0 0 := (o1 _ (by omega)).trans f3
    have hB2 := hB1.trans (p1.mono (by omega))
    refine wpList_store_put rfl 89 (.tmp 6) (.tmp 15) rfl Y #[.int .i64 p, .int .i64 q, .int .i64 r, .int .i64 s] e3 e4 _ _ y4 (by kernel_rfl) rfl (ones4 _ _ _ _) ?_
    intro W3 g2 p2 z2 o2
    have fX : Four 89 W3 X a b c d := (o2 X hXY).trans g1
    have fY : Four 89 W3 Y p q r s := g2
    have fR : Four 62 W3 (w.heap.size + 1 + 1) 0 0 0 0 := (o2 _ (by omega)).trans f4
    have hB3 := hB2.trans (p2.mono (by omega))
    clear x2 x3 y2 y3 f3 hB1 e1 e2 e3 e4 g1 p1 z1 o1 y4 f4 hB2 g2 p2 z2 o2
    subst hFF
    simp only [fillAll, Act.put, List.setIfInBounds_toArray, List.set_cons_succ, List.set_cons_zero]
    obtain ⟨i0, hi, hz0, hz1, hz2⟩ := info_parts (show (Try.prog.info? 3).map (fun i => (i.zero, i.size, i.bytes)) = some (some (.int .i64 0), 1, 8) by kernel_rfl)
    go_wp2_with (at_make; go_must (refine wpList_make_full _ rfl _ _ 38 rfl (W3.heap.size + 1 + 1) 3 i0 (.int .i64 0) 1 Try.underlying38 hi hz0 hz1 _ _ _ _ 4 rfl rfl (by omega) (by omega) ?b1 ?b2 ?b3 ?_))
    case b1 => rw [hz2]; omega
    case b2 => unfold maxLen; omega
    case b3 => simp
    intro w4 hown hgr
    rw [toList_madeCells_one] at hown
    have rP : (W3.alloc (.cells #[.int .i64 0, .int .i64 1, .int .i64 2, .int .i64 3, .int .i64 1, .int .i64 0, .int .i64 3, .int .i64 2, .int .i64 2, .int .i64 3, .int .i64 0, .int .i64 1, .int .i64 3, .int .i64 2, .int .i64 1, .int .i64 0] 91)).heap[W3.heap.size]? = some (.cells #[.int .i64 0, .int .i64 1, .int .i64 2, .int .i64 3, .int .i64 1, .int .i64 0, .int .i64 3, .int .i64 2, .int .i64 2, .int .i64 3, .int .i64 0, .int .i64 1, .int .i64 3, .int .i64 2, .int .i64 1, .int .i64 0] 91 (0, 0)) := heap_alloc_new _ _
    have rS : ((W3.alloc (.cells #[.int .i64 0, .int .i64 1, .int .i64 2, .int .i64 3, .int .i64 1, .int .i64 0, .int .i64 3, .int .i64 2, .int .i64 2, .int .i64 3, .int .i64 0, .int .i64 1, .int .i64 3, .int .i64 2, .int .i64 1, .int .i64 0] 91)).alloc (.cells #[.int .i64 1, .int .i64 (-1), .int .i64 (-1), .int .i64 (-1), .int .i64 1, .int .i64 1, .int .i64 1, .int .i64 (-1), .int .i64 1, .int .i64 (-1), .int .i64 1, .int .i64 1, .int .i64 1, .int .i64 1, .int .i64 (-1), .int .i64 1] 91)).heap[W3.heap.size + 1]? = some (.cells #[.int .i64 1, .int .i64 (-1), .int .i64 (-1), .int .i64 (-1), .int .i64 1, .int .i64 1, .int .i64 1, .int .i64 (-1), .int .i64 1, .int .i64 (-1), .int .i64 1, .int .i64 1, .int .i64 1, .int .i64 1, .int .i64 (-1), .int .i64 1] 91 (0, 0)) := by
      have := heap_alloc_new (W3.alloc (.cells #[.int .i64 0, .int .i64 1, .int .i64 2, .int .i64 3, .int .i64 1, .int .i64 0, .int .i64 3, .int .i64 2, .int .i64 2, .int .i64 3, .int .i64 0, .int .i64 1, .int .i64 3, .int .i64 2, .int .i64 1, .int .i64 0] 91)) (.cells #[.int .i64 1, .int .i64 (-1), .int .i64 (-1), .int .i64 (-1), .int .i64 1, .int .i64 1, .int .i64 1, .int .i64 (-1), .int .i64 1, .int .i64 (-1), .int .i64 1, .int .i64 1, .int .i64 1, .int .i64 1, .int .i64 (-1), .int .i64 1] 91)
      rw [World.size_alloc] at this; exact this
    have bM : Below W3.heap.size W3 ((W3.alloc (.cells #[.int .i64 0, .int .i64 1, .int .i64 2, .int .i64 3, .int .i64 1, .int .i64 0, .int .i64 3, .int .i64 2, .int .i64 2, .int .i64 3, .int .i64 0, .int .i64 1, .int .i64 3, .int .i64 2, .int .i64 1, .int .i64 0] 91)).alloc (.cells #[.int .i64 1, .int .i64 (-1), .int .i64 (-1), .int .i64 (-1), .int .i64 1, .int .i64 1, .int .i64 1, .int .i64 (-1), .int .i64 1, .int .i64 (-1), .int .i64 1, .int .i64 1, .int .i64 1, .int .i64 1, .int .i64 (-1), .int .i64 1] 91)) := ((Below.refl _ _).alloc (Nat.le_refl _) _).alloc (by simp) _
    replace rP := heap_below rP ((Below.refl _ _).alloc (Nat.le_refl _) (.cells #[.int .i64 1, .int .i64 (-1), .int .i64 (-1), .int .i64 (-1), .int .i64 1, .int .i64 1, .int .i64 1, .int .i64 (-1), .int .i64 1, .int .i64 (-1), .int .i64 1, .int .i64 1, .int .i64 1, .int .i64 1, .int .i64 (-1), .int .i64 1] 91))
    have sM : ((W3.alloc (.cells #[.int .i64 0, .int .i64 1, .int .i64 2, .int .i64 3, .int .i64 1, .int .i64 0, .int .i64 3, .int .i64 2, .int .i64 2, .int .i64 3, .int .i64 0, .int .i64 1, .int .i64 3, .int .i64 2, .int .i64 1, .int .i64 0] 91)).alloc (.cells #[.int .i64 1, .int .i64 (-1), .int .i64 (-1), .int .i64 (-1), .int .i64 1, .int .i64 1, .int .i64 1, .int .i64 (-1), .int .i64 1, .int .i64 (-1), .int .i64 1, .int .i64 1, .int .i64 1, .int .i64 1, .int .i64 (-1), .int .i64 1] 91)).heap.size = W3.heap.size + 1 + 1 := by simp
    generalize (W3.alloc (.cells #[.int .i64 0, .int .i64 1, .int .i64 2, .int .i64 3, .int .i64 1, .int .i64 0, .int .i64 3, .int .i64 2, .int .i64 2, .int .i64 3, .int .i64 0, .int .i64 1, .int .i64 3, .int .i64 2, .int .i64 1, .int .i64 0] 91)).alloc (.cells #[.int .i64 1, .int .i64 (-1), .int .i64 (-1), .int .i64 (-1), .int .i64 1, .int .i64 1, .int .i64 1, .int .i64 (-1), .int .i64 1, .int .i64 (-1), .int .i64 1, .int .i64 1, .int .i64 1, .int .i64 1, .int .i64 (-1), .int .i64 1] 91) = WM at *
    have fX4 := heap_gb (fX.mono bM) hgr (fun e => by cases e)
    have fY4 := heap_gb (fY.mono bM) hgr (fun e => by cases e)
    have fR4 := heap_gb (fR.mono bM) hgr (fun e => by cases e)
    have rP4 := heap_gb rP hgr (fun e => by cases e)
    have rS4 := heap_gb rS hgr (fun e => by cases e)
    have hB4 : Below w.heap.size w w4 := (hB3.trans (bM.mono hB3.size)).grown hgr (by have := hB3.size; omega) (fun j hj => by cases hj)
    have lX := fX.lt
    have lY := fY.lt
    have lR := fR.lt
    have hzw : w.heap.size ≤ W3.heap.size := hB3.size
    have hz4 : W3.heap.size + 1 + 1 ≤ w4.heap.size := by have := hgr.size; omega
    obtain ⟨N0, hN0⟩ : ∃ N0, N0 = W3.heap.size := ⟨_, rfl⟩
    rw [← hN0] at hown rP4 rS4 lX lY lR hzw hz4 ⊢
    have cX : ∀ k, k < 4 → w4.cell? ⟨X, k, none⟩ = some (.int .i64 ([a, b, c, d].getD k 0)) := fun k hk => by
      rw [cell_of_row w4 X k _ _ _ fX4]; rcases four_of hk with e | e | e | e <;> subst e <;> rfl
    have cY : ∀ k, k < 4 → w4.cell? ⟨Y, k, none⟩ = some (.int .i64 ([p, q, r, s].getD k 0)) := fun k hk => by
      rw [cell_of_row w4 Y k _ _ _ fY4]; rcases four_of hk with e | e | e | e <;> subst e <;> rfl
    have cP : ∀ i k, i < 4 → k < 4 → w4.cell? ⟨N0, i * 4 + k, none⟩ = some (.int .i64 ((plT.getD (i * 4 + k) 0 : Nat) : Int)) := fun i k hi hk => by
      rw [cell_of_row w4 N0 _ _ _ _ rP4]; rcases four_of hi with e | e | e | e <;> subst e <;> rcases four_of hk with e | e | e | e <;> subst e <;> rfl
    have cS : ∀ i k, i < 4 → k < 4 → w4.cell? ⟨N0 + 1, i * 4 + k, none⟩ = some (.int .i64 (sgT.getD (i * 4 + k) 0)) := fun i k hi hk => by
      rw [cell_of_row w4 (N0 + 1) _ _ _ _ rS4]; rcases four_of hi with e | e | e | e <;> subst e <;> rcases four_of hk with e | e | e | e <;> subst e <;> rfl
    have CX := Lib.hid cX
    have CY := Lib.hid cY
    have CP := Lib.hid cP
    have CS := Lib.hid cS
    have FR := Lib.hid fR4
    have hown0 : w4.ownsRow (N0 + 1 + 1) 3 1 (.slice (some ⟨N0 + 1 + 1, 0, none⟩) 4 4) 4 (vints .i64 ((List.range 0).map (mulq a b c d p q r s) ++ List.replicate (4 - 0) 0)) := hown
    have HO0 := Lib.hid hown0
    clear cX cY cP cS fX fY fR fX4 fY4 fR4 rP rS rP4 rS4 hown hown0 hgr bM sM hB3 hN0 hi hz0 hz1 hz2
    go_wp2_with fail
    go_loopg [27] 4 (fun gk vi wx => ∃ i : Nat, i ≤ 4 ∧ gk = 4 - i ∧ vi = .int .i64 i ∧ wx.ownsRow (N0 + 1 + 1) 3 1 (.slice (some ⟨N0 + 1 + 1, 0, none⟩) 4 4) 4 (vints .i64 ((List.range i).map (mulq a b c d p q r s) ++ List.replicate (4 - i) 0)) ∧ Below (N0 + 1 + 1) w4 wx)
    case atStart => exact ⟨0, Nat.zero_le _, rfl, rfl, HO0.out, Below.refl _ _⟩
    case round =>
      obtain ⟨i, i4, g2, rfl, hown, hb⟩ := hrel
      have G2 := Lib.hid g2
      have HO := Lib.hid hown
      clear g2 HO0 hown
      by_cases hlt : i < 4
      · obtain ⟨ml, hml⟩ : ∃ ml, ml = mulL a b c d p q r s i := ⟨_, rfl⟩
        have hmll : ml.length = 4 := by rw [hml]; exact mulL_len _ _ _ _ _ _ _ _ _
        have hmlb : ∀ k, k < 4 → -1099511627776 ≤ ml.getD k 0 ∧ ml.getD k 0 ≤ 1099511627776 := fun k hk => by rw [hml]; exact mulL_bd _ _ _ _ _ _ _ _ i k hlt hk
        have hmlt : ∀ k, k < 4 → sgT.getD (i * 4 + k) 0 * qm ([a, b, c, d].getD k 0) ([p, q, r, s].getD (plT.getD (i * 4 + k) 0) 0) = ml.getD k 0 := fun k hk => by rw [hml]; exact mul_term _ _ _ _ _ _ _ _ i k hlt hk
        obtain ⟨os, hos⟩ : ∃ os, os = (List.range i).map (mulq a b c d p q r s) ++ List.replicate (4 - i) 0 := ⟨_, rfl⟩
        have hosl : os.length = 4 := by rw [hos]; simp; omega
        have hos0 : os.set i (qsum (ml.take 0)) = os := by
          rw [hos, List.set_append_right _ _ (by simp), show 4 - i = (4 - (i + 1)) + 1 by omega, List.replicate_succ]; simp [qsum]
        have hos1 : os.set i (qsum ml) = (List.range (i + 1)).map (mulq a b c d p q r s) ++ List.replicate (4 - (i + 1)) 0 := by
          rw [hos, List.set_append_right _ _ (by simp), show 4 - i = (4 - (i + 1)) + 1 by omega, List.replicate_succ, List.range_succ, List.map_append, List.append_assoc]
          simp [mulq, hml]
        have ho := HO.out
        rw [← hos, ← hos0] at ho
        have HO1 := Lib.hid ho
        have HMLL := Lib.hid hmll
        have HMLB := Lib.hid hmlb
        have HMLT := Lib.hid hmlt
        have HOSL := Lib.hid hosl
        have HOS1 := Lib.hid hos1
        have hdi : decide ((i : Int) < 4) = true := decide_eq_true (by omega)
        clear hml hmll hmlb hmlt hos hosl hos0 hos1 ho HO
        go_wp2_with fail
        obtain ⟨wo, rfl⟩ : ∃ wo : World, wo = wr := ⟨_, rfl⟩
        go_loopg [30] 4 (fun gk2 vk wx => ∃ k : Nat, k ≤ 4 ∧ gk2 = 4 - k ∧ vk = .int .i64 k ∧ wx.ownsRow (N0 + 1 + 1) 3 1 (.slice (some ⟨N0 + 1 + 1, 0, none⟩) 4 4) 4 (vints .i64 (os.set i (qsum (ml.take k)))) ∧ Below (N0 + 1 + 1) w4 wx)
        case atStart => exact ⟨0, Nat.zero_le _, rfl, rfl, HO1.out, hb⟩
        case round =>
          obtain ⟨k, k4, g3, rfl, hown, hb3⟩ := hrel
          have G3 := Lib.hid g3
          clear g3 HO1 hb
          by_cases hk : k < 4
          · have hz3 : N0 + 1 + 1 ≤ wr.heap.size := Nat.le_trans hz4 hb3.size
            have e1 := (hown.cellAt i (by omega)).trans (vints_get .i64 _ i (by rw [List.length_set, HOSL.out]; exact hlt))
            have hself : (os.set i (qsum (ml.take k))).getD i 0 = qsum (ml.take k) := by rw [List.getD_eq_getElem?_getD, List.getElem?_set_self (by rw [HOSL.out]; exact hlt)]; rfl
            rw [hself] at e1
            have e2 := hown.frozenAt i
            have e3 := (hb3.cell (p := ⟨X, k, none⟩) (by simp; omega)).trans (CX.out k hk)
            have e4 := (hb3.cell (p := ⟨N0, i * 4 + k, none⟩) (by simp; omega)).trans (CP.out i k hlt hk)
            have e5 := (hb3.cell (p := ⟨N0 + 1, i * 4 + k, none⟩) (by simp)).trans (CS.out i k hlt hk)
            have e6 := (hb3.cell (p := ⟨Y, plT.getD (i * 4 + k) 0, none⟩) (by simp; omega)).trans (CY.out _ (pl_lt _))
            have hpl := pl_lt (i * 4 + k)
            have hmt := HMLT.out k hk
            have hmb := HMLB.out k hk
            have hqs := qsum_snoc (ml.take k) (ml.getD k 0)
            rw [← take_one (by rw [HMLL.out]; exact hk)] at hqs
            obtain ⟨pl, hpe⟩ : ∃ pl, pl = plT.getD (i * 4 + k) 0 := ⟨_, rfl⟩
            obtain ⟨x, hx⟩ : ∃ x, x = [a, b, c, d].getD k 0 := ⟨_, rfl⟩
            obtain ⟨y, hy⟩ : ∃ y, y = [p, q, r, s].getD pl 0 := ⟨_, rfl⟩
            obtain ⟨sg, hsg⟩ : ∃ sg, sg = sgT.getD (i * 4 + k) 0 := ⟨_, rfl⟩
            obtain ⟨tm, htm⟩ : ∃ tm, tm = ml.getD k 0 := ⟨_, rfl⟩
            obtain ⟨S, hS⟩ : ∃ S, S = qsum (ml.take k) := ⟨_, rfl⟩
            rw [← hpe] at e4 e6 hpl hmt
            rw [← hx] at e3 hmt
            rw [← hy] at e6 hmt
            rw [← hsg] at e5 hmt
            rw [← htm] at hmt hmb hqs
            rw [← hS] at e1 hqs
            have hqm := qm_bd x y
            have hpc := fun W => ref_Product' x y W
            obtain ⟨Q, hQ⟩ : ∃ Q, Q = qm x y := ⟨_, rfl⟩
            rw [← hQ] at hmt hqm hpc
            have HPC := Lib.hid hpc
            have hsb : sg = 1 ∨ sg = -1 := by
              rw [hsg]; rcases four_of hlt with e | e | e | e <;> subst e <;> rcases four_of hk with e | e | e | e <;> subst e <;> simp [sgT]
            obtain ⟨V, hV⟩ : ∃ V, V = qsum (ml.take (k + 1)) := ⟨_, rfl⟩
            rw [← hV] at hqs
            have HQS := Lib.hid hqs
            have HVE := Lib.hid hV
            have HOW := Lib.hid hown
            have i1 : (0 : Int) ≤ (i : Int) := by omega
            have i2 : (i : Int) < 4 := by omega
            have i3 : (0 : Int) ≤ (k : Int) := by omega
            have i4' : (k : Int) < 4 := by omega
            have i5 : (0 : Int) ≤ (pl : Int) := by omega
            have i6 : (pl : Int) < 4 := by omega
            clear hself hpe hx hy hsg htm hS hQ hV hqs hpc hown
            go_wp2_with fail
            refine wp_region_facts rfl 25 (by kernel_rfl) (F_times N0 X Y i k pl x y sg S Q tm) (F_times_mono N0 X Y i k pl x y sg S Q tm) ?_ ?_
            · refine ⟨?_, ?_, ?_, ?_, ?_, ?_, ?_, ?_, ?_, ?_, ?_, ?_, ?_, ?_, ?_, ?_, ?_, ?_, ?_, ?_, ?_, ?_, ?_, ?_, ?_, trivial⟩
              · intro vs w' F hb hd hF hl
                have e := (hF 9).trans (look_out _ 9 _ _ (by kernel_rfl))
                exact one_move _ rfl (by first | exact Or.inl rfl | exact Or.inr rfl) ⟨_, rfl, Below.refl _ _, e⟩
              · intro vs w' F hb hd hF hl
                have e := (hF 10).trans (look_out _ 10 _ _ (by kernel_rfl))
                exact one_move _ rfl (by first | exact Or.inl rfl | exact Or.inr rfl) ⟨_, rfl, Below.refl _ _, e⟩
              · intro vs w' F hb hd hF hl
                have e := (hF 9).trans (look_out _ 9 _ _ (by kernel_rfl))
                exact one_move _ rfl (by first | exact Or.inl rfl | exact Or.inr rfl) ⟨_, rfl, Below.refl _ _, e⟩
              · intro vs w' F hb hd hF hl
                have e := (hF 10).trans (look_out _ 10 _ _ (by kernel_rfl))
                exact one_move _ rfl (by first | exact Or.inl rfl | exact Or.inr rfl) ⟨_, rfl, Below.refl _ _, e⟩
              · intro vs w' F hb hd hF hl
                have ex := (hF 35).trans ((look_at _ 35 2 _ _ (by kernel_rfl) (by kernel_rfl) hl).trans (dep_of (Fact := F_times N0 X Y i k pl x y sg S Q tm) hd 2 (by kernel_rfl)))
                have ey := (hF 36).trans ((look_at _ 36 3 _ _ (by kernel_rfl) (by kernel_rfl) hl).trans (dep_of (Fact := F_times N0 X Y i k pl x y sg S Q tm) hd 3 (by kernel_rfl)))
                exact one_index 38 _ _ rfl rfl (.slice (some ⟨N0 + 1 + 1, 0, none⟩) 4 4) (.int .i64 i) (.pointer (some ⟨N0 + 1 + 1, i, none⟩)) ex ey (fun w => by clear hb hd hF hl ex ey; go_simp) ⟨_, rfl, Below.refl _ _, rfl⟩
              · intro vs w' F hb hd hF hl
                have e := (hF 37).trans ((look_at _ 37 4 _ _ (by kernel_rfl) (by kernel_rfl) hl).trans (dep_of (Fact := F_times N0 X Y i k pl x y sg S Q tm) hd 4 (by kernel_rfl)))
                exact one_load _ _ rfl rfl _ _ e (keepc hb e1) (by kernel_rfl) ⟨_, rfl, Below.refl _ _, rfl⟩
              · intro vs w' F hb hd hF hl
                have e := (hF 10).trans (look_out _ 10 _ _ (by kernel_rfl))
                exact one_move _ rfl (by first | exact Or.inl rfl | exact Or.inr rfl) ⟨_, rfl, Below.refl _ _, e⟩
              · intro vs w' F hb hd hF hl
                have e := (hF 11).trans (look_out _ 11 _ _ (by kernel_rfl))
                exact one_move _ rfl (by first | exact Or.inl rfl | exact Or.inr rfl) ⟨_, rfl, Below.refl _ _, e⟩
              · intro vs w' F hb hd hF hl
                have ex := (hF 8).trans (look_out _ 8 _ _ (by kernel_rfl))
                have ey := (hF 39).trans ((look_at _ 39 6 _ _ (by kernel_rfl) (by kernel_rfl) hl).trans (dep_of (Fact := F_times N0 X Y i k pl x y sg S Q tm) hd 6 (by kernel_rfl)))
                exact one_index 91 _ _ rfl rfl (.pointer (some ⟨N0 + 1, 0, none⟩)) (.int .i64 i) (.pointer (some ⟨N0 + 1, i * 4, none⟩)) ex ey (fun w => by clear hb hd hF hl ex ey; go_simp) ⟨_, rfl, Below.refl _ _, rfl⟩
              · intro vs w' F hb hd hF hl
                have ex := (hF 41).trans ((look_at _ 41 8 _ _ (by kernel_rfl) (by kernel_rfl) hl).trans (dep_of (Fact := F_times N0 X Y i k pl x y sg S Q tm) hd 8 (by kernel_rfl)))
                have ey := (hF 40).trans ((look_at _ 40 7 _ _ (by kernel_rfl) (by kernel_rfl) hl).trans (dep_of (Fact := F_times N0 X Y i k pl x y sg S Q tm) hd 7 (by kernel_rfl)))
                exact one_index 89 _ _ rfl rfl (.pointer (some ⟨N0 + 1, i * 4, none⟩)) (.int .i64 k) (.pointer (some ⟨N0 + 1, i * 4 + k, none⟩)) ex ey (fun w => by clear hb hd hF hl ex ey; go_simp) ⟨_, rfl, Below.refl _ _, rfl⟩
              · intro vs w' F hb hd hF hl
                have e := (hF 42).trans ((look_at _ 42 9 _ _ (by kernel_rfl) (by kernel_rfl) hl).trans (dep_of (Fact := F_times N0 X Y i k pl x y sg S Q tm) hd 9 (by kernel_rfl)))
                exact one_load _ _ rfl rfl _ _ e (keepc hb e5) (by kernel_rfl) ⟨_, rfl, Below.refl _ _, rfl⟩
              · intro vs w' F hb hd hF hl
                have e := (hF 11).trans (look_out _ 11 _ _ (by kernel_rfl))
                exact one_move _ rfl (by first | exact Or.inl rfl | exact Or.inr rfl) ⟨_, rfl, Below.refl _ _, e⟩
              · intro vs w' F hb hd hF hl
                have ex := (hF 5).trans (look_out _ 5 _ _ (by kernel_rfl))
                have ey := (hF 44).trans ((look_at _ 44 11 _ _ (by kernel_rfl) (by kernel_rfl) hl).trans (dep_of (Fact := F_times N0 X Y i k pl x y sg S Q tm) hd 11 (by kernel_rfl)))
                exact one_index 89 _ _ rfl rfl (.pointer (some ⟨X, 0, none⟩)) (.int .i64 k) (.pointer (some ⟨X, k, none⟩)) ex ey (fun w => by clear hb hd hF hl ex ey; go_simp) ⟨_, rfl, Below.refl _ _, rfl⟩
              · intro vs w' F hb hd hF hl
                have e := (hF 45).trans ((look_at _ 45 12 _ _ (by kernel_rfl) (by kernel_rfl) hl).trans (dep_of (Fact := F_times N0 X Y i k pl x y sg S Q tm) hd 12 (by kernel_rfl)))
                exact one_load _ _ rfl rfl _ _ e (keepc hb e3) (by kernel_rfl) ⟨_, rfl, Below.refl _ _, rfl⟩
              · intro vs w' F hb hd hF hl
                have e := (hF 10).trans (look_out _ 10 _ _ (by kernel_rfl))
                exact one_move _ rfl (by first | exact Or.inl rfl | exact Or.inr rfl) ⟨_, rfl, Below.refl _ _, e⟩
              · intro vs w' F hb hd hF hl
                have e := (hF 11).trans (look_out _ 11 _ _ (by kernel_rfl))
                exact one_move _ rfl (by first | exact Or.inl rfl | exact Or.inr rfl) ⟨_, rfl, Below.refl _ _, e⟩
              · intro vs w' F hb hd hF hl
                have ex := (hF 7).trans (look_out _ 7 _ _ (by kernel_rfl))
                have ey := (hF 47).trans ((look_at _ 47 14 _ _ (by kernel_rfl) (by kernel_rfl) hl).trans (dep_of (Fact := F_times N0 X Y i k pl x y sg S Q tm) hd 14 (by kernel_rfl)))
                exact one_index 91 _ _ rfl rfl (.pointer (some ⟨N0, 0, none⟩)) (.int .i64 i) (.pointer (some ⟨N0, i * 4, none⟩)) ex ey (fun w => by clear hb hd hF hl ex ey; go_simp) ⟨_, rfl, Below.refl _ _, rfl⟩
              · intro vs w' F hb hd hF hl
                have ex := (hF 49).trans ((look_at _ 49 16 _ _ (by kernel_rfl) (by kernel_rfl) hl).trans (dep_of (Fact := F_times N0 X Y i k pl x y sg S Q tm) hd 16 (by kernel_rfl)))
                have ey := (hF 48).trans ((look_at _ 48 15 _ _ (by kernel_rfl) (by kernel_rfl) hl).trans (dep_of (Fact := F_times N0 X Y i k pl x y sg S Q tm) hd 15 (by kernel_rfl)))
                exact one_index 89 _ _ rfl rfl (.pointer (some ⟨N0, i * 4, none⟩)) (.int .i64 k) (.pointer (some ⟨N0, i * 4 + k, none⟩)) ex ey (fun w => by clear hb hd hF hl ex ey; go_simp) ⟨_, rfl, Below.refl _ _, rfl⟩
              · intro vs w' F hb hd hF hl
                have e := (hF 50).trans ((look_at _ 50 17 _ _ (by kernel_rfl) (by kernel_rfl) hl).trans (dep_of (Fact := F_times N0 X Y i k pl x y sg S Q tm) hd 17 (by kernel_rfl)))
                exact one_load _ _ rfl rfl _ _ e (keepc hb e4) (by kernel_rfl) ⟨_, rfl, Below.refl _ _, rfl⟩
              · intro vs w' F hb hd hF hl
                have ex := (hF 6).trans (look_out _ 6 _ _ (by kernel_rfl))
                have ey := (hF 51).trans ((look_at _ 51 18 _ _ (by kernel_rfl) (by kernel_rfl) hl).trans (dep_of (Fact := F_times N0 X Y i k pl x y sg S Q tm) hd 18 (by kernel_rfl)))
                exact one_index 89 _ _ rfl rfl (.pointer (some ⟨Y, 0, none⟩)) (.int .i64 pl) (.pointer (some ⟨Y, pl, none⟩)) ex ey (fun w => by clear hb hd hF hl ex ey; go_simp) ⟨_, rfl, Below.refl _ _, rfl⟩
              · intro vs w' F hb hd hF hl
                have e := (hF 52).trans ((look_at _ 52 19 _ _ (by kernel_rfl) (by kernel_rfl) hl).trans (dep_of (Fact := F_times N0 X Y i k pl x y sg S Q tm) hd 19 (by kernel_rfl)))
                exact one_load _ _ rfl rfl _ _ e (keepc hb e6) (by kernel_rfl) ⟨_, rfl, Below.refl _ _, rfl⟩
              · intro vs w' F hb hd hF hl
                refine one_call _ _ rfl rfl (enters_of Try.func44 (by kernel_rfl) rfl) #[.int .i64 x, .int .i64 y] (eval2 ((hF 46).trans ((look_at _ 46 13 _ _ (by kernel_rfl) (by kernel_rfl) hl).trans (dep_of (Fact := F_times N0 X Y i k pl x y sg S Q tm) hd 13 (by kernel_rfl)))) ((hF 53).trans ((look_at _ 53 20 _ _ (by kernel_rfl) (by kernel_rfl) hl).trans (dep_of (Fact := F_times N0 X Y i k pl x y sg S Q tm) hd 20 (by kernel_rfl))))) ?_
                refine (HPC.out _).mono ?_
                rintro e w2 ⟨rfl, hb2⟩
                exact ⟨_, rfl, _, rfl, hb2, rfl⟩
              · intro vs w' F hb hd hF hl
                have ex := (hF 43).trans ((look_at _ 43 10 _ _ (by kernel_rfl) (by kernel_rfl) hl).trans (dep_of (Fact := F_times N0 X Y i k pl x y sg S Q tm) hd 10 (by kernel_rfl)))
                have ey := (hF 54).trans ((look_at _ 54 21 _ _ (by kernel_rfl) (by kernel_rfl) hl).trans (dep_of (Fact := F_times N0 X Y i k pl x y sg S Q tm) hd 21 (by kernel_rfl)))
                exact one_binop .mul 3 _ _ 3 rfl rfl (.int .i64 sg) (.int .i64 Q) ex ey (.int .i64 tm) (by go_simp) (by go_simp; try exact IntWalk.i64_in _ (by omega)) ⟨_, rfl, Below.refl _ _, rfl⟩
              · intro vs w' F hb hd hF hl
                refine one_call _ _ rfl rfl (enters_of Try.func41 (by kernel_rfl) rfl) #[.int .i64 S, .int .i64 tm] (eval2 ((hF 38).trans ((look_at _ 38 5 _ _ (by kernel_rfl) (by kernel_rfl) hl).trans (dep_of (Fact := F_times N0 X Y i k pl x y sg S Q tm) hd 5 (by kernel_rfl)))) ((hF 55).trans ((look_at _ 55 22 _ _ (by kernel_rfl) (by kernel_rfl) hl).trans (dep_of (Fact := F_times N0 X Y i k pl x y sg S Q tm) hd 22 (by kernel_rfl))))) ?_
                refine (ref_Sum S tm _).mono ?_
                rintro e w2 ⟨rfl, rfl⟩
                exact ⟨_, rfl, _, rfl, Below.refl _ _, rfl⟩
              · intro vs w' F hb hd hF hl
                have ex := (hF 33).trans ((look_at _ 33 0 _ _ (by kernel_rfl) (by kernel_rfl) hl).trans (dep_of (Fact := F_times N0 X Y i k pl x y sg S Q tm) hd 0 (by kernel_rfl)))
                have ey := (hF 34).trans ((look_at _ 34 1 _ _ (by kernel_rfl) (by kernel_rfl) hl).trans (dep_of (Fact := F_times N0 X Y i k pl x y sg S Q tm) hd 1 (by kernel_rfl)))
                exact one_index 38 _ _ rfl rfl (.slice (some ⟨N0 + 1 + 1, 0, none⟩) 4 4) (.int .i64 i) (.pointer (some ⟨N0 + 1 + 1, i, none⟩)) ex ey (fun w => by clear hb hd hF hl ex ey; go_simp) ⟨_, rfl, Below.refl _ _, rfl⟩
            · intro vs W1 hl hb hI
              have i56 := hI 23 (by omega)
              have i57 := hI 24 (by omega)
              obtain ⟨v0, v1, v2, v3, v4, v5, v6, v7, v8, v9, v10, v11, v12, v13, v14, v15, v16, v17, v18, v19, v20, v21, v22, v23, v24, v25, rfl⟩ := list26 hl
              replace i56 : v23 = .int .i64 (lim (lim S + lim tm)) := i56
              replace i57 : v24 = .pointer (some ⟨N0 + 1 + 1, i, none⟩) := i57
              subst i56 i57
              have k1 := keepc hb e1
              have f7 := (hb.frozen (p := ⟨N0 + 1 + 1, i, none⟩) (World.block_lt_of_cell? wr _ e1)).trans e2
              have ho7 := ((own_below HOW.out hb).stored i (.int .i64 (lim (lim S + lim tm)))).1
              rw [vints_set, List.set_set] at ho7
              have HO7 := Lib.hid ho7
              have hb7 : Below (N0 + 1 + 1) w4 W1 := hb3.trans (hb.mono hz3)
              clear hI hl ho7 hb
              simp only [fillAll, Act.put, List.setIfInBounds_toArray, List.set_cons_succ, List.set_cons_zero]
              go_wp2
              go_roundg (4 - (k + 1))
              case measure => rw [G3.out]; omega
              case rel => exact ⟨k + 1, hk, rfl, by go_num, by rw [← HVE.out, HQS.out]; exact HO7.out, hb7.setCell (Nat.le_refl _) _⟩
          · obtain rfl : k = 4 := by omega
            rw [List.take_of_length_le (by rw [HMLL.out]; exact Nat.le_refl _), HOS1.out] at hown
            have HOF := Lib.hid hown
            clear hown
            go_wp2
            go_roundg (4 - (i + 1))
            case measure => rw [G2.out]; omega
            case rel => exact ⟨i + 1, hlt, rfl, by go_num, HOF.out, hb3⟩
      · obtain rfl : i = 4 := by omega
        have hown := HO.out
        have hle : (List.range 4).map (mulq a b c d p q r s) ++ List.replicate (4 - 4) 0 = [mulq a b c d p q r s 0, mulq a b c d p q r s 1, mulq a b c d p q r s 2, mulq a b c d p q r s 3] := rfl
        rw [hle] at hown
        have hqo := ref_quatOf [mulq a b c d p q r s 0, mulq a b c d p q r s 1, mulq a b c d p q r s 2, mulq a b c d p q r s 3] (N0 + 1 + 1) 4 rfl wr (IntsAt.of_own hown rfl)
        simp only [List.getD_cons_zero, List.getD_cons_succ] at hqo
        obtain ⟨m0, h0⟩ : ∃ m, m = mulq a b c d p q r s 0 := ⟨_, rfl⟩
        obtain ⟨m1, h1⟩ : ∃ m, m = mulq a b c d p q r s 1 := ⟨_, rfl⟩
        obtain ⟨m2, h2⟩ : ∃ m, m = mulq a b c d p q r s 2 := ⟨_, rfl⟩
        obtain ⟨m3, h3⟩ : ∃ m, m = mulq a b c d p q r s 3 := ⟨_, rfl⟩
        rw [← h0, ← h1, ← h2, ← h3] at hqo
        have HQO := Lib.hid hqo
        have H0 := Lib.hid h0
        have H1 := Lib.hid h1
        have H2 := Lib.hid h2
        have H3 := Lib.hid h3
        have fR : Four 62 wr (w.heap.size + 1 + 1) 0 0 0 0 := (hb.block _ (by omega)).trans FR.out
        have hbw : Below w.heap.size w wr := hB4.trans (hb.mono (by omega))
        have FRW := Lib.hid fR
        clear hown hle hqo h0 h1 h2 h3 HO fR hb
        go_wp2_with fail
        refine HQO.out.mono ?_
        rintro e w9 ⟨rfl, hb9⟩
        have f9 : Four 62 w9 (w.heap.size + 1 + 1) 0 0 0 0 := heap_below FRW.out hb9
        have F9 := Lib.hid f9
        clear f9
        have hB9 := bt hbw hb9
        have b0 := F9.out.c0
        have b1 := F9.out.c1
        have b2 := F9.out.c2
        have b3 := F9.out.c3
        have g0 := F9.out.fr 0
        have g1 := F9.out.fr 1
        have g2 := F9.out.fr 2
        have g3 := F9.out.fr 3
        clear hb9 hbw
        go_wp2
        exact bodyPost_ret (v := .agg #[.int .i64 m0, .int .i64 m1, .int .i64 m2, .int .i64 m3]) (res4 Try.results54 _ _ (w.heap.size + 1 + 1) _ _ _ _ rfl (F9.out.put m0 m1 m2 m3)) rfl ⟨by rw [H0.out, H1.out, H2.out, H3.out], put4_below hB9 (by omega) _ _ _ _⟩
end Go.Proofs.Ytehpfkmaikbjkaa
