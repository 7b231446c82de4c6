/- The law QuatTurns. -/
import Derived.Test.YtehpfkmaikbjkaaQuatTurn
import Derived.Test.YtehpfkmaikbjkaaQuatOf
import Derived.Test.YtehpfkmaikbjkaaOpen
import Derived.Laws.StructEq
import Derived.KernelRfl
import Derived.Deep.RegionHeld3
namespace Go.Proofs.Ytehpfkmaikbjkaa
open Go.ChangeShapes Go.WideShapes Go.ChangeAt Go.RowKit Go.Mem Go.Nb
set_option linter.unusedVariables false
theorem keep10 {w w1 w2 : World} {A1 A2 A3 A4 A5 A6 A7 A8 A9 A0 : Addr} {v1 v2 v3 v4 v5 v6 v7 v8 v9 v0 : Value}
    (h : w1.cell? A1 = some v1 ∧ w1.cell? A2 = some v2 ∧ w1.cell? A3 = some v3 ∧ w1.cell? A4 = some v4 ∧ w1.cell? A5 = some v5 ∧ w1.cell? A6 = some v6 ∧ w1.cell? A7 = some v7 ∧ w1.cell? A8 = some v8 ∧ w1.cell? A9 = some v9 ∧ w1.cell? A0 = some v0 ∧ Below w.heap.size w w1) (hb : Below w1.heap.size w1 w2) :
    w2.cell? A1 = some v1 ∧ w2.cell? A2 = some v2 ∧ w2.cell? A3 = some v3 ∧ w2.cell? A4 = some v4 ∧ w2.cell? A5 = some v5 ∧ w2.cell? A6 = some v6 ∧ w2.cell? A7 = some v7 ∧ w2.cell? A8 = some v8 ∧ w2.cell? A9 = some v9 ∧ w2.cell? A0 = some v0 ∧ Below w.heap.size w w2 := by
  obtain ⟨h1, h2, h3, h4, h5, h6, h7, h8, h9, h0, hB⟩ := h
  exact ⟨keepc hb h1, keepc hb h2, keepc hb h3, keepc hb h4, keepc hb h5, keepc hb h6, keepc hb h7, keepc hb h8, keepc hb h9, keepc hb h0, bt hB hb⟩
theorem eqA3 (a b c p q r : Int) (w : World) : (Op.equalIn 10000 69 (.agg #[.int .i64 a, .int .i64 b, .int .i64 c]) (.agg #[.int .i64 p, .int .i64 q, .int .i64 r])).run Try.prog w = .ok (a == p && (b == q && c == r)) w := by
  have u3 := Try.underlying3
  have a3 := Try.isAgg3
  have z3 := Try.sizeOf3
  rw [show (10000 : Nat) = 9999 + 1 from rfl, Op.equalIn]
  simp only [Sem.run_bind, run_underlying Try.underlying69, Result.andThen_ok]
  simp only [Std.Legacy.Range.forIn_eq_forIn_range', Std.Legacy.Range.size, Nat.sub_zero, Nat.add_sub_cancel, Nat.div_one, List.range'_succ, List.range'_zero, List.forIn_cons, List.forIn_nil]
  go_simp
  by_cases h1 : a = p <;> by_cases h2 : b = q <;> by_cases h3 : c = r <;> simp [h1, h2, h3]
theorem last10 {a b c d e f g h i j k : Prop} (x : a ∧ b ∧ c ∧ d ∧ e ∧ f ∧ g ∧ h ∧ i ∧ j ∧ k) : k := x.2.2.2.2.2.2.2.2.2.2
theorem far007 : farOf [0, 0, 7] = 7 := by decide
theorem sced007 : sced [0, 0, 7] = [0, 0, 1879048192] := by
  have : scOf [0, 0, 7] = 268435456 := by unfold scOf; rw [far007]; decide
  unfold sced
  rw [this]
  decide
theorem long007 : long [0, 0, 1879048192] = 1879048192 := by
  have : (sumsq [0, 0, 1879048192]).toNat = 1879048192 * 1879048192 := by decide
  unfold long
  rw [this, ← rt_unique _ 1879048192 (Nat.le_refl _) (by decide)]; rfl
theorem evens007 : evens [0, 0, 7] = [0, 0, 65536] := by
  unfold evens
  rw [sced007, long007]
  decide
theorem trig16 : cosine 16384 = 0 ∧ qm 0 (sine 16384) = 0 ∧ qm 65536 (sine 16384) = 65536 := by decide +kernel
theorem ar007 : arW [0, 0, 7] (32768 / 2) 0 = 0 ∧ arW [0, 0, 7] (32768 / 2) 1 = 0 ∧ arW [0, 0, 7] (32768 / 2) 2 = 0 ∧ arW [0, 0, 7] (32768 / 2) 3 = 65536 := by
  have h := trig16
  have e : (32768 : Int) / 2 = 16384 := by decide
  simp only [arW, far007, evens007, e]
  simp [h.1, h.2.1, h.2.2]
set_option maxHeartbeats 16000000 in
set_option maxRecDepth 100000 in
theorem law_QuatTurns (a b c : Int) (g : Int) (hg : -9223372036854775808 ≤ g ∧ g ≤ 9223372036854775807) (p q r s x y z : Int) (w : World) : Calls Try.prog 13 #[.agg #[.int .i64 a, .int .i64 b, .int .i64 c], .int .i64 g, .agg #[.int .i64 p, .int .i64 q, .int .i64 r, .int .i64 s], .agg #[.int .i64 x, .int .i64 y, .int .i64 z]] w fun e w' => e = .returned (.bool true) ∧ Below w.heap.size w w' := by
  have AR := Lib.hid ar007
  have HG := Lib.hid hg
  clear hg
  have hE : ∀ wx, (Op.equalIn 10000 69 (.agg #[.int .i64 (spin p q r s x y z 1), .int .i64 (spin p q r s x y z 2), .int .i64 (spin p q r s x y z 3)]) (.agg #[.int .i64 (spin p q r s x y z 1), .int .i64 (spin p q r s x y z 2), .int .i64 (spin p q r s x y z 3)])).run Try.prog wx = .ok true wx := fun wx => by rw [eqA3]; simp
  go_enter Try.func13, Try.ntmps13
  go_wp2_with fail
  obtain ⟨W0, hW0⟩ : ∃ W0, W0 = ((w.alloc (.cells #[.int .i64 a, .int .i64 b, .int .i64 c] 67)).alloc (.cells #[.int .i64 p, .int .i64 q, .int .i64 r, .int .i64 s] 62)).alloc (.cells #[.int .i64 x, .int .i64 y, .int .i64 z] 67) := ⟨_, rfl⟩
  have r1 : W0.heap[w.heap.size]? = some (.cells #[.int .i64 a, .int .i64 b, .int .i64 c] 67 (0, 0)) := by
    rw [hW0]; exact heap_below (heap_below (heap_alloc_new w _) ((Below.refl _ _).alloc (Nat.le_refl _) _)) ((Below.refl _ _).alloc (Nat.le_refl _) _)
  have r2 : Four 62 W0 (w.heap.size + 1) p q r s := by rw [hW0]; exact (four_new2 _ _ _ _ _ _ _).alloc _
  have r3 : W0.heap[w.heap.size + 1 + 1]? = some (.cells #[.int .i64 x, .int .i64 y, .int .i64 z] 67 (0, 0)) := by
    have := heap_alloc_new ((w.alloc (.cells #[.int .i64 a, .int .i64 b, .int .i64 c] 67)).alloc (.cells #[.int .i64 p, .int .i64 q, .int .i64 r, .int .i64 s] 62)) (.cells #[.int .i64 x, .int .i64 y, .int .i64 z] 67)
    rw [World.size_alloc, World.size_alloc] at this
    rw [hW0]; exact this
  have hB : Below w.heap.size w W0 := by rw [hW0]; exact (((Below.refl _ _).alloc (Nat.le_refl _) _).alloc (by simp) _).alloc (by simp; omega) _
  rw [← hW0]
  clear hW0
  have of1 := quat_Of 0 0 7 32768 (by decide) W0
  rw [AR.out.1, AR.out.2.1, AR.out.2.2.1, AR.out.2.2.2] at of1
  refine of1.mono ?_
  rintro e w2 ⟨rfl, hb2⟩
  have r1' := heap_below r1 hb2
  have r2' : Four 62 w2 (w.heap.size + 1) p q r s := heap_below r2 hb2
  have r3' := heap_below r3 hb2
  have hB2 := bt hB hb2
  have a0 : w2.cell? ⟨w.heap.size, 0, none⟩ = some (.int .i64 a) := by rw [cell_of_row w2 _ 0 _ _ _ r1']; rfl
  have a1 : w2.cell? ⟨w.heap.size, 1, none⟩ = some (.int .i64 b) := by rw [cell_of_row w2 _ 1 _ _ _ r1']; rfl
  have a2 : w2.cell? ⟨w.heap.size, 2, none⟩ = some (.int .i64 c) := by rw [cell_of_row w2 _ 2 _ _ _ r1']; rfl
  have b0 := r2'.c0
  have b1 := r2'.c1
  have b2 := r2'.c2
  have b3 := r2'.c3
  have c0 : w2.cell? ⟨w.heap.size + 1 + 1, 0, none⟩ = some (.int .i64 x) := by rw [cell_of_row w2 _ 0 _ _ _ r3']; rfl
  have c1 : w2.cell? ⟨w.heap.size + 1 + 1, 1, none⟩ = some (.int .i64 y) := by rw [cell_of_row w2 _ 1 _ _ _ r3']; rfl
  have c2 : w2.cell? ⟨w.heap.size + 1 + 1, 2, none⟩ = some (.int .i64 z) := by rw [cell_of_row w2 _ 2 _ _ _ r3']; rfl
  clear r1 r2 r3 r1' r2' r3' hB hb2 of1 AR
  go_wp2_with fail
  go_region_held3 (fun w' => w'.cell? ⟨w.heap.size, 0, none⟩ = some (.int .i64 a) ∧ w'.cell? ⟨w.heap.size, 1, none⟩ = some (.int .i64 b) ∧ w'.cell? ⟨w.heap.size, 2, none⟩ = some (.int .i64 c) ∧ w'.cell? ⟨w.heap.size + 1, 0, none⟩ = some (.int .i64 p) ∧ w'.cell? ⟨w.heap.size + 1, 1, none⟩ = some (.int .i64 q) ∧ w'.cell? ⟨w.heap.size + 1, 2, none⟩ = some (.int .i64 r) ∧ w'.cell? ⟨w.heap.size + 1, 3, none⟩ = some (.int .i64 s) ∧ w'.cell? ⟨w.heap.size + 1 + 1, 0, none⟩ = some (.int .i64 x) ∧ w'.cell? ⟨w.heap.size + 1 + 1, 1, none⟩ = some (.int .i64 y) ∧ w'.cell? ⟨w.heap.size + 1 + 1, 2, none⟩ = some (.int .i64 z) ∧ Below w.heap.size w w')
    (first | exact ⟨a0, a1, a2, b0, b1, b2, b3, c0, c1, c2, hB2.drew⟩ | assumption | exact keep10 (by assumption) (by assumption))
    ((first
      | (go_at_call 61; refine (quat_Of _ _ _ _ HG.out _).mono ?_; rintro e w5 ⟨rfl, hb5⟩)
      | (go_at_call 62; refine (ref_Around _ _ _ _ HG.out _).mono ?_; rintro e w5 ⟨rfl, hb5⟩)
      | (go_at_call 63; refine (quat_Turn _ _ _ _ _ _ _ _).mono ?_; rintro e w5 ⟨rfl, hb5⟩)
      | (go_at_call 64; refine (ref_Spun _ _ _ _ _ _ _ _).mono ?_; rintro e w5 ⟨rfl, hb5⟩)))
  all_goals
    go_wp2
    go_ret
    exact ⟨rfl, last10 (by assumption)⟩
end Go.Proofs.Ytehpfkmaikbjkaa
