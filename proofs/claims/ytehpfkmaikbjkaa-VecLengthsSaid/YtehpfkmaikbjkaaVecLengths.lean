/- The law VecLengths. -/
import Derived.Test.YtehpfkmaikbjkaaVecLen
import Derived.Test.YtehpfkmaikbjkaaOpen
import Derived.WalkSpells
import Derived.Deep.RegionHeld3
import Derived.Great.BuildSlice
namespace Go.Proofs.Ytehpfkmaikbjkaa
open Go.ChangeShapes Go.WideShapes Go.ChangeAt Go.RowKit Go.Mem Go.Nb
set_option linter.unusedVariables false
theorem ints2_new (W : World) (x y : Int) : IntsAt .i64 (W.alloc (.cells #[.int .i64 x, .int .i64 y] 3)) (some ⟨W.heap.size, 0, none⟩) [x, y] := by
  intro _
  refine ⟨_, rfl, by simp, fun i hi => ?_⟩
  have h := heap_alloc_new W (.cells #[.int .i64 x, .int .i64 y] 3)
  have e : ((⟨W.heap.size, 0, none⟩ : Addr).add i) = ⟨W.heap.size, i, none⟩ := by simp [Addr.add]; try omega
  rw [e, cell_of_row _ _ i _ _ _ h]
  match i, hi with
  | 0, _ => rfl
  | 1, _ => rfl
theorem len34 : long [lim 3, lim (-4)] = 5 := by
  have : (sumsq [lim 3, lim (-4)]).toNat = 25 := by decide
  unfold long
  rw [this, ← rt_unique 25 5 (by decide) (by decide)]; rfl
theorem lims2 (a b : Int) : ∀ z ∈ [lim a, lim b], -1099511627776 ≤ z ∧ z ≤ 1099511627776 := fun z hz => by
  simp at hz
  rcases hz with rfl | rfl <;> exact lim_bd _
theorem keep4 {w w1 w2 : World} {A1 A2 A3 A4 : Addr} {v1 v2 v3 v4 : Value} (h : w1.cell? A1 = some v1 ∧ w1.cell? A2 = some v2 ∧ w1.cell? A3 = some v3 ∧ w1.cell? A4 = some v4 ∧ Below w.heap.size w w1) (hb : Below w1.heap.size w1 w2) :
    w2.cell? A1 = some v1 ∧ w2.cell? A2 = some v2 ∧ w2.cell? A3 = some v3 ∧ w2.cell? A4 = some v4 ∧ Below w.heap.size w w2 := by
  obtain ⟨h1, h2, h3, h4, hB⟩ := h
  have k : ∀ {A : Addr} {v : Value}, w1.cell? A = some v → w2.cell? A = some v := fun {A v} h => (hb.cell (World.block_lt_of_cell? w1 _ h)).trans h
  exact ⟨k h1, k h2, k h3, k h4, bt hB hb⟩
theorem last4 {a b c d e : Prop} (x : a ∧ b ∧ c ∧ d ∧ e) : e := x.2.2.2.2
set_option maxHeartbeats 8000000 in
set_option maxRecDepth 100000 in
theorem law_VecLengths (a b : Int) (w : World) : Calls Try.prog 7 #[.agg #[.int .i64 a, .int .i64 b]] w fun e w' => e = .returned (.bool true) ∧ Below w.heap.size w w' := by
  have hq := fun wx x n c => run_neq_slice_nil_any (P := Try.prog) wx 38 3 x n c 0 0 Try.underlying38
  have hfb := farOf_bd [a, b]
  go_enter Try.func7, Try.ntmps7
  go_wp2_with fail
  refine (vec_Len 3 (-4) _).mono ?_
  rintro e w1 ⟨rfl, b1⟩
  rw [len34]
  have hr0 := (heap_below (heap_alloc_new w (.cells #[.int .i64 a, .int .i64 b] 36)) b1)
  have hB1 : Below w.heap.size w w1 := ((Below.refl _ _).alloc (Nat.le_refl _) _).trans (b1.mono (by simp))
  have hz1 := b1.size
  clear b1
  have l5 : (lim 5 != 5) = false := by decide
  have c0 : w1.cell? ⟨w.heap.size, 0, none⟩ = some (.int .i64 a) := by rw [cell_of_row w1 _ 0 _ _ _ hr0]; rfl
  have c1 : w1.cell? ⟨w.heap.size, 1, none⟩ = some (.int .i64 b) := by rw [cell_of_row w1 _ 1 _ _ _ hr0]; rfl
  have lt0 := lt_of_heap hr0
  have HR0 := Lib.hid hr0
  clear hr0 hz1
  go_wp2_with fail
  obtain ⟨W2, hW2⟩ : ∃ W2, W2 = w1.alloc (.cells #[.int .i64 0, .int .i64 0] 36) := ⟨_, rfl⟩
  have hz2 : W2.heap.size = w1.heap.size + 1 := by rw [hW2, World.size_alloc]
  have hbx : W2.heap[w.heap.size]? = some (.cells #[.int .i64 a, .int .i64 b] 36 (0, 0)) := by rw [hW2]; exact (Below.heap_alloc _ _ _ lt0).trans HR0.out
  have hwt : W2.heap[w1.heap.size]? = some (.cells #[.int .i64 0, .int .i64 0] 36 (0, 0)) := by rw [hW2]; exact heap_alloc_new _ _
  have hB2 : Below w.heap.size w W2 := by rw [hW2]; exact hB1.alloc hB1.size _
  have he := ref_Even [a, b] (some ⟨W2.heap.size, 0, none⟩) 2 2 rfl (by decide) _ (ints2_new W2 a b)
  rw [hz2] at he
  rw [← hW2]
  refine he.mono ?_
  rintro e w3 ⟨hb3, hres⟩
  have hb3' : Below W2.heap.size W2 w3 := ((Below.refl _ _).alloc (Nat.le_refl _) _).trans (hb3.mono (by simp))
  have hbx3 := heap_below hbx hb3'
  have hwt3 := heap_below hwt hb3'
  have hB3 := hB2.trans (hb3'.mono hB2.size)
  have c0 : w3.cell? ⟨w.heap.size, 0, none⟩ = some (.int .i64 a) := by rw [cell_of_row w3 _ 0 _ _ _ hbx3]; rfl
  have c1 : w3.cell? ⟨w.heap.size, 1, none⟩ = some (.int .i64 b) := by rw [cell_of_row w3 _ 1 _ _ _ hbx3]; rfl
  obtain ⟨B1, hB1e⟩ : ∃ B1, B1 = w1.heap.size := ⟨_, rfl⟩
  rw [← hB1e] at hwt3 ⊢
  have HWT := Lib.hid hwt3
  have HBX := Lib.hid hbx3
  have hne : B1 ≠ w.heap.size := by omega
  have hlB : w.heap.size ≤ B1 := by rw [hB1e]; exact hB1.size
  have lb1 : B1 < w3.heap.size := lt_of_heap hwt3
  have lb0 : w.heap.size < w3.heap.size := lt_of_heap hbx3
  clear he hb3 hb3' hbx hwt hB2 hz2 hW2 hB1 lt0 HR0 hbx3 hwt3 hB1e
  rcases hres with ⟨hf, rfl⟩ | ⟨hf, g, c, rfl, hi⟩
  · have UNIT := vec_Unit0 a b hf
    have UNITH := Lib.hid UNIT
    have c2 : w3.cell? ⟨B1, 0, none⟩ = some (.int .i64 0) := by rw [cell_of_row w3 _ 0 _ _ _ HWT.out]; rfl
    have c3 : w3.cell? ⟨B1, 1, none⟩ = some (.int .i64 0) := by rw [cell_of_row w3 _ 1 _ _ _ HWT.out]; rfl
    clear hf UNIT hfb
    go_wp2_with fail
    go_region_held3 (fun w' => w'.cell? ⟨w.heap.size, 0, none⟩ = some (.int .i64 a) ∧ w'.cell? ⟨w.heap.size, 1, none⟩ = some (.int .i64 b) ∧ w'.cell? ⟨B1, 0, none⟩ = some (.int .i64 0) ∧ w'.cell? ⟨B1, 1, none⟩ = some (.int .i64 0) ∧ Below w.heap.size w w')
      (first | exact ⟨c0, c1, c2, c3, hB3.drew⟩ | assumption | exact keep4 (by assumption) (by assumption) | exact keep4 (by assumption) ((Below.refl _ _).alloc (Nat.le_refl _) _))
      (first
      | (go_at_call 25; refine (vec_Len _ _ _).mono ?_; rintro e w8 ⟨rfl, hb8⟩)
      | (go_at_call 27; refine (ref_Limit _ _).mono ?_; rintro e w8 ⟨rfl, rfl⟩)
      | (go_at_call 28; refine (ref_Long [lim a, lim b] _ 2 _ rfl (by decide) (lims2 a b) _ (by first | exact ints2_new _ _ _ | exact (ints2_new _ _ _).below (by assumption))).mono ?_; rintro e w8 ⟨rfl, hb8⟩)
      | (go_at_call 29; refine (UNITH.out _).mono ?_; rintro e w8 ⟨rfl, hb8⟩))
    all_goals
      go_wp2
      go_ret
      exact ⟨rfl, last4 (by assumption)⟩
  · have UNIT := vec_Unit a b hf
    obtain ⟨x, hx, hx2, hcell⟩ := hi (by simp [evens, sced])
    obtain rfl : (⟨g, 0, none⟩ : Addr) = x := by injection hx
    have e0 := hcell 0 (by simp [evens, sced])
    have e1 := hcell 1 (by simp [evens, sced])
    rw [show (evens [a, b]).getD 0 0 = ev1 (long (sced [a, b])) (lim a * scOf [a, b]) from rfl] at e0
    rw [show (evens [a, b]).getD 1 0 = ev1 (long (sced [a, b])) (lim b * scOf [a, b]) from rfl] at e1
    obtain ⟨E0, hE0⟩ : ∃ E, E = ev1 (long (sced [a, b])) (lim a * scOf [a, b]) := ⟨_, rfl⟩
    obtain ⟨E1, hE1⟩ : ∃ E, E = ev1 (long (sced [a, b])) (lim b * scOf [a, b]) := ⟨_, rfl⟩
    rw [← hE0] at e0 UNIT
    rw [← hE1] at e1 UNIT
    replace e0 : w3.cell? ⟨g, 0, none⟩ = some (.int .i64 E0) := e0
    replace e1 : w3.cell? ⟨g, 1, none⟩ = some (.int .i64 E1) := e1
    have UNITH := Lib.hid UNIT
    have c2 : w3.cell? ⟨B1, 0, none⟩ = some (.int .i64 0) := by rw [cell_of_row w3 _ 0 _ _ _ HWT.out]; rfl
    have c3 : w3.cell? ⟨B1, 1, none⟩ = some (.int .i64 0) := by rw [cell_of_row w3 _ 1 _ _ _ HWT.out]; rfl
    have f2 := Mem.frozen_of_row HWT.out 0
    have f3 := Mem.frozen_of_row HWT.out 1
    clear hf UNIT hfb hi hx hx2 hcell hE0 hE1
    go_wp2_with fail
    go_region
    obtain ⟨W4, hW4⟩ : ∃ W4, W4 = (((w3.setCell ⟨B1, 0, none⟩ (.int .i64 E0)).setCell ⟨B1, 1, none⟩ (.int .i64 E1))).drew := ⟨_, rfl⟩
    have hwt4 : W4.heap[B1]? = some (.cells #[.int .i64 E0, .int .i64 E1] 36 (0, 0)) := by rw [hW4]; exact Mem.heap_drew (heap_set (heap_set HWT.out 0 _) 1 _)
    have hbx4 : W4.heap[w.heap.size]? = some (.cells #[.int .i64 a, .int .i64 b] 36 (0, 0)) := by rw [hW4]; exact Mem.heap_drew (heap_far (heap_far HBX.out hne.symm _) hne.symm _)
    have hB4 : Below w.heap.size w W4 := by rw [hW4]; exact ((hB3.setCell hlB _).setCell hlB _).drew
    rw [← hW4]
    have d0 : W4.cell? ⟨w.heap.size, 0, none⟩ = some (.int .i64 a) := by rw [cell_of_row W4 _ 0 _ _ _ hbx4]; rfl
    have d1 : W4.cell? ⟨w.heap.size, 1, none⟩ = some (.int .i64 b) := by rw [cell_of_row W4 _ 1 _ _ _ hbx4]; rfl
    have d2 : W4.cell? ⟨B1, 0, none⟩ = some (.int .i64 E0) := by rw [cell_of_row W4 _ 0 _ _ _ hwt4]; rfl
    have d3 : W4.cell? ⟨B1, 1, none⟩ = some (.int .i64 E1) := by rw [cell_of_row W4 _ 1 _ _ _ hwt4]; rfl
    have l0 := lt_of_heap hbx4
    have l1 := lt_of_heap hwt4
    clear hW4 hwt4 hbx4 e0 e1 c0 c1 c2 c3 f2 f3 lb0 lb1 hB3 HWT HBX
    go_wp2_with fail
    go_region_held3 (fun w' => w'.cell? ⟨w.heap.size, 0, none⟩ = some (.int .i64 a) ∧ w'.cell? ⟨w.heap.size, 1, none⟩ = some (.int .i64 b) ∧ w'.cell? ⟨B1, 0, none⟩ = some (.int .i64 E0) ∧ w'.cell? ⟨B1, 1, none⟩ = some (.int .i64 E1) ∧ Below w.heap.size w w')
      (first | exact ⟨d0, d1, d2, d3, hB4.drew⟩ | assumption | exact keep4 (by assumption) (by assumption) | exact keep4 (by assumption) ((Below.refl _ _).alloc (Nat.le_refl _) _))
      (first
      | (go_at_call 25; refine (vec_Len _ _ _).mono ?_; rintro e w8 ⟨rfl, hb8⟩)
      | (go_at_call 27; refine (ref_Limit _ _).mono ?_; rintro e w8 ⟨rfl, rfl⟩)
      | (go_at_call 28; refine (ref_Long [lim a, lim b] _ 2 _ rfl (by decide) (lims2 a b) _ (by first | exact ints2_new _ _ _ | exact (ints2_new _ _ _).below (by assumption))).mono ?_; rintro e w8 ⟨rfl, hb8⟩)
      | (go_at_call 29; refine (UNITH.out _).mono ?_; rintro e w8 ⟨rfl, hb8⟩))
    all_goals
      go_wp2
      go_ret
      exact ⟨rfl, last4 (by assumption)⟩
end Go.Proofs.Ytehpfkmaikbjkaa
