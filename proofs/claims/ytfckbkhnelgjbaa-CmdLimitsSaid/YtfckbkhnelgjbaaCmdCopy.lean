/- cmd.Copy. -/
import Derived.Test.YtfckbkhnelgjbaaCopyC
namespace Go.Proofs.Ytfckbkhnelgjbaa
open Go.ChangeShapes Go.WideShapes Go.ChangeAt Go.RowKit Go.Mem
set_option linter.unusedVariables false
def CmdPost (y : CmdV) (m : Nat) (W : World) (e : Ending) (w' : World) : Prop := ∃ a, e = .returned (.agg #[.int .i64 y.dod, .int .i64 y.n, .int .i64 y.gen, .int .i64 y.kind, .slice a m m]) ∧ Up W.heap.size (fun w => SlAt 2 CompAt w a y.comps) w' ∧ Below W.heap.size W w'
set_option maxHeartbeats 4000000 in
theorem cmd_Copy (y : CmdV) (a : Option Addr) (m cap : Nat) (hm : y.comps.length = m) (h1 : m ≤ 1048576) (hv : ∀ z ∈ y.comps, z.vals.length ≤ 1048576) (W : World) (hz : SlAt 2 CompAt W a y.comps) :
    Calls Try.prog 42 #[.agg #[.int .i64 y.dod, .int .i64 y.n, .int .i64 y.gen, .int .i64 y.kind, .slice a m cap]] W (CmdPost y m W) := by
  obtain ⟨d, n, g, q, l⟩ := y
  simp only at hm hv hz ⊢
  have HC := Lib.hid (copy_comps l a m cap hm h1 hv)
  have HZ := Lib.hid hz
  clear hm h1 hv hz
  go_enter Try.func42, Try.ntmps42
  go_wp2_with fail
  have hb0 := ((Below.refl W.heap.size W).alloc (Nat.le_refl _) (.cells #[.int .i64 d, .int .i64 n, .int .i64 g, .int .i64 q, .slice a m cap] 27)).alloc (by simp) (.cells #[.int .i64 0, .int .i64 0, .int .i64 0, .int .i64 0, .slice none 0 0] 27)
  have x1 := heap_keep (heap_alloc_new W (.cells #[.int .i64 d, .int .i64 n, .int .i64 g, .int .i64 q, .slice a m cap] 27)) (.cells #[.int .i64 0, .int .i64 0, .int .i64 0, .int .i64 0, .slice none 0 0] 27)
  have x2 := heap_alloc_new (W.alloc (.cells #[.int .i64 d, .int .i64 n, .int .i64 g, .int .i64 q, .slice a m cap] 27)) (.cells #[.int .i64 0, .int .i64 0, .int .i64 0, .int .i64 0, .slice none 0 0] 27)
  refine (HC.out _ (HZ.out.below CompAt.abides hb0)).mono ?_
  rintro e w1 ⟨a1, rfl, hu, hb1⟩
  have y1 := heap_below x1 hb1
  have y2 := heap_below x2 hb1
  have hz1 : (W.alloc (.cells #[.int .i64 d, .int .i64 n, .int .i64 g, .int .i64 q, .slice a m cap] 27)).heap.size = W.heap.size + 1 := by simp
  rw [hz1] at y2
  have HB := Lib.hid (hb0.trans (hb1.mono (by simp; omega)))
  have HU := Lib.hid hu
  have k0 : w1.cell? ⟨W.heap.size, 0, none⟩ = some (.int .i64 d) := by rw [cell_of_row _ _ 0 _ _ _ y1]; rfl
  have k1 : w1.cell? ⟨W.heap.size, 1, none⟩ = some (.int .i64 n) := by rw [cell_of_row _ _ 1 _ _ _ y1]; rfl
  have k2 : w1.cell? ⟨W.heap.size, 2, none⟩ = some (.int .i64 g) := by rw [cell_of_row _ _ 2 _ _ _ y1]; rfl
  have k3 : w1.cell? ⟨W.heap.size, 3, none⟩ = some (.int .i64 q) := by rw [cell_of_row _ _ 3 _ _ _ y1]; rfl
  have k4 : w1.cell? ⟨W.heap.size, 4, none⟩ = some (.slice a m cap) := by rw [cell_of_row _ _ 4 _ _ _ y1]; rfl
  have f0 := Mem.frozen_of_row y1 4
  have j0 : w1.cell? ⟨W.heap.size + 1, 0, none⟩ = some (.int .i64 0) := by rw [cell_of_row _ _ 0 _ _ _ y2]; rfl
  have j1 : w1.cell? ⟨W.heap.size + 1, 1, none⟩ = some (.int .i64 0) := by rw [cell_of_row _ _ 1 _ _ _ y2]; rfl
  have j2 : w1.cell? ⟨W.heap.size + 1, 2, none⟩ = some (.int .i64 0) := by rw [cell_of_row _ _ 2 _ _ _ y2]; rfl
  have j3 : w1.cell? ⟨W.heap.size + 1, 3, none⟩ = some (.int .i64 0) := by rw [cell_of_row _ _ 3 _ _ _ y2]; rfl
  have j4 : w1.cell? ⟨W.heap.size + 1, 4, none⟩ = some (.slice none 0 0) := by rw [cell_of_row _ _ 4 _ _ _ y2]; rfl
  have e0 := Mem.frozen_of_row y2 0
  have e1 := Mem.frozen_of_row y2 1
  have e2 := Mem.frozen_of_row y2 2
  have e3 := Mem.frozen_of_row y2 3
  have e4 := Mem.frozen_of_row y2 4
  clear hb0 x1 x2 hu hb1 y1 y2 hz1
  go_wp2_with fail
  refine bodyPost_ret (v := .agg #[.int .i64 d, .int .i64 n, .int .i64 g, .int .i64 q, .slice a1 m m]) (by simp [results, Try.results42, go_sem, *]) rfl ⟨a1, rfl, ?_, ?_⟩
  · have := ((HU.out.lower (B := _) (C := W.heap.size + 1 + 1) (by simp)).set ⟨W.heap.size, 4, none⟩ (.slice a1 m m) (by simp; omega))
    exact ((((((this.set ⟨W.heap.size + 1, 0, none⟩ _ (by simp)).set ⟨W.heap.size + 1, 1, none⟩ _ (by simp)).set ⟨W.heap.size + 1, 2, none⟩ _ (by simp)).set ⟨W.heap.size + 1, 3, none⟩ _ (by simp)).set ⟨W.heap.size + 1, 4, none⟩ _ (by simp)).lower (by omega))
  · exact (((((HB.out.setCell (Nat.le_refl _) _).setCell (by simp) _).setCell (by simp) _).setCell (by simp) _).setCell (by simp) _).setCell (by simp) _
end Go.Proofs.Ytfckbkhnelgjbaa
