/- queue.Queue[int]: before. -/
import Derived.Test.YtlahmcbaiebapaaQueueM
import Derived.Deep.RegionHeld3
import Derived.Test.YtlahmcbaiebapaaRows
namespace Go.Proofs.Ytlahmcbaiebapaa.Qint
open Go.ChangeShapes Go.WideShapes Go.ChangeAt Go.RowKit Go.Mem Go.Qp
set_option linter.unusedVariables false

def isV (v : Value) : Prop := ∃ z : Int, v = .int .i64 z
abbrev QU := Qu isV 149 186
set_option maxHeartbeats 16000000 in
set_option maxRecDepth 100000 in
theorem q_before (w : World) (D q n i k : Nat) (v : Value) (H : List QItem) (hi : i < H.length) (hk : k < H.length) (hl : H.length ≤ 4096) (hw : QU w D q v H n) :
    Calls Try.prog 120 #[.pointer (some ⟨q, 0, none⟩), .int .i64 i, .int .i64 k] w fun e w' => e = .returned (.bool (bef (g dI H i) (g dI H k))) ∧ Below w.heap.size w w' := by
  obtain ⟨gg, cap, rfl, _, _⟩ := hw.own.form (by omega)
  have c0 := hw.c0
  obtain ⟨a0, a1, a2⟩ := hw.at i hi
  obtain ⟨b0, b1, b2⟩ := hw.at k hk
  have o1 := hw.vals _ (g_mem dI H i hi)
  have o2 := hw.vals _ (g_mem dI H k hk)
  obtain ⟨m, hm⟩ : ∃ m, m = H.length := ⟨_, rfl⟩
  obtain ⟨x, hx⟩ : ∃ x, x = g dI H i := ⟨_, rfl⟩
  obtain ⟨y, hy⟩ : ∃ y, y = g dI H k := ⟨_, rfl⟩
  rw [← hm] at c0 hi hk hl
  rw [← hx] at a0 a1 a2 o1 ⊢
  rw [← hy] at b0 b1 b2 o2 ⊢
  obtain ⟨xv, xr, xc⟩ := x
  obtain ⟨yv, yr, yc⟩ := y
  obtain ⟨xz, hxz⟩ := o1
  obtain ⟨yz, hyz⟩ := o2
  replace hxz : xv = .int .i64 xz := hxz
  replace hyz : yv = .int .i64 yz := hyz
  subst hxz hyz
  replace a0 : w.cell? ⟨gg, i * 3, none⟩ = some (.int .i64 xz) := a0
  replace a1 : w.cell? ⟨gg, i * 3 + 1, none⟩ = some (.int .i64 xr) := a1
  replace a2 : w.cell? ⟨gg, i * 3 + 2, none⟩ = some (.int .i64 xc) := a2
  replace b0 : w.cell? ⟨gg, k * 3, none⟩ = some (.int .i64 yz) := b0
  replace b1 : w.cell? ⟨gg, k * 3 + 1, none⟩ = some (.int .i64 yr) := b1
  replace b2 : w.cell? ⟨gg, k * 3 + 2, none⟩ = some (.int .i64 yc) := b2
  have lt := World.block_lt_of_cell? _ _ a0
  have lt2 := World.block_lt_of_cell? _ _ c0
  have i1 : (0 : Int) ≤ (i : Int) := by omega
  have i2 : (i : Int) < (m : Int) := by omega
  have i3 : (0 : Int) ≤ (k : Int) := by omega
  have i4 : (k : Int) < (m : Int) := by omega
  clear hw hm hx hy hi hk
  have hcase : ((xr != yr) = true ∧ bef (⟨.int .i64 xz, xr, xc⟩ : QItem) ⟨.int .i64 yz, yr, yc⟩ = decide (xr < yr)) ∨ ((xr != yr) = false ∧ bef (⟨.int .i64 xz, xr, xc⟩ : QItem) ⟨.int .i64 yz, yr, yc⟩ = decide (xc < yc)) := by
    unfold bef
    by_cases h : xr = yr
    · exact .inr ⟨by simp [h], by rw [if_pos h]⟩
    · exact .inl ⟨by simp [h], by rw [if_neg h]⟩
  rcases hcase with ⟨t1, t2⟩ | ⟨t1, t2⟩
  all_goals
    rw [t2]
    clear t2
    go_enter Try.func120, Try.ntmps120
    go_wp2_with fail
    go_region_held3 (fun w' => (w'.cell? ⟨q, 0, none⟩ = some (.slice (some ⟨gg, 0, none⟩) m cap)) ∧ (w'.cell? ⟨gg, i * 3, none⟩ = some (.int .i64 xz) ∧ w'.cell? ⟨gg, i * 3 + 1, none⟩ = some (.int .i64 xr) ∧ w'.cell? ⟨gg, i * 3 + 2, none⟩ = some (.int .i64 xc)) ∧ (w'.cell? ⟨gg, k * 3, none⟩ = some (.int .i64 yz) ∧ w'.cell? ⟨gg, k * 3 + 1, none⟩ = some (.int .i64 yr) ∧ w'.cell? ⟨gg, k * 3 + 2, none⟩ = some (.int .i64 yc))) (go_keep) (fail)
    all_goals
      go_wp2
      go_ret
      exact ⟨rfl, (((Below.refl _ _).alloc (Nat.le_refl _) _).alloc (by simp) _).drew⟩
end Go.Proofs.Ytlahmcbaiebapaa.Qint
