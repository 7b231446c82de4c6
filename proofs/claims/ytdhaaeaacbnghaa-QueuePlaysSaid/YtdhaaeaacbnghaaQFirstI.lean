/- queue.Queue[int]: First. -/
import Derived.Test.YtdhaaeaacbnghaaQReadI
namespace Go.Proofs.Ytdhaaeaacbnghaa.Qint
open Go.ChangeShapes Go.WideShapes Go.ChangeAt Go.RowKit Go.Mem Go.Qp
set_option linter.unusedVariables false
set_option maxRecDepth 100000 in
theorem q_First_none (w : World) (D q n : Nat) (v : Value) (hw : QU w D q v [] n) : Calls Try.prog 83 #[.pointer (some ⟨q, 0, none⟩)] w fun e w' => e = .returned (.tuple #[.int .i64 0, .int .i64 0, .int .i64 4]) ∧ w = w' := by
  obtain ⟨a, cap, rfl⟩ := slice_of hw
  have c0 := hw.c0
  replace c0 : w.cell? ⟨q, 0, none⟩ = some (.slice a 0 cap) := c0
  clear hw
  go_enter Try.func83, Try.ntmps83
  go_wp2
  go_ret3
  exact ⟨rfl, rfl⟩
set_option maxRecDepth 100000 in
theorem q_First (w : World) (D q n : Nat) (v : Value) (H : List QItem) (hl : H.length ≤ 4096) (h0 : 0 < H.length) (hw : QU w D q v H n) :
    Calls Try.prog 83 #[.pointer (some ⟨q, 0, none⟩)] w fun e w' => e = .returned (.tuple #[(g dI H 0).v, .int .i64 (g dI H 0).r, .int .i64 0]) ∧ w.drew = w' := by
  obtain ⟨gg, cap, rfl, hDg, ltg⟩ := hw.own.form h0
  have c0 := hw.c0
  obtain ⟨a0, a1, a2⟩ := hw.at 0 h0
  obtain ⟨xz, hxz⟩ := hw.vals _ (g_mem dI H 0 h0)
  rw [hxz] at a0 ⊢
  obtain ⟨xr, hxr⟩ : ∃ xr, xr = (g dI H 0).r := ⟨_, rfl⟩
  rw [← hxr] at a1 ⊢
  rw [Nat.zero_mul] at a0
  rw [Nat.zero_mul, Nat.zero_add] at a1
  obtain ⟨m, hm⟩ : ∃ m, m = H.length := ⟨_, rfl⟩
  rw [← hm] at c0 hl h0
  have i1 : (0 : Int) < (m : Int) := by omega
  have i2 : ((m : Int) == 0) = false := by simp; omega
  clear hw hxr hxz a2 hm
  go_enter Try.func83, Try.ntmps83
  go_wp2_with fail
  go_region
  go_wp2
  go_ret3
  exact ⟨rfl, rfl⟩
end Go.Proofs.Ytdhaaeaacbnghaa.Qint
