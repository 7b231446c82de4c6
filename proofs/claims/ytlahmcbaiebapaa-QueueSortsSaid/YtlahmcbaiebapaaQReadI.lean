/- queue.Queue[int]: Len. -/
import Derived.Test.YtlahmcbaiebapaaBeforeI
import Derived.BigQuiet
import Derived.Deep.QuietTactic
namespace Go.Proofs.Ytlahmcbaiebapaa.Qint
open Go.ChangeShapes Go.WideShapes Go.ChangeAt Go.RowKit Go.Mem Go.Qp
set_option linter.unusedVariables false

theorem slice_of {w : World} {D q n : Nat} {v : Value} {H : List QItem} (h : QU w D q v H n) : ∃ a cap, v = .slice a H.length cap := by
  rcases h.own.2 with ⟨h1, h2⟩ | ⟨gg, cap, cur, h1, _⟩
  · exact ⟨none, 0, by rw [h1, h2]⟩
  · exact ⟨_, cap, h1⟩
theorem q_Len (w : World) (D q n : Nat) (v : Value) (H : List QItem) (hw : QU w D q v H n) : Calls Try.prog 96 #[.pointer (some ⟨q, 0, none⟩)] w fun e w' => e = .returned (.int .i64 H.length) ∧ w = w' := by
  obtain ⟨a, cap, rfl⟩ := slice_of hw
  have c0 := hw.c0
  obtain ⟨m, hm⟩ : ∃ m, m = H.length := ⟨_, rfl⟩
  rw [← hm] at c0 ⊢
  clear hw hm
  go_enter Try.func96, Try.ntmps96
  go_wp2
  go_ret
  exact ⟨rfl, rfl⟩
end Go.Proofs.Ytlahmcbaiebapaa.Qint
