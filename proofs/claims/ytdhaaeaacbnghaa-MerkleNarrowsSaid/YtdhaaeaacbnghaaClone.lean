/- slices.Clone of words. -/
import Derived.Test.YtdhaaeaacbnghaaVerify
import Derived.Test.YtdhaaeaacbnghaaOwn
import Derived.Deep.DeepMust
import Derived.WalkSpells
import Derived.Lib.LazyBuf
import Derived.Great.BuildSlice
namespace Go.Proofs.Ytdhaaeaacbnghaa
open Go.ChangeShapes Go.WideShapes Go.ChangeAt Go.RowKit Go.Mem Go.Mk
set_option linter.unusedVariables false

/-- A slice of words that the call owns. -/
def OwnPost (zs : List Int) (n : Nat) (w : World) (e : Ending) (w' : World) : Prop := ∃ v, e = .returned v ∧ w'.ownsRow w.heap.size 22 1 v n (vints .u64 zs) ∧ Below w.heap.size w w'

set_option maxHeartbeats 4000000 in
theorem clone_words (l : List Int) (a : Option Addr) (n cap : Nat) (hn : l.length = n) (h1 : n ≤ 17592186044416) (w : World) (hin : IntsAt .u64 w a l) :
    Calls Try.prog 96 #[.slice a n cap] w (OwnPost l n w) := by
  rcases a with _ | x
  · have h0 : n = 0 := by
      rcases Nat.eq_zero_or_pos n with h | h
      · exact h
      · obtain ⟨x, h2, _⟩ := hin (by omega)
        cases h2
    subst h0
    have : l = [] := List.eq_nil_of_length_eq_zero hn
    subst this
    have hnil : w.ownsRow w.heap.size 22 1 (.slice none 0 0) 0 (vints .u64 []) := ⟨rfl, .inl ⟨rfl, rfl⟩⟩
    have HNIL := Lib.hid hnil
    clear hnil hin hn
    have hq := fun wx => Lib.run_eql_slice_nil (P := Try.prog) wx 33 22 none 0 cap 0 0 Try.underlying33
    simp only [Option.isNone] at hq
    go_enter Try.func96, Try.ntmps96
    go_wp2
    go_ret
    exact ⟨_, rfl, HNIL.out, Below.refl _ _⟩
  · have HN := Lib.hid hn
    have HI := Lib.hid hin
    clear hn hin
    have hq := fun wx => Lib.run_eql_slice_nil (P := Try.prog) wx 33 22 (some x) n cap 0 0 Try.underlying33
    simp only [Option.isNone] at hq
    go_enter Try.func96, Try.ntmps96
    have hlit := World.ownsRow_lit (e := 22) (size := 1) (base := w.heap.size) w #[] 0 (Nat.le_refl _) (by unfold maxLen; omega) rfl
    have HLIT := Lib.hid (show (w.alloc (.cells #[] 22)).ownsRow w.heap.size 22 1 (.slice (some ⟨w.heap.size, 0, none⟩) 0 0) 0 (vints .u64 []) from hlit)
    have hba := (Below.refl w.heap.size w).alloc (Nat.le_refl _) (.cells #[] 22)
    have HI2 := Lib.hid (HI.out.below hba)
    clear hlit
    go_wp2_with (at_builtin; go_must (refine wpList_append_ints rfl _ _ 33 rfl w.heap.size 22 .u64 8 Try.underlying33 (by kernel_rfl) (.slice (some ⟨w.heap.size, 0, none⟩) 0 0) 0 [] rfl HLIT.out (some x) n cap l rfl HN.out HI2.out (by unfold maxLen; omega) (by omega) (by simp) ?_))
    intro v1 w1 hown hgr hat
    have hb1 : Below w.heap.size w w1 := hba.grown hgr (by simp) (fun k hk => by
      have : k = w.heap.size := by simpa [Value.ownBlock] using hk.symm
      omega)
    have HO := Lib.hid hown
    clear hown hgr hat hba
    go_wp2
    go_ret
    exact ⟨_, rfl, HO.out, hb1⟩
end Go.Proofs.Ytdhaaeaacbnghaa
