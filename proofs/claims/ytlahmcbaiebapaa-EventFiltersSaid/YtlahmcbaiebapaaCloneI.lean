/- slices.Clone of ints. -/
import Derived.Test.YtlahmcbaiebapaaMem2
import Derived.Test.YtlahmcbaiebapaaRows
import Derived.Test.YtlahmcbaiebapaaOwn
import Derived.Deep.DeepMust
import Derived.WalkSpells
import Derived.Lib.LazyBuf
import Derived.Great.BuildSlice
namespace Go.Proofs.Ytlahmcbaiebapaa
open Go.ChangeShapes Go.WideShapes Go.ChangeAt Go.RowKit Go.Mem
set_option linter.unusedVariables false

/-- A slice of ints that the call owns. -/
def OwnPost (zs : List Int) (n : Nat) (w : World) (e : Ending) (w' : World) : Prop := ∃ v, e = .returned v ∧ w'.ownsRow w.heap.size 3 1 v n (vints .i64 zs) ∧ Below w.heap.size w w'

set_option maxHeartbeats 4000000 in
theorem clone_ints (l : List Int) (a : Option Addr) (n cap : Nat) (hn : l.length = n) (h1 : n ≤ 17592186044416) (w : World) (hin : IntsAt .i64 w a l) :
    Calls Try.prog 25 #[.slice a n cap] w (OwnPost l n w) := by
  rcases a with _ | x
  · have h0 : n = 0 := by
      rcases Nat.eq_zero_or_pos n with h | h
      · exact h
      · obtain ⟨x, h2, _⟩ := hin (by omega)
        cases h2
    subst h0
    have : l = [] := List.eq_nil_of_length_eq_zero hn
    subst this
    have hnil : w.ownsRow w.heap.size 3 1 (.slice none 0 0) 0 (vints .i64 []) := ⟨rfl, .inl ⟨rfl, rfl⟩⟩
    have HNIL := Lib.hid hnil
    clear hnil hin hn
    have hq := fun wx => Lib.run_eql_slice_nil (P := Try.prog) wx 23 3 none 0 cap 0 0 Try.underlying23
    simp only [Option.isNone] at hq
    go_enter Try.func25, Try.ntmps25
    go_wp2
    go_ret
    exact ⟨_, rfl, HNIL.out, Below.refl _ _⟩
  · have HN := Lib.hid hn
    have HI := Lib.hid hin
    clear hn hin
    have hq := fun wx => Lib.run_eql_slice_nil (P := Try.prog) wx 23 3 (some x) n cap 0 0 Try.underlying23
    simp only [Option.isNone] at hq
    go_enter Try.func25, Try.ntmps25
    have hlit := World.ownsRow_lit (e := 3) (size := 1) (base := w.heap.size) w #[] 0 (Nat.le_refl _) (by unfold maxLen; omega) rfl
    have HLIT := Lib.hid (show (w.alloc (.cells #[] 3)).ownsRow w.heap.size 3 1 (.slice (some ⟨w.heap.size, 0, none⟩) 0 0) 0 (vints .i64 []) from hlit)
    have hba := (Below.refl w.heap.size w).alloc (Nat.le_refl _) (.cells #[] 3)
    have HI2 := Lib.hid (HI.out.below hba)
    clear hlit
    go_wp2_with (at_builtin; go_must (refine wpList_append_ints rfl _ _ 23 rfl w.heap.size 3 .i64 8 Try.underlying23 (by kernel_rfl) (.slice (some ⟨w.heap.size, 0, none⟩) 0 0) 0 [] rfl HLIT.out (some x) n cap l rfl HN.out HI2.out (by unfold maxLen; omega) (by omega) (by simp) ?_))
    intro v1 w1 hown hgr hat
    have hb1 : Below w.heap.size w w1 := hba.grown hgr (by simp) (fun k hk => by
      have : k = w.heap.size := by simpa [Value.ownBlock] using hk.symm
      omega)
    have HO := Lib.hid hown
    clear hown hgr hat hba
    go_wp2
    go_ret
    exact ⟨_, rfl, HO.out, hb1⟩
theorem own_slice {w : World} {base e size n : Nat} {v : Value} {xs : List Value} (h : w.ownsRow base e size v n xs) : ∃ a c, v = .slice a n c := by
  rcases h.2 with ⟨rfl, rfl⟩ | ⟨g, cap, cur, rfl, _⟩
  · exact ⟨none, 0, rfl⟩
  · exact ⟨_, cap, rfl⟩
/-- the clone, as a list in new memory -/
def ClonePost (l : List Int) (n : Nat) (w : World) (e : Ending) (w' : World) : Prop := ∃ a c, e = .returned (.slice a n c) ∧ IntsAt .i64 w' a l ∧ (∀ x, a = some x → w.heap.size ≤ x.block) ∧ Below w.heap.size w w'
theorem clone_at (l : List Int) (a : Option Addr) (n cap : Nat) (hn : l.length = n) (h1 : n ≤ 17592186044416) (w : World) (hin : IntsAt .i64 w a l) :
    Calls Try.prog 25 #[.slice a n cap] w (ClonePost l n w) := by
  refine (clone_ints l a n cap hn h1 w hin).mono ?_
  rintro e w' ⟨v, rfl, ho, hb⟩
  rcases Nat.eq_zero_or_pos n with h0 | h0
  · subst h0
    have : l = [] := List.eq_nil_of_length_eq_zero hn
    subst this
    obtain ⟨a2, c2, rfl⟩ := own_slice ho
    exact ⟨a2, c2, rfl, fun h => absurd h (by simp), fun x hx => (own_lt ho x.block (by rw [hx]; rfl)).1, hb⟩
  · obtain ⟨g, c2, rfl, _, _⟩ := ho.form h0
    exact ⟨_, c2, rfl, IntsAt.of_own ho hn.symm, fun x hx => by injection hx with hx; subst hx; exact (own_lt ho g rfl).1, hb⟩
end Go.Proofs.Ytlahmcbaiebapaa
