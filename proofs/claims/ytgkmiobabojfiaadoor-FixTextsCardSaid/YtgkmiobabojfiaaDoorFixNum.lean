/- fix.Clamp, the reference's Limit, fix.mag; fix.whole: the digits of a natural number. -/
import Derived.Test.YtgkmiobabojfiaaDoorLim
import Derived.Test.YtgkmiobabojfiaaDoorMem
import Derived.Test.YtgkmiobabojfiaaDoorMem2
import Derived.Test.YtgkmiobabojfiaaDoorOwn
import Derived.Lib.ItoaNum
import Derived.Deep.DeepMust
namespace Go.Proofs.YtgkmiobabojfiaaDoor
open Go.ChangeShapes Go.WideShapes Go.ChangeAt Go.RowKit Go.Mem
set_option linter.unusedVariables false
theorem fix_mag (a : Int) (h1 : -1099511627776 ≤ a) (h2 : a ≤ 1099511627776) (w : World) : Calls Tryd.prog 9 #[.int .i64 a] w fun e w' => e = .returned (.int .u64 (a.natAbs : Int)) ∧ w = w' := by
  go_enter Tryd.func9, Tryd.ntmps9
  go_wp2
  all_goals
    go_ret
    exact ⟨ret_i (by omega), rfl⟩
/-- the bytes, as numbers -/
def bz (l : List UInt8) : List Int := l.map fun b => (b.toNat : Int)
theorem bz_len (l : List UInt8) : (bz l).length = l.length := by unfold bz; simp
theorem bz_app (a b : List UInt8) : bz (a ++ b) = bz a ++ bz b := by unfold bz; simp
theorem bz_one (b : UInt8) : bz [b] = [(b.toNat : Int)] := rfl
theorem digits_le (n : Nat) : (Lib.decDigits n).length ≤ n + 1 := by
  induction n using Nat.strongRecOn with
  | _ n ih =>
    rw [Lib.decDigits]
    split
    · simp
    · rename_i h
      have := ih (n / 10) (by omega)
      simp only [List.length_append, List.length_singleton]; omega
theorem digits_len (n k : Nat) (hk : 0 < k) (h : n < 10 ^ k) : (Lib.decDigits n).length ≤ k := by
  induction k generalizing n with
  | zero => omega
  | succ k ih =>
    rw [Lib.decDigits]
    split
    · simp
    · rename_i h2
      have hk2 : 0 < k := by
        rcases Nat.eq_zero_or_pos k with rfl | h3
        · simp at h; omega
        · exact h3
      have := ih (n / 10) hk2 (by rw [Nat.pow_succ] at h; omega)
      simp only [List.length_append, List.length_singleton]; omega
/-- bytes of the call's own -/
def OwnB (B : Nat) (v : Value) (l : List UInt8) (w : World) : Prop := w.ownsRow B 5 1 v l.length (vints .u8 (bz l))
theorem OwnB.nil (B : Nat) (w : World) : OwnB B (.slice none 0 0) [] w := World.ownsRow_nil _ _ _ _
set_option maxHeartbeats 4000000 in
set_option maxRecDepth 100000 in
theorem fix_whole (n : Nat) : ∀ (hn : n < 18446744073709551616) (w : World), Calls Tryd.prog 10 #[.int .u64 n] w fun e w' => ∃ v, e = .returned v ∧ OwnB w.heap.size v (Lib.decDigits n) w' ∧ Below w.heap.size w w' := by
  induction n using Nat.strongRecOn with
  | _ n ih =>
    intro hn w
    have hb : ((UInt8.ofNat (48 + n % 10)).toNat : Int) = 48 + (n : Int) % 10 := by
      rw [UInt8.toNat_ofNat']; omega
    have HB := Lib.hid hb
    have HN := Lib.hid hn
    have m1 : 0 ≤ (n : Int) % 10 := by omega
    have m2 : (n : Int) % 10 < 10 := by omega
    clear hb
    go_enter Tryd.func10, Tryd.ntmps10
    by_cases h10 : n < 10
    · have hD := Lib.hid (show Lib.decDigits n = [UInt8.ofNat (48 + n % 10)] by rw [Lib.decDigits, dif_pos h10, Nat.mod_eq_of_lt h10])
      clear ih
      go_wp2_with (at_builtin; go_must (refine wpList_append_new rfl _ _ 28 rfl w.heap.size 5 (.int .u8 0) 1 1 Tryd.underlying28 (by kernel_rfl) rfl (by decide) _ _ _ rfl (World.ownsRow_nil _ _ _ _) _ _ rfl rfl rfl (by omega) (by decide) (Nat.le_refl _) ?_))
      intro g cap w1 hown hg hor hlt
      go_wp2
      go_ret
      refine ⟨_, rfl, ?_, (Below.refl _ _).grown hg (Nat.le_refl _) (fun r h => by cases h)⟩
      show OwnB _ _ _ _
      rw [hD.out]
      unfold OwnB
      rw [bz_one, HB.out]
      exact hown
    · have hD := Lib.hid (show Lib.decDigits n = Lib.decDigits (n / 10) ++ [UInt8.ofNat (48 + n % 10)] by rw [Lib.decDigits, dif_neg h10])
      have IH := Lib.hid (show ∀ w : World, Calls Tryd.prog 10 #[.int .u64 ((n : Int) / 10)] w fun e w' => ∃ v, e = .returned v ∧ OwnB w.heap.size v (Lib.decDigits (n / 10)) w' ∧ Below w.heap.size w w' from fun w => by
        rw [show (n : Int) / 10 = ((n / 10 : Nat) : Int) by omega]
        exact ih (n / 10) (by omega) (by omega) w)
      have HL := Lib.hid (digits_len (n / 10) 20 (by decide) (by have := HN.out; omega))
      have m3 : IntKind.u64.wrap ((n : Int) / 10) = (n : Int) / 10 := by rw [IntKind.wrap_u64]; omega
      clear ih hn
      go_wp2_with fail
      refine (IH.out w).mono ?_
      rintro e w1 ⟨v, rfl, hv, hb1⟩
      have hl := HL.out
      have hb1s := hb1.size
      unfold OwnB at hv
      go_wp2_with (at_builtin; go_must (refine wpList_append_new rfl _ _ 28 rfl w.heap.size 5 (.int .u8 0) 1 1 Tryd.underlying28 (by kernel_rfl) rfl (by decide) _ _ _ rfl hv _ _ rfl rfl rfl (by omega) (by decide) hb1s ?_))
      intro g cap w2 hown hg hor hlt
      go_wp2
      go_ret
      refine ⟨_, rfl, ?_, hb1.trans ((Below.refl _ _).grown hg hb1s (fun r h => (own_lt hv r h).1))⟩
      show OwnB _ _ _ _
      rw [hD.out]
      unfold OwnB
      rw [bz_app, bz_one, HB.out, List.length_append]
      simpa [vints] using hown
end Go.Proofs.YtgkmiobabojfiaaDoor
