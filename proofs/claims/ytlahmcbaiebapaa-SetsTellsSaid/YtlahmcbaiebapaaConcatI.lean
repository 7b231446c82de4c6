/- slices.Concat of lists of integers. -/
import Derived.Test.YtlahmcbaiebapaaOwn
import Derived.Test.YtlahmcbaiebapaaRd
import Derived.Test.YtlahmcbaiebapaaMem3
import Derived.Test.YtlahmcbaiebapaaCloneI
import Derived.Lib.AppendZeros
import Derived.Deep.LoopGhost
import Derived.Deep.DeepMust
import Derived.WalkSpells
namespace Go.Proofs.Ytlahmcbaiebapaa
open Go.ChangeShapes Go.WideShapes Go.ChangeAt Go.RowKit Go.Mem
set_option linter.unusedVariables false
def IRowAt (w : World) (p : Addr) (l : List Int) : Prop := ∃ b c, w.cell? p = some (.slice b l.length c) ∧ IntsAt .i64 w b l
theorem IRowAt.abides : Abides IRowAt := by
  rintro w w' p y ⟨b, c, h1, h2⟩ hb
  exact ⟨b, c, cell_abides h1 hb, h2.below hb⟩
def toti (l : List (List Int)) : Nat := (l.map List.length).sum
theorem toti_take (l : List (List Int)) (k : Nat) (h : k < l.length) : toti (l.take (k + 1)) = toti (l.take k) + l[k].length := by
  unfold toti
  rw [List.take_add_one, List.getElem?_eq_getElem h, List.map_append, List.sum_append]; simp
theorem toti_mono (l : List (List Int)) (k : Nat) : toti (l.take k) ≤ toti l := by
  unfold toti
  have := List.take_append_drop k l
  have e : l.map List.length = (l.take k).map List.length ++ (l.drop k).map List.length := by rw [← List.map_append, this]
  rw [e, List.sum_append]; omega
theorem flati_length (l : List (List Int)) : l.flatten.length = toti l := by simp [toti, List.length_flatten]
theorem flati_take (l : List (List Int)) (k : Nat) (h : k < l.length) : (l.take (k + 1)).flatten = (l.take k).flatten ++ l[k] := by
  rw [List.take_add_one, List.getElem?_eq_getElem h, List.flatten_append]; simp
def GrowIPost (W : World) (e : Ending) (w' : World) : Prop := ∃ v, e = .returned v ∧ w'.ownsRow W.heap.size 3 1 v 0 [] ∧ Below W.heap.size W w'
theorem growni_row (W : World) (N : Nat) (hN : N ≤ maxLen) : (W.drew.alloc (.cells (Builtin.zeroCells (Value.int .i64 0).cells N ++ Builtin.zeroCells (Value.int .i64 0).cells (grownCap W N 0 3 - N)) 3)).ownsRow W.heap.size 3 1 (.slice (some ⟨W.heap.size, 0, none⟩) 0 (grownCap W N 0 3)) 0 [] := by
  have h1 := grownCap_ge W N 0 3
  refine ⟨rfl, .inr ⟨W.heap.size, _, _, rfl, Nat.le_refl _, heap_alloc_new W.drew _, Nat.zero_le _, grownCap_le_maxLen W N 0 _ hN, ?_, by simp⟩⟩
  rw [Array.size_append, size_zeroCells, size_zeroCells]
  have e : (Value.int .i64 0).cells.size = 1 := rfl
  rw [e]; omega
set_option maxHeartbeats 4000000 in
theorem growi_nil (N : Nat) (h : N ≤ 262144) (W : World) : Calls Try.prog 81 #[.slice none 0 0, .int .i64 N] W (GrowIPost W) := by
  by_cases h0 : 0 < N
  · obtain ⟨i, hi, hz, hs, hby⟩ := info_parts (show (Try.prog.info? 3).map (fun i => (i.zero, i.size, i.bytes)) = some (some (.int .i64 0), 1, 8) by kernel_rfl)
    have hrun := fun W ty => Lib.run_append_nil_zeros (P := Try.prog) W 23 3 ty 3 i _ .i64 .i64 Try.underlying23 Try.underlying3 hi hz N h0 (by omega) (by omega) (by rw [hby]; omega)
    have HR := Lib.hid hrun
    have HG := Lib.hid (growni_row W N (by unfold maxLen; omega))
    obtain ⟨C, hC⟩ : ∃ C, C = grownCap W N 0 3 := ⟨_, rfl⟩
    rw [← hC] at HG
    have HCE := Lib.hid hC
    have hNC : N ≤ C := by rw [hC]; exact grownCap_ge _ _ _ _
    have hCm : C ≤ 9223372036854775807 := by rw [hC]; exact grownCap_le_maxLen W N 0 _ (by unfold maxLen; omega)
    clear hrun hi hz hs hby hC
    go_enter Try.func81, Try.ntmps81
    go_wp2_with (at_builtin; go_must (refine Lib.wpList_append_run _ rfl _ _ _ _ rfl _ _ rfl rfl _ _ (HR.out _ _) ?_))
    rw [← HCE.out]
    go_wp2_with fail
    go_ret
    exact ⟨_, rfl, HG.out, ((Below.refl _ _).drew).alloc (by simp) _⟩
  · have hN : N = 0 := by omega
    subst hN
    go_enter Try.func81, Try.ntmps81
    go_wp2_with fail
    go_ret
    exact ⟨_, rfl, World.ownsRow_nil _ _ _ _, Below.refl _ _⟩
def ConcatIPost (l : List Int) (n : Nat) (W : World) (e : Ending) (w' : World) : Prop := ∃ a c, e = .returned (.slice a n c) ∧ IntsAt .i64 w' a l ∧ Below W.heap.size W w'
set_option maxHeartbeats 8000000 in
theorem concat_ints (l : List (List Int)) (a : Option Addr) (n cap : Nat) (hn : l.length = n) (h1 : n ≤ 1048576) (hb : toti l ≤ 262144) (W : World) (hz : SlAt 1 IRowAt W a l) :
    Calls Try.prog 29 #[.slice a n cap] W (ConcatIPost l.flatten (toti l) W) := by
  have HN := Lib.hid hn
  have HZ := Lib.hid hz
  have HBG := Lib.hid hb
  obtain ⟨N, hN⟩ : ∃ N, N = toti l := ⟨_, rfl⟩
  rw [← hN]
  have hN2 : N ≤ 262144 := by omega
  have HNN := Lib.hid hN
  clear hn hz hb hN
  go_enter Try.func29, Try.ntmps29
  go_wp2_with fail
  go_loopg [3, 5, 11] n (fun gk v3 v5 vi wx => ∃ k t : Nat, k ≤ n ∧ gk = n - k ∧ vi = .int .i64 k ∧ v3 = .int .i64 t ∧ t = toti (l.take k) ∧ t ≤ 262144 ∧ wx = W)
  case atStart => exact ⟨0, 0, Nat.zero_le _, rfl, rfl, rfl, rfl, by omega, rfl⟩
  case round =>
    obtain ⟨k, t, hk, g2, rfl, rfl, ht, htb, hw⟩ := hrel
    obtain rfl : W = wr := hw.symm
    have G2 := Lib.hid g2
    have HT := Lib.hid ht
    clear g2 ht
    by_cases hlt : k < n
    · obtain ⟨x, rfl, hx, hi⟩ := HZ.out (by rw [HN.out]; omega)
      obtain ⟨b, c, c0, _⟩ := hi k (by rw [HN.out]; exact hlt)
      rw [Nat.mul_one] at c0
      obtain ⟨m, hm⟩ : ∃ m, m = (l[k]'(by rw [HN.out]; exact hlt)).length := ⟨_, rfl⟩
      rw [← hm] at c0
      have hs : t + m = toti (l.take (k + 1)) := by rw [toti_take _ _ (by rw [HN.out]; exact hlt), HT.out, hm]
      have hs2 : t + m ≤ 262144 := by have := toti_mono l (k + 1); have := HBG.out; omega
      have HS := Lib.hid hs
      clear hi hm hs
      go_wp2_with fail
      go_roundg (n - (k + 1))
      case measure => rw [G2.out]; omega
      case rel => exact ⟨k + 1, t + m, hlt, rfl, by go_num, by go_num, HS.out, by omega, rfl⟩
    · have htn : t = N := by rw [HT.out, HNN.out, show k = l.length by rw [HN.out]; omega, List.take_length]
      subst htn
      clear HT
      go_wp2_with fail
      refine (growi_nil t htb _).mono ?_
      rintro e w1 ⟨v, rfl, ho, hb1⟩
      have HO1 := Lib.hid ho
      have HB1 := Lib.hid hb1
      clear ho hb1
      go_wp2_with fail
      go_loopg [6, 8, 27] n (fun gk v6 v8 vi wx => ∃ (k m : Nat), k ≤ n ∧ gk = n - k ∧ vi = .int .i64 k ∧ m ≤ 262144 ∧ m = toti (l.take k) ∧ wx.ownsRow W.heap.size 3 1 v6 m (vints .i64 (l.take k).flatten) ∧ Below W.heap.size W wx)
      case atStart => exact ⟨0, 0, Nat.zero_le _, rfl, rfl, by omega, rfl, HO1.out, HB1.out⟩
      case round =>
        obtain ⟨k, m, hk, g3, rfl, hm2, hm3, hown, hb⟩ := hrel
        have G3 := Lib.hid g3
        have HB := Lib.hid hb
        have HM := Lib.hid hm3
        have hbs := hb.size
        clear g3 hb hm3
        by_cases hlk : k < n
        · obtain ⟨x, rfl, hx, hi⟩ := HZ.out (by rw [HN.out]; omega)
          obtain ⟨b, c, c0, hzi⟩ := hi k (by rw [HN.out]; exact hlk)
          rw [Nat.mul_one] at c0
          replace c0 := cell_abides c0 HB.out
          obtain ⟨C, hC⟩ : ∃ C, C = l[k]'(by rw [HN.out]; exact hlk) := ⟨_, rfl⟩
          rw [← hC] at c0 hzi
          obtain ⟨q, hq⟩ : ∃ q, q = C.length := ⟨_, rfl⟩
          rw [← hq] at c0
          have hs : m + q = toti (l.take (k + 1)) := by rw [toti_take _ _ (by rw [HN.out]; exact hlk), HM.out, hq, hC]
          have hs2 : m + q ≤ 262144 := by have := toti_mono l (k + 1); have := HBG.out; omega
          have hft : (l.take (k + 1)).flatten = (l.take k).flatten ++ C := by rw [flati_take _ _ (by rw [HN.out]; exact hlk), hC]
          have HS := Lib.hid hs
          have HFT := Lib.hid hft
          have HU1 := Lib.hid (hzi.below HB.out)
          have HQ := Lib.hid hq
          have HOWN := Lib.hid hown
          clear hi hC hzi hq hs hft hown
          go_wp2_with (at_builtin; go_must (refine wpList_append_ints rfl _ _ 23 rfl W.heap.size 3 .i64 8 Try.underlying23 (by kernel_rfl) _ m _ rfl HOWN.out b q _ C rfl HQ.out.symm HU1.out (by unfold maxLen; omega) (by omega) hbs ?_))
          intro v' w' hown' hg hor
          have hb5 : Below W.heap.size W w' := HB.out.grown hg hbs (fun g hg2 => (own_lt HOWN.out g hg2).1)
          rw [← HFT.out] at hown'
          have HO5 := Lib.hid hown'
          have HB5 := Lib.hid hb5
          clear hown' hg hor hb5
          go_wp2_with fail
          go_roundg (n - (k + 1))
          case measure => rw [G3.out]; omega
          case rel => exact ⟨k + 1, m + q, hlk, rfl, by go_num, hs2, HS.out, HO5.out, HB5.out⟩
        · have hke : k = n := by omega
          obtain ⟨a2, c2, rfl⟩ := own_slice hown
          have hm4 : m = t := by rw [HM.out, HNN.out, show k = l.length by rw [HN.out]; omega, List.take_length]
          have hfl : l.flatten.length = m := by rw [flati_length, ← HNN.out]; exact hm4.symm
          rw [show l.take k = l by rw [hke, ← HN.out, List.take_length]] at hown
          have HAT := Lib.hid (IntsAt.of_own hown hfl.symm)
          clear hown hfl hke
          subst hm4
          go_wp2_with fail
          go_ret
          exact ⟨a2, c2, rfl, HAT.out, HB.out⟩
end Go.Proofs.Ytlahmcbaiebapaa
