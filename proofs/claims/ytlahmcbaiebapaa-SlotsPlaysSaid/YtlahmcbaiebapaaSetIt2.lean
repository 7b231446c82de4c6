/- Package sets: All's iterator, its elements known to be the set's. By program from SetIt. -/
import Derived.RangeFuncNested
import Derived.RangeFuncBound
import Derived.RangeFuncCalls
import Derived.RangeFuncLeaves
import Derived.RangeFuncBox
import Derived.Shelf.Abstract
import Derived.Shelf.RegionOpen
import Derived.OwnWalkIn
import Derived.TacticsInMore
import Derived.LoopNIn
import Derived.LoopIn
import Derived.Test.YtlahmcbaiebapaaSetIt
namespace Go.Proofs.Ytlahmcbaiebapaa
open Go.ChangeShapes Go.WideShapes Go.ChangeAt Go.RowKit Go.Mem Go.Sp
set_option linter.unusedVariables false
attribute [local go_sem] Oper.semAt_some

set_option maxRecDepth 100000 in
set_option maxHeartbeats 4000000 in
theorem all2_inB (n : Nat) (hn : 1 ≤ n) (l Bs lo hi : Nat) (r : Option Addr) (m c : Nat) (A : List Nat) (hm : A.length = m) (h64 : m ≤ 64) (hw : Words A) (J Jx : List Nat → World → Prop)
    (hY : ∀ (pre : List Nat) (x : Nat) (W : World), J pre W → pre.length < 4096 → bit A x = true → YieldAt Fence.wide (n - 1) Try.prog l #[.int .i64 (x : Int)] W fun e W' => (e = .returned (.bool true) ∧ J (pre ++ [x]) W' ∧ KeepB lo hi W W') ∨ (e = .returned (.bool false) ∧ Jx (pre ++ [x]) W'))
    (W : World) (hBs : W.cell? ⟨Bs, 0, none⟩ = some (.slice r m c)) (hr : ∀ x, r = some x → lo ≤ x.block ∧ x.block < hi) (hz : SetAt W r A) (h0 : J [] W) :
    CallsIn Fence.wide n Try.prog 77 #[.func (.yield l) #[] #[], .pointer (some ⟨Bs, 0, none⟩)] W fun e W' => (∃ v, e = .returned v) ∧ ((∃ ys, ys = els A ∧ J ys W') ∨ (∃ pre, pre <+: els A ∧ Jx pre W')) := by
  have HM := Lib.hid hm
  have HW := Lib.hid hw
  have HR := Lib.hid hr
  have HZ := Lib.hid hz
  clear hm hw hr hz
  refine callsIn_of_wp Try.func77 rfl trivial ?_ rfl
  simp only [Try.ntmps77, List.size_toArray, List.length_cons, List.length_nil, Nat.reduceAdd, Nat.reduceSub, Array.replicate_succ, Array.replicate_zero, List.push_toArray, List.append_toArray, List.nil_append, List.cons_append]
  gi_wp2
  gi_loopw [3, 4, 5, 8] (fun v3 v4 v5 vi wr => ∃ k : Nat, k ≤ m ∧ vi = .int .i64 k ∧ J (upto A (64 * k)) wr ∧ KeepB lo hi W wr)
    (fun _ _ _ vi _ => m - (intOf vi).toNat)
  case atStart => exact ⟨0, Nat.zero_le _, rfl, h0, KeepB.refl _ _ _⟩
  case round =>
    obtain ⟨k, hk, rfl, hJ, hB⟩ := hrel
    by_cases hlt : k < m
    · obtain ⟨x, rfl, hx, hc⟩ := (HZ.out.keep HR.out hB).read (k := k) (by rw [HM.out]; exact hlt)
      obtain ⟨X, hX⟩ : ∃ X, X = A.getD k 0 := ⟨_, rfl⟩
      rw [← hX] at hc
      have hX64 : X < 18446744073709551616 := by rw [hX]; exact HW.out.getD k
      have HX := Lib.hid hX
      have k0 : (0 : Int) ≤ (k : Int) := by omega
      have k1 : (k : Int) < (m : Int) := by omega
      have hk64 : k < 64 := by omega
      clear hX
      gi_wp2
      obtain ⟨wo, rfl⟩ : ∃ wo : World, wo = wr := ⟨_, rfl⟩
      gi_loopw [4, 5] (fun v4 v5 wr => ∃ i Y : Nat, i ≤ 64 ∧ v5 = .int .i64 i ∧ v4 = .int .u64 Y ∧ Y = X / 2 ^ i ∧ J (upto A (64 * k + i)) wr ∧ KeepB lo hi W wr)
        (fun _ v5 _ => 64 - (intOf v5).toNat)
      case atStart => exact ⟨0, X, by omega, rfl, rfl, by simp, hJ, hB⟩
      case round =>
        obtain ⟨i, Y, hi, rfl, rfl, hYX, hJ2, hB2⟩ := hrel
        have HYX := Lib.hid hYX
        have hY64 : Y < 18446744073709551616 := by rw [hYX]; exact Nat.lt_of_le_of_lt (Nat.div_le_self _ _) hX64
        by_cases hy0 : Y = 0
        · subst hy0
          have HU := Lib.hid (upto_rest (A := A) hk64 hi (by rw [← HX.out]; exact hYX.symm))
          clear hYX
          have hB3 := Lib.hid hB2
          gi_wp2
          go_roundw
          case rel => exact ⟨k + 1, hlt, by go_num, by rw [HU.out]; exact hJ2, hB3.out⟩
          case measure => simp [intOf]; omega
        · have hi64 : i < 64 := by
            rcases Nat.lt_or_ge i 64 with h | h
            · exact h
            · exfalso
              have h2 := two64 h
              rw [hYX] at hy0
              exact hy0 (Nat.div_eq_of_lt (by omega))
          have ht0 : ((Y : Int) != 0) = true := by simp; omega
          have hbit := bit_at (A := A) hk64 hi64
          rw [← HX.out] at hbit
          have hand := W64.bits_and_u64 Y 1 hY64 (by omega)
          rw [Nat.and_one_is_mod, hYX, bit_num, ← hYX, ← hbit] at hand
          have HY2 := Lib.hid (show Y / 2 = X / 2 ^ (i + 1) by rw [hYX, Nat.div_div_eq_div_mul, Nat.pow_succ])
          obtain ⟨N, hN⟩ : ∃ N, N = 64 * k + i := ⟨_, rfl⟩
          obtain ⟨K6, hK6⟩ : ∃ K6, K6 = 64 * k := ⟨_, rfl⟩
          have e1 : 64 * (k : Int) = (K6 : Int) := by omega
          have e2 : (K6 : Int) + (i : Int) = (N : Int) := by omega
          have hN4 : N < 4096 := by omega
          rw [← hN] at hJ2 hbit hand
          have HN := Lib.hid hN
          have HNL := Lib.hid (upto_length A N (by omega))
          have e3 : (Y : Int) / 2 = ((Y / 2 : Nat) : Int) := by simp
          obtain ⟨Z, hZ⟩ : ∃ Z, Z = Y / 2 := ⟨_, rfl⟩
          rw [← hZ] at e3
          have HY3 := Lib.hid (show Z = X / 2 ^ (i + 1) by rw [hZ]; exact HY2.out)
          clear hYX hy0 hN hK6 hZ HY2
          cases hbb : bit A N with
          | false =>
            rw [hbb] at hand
            have hand2 : bits .and .u64 (Y : Int) 1 = 0 := hand
            have HU := Lib.hid (show upto A (64 * k + (i + 1)) = upto A N by rw [← Nat.add_assoc, ← HN.out, upto_succ, hbb]; simp)
            clear hand hbb hbit
            gi_wp2
            refine ⟨fun _ h => (by cases h), ?_⟩
            gi_wp2
            go_roundw
            case rel => exact ⟨i + 1, Z, hi64, by go_num, rfl, HY3.out, by rw [HU.out]; exact hJ2, hB2⟩
            case measure => simp [intOf]; omega
          | true =>
            rw [hbb] at hand
            have hand2 : bits .and .u64 (Y : Int) 1 = 1 := hand
            have HU := Lib.hid (show upto A (64 * k + (i + 1)) = upto A N ++ [N] by rw [← Nat.add_assoc, ← HN.out, upto_succ, hbb]; simp)
            obtain ⟨fn, tmps, assign, body, hy, hR⟩ := hY _ N wr hJ2 (Nat.lt_of_le_of_lt HNL.out hN4) hbb
            clear hand hbb hbit
            gi_wp2
            refine hR.mono ?_
            rintro e W3 (⟨rfl, hJ3, hk3⟩ | ⟨rfl, hJx3⟩)
            · rw [← HU.out] at hJ3
              gi_wp2
              go_roundw
              case rel => exact ⟨i + 1, Z, hi64, by go_num, rfl, HY3.out, hJ3, hB2.trans hk3⟩
              case measure => simp [intOf]; omega
            · gi_wp2
              refine bodyPost_ret (results_none rfl _ _ _) rfl ?_
              exact ⟨⟨_, rfl⟩, .inr ⟨_, by rw [← HU.out]; exact upto_pre (by omega), hJx3⟩⟩
    · obtain rfl : k = m := by omega
      have HU := Lib.hid (upto_end A (64 * k) (by omega) (by rw [HM.out]; omega))
      rw [HU.out] at hJ
      gi_wp2
      go_end0
      exact ⟨⟨_, rfl⟩, .inl ⟨_, rfl, hJ⟩⟩

/-- An element of a set. -/
abbrev El (A : List Nat) := {x : Nat // bit A x = true}
theorem all_stopsB (n : Nat) (hn : 1 ≤ n) (Bs lo hi : Nat) (r : Option Addr) (m c : Nat) (A : List Nat) (hm : A.length = m) (h64 : m ≤ 64) (hw : Words A) (w : World) (hBs : Bs < w.heap.size) 
    (hc : w.cell? ⟨Bs, 0, none⟩ = some (.slice r m c)) (hr : ∀ x, r = some x → lo ≤ x.block ∧ x.block < hi) (hz : SetAt w r A) :
    SeqStopsK Fence.wide n Try.prog 77 #[.pointer (some ⟨Bs, 0, none⟩)] (fun x : El A => #[Value.int .i64 (x.1 : Int)]) (KeepB lo hi) (fun ys => ys.map (·.1) = els A) (fun pre => pre.map (·.1) <+: els A) 4096 w := fun l J Jx W hW _ _ hY h0 =>
  (all2_inB n hn l Bs lo hi r m c A hm h64 hw (fun L W => ∃ l' : List (El A), l'.map (·.1) = L ∧ J l' W) (fun L W => ∃ l' : List (El A), l'.map (·.1) = L ∧ Jx l' W) (by
    rintro pre x W ⟨l', rfl, hJ⟩ hlt hb
    obtain ⟨fn, tmps, assign, body, hy, hR⟩ := hY l' ⟨x, hb⟩ W hJ (by rw [List.length_map] at hlt; exact hlt)
    refine ⟨fn, tmps, assign, body, hy, hR.mono ?_⟩
    rintro e W' (⟨rfl, h1, h2⟩ | ⟨rfl, h1⟩)
    · exact .inl ⟨rfl, ⟨_, by rw [List.map_append]; rfl, h1⟩, h2⟩
    · exact .inr ⟨rfl, _, by rw [List.map_append]; rfl, h1⟩) W ((hW.cell (p := ⟨Bs, 0, none⟩) hBs).trans hc) hr (hz.below hW) ⟨[], rfl, h0⟩).mono (by
    rintro e W' ⟨h1, ⟨ys, hys, l', h2, h3⟩ | ⟨pre, h2, l', hl, h3⟩⟩
    · exact ⟨h1, .inl ⟨l', h2.trans hys, h3⟩⟩
    · exact ⟨h1, .inr ⟨l', by show l'.map (·.1) <+: els A; rw [hl]; exact h2, h3⟩⟩)
end Go.Proofs.Ytlahmcbaiebapaa
