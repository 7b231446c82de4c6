/- bits.Reader: Left, Get. -/
import Derived.Test.YtdhaaeaacbnghaaGrown
import Derived.Test.YtdhaaeaacbnghaaBitsP2
import Derived.BigQuiet
import Derived.Deep.QuietTactic
import Derived.Deep.LoopGhost
import Derived.Test.YtdhaaeaacbnghaaRows
namespace Go.Proofs.Ytdhaaeaacbnghaa
open Go.ChangeShapes Go.WideShapes Go.ChangeAt Go.RowKit Go.Mem Go.Bp
set_option linter.unusedVariables false

set_option maxHeartbeats 4000000 in
theorem rd_Left (g m c n : Nat) (a : Option Addr) (w : World) (hg : w.heap[g]? = some (.cells #[.slice a m c, .int .i64 n] 124 (0, 0))) (hm : m ≤ 140737488355328) (hn : n ≤ 8 * m) :
    Calls Try.prog 43 #[.pointer (some ⟨g, 0, none⟩)] w fun e w' => e = .returned (.int .i64 ((8 * m - n : Nat) : Int)) ∧ ∃ k, w' = w.drewN k := by
  have c0 : w.cell? ⟨g, 0, none⟩ = some (.slice a m c) := by rw [cell_of_row w g 0 _ _ _ hg]; rfl
  have c1 : w.cell? ⟨g, 1, none⟩ = some (.int .i64 n) := by rw [cell_of_row w g 1 _ _ _ hg]; rfl
  have e1 : (8 * m - n : Nat) = (8 * (m : Int) - n) := by omega
  rw [e1]
  clear hg e1
  go_enter Try.func43, Try.ntmps43
  go_wp2
  go_quiet (fail)
  go_wp2
  go_ret
  exact ⟨rfl, _, rfl⟩

def RdBlock (w : World) (g : Nat) (a : Option Addr) (m c n : Nat) : Prop := w.heap[g]? = some (.cells #[.slice a m c, .int .i64 n] 124 (0, 0))
def GetPost (w : World) (g : Nat) (a : Option Addr) (m c n : Nat) (v : Value) (w' : World) (e : Ending) : Prop := e = .returned v ∧ RdBlock w' g a m c n ∧ w.grownBy w' (some g) ∧ w'.heap.size = w.heap.size

set_option maxHeartbeats 8000000 in
set_option maxRecDepth 100000 in
theorem rd_Get (l : List Int) (g m c p n : Nat) (a : Option Addr) (w : World) (hl : l.length = m) (hm : m ≤ 140737488355328) (hn : n ≤ 64) (hp : p + n ≤ 8 * m) (hu : By8 l) (hin : IntsAt .u8 w a l) (ha : ∀ x, a = some x → x.block ≠ g) (hg : RdBlock w g a m c p) :
    Calls Try.prog 36 #[.pointer (some ⟨g, 0, none⟩), .int .i64 n] w fun e w' => GetPost w g a m c (p + n) (.tuple #[.int .u64 (bval (seg (bitsOf l) p n)), .int .i64 0]) w' e := by
  have CL := Lib.hid (fun w' h => rd_Left g m c p a w' h hm (by omega))
  have HG := Lib.hid hg
  have HL := Lib.hid hl
  have HI := Lib.hid hin
  have HA := Lib.hid ha
  have HU := Lib.hid hu
  have hnp : n ≤ 8 * m - p := by omega
  clear hg hl hin ha hu
  go_enter Try.func36, Try.ntmps36
  go_wp2_with fail
  refine (CL.out _ HG.out).mono ?_
  rintro e w1 ⟨rfl, kq, rfl⟩
  have HG1 := Lib.hid (show RdBlock (w.drewN kq) g a m c p from HG.out)
  go_wp2_with fail
  go_loopg [6, 7, 19] n (fun gk vv _ vi wx => ∃ k : Nat, k ≤ n ∧ gk = n - k ∧ vi = .int .i64 k ∧ vv = .int .u64 (bval (seg (bitsOf l) p k) : Nat) ∧ RdBlock wx g a m c (p + k) ∧ w.grownBy wx (some g) ∧ wx.heap.size = w.heap.size)
  case atStart => exact ⟨0, by omega, rfl, rfl, rfl, HG.out, gb_drewN (gb_refl _ _) _, rfl⟩
  case round =>
    obtain ⟨k, g1, g2, rfl, rfl, hr, hgb, hsz⟩ := hrel
    have G2 := Lib.hid g2
    have HR := Lib.hid hr
    have HSZ := Lib.hid hsz
    clear g2 hr hsz
    have lV := seg_bval_lt (bitsOf l) p k
    obtain ⟨V, hV⟩ : ∃ V, V = bval (seg (bitsOf l) p k) := ⟨_, rfl⟩
    rw [← hV] at lV ⊢
    by_cases hlt : k < n
    · have hs := seg_bval_succ (bitsOf l) p k (by rw [bitsOf_length, HL.out]; omega)
      rw [← hV, bitsOf_at] at hs
      obtain ⟨q, hq⟩ : ∃ q, q = (p + k) / 8 := ⟨_, rfl⟩
      obtain ⟨r, hr⟩ : ∃ r, r = (p + k) % 8 := ⟨_, rfl⟩
      rw [← hq, ← hr] at hs
      obtain ⟨x, rfl, hx, hc⟩ := HI.out (by rw [HL.out]; omega)
      have hcell := hc q (by rw [HL.out]; omega)
      obtain ⟨z, hz, hz2⟩ := HU.out.at q
      rw [hz] at hcell hs
      rw [Int.toNat_natCast] at hs
      have c0 : wr.cell? ⟨g, 0, none⟩ = some (.slice (some x) m c) := by rw [cell_of_row wr g 0 _ _ _ HR.out]; rfl
      have c1 : wr.cell? ⟨g, 1, none⟩ = some (.int .i64 (p + k : Nat)) := by rw [cell_of_row wr g 1 _ _ _ HR.out]; rfl
      have f1 : wr.frozen? ⟨g, 1, none⟩ = false := Mem.frozen_of_row HR.out 1
      have cx : wr.cell? (x.add q) = some (.int .u8 z) := by
        rw [World.cell?_of_block (w := w) (hgb.block _ (by rw [block_of_add]; exact hx) (fun e => HA.out x rfl (by rw [block_of_add] at e; injection e)))]; exact hcell
      obtain ⟨P, hP⟩ : ∃ P, P = p + k := ⟨_, rfl⟩
      rw [← hP] at c1 hq hr
      have hr8 : r < 8 := by omega
      have hqm : q < m := by omega
      have hPb : P < 8 * m := by omega
      have q1 : IntKind.i64.wrap ((P : Int) / 8) = q := by rw [IntKind.wrap_i64]; omega
      have q2 : IntKind.i64.wrap ((P : Int) % 8) = r := by rw [IntKind.wrap_i64]; omega
      have q3 : (0 : Int) ≤ q := by omega
      have q4 : (q : Int) < m := by omega
      have q5 : (0 : Int) ≤ r := by omega
      have q6 : (r : Int) < 8 := by omega
      have HS := Lib.hid hs
      have HP := Lib.hid hP
      have HR8 := Lib.hid hr
      clear hc hcell hs hV hz hq hr hP
      go_wp2
      go_quiet (fail)
      go_wp2
      go_roundg (n - (k + 1))
      case measure => rw [G2.out]; omega
      case rel =>
        refine ⟨k + 1, by omega, rfl, by go_num, ?_, ?_, gb_set (gb_drewN hgb _) _ _, by simp [HSZ.out]⟩
        · rw [HS.out, HR8.out]
          exact congrArg (Value.int .u64) (get_bit V z (P % 8) k lV (by omega) hz2)
        · have h := heap_set (w := wr.drewN nq) (show (wr.drewN nq).heap[g]? = _ from HR.out) 1 (.int .i64 ((P : Int) + 1))
          rw [show p + (k + 1) = P + 1 by rw [HP.out]; omega]
          exact h
    · obtain rfl : k = n := by omega
      have HV := Lib.hid hV
      have hd : decide (k < k) = false := by simp
      clear hV
      go_wp2
      go_ret2
      exact ⟨by rw [← HV.out]; rfl, HR.out, hgb, HSZ.out⟩
theorem rd_Get_arg (g : Nat) (n : Int) (hn : n < 0 ∨ 64 < n) (w : World) : Calls Try.prog 36 #[.pointer (some ⟨g, 0, none⟩), .int .i64 n] w fun e w' => e = .returned (.tuple #[.int .u64 0, .int .i64 1]) ∧ w = w' := by
  rcases (show n < 0 ∨ (0 ≤ n ∧ 64 < n) by omega) with q | ⟨q, q2⟩
  all_goals
    clear hn
    go_enter Try.func36, Try.ntmps36
    go_wp2
    go_ret2
    exact ⟨rfl, rfl⟩
set_option maxHeartbeats 4000000 in
theorem rd_Get_short (g m c p n : Nat) (a : Option Addr) (w : World) (hm : m ≤ 140737488355328) (hn : n ≤ 64) (hp : 8 * m < p + n) (hp2 : p ≤ 8 * m) (hg : RdBlock w g a m c p) :
    Calls Try.prog 36 #[.pointer (some ⟨g, 0, none⟩), .int .i64 n] w fun e w' => GetPost w g a m c p (.tuple #[.int .u64 0, .int .i64 14]) w' e := by
  have CL := Lib.hid (fun w' h => rd_Left g m c p a w' h hm (by omega))
  have HG := Lib.hid hg
  have hnp : 8 * m - p < n := by omega
  clear hg
  go_enter Try.func36, Try.ntmps36
  go_wp2_with fail
  refine (CL.out _ HG.out).mono ?_
  rintro e w1 ⟨rfl, kq, rfl⟩
  go_wp2_with fail
  go_ret2
  exact ⟨rfl, HG.out, gb_drewN (gb_refl _ _) _, rfl⟩
theorem rd_Get_any (l : List Int) (g m c p : Nat) (n : Int) (a : Option Addr) (w : World) (hl : l.length = m) (hm : m ≤ 140737488355328) (hp : p ≤ 8 * m) (hu : By8 l) (hin : IntsAt .u8 w a l) (ha : ∀ x, a = some x → x.block ≠ g) (hg : RdBlock w g a m c p) :
    Calls Try.prog 36 #[.pointer (some ⟨g, 0, none⟩), .int .i64 n] w fun e w' => GetPost w g a m c (getR (bitsOf l) p n).2.2 (.tuple #[.int .u64 (getR (bitsOf l) p n).1, .int .i64 (getR (bitsOf l) p n).2.1]) w' e := by
  unfold getR
  by_cases h1 : n < 0 ∨ 64 < n
  · rw [if_pos h1]
    exact (rd_Get_arg g n h1 w).mono fun e w' ⟨h2, h3⟩ => ⟨h2, by rw [← h3]; exact hg, by rw [← h3]; exact gb_refl _ _, by rw [h3]⟩
  · rw [if_neg h1]
    obtain ⟨k, rfl⟩ : ∃ k : Nat, n = k := ⟨n.toNat, by omega⟩
    rw [bitsOf_length, hl, Int.toNat_natCast]
    by_cases h2 : 8 * m < p + k
    · rw [if_pos h2]
      exact rd_Get_short g m c p k a w hm (by omega) h2 hp hg
    · rw [if_neg h2]
      exact rd_Get l g m c p k a w hl hm (by omega) (by omega) hu hin ha hg
end Go.Proofs.Ytdhaaeaacbnghaa
