/- The reference's Bits: Read, Unzigzag. -/
import Derived.Test.YtdhaaeaacbnghaaReader
namespace Go.Proofs.Ytdhaaeaacbnghaa
open Go.ChangeShapes Go.WideShapes Go.ChangeAt Go.RowKit Go.Mem Go.Bp
set_option linter.unusedVariables false

def BsBlock (w : World) (g : Nat) (a : Option Addr) (m c p : Nat) : Prop := w.heap[g]? = some (.cells #[.slice a m c, .int .i64 p] 66 (0, 0))
theorem BsBlock.c0 {w : World} {g m c p : Nat} {a : Option Addr} (h : BsBlock w g a m c p) : w.cell? ⟨g, 0, none⟩ = some (.slice a m c) := by rw [cell_of_row w g 0 _ _ _ h]; rfl
theorem BsBlock.c1 {w : World} {g m c p : Nat} {a : Option Addr} (h : BsBlock w g a m c p) : w.cell? ⟨g, 1, none⟩ = some (.int .i64 p) := by rw [cell_of_row w g 1 _ _ _ h]; rfl
theorem BsBlock.f1 {w : World} {g m c p : Nat} {a : Option Addr} (h : BsBlock w g a m c p) : w.frozen? ⟨g, 1, none⟩ = false := Mem.frozen_of_row h 1
theorem BsBlock.set {w : World} {g m c p : Nat} {a : Option Addr} (h : BsBlock w g a m c p) (n : Nat) : BsBlock (w.setCell ⟨g, 1, none⟩ (.int .i64 n)) g a m c n := heap_set h 1 (.int .i64 n)
theorem BsBlock.drewN {w : World} {g m c p : Nat} {a : Option Addr} (h : BsBlock w g a m c p) (n : Nat) : BsBlock (w.drewN n) g a m c p := h
def BsPost (w : World) (g : Nat) (a : Option Addr) (m c n : Nat) (v : Value) (w' : World) (e : Ending) : Prop := e = .returned v ∧ BsBlock w' g a m c n ∧ w.grownBy w' (some g) ∧ w'.heap.size = w.heap.size

theorem bs_Read_arg (g : Nat) (n : Int) (hn : n < 0 ∨ 64 < n) (w : World) : Calls Try.prog 38 #[.pointer (some ⟨g, 0, none⟩), .int .i64 n] w fun e w' => e = .returned (.tuple #[.int .u64 0, .int .i64 1]) ∧ w = w' := by
  rcases (show n < 0 ∨ (0 ≤ n ∧ 64 < n) by omega) with q | ⟨q, q2⟩
  all_goals
    clear hn
    go_enter Try.func38, Try.ntmps38
    go_wp2
    go_ret2
    exact ⟨rfl, rfl⟩
set_option maxHeartbeats 4000000 in
theorem bs_Read_short (g m c p n : Nat) (a : Option Addr) (w : World) (hm : m ≤ 1125899906842624) (hn : n ≤ 64) (hp : m < p + n) (hp2 : p ≤ m) (hg : BsBlock w g a m c p) :
    Calls Try.prog 38 #[.pointer (some ⟨g, 0, none⟩), .int .i64 n] w fun e w' => BsPost w g a m c p (.tuple #[.int .u64 0, .int .i64 14]) w' e := by
  have HG := Lib.hid hg
  have c0 := hg.c0
  have c1 := hg.c1
  have q1 : IntKind.i64.wrap ((p : Int) + n) = (p : Int) + n := by rw [IntKind.wrap_i64]; omega
  clear hg
  go_enter Try.func38, Try.ntmps38
  go_wp2
  go_quiet (fail)
  go_wp2
  go_ret2
  exact ⟨rfl, HG.out.drewN _, gb_drewN (gb_refl _ _) _, rfl⟩

set_option maxHeartbeats 8000000 in
set_option maxRecDepth 100000 in
theorem bs_Read (L : List Bool) (g m c p n : Nat) (a : Option Addr) (w : World) (hl : L.length = m) (hm : m ≤ 1125899906842624) (hn : n ≤ 64) (hp : p + n ≤ m) (hin : BoolsAt w a L) (hg : BsBlock w g a m c p) :
    Calls Try.prog 38 #[.pointer (some ⟨g, 0, none⟩), .int .i64 n] w fun e w' => BsPost w g a m c (p + n) (.tuple #[.int .u64 (bval (seg L p n)), .int .i64 0]) w' e := by
  have HG := Lib.hid hg
  have HL := Lib.hid hl
  have HI := Lib.hid hin
  have c0 := hg.c0
  have c1 := hg.c1
  have f1 := hg.f1
  have q1 : IntKind.i64.wrap ((p : Int) + n) = (p : Int) + n := by rw [IntKind.wrap_i64]; omega
  clear hg hl hin
  go_enter Try.func38, Try.ntmps38
  go_wp2
  go_quiet (fail)
  go_wp2_with fail
  go_loopg [6, 7, 28] n (fun gk vv vi _ wx => ∃ (k kq : Nat), k ≤ n ∧ gk = k ∧ vi = .int .i64 ((k : Int) - 1) ∧ vv = .int .u64 (bval (seg L (p + k) (n - k)) : Nat) ∧ wx = w.drewN kq)
  case atStart => exact ⟨n, _, Nat.le_refl _, rfl, rfl, by rw [Nat.sub_self]; rfl, rfl⟩
  case round =>
    obtain ⟨k, kq, kn, g2, rfl, rfl, rfl⟩ := hrel
    have G2 := Lib.hid g2
    clear g2
    rcases k with _ | k
    · rw [Nat.add_zero, Nat.sub_zero]
      obtain ⟨V, hV⟩ : ∃ V, V = bval (seg L p n) := ⟨_, rfl⟩
      have HV := Lib.hid hV
      rw [← hV]
      clear hV
      go_wp2
      go_ret2
      exact ⟨by rw [← HV.out]; rfl, (HG.out.drewN kq).set (p + n), gb_set (gb_drewN (gb_refl _ _) _) _ _, by simp⟩
    · have hs := seg_bval_cons L (p + k) (n - (k + 1)) (by rw [HL.out]; omega)
      rw [show n - (k + 1) + 1 = n - k by omega] at hs
      have lV := seg_bval_lt L (p + (k + 1)) (n - (k + 1))
      rw [show p + k + 1 = p + (k + 1) by omega] at hs
      obtain ⟨V, hV⟩ : ∃ V, V = bval (seg L (p + (k + 1)) (n - (k + 1))) := ⟨_, rfl⟩
      rw [← hV] at hs lV ⊢
      have l2 : 2 ^ (n - (k + 1)) ≤ 2 ^ 63 := Nat.pow_le_pow_right (by omega) (by omega)
      have l3 : 2 ^ 63 = 9223372036854775808 := by decide
      have lV2 : V < 9223372036854775808 := by omega
      obtain ⟨x, rfl, hx, hc⟩ := HI.out (by rw [HL.out]; omega)
      have hcell := hc (p + k) (by rw [HL.out]; omega)
      obtain ⟨b, hb⟩ : ∃ b, b = L.getD (p + k) false := ⟨_, rfl⟩
      rw [← hb] at hs hcell
      have HS := Lib.hid hs
      have e1 : ((k + 1 : Nat) : Int) - 1 = k := by omega
      rw [e1]
      have q2 : IntKind.i64.wrap ((p : Int) + k) = (p : Int) + k := by rw [IntKind.wrap_i64]; omega
      have q3 : (0 : Int) ≤ (p : Int) + k := by omega
      have q4 : (p : Int) + k < m := by omega
      have q5 : ((p : Int) + k).toNat = p + k := by omega
      clear hc hs hV hb l2 l3 lV e1
      cases b
      all_goals
        go_wp2_with fail
        go_quiet (fail)
        go_wp2
        go_roundg k
        case measure => rw [G2.out]; omega
        case rel => exact ⟨k, _, by omega, rfl, rfl, by rw [HS.out]; go_num, rfl⟩
end Go.Proofs.Ytdhaaeaacbnghaa
