/- tourref1.Taken: the place of the item that comes first. -/
import Derived.Test.YtdhaaeaacbnghaaWDel
import Derived.BigQuiet
import Derived.Deep.QuietTactic
import Derived.Deep.LoopGhost
namespace Go.Proofs.Ytdhaaeaacbnghaa.W
open Go.ChangeShapes Go.WideShapes Go.ChangeAt Go.RowKit Go.Mem Go.Qp
set_option linter.unusedVariables false
theorem wt_below {w w' : World} {D : Nat} {v : Value} {M : List QItem} (h : WT w D v M) (hb : Below w.heap.size w w') : WT w' D v M := ⟨own_below h.own hb, h.vals⟩
set_option maxHeartbeats 4000000 in
set_option maxRecDepth 100000 in
theorem w_Taken (w : World) (D : Nat) (v : Value) (M : List QItem) (h0 : 0 < M.length) (hl : M.length ≤ 1000000) (hw : WT w D v M) :
    Calls Try.prog 85 #[v] w fun e w' => e = .returned (.int .i64 (tk dI M M.length)) ∧ Below w.heap.size w w' := by
  obtain ⟨gg, cap, rfl, hDg, ltg⟩ := hw.own.form h0
  have HW := Lib.hid hw
  obtain ⟨m, hm⟩ : ∃ m, m = M.length := ⟨_, rfl⟩
  rw [← hm] at h0 hl ⊢
  have HM := Lib.hid hm
  clear hm hw
  go_enter Try.func85, Try.ntmps85
  go_wp2_with fail
  go_loopg [3, 8] m (fun gk va vi wx => ∃ i : Nat, i ≤ m ∧ gk = m - i ∧ va = .int .i64 (tk dI M i) ∧ vi = .int .i64 i ∧ Below w.heap.size w wx)
  case atStart => exact ⟨0, Nat.zero_le _, rfl, rfl, rfl, Below.refl _ _⟩
  case round =>
    obtain ⟨i, im, g2, rfl, rfl, hb⟩ := hrel
    have G2 := Lib.hid g2
    clear g2
    by_cases hi : i < m
    · have hat := (wt_below HW.out hb).at rfl
      obtain ⟨a, ha⟩ : ∃ a, a = tk dI M i := ⟨_, rfl⟩
      have am : a < m := by
        rcases Nat.eq_zero_or_pos i with h | h
        · subst h; rw [ha]; exact h0
        · have := tk_lt dI M i h; omega
      obtain ⟨x0, x1⟩ := hat i (by rw [← HM.out]; exact hi)
      obtain ⟨_, y1⟩ := hat a (by rw [← HM.out]; exact am)
      obtain ⟨xz, hxz⟩ := HW.out.vals _ (g_mem dI M i (by rw [← HM.out]; exact hi))
      rw [hxz] at x0
      obtain ⟨xr, hxr⟩ : ∃ xr, xr = (g dI M i).r := ⟨_, rfl⟩
      obtain ⟨yr, hyr⟩ : ∃ yr, yr = (g dI M a).r := ⟨_, rfl⟩
      rw [← hxr] at x1
      rw [← hyr] at y1
      have htk : tk dI M (i + 1) = if xr < yr then i else a := by
        rw [hxr, hyr, ha]; rfl
      have HTK := Lib.hid htk
      have lgr : gg < wr.heap.size := World.block_lt_of_cell? _ _ x0
      have hA := Lib.hid ha
      rw [← ha]
      have i1 : (0 : Int) ≤ (i : Int) := by omega
      have i2 : (i : Int) < (m : Int) := by omega
      have i3 : (0 : Int) ≤ (a : Int) := by omega
      have i4 : (a : Int) < (m : Int) := by omega
      clear hat hxz hxr hyr htk ha
      by_cases hlt : xr < yr
      all_goals
        go_wp2_with fail
        go_region
        go_wp2
        go_roundg (m - (i + 1))
        case measure => rw [G2.out]; omega
        case rel => exact ⟨i + 1, hi, rfl, by rw [HTK.out]; first | rw [if_pos hlt] | rw [if_neg (Int.not_lt.2 hlt)], by go_num, ((hb.trans ((Below.refl _ _).alloc hb.size _)).drew)⟩
    · obtain rfl : i = m := by omega
      go_wp2
      go_ret
      exact ⟨rfl, hb⟩
end Go.Proofs.Ytdhaaeaacbnghaa.W
