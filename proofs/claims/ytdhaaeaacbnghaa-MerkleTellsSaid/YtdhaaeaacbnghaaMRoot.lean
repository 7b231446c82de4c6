/- merkle.Root. -/
import Derived.Test.YtdhaaeaacbnghaaNarrow
namespace Go.Proofs.Ytdhaaeaacbnghaa
open Go.ChangeShapes Go.WideShapes Go.ChangeAt Go.RowKit Go.Mem Go.Mk
set_option linter.unusedVariables false

theorem merkle_Root_long (a : Option Addr) (n cap : Nat) (h : 4096 < n) (hn : n ≤ 17592186044416) (w : World) :
    Calls Try.prog 76 #[.slice a n cap] w fun e w' => e = .returned (.tuple #[.int .u64 0, .int .i64 2]) ∧ w = w' := by
  go_enter Try.func76, Try.ntmps76
  go_wp2
  go_ret2
  exact ⟨rfl, rfl⟩
theorem merkle_Root_none (a : Option Addr) (cap : Nat) (w : World) :
    Calls Try.prog 76 #[.slice a 0 cap] w fun e w' => e = .returned (.tuple #[.int .u64 0, .int .i64 0]) ∧ w = w' := by
  go_enter Try.func76, Try.ntmps76
  go_wp2
  go_ret2
  exact ⟨rfl, rfl⟩

set_option maxHeartbeats 4000000 in
set_option maxRecDepth 100000 in
theorem merkle_Root (l : List Int) (a : Option Addr) (n cap : Nat) (hn : l.length = n) (h1 : 1 ≤ n) (h2 : n ≤ 4096) (hu : U64s l) (w : World) (hin : IntsAt .u64 w a l) :
    Calls Try.prog 76 #[.slice a n cap] w fun e w' => e = .returned (.tuple #[.int .u64 (top tieI l), .int .i64 0]) ∧ Below w.heap.size w w' := by
  obtain ⟨t, hT⟩ : ∃ t, (levs tieI l).length = t + 1 := ⟨(levs tieI l).length - 1, by have := levs_pos tieI l; omega⟩
  obtain ⟨T, hTT⟩ : ∃ T, T = t + 1 := ⟨_, rfl⟩
  rw [← hTT] at hT
  obtain ⟨A, hA, lA⟩ := (top_in l hu).nat
  have hlX : (levs tieI l).getD t [] = [(A : Int)] := by
    have := levs_last tieI n l hn h1
    rw [hT, hA, show T - 1 = t by omega] at this; exact this
  rw [hA]
  have eT : (T : Int) - 1 = (t : Int) := by omega
  have tT : t < T := by omega
  have tb : T ≤ 4097 := by have := levs_length tieI n l hn; omega
  have hz : ((n : Int) == 0) = false := by rw [beq_eq_false_iff_ne]; omega
  have cl := merkle_levels l a n cap hn h1 (by omega) hu w hin
  have HT := Lib.hid hT
  have HLX := Lib.hid hlX
  have CL := Lib.hid cl
  clear hT hlX cl hu hin hA hn
  go_enter Try.func76, Try.ntmps76
  go_wp2_with fail
  refine CL.out.mono ?_
  rintro e w1 ⟨v, rfl, hlev, hb1⟩
  obtain ⟨g, c, rfl, hc, hg, hrow⟩ := hlev.rowN T HT.out
  obtain ⟨x, c2, hc1, hc2, hx, hcell⟩ := hrow t 1 (by omega) (by rw [HLX.out]; rfl) (Nat.le_refl _)
  have hcell0 := hcell 0 (by omega)
  rw [HLX.out] at hcell0
  have hcell1 : w1.cell? x = some (.int .u64 (A : Int)) := by have := hcell0; simpa [Addr.add] using this
  clear hrow hcell hlev hcell0
  go_wp2
  go_ret2
  exact ⟨rfl, hb1⟩
end Go.Proofs.Ytdhaaeaacbnghaa
