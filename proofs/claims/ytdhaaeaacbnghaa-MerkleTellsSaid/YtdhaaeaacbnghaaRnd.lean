/- rnd: New, Next; the reference's Number1, Behind. -/
import Derived.Test.YtdhaaeaacbnghaaMix
import Derived.Test.YtdhaaeaacbnghaaMem2
import Derived.Deep.RegionWith
namespace Go.Proofs.Ytdhaaeaacbnghaa
open Go.ChangeShapes Go.WideShapes Go.ChangeAt Go.RowKit
set_option linter.unusedVariables false

/-- The state of a stream behind k numbers. -/
def st (s g k : Nat) : Nat := (s + k * g) % 18446744073709551616
theorem st_lt (s g k : Nat) : st s g k < 18446744073709551616 := Nat.mod_lt _ (by omega)

set_option maxHeartbeats 4000000 in
theorem ref_Number1 (s g k : Nat) (hs : s < 18446744073709551616) (hg : g < 18446744073709551616) (hk : k < 18446744073709551616) (kk : Int) (hkk : IntKind.u64.wrap kk = k) (w : World) :
    Calls Try.prog 28 #[.agg #[.int .u64 s, .int .u64 g], .int .i64 kk] w fun e w' => e = .returned (.int .u64 (mix (st s g k) : Nat)) ∧ Below w.heap.size w w' := by
  obtain ⟨p, hp⟩ : ∃ p, p = k * g % 18446744073709551616 := ⟨_, rfl⟩
  obtain ⟨t, ht⟩ : ∃ t, t = st s g k := ⟨_, rfl⟩
  have lt : t < 18446744073709551616 := by rw [ht]; exact st_lt s g k
  have e1 : IntKind.u64.wrap ((k : Int) * (g : Int)) = p := by rw [← Int.natCast_mul, hp, IntKind.wrap_u64]; omega
  have e2 : IntKind.u64.wrap ((s : Int) + (p : Int)) = t := by rw [ht, st, IntKind.wrap_u64]; omega
  rw [← ht]
  clear hp ht
  go_enter Try.func28, Try.ntmps28
  go_wp2_with (go_at_call 30; refine (ref_Scrambled t lt _).mono ?_; rintro e w1 ⟨rfl, hb1⟩)
  go_ret
  exact ⟨rfl, ((Below.refl _ _).alloc (Nat.le_refl _) _).trans (hb1.mono (by simp))⟩

set_option maxHeartbeats 4000000 in
theorem ref_Behind (s g k : Nat) (hs : s < 18446744073709551616) (hg : g < 18446744073709551616) (hk : k < 18446744073709551616) (kk : Int) (hkk : IntKind.u64.wrap kk = k) (w : World) :
    Calls Try.prog 18 #[.agg #[.int .u64 s, .int .u64 g], .int .i64 kk] w fun e w' => e = .returned (.agg #[.int .u64 (st s g k : Nat), .int .u64 g]) ∧ Below w.heap.size w w' := by
  obtain ⟨p, hp⟩ : ∃ p, p = k * g % 18446744073709551616 := ⟨_, rfl⟩
  obtain ⟨t, ht⟩ : ∃ t, t = st s g k := ⟨_, rfl⟩
  have lt : t < 18446744073709551616 := by rw [ht]; exact st_lt s g k
  have e1 : IntKind.u64.wrap ((k : Int) * (g : Int)) = p := by rw [← Int.natCast_mul, hp, IntKind.wrap_u64]; omega
  have e2 : IntKind.u64.wrap ((s : Int) + (p : Int)) = t := by rw [ht, st, IntKind.wrap_u64]; omega
  rw [← ht]
  clear hp ht
  go_enter Try.func18, Try.ntmps18
  go_wp2_with fail
  refine bodyPost_ret (results_cell_row Try.results18 _ _ (w.heap.size + 1) 24 #[.int .u64 t, .int .u64 g] (0, 0) _ rfl ?_ Try.underlying24 rfl (by kernel_rfl)) rfl ⟨rfl, ?_⟩
  · exact Mem.row_second _ _ _
  · exact ((Below.refl _ _).alloc (Nat.le_refl _) _).alloc (by simp) _

set_option maxHeartbeats 4000000 in
theorem rnd_Next (s g : Nat) (hs : s < 18446744073709551616) (hg : g < 18446744073709551616) (w : World) :
    Calls Try.prog 26 #[.agg #[.int .u64 s, .int .u64 g]] w fun e w' => e = .returned (.tuple #[.int .u64 (mix (st s g 1) : Nat), .agg #[.int .u64 (st s g 1 : Nat), .int .u64 g]]) ∧ Below w.heap.size w w' := by
  obtain ⟨t, ht⟩ : ∃ t, t = st s g 1 := ⟨_, rfl⟩
  have lt : t < 18446744073709551616 := by rw [ht]; exact st_lt s g 1
  have e2 : IntKind.u64.wrap ((s : Int) + (g : Int)) = t := by rw [ht, st, IntKind.wrap_u64]; omega
  rw [← ht]
  clear ht
  go_enter Try.func26, Try.ntmps26
  go_wp2_with fail
  go_region_with (go_at_call 29; refine (rnd_Mix t lt _).mono ?_; rintro e w1 ⟨rfl, rfl⟩)
  all_goals go_wp2_with fail
  all_goals exact bodyPost_ret (Mem.results_tc Try.results26 _ _ (w.heap.size + 1) 24 #[.int .u64 t, .int .u64 g] (0, 0) _ rfl (Mem.row_second w _ _) Try.underlying24 rfl (by kernel_rfl)) rfl ⟨rfl, (((Below.refl _ _).alloc (Nat.le_refl _) _).alloc (by simp) _).drew⟩

theorem rnd_New (seed : Int) (k : Nat) (hk : k < 18446744073709551616) (hkk : IntKind.u64.wrap seed = k) (w : World) :
    Calls Try.prog 31 #[.int .i64 seed] w fun e w' => e = .returned (.agg #[.int .u64 (mix k : Nat), .int .u64 11400714819323198485]) ∧ Below w.heap.size w w' := by
  go_enter Try.func31, Try.ntmps31
  go_wp2_with (go_at_call 29; refine (rnd_Mix k hk _).mono ?_; rintro e w1 ⟨rfl, rfl⟩)
  exact bodyPost_ret (results_cell_row Try.results31 _ _ (w.heap.size) 24 #[.int .u64 (mix k : Nat), .int .u64 11400714819323198485] (0, 0) _ rfl (heap_alloc_new _ _) Try.underlying24 rfl (by kernel_rfl)) rfl ⟨rfl, (Below.refl _ _).alloc (Nat.le_refl _) _⟩
end Go.Proofs.Ytdhaaeaacbnghaa
