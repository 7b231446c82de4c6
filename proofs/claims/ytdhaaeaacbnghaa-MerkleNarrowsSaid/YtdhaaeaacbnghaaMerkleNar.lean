/- The law MerkleNarrows. -/
import Derived.Test.YtdhaaeaacbnghaaMerkleBegun
import Derived.Test.YtdhaaeaacbnghaaNarrowed
import Derived.Test.YtdhaaeaacbnghaaOpen
import Derived.Lib.MinMax
namespace Go.Proofs.Ytdhaaeaacbnghaa
open Go.ChangeShapes Go.WideShapes Go.ChangeAt Go.RowKit Go.Mem Go.Mk
set_option linter.unusedVariables false

set_option maxHeartbeats 4000000 in
set_option maxRecDepth 100000 in
theorem law_MerkleNarrows_out (a b : Option Addr) (n m ca cb : Nat) (h : max n m = 0 ∨ 4096 < max n m) (hn : n ≤ 17592186044416) (hm : m ≤ 17592186044416) (w : World) :
    Calls Try.prog 11 #[.slice a n ca, .slice b m cb] w fun e w' => e = .returned (.bool true) ∧ Below w.heap.size w w' := by
  have CV := Lib.hid (merkle_Narrow_out a b n m ca cb h hn hm)
  rcases (show (n = 0 ∧ m = 0) ∨ (m ≤ n ∧ 4096 < n) ∨ (n < m ∧ 4096 < m) by omega) with ⟨rfl, rfl⟩ | ⟨q, q2⟩ | ⟨q, q2⟩
  all_goals
    clear h
    go_enter Try.func11, Try.ntmps11
    go_wp2_with fail
    refine (law_merkleBegun _).mono ?_
    rintro e w1 ⟨rfl, hb1⟩
    go_wp2_with fail
    refine (CV.out _).mono ?_
    rintro e w2 ⟨rfl, rfl⟩
    go_wp2_with fail
    go_ret
    exact ⟨rfl, hb1⟩

set_option maxHeartbeats 4000000 in
set_option maxRecDepth 100000 in
theorem law_MerkleNarrows_in (la lb : List Int) (a b : Option Addr) (n m ca cb : Nat) (hn : la.length = n) (hm : lb.length = m) (h1 : 1 ≤ max n m) (h2 : max n m ≤ 4096) (ha : U64s la) (hb : U64s lb) (w : World) (hia : IntsAt .u64 w a la) (hib : IntsAt .u64 w b lb) :
    Calls Try.prog 11 #[.slice a n ca, .slice b m cb] w fun e w' => e = .returned (.bool true) ∧ Below w.heap.size w w' := by
  have cv := fun w h1' h2' => merkle_Narrow la lb a b n m ca cb hn hm h1 h2 ha hb w h1' h2'
  have cw := fun w h1' h2' => ref_Narrowed la lb a b n m ca cb hn hm h1 h2 ha hb w h1' h2'
  obtain ⟨⟨p1, p2⟩, hp⟩ : ∃ p, p = narrow (fill la lb) (fill lb la) := ⟨_, rfl⟩
  rw [← hp] at cv cw
  have CV := Lib.hid cv
  have CW := Lib.hid cw
  have HA := Lib.hid hia
  have HB := Lib.hid hib
  have r1 : (p1 == p1) = true := by simp
  have r2 : (p2 == p2) = true := by simp
  have h3 : (max (n : Int) (m : Int) == 0) = false := by rw [beq_eq_false_iff_ne]; omega
  have h4 : decide (4096 < max (n : Int) (m : Int)) = false := by simp; omega
  clear h1 h2 hn hm ha hb hp cv cw hia hib
  go_enter Try.func11, Try.ntmps11
  go_wp2_with fail
  refine (law_merkleBegun _).mono ?_
  rintro e w1 ⟨rfl, hb1⟩
  go_wp2_with fail
  refine (CV.out _ (HA.out.below hb1) (HB.out.below hb1)).mono ?_
  rintro e w2 ⟨rfl, hb2⟩
  have hb := bt hb1 hb2
  clear hb2
  go_wp2_with fail
  refine (CW.out _ (HA.out.below hb) (HB.out.below hb)).mono ?_
  rintro e w3 ⟨rfl, hb3⟩
  have hb' := bt hb hb3
  go_wp2_with fail
  go_ret
  exact ⟨rfl, hb'⟩

theorem law_MerkleNarrows (la lb : List Int) (a b : Option Addr) (n m ca cb : Nat) (hn : la.length = n) (hm : lb.length = m) (ln : n ≤ 17592186044416) (lm : m ≤ 17592186044416) (ha : U64s la) (hb : U64s lb) (w : World) (hia : IntsAt .u64 w a la) (hib : IntsAt .u64 w b lb) :
    Calls Try.prog 11 #[.slice a n ca, .slice b m cb] w fun e w' => e = .returned (.bool true) ∧ Below w.heap.size w w' := by
  by_cases h : max n m = 0 ∨ 4096 < max n m
  · exact law_MerkleNarrows_out a b n m ca cb h ln lm w
  · exact law_MerkleNarrows_in la lb a b n m ca cb hn hm (by omega) (by omega) ha hb w hia hib
theorem u64s_of {w : World} {a : Option Addr} {len cap : Nat} {zs : List Int} (h : IsRow .u64 w a len cap zs) : U64s (zs.take len) := fun z hz => by
  obtain ⟨k, rfl, hk⟩ := has_u64 (has_wf (h.wf z hz))
  omega
end Go.Proofs.Ytdhaaeaacbnghaa
