/- The law MerkleVerifies. -/
import Derived.Test.YtdhaaeaacbnghaaMerkleBegun
import Derived.Test.YtdhaaeaacbnghaaOpen
namespace Go.Proofs.Ytdhaaeaacbnghaa
open Go.ChangeShapes Go.WideShapes Go.ChangeAt Go.RowKit Go.Mem Go.Mk
set_option linter.unusedVariables false

theorem merkle_Verify_out (root leaf : Nat) (n i : Int) (a : Option Addr) (m cap : Nat) (h : n < 1 ∨ 4096 < n ∨ i < 0 ∨ n ≤ i) (w : World) :
    Calls Try.prog 74 #[.int .u64 root, .int .i64 n, .int .i64 i, .int .u64 leaf, .slice a m cap] w fun e w' => e = .returned (.bool false) ∧ w = w' := by
  rcases (show n < 1 ∨ (1 ≤ n ∧ 4096 < n) ∨ (1 ≤ n ∧ n ≤ 4096 ∧ i < 0) ∨ (1 ≤ n ∧ n ≤ 4096 ∧ 0 ≤ i ∧ n ≤ i) by omega) with q | ⟨q, q2⟩ | ⟨q, q2, q3⟩ | ⟨q, q2, q3, q4⟩
  all_goals
    clear h
    go_enter Try.func74, Try.ntmps74
    go_wp2
    go_ret
    exact ⟨rfl, rfl⟩

set_option maxHeartbeats 4000000 in
set_option maxRecDepth 100000 in
theorem law_MerkleVerifies_out (root leaf : Nat) (n i : Int) (a : Option Addr) (m cap : Nat) (h : n < 1 ∨ 4096 < n ∨ i < 0 ∨ n ≤ i) (w : World) :
    Calls Try.prog 12 #[.int .u64 root, .int .i64 n, .int .i64 i, .int .u64 leaf, .slice a m cap] w fun e w' => e = .returned (.bool true) ∧ Below w.heap.size w w' := by
  have CV := Lib.hid (merkle_Verify_out root leaf n i a m cap h)
  rcases (show n < 1 ∨ (1 ≤ n ∧ 4096 < n) ∨ (1 ≤ n ∧ n ≤ 4096 ∧ i < 0) ∨ (1 ≤ n ∧ n ≤ 4096 ∧ 0 ≤ i ∧ n ≤ i) by omega) with q | ⟨q, q2⟩ | ⟨q, q2, q3⟩ | ⟨q, q2, q3, q4⟩
  all_goals
    clear h
    go_enter Try.func12, Try.ntmps12
    go_wp2_with fail
    refine (law_merkleBegun _).mono ?_
    rintro e w1 ⟨rfl, hb1⟩
    go_wp2_with fail
    refine (CV.out _).mono ?_
    rintro e w2 ⟨rfl, rfl⟩
    go_wp2_with fail
    go_ret
    exact ⟨rfl, hb1⟩

set_option maxHeartbeats 4000000 in
set_option maxRecDepth 100000 in
theorem law_MerkleVerifies_in (root leaf : Nat) (n i : Nat) (pr : List Int) (a : Option Addr) (m cap : Nat) (hm : m = pr.length) (hn1 : 1 ≤ n) (hn : n ≤ 4096) (hi : i < n) (hr : root < 18446744073709551616) (hlf : leaf < 18446744073709551616) (hpc : m ≤ cap) (hc : cap ≤ 17592186044416) (hu : U64s pr) (w : World) (hin : IntsAt .u64 w a pr) :
    Calls Try.prog 12 #[.int .u64 root, .int .i64 n, .int .i64 i, .int .u64 leaf, .slice a m cap] w fun e w' => e = .returned (.bool true) ∧ Below w.heap.size w w' := by
  have cv := fun (root : Nat) (hr : root < 18446744073709551616) w h => merkle_Verify root leaf n i pr a cap hn1 hn hi hr hlf (by omega) hc hu w h
  have cw := fun w h => ref_Verified n i leaf pr a cap m w hm hn1 hn hi hlf hpc hc hu h
  rw [← hm] at cv
  have CV := Lib.hid cv
  have CW := Lib.hid cw
  have HI := Lib.hid hin
  have b1 : decide (n ≤ i) = false := by simp; omega
  have b2 : decide ((n : Int) < 1) = false := by simp; omega
  have b3 : decide (4096 < (n : Int)) = false := by simp; omega
  have b4 : decide ((i : Int) < 0) = false := by simp
  clear cv cw hm hu hin hn1 hn hi
  go_enter Try.func12, Try.ntmps12
  go_wp2_with fail
  refine (law_merkleBegun _).mono ?_
  rintro e w1 ⟨rfl, hb1⟩
  go_wp2_with fail
  refine (CV.out root hr _ (HI.out.below hb1)).mono ?_
  rintro e w2 ⟨rfl, rfl⟩
  go_wp2_with fail
  refine (CW.out _ (HI.out.below hb1)).mono ?_
  rintro e w2 ⟨d, ok, rfl, ld, hd, hb2⟩
  have hb := bt hb1 hb2
  have cd := CV.out d ld _ (HI.out.below hb)
  rw [hd] at cd
  have HD := Lib.hid hd
  cases ok
  · have e1 : decide (ver tieI n i leaf pr = some (root : Int)) = false := by rw [hd]; simp
    have e2 : decide ((if false = true then some (d : Int) else none) = some (d : Int)) = false := by simp
    rw [e2] at cd
    have CD := Lib.hid cd
    clear cd hd e2
    go_wp2_with fail
    refine CD.out.mono ?_
    rintro e w3 ⟨rfl, rfl⟩
    go_wp2_with fail
    go_ret
    exact ⟨rfl, hb⟩
  · have e1 : decide (ver tieI n i leaf pr = some (root : Int)) = ((d : Int) == (root : Int)) := by
      rw [hd]
      by_cases e : d = root
      · subst e; simp
      · have : ((d : Int) == (root : Int)) = false := by rw [beq_eq_false_iff_ne]; omega
        rw [this]; simp; omega
    have e2 : decide ((if true = true then some (d : Int) else none) = some (d : Int)) = true := by simp
    rw [e2] at cd
    have CD := Lib.hid cd
    clear cd hd e2
    go_wp2_with fail
    refine CD.out.mono ?_
    rintro e w3 ⟨rfl, rfl⟩
    go_wp2_with fail
    go_ret
    exact ⟨rfl, hb⟩

theorem law_MerkleVerifies (root leaf : Nat) (n i : Int) (pr : List Int) (a : Option Addr) (m cap : Nat) (hm : m = pr.length) (hr : root < 18446744073709551616) (hlf : leaf < 18446744073709551616) (hpc : m ≤ cap) (hc : cap ≤ 17592186044416) (hu : U64s pr) (w : World) (hin : IntsAt .u64 w a pr) :
    Calls Try.prog 12 #[.int .u64 root, .int .i64 n, .int .i64 i, .int .u64 leaf, .slice a m cap] w fun e w' => e = .returned (.bool true) ∧ Below w.heap.size w w' := by
  by_cases h : n < 1 ∨ 4096 < n ∨ i < 0 ∨ n ≤ i
  · exact law_MerkleVerifies_out root leaf n i a m cap h w
  · obtain ⟨k, rfl⟩ := Int.eq_ofNat_of_zero_le (show 0 ≤ n by omega)
    obtain ⟨j, rfl⟩ := Int.eq_ofNat_of_zero_le (show 0 ≤ i by omega)
    exact law_MerkleVerifies_in root leaf k j pr a m cap hm (by omega) (by omega) (by omega) hr hlf hpc hc hu w hin
theorem u64s_of {w : World} {a : Option Addr} {len cap : Nat} {zs : List Int} (h : IsRow .u64 w a len cap zs) : U64s (zs.take len) := fun z hz => by
  obtain ⟨k, rfl, hk⟩ := has_u64 (has_wf (h.wf z hz))
  omega
end Go.Proofs.Ytdhaaeaacbnghaa
