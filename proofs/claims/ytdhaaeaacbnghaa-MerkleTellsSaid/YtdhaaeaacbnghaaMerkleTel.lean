/- The law MerkleTells. -/
import Derived.Test.YtdhaaeaacbnghaaMerkleBegun
import Derived.Test.YtdhaaeaacbnghaaMProof
import Derived.Test.YtdhaaeaacbnghaaMRoot
import Derived.Test.YtdhaaeaacbnghaaProved
import Derived.Test.YtdhaaeaacbnghaaEqS
import Derived.Test.YtdhaaeaacbnghaaOpen
namespace Go.Proofs.Ytdhaaeaacbnghaa
open Go.ChangeShapes Go.WideShapes Go.ChangeAt Go.RowKit Go.Mem Go.Mk
set_option linter.unusedVariables false

set_option maxHeartbeats 4000000 in
set_option maxRecDepth 100000 in
theorem law_MerkleTells_long (a : Option Addr) (n cap : Nat) (i : Int) (h : 4096 < n) (hn : n ≤ 17592186044416) (w : World) :
    Calls Try.prog 13 #[.slice a n cap, .int .i64 i] w fun e w' => e = .returned (.bool true) ∧ Below w.heap.size w w' := by
  have CR := Lib.hid (merkle_Root_long a n cap h hn)
  have CP := Lib.hid (merkle_Proof_long a n cap i h hn)
  go_enter Try.func13, Try.ntmps13
  go_wp2_with fail
  refine (law_merkleBegun _).mono ?_
  rintro e w1 ⟨rfl, hb1⟩
  go_wp2_with fail
  refine (CR.out _).mono ?_
  rintro e w2 ⟨rfl, rfl⟩
  go_wp2_with fail
  refine (CP.out _).mono ?_
  rintro e w3 ⟨rfl, rfl⟩
  go_wp2_with fail
  go_ret
  exact ⟨rfl, hb1⟩

set_option maxHeartbeats 4000000 in
set_option maxRecDepth 100000 in
theorem law_MerkleTells_out (l : List Int) (a : Option Addr) (n cap : Nat) (i : Int) (hl : l.length = n) (hc : n ≤ cap) (hc2 : cap ≤ 9223372036854775807) (h : n ≤ 4096) (hi : i < 0 ∨ n ≤ i) (hu : U64s l) (w : World) (hin : IntsAt .u64 w a l) :
    Calls Try.prog 13 #[.slice a n cap, .int .i64 i] w fun e w' => e = .returned (.bool true) ∧ Below w.heap.size w w' := by
  have cr : ∀ w' : World, Below w.heap.size w w' → Calls Try.prog 76 #[.slice a n cap] w' fun e w2 => e = .returned (.tuple #[.int .u64 (top tieI l), .int .i64 0]) ∧ Below w'.heap.size w' w2 := fun w' hb => by
    by_cases h0 : n = 0
    · subst h0
      have e : l = [] := List.eq_nil_of_length_eq_zero hl
      subst e
      exact (merkle_Root_none a cap w').mono fun _ _ p => ⟨p.1, by rw [← p.2]; exact Below.refl _ _⟩
    · exact merkle_Root l a n cap hl (by omega) h hu w' (hin.below hb)
  have ct : ∀ w' : World, Below w.heap.size w w' → Calls Try.prog 78 #[.slice a n cap] w' fun e w2 => e = .returned (.int .u64 (top tieI l)) ∧ Below w'.heap.size w' w2 := fun w' hb =>
    ref_Top n l a cap w' hl hc hc2 (by omega) hu (hin.below hb)
  have CP := Lib.hid (merkle_Proof_out a n cap i h hi)
  obtain ⟨t, ht⟩ : ∃ t, t = top tieI l := ⟨_, rfl⟩
  rw [← ht] at cr ct
  have CR := Lib.hid cr
  have CT := Lib.hid ct
  have et : (t == t) = true := by simp
  clear cr ct ht hin hu hl
  rcases (show i < 0 ∨ (0 ≤ i ∧ n ≤ i) by omega) with q | ⟨q, q2⟩
  all_goals
    clear hi
    go_enter Try.func13, Try.ntmps13
    go_wp2_with fail
    refine (law_merkleBegun _).mono ?_
    rintro e w1 ⟨rfl, hb1⟩
    go_wp2_with fail
    refine (CR.out _ hb1).mono ?_
    rintro e w2 ⟨rfl, hb2⟩
    have hb := bt hb1 hb2
    clear hb1 hb2
    go_wp2_with fail
    refine (CP.out _).mono ?_
    rintro e w3 ⟨rfl, rfl⟩
    go_wp2_with fail
    refine (CT.out _ hb).mono ?_
    rintro e w4 ⟨rfl, hb4⟩
    have hb' := bt hb hb4
    go_wp2_with fail
    go_ret
    exact ⟨rfl, hb'⟩

set_option maxHeartbeats 4000000 in
set_option maxRecDepth 100000 in
theorem law_MerkleTells_in (l : List Int) (a : Option Addr) (n cap i : Nat) (hl : l.length = n) (hc : n ≤ cap) (hc2 : cap ≤ 9223372036854775807) (h : n ≤ 4096) (hi : i < n) (hu : U64s l) (w : World) (hin : IntsAt .u64 w a l) :
    Calls Try.prog 13 #[.slice a n cap, .int .i64 i] w fun e w' => e = .returned (.bool true) ∧ Below w.heap.size w w' := by
  have cr : ∀ w' : World, Below w.heap.size w w' → Calls Try.prog 76 #[.slice a n cap] w' fun e w2 => e = .returned (.tuple #[.int .u64 (top tieI l), .int .i64 0]) ∧ Below w'.heap.size w' w2 := fun w' hb =>
    merkle_Root l a n cap hl (by omega) h hu w' (hin.below hb)
  have ct : ∀ w' : World, Below w.heap.size w w' → Calls Try.prog 78 #[.slice a n cap] w' fun e w2 => e = .returned (.int .u64 (top tieI l)) ∧ Below w'.heap.size w' w2 := fun w' hb =>
    ref_Top n l a cap w' hl hc hc2 (by omega) hu (hin.below hb)
  have cp : ∀ w' : World, Below w.heap.size w w' → Calls Try.prog 77 #[.slice a n cap, .int .i64 i] w' (ProofPost (prov tieI l i) w') := fun w' hb =>
    merkle_Proof l a n cap i hl h hi hu w' (hin.below hb)
  have cq : ∀ w' : World, Below w.heap.size w w' → Calls Try.prog 80 #[.slice a n cap, .int .i64 i] w' (OwnPost (prov tieI l i) (prov tieI l i).length w') := fun w' hb =>
    ref_Proved n l a cap i w' hl (by omega) h hi hc hc2 hu (hin.below hb)
  obtain ⟨t, ht⟩ : ∃ t, t = top tieI l := ⟨_, rfl⟩
  rw [← ht] at cr ct
  obtain ⟨P, hP⟩ : ∃ P, P = prov tieI l i := ⟨_, rfl⟩
  have hPl : P.length ≤ 4096 := by rw [hP]; exact prov_len tieI n l i hl (by omega) hi 4096 h
  rw [← hP] at cp cq
  have CR := Lib.hid cr
  have CT := Lib.hid ct
  have CP := Lib.hid cp
  have CQ := Lib.hid cq
  have et : (t == t) = true := by simp
  clear cr ct cp cq ht hin hu hl hP
  go_enter Try.func13, Try.ntmps13
  go_wp2_with fail
  refine (law_merkleBegun _).mono ?_
  rintro e w1 ⟨rfl, hb1⟩
  go_wp2_with fail
  refine (CR.out _ hb1).mono ?_
  rintro e w2 ⟨rfl, hb2⟩
  have hb := bt hb1 hb2
  clear hb1 hb2
  go_wp2_with fail
  refine (CP.out _ hb).mono ?_
  rintro e w3 ⟨pa, pc, rfl, hpc, hpi, hb3⟩
  have hb' := bt hb hb3
  have HPI := Lib.hid hpi
  clear hb hb3 hpi
  go_wp2_with fail
  refine (CT.out _ hb').mono ?_
  rintro e w4 ⟨rfl, hb4⟩
  have hb := bt hb' hb4
  have HPI2 := Lib.hid (HPI.out.below hb4)
  clear hb' hb4 HPI
  go_wp2_with fail
  refine (CQ.out _ hb).mono ?_
  rintro e w5 ⟨v, rfl, hown, hb5⟩
  have hb' := bt hb hb5
  have HPI := Lib.hid (HPI2.out.below hb5)
  obtain ⟨qa, qc, rfl, hqc, hqi⟩ := own_slice2 hown
  have ce := eq_words pa qa pc qc P P (by omega) (by omega) w5 HPI.out hqi
  rw [decide_eq_true (rfl : P = P)] at ce
  have CE := Lib.hid ce
  clear hb hb5 hown hqi ce HPI2 HPI
  go_wp2_with fail
  refine CE.out.mono ?_
  rintro e w6 ⟨rfl, hb6⟩
  have hb := bt hb' hb6
  clear hb' hb6
  go_wp2_with fail
  go_ret
  exact ⟨rfl, hb⟩

theorem law_MerkleTells (l : List Int) (a : Option Addr) (n cap : Nat) (i : Int) (hl : l.length = n) (hc : n ≤ cap) (hc2 : cap ≤ 9223372036854775807) (hn : n ≤ 17592186044416) (hu : U64s l) (w : World) (hin : IntsAt .u64 w a l) :
    Calls Try.prog 13 #[.slice a n cap, .int .i64 i] w fun e w' => e = .returned (.bool true) ∧ Below w.heap.size w w' := by
  by_cases h : 4096 < n
  · exact law_MerkleTells_long a n cap i h hn w
  · by_cases hi : i < 0 ∨ n ≤ i
    · exact law_MerkleTells_out l a n cap i hl hc hc2 (by omega) hi hu w hin
    · obtain ⟨k, rfl⟩ : ∃ k : Nat, i = k := ⟨i.toNat, by omega⟩
      exact law_MerkleTells_in l a n cap k hl hc hc2 (by omega) (by omega) hu w hin
theorem u64s_of' {w : World} {a : Option Addr} {len cap : Nat} {zs : List Int} (h : IsRow .u64 w a len cap zs) : U64s (zs.take len) := fun z hz => by
  obtain ⟨k, rfl, hk⟩ := has_u64 (has_wf (h.wf z hz))
  omega
end Go.Proofs.Ytdhaaeaacbnghaa
