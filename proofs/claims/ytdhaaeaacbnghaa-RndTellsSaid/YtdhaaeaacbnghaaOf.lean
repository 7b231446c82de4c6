/- rnd: Split, Of; the reference's Stream, Named. -/
import Derived.Test.YtdhaaeaacbnghaaRnd
import Derived.Test.YtdhaaeaacbnghaaW64
import Derived.Deep.LoopGhost
namespace Go.Proofs.Ytdhaaeaacbnghaa
open Go.ChangeShapes Go.WideShapes Go.ChangeAt Go.RowKit
set_option linter.unusedVariables false

theorem ref_Stream (seed : Int) (k : Nat) (hk : k < 18446744073709551616) (hkk : IntKind.u64.wrap seed = k) (w : World) :
    Calls Try.prog 32 #[.int .i64 seed] w fun e w' => e = .returned (.agg #[.int .u64 (mix k : Nat), .int .u64 11400714819323198485]) ∧ Below w.heap.size w w' := by
  have cs := ref_Scrambled k hk
  obtain ⟨X, hX⟩ : ∃ X, X = mix k := ⟨_, rfl⟩
  rw [← hX] at cs ⊢
  have CS := Lib.hid cs
  clear cs hX
  have hr := heap_alloc_new w (Obj.cells #[Value.int IntKind.u64 0, Value.int IntKind.u64 0] 24)
  have hb := (Below.refl w.heap.size w).alloc (Nat.le_refl _) (Obj.cells #[Value.int IntKind.u64 0, Value.int IntKind.u64 0] 24)
  have hl : w.heap.size < (w.alloc (Obj.cells #[Value.int IntKind.u64 0, Value.int IntKind.u64 0] 24)).heap.size := by simp
  have HR := Lib.hid hr
  clear hr
  go_enter Try.func32, Try.ntmps32
  go_wp2_with fail
  refine (CS.out _).mono ?_
  rintro e w1 ⟨rfl, hb1⟩
  have hr1 := Lib.hid ((hb1.block _ hl).trans HR.out)
  have hbw := Mem.bt hb (hb1.mono (by simp))
  clear hb hb1 HR
  go_wp2_with (refine Mem.wpList_store_rowP rfl 24 (.tmp 2) (.tmp 6) rfl w.heap.size #[.int .u64 X, .int .u64 11400714819323198485] rfl rfl _ _ hr1.out (by kernel_rfl) rfl (Mem.ones2 _ _ rfl rfl) ?_; intro w2 P2)
  exact bodyPost_ret (results_cell_row Try.results32 _ _ (w.heap.size) 24 #[.int .u64 X, .int .u64 11400714819323198485] (0, 0) _ rfl P2.here Try.underlying24 rfl (by kernel_rfl)) rfl ⟨rfl, hbw.trans (P2.below (Nat.le_refl _))⟩

/-- The state behind a list of numbers. -/
def named1 : Nat → List Int → Nat
  | s, [] => s
  | s, n :: l => named1 (mix ((s + 11400714819323198485) % 18446744073709551616) ^^^ W64.u n) l
theorem named1_snoc (s : Nat) (l : List Int) (n : Int) : named1 s (l ++ [n]) = mix ((named1 s l + 11400714819323198485) % 18446744073709551616) ^^^ W64.u n := by
  induction l generalizing s with
  | nil => rfl
  | cons a l ih => exact ih _
def namedS (l : List Int) : Nat := mix ((named1 l.length l + 11400714819323198485) % 18446744073709551616)
def namedG (l : List Int) : Nat := mix ((namedS l + 11400714819323198485) % 18446744073709551616) / 2 * 2 + 1
theorem xor_lt (a b : Nat) (ha : a < 18446744073709551616) (hb : b < 18446744073709551616) : a ^^^ b < 18446744073709551616 := Nat.xor_lt_two_pow (n := 64) ha hb
theorem named1_lt (s : Nat) (l : List Int) (h : s < 18446744073709551616) : named1 s l < 18446744073709551616 := by
  induction l generalizing s with
  | nil => exact h
  | cons a l ih => exact ih _ (xor_lt _ _ (mix_lt _) (W64.u_lt a))
theorem namedG_lt (l : List Int) : namedG l < 18446744073709551616 := by
  unfold namedG
  have := mix_lt ((namedS l + 11400714819323198485) % 18446744073709551616)
  omega
theorem take_snoc {α : Type} (l : List α) (k : Nat) (d : α) (h : k < l.length) : l.take (k + 1) = l.take k ++ [l.getD k d] := by
  rw [List.take_succ_eq_append_getElem h]; simp [h]

set_option maxHeartbeats 4000000 in
theorem rnd_Of (a : Option Addr) (cap : Nat) (l : List Int) (hl : l.length ≤ 9223372036854775807) (w : World) (hin : Mem.IntsAt .i64 w a l) :
    Calls Try.prog 33 #[.slice a l.length cap] w fun e w' => e = .returned (.agg #[.int .u64 (namedS l : Nat), .int .u64 (namedG l : Nat)]) ∧ Below w.heap.size w w' := by
  obtain ⟨n, hn⟩ : ∃ n, n = l.length := ⟨_, rfl⟩
  rw [← hn]
  have HN := Lib.hid hn
  have un : IntKind.u64.wrap (n : Int) = n := W64.u_in n (by omega)
  have hr := heap_alloc_new w (Obj.cells #[Value.int IntKind.u64 0, Value.int IntKind.u64 0] 24)
  have hb := (Below.refl w.heap.size w).alloc (Nat.le_refl _) (Obj.cells #[Value.int IntKind.u64 0, Value.int IntKind.u64 0] 24)
  have hin1 := hin.below hb
  have HI := Lib.hid hin1
  have HR := Lib.hid hr
  have h63 : n ≤ 9223372036854775807 := by omega
  clear hr hin hin1 hn hl
  go_enter Try.func33, Try.ntmps33
  go_wp2_with fail
  clear un
  generalize w.alloc (Obj.cells #[Value.int IntKind.u64 0, Value.int IntKind.u64 0] 24) = W0 at *
  go_loopg [3, 5, 11] n (fun gk vs _ vi wx => ∃ k : Nat, k ≤ n ∧ gk = n - k ∧ vi = .int .i64 k ∧ vs = .int .u64 (named1 n (l.take k) : Nat) ∧ wx = W0)
  case atStart => exact ⟨0, by omega, rfl, rfl, rfl, rfl⟩
  case round =>
    obtain ⟨k, h1, h2, rfl, rfl, rfl⟩ := hrel
    have H2 := Lib.hid h2
    clear h2
    have lS := named1_lt n (l.take k) (by omega)
    by_cases hlt : k < n
    · obtain ⟨x, rfl, hx, hc⟩ := HI.out (by rw [← HN.out]; omega)
      have hcell := hc k (by rw [← HN.out]; omega)
      obtain ⟨S, hS⟩ : ∃ S, S = named1 n (l.take k) := ⟨_, rfl⟩
      obtain ⟨z, hz⟩ : ∃ z, z = l.getD k 0 := ⟨_, rfl⟩
      rw [← hz] at hcell
      rw [← hS] at lS ⊢
      have HS := Lib.hid hS
      have HZ := Lib.hid hz
      obtain ⟨T, hT⟩ : ∃ T, T = (S + 11400714819323198485) % 18446744073709551616 := ⟨_, rfl⟩
      have lT : T < 18446744073709551616 := by omega
      have e1 : IntKind.u64.wrap ((S : Int) + 11400714819323198485) = T := by rw [IntKind.wrap_u64]; omega
      have e2 : IntKind.u64.wrap z = W64.u z := W64.u_eq z
      have lz := W64.u_lt z
      have e3 := W64.bits_xor_u64 (mix T) (W64.u z) (mix_lt T) lz
      have HT := Lib.hid hT
      clear hc hS hz hT
      have cm := rnd_Mix T lT
      obtain ⟨M, hM⟩ : ∃ M, M = mix T := ⟨_, rfl⟩
      rw [← hM] at cm e3
      obtain ⟨N, hN⟩ : ∃ N, N = M ^^^ W64.u z := ⟨_, rfl⟩
      rw [← hN] at e3
      have HM := Lib.hid hM
      have HNN := Lib.hid hN
      have CM := Lib.hid cm
      clear cm hM hN
      go_wp2_with (go_at_call 29; refine (CM.out _).mono ?_; rintro e w1 ⟨rfl, rfl⟩)
      go_roundg (n - (k + 1))
      case measure => rw [H2.out]; omega
      case rel => exact ⟨k + 1, by omega, rfl, by go_num, by rw [take_snoc l k 0 (by rw [← HN.out]; omega), named1_snoc, ← HS.out, ← HT.out, ← HM.out, ← HZ.out, ← HNN.out], rfl⟩
    · obtain rfl : k = n := by omega
      have eS : named1 k (l.take k) = named1 k l := by rw [List.take_of_length_le (by rw [← HN.out]; omega)]
      obtain ⟨S, hS⟩ : ∃ S, S = named1 k (l.take k) := ⟨_, rfl⟩
      rw [← hS] at lS ⊢
      obtain ⟨T, hT⟩ : ∃ T, T = (S + 11400714819323198485) % 18446744073709551616 := ⟨_, rfl⟩
      have lT : T < 18446744073709551616 := by omega
      have e1 : IntKind.u64.wrap ((S : Int) + 11400714819323198485) = T := by rw [IntKind.wrap_u64]; omega
      have cm := rnd_Mix T lT
      have lM := mix_lt T
      obtain ⟨M, hM⟩ : ∃ M, M = mix T := ⟨_, rfl⟩
      rw [← hM] at cm lM
      obtain ⟨U, hU⟩ : ∃ U, U = (M + 11400714819323198485) % 18446744073709551616 := ⟨_, rfl⟩
      have lU : U < 18446744073709551616 := by omega
      have e2 : IntKind.u64.wrap ((M : Int) + 11400714819323198485) = U := by rw [IntKind.wrap_u64]; omega
      have cn := rnd_Mix U lU
      have lN := mix_lt U
      obtain ⟨N, hN⟩ : ∃ N, N = mix U := ⟨_, rfl⟩
      rw [← hN] at cn lN
      obtain ⟨O, hO⟩ : ∃ O, O = N / 2 * 2 + 1 := ⟨_, rfl⟩
      have e3 : bits .or .u64 (N : Int) 1 = O := by rw [hO, ← W64.or_one]; exact W64.bits_or_u64 N 1 lN (by omega)
      have q1 : namedS l = M := by rw [namedS, ← HN.out, ← eS, ← hS, ← hT, ← hM]
      have q2 : namedG l = O := by rw [namedG, q1, ← hU, ← hN, ← hO]
      have Q1 := Lib.hid q1
      have Q2 := Lib.hid q2
      have CM := Lib.hid cm
      have CN := Lib.hid cn
      clear eS hS hT hM hU hN hO q1 q2 cm cn
      go_wp2_with (first
        | (go_at_call 29; (with_reducible refine (CM.out _).mono ?_); rintro e w1 ⟨rfl, rfl⟩)
        | (go_at_call 29; (with_reducible refine (CN.out _).mono ?_); rintro e w1 ⟨rfl, rfl⟩)
        | (refine Mem.wpList_store_rowP rfl 24 (.tmp 2) (.tmp 30) rfl w.heap.size #[.int .u64 M, .int .u64 O] rfl rfl _ _ HR.out (by kernel_rfl) rfl (Mem.ones2 _ _ rfl rfl) ?_; intro w2 P2))
      exact bodyPost_ret (results_cell_row Try.results33 _ _ (w.heap.size) 24 #[.int .u64 M, .int .u64 O] (0, 0) _ rfl P2.here Try.underlying24 rfl (by kernel_rfl)) rfl ⟨by rw [Q1.out, Q2.out], hb.trans (P2.below (Nat.le_refl _))⟩

set_option maxHeartbeats 4000000 in
theorem ref_Named (a : Option Addr) (cap : Nat) (l : List Int) (hl : l.length ≤ 9223372036854775807) (w : World) (hin : Mem.IntsAt .i64 w a l) :
    Calls Try.prog 34 #[.slice a l.length cap] w fun e w' => e = .returned (.agg #[.int .u64 (namedS l : Nat), .int .u64 (namedG l : Nat)]) ∧ Below w.heap.size w w' := by
  obtain ⟨n, hn⟩ : ∃ n, n = l.length := ⟨_, rfl⟩
  rw [← hn]
  have HN := Lib.hid hn
  have un : IntKind.u64.wrap (n : Int) = n := W64.u_in n (by omega)
  have hr := heap_alloc_new w (Obj.cells #[Value.int IntKind.u64 0, Value.int IntKind.u64 0] 24)
  have hb := (Below.refl w.heap.size w).alloc (Nat.le_refl _) (Obj.cells #[Value.int IntKind.u64 0, Value.int IntKind.u64 0] 24)
  have hin1 := hin.below hb
  have hl0 : w.heap.size < (w.alloc (Obj.cells #[Value.int IntKind.u64 0, Value.int IntKind.u64 0] 24)).heap.size := by simp
  have HI := Lib.hid hin1
  have HR := Lib.hid hr
  have h63 : n ≤ 9223372036854775807 := by omega
  clear hr hin hin1 hn hl
  go_enter Try.func34, Try.ntmps34
  go_wp2_with fail
  clear un
  generalize w.alloc (Obj.cells #[Value.int IntKind.u64 0, Value.int IntKind.u64 0] 24) = W0 at *
  go_loopg [3, 5, 12] n (fun gk vs _ vi wx => ∃ k : Nat, k ≤ n ∧ gk = n - k ∧ vi = .int .i64 k ∧ vs = .int .u64 (named1 n (l.take k) : Nat) ∧ Below W0.heap.size W0 wx)
  case atStart => exact ⟨0, by omega, rfl, rfl, rfl, Below.refl _ _⟩
  case round =>
    obtain ⟨k, h1, h2, rfl, rfl, hbx⟩ := hrel
    have H2 := Lib.hid h2
    clear h2
    have lS := named1_lt n (l.take k) (by omega)
    have HIx := Lib.hid (HI.out.below hbx)
    have HRx := Lib.hid ((hbx.block _ hl0).trans HR.out)
    have hlx := Nat.lt_of_lt_of_le hl0 hbx.size
    by_cases hlt : k < n
    · obtain ⟨x, rfl, hx, hc⟩ := HIx.out (by rw [← HN.out]; omega)
      have hcell := hc k (by rw [← HN.out]; omega)
      obtain ⟨S, hS⟩ : ∃ S, S = named1 n (l.take k) := ⟨_, rfl⟩
      obtain ⟨z, hz⟩ : ∃ z, z = l.getD k 0 := ⟨_, rfl⟩
      rw [← hz] at hcell
      rw [← hS] at lS ⊢
      have HS := Lib.hid hS
      have HZ := Lib.hid hz
      obtain ⟨T, hT⟩ : ∃ T, T = (S + 11400714819323198485) % 18446744073709551616 := ⟨_, rfl⟩
      have lT : T < 18446744073709551616 := by omega
      have e1 : IntKind.u64.wrap ((S : Int) + 11400714819323198485) = T := by rw [IntKind.wrap_u64]; omega
      have e2 : IntKind.u64.wrap z = W64.u z := W64.u_eq z
      have lz := W64.u_lt z
      have e3 := W64.bits_xor_u64 (mix T) (W64.u z) (mix_lt T) lz
      have HT := Lib.hid hT
      clear hc hS hz hT
      have cm := ref_Scrambled T lT
      obtain ⟨M, hM⟩ : ∃ M, M = mix T := ⟨_, rfl⟩
      rw [← hM] at cm e3
      obtain ⟨N, hN⟩ : ∃ N, N = M ^^^ W64.u z := ⟨_, rfl⟩
      rw [← hN] at e3
      have HM := Lib.hid hM
      have HNN := Lib.hid hN
      have CM := Lib.hid cm
      clear cm hM hN
      go_wp2_with (go_at_call 30; refine (CM.out _).mono ?_; rintro e w1 ⟨rfl, hb1⟩)
      go_roundg (n - (k + 1))
      case measure => rw [H2.out]; omega
      case rel => exact ⟨k + 1, by omega, rfl, by go_num, by rw [take_snoc l k 0 (by rw [← HN.out]; omega), named1_snoc, ← HS.out, ← HT.out, ← HM.out, ← HZ.out, ← HNN.out], Mem.bt hbx hb1⟩
    · obtain rfl : k = n := by omega
      have eS : named1 k (l.take k) = named1 k l := by rw [List.take_of_length_le (by rw [← HN.out]; omega)]
      obtain ⟨S, hS⟩ : ∃ S, S = named1 k (l.take k) := ⟨_, rfl⟩
      rw [← hS] at lS ⊢
      obtain ⟨T, hT⟩ : ∃ T, T = (S + 11400714819323198485) % 18446744073709551616 := ⟨_, rfl⟩
      have lT : T < 18446744073709551616 := by omega
      have e1 : IntKind.u64.wrap ((S : Int) + 11400714819323198485) = T := by rw [IntKind.wrap_u64]; omega
      have cm := ref_Scrambled T lT
      have lM := mix_lt T
      obtain ⟨M, hM⟩ : ∃ M, M = mix T := ⟨_, rfl⟩
      rw [← hM] at cm lM
      obtain ⟨U, hU⟩ : ∃ U, U = (M + 11400714819323198485) % 18446744073709551616 := ⟨_, rfl⟩
      have lU : U < 18446744073709551616 := by omega
      have e2 : IntKind.u64.wrap ((M : Int) + 11400714819323198485) = U := by rw [IntKind.wrap_u64]; omega
      have cn := ref_Scrambled U lU
      have lN := mix_lt U
      obtain ⟨N, hN⟩ : ∃ N, N = mix U := ⟨_, rfl⟩
      rw [← hN] at cn lN
      obtain ⟨O, hO⟩ : ∃ O, O = N / 2 * 2 + 1 := ⟨_, rfl⟩
      have e3 : (N : Int) / 2 * 2 + 1 = O := by rw [hO]; omega
      have lD : (N : Int) / 2 * 2 + 1 < 18446744073709551616 := by omega
      have q1 : namedS l = M := by rw [namedS, ← HN.out, ← eS, ← hS, ← hT, ← hM]
      have q2 : namedG l = O := by rw [namedG, q1, ← hU, ← hN, ← hO]
      have Q1 := Lib.hid q1
      have Q2 := Lib.hid q2
      have CM := Lib.hid cm
      have CN := Lib.hid cn
      have hbw := hb.trans (hbx.mono hb.size)
      clear eS hS hT hM hU hN hO q1 q2 cm cn hb
      go_wp2_with fail
      refine (CM.out _).mono ?_
      rintro e w1 ⟨rfl, hb1⟩
      have hbw1 := hbw.trans (hb1.mono hbw.size)
      have HR1 := Lib.hid ((hb1.block _ hlx).trans HRx.out)
      have hl1 := Nat.lt_of_lt_of_le hlx hb1.size
      clear hb1 HRx hbw hlx
      go_wp2_with fail
      refine (CN.out _).mono ?_
      rintro e w2 ⟨rfl, hb2⟩
      have hbw2 := hbw1.trans (hb2.mono hbw1.size)
      have HR2 := Lib.hid ((hb2.block _ hl1).trans HR1.out)
      clear hb2 HR1 hbw1 hl1
      go_wp2_with (refine Mem.wpList_store_rowP rfl 24 (.tmp 2) (.tmp 34) rfl w.heap.size #[.int .u64 M, .int .u64 O] rfl rfl _ _ HR2.out (by kernel_rfl) rfl (Mem.ones2 _ _ rfl rfl) ?_; intro w3 P2)
      exact bodyPost_ret (results_cell_row Try.results34 _ _ (w.heap.size) 24 #[.int .u64 M, .int .u64 O] (0, 0) _ rfl P2.here Try.underlying24 rfl (by kernel_rfl)) rfl ⟨by rw [Q1.out, Q2.out], hbw2.trans (P2.below (Nat.le_refl _))⟩

set_option maxHeartbeats 4000000 in
theorem rnd_Split (s g : Nat) (hs : s < 18446744073709551616) (hg : g < 18446744073709551616) (w : World) :
    Calls Try.prog 27 #[.agg #[.int .u64 s, .int .u64 g]] w fun e w' => e = .returned (.tuple #[.agg #[.int .u64 (mix (st s g 1) : Nat), .int .u64 (mix (st s g 2) / 2 * 2 + 1 : Nat)], .agg #[.int .u64 (st s g 2 : Nat), .int .u64 g]]) ∧ Below w.heap.size w w' := by
  have cn := rnd_Next s g hs hg
  have cm := rnd_Next (st s g 1) g (st_lt _ _ _) hg
  have e12 : st (st s g 1) g 1 = st s g 2 := by unfold st; rw [Nat.mod_add_mod]; congr 1; omega
  rw [e12] at cm
  obtain ⟨S, hS⟩ : ∃ S, S = st s g 1 := ⟨_, rfl⟩
  obtain ⟨T, hT⟩ : ∃ T, T = st s g 2 := ⟨_, rfl⟩
  obtain ⟨M, hM⟩ : ∃ M, M = mix S := ⟨_, rfl⟩
  obtain ⟨N, hN⟩ : ∃ N, N = mix T := ⟨_, rfl⟩
  rw [← hS, ← hM] at cn
  rw [← hS, ← hT, ← hN] at cm
  rw [← hS, ← hM, ← hT, ← hN]
  have lN : N < 18446744073709551616 := by rw [hN]; exact mix_lt _
  obtain ⟨O, hO⟩ : ∃ O, O = N / 2 * 2 + 1 := ⟨_, rfl⟩
  have e3 : bits .or .u64 (N : Int) 1 = O := by rw [hO, ← W64.or_one]; exact W64.bits_or_u64 N 1 lN (by omega)
  rw [← hO]
  have CN := Lib.hid cn
  have CM := Lib.hid cm
  clear cn cm e12 hS hT hM hN hO
  have hr0 : (((w.alloc (Obj.cells #[Value.int IntKind.u64 s, Value.int IntKind.u64 g] 24)).alloc (Obj.cells #[Value.int IntKind.u64 0, Value.int IntKind.u64 0] 24)).alloc (Obj.cells #[Value.int IntKind.u64 0, Value.int IntKind.u64 0] 24)).heap[w.heap.size]? = some (Obj.cells #[Value.int IntKind.u64 s, Value.int IntKind.u64 g] 24) := by
    rw [Below.heap_alloc _ _ _ (by simp; omega), Below.heap_alloc _ _ _ (by simp)]; exact heap_alloc_new _ _
  have hr1 : (((w.alloc (Obj.cells #[Value.int IntKind.u64 s, Value.int IntKind.u64 g] 24)).alloc (Obj.cells #[Value.int IntKind.u64 0, Value.int IntKind.u64 0] 24)).alloc (Obj.cells #[Value.int IntKind.u64 0, Value.int IntKind.u64 0] 24)).heap[w.heap.size + 1]? = some (Obj.cells #[Value.int IntKind.u64 0, Value.int IntKind.u64 0] 24) := by
    rw [Below.heap_alloc _ _ _ (by simp)]; exact Mem.row_second _ _ _
  have hr2 : (((w.alloc (Obj.cells #[Value.int IntKind.u64 s, Value.int IntKind.u64 g] 24)).alloc (Obj.cells #[Value.int IntKind.u64 0, Value.int IntKind.u64 0] 24)).alloc (Obj.cells #[Value.int IntKind.u64 0, Value.int IntKind.u64 0] 24)).heap[w.heap.size + 1 + 1]? = some (Obj.cells #[Value.int IntKind.u64 0, Value.int IntKind.u64 0] 24) := by
    have := heap_alloc_new ((w.alloc (Obj.cells #[Value.int IntKind.u64 s, Value.int IntKind.u64 g] 24)).alloc (Obj.cells #[Value.int IntKind.u64 0, Value.int IntKind.u64 0] 24)) (Obj.cells #[Value.int IntKind.u64 0, Value.int IntKind.u64 0] 24)
    simpa using this
  have hb := (((Below.refl w.heap.size w).alloc (Nat.le_refl _) (Obj.cells #[Value.int IntKind.u64 s, Value.int IntKind.u64 g] 24)).alloc (by simp) (Obj.cells #[Value.int IntKind.u64 0, Value.int IntKind.u64 0] 24)).alloc (by simp; omega) (Obj.cells #[Value.int IntKind.u64 0, Value.int IntKind.u64 0] 24)
  have HR1 := Lib.hid hr1
  have HR2 := Lib.hid hr2
  have c0 := cell_of_row _ _ 0 _ _ _ hr0
  have c1 := cell_of_row _ _ 1 _ _ _ hr0
  have HR0 := Lib.hid hr0
  clear hr0 hr1 hr2
  go_enter Try.func27, Try.ntmps27
  go_wp2_with fail
  generalize (((w.alloc (Obj.cells #[Value.int IntKind.u64 s, Value.int IntKind.u64 g] 24)).alloc (Obj.cells #[Value.int IntKind.u64 0, Value.int IntKind.u64 0] 24)).alloc (Obj.cells #[Value.int IntKind.u64 0, Value.int IntKind.u64 0] 24)) = W0 at *
  refine (CN.out _).mono ?_
  rintro e w1 ⟨rfl, hb1⟩
  have l2 := Mem.lt_of_heap HR2.out
  replace HR0 := Lib.hid ((hb1.block _ (by omega)).trans HR0.out)
  replace HR1 := Lib.hid ((hb1.block _ (by omega)).trans HR1.out)
  replace HR2 := Lib.hid ((hb1.block _ (by omega)).trans HR2.out)
  replace hb := hb.trans (hb1.mono hb.size)
  replace l2 := Nat.lt_of_lt_of_le l2 hb1.size
  clear hb1 c0 c1
  go_wp2_with (refine Mem.wpList_store_rowP rfl 24 (.tmp 1) (.tmp 10) rfl w.heap.size #[.int .u64 S, .int .u64 g] rfl rfl _ _ HR0.out (by kernel_rfl) rfl (Mem.ones2 _ _ rfl rfl) ?_; intro w2 P2; have c0 := cell_of_row _ _ 0 _ _ _ P2.here; have c1 := cell_of_row _ _ 1 _ _ _ P2.here)
  replace HR1 := Lib.hid ((P2.else_ _ (by omega)).trans HR1.out)
  replace HR2 := Lib.hid ((P2.else_ _ (by omega)).trans HR2.out)
  have HR0' := Lib.hid P2.here
  replace hb := hb.trans (P2.below (Nat.le_refl _))
  rw [← P2.size] at l2
  clear P2 HR0
  refine (CM.out _).mono ?_
  rintro e w3 ⟨rfl, hb1⟩
  replace HR0' := Lib.hid ((hb1.block _ (by omega)).trans HR0'.out)
  replace HR1 := Lib.hid ((hb1.block _ (by omega)).trans HR1.out)
  replace HR2 := Lib.hid ((hb1.block _ (by omega)).trans HR2.out)
  replace hb := hb.trans (hb1.mono hb.size)
  replace l2 := Nat.lt_of_lt_of_le l2 hb1.size
  clear hb1 c0 c1
  go_wp2_with (refine Mem.wpList_store_rowP rfl 24 (.tmp 1) (.tmp 15) rfl w.heap.size #[.int .u64 T, .int .u64 g] rfl rfl _ _ HR0'.out (by kernel_rfl) rfl (Mem.ones2 _ _ rfl rfl) ?_; intro w4 P4)
  have c0 := cell_of_row _ _ 0 _ _ _ P4.here
  have c1 := cell_of_row _ _ 1 _ _ _ P4.here
  replace HR1 := Lib.hid ((P4.else_ _ (by omega)).trans HR1.out)
  replace HR2 := Lib.hid ((P4.else_ _ (by omega)).trans HR2.out)
  have d0 := cell_of_row _ _ 0 _ _ _ HR1.out
  have d1 := cell_of_row _ _ 1 _ _ _ HR1.out
  have f0 := Mem.frozen_of_row HR1.out 0
  have f1 := Mem.frozen_of_row HR1.out 1
  have d2 := cell_of_row _ _ 0 _ _ _ HR2.out
  have d3 := cell_of_row _ _ 1 _ _ _ HR2.out
  have f2 := Mem.frozen_of_row HR2.out 0
  have f3 := Mem.frozen_of_row HR2.out 1
  replace hb := hb.trans (P4.below (Nat.le_refl _))
  clear P4 HR0'
  go_region
  all_goals
    go_wp2
    refine bodyPost_ret (Mem.results_cc Try.results27 _ _ (w.heap.size + 1) (w.heap.size + 1 + 1) 24 24 #[.int .u64 M, .int .u64 O] #[.int .u64 T, .int .u64 g] (0, 0) (0, 0) _ _ rfl ?_ Try.underlying24 rfl (by kernel_rfl) rfl ?_ Try.underlying24 rfl (by kernel_rfl)) rfl ⟨rfl, ?_⟩
    · refine Mem.heap_drew ?_
      first
        | with_reducible exact Mem.heap_far2 (Mem.heap_set2 HR1.out _ _) (by omega) _ _ _ _
        | with_reducible exact Mem.heap_set2 (Mem.heap_far2 HR1.out (by omega) _ _ _ _) _ _
    · refine Mem.heap_drew ?_
      first
        | with_reducible exact Mem.heap_far2 (Mem.heap_set2 HR2.out _ _) (by omega) _ _ _ _
        | with_reducible exact Mem.heap_set2 (Mem.heap_far2 HR2.out (by omega) _ _ _ _) _ _
    · exact ((((hb.setCell (by simp <;> omega) _).setCell (by simp <;> omega) _).setCell (by simp <;> omega) _).setCell (by simp <;> omega) _).drew
end Go.Proofs.Ytdhaaeaacbnghaa
