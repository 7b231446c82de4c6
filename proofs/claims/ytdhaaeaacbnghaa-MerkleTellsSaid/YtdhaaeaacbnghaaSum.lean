/- sum: Join, Words, Ints; the reference's Tied, Digest. -/
import Derived.Test.YtdhaaeaacbnghaaRnd
import Derived.Test.YtdhaaeaacbnghaaW64
import Derived.Deep.LoopGhost
namespace Go.Proofs.Ytdhaaeaacbnghaa
open Go.ChangeShapes Go.WideShapes Go.ChangeAt Go.RowKit
set_option linter.unusedVariables false

/-- The digest of two digests. -/
def tie (a b : Nat) : Nat := mix ((mix ((a + 5840696475078001361) % 18446744073709551616) * 11170449401992604703 + b) % 18446744073709551616)
theorem tie_lt (a b : Nat) : tie a b < 18446744073709551616 := mix_lt _

theorem sum_Join (a b : Nat) (ha : a < 18446744073709551616) (hb : b < 18446744073709551616) (w : World) :
    Calls Try.prog 21 #[.int .u64 a, .int .u64 b] w fun e w' => e = .returned (.int .u64 (tie a b : Nat)) ∧ w = w' := by
  obtain ⟨A, hA⟩ : ∃ A, A = (a + 5840696475078001361) % 18446744073709551616 := ⟨_, rfl⟩
  have lA : A < 18446744073709551616 := by omega
  have e1 : IntKind.u64.wrap ((a : Int) + 5840696475078001361) = A := by rw [IntKind.wrap_u64]; omega
  have c1 := rnd_Mix A lA
  obtain ⟨M, hM⟩ : ∃ M, M = mix A := ⟨_, rfl⟩
  rw [← hM] at c1
  obtain ⟨B, hB⟩ : ∃ B, B = M * 11170449401992604703 % 18446744073709551616 := ⟨_, rfl⟩
  have lB : B < 18446744073709551616 := by omega
  have e2 : IntKind.u64.wrap ((M : Int) * 11170449401992604703) = B := by rw [IntKind.wrap_u64]; omega
  obtain ⟨C, hC⟩ : ∃ C, C = (B + b) % 18446744073709551616 := ⟨_, rfl⟩
  have lC : C < 18446744073709551616 := by omega
  have e3 : IntKind.u64.wrap ((B : Int) + (b : Int)) = C := by rw [IntKind.wrap_u64]; omega
  have c2 := rnd_Mix C lC
  have ht : tie a b = mix C := by
    rw [tie, ← hA, ← hM, hC, hB, Nat.mod_add_mod]
  obtain ⟨N, hN⟩ : ∃ N, N = mix C := ⟨_, rfl⟩
  rw [ht]
  rw [← hN] at c2 ⊢
  have C1 := Lib.hid c1
  have C2 := Lib.hid c2
  clear c1 c2 ht hA hM hB hC hN
  go_enter Try.func21, Try.ntmps21
  go_wp2_with (first
    | (go_at_call 29; (with_reducible refine (C1.out _).mono ?_); rintro e w1 ⟨rfl, rfl⟩)
    | (go_at_call 29; (with_reducible refine (C2.out _).mono ?_); rintro e w1 ⟨rfl, rfl⟩))
  go_ret
  exact ⟨rfl, rfl⟩

theorem ref_Tied (a b : Nat) (ha : a < 18446744073709551616) (hb : b < 18446744073709551616) (w : World) :
    Calls Try.prog 22 #[.int .u64 a, .int .u64 b] w fun e w' => e = .returned (.int .u64 (tie a b : Nat)) ∧ Below w.heap.size w w' := by
  obtain ⟨A, hA⟩ : ∃ A, A = (a + 5840696475078001361) % 18446744073709551616 := ⟨_, rfl⟩
  have lA : A < 18446744073709551616 := by omega
  have e1 : IntKind.u64.wrap ((a : Int) + 5840696475078001361) = A := by rw [IntKind.wrap_u64]; omega
  have c1 := ref_Scrambled A lA
  obtain ⟨M, hM⟩ : ∃ M, M = mix A := ⟨_, rfl⟩
  rw [← hM] at c1
  obtain ⟨B, hB⟩ : ∃ B, B = M * 11170449401992604703 % 18446744073709551616 := ⟨_, rfl⟩
  have lB : B < 18446744073709551616 := by omega
  have e2 : IntKind.u64.wrap ((M : Int) * 11170449401992604703) = B := by rw [IntKind.wrap_u64]; omega
  obtain ⟨C, hC⟩ : ∃ C, C = (B + b) % 18446744073709551616 := ⟨_, rfl⟩
  have lC : C < 18446744073709551616 := by omega
  have e3 : IntKind.u64.wrap ((B : Int) + (b : Int)) = C := by rw [IntKind.wrap_u64]; omega
  have c2 := ref_Scrambled C lC
  have ht : tie a b = mix C := by
    rw [tie, ← hA, ← hM, hC, hB, Nat.mod_add_mod]
  obtain ⟨N, hN⟩ : ∃ N, N = mix C := ⟨_, rfl⟩
  rw [ht]
  rw [← hN] at c2 ⊢
  have C1 := Lib.hid c1
  have C2 := Lib.hid c2
  clear c1 c2 ht hA hM hB hC hN
  go_enter Try.func22, Try.ntmps22
  go_wp2_with fail
  refine (C1.out _).mono ?_
  rintro e w1 ⟨rfl, hb1⟩
  go_wp2_with fail
  refine (C2.out _).mono ?_
  rintro e w2 ⟨rfl, hb2⟩
  go_wp2_with fail
  go_ret
  exact ⟨rfl, Mem.bt hb1 hb2⟩

/-- The digest of a list, begun at d. -/
def dig1 : Nat → List Int → Nat
  | d, [] => d
  | d, n :: l => dig1 (tie d (W64.u n)) l
theorem dig1_snoc (d : Nat) (l : List Int) (n : Int) : dig1 d (l ++ [n]) = tie (dig1 d l) (W64.u n) := by
  induction l generalizing d with
  | nil => rfl
  | cons a l ih => exact ih _
theorem dig1_lt (d : Nat) (l : List Int) (h : d < 18446744073709551616) : dig1 d l < 18446744073709551616 := by
  induction l generalizing d with
  | nil => exact h
  | cons a l ih => exact ih _ (tie_lt _ _)
def dig (l : List Int) : Nat := dig1 (tie 5840696475078001361 l.length) l
theorem dig1_map (d : Nat) (l : List Int) : dig1 d (l.map fun z => (W64.u z : Int)) = dig1 d l := by
  induction l generalizing d with
  | nil => rfl
  | cons a l ih =>
    show dig1 (tie d (W64.u (W64.u a : Int))) _ = _
    rw [ih, W64.u_nat _ (W64.u_lt a)]; rfl
theorem dig_map (l : List Int) : dig (l.map fun z => (W64.u z : Int)) = dig l := by
  unfold dig; rw [dig1_map, List.length_map]
theorem take_snoc' {α : Type} (l : List α) (k : Nat) (d : α) (h : k < l.length) : l.take (k + 1) = l.take k ++ [l.getD k d] := by
  rw [List.take_succ_eq_append_getElem h]; simp [h]
/-- All numbers are of 64 bits. -/
def U64s (l : List Int) : Prop := ∀ z ∈ l, 0 ≤ z ∧ z < 18446744073709551616
theorem U64s.get {l : List Int} (h : U64s l) (k : Nat) (hk : k < l.length) : ((W64.u (l.getD k 0) : Nat) : Int) = l.getD k 0 := by
  have hm : l.getD k 0 ∈ l := by simp [hk]
  obtain ⟨h1, h2⟩ := h _ hm
  unfold W64.u; omega

set_option maxHeartbeats 4000000 in
theorem sum_Words (a : Option Addr) (cap : Nat) (l : List Int) (hl : l.length ≤ 9223372036854775807) (hu : U64s l) (w : World) (hin : Mem.IntsAt .u64 w a l) :
    Calls Try.prog 19 #[.slice a l.length cap] w fun e w' => e = .returned (.int .u64 (dig l : Nat)) ∧ w = w' := by
  obtain ⟨n, hn⟩ : ∃ n, n = l.length := ⟨_, rfl⟩
  rw [← hn]
  have HN := Lib.hid hn
  have un : IntKind.u64.wrap (n : Int) = n := W64.u_in n (by omega)
  have cj := sum_Join 5840696475078001361 n (by omega) (by omega) w
  obtain ⟨D, hD⟩ : ∃ D, D = tie 5840696475078001361 n := ⟨_, rfl⟩
  rw [← hD] at cj
  have lD : D < 18446744073709551616 := by rw [hD]; exact tie_lt _ _
  have HD := Lib.hid hD
  have CJ := Lib.hid cj
  have HI := Lib.hid hin
  have h63 : n ≤ 9223372036854775807 := by omega
  have HU := Lib.hid hu
  clear hin hn hl cj hD hu
  go_enter Try.func19, Try.ntmps19
  go_wp2_with (go_at_call 21; refine (CJ.out).mono ?_; rintro e w1 ⟨rfl, rfl⟩)
  clear un
  go_loopg [3, 5, 12] n (fun gk vs _ vi wx => ∃ k : Nat, k ≤ n ∧ gk = n - k ∧ vi = .int .i64 k ∧ vs = .int .u64 (dig1 D (l.take k) : Nat) ∧ wx = w)
  case atStart => exact ⟨0, by omega, rfl, rfl, rfl, rfl⟩
  case round =>
    obtain ⟨k, h1, h2, rfl, rfl, rfl⟩ := hrel
    have H2 := Lib.hid h2
    clear h2
    have lS := dig1_lt D (l.take k) (by omega)
    by_cases hlt : k < n
    · obtain ⟨x, rfl, hx, hc⟩ := HI.out (by rw [← HN.out]; omega)
      have hcell := hc k (by rw [← HN.out]; omega)
      have hz := HU.out.get k (by rw [← HN.out]; omega)
      obtain ⟨S, hS⟩ : ∃ S, S = dig1 D (l.take k) := ⟨_, rfl⟩
      obtain ⟨Z, hZ⟩ : ∃ Z, Z = W64.u (l.getD k 0) := ⟨_, rfl⟩
      have lZ : Z < 18446744073709551616 := by rw [hZ]; exact W64.u_lt _
      rw [← hz, ← hZ] at hcell
      rw [← hS] at lS ⊢
      have HS := Lib.hid hS
      have HZ := Lib.hid hZ
      have ct := sum_Join S Z lS lZ wr
      obtain ⟨T, hT⟩ : ∃ T, T = tie S Z := ⟨_, rfl⟩
      rw [← hT] at ct
      have HT := Lib.hid hT
      have CT := Lib.hid ct
      clear hc hS hz hT hZ ct
      go_wp2_with (go_at_call 21; refine (CT.out).mono ?_; rintro e w1 ⟨rfl, rfl⟩)
      go_roundg (n - (k + 1))
      case measure => rw [H2.out]; omega
      case rel => exact ⟨k + 1, by omega, rfl, by go_num, by rw [take_snoc' l k 0 (by rw [← HN.out]; omega), dig1_snoc, ← HS.out, ← HZ.out, ← HT.out], rfl⟩
    · obtain rfl : k = n := by omega
      have eS : dig1 D (l.take k) = dig l := by rw [List.take_of_length_le (by rw [← HN.out]; omega), dig, ← HN.out, HD.out]
      rw [eS]
      clear eS
      go_wp2
      go_ret
      exact ⟨rfl, rfl⟩

set_option maxHeartbeats 4000000 in
theorem ref_Digest (a : Option Addr) (cap : Nat) (l : List Int) (hl : l.length ≤ 9223372036854775807) (hu : U64s l) (w : World) (hin : Mem.IntsAt .u64 w a l) :
    Calls Try.prog 23 #[.slice a l.length cap] w fun e w' => e = .returned (.int .u64 (dig l : Nat)) ∧ Below w.heap.size w w' := by
  obtain ⟨n, hn⟩ : ∃ n, n = l.length := ⟨_, rfl⟩
  rw [← hn]
  have HN := Lib.hid hn
  have un : IntKind.u64.wrap (n : Int) = n := W64.u_in n (by omega)
  have cj := ref_Tied 5840696475078001361 n (by omega) (by omega) w
  obtain ⟨D, hD⟩ : ∃ D, D = tie 5840696475078001361 n := ⟨_, rfl⟩
  rw [← hD] at cj
  have lD : D < 18446744073709551616 := by rw [hD]; exact tie_lt _ _
  have HD := Lib.hid hD
  have CJ := Lib.hid cj
  have HI := Lib.hid hin
  have h63 : n ≤ 9223372036854775807 := by omega
  have HU := Lib.hid hu
  clear hin hn hl cj hD hu
  go_enter Try.func23, Try.ntmps23
  go_wp2_with (go_at_call 22; refine (CJ.out).mono ?_; rintro e w1 ⟨rfl, hb0⟩)
  clear un
  go_loopg [3, 5, 12] n (fun gk vs _ vi wx => ∃ k : Nat, k ≤ n ∧ gk = n - k ∧ vi = .int .i64 k ∧ vs = .int .u64 (dig1 D (l.take k) : Nat) ∧ Below w.heap.size w wx)
  case atStart => exact ⟨0, by omega, rfl, rfl, rfl, hb0⟩
  case round =>
    obtain ⟨k, h1, h2, rfl, rfl, hbx⟩ := hrel
    have H2 := Lib.hid h2
    clear h2
    have lS := dig1_lt D (l.take k) (by omega)
    by_cases hlt : k < n
    · obtain ⟨x, rfl, hx, hc⟩ := (HI.out.below hbx) (by rw [← HN.out]; omega)
      have hcell := hc k (by rw [← HN.out]; omega)
      have hz := HU.out.get k (by rw [← HN.out]; omega)
      obtain ⟨S, hS⟩ : ∃ S, S = dig1 D (l.take k) := ⟨_, rfl⟩
      obtain ⟨Z, hZ⟩ : ∃ Z, Z = W64.u (l.getD k 0) := ⟨_, rfl⟩
      have lZ : Z < 18446744073709551616 := by rw [hZ]; exact W64.u_lt _
      rw [← hz, ← hZ] at hcell
      rw [← hS] at lS ⊢
      have HS := Lib.hid hS
      have HZ := Lib.hid hZ
      have ct := ref_Tied S Z lS lZ wr
      obtain ⟨T, hT⟩ : ∃ T, T = tie S Z := ⟨_, rfl⟩
      rw [← hT] at ct
      have HT := Lib.hid hT
      have CT := Lib.hid ct
      clear hc hS hz hT hZ ct
      go_wp2_with (go_at_call 22; refine (CT.out).mono ?_; rintro e w1 ⟨rfl, hb1⟩)
      go_roundg (n - (k + 1))
      case measure => rw [H2.out]; omega
      case rel => exact ⟨k + 1, by omega, rfl, by go_num, by rw [take_snoc' l k 0 (by rw [← HN.out]; omega), dig1_snoc, ← HS.out, ← HZ.out, ← HT.out], Mem.bt hbx hb1⟩
    · obtain rfl : k = n := by omega
      have eS : dig1 D (l.take k) = dig l := by rw [List.take_of_length_le (by rw [← HN.out]; omega), dig, ← HN.out, HD.out]
      rw [eS]
      clear eS
      go_wp2
      go_ret
      exact ⟨rfl, hbx⟩
end Go.Proofs.Ytdhaaeaacbnghaa
