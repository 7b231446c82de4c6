/- Lemmas for the law TopBorderText: Sum, SumBytes. No conditions. -/
import Derived.Test.YtfckbkhnelgjbaaM01
import Derived.Deep.RegionWith
import Derived.Deep.LoopGhost
import Derived.BigQuiet
import Derived.Deep.QuietTactic
import Derived.Deep.CutRange
import Derived.Deep.DeepCutAuto
/- sum: Join, Words, Ints; the reference's Tied, Digest. -/
section
namespace Go.Proofs.Ytfckbkhnelgjbaa
open Go.ChangeShapes Go.WideShapes Go.ChangeAt Go.RowKit
set_option linter.unusedVariables false

/-- The digest of two digests. -/
def tied (a b : Nat) : Nat := mix ((mix ((a + 5840696475078001361) % 18446744073709551616) * 11170449401992604703 + b) % 18446744073709551616)
theorem tie_lt (a b : Nat) : tied a b < 18446744073709551616 := mix_lt _

theorem sum_Join (a b : Nat) (ha : a < 18446744073709551616) (hb : b < 18446744073709551616) (w : World) :
    Calls Try.prog 75 #[.int .u64 a, .int .u64 b] w fun e w' => e = .returned (.int .u64 (tied a b : Nat)) ∧ w = w' := by
  obtain ⟨A, hA⟩ : ∃ A, A = (a + 5840696475078001361) % 18446744073709551616 := ⟨_, rfl⟩
  have lA : A < 18446744073709551616 := by omega
  have e1 : IntKind.u64.wrap ((a : Int) + 5840696475078001361) = A := by rw [IntKind.wrap_u64]; omega
  have c1 := rnd_Mix A lA
  obtain ⟨M, hM⟩ : ∃ M, M = mix A := ⟨_, rfl⟩
  rw [← hM] at c1
  obtain ⟨B, hB⟩ : ∃ B, B = M * 11170449401992604703 % 18446744073709551616 := ⟨_, rfl⟩
  have lB : B < 18446744073709551616 := by omega
  have e2 : IntKind.u64.wrap ((M : Int) * 11170449401992604703) = B := by rw [IntKind.wrap_u64]; omega
  obtain ⟨C, hC⟩ : ∃ C, C = (B + b) % 18446744073709551616 := ⟨_, rfl⟩
  have lC : C < 18446744073709551616 := by omega
  have e3 : IntKind.u64.wrap ((B : Int) + (b : Int)) = C := by rw [IntKind.wrap_u64]; omega
  have c2 := rnd_Mix C lC
  have ht : tied a b = mix C := by
    rw [tied, ← hA, ← hM, hC, hB, Nat.mod_add_mod]
  obtain ⟨N, hN⟩ : ∃ N, N = mix C := ⟨_, rfl⟩
  rw [ht]
  rw [← hN] at c2 ⊢
  have C1 := Lib.hid c1
  have C2 := Lib.hid c2
  clear c1 c2 ht hA hM hB hC hN
  go_enter Try.func75, Try.ntmps75
  go_wp2_with (first
    | (go_at_call 101; (with_reducible refine (C1.out _).mono ?_); rintro e w1 ⟨rfl, rfl⟩)
    | (go_at_call 101; (with_reducible refine (C2.out _).mono ?_); rintro e w1 ⟨rfl, rfl⟩))
  go_ret
  exact ⟨rfl, rfl⟩

/-- The digest of a list, begun at d. -/
def dig1 : Nat → List Int → Nat
  | d, [] => d
  | d, n :: l => dig1 (tied d (W64.u n)) l
theorem dig1_snoc (d : Nat) (l : List Int) (n : Int) : dig1 d (l ++ [n]) = tied (dig1 d l) (W64.u n) := by
  induction l generalizing d with
  | nil => rfl
  | cons a l ih => exact ih _
theorem dig1_lt (d : Nat) (l : List Int) (h : d < 18446744073709551616) : dig1 d l < 18446744073709551616 := by
  induction l generalizing d with
  | nil => exact h
  | cons a l ih => exact ih _ (tie_lt _ _)
def dig (l : List Int) : Nat := dig1 (tied 5840696475078001361 l.length) l
theorem dig1_map (d : Nat) (l : List Int) : dig1 d (l.map fun z => (W64.u z : Int)) = dig1 d l := by
  induction l generalizing d with
  | nil => rfl
  | cons a l ih =>
    show dig1 (tied d (W64.u (W64.u a : Int))) _ = _
    rw [ih, W64.u_nat _ (W64.u_lt a)]; rfl
theorem dig_map (l : List Int) : dig (l.map fun z => (W64.u z : Int)) = dig l := by
  unfold dig; rw [dig1_map, List.length_map]
theorem take_snocS {α : Type} (l : List α) (k : Nat) (d : α) (h : k < l.length) : l.take (k + 1) = l.take k ++ [l.getD k d] := by
  rw [List.take_succ_eq_append_getElem h]; simp [h]
/-- All numbers are of 64 bits. -/
def U64s (l : List Int) : Prop := ∀ z ∈ l, 0 ≤ z ∧ z < 18446744073709551616
theorem U64s.get {l : List Int} (h : U64s l) (k : Nat) (hk : k < l.length) : ((W64.u (l.getD k 0) : Nat) : Int) = l.getD k 0 := by
  have hm : l.getD k 0 ∈ l := by simp [hk]
  obtain ⟨h1, h2⟩ := h _ hm
  unfold W64.u; omega

set_option maxHeartbeats 4000000 in
theorem sum_Words (a : Option Addr) (cap : Nat) (l : List Int) (hl : l.length ≤ 9223372036854775807) (hu : U64s l) (w : World) (hin : Mem.IntsAt .u64 w a l) :
    Calls Try.prog 47 #[.slice a l.length cap] w fun e w' => e = .returned (.int .u64 (dig l : Nat)) ∧ w = w' := by
  obtain ⟨n, hn⟩ : ∃ n, n = l.length := ⟨_, rfl⟩
  rw [← hn]
  have HN := Lib.hid hn
  have un : IntKind.u64.wrap (n : Int) = n := W64.u_in n (by omega)
  have cj := sum_Join 5840696475078001361 n (by omega) (by omega) w
  obtain ⟨D, hD⟩ : ∃ D, D = tied 5840696475078001361 n := ⟨_, rfl⟩
  rw [← hD] at cj
  have lD : D < 18446744073709551616 := by rw [hD]; exact tie_lt _ _
  have HD := Lib.hid hD
  have CJ := Lib.hid cj
  have HI := Lib.hid hin
  have h63 : n ≤ 9223372036854775807 := by omega
  have HU := Lib.hid hu
  clear hin hn hl cj hD hu
  go_enter Try.func47, Try.ntmps47
  go_wp2_with (go_at_call 75; refine (CJ.out).mono ?_; rintro e w1 ⟨rfl, rfl⟩)
  clear un
  go_loopg [3, 5, 12] n (fun gk vs _ vi wx => ∃ k : Nat, k ≤ n ∧ gk = n - k ∧ vi = .int .i64 k ∧ vs = .int .u64 (dig1 D (l.take k) : Nat) ∧ wx = w)
  case atStart => exact ⟨0, by omega, rfl, rfl, rfl, rfl⟩
  case round =>
    obtain ⟨k, h1, h2, rfl, rfl, rfl⟩ := hrel
    have H2 := Lib.hid h2
    clear h2
    have lS := dig1_lt D (l.take k) (by omega)
    by_cases hlt : k < n
    · obtain ⟨x, rfl, hx, hc⟩ := HI.out (by rw [← HN.out]; omega)
      have hcell := hc k (by rw [← HN.out]; omega)
      have hz := HU.out.get k (by rw [← HN.out]; omega)
      obtain ⟨S, hS⟩ : ∃ S, S = dig1 D (l.take k) := ⟨_, rfl⟩
      obtain ⟨Z, hZ⟩ : ∃ Z, Z = W64.u (l.getD k 0) := ⟨_, rfl⟩
      have lZ : Z < 18446744073709551616 := by rw [hZ]; exact W64.u_lt _
      rw [← hz, ← hZ] at hcell
      rw [← hS] at lS ⊢
      have HS := Lib.hid hS
      have HZ := Lib.hid hZ
      have ct := sum_Join S Z lS lZ wr
      obtain ⟨T, hT⟩ : ∃ T, T = tied S Z := ⟨_, rfl⟩
      rw [← hT] at ct
      have HT := Lib.hid hT
      have CT := Lib.hid ct
      clear hc hS hz hT hZ ct
      go_wp2_with (go_at_call 75; refine (CT.out).mono ?_; rintro e w1 ⟨rfl, rfl⟩)
      go_roundg (n - (k + 1))
      case measure => rw [H2.out]; omega
      case rel => exact ⟨k + 1, by omega, rfl, by go_num, by rw [take_snocS l k 0 (by rw [← HN.out]; omega), dig1_snoc, ← HS.out, ← HZ.out, ← HT.out], rfl⟩
    · obtain rfl : k = n := by omega
      have eS : dig1 D (l.take k) = dig l := by rw [List.take_of_length_le (by rw [← HN.out]; omega), dig, ← HN.out, HD.out]
      rw [eS]
      clear eS
      go_wp2
      go_ret
      exact ⟨rfl, rfl⟩

end Go.Proofs.Ytfckbkhnelgjbaa
end
/- sum.Bytes; the reference's ByteDigest. -/
section
namespace Go.Proofs.Ytfckbkhnelgjbaa
open Go.ChangeShapes Go.WideShapes Go.ChangeAt Go.RowKit Go.Mem
set_option linter.unusedVariables false

/-- The number of bytes, the lowest one first. -/
def le : List Int → Nat
  | [] => 0
  | c :: r => c.toNat + 256 * le r
def U8s (l : List Int) : Prop := ∀ z ∈ l, 0 ≤ z ∧ z < 256
theorem le_snoc (l : List Int) (c : Int) : le (l ++ [c]) = le l + 256 ^ l.length * c.toNat := by
  induction l with
  | nil => simp [le]
  | cons a l ih =>
    show a.toNat + 256 * le (l ++ [c]) = a.toNat + 256 * le l + _
    rw [ih, List.length_cons, Nat.pow_succ, Nat.mul_add, Nat.mul_comm (256 ^ l.length) 256, Nat.mul_assoc]; omega
theorem le_lt (l : List Int) (h : U8s l) : le l < 256 ^ l.length := by
  induction l with
  | nil => simp [le]
  | cons a l ih =>
    have h1 := ih fun z hz => h z (List.mem_cons_of_mem _ hz)
    have h2 := h a (List.mem_cons_self ..)
    show a.toNat + 256 * le l < 256 ^ (l.length + 1)
    rw [Nat.pow_succ]; omega
/-- One chunk of 8 behind the other. -/
def bd : Nat → Nat → List Int → Nat
  | 0, d, _ => d
  | j + 1, d, l => bd j (tied d (le (l.take 8))) (l.drop 8)
theorem bd_lt (j d : Nat) (l : List Int) (h : d < 18446744073709551616) : bd j d l < 18446744073709551616 := by
  induction j generalizing d l with
  | zero => exact h
  | succ j ih => exact ih _ _ (tie_lt _ _)
theorem bd_succ (j d : Nat) (l : List Int) : bd (j + 1) d l = tied (bd j d l) (le ((l.drop (8 * j)).take 8)) := by
  induction j generalizing d l with
  | zero => rfl
  | succ j ih =>
    show bd (j + 1) (tied d (le (l.take 8))) (l.drop 8) = _
    rw [ih, List.drop_drop]
    show tied (bd (j + 1) d l) _ = _
    rw [show 8 + 8 * j = 8 * (j + 1) by omega]
def bdig (l : List Int) : Nat := bd ((l.length + 7) / 8) (tied 11170449401992604703 l.length) l

theorem pow8 (i : Nat) : (2 : Int) ^ (8 * i) = ((256 ^ i : Nat) : Int) := by
  rw [Int.pow_mul, Int.natCast_pow]; rfl
theorem byte_lt (z i : Nat) (hz : z < 256) (hi : i < 8) : 256 ^ i * z < 18446744073709551616 := by
  have h1 : 256 ^ i ≤ 256 ^ 7 := Nat.pow_le_pow_right (by omega) (by omega)
  have h2 : 256 ^ i * z ≤ 256 ^ 7 * 255 := Nat.mul_le_mul h1 (by omega)
  have h3 : 256 ^ 7 * 255 < 18446744073709551616 := by decide
  omega
theorem byte_shl (z i : Nat) (hz : z < 256) (hi : i < 8) : IntKind.u64.wrap ((z : Int) * 2 ^ (8 * i)) = ((256 ^ i * z : Nat) : Int) := by
  have h := byte_lt z i hz hi
  rw [pow8, ← Int.natCast_mul, Nat.mul_comm]
  exact W64.u_in _ h
theorem byte_or (W z i : Nat) (hW : W < 256 ^ i) (hz : z < 256) (hi : i < 8) : bits .or .u64 (W : Int) ((256 ^ i * z : Nat) : Int) = ((W + 256 ^ i * z : Nat) : Int) := by
  have h := byte_lt z i hz hi
  have h1 : 256 ^ i ≤ 256 ^ 7 := Nat.pow_le_pow_right (by omega) (by omega)
  have h3 : 256 ^ 7 < 18446744073709551616 := by decide
  rw [W64.bits_or_u64 W _ (by omega) h]
  congr 1
  have e : 256 ^ i * z = z <<< (8 * i) := by rw [Nat.shiftLeft_eq, Nat.pow_mul, Nat.mul_comm]
  have e2 : W < 2 ^ (8 * i) := by rw [Nat.pow_mul]; exact hW
  rw [e, Nat.or_comm, ← Nat.shiftLeft_add_eq_or_of_lt e2, Nat.add_comm]

set_option maxHeartbeats 4000000 in
theorem sum_Bytes (a : Option Addr) (cap : Nat) (l : List Int) (hcap : l.length ≤ cap) (hl : cap ≤ 140737488355328) (hu : U8s l) (w : World) (hin : Mem.IntsAt .u8 w a l) :
    Calls Try.prog 48 #[.slice a l.length cap] w fun e w' => e = .returned (.int .u64 (bdig l : Nat)) ∧ Below w.heap.size w w' := by
  obtain ⟨n, hn⟩ : ∃ n, n = l.length := ⟨_, rfl⟩
  rw [← hn] at hcap ⊢
  have HN := Lib.hid hn
  have un : IntKind.u64.wrap (n : Int) = n := W64.u_in n (by omega)
  have cj := sum_Join 11170449401992604703 n (by omega) (by omega) w
  obtain ⟨D, hD⟩ : ∃ D, D = tied 11170449401992604703 n := ⟨_, rfl⟩
  rw [← hD] at cj
  have lD : D < 18446744073709551616 := by rw [hD]; exact tie_lt _ _
  have HD := Lib.hid hD
  have CJ := Lib.hid cj
  have HI := Lib.hid hin
  have HU := Lib.hid hu
  clear hin hn cj hD hu
  go_enter Try.func48, Try.ntmps48
  go_wp2_with (go_at_call 75; refine (CJ.out).mono ?_; rintro e w1 ⟨rfl, rfl⟩)
  clear un
  go_loopg [0, 3, 4, 5, 6] n (fun gk vb vs _ _ _ wx => ∃ (j : Nat) (b : Option Addr) (c : Nat), 8 * j < n + 8 ∧ gk = n - 8 * j ∧ vs = .int .u64 (bd j D l : Nat) ∧ vb = .slice b (n - 8 * j) c ∧ n - 8 * j ≤ c ∧ c ≤ 140737488355328 ∧ IntsAt .u8 wx b (l.drop (8 * j)) ∧ Below w.heap.size w wx)
  case atStart => exact ⟨0, a, cap, by omega, rfl, rfl, by simp, by omega, hl, by rw [Nat.mul_zero, List.drop_zero]; exact HI.out, Below.refl _ _⟩
  case round =>
    obtain ⟨j, b, c, h1, h2, rfl, rfl, h3, h4, h5, hb⟩ := hrel
    have H2 := Lib.hid h2
    have H5 := Lib.hid h5
    clear h2 h5
    have lS := bd_lt j D l (by omega)
    obtain ⟨S, hS⟩ : ∃ S, S = bd j D l := ⟨_, rfl⟩
    rw [← hS] at lS ⊢
    have HS := Lib.hid hS
    clear hS
    obtain ⟨r, hr⟩ : ∃ r, r = n - 8 * j := ⟨_, rfl⟩
    rw [← hr] at h3 ⊢
    have HR := Lib.hid hr
    clear hr
    by_cases hlt : 0 < r
    · obtain ⟨ch, hch⟩ : ∃ ch, ch = (l.drop (8 * j)).take 8 := ⟨_, rfl⟩
      have hcl : ch.length = min r 8 := by rw [hch, List.length_take, List.length_drop, ← HN.out, ← HR.out]; omega
      have hci : IntsAt .u8 wr b ch := by rw [hch]; exact H5.out.take 8
      have hcu : U8s ch := fun z hz => HU.out z (by rw [hch] at hz; exact List.mem_of_mem_drop (List.mem_of_mem_take hz))
      have HCH := Lib.hid hch
      have HCI := Lib.hid hci
      have HCU := Lib.hid hcu
      have HCL := Lib.hid hcl
      clear hch hci hcu hcl
      by_cases h8 : (r : Int) ≤ 8
      · obtain ⟨gk_, hgk_⟩ : ∃ q, q = gk := ⟨_, rfl⟩
        subst hgk_
        go_wp2_with fail

        go_loopg [4, 5, 6, 20] r (fun gi vw _ _ vi wx => ∃ i : Nat, i ≤ r ∧ gi = r - i ∧ vi = .int .i64 i ∧ vw = .int .u64 (le (ch.take i) : Nat) ∧ wx = wr)
        case atStart => exact ⟨0, by omega, rfl, rfl, rfl, rfl⟩
        case round =>
          obtain ⟨i, g1, g2, rfl, rfl, rfl⟩ := hrel
          have G2 := Lib.hid g2
          clear g2
          by_cases hli : i < r
          · obtain ⟨x, rfl, hx, hc⟩ := HCI.out (by rw [HCL.out]; omega)
            have hcell := hc i (by rw [HCL.out]; omega)
            have hcb := HCU.out (ch.getD i 0) (by have := HCL.out; have h3 : i < ch.length := by omega
                                                  simp [h3])
            obtain ⟨z, hz⟩ : ∃ z : Nat, (z : Int) = ch.getD i 0 := ⟨(ch.getD i 0).toNat, by omega⟩
            rw [← hz] at hcell hcb
            have lz : z < 256 := by omega
            obtain ⟨W, hW⟩ : ∃ W, W = le (ch.take i) := ⟨_, rfl⟩
            have lW : W < 256 ^ i := by
              have h3 := le_lt (ch.take i) (fun q hq => HCU.out q (List.mem_of_mem_take hq))
              rw [List.length_take, Nat.min_eq_left (by rw [HCL.out]; omega), ← hW] at h3
              exact h3
            have uz : IntKind.u64.wrap (z : Int) = z := W64.u_in z (by omega)
            have b1 := byte_shl z i lz (by omega)
            have b2 := byte_or W z i lW lz (by omega)
            have l7 := byte_lt z i lz (by omega)
            obtain ⟨V, hV⟩ : ∃ V, V = 256 ^ i * z := ⟨_, rfl⟩
            rw [← hV] at b1 b2 l7
            rw [← hW]
            have nx : le (ch.take (i + 1)) = W + V := by
              rw [take_snocS ch i 0 (by rw [HCL.out]; omega), le_snoc, List.length_take, Nat.min_eq_left (by rw [HCL.out]; omega), ← hz, ← hW, hV]; rfl
            have NX := Lib.hid nx
            clear hc hcb hz hV hW nx lW
            go_wp2
            go_roundg (r - (i + 1))
            case measure => rw [G2.out]; omega
            case rel => exact ⟨i + 1, by omega, rfl, by go_num, by rw [NX.out]; go_num, rfl⟩
          · obtain rfl : i = r := by omega
            have ew : ch.take i = ch := List.take_of_length_le (by rw [HCL.out]; omega)
            rw [ew]
            have lW : le ch < 18446744073709551616 := by
              have h3 := le_lt ch HCU.out
              have h4 : 256 ^ ch.length ≤ 256 ^ 8 := Nat.pow_le_pow_right (by omega) (by rw [HCL.out]; omega)
              have h5 : 256 ^ 8 = 18446744073709551616 := by decide
              omega
            obtain ⟨W, hW⟩ : ∃ W, W = le ch := ⟨_, rfl⟩
            rw [← hW] at lW ⊢
            have ct := sum_Join S W lS lW
            obtain ⟨T, hT⟩ : ∃ T, T = tied S W := ⟨_, rfl⟩
            rw [← hT] at ct
            have ct2 : ∀ w : World, Calls Try.prog 75 #[.int .u64 S, .int .u64 W] w fun e w' => e = .returned (.int .u64 (T : Nat)) ∧ w' = w := fun w => (ct w).mono fun e w' h => ⟨h.1, h.2.symm⟩
            have CT := Lib.hid ct2
            have tn : bd (j + 1) D l = T := by rw [bd_succ, ← HS.out, ← HCH.out, ← hW, hT]
            have TN := Lib.hid tn
            have ni : IntsAt .u8 wr (if c = i then b else b.map (·.add i)) (l.drop (8 * (j + 1))) := by
              have h := H5.out.cut i c (by rw [List.length_drop, ← HN.out, ← HR.out]; omega)
              rw [List.drop_drop] at h
              rw [show l.drop (8 * j + i) = l.drop (8 * (j + 1)) by rw [List.drop_eq_nil_of_le (by rw [← HN.out]; have := HR.out; omega), List.drop_eq_nil_of_le (by rw [← HN.out]; have := HR.out; omega)]] at h
              exact h
            have NI := Lib.hid ni
            have hk : 8 * (j + 1) < n + 8 := by have := HR.out; omega
            have hr2 : n - 8 * (j + 1) = 0 := by have := HR.out; omega
            have HR2 := Lib.hid hr2
            have HR3 := Lib.hid (show gk_ = i by rw [H2.out, ← HR.out])
            have HK := Lib.hid hk
            clear ct ct2 hW hT ni ew tn hk hr2 G2 H2
            by_cases hcm : c = i
            all_goals
              go_wp2
              go_quiet ((go_at_call 75; exact Calls.quiet_of_same (CT.out _)))
              go_wp2
              go_roundg (n - 8 * (j + 1))
              case measure => rw [HR3.out]; have := HR2.out; omega
              case rel =>
                have h := NI.out
                (first | rw [if_pos hcm] at h | rw [if_neg hcm] at h)
                exact ⟨j + 1, _, _, HK.out, rfl, by rw [TN.out], (by rw [HR2.out]; first | done | rfl), by have := HR2.out; omega, by omega, h, below_drewN hb _⟩
      · obtain ⟨gk_, hgk_⟩ : ∃ q, q = gk := ⟨_, rfl⟩
        subst hgk_
        have h8' : (8 : Int) < r := by omega
        go_wp2_with fail
        try simp only [show max (8 : Int) 0 = 8 from rfl]
        go_loopg [4, 5, 6, 20] 8 (fun gi vw _ _ vi wx => ∃ i : Nat, i ≤ 8 ∧ gi = 8 - i ∧ vi = .int .i64 i ∧ vw = .int .u64 (le (ch.take i) : Nat) ∧ wx = wr)
        case atStart => exact ⟨0, by omega, rfl, rfl, rfl, rfl⟩
        case round =>
          obtain ⟨i, g1, g2, rfl, rfl, rfl⟩ := hrel
          have G2 := Lib.hid g2
          clear g2
          by_cases hli : i < 8
          · obtain ⟨x, rfl, hx, hc⟩ := HCI.out (by rw [HCL.out]; omega)
            have hcell := hc i (by rw [HCL.out]; omega)
            have hcb := HCU.out (ch.getD i 0) (by have := HCL.out; have h3 : i < ch.length := by omega
                                                  simp [h3])
            obtain ⟨z, hz⟩ : ∃ z : Nat, (z : Int) = ch.getD i 0 := ⟨(ch.getD i 0).toNat, by omega⟩
            rw [← hz] at hcell hcb
            have lz : z < 256 := by omega
            obtain ⟨W, hW⟩ : ∃ W, W = le (ch.take i) := ⟨_, rfl⟩
            have lW : W < 256 ^ i := by
              have h3 := le_lt (ch.take i) (fun q hq => HCU.out q (List.mem_of_mem_take hq))
              rw [List.length_take, Nat.min_eq_left (by rw [HCL.out]; omega), ← hW] at h3
              exact h3
            have uz : IntKind.u64.wrap (z : Int) = z := W64.u_in z (by omega)
            have b1 := byte_shl z i lz (by omega)
            have b2 := byte_or W z i lW lz (by omega)
            have l7 := byte_lt z i lz (by omega)
            obtain ⟨V, hV⟩ : ∃ V, V = 256 ^ i * z := ⟨_, rfl⟩
            rw [← hV] at b1 b2 l7
            rw [← hW]
            have nx : le (ch.take (i + 1)) = W + V := by
              rw [take_snocS ch i 0 (by rw [HCL.out]; omega), le_snoc, List.length_take, Nat.min_eq_left (by rw [HCL.out]; omega), ← hz, ← hW, hV]; rfl
            have NX := Lib.hid nx
            clear hc hcb hz hV hW nx lW
            go_wp2
            go_roundg (8 - (i + 1))
            case measure => rw [G2.out]; omega
            case rel => exact ⟨i + 1, by omega, rfl, by go_num, by rw [NX.out]; go_num, rfl⟩
          · obtain rfl : i = 8 := by omega
            have ew : ch.take 8 = ch := List.take_of_length_le (by rw [HCL.out]; omega)
            rw [ew]
            have lW : le ch < 18446744073709551616 := by
              have h3 := le_lt ch HCU.out
              have h4 : 256 ^ ch.length ≤ 256 ^ 8 := Nat.pow_le_pow_right (by omega) (by rw [HCL.out]; omega)
              have h5 : 256 ^ 8 = 18446744073709551616 := by decide
              omega
            obtain ⟨W, hW⟩ : ∃ W, W = le ch := ⟨_, rfl⟩
            rw [← hW] at lW ⊢
            have ct := sum_Join S W lS lW
            obtain ⟨T, hT⟩ : ∃ T, T = tied S W := ⟨_, rfl⟩
            rw [← hT] at ct
            have ct2 : ∀ w : World, Calls Try.prog 75 #[.int .u64 S, .int .u64 W] w fun e w' => e = .returned (.int .u64 (T : Nat)) ∧ w' = w := fun w => (ct w).mono fun e w' h => ⟨h.1, h.2.symm⟩
            have CT := Lib.hid ct2
            have tn : bd (j + 1) D l = T := by rw [bd_succ, ← HS.out, ← HCH.out, ← hW, hT]
            have TN := Lib.hid tn
            have ni : IntsAt .u8 wr (if c = 8 then b else b.map (·.add 8)) (l.drop (8 * (j + 1))) := by
              have h := H5.out.cut 8 c (by rw [List.length_drop, ← HN.out, ← HR.out]; omega)
              rw [List.drop_drop] at h
              rw [show 8 * j + 8 = 8 * (j + 1) by omega] at h
              exact h
            have NI := Lib.hid ni
            have hk : 8 * (j + 1) < n + 8 := by have := HR.out; omega
            have hr2 : n - 8 * (j + 1) = r - 8 := by have := HR.out; omega
            have HR2 := Lib.hid hr2
            have HR3 := Lib.hid (show gk_ = r by rw [H2.out, ← HR.out])
            have HK := Lib.hid hk
            clear ct ct2 hW hT ni ew tn hk hr2 G2 H2
            by_cases hcm : c = 8
            all_goals
              go_wp2
              go_quiet ((go_at_call 75; exact Calls.quiet_of_same (CT.out _)))
              go_wp2
              go_roundg (n - 8 * (j + 1))
              case measure => rw [HR3.out]; have := HR2.out; omega
              case rel =>
                have h := NI.out
                (first | rw [if_pos hcm] at h | rw [if_neg hcm] at h)
                exact ⟨j + 1, _, _, HK.out, rfl, by rw [TN.out], (by rw [HR2.out]; first | done | rfl), by have := HR2.out; omega, by omega, h, below_drewN hb _⟩
    · obtain rfl : r = 0 := by omega
      have hj : j = (n + 7) / 8 := by have := HR.out; omega
      have ed : bdig l = S := by rw [bdig, ← HN.out, ← hj, ← HD.out, ← HS.out]
      have ED := Lib.hid ed
      clear ed hj H2 H5
      go_wp2
      go_ret
      exact ⟨by rw [ED.out]; rfl, hb⟩
end Go.Proofs.Ytfckbkhnelgjbaa
end
