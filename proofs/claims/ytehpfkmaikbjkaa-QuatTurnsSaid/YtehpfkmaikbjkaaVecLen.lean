/- vec: mag, length, through, Len, Unit. -/
import Derived.Test.YtehpfkmaikbjkaaEven
import Derived.BigQuiet
import Derived.Deep.QuietTactic
namespace Go.Proofs.Ytehpfkmaikbjkaa
open Go.ChangeShapes Go.WideShapes Go.ChangeAt Go.RowKit Go.Mem Go.Nb
set_option linter.unusedVariables false
theorem vec_mag (a : Int) (h1 : -4611686018427387904 ≤ a) (h2 : a ≤ 4611686018427387904) (w : World) : Calls Try.prog 76 #[.int .i64 a] w fun e w' => e = .returned (.int .u64 (a.natAbs : Int)) ∧ w = w' := by
  obtain ⟨m, hm⟩ : ∃ m, m = max a (-a) := ⟨_, rfl⟩
  have hmx : max a (-a) = m := hm.symm
  have hb : 0 ≤ m ∧ m ≤ 4611686018427387904 := by omega
  have HM := Lib.hid (show m = (a.natAbs : Int) by omega)
  clear hm
  go_enter Try.func76, Try.ntmps76
  go_wp2
  go_ret
  exact ⟨ret_i HM.out, rfl⟩
theorem words_sum (A B H1 L1 H2 L2 lo c hi : Nat) (h1 : H1 = A / 18446744073709551616) (l1 : L1 = A % 18446744073709551616) (h2 : H2 = B / 18446744073709551616) (l2 : L2 = B % 18446744073709551616) (hlo : lo = (L1 + L2) % 18446744073709551616) (hc : c = (L1 + L2) / 18446744073709551616) (hhi : hi = H1 + H2 + c) : ((hi : Int) * 18446744073709551616 + lo).toNat = A + B := by
  have hN : hi * 18446744073709551616 + lo = A + B := by omega
  have : ((hi : Int) * 18446744073709551616 + lo) = ((A + B : Nat) : Int) := by rw [← hN, Int.natCast_add, Int.natCast_mul]; rfl
  rw [this, Int.toNat_natCast]
theorem natAbs_sq (x : Int) : ((x.natAbs * x.natAbs : Nat) : Int) = x * x := by
  rw [Int.natCast_mul]
  rcases Int.natAbs_eq x with h | h
  · rw [← h]
  · conv => rhs; rw [h]
    rw [Int.neg_mul_neg]
set_option maxHeartbeats 1000000 in
theorem vec_length (x y : Int) (hx : -1099511627776 ≤ x ∧ x ≤ 1099511627776) (hy : -1099511627776 ≤ y ∧ y ≤ 1099511627776) (w : World) : Calls Try.prog 70 #[.int .i64 x, .int .i64 y] w fun e w' => e = .returned (.int .i64 (long [x, y])) ∧ w = w' := by
  have bx := sq_bd x 1099511627776 hx.1 hx.2
  have byy := sq_bd y 1099511627776 hy.1 hy.2
  have ex := natAbs_sq x
  have ey := natAbs_sq y
  obtain ⟨A, hA⟩ : ∃ A, A = x.natAbs * x.natAbs := ⟨_, rfl⟩
  obtain ⟨B, hB⟩ : ∃ B, B = y.natAbs * y.natAbs := ⟨_, rfl⟩
  rw [← hA] at ex
  rw [← hB] at ey
  have hlong : long [x, y] = (rt (A + B) : Nat) := by
    unfold long
    simp only [sumsq, Int.zero_add]
    rw [show (y * y + x * x).toNat = A + B by omega]
  have hlb := long_bd [x, y] (fun z hz => by simp at hz; rcases hz with rfl | rfl <;> assumption) (by simp)
  have hmx : ∀ w, Calls Try.prog 20 #[.int .u64 (x.natAbs : Int), .int .u64 (x.natAbs : Int)] w fun e w' => e = .returned (.tuple #[.int .u64 ((A / 18446744073709551616 : Nat) : Int), .int .u64 ((A % 18446744073709551616 : Nat) : Int)]) ∧ w = w' := fun w => by
    rw [hA]; exact bits_Mul64 x.natAbs x.natAbs (by omega) (by omega) w
  have hmy : ∀ w, Calls Try.prog 20 #[.int .u64 (y.natAbs : Int), .int .u64 (y.natAbs : Int)] w fun e w' => e = .returned (.tuple #[.int .u64 ((B / 18446744073709551616 : Nat) : Int), .int .u64 ((B % 18446744073709551616 : Nat) : Int)]) ∧ w = w' := fun w => by
    rw [hB]; exact bits_Mul64 y.natAbs y.natAbs (by omega) (by omega) w
  obtain ⟨H1, h1⟩ : ∃ H, H = A / 18446744073709551616 := ⟨_, rfl⟩
  obtain ⟨L1, l1⟩ : ∃ L, L = A % 18446744073709551616 := ⟨_, rfl⟩
  obtain ⟨H2, h2⟩ : ∃ H, H = B / 18446744073709551616 := ⟨_, rfl⟩
  obtain ⟨L2, l2⟩ : ∃ L, L = B % 18446744073709551616 := ⟨_, rfl⟩
  rw [← h1, ← l1] at hmx
  rw [← h2, ← l2] at hmy
  obtain ⟨lo, hlo⟩ : ∃ n : Nat, n = (L1 + L2) % 18446744073709551616 := ⟨_, rfl⟩
  obtain ⟨c, hc⟩ : ∃ n : Nat, n = (L1 + L2) / 18446744073709551616 := ⟨_, rfl⟩
  obtain ⟨hi, hhi⟩ : ∃ n : Nat, n = H1 + H2 + c := ⟨_, rfl⟩
  have A1 : ∀ w, (callFunc 21 #[.int .u64 L1, .int .u64 L2, .int .u64 0]).run Try.prog w = .ok (.value (.tuple #[.int .u64 lo, .int .u64 c])) w := by
    intro w; rw [run_Add64_0 _ _ (by omega) (by omega), show ((L1 : Int) + L2) % 18446744073709551616 = lo by omega, show ((L1 : Int) + L2) / 18446744073709551616 = c by omega]
  have A2 : ∀ w, (callFunc 21 #[.int .u64 H1, .int .u64 H2, .int .u64 c]).run Try.prog w = .ok (.value (.tuple #[.int .u64 hi, .int .u64 0])) w := by
    intro w; rw [run_Add64 _ _ _ (by omega) (by omega) (by omega) (by omega), show ((H1 : Int) + H2 + c) % 18446744073709551616 = hi by omega, show ((H1 : Int) + H2 + c) / 18446744073709551616 = 0 by omega]
  have hroot : ∀ w, Calls Try.prog 19 #[.int .u64 hi, .int .u64 lo] w fun e w' => e = .returned (.int .u64 (long [x, y])) ∧ w = w' := fun w => by
    have := fix_RootI hi lo (by omega) (by omega) (by omega) (by omega) w
    rw [words_sum A B H1 L1 H2 L2 lo c hi h1 l1 h2 l2 hlo hc hhi, ← hlong] at this
    exact this
  obtain ⟨R, hR⟩ : ∃ R, R = long [x, y] := ⟨_, rfl⟩
  rw [← hR] at hlb hroot ⊢
  have HMX := Lib.hid hmx
  have HMY := Lib.hid hmy
  have HRT := Lib.hid hroot
  have X1 : -4611686018427387904 ≤ x ∧ x ≤ 4611686018427387904 := by omega
  have Y1 : -4611686018427387904 ≤ y ∧ y ≤ 4611686018427387904 := by omega
  clear hmx hmy hroot hR hlong ex ey hA hB h1 l1 h2 l2 hlo hc hhi bx byy
  go_enter Try.func70, Try.ntmps70
  go_wp2_with fail
  refine (vec_mag x X1.1 X1.2 _).mono ?_
  rintro e w' ⟨rfl, rfl⟩
  go_wp2_with fail
  refine (vec_mag x X1.1 X1.2 _).mono ?_
  rintro e w' ⟨rfl, rfl⟩
  go_wp2_with fail
  refine (HMX.out _).mono ?_
  rintro e w' ⟨rfl, rfl⟩
  go_wp2_with fail
  refine (vec_mag y Y1.1 Y1.2 _).mono ?_
  rintro e w' ⟨rfl, rfl⟩
  go_wp2_with fail
  refine (vec_mag y Y1.1 Y1.2 _).mono ?_
  rintro e w' ⟨rfl, rfl⟩
  go_wp2_with fail
  refine (HMY.out _).mono ?_
  rintro e w' ⟨rfl, rfl⟩
  go_wp2_with fail
  refine (HRT.out _).mono ?_
  rintro e w' ⟨rfl, rfl⟩
  go_wp2
  go_ret
  exact ⟨rfl, rfl⟩
theorem div_cases (n d : Int) (hd : 1 ≤ d) : (0 ≤ n ∧ n.tdiv d = n / d) ∨ (n < 0 ∧ n.tmod d = 0 ∧ n.tdiv d = n / d) ∨ (n < 0 ∧ n.tmod d ≠ 0 ∧ n.tdiv d - 1 = n / d) := by
  have e1 := Int.mul_tdiv_add_tmod n d
  have e2 := Int.mul_ediv_add_emod n d
  have b1 := Int.emod_nonneg n (show d ≠ 0 by omega)
  have b2 := Int.emod_lt_of_pos n (show 0 < d by omega)
  rcases Int.lt_or_le n 0 with h | h
  · right
    have t1 : -d < n.tmod d ∧ n.tmod d ≤ 0 := by
      have h1 := Int.tmod_lt_of_pos (-n) (show 0 < d by omega)
      have h2 := Int.tmod_nonneg (a := -n) d (by omega)
      rw [Int.neg_tmod] at h1 h2
      omega
    by_cases c : n.tmod d = 0
    · left
      refine ⟨h, c, ?_⟩
      rw [c] at e1
      have : d * (n.tdiv d - n / d) = n % d := by rw [Int.mul_sub]; omega
      rcases Int.lt_trichotomy (n.tdiv d - n / d) 0 with q | q | q
      · have : d * (n.tdiv d - n / d) ≤ d * (-1) := Int.mul_le_mul_of_nonneg_left (by omega) (by omega)
        omega
      · omega
      · have : d * 1 ≤ d * (n.tdiv d - n / d) := Int.mul_le_mul_of_nonneg_left (by omega) (by omega)
        omega
    · right
      refine ⟨h, c, ?_⟩
      have : d * (n.tdiv d - n / d) = n % d - n.tmod d := by rw [Int.mul_sub]; omega
      rcases Int.lt_trichotomy (n.tdiv d - n / d) 1 with q | q | q
      · have : d * (n.tdiv d - n / d) ≤ d * 0 := Int.mul_le_mul_of_nonneg_left (by omega) (by omega)
        omega
      · omega
      · have : d * 2 ≤ d * (n.tdiv d - n / d) := Int.mul_le_mul_of_nonneg_left (by omega) (by omega)
        omega
  · left
    exact ⟨h, Int.tdiv_eq_ediv_of_nonneg h⟩
theorem vec_through (x l : Int) (hx : -1099511627776 ≤ x ∧ x ≤ 1099511627776) (h1 : 1 ≤ l) (h2 : l ≤ 2199023255552) (w : World) : Calls Try.prog 77 #[.int .i64 x, .int .i64 l] w fun e w' => e = .returned (.int .i64 (ev1 l x)) ∧ w = w' := by
  have hc := div_cases (2 * x * 65536 + l) (2 * l) (by omega)
  have hev : ev1 l x = (2 * x * 65536 + l) / (2 * l) := rfl
  have heb := ediv_bd (2 * x * 65536 + l) (2 * l) 144115188075855872 144117387099111424 (by omega) (by omega) (by omega) (by omega) (by omega)
  obtain ⟨n, hn⟩ : ∃ n, 2 * x * 65536 + l = n := ⟨_, rfl⟩
  have hnb : -144115188075855872 ≤ n ∧ n ≤ 144117387099111424 := by omega
  obtain ⟨v, hv⟩ : ∃ v, v = n / (2 * l) := ⟨_, rfl⟩
  rw [hn, ← hv] at hev
  rw [hn, ← hv] at heb
  rw [hn, ← hv] at hc
  rw [hev]
  clear hev
  rcases hc with ⟨c1, c2⟩ | ⟨c1, c2, c3⟩ | ⟨c1, c2, c3⟩
  · have c3 : n / (2 * l) = v := hv.symm
    clear hv c2
    go_enter Try.func77, Try.ntmps77
    go_wp2
    go_ret
    exact ⟨rfl, rfl⟩
  · have c4 : (n.tmod (2 * l) != 0) = false := by rw [c2]; rfl
    clear hv c2
    go_enter Try.func77, Try.ntmps77
    go_wp2
    go_ret
    exact ⟨rfl, rfl⟩
  · obtain ⟨t, ht⟩ : ∃ t, n.tdiv (2 * l) = t := ⟨_, rfl⟩
    obtain ⟨u, hu⟩ : ∃ u, n.tmod (2 * l) = u := ⟨_, rfl⟩
    rw [hu] at c2
    rw [ht] at c3
    have c4 : (u != 0) = true := by rw [bne_iff_ne]; exact c2
    have tb : -144115188075855872 ≤ t ∧ t ≤ 144117387099111425 := by omega
    have C3 := Lib.hid c3
    clear hv c2 c3
    go_enter Try.func77, Try.ntmps77
    go_wp2
    go_ret
    exact ⟨ret_i C3.out, rfl⟩

theorem q_same {P : Program} {f : FuncId} {args : Array Value} {w : World} {n : Nat} {v : Value} (h : Calls P f args (w.drewN n) fun e w' => e = .returned v ∧ w.drewN n = w') : Calls P f args (w.drewN n) fun e w'' => e = .returned v ∧ ∃ m, w'' = w.drewN m :=
  h.mono fun _ _ ⟨he, hm⟩ => ⟨he, n, hm.symm⟩
set_option maxHeartbeats 1000000 in
theorem vec_Len (a b : Int) (w : World) : Calls Try.prog 25 #[.agg #[.int .i64 a, .int .i64 b]] w fun e w' => e = .returned (.int .i64 (lim (long [lim a, lim b]))) ∧ Below w.heap.size w w' := by
  go_enter Try.func25, Try.ntmps25
  go_wp2_with fail
  go_quiet ((first | (go_at_call 39; exact q_same (fix_Clamp _ _)) | (go_at_call 70; exact q_same (vec_length _ _ (lim_bd _) (lim_bd _) _))))
  go_wp2
  go_ret
  exact ⟨rfl, below_drewN ((Below.refl _ _).alloc (Nat.le_refl _) _) _⟩
theorem unit_start (w : World) (a b : Int) (nq : Nat) : (((w.alloc (.cells #[.int .i64 a, .int .i64 b] 36)).alloc (.cells #[.int .i64 0, .int .i64 0] 36)).drewN nq).heap[w.heap.size + 1]? = some (.cells #[.int .i64 0, .int .i64 0] 36 (0, 0)) ∧ Below w.heap.size w (((w.alloc (.cells #[.int .i64 a, .int .i64 b] 36)).alloc (.cells #[.int .i64 0, .int .i64 0] 36)).drewN nq) := by
  have h := heap_alloc_new (w.alloc (.cells #[.int .i64 a, .int .i64 b] 36)) (.cells #[.int .i64 0, .int .i64 0] 36)
  rw [World.size_alloc] at h
  exact ⟨h, below_drewN (((Below.refl _ _).alloc (Nat.le_refl _) _).alloc (by simp) _) _⟩
theorem unit_end {w W : World} {g : Nat} {x y u0 u1 : Value} {t : TypeId} (hB : Below w.heap.size w W) (hg : W.heap[g]? = some (.cells #[u0, u1] t (0, 0))) (hge : w.heap.size ≤ g) :
    ((W.setCell ⟨g, 0, none⟩ x).setCell ⟨g, 1, none⟩ y).heap[g]? = some (.cells #[x, y] t (0, 0)) ∧ Below w.heap.size w ((W.setCell ⟨g, 0, none⟩ x).setCell ⟨g, 1, none⟩ y) :=
  ⟨heap_set (heap_set hg 0 x) 1 y, (hB.setCell hge _).setCell hge _⟩
theorem far2 (a b : Int) : farOf [a, b] = max ((lim a).natAbs : Int) ((lim b).natAbs : Int) := by
  have h1 := lim_bd a
  have h2 := lim_bd b
  simp only [farOf, List.foldl_cons, List.foldl_nil]
  omega
set_option maxHeartbeats 4000000 in
set_option maxRecDepth 100000 in
theorem vec_Unit0 (a b : Int) (h : farOf [a, b] = 0) (w : World) : Calls Try.prog 29 #[.agg #[.int .i64 a, .int .i64 b]] w fun e w' => e = .returned (.agg #[.int .i64 0, .int .i64 0]) ∧ Below w.heap.size w w' := by
  rw [far2] at h
  have ha : (lim a == 0) = true := by rw [beq_iff_eq]; omega
  have hb : (lim b == 0) = true := by rw [beq_iff_eq]; omega
  clear h
  go_enter Try.func29, Try.ntmps29
  go_wp2_with fail
  go_quiet ((go_at_call 39; exact q_same (fix_Clamp _ _)))
  go_wp2
  obtain ⟨hr, hB⟩ := unit_end (x := .int .i64 0) (y := .int .i64 0) (unit_start w a b nq).2 (unit_start w a b nq).1 (by omega)
  exact bodyPost_ret (v := .agg #[.int .i64 0, .int .i64 0]) (results_cell_row Try.results29 _ _ (w.heap.size + 1) _ #[.int .i64 0, .int .i64 0] _ _ rfl hr Try.underlying36 rfl (by kernel_rfl)) rfl ⟨rfl, hB⟩
set_option maxHeartbeats 4000000 in
set_option maxRecDepth 100000 in
theorem vec_Unit (a b : Int) (h : 0 < farOf [a, b]) (w : World) : Calls Try.prog 29 #[.agg #[.int .i64 a, .int .i64 b]] w fun e w' => e = .returned (.agg #[.int .i64 (ev1 (long (sced [a, b])) (lim a * scOf [a, b])), .int .i64 (ev1 (long (sced [a, b])) (lim b * scOf [a, b]))]) ∧ Below w.heap.size w w' := by
  have bA := lim_bd a
  have bB := lim_bd b
  have hfar := far2 a b
  obtain ⟨F, hF⟩ : ∃ F, F = farOf [a, b] := ⟨_, rfl⟩
  have hsb := fun m h1 h2 h3 => sced_bd [a, b] m h1 h2 h3
  have hsc : scOf [a, b] = 2 ^ up 30 F := by rw [hF]; rfl
  have hse : sced [a, b] = [lim a * scOf [a, b], lim b * scOf [a, b]] := rfl
  rw [← hF] at h hfar hsb
  have HSC := Lib.hid hsc
  have HSE := Lib.hid hse
  have HSB := Lib.hid hsb
  have hca := fun W => fix_Clamp a W
  have hcb := fun W => fix_Clamp b W
  obtain ⟨A, hA⟩ : ∃ A, A = lim a := ⟨_, rfl⟩
  obtain ⟨B, hB⟩ : ∃ B, B = lim b := ⟨_, rfl⟩
  rw [← hA] at bA hfar hca HSE ⊢
  rw [← hB] at bB hfar hcb HSE ⊢
  have HCA := Lib.hid hca
  have HCB := Lib.hid hcb
  have HFAR := Lib.hid hfar
  have h00 : (A == 0) = true ∧ (B == 0) = false ∨ (A == 0) = false := by
    by_cases c : A = 0
    · left
      refine ⟨by rw [c]; rfl, ?_⟩
      rw [beq_eq_false_iff_ne]; omega
    · right; rw [beq_eq_false_iff_ne]; exact c
  have HH := Lib.hid h00
  clear hsb hsc hse hca hcb hA hB hF hfar h00
  go_enter Try.func29, Try.ntmps29
  go_wp2_with fail
  go_quiet ((first | (go_at_call 39; exact q_same (HCA.out _)) | (go_at_call 39; exact q_same (HCB.out _))))
  obtain ⟨W1, hW1⟩ : ∃ W1, W1 = ((w.alloc (.cells #[.int .i64 a, .int .i64 b] 36)).alloc (.cells #[.int .i64 0, .int .i64 0] 36)).drewN nq := ⟨_, rfl⟩
  have hst := unit_start w a b nq
  rw [← hW1] at hst ⊢
  have HST := Lib.hid hst
  clear hst hW1
  rcases HH.out with ⟨t1, t2⟩ | t1
  all_goals
    go_wp2_with fail
    go_loopg [3, 4] 31 (fun gk vx vy wx => ∃ (j : Nat) (x y m : Int), gk = 31 - j ∧ vx = .int .i64 x ∧ vy = .int .i64 y ∧ x = A * 2 ^ j ∧ y = B * 2 ^ j ∧ m = max (x.natAbs : Int) (y.natAbs : Int) ∧ Upto F m j ∧ wx.heap[w.heap.size + 1]? = some (.cells #[.int .i64 0, .int .i64 0] 36 (0, 0)) ∧ Below w.heap.size w wx)
    case atStart => exact ⟨0, A, B, F, rfl, rfl, rfl, by simp, by simp, HFAR.out, upto_start h, HST.out.1, HST.out.2⟩
    case round =>
      obtain ⟨j, x, y, m, g2, rfl, rfl, hx, hy, hm, hu, hrow, hb⟩ := hrel
      have hmx : max (x.natAbs : Int) (y.natAbs : Int) = m := hm.symm
      have hu2 := hu
      obtain ⟨u1, u2, u3, u4, u5⟩ := hu2
      have hfb : F ≤ 1099511627776 := by have := HFAR.out; omega
      have hm0 : m ≤ 1099511627776 := by
        rcases u5 with h | h
        · omega
        · subst h; simp at u3; omega
      have hxb : -m ≤ x ∧ x ≤ m := by omega
      have hyb : -m ≤ y ∧ y ≤ m := by omega
      have hj30 : j < 31 := by omega
      have G2 := Lib.hid g2
      have HX := Lib.hid hx
      have HY := Lib.hid hy
      have HU := Lib.hid hu
      have HU3 := Lib.hid u3
      have HROW := Lib.hid hrow
      clear g2 hx hy hm hu hrow u1 u2 u3 u4 u5 HST
      by_cases hlt : m < 1073741824
      · go_wp2_with (go_at_call 76; refine (vec_mag _ (by omega) (by omega) _).mono ?_; rintro e w' ⟨rfl, rfl⟩)
        go_roundg (31 - (j + 1))
        case measure => rw [G2.out]; omega
        case rel => exact ⟨j + 1, 2 * x, 2 * y, 2 * m, rfl, rfl, rfl, by rw [HX.out, Int.pow_succ, Int.mul_comm 2, Int.mul_assoc], by rw [HY.out, Int.pow_succ, Int.mul_comm 2, Int.mul_assoc], by omega, upto_step HU.out hlt, HROW.out, hb⟩
      · have hj := upto_stop HU.out (by omega)
        have hs : scOf [a, b] = 2 ^ j := by rw [HSC.out, hj]
        have hse := HSE.out
        rw [hs, ← HX.out, ← HY.out] at hse
        have hbd := HSB.out m (by rw [hs]; exact HU3.out.symm) hm0 (by omega)
        rw [hse] at hbd
        have hL1 := long_pos _ hbd.2
        have hL2 := (long_bd _ hbd.1 (by simp)).2
        have hcl := fun W => vec_length x y (hbd.1 x (by simp)) (hbd.1 y (by simp)) W
        have hxv : A * scOf [a, b] = x := by rw [hs, HX.out]
        have hyv : B * scOf [a, b] = y := by rw [hs, HY.out]
        have hfin : Value.agg #[.int .i64 (ev1 (long (sced [a, b])) (A * scOf [a, b])), .int .i64 (ev1 (long (sced [a, b])) (B * scOf [a, b]))] = .agg #[.int .i64 (ev1 (long [x, y]) x), .int .i64 (ev1 (long [x, y]) y)] := by rw [hxv, hyv, hse]
        have xb := hbd.1 x (by simp)
        have yb := hbd.1 y (by simp)
        obtain ⟨L, hL⟩ : ∃ L, L = long [x, y] := ⟨_, rfl⟩
        rw [← hL] at hL1 hL2 hcl hfin
        have HFIN := Lib.hid hfin
        have HCL := Lib.hid hcl
        have ht1 := fun W => vec_through x L xb hL1 hL2 W
        have ht2 := fun W => vec_through y L yb hL1 hL2 W
        have HT1 := Lib.hid ht1
        have HT2 := Lib.hid ht2
        have hlt' : ¬ m < 1073741824 := hlt
        have hmm : 0 ≤ m := by omega
        clear hfin hj hs hse hbd hcl hxv hyv hL ht1 ht2
        go_wp2_with (first
          | (go_at_call 76; refine (vec_mag _ (by omega) (by omega) _).mono ?_; rintro e w' ⟨rfl, rfl⟩)
          | (go_at_call 70; refine (HCL.out _).mono ?_; rintro e w' ⟨rfl, rfl⟩))
        go_wp2_with fail
        refine (HT1.out _).mono ?_
        rintro e w' ⟨rfl, rfl⟩
        go_wp2_with fail
        refine (HT2.out _).mono ?_
        rintro e w' ⟨rfl, rfl⟩
        have c0 : wr.cell? ⟨w.heap.size + 1, 0, none⟩ = some (.int .i64 0) := by rw [cell_of_row wr _ 0 _ _ _ HROW.out]; rfl
        have c1 : wr.cell? ⟨w.heap.size + 1, 1, none⟩ = some (.int .i64 0) := by rw [cell_of_row wr _ 1 _ _ _ HROW.out]; rfl
        have f0 := Mem.frozen_of_row HROW.out 0
        have f1 := Mem.frozen_of_row HROW.out 1
        go_wp2
        obtain ⟨hr, hB⟩ := unit_end (x := .int .i64 (ev1 L x)) (y := .int .i64 (ev1 L y)) hb HROW.out (by omega)
        exact bodyPost_ret (v := .agg #[.int .i64 (ev1 L x), .int .i64 (ev1 L y)]) (results_cell_row Try.results29 _ _ (w.heap.size + 1) _ #[.int .i64 (ev1 L x), .int .i64 (ev1 L y)] _ _ rfl hr Try.underlying36 rfl (by kernel_rfl)) rfl ⟨by rw [HFIN.out], hB⟩
end Go.Proofs.Ytehpfkmaikbjkaa
