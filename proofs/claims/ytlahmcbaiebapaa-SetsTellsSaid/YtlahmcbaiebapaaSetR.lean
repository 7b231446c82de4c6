/- The reference's Members and SetOf. -/
import Derived.Test.YtlahmcbaiebapaaSetW
import Derived.BigQuiet
import Derived.Deep.QuietTactic
import Derived.RegionTactic
import Derived.ChangeAlike
namespace Go.Proofs.Ytlahmcbaiebapaa
open Go.ChangeShapes Go.WideShapes Go.ChangeAt Go.RowKit Go.Mem Go.Sp
set_option linter.unusedVariables false
/-- An own row of ints. -/
def IntsRes (zs : List Int) (w : World) (e : Ending) (w' : World) : Prop := ∃ v n, zs.length = n ∧ e = .returned v ∧ w'.ownsRow w.heap.size 3 1 v n (vints .i64 zs) ∧ Below w.heap.size w w'
theorem upto_bit {A : List Nat} {k : Nat} (h : bit A k = true) : V (upto A (k + 1)) = V (upto A k) ++ [(k : Int)] := by
  rw [upto_succ, if_pos h]; simp [V]
theorem upto_nobit {A : List Nat} {k : Nat} (h : bit A k = false) : upto A (k + 1) = upto A k := by
  rw [upto_succ, if_neg (by rw [h]; decide)]; simp
theorem bit_read {A : List Nat} {k : Nat} (hk : k < 4096) : bit A k = (A.getD (k / 64) 0).testBit (k % 64) := by
  unfold bit wd; rw [if_pos (by omega)]

set_option maxHeartbeats 4000000 in
theorem ref_Members (A : List Nat) (a : Option Addr) (n c : Nat) (hn : A.length = n) (h1 : n ≤ 17592186044416) (ha : Words A) (w : World) (hz : SetAt w a A) :
    Calls Try.prog 11 #[.slice a n c] w (IntsRes (V (els A)) w) := by
  have HN := Lib.hid hn
  have HA := Lib.hid ha
  have HZ := Lib.hid hz
  obtain ⟨N, hN⟩ : ∃ N : Nat, N = 4096 := ⟨_, rfl⟩
  have hlast : upto A N = els A := by rw [hN]; rfl
  have HL := Lib.hid hlast
  have HNN := Lib.hid hN
  clear hn ha hz hN hlast
  go_enter Try.func11, Try.ntmps11
  go_wp2_with fail
  go_loopg [3, 4, 5] N (fun gk v3 _ vi wx => ∃ (k : Nat), k ≤ N ∧ gk = N - k ∧ vi = .int .i64 k ∧ wx.ownsRow w.heap.size 3 1 v3 (upto A k).length (vints .i64 (V (upto A k))) ∧ Below w.heap.size w wx)
  case atStart => exact ⟨0, Nat.zero_le _, rfl, rfl, World.ownsRow_nil _ _ _ _, Below.refl _ _⟩
  case round =>
    obtain ⟨k, hk, g2, rfl, hown, hbw⟩ := hrel
    have G2 := Lib.hid g2
    have HOWN := Lib.hid hown
    clear g2 hown
    by_cases hlt : k < N
    · have hk4 : k < 4096 := by have := HNN.out; omega
      have t0 : decide ((k : Int) < 4096) = true := by simp; omega
      obtain ⟨q, hq⟩ : ∃ q, q = k / 64 := ⟨_, rfl⟩
      obtain ⟨r, hr⟩ : ∃ r, r = k % 64 := ⟨_, rfl⟩
      have hr64 : r < 64 := by omega
      have hq64 : q < 64 := by omega
      have eq1 : (k : Int) / 64 = (q : Int) := by omega
      have er1 : (k : Int) % 64 = (r : Int) := by omega
      have er2 : (k : Int).tmod 64 = (r : Int) := by rw [Int.tmod_eq_emod_of_nonneg (by omega)]; exact er1
      have hbr := bit_read (A := A) hk4
      rw [← hq, ← hr] at hbr
      have HK := Lib.hid (show k ≤ 4095 by omega)
      have HLEN := Lib.hid (upto_length A k (by omega))
      clear hq hr hk4
      by_cases hqn : q < n
      · obtain ⟨x, rfl, hx, hc⟩ := (HZ.out.below hbw).read (k := q) (by rw [HN.out]; exact hqn)
        obtain ⟨X, hX⟩ : ∃ X, X = A.getD q 0 := ⟨_, rfl⟩
        rw [← hX] at hc hbr
        have hX64 : X < 18446744073709551616 := by rw [hX]; exact HA.out.getD q
        have tq : decide ((q : Int) < (n : Int)) = true := by simp; omega
        have q0 : (0 : Int) ≤ (q : Int) := by omega
        have q1 : (q : Int) < (n : Int) := by omega
        have hpw := lt64 hr64
        obtain ⟨P, hP⟩ : ∃ P, P = 2 ^ r := ⟨_, rfl⟩
        obtain ⟨Y, hY⟩ : ∃ Y, Y = X / 2 ^ r := ⟨_, rfl⟩
        have e1 : IntKind.u64.wrap ((2 : Int) ^ r) = (P : Int) := by
          have e : ((2 : Int) ^ r) = ((2 ^ r : Nat) : Int) := by simp
          rw [e, W64.u_in _ hpw, hP]
        have e2 : (X : Int) / (P : Int) = (Y : Int) := by rw [hP, hY]; simp
        have P0 : (P : Int) ≠ 0 := by have := Nat.two_pow_pos r; omega
        have hY64 : Y < 18446744073709551616 := by rw [hY]; exact Nat.lt_of_le_of_lt (Nat.div_le_self _ _) hX64
        have e3 : IntKind.u64.wrap (Y : Int) = (Y : Int) := W64.u_in Y hY64
        have hT : Y % 2 = (bit A k).toNat := by rw [hY, bit_num, hbr]
        have e4 : (Y : Int).tmod 2 = ((bit A k).toNat : Int) := by rw [Int.tmod_eq_emod_of_nonneg (by omega), ← hT]; omega
        cases hbb : bit A k with
        | true =>
          have HB := Lib.hid hbb
          rw [hbb] at e4
          have e5 : (Y : Int).tmod 2 = 1 := e4
          clear hbb hX hP hY hqn hbr hT e4
          go_wp2_with fail
          go_quiet (fail)
          have HE := Lib.hid hbw.size
          go_wp2_with (at_builtin; go_must (refine wpList_append_new rfl _ _ 23 rfl w.heap.size 3 (.int .i64 0) 1 8 Try.underlying23 (by kernel_rfl) rfl (by decide) _ _ _ rfl HOWN.out _ _ rfl rfl rfl (by have := HLEN.out; have := HK.out; omega) (by decide) HE.out ?_))
          intro g2 cap w2 hown2 hg2 _ _
          rw [vints_snoc, ← upto_bit HB.out] at hown2
          have hb2 : Below w.heap.size w w2 := (below_drewN hbw nq).grown hg2 HE.out (fun j hj => (own_lt HOWN.out j hj).1)
          have HOWN2 := Lib.hid hown2
          have HLE := Lib.hid (show (upto A (k + 1)).length = (upto A k).length + 1 by rw [upto_succ, if_pos HB.out]; simp)
          clear hown2 hg2
          go_wp2_with fail
          go_roundg (N - (k + 1))
          case measure => rw [G2.out]; omega
          case rel => exact ⟨k + 1, by omega, rfl, by go_num, by rw [HLE.out]; exact HOWN2.out, hb2⟩
        | false =>
          have HB := Lib.hid hbb
          rw [hbb] at e4
          have e5 : (Y : Int).tmod 2 = 0 := e4
          clear hbb hX hP hY hqn hbr hT e4
          go_wp2_with fail
          go_quiet (fail)
          go_wp2_with fail
          go_roundg (N - (k + 1))
          case measure => rw [G2.out]; omega
          case rel => exact ⟨k + 1, by omega, rfl, by go_num, by rw [upto_nobit HB.out]; exact HOWN.out, below_drewN hbw _⟩
      · have tq : decide ((q : Int) < (n : Int)) = false := by simp; omega
        have HB := Lib.hid (show bit A k = false by
          rw [hbr, List.getD_eq_getElem?_getD, List.getElem?_eq_none (by rw [HN.out]; omega)]; simp)
        have tq2 : decide (q < n) = false := by simp; omega
        have q0 : (0 : Int) ≤ (q : Int) := by omega
        have q2 : IntKind.i64.wrap (q : Int) = (q : Int) := by rw [IntKind.wrap_i64]; omega
        clear hbr hqn
        go_wp2_with fail
        go_quiet (fail)
        go_wp2_with fail
        go_roundg (N - (k + 1))
        case measure => rw [G2.out]; omega
        case rel => exact ⟨k + 1, by omega, rfl, by go_num, by rw [upto_nobit HB.out]; exact HOWN.out, below_drewN hbw _⟩
    · obtain rfl : k = N := by omega
      have t0 : decide ((k : Int) < 4096) = false := by have := HNN.out; simp; omega
      rw [HL.out] at HOWN
      go_wp2_with fail
      go_ret
      exact ⟨_, _, V_length _, rfl, HOWN.out, hbw⟩
theorem pad_eq (A : List Nat) (q j : Nat) (h1 : j ≤ q + 1 - A.length) (h2 : ¬ A.length + j ≤ q) : A ++ List.replicate j 0 = pad A (q + 1) := by
  unfold pad; congr 2; omega
theorem vints_V_zero (A : List Nat) (j : Nat) : vints .u64 (V (A ++ List.replicate j 0)) ++ #[Value.int .u64 0].toList = vints .u64 (V (A ++ List.replicate (j + 1) 0)) := by
  rw [List.replicate_succ', ← List.append_assoc]
  exact vints_V_snoc _ 0
theorem vints_V_set (A : List Nat) (j x : Nat) : (vints .u64 (V A)).set j (.int .u64 (x : Int)) = vints .u64 (V (A.set j x)) := by simp [vints, V, List.map_set]
theorem vints_V_get (A : List Nat) (j : Nat) (h : j < A.length) : (vints .u64 (V A))[j]? = some (.int .u64 ((A.getD j 0 : Nat) : Int)) := by
  rw [vints_get .u64 _ j (by rw [V_length]; exact h), V_getD]
def WordsRes (A : List Nat) (w : World) (e : Ending) (w' : World) : Prop := ∃ v n, A.length = n ∧ e = .returned v ∧ w'.ownsRow w.heap.size 26 1 v n (vints .u64 (V A)) ∧ Below w.heap.size w w'

set_option maxHeartbeats 8000000 in
theorem ref_SetOf (l : List Int) (a : Option Addr) (n c : Nat) (hn : l.length = n) (h1 : n ≤ 17592186044416) (w : World) (hz : IntsAt .i64 w a l) :
    Calls Try.prog 23 #[.slice a n c] w (WordsRes (setN l) w) := by
  have HN := Lib.hid hn
  have HZ := Lib.hid hz
  clear hn hz
  go_enter Try.func23, Try.ntmps23
  go_wp2_with fail
  go_loopg [3, 5, 8] n (fun gk v3 _ vi wx => ∃ (k : Nat) (A : List Nat), k ≤ n ∧ gk = n - k ∧ vi = .int .i64 k ∧ A = setN (l.take k) ∧ wx.ownsRow w.heap.size 26 1 v3 A.length (vints .u64 (V A)) ∧ Below w.heap.size w wx)
  case atStart => exact ⟨0, [], Nat.zero_le _, rfl, rfl, rfl, World.ownsRow_nil _ _ _ _, Below.refl _ _⟩
  case round =>
    obtain ⟨k, A, hk, g2, rfl, hA, hown, hbw⟩ := hrel
    have G2 := Lib.hid g2
    have HOWN := Lib.hid hown
    have HAA := Lib.hid hA
    have HC := Lib.hid (show Canon A by rw [hA]; exact set_canon _)
    clear g2 hown hA
    by_cases hlt : k < n
    · obtain ⟨x, rfl, hx, hc⟩ := (HZ.out.below hbw) (by rw [HN.out]; omega)
      have hck := hc k (by rw [HN.out]; exact hlt)
      obtain ⟨i, hi⟩ : ∃ i, i = l.getD k 0 := ⟨_, rfl⟩
      rw [← hi] at hck
      have hst : setN (l.take (k + 1)) = addN A i := by
        have : l.take (k + 1) = l.take k ++ [i] := by
          rw [List.take_succ_eq_append_getElem (by rw [HN.out]; exact hlt), hi, List.getD_eq_getElem?_getD, List.getElem?_eq_getElem (by rw [HN.out]; exact hlt)]; rfl
        rw [this, HAA.out]; simp [setN]
      have HST := Lib.hid hst
      clear hc hi hst
      by_cases c1 : i < 0
      · have HE := Lib.hid (show A = addN A i by unfold addN; rw [if_pos (.inl c1)])
        go_wp2_with fail
        go_roundg (n - (k + 1))
        case measure => rw [G2.out]; omega
        case rel => exact ⟨k + 1, A, by omega, rfl, by go_num, by rw [HST.out]; exact HE.out, HOWN.out, hbw⟩
      · by_cases c2 : 4096 ≤ i
        · have HE := Lib.hid (show A = addN A i by unfold addN; rw [if_pos (.inr c2)])
          go_wp2_with fail
          go_roundg (n - (k + 1))
          case measure => rw [G2.out]; omega
          case rel => exact ⟨k + 1, A, by omega, rfl, by go_num, by rw [HST.out]; exact HE.out, HOWN.out, hbw⟩
        · obtain ⟨q, hq⟩ : ∃ q, q = i.toNat / 64 := ⟨_, rfl⟩
          obtain ⟨r, hr⟩ : ∃ r, r = i.toNat % 64 := ⟨_, rfl⟩
          have hr64 : r < 64 := by omega
          have hq64 : q < 64 := by omega
          have eq1 : i / 64 = (q : Int) := by omega
          have er1 : i % 64 = (r : Int) := by omega
          have er2 : i.tmod 64 = (r : Int) := by rw [Int.tmod_eq_emod_of_nonneg (by omega)]; exact er1
          have HADD := Lib.hid (show addN A i = addW (pad A (q + 1)) q r by unfold addN; rw [if_neg (by omega), ← hq, ← hr])
          obtain ⟨L, hL⟩ : ∃ L, L = A.length := ⟨_, rfl⟩
          have hL64 : L ≤ 64 := by rw [hL]; exact HC.out.1
          rw [← hL] at HOWN
          have HLL := Lib.hid hL
          obtain ⟨wo, rfl⟩ : ∃ wo : World, wo = wr := ⟨_, rfl⟩
          clear hq hr hL
          go_wp2_with fail
          go_loopg [3] (q + 1 - L) (fun gk v3 wx => ∃ (j m : Nat), j ≤ q + 1 - L ∧ gk = q + 1 - m ∧ m = L + j ∧ wx.ownsRow w.heap.size 26 1 v3 m (vints .u64 (V (A ++ List.replicate j 0))) ∧ Below w.heap.size w wx)
          case atStart => exact ⟨0, L, Nat.zero_le _, rfl, rfl, by simpa using HOWN.out, hbw⟩
          case round =>
            obtain ⟨j, m, hj, g3, hm, hown2, hbw2⟩ := hrel
            have G3 := Lib.hid g3
            have HOWN2 := Lib.hid hown2
            have HM := Lib.hid hm
            obtain ⟨ra, rc, rfl⟩ := own_slice hown2
            have hm64 : m ≤ 70 := by omega
            clear g3 hown2
            by_cases c3 : m ≤ q
            · clear hm
              have HE := Lib.hid hbw2.size
              go_wp2_with (at_builtin; go_must (refine wpList_append_new rfl _ _ 22 rfl w.heap.size 26 (.int .u64 0) 1 8 Try.underlying22 (by kernel_rfl) rfl (by decide) _ _ _ rfl HOWN2.out _ _ rfl rfl rfl (by omega) (by decide) HE.out ?_))
              intro g2 cap w2 hown3 hg2 _ _
              rw [vints_V_zero] at hown3
              have hb2 : Below w.heap.size w w2 := hbw2.grown hg2 HE.out (fun j hj => (own_lt HOWN2.out j hj).1)
              have HOWN3 := Lib.hid hown3
              clear hown3 hg2
              go_wp2_with fail
              go_roundg (q + 1 - (m + 1))
              case measure => rw [G3.out]; omega
              case rel => exact ⟨j + 1, m + 1, by have := HM.out; omega, rfl, by have := HM.out; omega, HOWN3.out, hb2⟩
            · have hpad := pad_eq A q j (by rw [← HLL.out]; exact hj) (by rw [← HLL.out]; omega)
              obtain ⟨B, hB⟩ : ∃ B, B = pad A (q + 1) := ⟨_, rfl⟩
              rw [hpad, ← hB] at HOWN2
              have hBl : B.length = m := by
                have := HOWN2.out.1
                rw [vints_length, V_length] at this
                omega
              rcases HOWN2.out.2 with ⟨hv, h0⟩ | ⟨g, cap, cur, hv, _⟩
              · omega
              injection hv with hv1 hv2 hv3
              subst hv1; subst hv3
              have hqm : q < m := by omega
              have hcell := HOWN2.out.cellAt q (by omega)
              rw [vints_V_get _ _ (by rw [hBl]; exact hqm)] at hcell
              have hfr := HOWN2.out.frozenAt q
              obtain ⟨X, hX⟩ : ∃ X, X = B.getD q 0 := ⟨_, rfl⟩
              rw [← hX] at hcell
              have hX64 : X < 18446744073709551616 := by rw [hX, hB]; exact (pad_words HC.out.2.1 _).getD q
              have q0 : (0 : Int) ≤ (q : Int) := by omega
              have q1 : (q : Int) < (m : Int) := by omega
              have hpw := lt64 hr64
              obtain ⟨P, hP⟩ : ∃ P, P = 2 ^ r := ⟨_, rfl⟩
              obtain ⟨Y, hY⟩ : ∃ Y, Y = X / 2 ^ r := ⟨_, rfl⟩
              have e1 : IntKind.u64.wrap ((2 : Int) ^ r) = (P : Int) := by
                have e : ((2 : Int) ^ r) = ((2 ^ r : Nat) : Int) := by simp
                rw [e, W64.u_in _ hpw, hP]
              have e2 : (X : Int) / (P : Int) = (Y : Int) := by rw [hP, hY]; simp
              have P0 : (P : Int) ≠ 0 := by have := Nat.two_pow_pos r; omega
              have hY64 : Y < 18446744073709551616 := by rw [hY]; exact Nat.lt_of_le_of_lt (Nat.div_le_self _ _) hX64
              have e3 : IntKind.u64.wrap (Y : Int) = (Y : Int) := W64.u_in Y hY64
              have hT : Y % 2 = (X.testBit r).toNat := by rw [hY, bit_num]
              have e4 : (Y : Int).tmod 2 = ((X.testBit r).toNat : Int) := by rw [Int.tmod_eq_emod_of_nonneg (by omega), ← hT]; omega
              have HAW := Lib.hid (show addW B q r = if X.testBit r then B else B.set q (X + P) by
                unfold addW
                rw [bit_num, ← hX, hP]
                cases X.testBit r <;> rfl)
              have HPR := Lib.hid (And.intro hP (And.intro hX hB))
              rw [← hB] at HADD
              cases hbb : X.testBit r with
              | true =>
                rw [hbb] at HAW e4
                have e5 : (Y : Int).tmod 2 = 1 := e4
                have HE := Lib.hid (show B = setN (l.take (k + 1)) by rw [HST.out, HADD.out, HAW.out]; rfl)
                clear hbb hX hP hY hT e4 hpad hB hm
                go_wp2_with fail
                go_quiet (fail)
                go_wp2_with fail
                go_roundg (n - (k + 1))
                case measure => rw [G2.out]; omega
                case rel => exact ⟨k + 1, B, by omega, rfl, by go_num, HE.out, by rw [hBl]; exact HOWN2.out, below_drewN hbw2 _⟩
              | false =>
                rw [hbb] at HAW e4
                have e5 : (Y : Int).tmod 2 = 0 := e4
                have hZ64 : X + P < 18446744073709551616 := by
                  rw [hP, addbit _ _ hbb]; exact Nat.or_lt_two_pow (n := 64) hX64 hpw
                have e6 : IntKind.u64.wrap ((X : Int) + (P : Int)) = ((X + P : Nat) : Int) := by
                  have := W64.u_in (X + P) hZ64
                  rw [← this]; rfl
                obtain ⟨Z, hZZ⟩ : ∃ Z, Z = X + P := ⟨_, rfl⟩
                rw [← hZZ] at e6 HAW
                have HE := Lib.hid (show B.set q Z = setN (l.take (k + 1)) by rw [HST.out, HADD.out, HAW.out]; rfl)
                clear hbb hX hP hY hT e4 hpad hB hm hZZ
                go_wp2_with fail
                go_quiet (fail)
                go_wp2_with fail
                go_region
                have hrow : (wr.drewN (nq + 1)).ownsRow w.heap.size 26 1 (.slice (some ⟨g, 0, none⟩) m rc) m (vints .u64 (V B)) := own_below HOWN2.out (below_drewN (Below.refl _ _) _)
                have hst := (hrow.stored q (.int .u64 (Z : Int))).1
                rw [vints_V_set] at hst
                have hb3 : Below w.heap.size w ((wr.drewN (nq + 1)).setCell ⟨g, q, none⟩ (.int .u64 (Z : Int))) := (below_drewN hbw2 _).setCell (p := ⟨g, q, none⟩) (own_lt HOWN2.out g rfl).1 _
                have HS3 := Lib.hid hst
                have HL3 := Lib.hid (show (B.set q Z).length = m by rw [List.length_set, hBl])
                clear hrow hst
                go_wp2_with fail
                go_roundg (n - (k + 1))
                case measure => rw [G2.out]; omega
                case rel => exact ⟨k + 1, B.set q Z, by omega, rfl, by go_num, HE.out, by rw [HL3.out]; exact HS3.out, hb3⟩
    · have hall : l.take k = l := List.take_of_length_le (by rw [HN.out]; omega)
      rw [hall] at HAA
      clear hall
      go_wp2_with fail
      go_ret
      exact ⟨_, _, by rw [← HAA.out], rfl, by rw [← HAA.out]; exact HOWN.out, hbw⟩
end Go.Proofs.Ytlahmcbaiebapaa
